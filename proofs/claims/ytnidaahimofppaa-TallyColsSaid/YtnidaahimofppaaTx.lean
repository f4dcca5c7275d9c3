/- Texts as lists of bytes; small words for walks. -/
import Derived.Test.YtnidaahimofppaaProg
import Derived.Test.YtnidaahimofppaaOwnS
import Derived.WalkLawsBesides
import Derived.WalkSpells
import Derived.Lib.Hide
import Derived.Lib.Strings
import Derived.Handy
import Derived.Deep.QuietTactic
import Derived.BigQuiet
import Derived.Deep.LoopGhost
import Derived.Lib.IndexBytes
import Derived.WideShapes
namespace Go.Proofs.Ytnidaahimofppaa
open Go.RowKit
set_option linter.unusedVariables false
set_option linter.unusedSimpArgs false

/-- A text's bytes. -/
abbrev tx (s : ByteArray) : List UInt8 := s.data.toList
theorem tx_len (s : ByteArray) : (tx s).length = s.size := by rw [tx, Array.length_toList]; rfl
theorem tx_get (s : ByteArray) (i : Nat) (hi : i < s.size) : (tx s)[i]? = some s[i] := by
  rw [tx, Array.getElem?_toList]
  exact Array.getElem?_eq_getElem (xs := s.data) hi
theorem tx_cut (s : ByteArray) (a b : Nat) : tx (s.extract a b) = ((tx s).drop a).take (b - a) := Lib.extract_data s a b
theorem tx_take (s : ByteArray) (n : Nat) : tx (s.extract 0 n) = (tx s).take n := by rw [tx_cut]; simp
theorem tx_drop (s : ByteArray) (n : Nat) : tx (s.extract n s.size) = (tx s).drop n := by
  rw [tx_cut, List.take_of_length_le]
  rw [List.length_drop, tx_len]; exact Nat.le_refl _
theorem tx_toList (s : ByteArray) : s.toList = tx s := Lib.toList_data s
theorem tx_inj {a b : ByteArray} (h : tx a = tx b) : a = b := Go.WideShapes.bytes_inj h
theorem tx_eqb (s : ByteArray) (l : List UInt8) : (s.toList == l) = decide (tx s = l) := by rw [tx_toList]; exact Bool.eq_iff_iff.2 (by simp)
theorem tx_dropc (s : ByteArray) (i : Nat) (hi : i < s.size) : (tx s).drop i = s[i] :: (tx s).drop (i + 1) := by
  have hl : i < (tx s).length := by rw [tx_len]; exact hi
  rw [List.drop_eq_getElem_cons hl]
  have h1 := tx_get s i hi
  rw [List.getElem?_eq_getElem hl] at h1
  injection h1 with h1
  rw [h1]
theorem tx_cons (s : ByteArray) (h0 : 0 < s.size) : ∃ t, tx s = s[0] :: t ∧ tx (s.extract 1 s.size) = t := by
  have h := tx_dropc s 0 h0
  rw [List.drop_zero] at h
  exact ⟨_, h, tx_drop s 1⟩
theorem tx_nil {s : ByteArray} (h : s.size = 0) : tx s = [] := List.eq_nil_of_length_eq_zero (by rw [tx_len, h])
theorem isE_yes {s : ByteArray} (h : s.size = 0) : s.toList.isEmpty = true := by rw [tx_toList, tx_nil h]; rfl
theorem isE_no {s : ByteArray} (h : 0 < s.size) : s.toList.isEmpty = false := by
  obtain ⟨t, ht, _⟩ := tx_cons s h
  rw [tx_toList, ht]; rfl
theorem isE_tx (s : ByteArray) : s.toList.isEmpty = decide (tx s = []) := by
  rw [tx_toList]
  cases tx s <;> simp
theorem u8_back (b : UInt8) : (((b.toNat : Nat) : Int)).toNat.toUInt8 = b := by simp
theorem u8_eq {b c : UInt8} : ((b.toNat : Int) == (c.toNat : Int)) = decide (b = c) := by
  rw [Bool.eq_iff_iff]
  simp only [beq_iff_eq, decide_eq_true_eq]
  constructor
  · intro h; exact UInt8.toNat_inj.1 (by omega)
  · rintro rfl; rfl
theorem less_step {n i : Nat} (hw : wrap64 ((i : Int) + 1) = (i : Int) + 1) (h : i < n) : n - (intOf (.int .i64 (wrap64 ((i : Int) + 1)))).toNat < n - (intOf (.int .i64 (i : Int))).toNat := by
  rw [hw]
  simp only [intOf]
  omega
/-- A text of these bytes. -/
def bs (l : List UInt8) : ByteArray := ⟨l.toArray⟩
theorem tx_bs (l : List UInt8) : tx (bs l) = l := by simp [tx, bs]
theorem bs_tx (s : ByteArray) : bs (tx s) = s := tx_inj (tx_bs _)
theorem bs_size (l : List UInt8) : (bs l).size = l.length := by rw [← tx_len, tx_bs]
theorem bs_app (l m : List UInt8) : bs l ++ bs m = bs (l ++ m) := tx_inj (by simp [tx, bs])
def nums (l : List UInt8) : List Int := l.map (fun b => (b.toNat : Int))
theorem nums_app (l m : List UInt8) : nums (l ++ m) = nums l ++ nums m := by simp [nums]
theorem strOf_nums (l : List UInt8) : strOfNums (nums l) = bs l := by
  have : ((nums l).map fun n => UInt8.ofNat n.toNat) = l := by
    simp only [nums, List.map_map]
    refine (List.map_congr_left (fun u _ => ?_)).trans (List.map_id _)
    simp
  simp only [strOfNums, this, bs]
end Go.Proofs.Ytnidaahimofppaa
