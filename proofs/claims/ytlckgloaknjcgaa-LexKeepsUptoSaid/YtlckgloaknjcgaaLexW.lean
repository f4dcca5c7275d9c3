/- Layer 19 (lex): the program's functions on one text, walked. -/
import Derived.Test.YtlckgloaknjcgaaProg
import Derived.Test.YtlckgloaknjcgaaShelf
import Derived.Test.YtlckgloaknjcgaaOwnS
import Derived.Test.YtlckgloaknjcgaaLexP
import Derived.WalkLawsBesides
import Derived.WalkSpells
import Derived.Lib.Hide
import Derived.Lib.Strings
import Derived.Handy
import Derived.Deep.QuietTactic
import Derived.BigQuiet
import Derived.Deep.LoopGhost
import Derived.Lib.IndexBytes
import Derived.WideShapes
namespace Go.Proofs.Ytlckgloaknjcgaa
open Go.RowKit
set_option linter.unusedVariables false
set_option linter.unusedSimpArgs false

/-- A text's bytes. -/
abbrev tx (s : ByteArray) : Bs := s.data.toList
theorem tx_len (s : ByteArray) : (tx s).length = s.size := by rw [tx, Array.length_toList]; rfl
theorem tx_get (s : ByteArray) (i : Nat) (hi : i < s.size) : (tx s)[i]? = some s[i] := by
  rw [tx, Array.getElem?_toList]
  exact Array.getElem?_eq_getElem (xs := s.data) hi
theorem tx_cut (s : ByteArray) (a b : Nat) : tx (s.extract a b) = ((tx s).drop a).take (b - a) := Lib.extract_data s a b
theorem tx_take (s : ByteArray) (n : Nat) : tx (s.extract 0 n) = (tx s).take n := by rw [tx_cut]; simp
theorem tx_drop (s : ByteArray) (n : Nat) : tx (s.extract n s.size) = (tx s).drop n := by
  rw [tx_cut, List.take_of_length_le]
  rw [List.length_drop, tx_len]; exact Nat.le_refl _
theorem tx_toList (s : ByteArray) : s.toList = tx s := Lib.toList_data s
theorem tx_inj {a b : ByteArray} (h : tx a = tx b) : a = b := Go.WideShapes.bytes_inj h
theorem tx_eqb (s : ByteArray) (l : Bs) : (s.toList == l) = decide (tx s = l) := by rw [tx_toList]; exact Bool.eq_iff_iff.2 (by simp)
theorem u8_back (b : UInt8) : (((b.toNat : Nat) : Int)).toNat.toUInt8 = b := by simp

theorem letter_any (b : UInt8) (w : World) : Calls Try.prog 25 #[.int .u8 (b.toNat : Int)] w (fun e w' => e = .returned (.bool (isL b)) ∧ w = w') := by
  go_enter Try.func25, Try.ntmps25
  go_wp2
  all_goals (go_ret; refine ⟨?_, rfl⟩; apply congrArg Ending.returned; apply congrArg Value.bool; rw [Bool.eq_iff_iff]; simp [isL]; try omega)
theorem digit_any (b : UInt8) (w : World) : Calls Try.prog 28 #[.int .u8 (b.toNat : Int)] w (fun e w' => e = .returned (.bool (isD b)) ∧ w = w') := by
  go_enter Try.func28, Try.ntmps28
  go_wp2
  all_goals (go_ret; refine ⟨?_, rfl⟩; apply congrArg Ending.returned; apply congrArg Value.bool; rw [Bool.eq_iff_iff]; simp [isD]; try omega)
theorem rletter_any (b : UInt8) (w : World) : Calls Try.prog 22 #[.int .u8 (b.toNat : Int)] w (fun e w' => e = .returned (.bool (isL b)) ∧ w = w') := by
  go_enter Try.func22, Try.ntmps22
  go_wp2
  all_goals (go_ret; refine ⟨?_, rfl⟩; apply congrArg Ending.returned; apply congrArg Value.bool; rw [Bool.eq_iff_iff]; simp [isL]; try omega)
theorem rdigit_any (b : UInt8) (w : World) : Calls Try.prog 23 #[.int .u8 (b.toNat : Int)] w (fun e w' => e = .returned (.bool (isD b)) ∧ w = w') := by
  go_enter Try.func23, Try.ntmps23
  go_wp2
  all_goals (go_ret; refine ⟨?_, rfl⟩; apply congrArg Ending.returned; apply congrArg Value.bool; rw [Bool.eq_iff_iff]; simp [isD]; try omega)
theorem alnum_any (b : UInt8) (w : World) : Calls Try.prog 27 #[.int .u8 (b.toNat : Int)] w (fun e w' => e = .returned (.bool (isA b)) ∧ w = w') := by
  go_enter Try.func27, Try.ntmps27
  have e1 : isA b = (isL b || isD b) := rfl
  rw [e1]
  clear e1
  cases hl : isL b with
  | true =>
    go_wp2_with (first | (go_at_call 25; refine (letter_any b _).mono ?_; rintro e w1 ⟨rfl, rfl⟩; rewrite [hl]) | (go_at_call 28; refine (digit_any b _).mono ?_; rintro e w1 ⟨rfl, rfl⟩))
    go_ret
    exact ⟨rfl, rfl⟩
  | false =>
    go_wp2_with (first | (go_at_call 25; refine (letter_any b _).mono ?_; rintro e w1 ⟨rfl, rfl⟩; rewrite [hl]) | (go_at_call 28; refine (digit_any b _).mono ?_; rintro e w1 ⟨rfl, rfl⟩))
    go_ret
    exact ⟨by simp, rfl⟩
theorem ones_ix (l : Bs) (b : UInt8) : (0 ≤ Lib.indexByte l b) ↔ b ∈ l := by
  induction l with
  | nil => simp [Lib.indexByte]
  | cons c t ih =>
    have := Lib.indexByte_ge t b
    simp only [Lib.indexByte]
    by_cases h : c = b
    · subst h; simp
    · rw [if_neg (by simpa using h)]
      have hm : (b ∈ c :: t) ↔ b ∈ t := by simp [Ne.symm h]
      rw [hm, ← ih]
      by_cases h1 : Lib.indexByte t b = -1
      · simp [h1]
      · rw [if_neg (by simpa using h1)]; omega
theorem quote_ix (t : Bs) : Lib.indexByte t 39 = (match quoteB t with | none => -1 | some e => (e : Int)) := by
  induction t with
  | nil => rfl
  | cons c t ih =>
    simp only [Lib.indexByte, quoteB]
    by_cases h : c = 39
    · subst h; rfl
    · rw [if_neg (by simpa using h), if_neg h, ih]
      cases quoteB t with
      | none => rfl
      | some e => simp

theorem sign_any (s : ByteArray) (h0 : 0 < s.size) (w : World) : Calls Try.prog 30 #[.string s] w (fun e w' => e = .returned (.int .i64 (signB (tx s) : Int)) ∧ w = w') := by
  have f1 := tx_eqb (s.extract 0 2) [60, 62]
  have f2 := tx_eqb (s.extract 0 2) [60, 61]
  have f3 := tx_eqb (s.extract 0 2) [62, 61]
  have f4 := tx_eqb (s.extract 0 2) [43, 43]
  rw [tx_take] at f1 f2 f3 f4
  have hlen := tx_len s
  by_cases h2 : (tx s).take 2 ∈ two
  · have hs : 2 ≤ s.size := by have := (two_signs h2).2; rw [List.length_take, hlen] at this; omega
    have hv : Kept (signB (tx s) = 2) := ⟨by unfold signB; rw [if_pos h2]⟩
    clear hlen
    have hm : (tx s).take 2 = [60, 62] ∨ (tx s).take 2 = [60, 61] ∨ (tx s).take 2 = [62, 61] ∨ (tx s).take 2 = [43, 43] := by simpa [two] using h2
    have hs' : 2 ≤ (s.size : Int) := by omega
    clear h2
    go_enter Try.func30, Try.ntmps30
    rcases hm with hm | hm | hm | hm
    all_goals
      rw [hm] at f1 f2 f3 f4
      simp only [List.cons.injEq, and_true, and_self, decide_true, decide_eq_false_iff_not] at f1 f2 f3 f4
      clear hm
      go_wp2_with fail
      go_ret
      exact ⟨by rw [hv.out]; rfl, rfl⟩
  · have n1 : decide ((tx s).take 2 = [60, 62]) = false := decide_eq_false (fun h => h2 (by rw [h]; decide))
    have n2 : decide ((tx s).take 2 = [60, 61]) = false := decide_eq_false (fun h => h2 (by rw [h]; decide))
    have n3 : decide ((tx s).take 2 = [62, 61]) = false := decide_eq_false (fun h => h2 (by rw [h]; decide))
    have n4 : decide ((tx s).take 2 = [43, 43]) = false := decide_eq_false (fun h => h2 (by rw [h]; decide))
    rw [n1] at f1
    rw [n2] at f2
    rw [n3] at f3
    rw [n4] at f4
    clear n1 n2 n3 n4
    have hv : Kept (signB (tx s) = if s[0] ∈ ones then 1 else 0) := ⟨by
      unfold signB
      rw [if_neg h2]
      cases hl : tx s with
      | nil => rw [hl] at hlen; simp at hlen; omega
      | cons b t =>
        have := tx_get s 0 h0
        rw [hl] at this
        simp at this
        subst this
        rfl⟩
    clear h2 hlen
    go_enter Try.func30, Try.ntmps30
    have ho := ones_ix ones s[0]
    have hu := u8_back s[0]
    have HO := Kept.mk ho
    clear ho
    by_cases ci : s[0] ∈ ones
    · have h1 : 0 ≤ Lib.indexByte ones s[0] := HO.out.2 ci
      have hv2 : Kept (signB (tx s) = 1) := ⟨by rw [hv.out, if_pos ci]⟩
      clear ci
      go_wp2_with (first | (go_at_call 29; refine (Try.strings_IndexByte _ _ _).mono ?_; rintro e w1 ⟨rfl, rfl⟩; rewrite [hu]; rewrite [show ([61, 60, 62, 43, 45, 42, 47, 37, 40, 41, 44] : Bs) = ones from rfl]))
      all_goals (go_ret; exact ⟨by rw [hv2.out]; rfl, rfl⟩)
    · have h1 : ¬ 0 ≤ Lib.indexByte ones s[0] := fun h => ci (HO.out.1 h)
      have hv2 : Kept (signB (tx s) = 0) := ⟨by rw [hv.out, if_neg ci]⟩
      clear ci
      go_wp2_with (first | (go_at_call 29; refine (Try.strings_IndexByte _ _ _).mono ?_; rintro e w1 ⟨rfl, rfl⟩; rewrite [hu]; rewrite [show ([61, 60, 62, 43, 45, 42, 47, 37, 40, 41, 44] : Bs) = ones from rfl]))
      all_goals (go_ret; exact ⟨by rw [hv2.out]; rfl, rfl⟩)

theorem run_at (p : UInt8 → Bool) (l : Bs) (i : Nat) (hi : i ≤ runB p l) (b : UInt8) (hb : l[i]? = some b) : p b = true ↔ i < runB p l := by
  induction l generalizing i with
  | nil => simp at hb
  | cons c t ih =>
    cases i with
    | zero =>
      simp at hb
      subst hb
      cases h : p c with
      | false => simp [runB, h]
      | true => simp [runB, h]
    | succ i =>
      simp at hb
      simp only [runB] at hi ⊢
      by_cases h : p c = true
      · rw [if_pos h] at hi ⊢
        rw [ih i (by omega) hb]
        omega
      · rw [if_neg h] at hi; omega
theorem less_step {n i : Nat} (hw : wrap64 ((i : Int) + 1) = (i : Int) + 1) (h : i < n) : n - (intOf (.int .i64 (wrap64 ((i : Int) + 1)))).toNat < n - (intOf (.int .i64 (i : Int))).toNat := by
  rw [hw]
  simp only [intOf]
  omega
def RunIA (l : Bs) (v5 : Value) (wr w : World) : Prop := ∃ i : Nat, v5 = .int .i64 (i : Int) ∧ wr = w ∧ Kept (i ≤ runB isA l)
set_option maxRecDepth 100000 in
theorem runA_any (s : ByteArray) (hs : s.size ≤ 140737488355328) (w : World) : Calls Try.prog 26 #[.string s, .func (.func 27) #[] #[]] w (fun e w' => e = .returned (.int .i64 (runB isA (tx s) : Int)) ∧ w = w') := by
  have hr := run_le isA (tx s)
  rw [tx_len] at hr
  have HR := Kept.mk hr
  have HS := Kept.mk hs
  clear hr hs
  go_enter Try.func26, Try.ntmps26
  go_wp2
  go_loopw [5] (fun v5 wr => RunIA (tx s) v5 wr w) (fun v5 wr => s.size - (intOf v5).toNat)
  case atStart => exact ⟨0, rfl, rfl, ⟨Nat.zero_le _⟩⟩
  case round =>
    obtain ⟨i, rfl, rfl, HI⟩ := hrel
    by_cases ci : i < s.size
    · have hb := run_at isA (tx s) i HI.out s[i] (tx_get s i ci)
      have ci' : (i : Int) < (s.size : Int) := by omega
      have hw : wrap64 ((i : Int) + 1) = (i : Int) + 1 := by have := HS.out; simp only [wrap64]; omega
      have f0 : 0 ≤ (i : Int) := by omega
      by_cases cr : i < runB isA (tx s)
      · have hb' : isA s[i] = true := hb.2 cr
        have HC := Kept.mk cr
        clear hb cr
        go_wp2_with (first | (go_at_call 27; refine (alnum_any _ _).mono ?_; rintro e w1 ⟨rfl, rfl⟩; rewrite [hb']))
        go_roundw
        case rel => exact ⟨i + 1, by rw [hw]; rfl, rfl, ⟨HC.out⟩⟩
        case measure => exact less_step hw ci
      · have hb' : isA s[i] = false := by cases e : isA s[i] with | false => rfl | true => exact absurd (hb.1 e) cr
        have he : Kept (runB isA (tx s) = i) := ⟨by have := HI.out; omega⟩
        clear hb cr
        go_wp2_with (first | (go_at_call 27; refine (alnum_any _ _).mono ?_; rintro e w1 ⟨rfl, rfl⟩; rewrite [hb']))
        go_ret
        exact ⟨by rw [he.out]; rfl, rfl⟩
    · have he : Kept (runB isA (tx s) = i) := ⟨by have := HI.out; have := HR.out; omega⟩
      have ci' : ¬ ((i : Int) < (s.size : Int)) := by omega
      clear ci
      go_wp2_with fail
      go_ret
      exact ⟨by rw [he.out]; rfl, rfl⟩

def RunID (l : Bs) (v5 : Value) (wr w : World) : Prop := ∃ i : Nat, v5 = .int .i64 (i : Int) ∧ wr = w ∧ Kept (i ≤ runB isD l)
set_option maxRecDepth 100000 in
theorem runD_any (s : ByteArray) (hs : s.size ≤ 140737488355328) (w : World) : Calls Try.prog 26 #[.string s, .func (.func 28) #[] #[]] w (fun e w' => e = .returned (.int .i64 (runB isD (tx s) : Int)) ∧ w = w') := by
  have hr := run_le isD (tx s)
  rw [tx_len] at hr
  have HR := Kept.mk hr
  have HS := Kept.mk hs
  clear hr hs
  go_enter Try.func26, Try.ntmps26
  go_wp2
  go_loopw [5] (fun v5 wr => RunID (tx s) v5 wr w) (fun v5 wr => s.size - (intOf v5).toNat)
  case atStart => exact ⟨0, rfl, rfl, ⟨Nat.zero_le _⟩⟩
  case round =>
    obtain ⟨i, rfl, rfl, HI⟩ := hrel
    by_cases ci : i < s.size
    · have hb := run_at isD (tx s) i HI.out s[i] (tx_get s i ci)
      have ci' : (i : Int) < (s.size : Int) := by omega
      have hw : wrap64 ((i : Int) + 1) = (i : Int) + 1 := by have := HS.out; simp only [wrap64]; omega
      have f0 : 0 ≤ (i : Int) := by omega
      by_cases cr : i < runB isD (tx s)
      · have hb' : isD s[i] = true := hb.2 cr
        have HC := Kept.mk cr
        clear hb cr
        go_wp2_with (first | (go_at_call 28; refine (digit_any _ _).mono ?_; rintro e w1 ⟨rfl, rfl⟩; rewrite [hb']))
        go_roundw
        case rel => exact ⟨i + 1, by rw [hw]; rfl, rfl, ⟨HC.out⟩⟩
        case measure => exact less_step hw ci
      · have hb' : isD s[i] = false := by cases e : isD s[i] with | false => rfl | true => exact absurd (hb.1 e) cr
        have he : Kept (runB isD (tx s) = i) := ⟨by have := HI.out; omega⟩
        clear hb cr
        go_wp2_with (first | (go_at_call 28; refine (digit_any _ _).mono ?_; rintro e w1 ⟨rfl, rfl⟩; rewrite [hb']))
        go_ret
        exact ⟨by rw [he.out]; rfl, rfl⟩
    · have he : Kept (runB isD (tx s) = i) := ⟨by have := HI.out; have := HR.out; omega⟩
      have ci' : ¬ ((i : Int) < (s.size : Int)) := by omega
      clear ci
      go_wp2_with fail
      go_ret
      exact ⟨by rw [he.out]; rfl, rfl⟩

end Go.Proofs.Ytlckgloaknjcgaa
