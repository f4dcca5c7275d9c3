/- Plain words on bytes (no program in sight): a number's groups, and a reader of groups, numbers and texts. -/
import Derived.RowKit
import Derived.WalkKit
import Derived.WalkSmall
import Derived.Below
import Derived.Maps.AppendAt
import Derived.Laws.OwnMore
import Derived.Laws.AppendOwn
import Derived.Lib.ConvBytes
import Derived.Laws.BytesArg
import Derived.OwnWalk
import Derived.Test.YtnidaahimofppaaGreatProg
import Derived.WalkLawsBesides
import Derived.Lib.Hide
import Derived.Handy
import Derived.Deep.QuietTactic
import Derived.BigQuiet
import Derived.Deep.LoopGhost
import Derived.Lib.AppendStr
import Derived.Lib.Zigzag
import Derived.Laws.Bits64
import Derived.Shelf.Small.Strs
import Derived.Shelf.Bits.Mul64
import Derived.Laws.ComplexArith
import Derived.WalkSpells
import Derived.Lib.Strings
import Derived.Lib.IndexBytes
import Derived.WideShapes
import Derived.Lib.Bytealg
namespace Go.Proofs.YtnidaahimofppaaGreat
set_option linter.unusedVariables false
set_option linter.unusedSimpArgs false

/-- A number's bytes. -/
def enc (x : Nat) : List Int := if h : x < 128 then [(x : Int)] else ((x % 128 + 128 : Nat) : Int) :: enc (x / 128)
termination_by x
decreasing_by omega
theorem enc_low {x : Nat} (h : x < 128) : enc x = [(x : Int)] := by rw [enc, dif_pos h]
theorem enc_high {x : Nat} (h : ¬ x < 128) : enc x = ((x % 128 + 128 : Nat) : Int) :: enc (x / 128) := by rw [enc, dif_neg h]
theorem enc_ne (x : Nat) : enc x ≠ [] := by
  by_cases h : x < 128
  · rw [enc_low h]; simp
  · rw [enc_high h]; simp
theorem enc_bytes (x : Nat) : ∀ b ∈ enc x, 0 ≤ b ∧ b ≤ 255 := by
  induction x using Nat.strongRecOn with
  | ind x ih =>
    by_cases h : x < 128
    · rw [enc_low h]; intro b hb; simp at hb; omega
    · rw [enc_high h]; intro b hb
      simp only [List.mem_cons] at hb
      rcases hb with rfl | hb
      · omega
      · exact ih (x / 128) (by omega) b hb
theorem enc_len (x k : Nat) (h : x < 128 ^ (k + 1)) : (enc x).length ≤ k + 1 := by
  induction k generalizing x with
  | zero => rw [enc_low (by simpa using h)]; simp
  | succ k ih =>
    by_cases hl : x < 128
    · rw [enc_low hl]; simp
    · rw [enc_high hl]
      have := ih (x / 128) (by rw [Nat.div_lt_iff_lt_mul (by decide)]; rw [Nat.pow_succ] at h; exact h)
      simp only [List.length_cons]; omega

/-- What a reader knows: what could not be read first (0: nothing), and the bytes that are left. -/
abbrev St := Int × List Int
/-- How much is left. -/
def leftS (s : St) : Int := if s.1 = 0 then (s.2.length : Int) else 0
/-- The groups from number i on, of which there are 'most' more at most: the number and what is left, or the error. -/
def grp : Nat → Nat → List Int → Except Int (Nat × List Int)
  | 0, _, _ => .error 4
  | _ + 1, _, [] => .error 5
  | m + 1, i, b :: t =>
    if i = 9 ∧ 1 < b then .error 4
    else if b < 128 then (if b = 0 ∧ 0 < i then .error 4 else .ok (b.toNat, t))
    else match grp m (i + 1) t with
      | .ok (y, t') => .ok ((b % 128).toNat + 128 * y, t')
      | .error e => .error e
def byteS (s : St) : Int × St :=
  if s.1 ≠ 0 then (0, s) else match s.2 with
    | [] => (0, (5, []))
    | b :: t => (b, (0, t))
def grpS (most : Nat) (s : St) : Nat × St :=
  if s.1 ≠ 0 then (0, s) else match grp most 0 s.2 with
    | .ok (x, t) => (x, (0, t))
    | .error e => (0, (e, []))
def numS (s : St) : Int × St := ((grpS 9 s).1, (grpS 9 s).2)
def unzig (x : Nat) : Int := if x % 2 = 1 then -1 - ((x / 2 : Nat) : Int) else ((x / 2 : Nat) : Int)
def zig (n : Int) : Nat := if n < 0 then (2 * (-1 - n) + 1).toNat else (2 * n).toNat
def intS (s : St) : Int × St := (unzig (grpS 10 s).1, (grpS 10 s).2)
def textS (most : Int) (s : St) : List Int × St :=
  let q := grpS 9 s
  if q.2.1 ≠ 0 then ([], q.2)
  else if most < (q.1 : Int) then ([], (6, []))
  else if q.2.2.length < q.1 then ([], (5, []))
  else (q.2.2.take q.1, (0, q.2.2.drop q.1))

/-! ### what was written is read -/
theorem grp_enc (m i x : Nat) (rest : List Int) (hx : x < 128 ^ m) (h9 : i + m ≤ 10) (h64 : i + m = 10 → x < 2 ^ (7 * m - 6)) (hi : 0 < i → x ≠ 0) (hm : 0 < m) : grp m i (enc x ++ rest) = .ok (x, rest) := by
  induction m generalizing i x with
  | zero => omega
  | succ m ih =>
    by_cases h : x < 128
    · rw [enc_low h]
      simp only [List.cons_append, List.nil_append, grp]
      have e1 : ¬ (i = 9 ∧ (1 : Int) < (x : Int)) := by
        rintro ⟨rfl, h1⟩
        have hm0 : m = 0 := by omega
        subst hm0
        have := h64 rfl
        omega
      rw [if_neg e1, if_pos (by omega)]
      have e2 : ¬ ((x : Int) = 0 ∧ 0 < i) := by rintro ⟨a, b⟩; exact hi b (by omega)
      rw [if_neg e2, Int.toNat_natCast]
    · rw [enc_high h]
      simp only [List.cons_append, grp]
      have hm0 : m ≠ 0 := by rintro rfl; simp at hx; omega
      have e1 : ¬ (i = 9 ∧ (1 : Int) < ((x % 128 + 128 : Nat) : Int)) := by rintro ⟨rfl, _⟩; omega
      rw [if_neg e1, if_neg (by omega)]
      have hx' : x / 128 < 128 ^ m := by rw [Nat.div_lt_iff_lt_mul (by decide)]; rw [Nat.pow_succ] at hx; exact hx
      have k64 : i + 1 + m = 10 → x / 128 < 2 ^ (7 * m - 6) := by
        intro he
        have := h64 (by omega)
        rw [Nat.div_lt_iff_lt_mul (by decide)]
        have e : 2 ^ (7 * (m + 1) - 6) = 2 ^ (7 * m - 6) * 128 := by
          rw [show (7 * (m + 1) - 6) = (7 * m - 6) + 7 by omega, Nat.pow_add]
        omega
      rw [ih (i + 1) (x / 128) hx' (by omega) k64 (by omega) (by omega)]
      simp only [Except.ok.injEq, Prod.mk.injEq, and_true]
      omega
/-- Of what is read the bytes that were read are the number's. -/
theorem grp_back (m i : Nat) (l : List Int) (x : Nat) (t : List Int) (hl : ∀ b ∈ l, 0 ≤ b ∧ b ≤ 255) (h : grp m i l = .ok (x, t)) : l = enc x ++ t ∧ (0 < i → x ≠ 0) := by
  induction m generalizing i l x with
  | zero => simp [grp] at h
  | succ m ih =>
    cases l with
    | nil => simp [grp] at h
    | cons b r =>
      have hb := hl b (by simp)
      simp only [grp] at h
      split at h
      · cases h
      · split at h
        · split at h
          · cases h
          · rename_i h1 h2 h3
            simp only [Except.ok.injEq, Prod.mk.injEq] at h
            obtain ⟨rfl, rfl⟩ := h
            rw [enc_low (by omega)]
            refine ⟨?_, ?_⟩
            · simp only [List.cons_append, List.nil_append]
              congr 1; omega
            · intro hi hz; exact h3 ⟨by omega, hi⟩
        · rename_i h1 h2
          split at h
          · rename_i y t' he
            simp only [Except.ok.injEq, Prod.mk.injEq] at h
            obtain ⟨rfl, rfl⟩ := h
            obtain ⟨e, hy⟩ := ih (i + 1) r y (fun b hb => hl b (by simp [hb])) he
            have hy0 := hy (by omega)
            refine ⟨?_, fun _ => by omega⟩
            rw [enc_high (by omega)]
            have e1 : ((b % 128).toNat + 128 * y) / 128 = y := by omega
            have e2 : ((((b % 128).toNat + 128 * y) % 128 + 128 : Nat) : Int) = b := by omega
            rw [e1, e2, List.cons_append, ← e]
          · cases h
theorem grp_bound (m i : Nat) (l : List Int) (x : Nat) (t : List Int) (hl : ∀ b ∈ l, 0 ≤ b ∧ b ≤ 255) (hm : i + m ≤ 10) (h : grp m i l = .ok (x, t)) : x < 128 ^ m ∧ (i + m = 10 → x < 2 ^ (7 * m - 6)) := by
  induction m generalizing i l x with
  | zero => simp [grp] at h
  | succ m ih =>
    cases l with
    | nil => simp [grp] at h
    | cons b r =>
      have hb := hl b (by simp)
      simp only [grp] at h
      split at h
      · cases h
      · split at h
        · split at h
          · cases h
          · rename_i h1 h2 h3
            simp only [Except.ok.injEq, Prod.mk.injEq] at h
            obtain ⟨rfl, rfl⟩ := h
            have p1 : 1 ≤ 128 ^ m := Nat.pos_of_ne_zero (by simp)
            refine ⟨?_, ?_⟩
            · rw [Nat.pow_succ]; omega
            · intro he
              by_cases h9 : i = 9
              · have hm0 : m = 0 := by omega
                subst hm0
                have : ¬ 1 < b := fun z => h1 ⟨h9, z⟩
                omega
              · have : 2 ^ 8 ≤ 2 ^ (7 * (m + 1) - 6) := Nat.pow_le_pow_right (by decide) (by omega)
                omega
        · rename_i h1 h2
          split at h
          · rename_i y t' he
            simp only [Except.ok.injEq, Prod.mk.injEq] at h
            obtain ⟨rfl, rfl⟩ := h
            obtain ⟨e1, e2⟩ := ih (i + 1) r y (fun b hb => hl b (by simp [hb])) (by omega) he
            refine ⟨?_, ?_⟩
            · rw [Nat.pow_succ]; omega
            · intro hi
              have := e2 (by omega)
              have hm0 : m ≠ 0 := by rintro rfl; simp [grp] at he
              have e : 2 ^ (7 * (m + 1) - 6) = 2 ^ (7 * m - 6) * 128 := by
                rw [show (7 * (m + 1) - 6) = (7 * m - 6) + 7 by omega, Nat.pow_add]
              omega
          · cases h
theorem unzig_zig (n : Int) : unzig (zig n) = n := by
  unfold unzig zig
  split <;> split <;> omega
theorem zig_unzig (x : Nat) : zig (unzig x) = x := by
  unfold unzig zig
  split <;> split <;> omega
end Go.Proofs.YtnidaahimofppaaGreat

/- A world with more blocks and draws behind it: how the walk reads what lies in the old ones. (What 'Below' says, in a form that the walk computes with.) -/
namespace Go.Proofs.YtnidaahimofppaaGreat
open Go.RowKit
set_option linter.unusedVariables false
set_option linter.unusedSimpArgs false

/-- w, with the blocks r behind its own, d orders having been drawn. -/
def xw (w : World) (r : Array Obj) (d : Nat) : World := { w with heap := w.heap ++ r, drawn := d }
theorem xw_of {w w' : World} (h : Below w.heap.size w w') : ∃ r d, w' = xw w r d := by
  refine ⟨w'.heap.extract w.heap.size w'.heap.size, w'.drawn, ?_⟩
  have hh : w'.heap = w.heap ++ w'.heap.extract w.heap.size w'.heap.size := by
    apply Array.ext_getElem?
    intro i
    rw [Array.getElem?_append]
    split
    · rename_i hi; exact h.block i hi
    · rename_i hi
      rw [Array.getElem?_extract]
      have hs := h.size
      split
      · congr 1; omega
      · rename_i hj
        rw [Array.getElem?_eq_none]; omega
  unfold xw
  rw [← hh]
  obtain ⟨a, b, c, d, e⟩ := w'
  simp only [World.mk.injEq, true_and, and_true]
  exact ⟨h.tape, h.os, h.output⟩
theorem xw_size (w : World) (r : Array Obj) (d : Nat) : (xw w r d).heap.size = w.heap.size + r.size := by simp [xw]
theorem xw_block (w : World) (r : Array Obj) (d n : Nat) (h : n < w.heap.size) : (xw w r d).heap[n]? = w.heap[n]? := by
  show (w.heap ++ r)[n]? = _
  rw [Array.getElem?_append_left h]
theorem xw_below (w : World) (r : Array Obj) (d : Nat) : Below w.heap.size w (xw w r d) := ⟨rfl, rfl, rfl, by rw [xw_size]; omega, fun i hi => xw_block w r d i hi⟩
theorem below_xw {B : Nat} {w w1 : World} (h : Below B w w1) (hB : B ≤ w1.heap.size) (r : Array Obj) (d : Nat) : Below B w (xw w1 r d) := h.trans ((xw_below w1 r d).mono hB)
/-! what the walk's simp takes -/
theorem xw_cell (w : World) (r : Array Obj) (d n i : Nat) (h : n < w.heap.size) : (xw w r d).cell? ⟨n, i, none⟩ = w.cell? ⟨n, i, none⟩ := World.cell?_of_block (w := w) (xw_block w r d n h)
theorem xw_frozen (w : World) (r : Array Obj) (d n i : Nat) (h : n < w.heap.size) : (xw w r d).frozen? ⟨n, i, none⟩ = w.frozen? ⟨n, i, none⟩ := World.frozen?_of_block (w := w) (xw_block w r d n h)
theorem xw_set (w : World) (r : Array Obj) (d n i : Nat) (v : Value) (h : n < w.heap.size) : (xw w r d).setCell ⟨n, i, none⟩ v = xw (w.setCell ⟨n, i, none⟩ v) r d := by
  unfold xw World.setCell
  congr 1
  apply Array.ext_getElem?
  intro k
  rw [Array.getElem?_append]
  simp only [Array.getElem?_modify, Array.getElem?_append, Array.size_modify]
  split <;> rename_i h1
  · split <;> simp_all
  · have : ¬ n = k := by omega
    simp [this, h1]
theorem xw_drew (w : World) (r : Array Obj) (d : Nat) : (xw w r d).drew = xw w r (d + 1) := rfl
theorem xw_drewN (w : World) (r : Array Obj) (d n : Nat) : (xw w r d).drewN n = xw w r (d + n) := rfl
theorem drew_xw (w : World) (r : Array Obj) (d : Nat) : xw w.drew r d = xw w r d := rfl
theorem drewN_xw (w : World) (r : Array Obj) (d n : Nat) : xw (w.drewN n) r d = xw w r d := rfl
theorem xw_xw (w : World) (r r2 : Array Obj) (d d2 : Nat) : xw (xw w r d) r2 d2 = xw w (r ++ r2) d2 := by
  unfold xw; simp [Array.append_assoc]
/-! two stores into one block: the later one counts; the lower place first -/
theorem set_set (w : World) (n i : Nat) (u v : Value) : (w.setCell ⟨n, i, none⟩ u).setCell ⟨n, i, none⟩ v = w.setCell ⟨n, i, none⟩ v := by
  unfold World.setCell
  congr 1
  apply Array.ext_getElem?
  intro k
  simp only [Array.getElem?_modify]
  split
  · cases w.heap[k]? with
    | none => rfl
    | some o => cases o <;> simp
  · rfl
theorem set_sort (w : World) (n i j : Nat) (u v : Value) (h : i < j) : (w.setCell ⟨n, j, none⟩ v).setCell ⟨n, i, none⟩ u = (w.setCell ⟨n, i, none⟩ u).setCell ⟨n, j, none⟩ v := by
  unfold World.setCell
  congr 1
  apply Array.ext_getElem?
  intro k
  simp only [Array.getElem?_modify]
  split
  · cases w.heap[k]? with
    | none => rfl
    | some o => cases o <;> simp [Array.setIfInBounds_comm _ _ (show i ≠ j by omega)]
  · rfl
attribute [go_sem] set_set set_sort
/-- What the walk need not see of. -/
def Far (n : Nat) (w : World) (r : Array Obj) (k : Nat) : Prop := n ≤ w.heap.size + r.size + k
def FarL (n : Nat) (w : World) (r : Array Obj) : Prop := n < w.heap.size + r.size
theorem lt_xw (w : World) (r : Array Obj) (d n : Nat) : (n < (xw w r d).heap.size) = (n < w.heap.size ∨ FarL n w r) := by rw [xw_size]; unfold FarL; apply propext; omega
theorem le_xw (w : World) (r : Array Obj) (d n : Nat) : (n ≤ (xw w r d).heap.size) = (n ≤ w.heap.size ∨ Far n w r 0) := by rw [xw_size]; unfold Far; apply propext; omega
theorem le_xw1 (w : World) (r : Array Obj) (d n : Nat) : (n ≤ (xw w r d).heap.size + 1) = (n ≤ w.heap.size ∨ Far n w r 1) := by rw [xw_size]; unfold Far; apply propext; omega
theorem lt_xw1 (w : World) (r : Array Obj) (d n : Nat) : (n < (xw w r d).heap.size + 1) = (n ≤ w.heap.size ∨ Far n w r (1 - 1)) := by rw [xw_size]; unfold Far; apply propext; omega
theorem le_xw2 (w : World) (r : Array Obj) (d n : Nat) : (n ≤ (xw w r d).heap.size + 1 + 1) = (n ≤ w.heap.size ∨ Far n w r 2) := by rw [xw_size]; unfold Far; apply propext; omega
theorem lt_xw2 (w : World) (r : Array Obj) (d n : Nat) : (n < (xw w r d).heap.size + 1 + 1) = (n ≤ w.heap.size ∨ Far n w r (2 - 1)) := by rw [xw_size]; unfold Far; apply propext; omega
theorem le_xw3 (w : World) (r : Array Obj) (d n : Nat) : (n ≤ (xw w r d).heap.size + 1 + 1 + 1) = (n ≤ w.heap.size ∨ Far n w r 3) := by rw [xw_size]; unfold Far; apply propext; omega
theorem lt_xw3 (w : World) (r : Array Obj) (d n : Nat) : (n < (xw w r d).heap.size + 1 + 1 + 1) = (n ≤ w.heap.size ∨ Far n w r (3 - 1)) := by rw [xw_size]; unfold Far; apply propext; omega
theorem le_xw4 (w : World) (r : Array Obj) (d n : Nat) : (n ≤ (xw w r d).heap.size + 1 + 1 + 1 + 1) = (n ≤ w.heap.size ∨ Far n w r 4) := by rw [xw_size]; unfold Far; apply propext; omega
theorem lt_xw4 (w : World) (r : Array Obj) (d n : Nat) : (n < (xw w r d).heap.size + 1 + 1 + 1 + 1) = (n ≤ w.heap.size ∨ Far n w r (4 - 1)) := by rw [xw_size]; unfold Far; apply propext; omega
theorem le_xw5 (w : World) (r : Array Obj) (d n : Nat) : (n ≤ (xw w r d).heap.size + 1 + 1 + 1 + 1 + 1) = (n ≤ w.heap.size ∨ Far n w r 5) := by rw [xw_size]; unfold Far; apply propext; omega
theorem lt_xw5 (w : World) (r : Array Obj) (d n : Nat) : (n < (xw w r d).heap.size + 1 + 1 + 1 + 1 + 1) = (n ≤ w.heap.size ∨ Far n w r (5 - 1)) := by rw [xw_size]; unfold Far; apply propext; omega
theorem le_xw6 (w : World) (r : Array Obj) (d n : Nat) : (n ≤ (xw w r d).heap.size + 1 + 1 + 1 + 1 + 1 + 1) = (n ≤ w.heap.size ∨ Far n w r 6) := by rw [xw_size]; unfold Far; apply propext; omega
theorem lt_xw6 (w : World) (r : Array Obj) (d n : Nat) : (n < (xw w r d).heap.size + 1 + 1 + 1 + 1 + 1 + 1) = (n ≤ w.heap.size ∨ Far n w r (6 - 1)) := by rw [xw_size]; unfold Far; apply propext; omega
theorem le_xw7 (w : World) (r : Array Obj) (d n : Nat) : (n ≤ (xw w r d).heap.size + 1 + 1 + 1 + 1 + 1 + 1 + 1) = (n ≤ w.heap.size ∨ Far n w r 7) := by rw [xw_size]; unfold Far; apply propext; omega
theorem lt_xw7 (w : World) (r : Array Obj) (d n : Nat) : (n < (xw w r d).heap.size + 1 + 1 + 1 + 1 + 1 + 1 + 1) = (n ≤ w.heap.size ∨ Far n w r (7 - 1)) := by rw [xw_size]; unfold Far; apply propext; omega
theorem le_up2 (n : Nat) : (n ≤ n + 1 + 1) = True := by simp; omega
theorem lt_up2 (n : Nat) : (n < n + 1 + 1) = True := by simp; omega
theorem le_up3 (n : Nat) : (n ≤ n + 1 + 1 + 1) = True := by simp; omega
theorem lt_up3 (n : Nat) : (n < n + 1 + 1 + 1) = True := by simp; omega
theorem le_up4 (n : Nat) : (n ≤ n + 1 + 1 + 1 + 1) = True := by simp; omega
theorem lt_up4 (n : Nat) : (n < n + 1 + 1 + 1 + 1) = True := by simp; omega
theorem le_up5 (n : Nat) : (n ≤ n + 1 + 1 + 1 + 1 + 1) = True := by simp; omega
theorem lt_up5 (n : Nat) : (n < n + 1 + 1 + 1 + 1 + 1) = True := by simp; omega
theorem le_up6 (n : Nat) : (n ≤ n + 1 + 1 + 1 + 1 + 1 + 1) = True := by simp; omega
theorem lt_up6 (n : Nat) : (n < n + 1 + 1 + 1 + 1 + 1 + 1) = True := by simp; omega
theorem le_up7 (n : Nat) : (n ≤ n + 1 + 1 + 1 + 1 + 1 + 1 + 1) = True := by simp; omega
theorem lt_up7 (n : Nat) : (n < n + 1 + 1 + 1 + 1 + 1 + 1 + 1) = True := by simp; omega
theorem le_up8 (n : Nat) : (n ≤ n + 1 + 1 + 1 + 1 + 1 + 1 + 1 + 1) = True := by simp; omega
theorem lt_up8 (n : Nat) : (n < n + 1 + 1 + 1 + 1 + 1 + 1 + 1 + 1) = True := by simp; omega
theorem le_up9 (n : Nat) : (n ≤ n + 1 + 1 + 1 + 1 + 1 + 1 + 1 + 1 + 1) = True := by simp; omega
theorem lt_up9 (n : Nat) : (n < n + 1 + 1 + 1 + 1 + 1 + 1 + 1 + 1 + 1) = True := by simp; omega
attribute [go_sem] le_up2 lt_up2 le_up3 lt_up3 le_up4 lt_up4 le_up5 lt_up5 le_up6 lt_up6 le_up7 lt_up7 le_up8 lt_up8 le_up9 lt_up9
attribute [go_sem] xw_cell xw_frozen xw_set xw_drew xw_drewN drew_xw drewN_xw xw_xw lt_xw le_xw le_xw1 lt_xw1 le_xw2 lt_xw2 le_xw3 lt_xw3 le_xw4 lt_xw4 le_xw5 lt_xw5 le_xw6 lt_xw6 le_xw7 lt_xw7
end Go.Proofs.YtnidaahimofppaaGreat

/- Slices of one-cell elements that a call has made itself, over a world with more blocks behind it: made, appended to, read, turned into a text. -/
namespace Go.Proofs.YtnidaahimofppaaGreat
open Go.RowKit
set_option linter.unusedVariables false
set_option linter.unusedSimpArgs false

/-- The slice v, of elements of type e, is the call's own (blocks from base on), and holds xs. -/
def Own (w : World) (base : Nat) (e : TypeId) (v : Value) (xs : List Value) : Prop := w.ownsRow base e 1 v xs.length xs
/-- The fact, kept from the walk. -/
structure Kept (p : Prop) : Prop where mk :: (out : p)

theorem alloc_xw (w : World) (o : Obj) : w.alloc o = xw w #[o] w.drawn := by
  unfold xw World.alloc
  congr 1
theorem self_xw (w : World) : w = xw w #[] w.drawn := by
  unfold xw; simp
theorem Own.nil (w : World) (base : Nat) (e : TypeId) : Own w base e (.slice none 0 0) [] := ⟨by simp, .inl ⟨rfl, rfl⟩⟩
theorem Own.lit (w : World) (base : Nat) (e : TypeId) (cs : List Value) (hb : base ≤ w.heap.size) (hm : cs.length ≤ maxLen) :
    Own (w.alloc (.cells cs.toArray e)) base e (.slice (some ⟨w.heap.size, 0, none⟩) cs.length cs.length) cs := by
  have h := World.ownsRow_lit (base := base) (e := e) (size := 1) w cs.toArray cs.length hb hm (by simp)
  simpa [Own] using h
theorem Own.empty (w : World) (base : Nat) (e : TypeId) (hb : base ≤ w.heap.size) : Own (w.alloc (.cells #[] e)) base e (.slice (some ⟨w.heap.size, 0, none⟩) 0 0) [] :=
  Own.lit w base e [] hb (by simp)
theorem Own.len {w : World} {base : Nat} {e : TypeId} {v : Value} {xs : List Value} (h : Own w base e v xs) : xs.length ≤ maxLen := by
  rcases h.2 with ⟨_, h0⟩ | ⟨g, cap, cur, rfl, hb, hh, hc, hm, _⟩
  · rw [h0]; exact Nat.zero_le _
  · exact Nat.le_trans hc hm
theorem Own.mono {w : World} {base b0 : Nat} {e : TypeId} {v : Value} {xs : List Value} (h : Own w base e v xs) (hb : b0 ≤ base) : Own w b0 e v xs := by
  refine ⟨h.1, ?_⟩
  rcases h.2 with h2 | ⟨g, cap, cur, h1, h2, h3⟩
  · exact .inl h2
  · exact .inr ⟨g, cap, cur, h1, Nat.le_trans hb h2, h3⟩
theorem Own.below {w w1 : World} {base : Nat} {e : TypeId} {v : Value} {xs : List Value} (h : Own w base e v xs) (hb : Below w.heap.size w w1) : Own w1 base e v xs := by
  refine ⟨h.1, ?_⟩
  rcases h.2 with h2 | ⟨g, cap, cur, h1, h2, h3, h4⟩
  · exact .inl h2
  · exact .inr ⟨g, cap, cur, h1, h2, by rw [hb.block g (Array.getElem?_eq_some_iff.1 h3).1]; exact h3, h4⟩
theorem Own.alloc {w : World} {base : Nat} {e : TypeId} {v : Value} {xs : List Value} (h : Own w base e v xs) (o : Obj) : Own (w.alloc o) base e v xs := h.below ((Below.refl _ _).alloc (Nat.le_refl _) o)
theorem Own.xw {w : World} {base : Nat} {e : TypeId} {v : Value} {xs : List Value} (h : Own w base e v xs) (r : Array Obj) (d : Nat) : Own (YtnidaahimofppaaGreat.xw w r d) base e v xs := h.below (xw_below w r d)
theorem Own.drew {w : World} {base : Nat} {e : TypeId} {v : Value} {xs : List Value} (h : Own w base e v xs) : Own w.drew base e v xs := h.below (Below.refl _ _).drew
theorem Own.drewN {w : World} {base : Nat} {e : TypeId} {v : Value} {xs : List Value} (h : Own w base e v xs) (n : Nat) : Own (w.drewN n) base e v xs := h.below (below_drewN (Below.refl _ _) n)
theorem Own.set {w : World} {base : Nat} {e : TypeId} {v : Value} {xs : List Value} (h : Own w base e v xs) (n i : Nat) (u : Value) (hn : n < base) : Own (w.setCell ⟨n, i, none⟩ u) base e v xs := by
  refine ⟨h.1, ?_⟩
  rcases h.2 with h2 | ⟨g, cap, cur, h1, h2, h3, h4⟩
  · exact .inl h2
  · exact .inr ⟨g, cap, cur, h1, h2, by rw [Below.heap_setCell w ⟨n, i, none⟩ u g (by show g ≠ n; omega)]; exact h3, h4⟩
theorem Own.slice {w : World} {base : Nat} {e : TypeId} {v : Value} {xs : List Value} (h : Own w base e v xs) : ∃ A c, v = .slice A xs.length c := by
  rcases h.2 with ⟨rfl, hn⟩ | ⟨g, cap, cur, rfl, _⟩
  · exact ⟨none, 0, by rw [hn]⟩
  · exact ⟨_, cap, rfl⟩
/-- What lies where. -/
theorem Own.cells {w : World} {base : Nat} {e : TypeId} {v : Value} {xs : List Value} (h : Own w base e v xs) :
    (v = .slice none 0 0 ∧ xs = []) ∨ ∃ g c, v = .slice (some ⟨g, 0, none⟩) xs.length c ∧ base ≤ g ∧ g < w.heap.size ∧ xs.length ≤ c ∧ c ≤ maxLen ∧ ∀ j, j < xs.length → w.cell? ⟨g, j, none⟩ = xs[j]? := by
  rcases h.2 with ⟨rfl, hn⟩ | ⟨g, cap, cur, rfl, hb, hh, hc, hm, _⟩
  · exact .inl ⟨rfl, List.eq_nil_of_length_eq_zero hn⟩
  · refine .inr ⟨g, cap, rfl, hb, (Array.getElem?_eq_some_iff.1 hh).1, hc, hm, fun j hj => ?_⟩
    exact World.ownsRow.cellAt h j (by omega)

section
variable {P : Program} {ops : Array Oper} {rest : List Oper} {o : Oper} {a : Act} {Q : Exit → Act → World → Prop}
theorem grown_xw {w0 W w1 : World} {row : Option Nat} (hB : Below w0.heap.size w0 W) (hg : W.grownBy w1 row) (hr : ∀ k, row = some k → w0.heap.size ≤ k) : ∃ r d, w1 = xw w0 r d :=
  xw_of (hB.grown hg hB.size hr)
theorem Own.base {w : World} {base : Nat} {e : TypeId} {v : Value} {xs : List Value} (h : Own w base e v xs) (k : Nat) (hk : v.ownBlock = some k) : base ≤ k := by
  rcases h.2 with ⟨rfl, _⟩ | ⟨g, cap, cur, rfl, hb, _⟩
  · simp [Value.ownBlock] at hk
  · have : g = k := by simpa [Value.ownBlock] using hk
    omega
/-- append(v, y): behind 'at_builtin'; the world: the variadic's box stands on it. -/
theorem app_one {w0 W : World} (hgd : o.guard = none) (s x : Operand) (t e : TypeId) (z : Value) (bytes : Nat)
    (ho : o.op = .call { callee := .builtin .append, args := #[s, x], argTypes := #[t, t] })
    (ht : P.underlying t = some (.slice e)) (hinfo : (P.info? e).map (fun i => (i.zero, i.size, i.bytes)) = some (some z, 1, bytes)) (hz : z.cells.size = 1) (hb0 : 0 < bytes)
    (v : Value) (xs : List Value) (y : Value) (hs : a.eval s = v) (hx : a.eval x = .slice (some ⟨W.heap.size, 0, none⟩) 1 1) (h1 : y.oneCell' = true)
    (HO : Own W w0.heap.size e v xs) (HB : Below w0.heap.size w0 W) (hl : (xs.length + 1) * bytes ≤ 140737488355328)
    (h : ∀ v1 r d, Own (xw w0 r d) w0.heap.size e v1 (xs ++ [y]) → wpList P ops Q rest (a.put o.dst v1) (xw w0 r d)) :
    wpList P ops Q (o :: rest) a (W.alloc (.cells #[y] e)) := by
  obtain ⟨i0, hi, hzz⟩ := Option.map_eq_some_iff.1 hinfo
  simp only [Prod.mk.injEq] at hzz
  obtain ⟨hz0, hz1, hz2⟩ := hzz
  have hlen : xs.length + 1 ≤ 140737488355328 := Nat.le_trans (Nat.le_mul_of_pos_right _ hb0) hl
  refine wpList_append_own_at (W.alloc (.cells #[y] e)) hgd s x t ho w0.heap.size e i0 z 1 bytes ht hi hz0 hz1 hz2 hz (by omega) v xs.length xs hs (HO.alloc _) ⟨W.heap.size, 0, none⟩ 1 1 [y] hx rfl
    (cell_one_new W y e) (by simpa using h1) (by simp only [maxLen]; omega) hl (by have := HB.size; simp; omega) ?_
  intro v1 w1 hown hg _ hat
  obtain ⟨r, d, rfl⟩ := grown_xw (HB.alloc HB.size (.cells #[y] e)) hg (HO.base)
  refine h v1 r d ?_
  unfold Own
  simpa using hown
/-- append(v, ys...): ys a slice that is read; nil, too. -/
theorem app_row {w0 W : World} (hgd : o.guard = none) (s x : Operand) (t e : TypeId) (z : Value) (bytes : Nat)
    (ho : o.op = .call { callee := .builtin .append, args := #[s, x], argTypes := #[t, t] })
    (ht : P.underlying t = some (.slice e)) (hinfo : (P.info? e).map (fun i => (i.zero, i.size, i.bytes)) = some (some z, 1, bytes)) (hz : z.cells.size = 1) (hb0 : 0 < bytes)
    (v : Value) (xs ys : List Value) (A : Option Addr) (c : Nat) (hs : a.eval s = v) (hx : a.eval x = .slice A ys.length c) (h1 : ∀ y ∈ ys, y.oneCell' = true)
    (hy : ys ≠ [] → ∃ ad, A = some ad ∧ ∀ j u, ys[j]? = some u → W.cell? (ad.add j) = some u)
    (HO : Own W w0.heap.size e v xs) (HB : Below w0.heap.size w0 W) (hl : (xs.length + ys.length) * bytes ≤ 140737488355328)
    (h : ∀ v1 r d, Own (xw w0 r d) w0.heap.size e v1 (xs ++ ys) → wpList P ops Q rest (a.put o.dst v1) (xw w0 r d)) :
    wpList P ops Q (o :: rest) a W := by
  obtain ⟨i0, hi, hzz⟩ := Option.map_eq_some_iff.1 hinfo
  simp only [Prod.mk.injEq] at hzz
  obtain ⟨hz0, hz1, hz2⟩ := hzz
  have hlen : xs.length + ys.length ≤ 140737488355328 := Nat.le_trans (Nat.le_mul_of_pos_right _ hb0) hl
  have hrun : ∃ v1 w1, (Builtin.append_ #[t, t] o.type #[v, .slice A ys.length c]).run P W = .ok v1 w1 ∧ Own w1 w0.heap.size e v1 (xs ++ ys) ∧ W.grownBy w1 v.ownBlock := by
    rcases A with _ | ad
    · have h0 : ys = [] := by
        rcases Nat.eq_zero_or_pos ys.length with h0 | h0
        · exact List.eq_nil_of_length_eq_zero h0
        · obtain ⟨ad, h, _⟩ := hy (by intro e; rw [e] at h0; simp at h0)
          cases h
      subst h0
      refine ⟨v, W, ?_, by simpa using HO, World.grownBy.refl W _⟩
      rcases HO.2 with ⟨rfl, hn⟩ | ⟨g, cap, cur, rfl, _, _, hnc, _⟩
      · simp [Builtin.append_, run_underlying ht, sizeOf, typeInfo, hi, Builtin.lenOf, Builtin.firstCells]
      · simp [Builtin.append_, run_underlying ht, sizeOf, typeInfo, hi, Builtin.lenOf, Builtin.firstCells, hnc, storeCells]
    · have hc : ∀ j u, ys[j]? = some u → W.cell? (ad.add j) = some u := by
        intro j u hu
        have hne : ys ≠ [] := by rintro rfl; simp at hu
        obtain ⟨ad', h', hc⟩ := hy hne
        injection h' with h'
        subst h'
        exact hc j u hu
      obtain ⟨v1, w1, hr, h2, h3, _, h5⟩ := run_append_own_at (P := P) W w0.heap.size t o.type e i0 z 1 bytes ht hi hz0 hz1 hz2 hz (by omega) v xs.length xs HO ad ys.length c ys (by simp) hc h1 (by simp only [maxLen]; omega) hl HB.size
      exact ⟨v1, w1, hr, by unfold Own; simpa using h2, h3⟩
  obtain ⟨v1, w1, hr, hown, hg⟩ := hrun
  obtain ⟨r, d, rfl⟩ := grown_xw HB hg (HO.base)
  refine wpList_plain hgd fun K hK => ?_
  unfold Oper.wp execOp
  simp only [ho, resolve, invoke, builtin, Sem.run_bind, Sem.run_pure, Result.andThen_ok, List.map_toArray, List.map_cons, List.map_nil, hs, hx, hr]
  exact hK _ _ (h v1 r d hown)
end

/-! ### bytes -/
def u8s (xs : List Int) : List Value := xs.map (Value.int .u8)
theorem u8s_len (xs : List Int) : (u8s xs).length = xs.length := by simp [u8s]
theorem u8s_app (xs ys : List Int) : u8s (xs ++ ys) = u8s xs ++ u8s ys := by simp [u8s]
theorem u8s_one (xs : List Int) : ∀ y ∈ u8s xs, y.oneCell' = true := by
  intro y hy
  simp only [u8s, List.mem_map] at hy
  obtain ⟨x, _, rfl⟩ := hy
  rfl
/-- A text's bytes. -/
def bytesOf (s : ByteArray) : List Int := s.data.toList.map fun b => (b.toNat : Int)
theorem bytesOf_len (s : ByteArray) : (bytesOf s).length = s.size := by rw [bytesOf, List.length_map, Array.length_toList]; rfl
theorem bytesOf_range (s : ByteArray) : ∀ b ∈ bytesOf s, 0 ≤ b ∧ b ≤ 255 := by
  intro b hb
  simp only [bytesOf, List.mem_map] at hb
  obtain ⟨u, _, rfl⟩ := hb
  have := u.toNat_lt
  omega
/-- string(v) of a slice of one's own. -/
theorem own_string {P : Program} {w : World} {base : Nat} {src dst e e' : TypeId} {v : Value} {xs : List Int} (hs : P.underlying src = some (.slice e)) (he : P.underlying e = some (.int .u8)) (hd : P.underlying dst = some .string)
    (h : Own w base e' v (u8s xs)) : (convert src dst v).run P w = .ok (.string (strOfNums xs)) w := by
  rcases h.cells with ⟨rfl, hn⟩ | ⟨g, c, rfl, hb, hg, hc, hm, hcell⟩
  · have hx : xs = [] := by cases xs with
      | nil => rfl
      | cons a t => simp [u8s] at hn
    subst hx
    exact run_convert_bytes_nil w src e hs he 0 0 dst hd
  · rw [u8s_len]
    refine run_convert_bytes_arg w src e hs he g 0 xs.length c xs rfl (fun i hi => ?_) dst hd
    rw [Nat.zero_add]
    rw [hcell i (by rw [u8s_len]; exact hi)]
    simp [u8s, List.getElem?_eq_getElem hi, List.getD_eq_getElem?_getD]
end Go.Proofs.YtnidaahimofppaaGreat

/- The functions that write bytes (layer 3), as contracts of their calls: what they return holds the bytes of 'enc'. -/
namespace Go.Proofs.YtnidaahimofppaaGreat
open Go.RowKit
set_option linter.unusedVariables false
set_option linter.unusedSimpArgs false

theorem infoB : (Tryz.prog.info? 5).map (fun i => (i.zero, i.size, i.bytes)) = some (some (.int .u8 0), 1, 1) := by kernel_rfl
/-- It returns new bytes: these. -/
def RetB (w : World) (xs : List Int) (e : Ending) (w' : World) : Prop := ∃ v, e = .returned v ∧ Own w' w.heap.size 5 v (u8s xs) ∧ Below w.heap.size w w'
theorem or128_small : ∀ z : Fin 256, bits .or .u8 ((z.val : Nat) : Int) 128 = ((z.val % 128 + 128 : Nat) : Int) := by decide +kernel
theorem or128 (y : Nat) : bits .or .u8 ((y : Int) % 256) 128 = ((y % 128 + 128 : Nat) : Int) := by
  have h := or128_small ⟨y % 256, by omega⟩
  have e : ((y % 256 : Nat) : Int) = (y : Int) % 256 := by omega
  simp only at h
  rw [← e, h]
  have : y % 256 % 128 = y % 128 := by omega
  rw [this]
theorem enc_len10 (x : Nat) (h : x < 18446744073709551616) : (enc x).length ≤ 10 := enc_len x 9 (by omega)

set_option maxRecDepth 100000 in
set_option maxHeartbeats 1000000 in
theorem groups_any (x : Nat) (hx : x < 18446744073709551616) (w : World) :
    Calls Tryz.prog 128 #[.int .u64 x] w (RetB w (enc x)) := by
  have hl := enc_len10 x hx
  have HX := Lib.hid hx
  clear hx
  go_enter Tryz.func128, Tryz.ntmps128
  go_wp2
  go_loopw [0, 3] (fun v0 v3 wr => ∃ (y : Nat) (dn : List Int) (r : Array Obj) (d : Nat), v0 = .int .u64 y ∧ wr = xw w r d ∧ Kept (Own (xw w r d) w.heap.size 5 v3 (u8s dn)) ∧ Kept (enc x = dn ++ enc y) ∧ Kept (y < 18446744073709551616)) (fun v0 v3 wr => (intOf v0).toNat)
  case atStart => exact ⟨x, [], _, _, rfl, alloc_xw _ _, ⟨by rw [← alloc_xw]; exact Own.empty w _ _ (Nat.le_refl _)⟩, ⟨rfl⟩, ⟨HX.out⟩⟩
  case round =>
    obtain ⟨y, dn, r, d, rfl, rfl, HO, HE, HY⟩ := hrel
    have hdl : dn.length + (enc y).length ≤ 10 := by have := HE.out ▸ hl; simpa using this
    have hd1 : 1 ≤ (enc y).length := List.length_pos_iff.2 (enc_ne y)
    have HD : Kept (dn.length + 1 ≤ 10) := ⟨by omega⟩
    clear hdl hd1
    by_cases c : y < 128
    · go_wp2_with (first | ((at_builtin); refine app_one (w0 := w) (W := xw w r d) rfl (.tmp 15) (.tmp 18) 102 5 (.int .u8 0) 1 rfl Tryz.underlying102 infoB rfl (by decide) _ (u8s dn) _ rfl rfl rfl HO.out (xw_below _ _ _) ?c1 ?_; (case c1 => have := HD.out; simp only [u8s_len]; omega); intro v1 r1 d1 hO1; have HO1 := Kept.mk hO1; clear hO1))
      go_ret
      refine ⟨_, rfl, ?_, xw_below _ _ _⟩
      have e : u8s (enc x) = u8s dn ++ [.int .u8 (y : Int)] := by
        rw [HE.out, enc_low c, u8s_app]; rfl
      have h1 := HO1.out
      rw [← e] at h1
      exact h1
    · go_wp2_with (first | ((at_builtin); refine app_one (w0 := w) (W := xw w r d) rfl (.tmp 7) (.tmp 11) 102 5 (.int .u8 0) 1 rfl Tryz.underlying102 infoB rfl (by decide) _ (u8s dn) _ rfl rfl rfl HO.out (xw_below _ _ _) ?c1 ?_; (case c1 => have := HD.out; simp only [u8s_len]; omega); intro v1 r1 d1 hO1; have HO1 := Kept.mk hO1; clear hO1))
      go_roundw
      case rel =>
        refine ⟨y / 128, dn ++ [((y % 128 + 128 : Nat) : Int)], r1, d1, ?_, rfl, ⟨?_⟩, ⟨?_⟩, ⟨?_⟩⟩
        · congr 1
        · rw [u8s_app]
          have e := HO1.out
          rw [or128] at e
          exact e
        · rw [HE.out, enc_high c, List.append_assoc]; rfl
        · have := HY.out; omega
      case measure => simp [intOf]; omega
end Go.Proofs.YtnidaahimofppaaGreat

/- Texts and slices of one's own: a text's bytes appended, and a text made bytes. -/
namespace Go.Proofs.YtnidaahimofppaaGreat
open Go.RowKit
set_option linter.unusedVariables false
set_option linter.unusedSimpArgs false

theorem add_lit0 (g j : Nat) : (⟨g, 0, none⟩ : Addr).add j = ⟨g, j, none⟩ := by simp [Addr.add]; intro h; exact h.symm
theorem strCells_u8s (s : ByteArray) : Go.Lib.strCells s = u8s (bytesOf s) := by simp [Go.Lib.strCells, u8s, bytesOf]
section
variable {P : Program} {ops : Array Oper} {rest : List Oper} {o : Oper} {a : Act} {Q : Exit → Act → World → Prop}
/-- append(v, s...): s a text. -/
theorem app_str {w0 W : World} (hgd : o.guard = none) (s x : Operand) (t u e : TypeId)
    (ho : o.op = .call { callee := .builtin .append, args := #[s, x], argTypes := #[t, u] })
    (ht : P.underlying t = some (.slice e)) (hu : P.underlying u = some .string) (hinfo : (P.info? e).map (fun i => (i.zero, i.size, i.bytes)) = some (some (.int .u8 0), 1, 1))
    (v : Value) (xs : List Value) (y : ByteArray) (hs : a.eval s = v) (hx : a.eval x = .string y)
    (HO : Own W w0.heap.size e v xs) (HB : Below w0.heap.size w0 W) (hl : xs.length + y.size ≤ 140737488355328)
    (h : ∀ v1 r d, Own (xw w0 r d) w0.heap.size e v1 (xs ++ u8s (bytesOf y)) → wpList P ops Q rest (a.put o.dst v1) (xw w0 r d)) :
    wpList P ops Q (o :: rest) a W := by
  obtain ⟨i0, hi, hzz⟩ := Option.map_eq_some_iff.1 hinfo
  simp only [Prod.mk.injEq] at hzz
  obtain ⟨hz0, hz1, hz2⟩ := hzz
  refine Go.Lib.wpList_append_own_string W hgd s x t u ho w0.heap.size e i0 ht hu hi hz0 hz1 hz2 v xs.length xs hs HO y hx (by simp only [maxLen]; omega) hl HB.size ?_
  intro v1 w1 hown hg _
  obtain ⟨r, d, rfl⟩ := grown_xw HB hg (HO.base)
  refine h v1 r d ?_
  have hl2 : xs.length + y.size = (xs ++ u8s (bytesOf y)).length := by rw [List.length_append, u8s_len, bytesOf_len]
  unfold Own
  rw [← hl2, ← strCells_u8s]
  exact hown
theorem bytesWorld_below (w : World) (e : TypeId) (s : ByteArray) : Below w.heap.size w (Go.Lib.bytesWorld w e s) :=
  ⟨rfl, rfl, rfl, by rw [Go.Lib.bytesWorld_size]; omega, fun i hi => Go.Lib.bytesWorld_at_old w e s i hi⟩
/-- append(v, ys...): both are one's own. -/
theorem app_own {w0 W : World} (hgd : o.guard = none) (s x : Operand) (t e : TypeId) (z : Value) (bytes : Nat)
    (ho : o.op = .call { callee := .builtin .append, args := #[s, x], argTypes := #[t, t] })
    (ht : P.underlying t = some (.slice e)) (hinfo : (P.info? e).map (fun i => (i.zero, i.size, i.bytes)) = some (some z, 1, bytes)) (hz : z.cells.size = 1) (hb0 : 0 < bytes)
    (v : Value) (xs : List Value) (b2 : Nat) (v2 : Value) (ys : List Value) (hs : a.eval s = v) (hx : a.eval x = v2) (h1 : ∀ y ∈ ys, y.oneCell' = true)
    (HO : Own W w0.heap.size e v xs) (HO2 : Own W b2 e v2 ys) (HB : Below w0.heap.size w0 W) (hl : (xs.length + ys.length) * bytes ≤ 140737488355328)
    (h : ∀ v1 r d, Own (xw w0 r d) w0.heap.size e v1 (xs ++ ys) → wpList P ops Q rest (a.put o.dst v1) (xw w0 r d)) :
    wpList P ops Q (o :: rest) a W := by
  rcases HO2.cells with ⟨rfl, rfl⟩ | ⟨g, c, rfl, _, _, _, _, hc⟩
  · exact app_row hgd s x t e z bytes ho ht hinfo hz hb0 v xs [] none 0 hs hx h1 (by simp) HO HB hl h
  · refine app_row hgd s x t e z bytes ho ht hinfo hz hb0 v xs ys (some ⟨g, 0, none⟩) c hs hx h1 (fun _ => ⟨_, rfl, fun j u hu => ?_⟩) HO HB hl h
    rw [add_lit0, hc j (List.getElem?_eq_some_iff.1 hu).1, hu]
/-- []byte(s). -/
theorem conv_str {w0 W : World} (hgd : o.guard = none) (x : Operand) (src dst e : TypeId)
    (ho : o.op = .convert src dst x) (hsr : P.underlying src = some .string) (hd : P.underlying dst = some (.slice e)) (he : P.underlying e = some (.int .u8))
    (s : ByteArray) (hx : a.eval x = .string s) (HB : Below w0.heap.size w0 W)
    (h : ∀ g c r d, (∀ j u, (u8s (bytesOf s))[j]? = some u → (xw w0 r d).cell? ⟨g, j, none⟩ = some u) → Below W.heap.size W (xw w0 r d) → W.heap.size ≤ g → wpList P ops Q rest (a.put o.dst (.slice (some ⟨g, 0, none⟩) (bytesOf s).length c)) (xw w0 r d)) :
    wpList P ops Q (o :: rest) a W := by
  have hb := bytesWorld_below W e s
  obtain ⟨r, d, hw⟩ := xw_of (HB.trans (hb.mono HB.size))
  have hr := Go.Lib.run_convert_string_bytes (P := P) W src dst e s hsr hd he
  refine wpList_plain hgd fun K hK => ?_
  unfold Oper.wp execOp
  simp only [ho, Sem.run_bind, Sem.run_pure, Result.andThen_ok, hx, hr]
  rw [← bytesOf_len, hw]
  rw [hw] at hb
  refine hK _ _ (h _ _ r d ?_ hb (Nat.le_refl _))
  intro j u hu
  rw [← hw]
  have hj : j < s.size := by
    have := (List.getElem?_eq_some_iff.1 hu).1
    rwa [u8s_len, bytesOf_len] at this
  rw [Go.Lib.bytesWorld_cell W e s j hj, ← hu]
  have hj' : j < s.data.toList.length := by rw [Array.length_toList]; exact hj
  rw [u8s, bytesOf, List.getElem?_map, List.getElem?_map, List.getElem?_eq_getElem hj', List.getD_eq_getElem?_getD, List.getElem?_eq_getElem hj']
  rfl
end
end Go.Proofs.YtnidaahimofppaaGreat

/- The functions that write numbers and texts (layer 3). -/
namespace Go.Proofs.YtnidaahimofppaaGreat
open Go.RowKit
set_option linter.unusedVariables false
set_option linter.unusedSimpArgs false

/-- What Num, Int, Text write. -/
def numB (n : Int) : List Int := if n < 0 then [] else enc n.toNat
def intB (n : Int) : List Int := enc (zig n)
def textB (s : ByteArray) : List Int := enc s.size ++ bytesOf s

set_option maxRecDepth 100000 in
set_option maxHeartbeats 1000000 in
theorem Num_any (n : Int) (hn : n ≤ 9223372036854775807) (w : World) : Calls Tryz.prog 132 #[.int .i64 n] w (RetB w (numB n)) := by
  go_enter Tryz.func132, Tryz.ntmps132
  unfold numB
  by_cases c : n < 0
  · rw [if_pos c]
    go_wp2
    go_ret
    exact ⟨_, rfl, Own.nil _ _ _, Below.refl _ _⟩
  · rw [if_neg c]
    obtain ⟨m, rfl⟩ : ∃ m : Nat, n = (m : Int) := ⟨n.toNat, by omega⟩
    have e : ((m : Int) % 18446744073709551616) = (m : Int) := by omega
    go_wp2_with (first | (go_at_call 128; refine (groups_any m (by omega) _).mono ?_; rintro e w' ⟨v, rfl, HO, HB⟩))
    go_ret
    exact ⟨_, rfl, HO, HB⟩

theorem zig_bits (n : Int) (h0 : -9223372036854775808 ≤ n) (hn : n ≤ 9223372036854775807) :
    bits .xor .u64 (IntKind.u64.wrap (IntKind.u64.wrap n * 2)) (IntKind.u64.wrap (n / 9223372036854775808)) = ((zig n : Nat) : Int) := by
  by_cases c : n < 0
  · have e1 : IntKind.u64.wrap (IntKind.u64.wrap n * 2) = (((2 * n + 18446744073709551616).toNat : Nat) : Int) := by
      rw [IntKind.wrap_u64, IntKind.wrap_u64]; omega
    have e2 : IntKind.u64.wrap (n / 9223372036854775808) = ((2 ^ 64 - 1 : Nat) : Int) := by
      rw [IntKind.wrap_u64]; omega
    rw [e1, e2, bits_xor_u64_nat _ _ (by omega) (by decide), Nat.xor_comm, Go.Lib.xor_ones64 _ (by omega)]
    unfold zig
    rw [if_pos c]
    omega
  · have e1 : IntKind.u64.wrap (IntKind.u64.wrap n * 2) = (((2 * n).toNat : Nat) : Int) := by
      rw [IntKind.wrap_u64, IntKind.wrap_u64]; omega
    have e2 : IntKind.u64.wrap (n / 9223372036854775808) = ((0 : Nat) : Int) := by
      rw [IntKind.wrap_u64]; omega
    rw [e1, e2, bits_xor_u64_nat _ _ (by omega) (by decide), Nat.xor_zero]
    unfold zig
    rw [if_neg c]
theorem zig_lt (n : Int) (h0 : -9223372036854775808 ≤ n) (hn : n ≤ 9223372036854775807) : zig n < 18446744073709551616 := by
  unfold zig; split <;> omega

set_option maxRecDepth 100000 in
set_option maxHeartbeats 1000000 in
theorem Int_any (n : Int) (h0 : -9223372036854775808 ≤ n) (hn : n ≤ 9223372036854775807) (w : World) : Calls Tryz.prog 127 #[.int .i64 n] w (RetB w (intB n)) := by
  go_enter Tryz.func127, Tryz.ntmps127
  have e := zig_bits n h0 hn
  have hz := zig_lt n h0 hn
  go_wp2_with (first | (go_at_call 128; refine (groups_any (zig n) hz w).mono ?_; rintro e w' ⟨v, rfl, HO, HB⟩))
  go_ret
  exact ⟨_, rfl, HO, HB⟩

theorem numB_len (n : Int) (hn : n ≤ 9223372036854775807) : (numB n).length ≤ 10 := by
  unfold numB; split
  · simp
  · exact enc_len10 _ (by omega)
theorem numB_nat (n : Nat) : numB (n : Int) = enc n := by
  unfold numB; rw [if_neg (by omega), Int.toNat_natCast]

set_option maxRecDepth 100000 in
set_option maxHeartbeats 1000000 in
theorem Text_any (s : ByteArray) (hs : s.size ≤ 140737488355328 - 4096) (w : World) : Calls Tryz.prog 131 #[.string s] w (RetB w (textB s)) := by
  go_enter Tryz.func131, Tryz.ntmps131
  have hl := enc_len10 s.size (by omega)
  go_wp2_with (first | (go_at_call 132; refine (Num_any _ (by omega) _).mono ?_; rintro e w' ⟨v, rfl, HO, HB⟩; rw [numB_nat] at HO; obtain ⟨r, d, rfl⟩ := xw_of HB; have HO := HO; have HB := HB) | ((at_builtin); refine app_str (w0 := w) (W := xw w r d) rfl (.tmp 5) (.tmp 6) 102 9 5 rfl Tryz.underlying102 Tryz.underlying9 infoB _ (u8s (enc s.size)) s rfl rfl HO HB ?c1 ?_; (case c1 => rw [u8s_len]; omega); intro v1 r1 d1 HO1))
  go_ret
  exact ⟨_, rfl, by unfold textB; rw [u8s_app]; exact HO1, xw_below _ _ _⟩

/-! ### the reference -/
end Go.Proofs.YtnidaahimofppaaGreat

/-
  DERIVED: THE SHELF's CONTRACTS AT THIS DUMP, IN PLAIN WORDS (tools/lay-plain.mjs out of 'TryShelf.lean', which tools/lay-shelf.mjs wrote): THE SAME DECLARATIONS UNDER THE SAME NAMES: 'import', 'namespace', 'open', 'def', 'theorem' AND NOTHING ELSE: no command of the shelf's: FOR A HAND-IN. Each laying: the table of numbers ('.._ren') and one theorem, a field a fact of the dump's own or the kernel's comparison; each contract: ONE APPLICATION.
-/
namespace Go.Proofs
open Go.Shelf
def Tryz.lays213_ren : Go.Shelf.Ren := ⟨fun | 213 => 59 | 265 => 67 | n => n, fun | 9 => 9 | 3 => 3 | n => n, fun | n => n⟩
theorem Tryz.lays213 : Go.Proofs.Lays.n213 Tryz.prog Tryz.lays213_ren := {
  mixed := by kernel_rfl
  f213 := Tryz.func59.trans (congrArg some (by kernel_rfl))
  f265 := Tryz.func67.trans (congrArg some (by kernel_rfl))
  t3 := Tryz.underlying3
  a3 := Tryz.isAgg3
  z3 := Tryz.sizeOf3
  v3 := Tryz.zeroValue3
  t9 := Tryz.underlying9
  a9 := Tryz.isAgg9
  z9 := Tryz.sizeOf9
  v9 := Tryz.zeroValue9 }
open Go.RowKit in
/-- internal/bytealg.CompareString (what strings.Compare calls): IT RETURNS 'Lib.compareBytes a b'; the world is as it was. (LAID: no walk: one application.) -/
theorem Tryz.bytealg_CompareString (a b : ByteArray) (w : World) :
    Calls Tryz.prog 59 #[.string a, .string b] w fun e w' => e = .returned (.int .i64 (Lib.compareBytes a.data.toList b.data.toList)) ∧ w' = w := Any.bytealg_CompareString Tryz.lays213 a b w
def Tryz.lays106_ren : Go.Shelf.Ren := ⟨fun | 106 => 46 | 213 => 59 | 265 => 67 | n => n, fun | 9 => 9 | 3 => 3 | n => n, fun | n => n⟩
theorem Tryz.lays106 : Go.Proofs.Lays.n106 Tryz.prog Tryz.lays106_ren := {
  mixed := by kernel_rfl
  f106 := Tryz.func46.trans (congrArg some (by kernel_rfl))
  f213 := Tryz.func59.trans (congrArg some (by kernel_rfl))
  f265 := Tryz.func67.trans (congrArg some (by kernel_rfl))
  t3 := Tryz.underlying3
  a3 := Tryz.isAgg3
  z3 := Tryz.sizeOf3
  v3 := Tryz.zeroValue3
  t9 := Tryz.underlying9
  a9 := Tryz.isAgg9
  z9 := Tryz.sizeOf9
  v9 := Tryz.zeroValue9 }
open Go.RowKit in
/-- strings.Compare: "Compare returns an integer comparing two strings lexicographically. The result will be 0 if a == b, -1 if a < b, and +1 if a > b.": IT RETURNS 'Lib.compareBytes a b'; the world is as it was. (LAID: no walk: one application.) -/
theorem Tryz.strings_Compare (a b : ByteArray) (w : World) :
    Calls Tryz.prog 46 #[.string a, .string b] w fun e w' => e = .returned (.int .i64 (Lib.compareBytes a.data.toList b.data.toList)) ∧ w' = w := Any.strings_Compare Tryz.lays106 a b w
def Tryz.lays264_ren : Go.Shelf.Ren := ⟨fun | 264 => 92 | n => n, fun | 53 => 81 | 46 => 153 | n => n, fun | n => n⟩
theorem Tryz.lays264 : Go.Proofs.Lays.n264 Tryz.prog Tryz.lays264_ren := {
  mixed := by kernel_rfl
  f264 := Tryz.func92.trans (congrArg some (by kernel_rfl))
  t46 := Tryz.underlying153
  a46 := Tryz.isAgg153
  z46 := Tryz.sizeOf153
  v46 := Tryz.zeroValue153
  t53 := Tryz.underlying81
  a53 := Tryz.isAgg81
  z53 := Tryz.sizeOf81
  v53 := Tryz.zeroValue81 }
open Go.RowKit Go.Lib in
theorem Tryz.bits_Mul64 (x y : Nat) (hx : x < 18446744073709551616) (hy : y < 18446744073709551616) (w : World) :
    Calls Tryz.prog 92 #[.int .u64 x, .int .u64 y] w fun e w' => e = .returned (.tuple #[.int .u64 ((x * y / 18446744073709551616 : Nat) : Int), .int .u64 ((x * y % 18446744073709551616 : Nat) : Int)]) ∧ w' = w := Any.bits_Mul64 Tryz.lays264 x y hx hy w
end Go.Proofs

/- Whole numbers as floats of 64 bits (plain, no program in sight): sums, products, their order and what they are cut to are exact below 2^53. -/
namespace Go.Proofs.YtnidaahimofppaaGreat
open Ieee
set_option linter.unusedVariables false
set_option linter.unusedSimpArgs false

theorem log2_shift (z k : Nat) (hz : z ≠ 0) : (z * 2 ^ k).log2 = z.log2 + k := by
  have h0 : z * 2 ^ k ≠ 0 := Nat.mul_ne_zero hz (by have := Nat.two_pow_pos k; omega)
  rw [Nat.log2_eq_iff h0]
  have h1 := Nat.log2_self_le hz
  have h2 := Nat.lt_log2_self (n := z)
  constructor
  · rw [Nat.pow_add]; exact Nat.mul_le_mul_right _ h1
  · rw [show z.log2 + k + 1 = (z.log2 + 1) + k by omega, Nat.pow_add]
    exact Nat.mul_lt_mul_of_pos_right h2 (Nat.two_pow_pos k)
/-- Nothing is left over. -/
theorem cut_exact (neg : Bool) (n d : Nat) (hd : d ≤ (n * 2 ^ d).log2 + 2) : Toward.even.cut neg (n * 2 ^ d) d = n := by
  have hp := Nat.two_pow_pos d
  simp only [Toward.cut, Nat.min_eq_left hd, Nat.one_shiftLeft, Nat.mul_div_cancel _ hp, Nat.mul_mod_left, Nat.mul_zero]
  have e1 : decide (2 ^ d < 0) = false := by simp
  have e2 : (2 ^ d == 0) = false := by simp
  simp [e2]
theorem cutz_exact (neg : Bool) (n d : Nat) (hd : d ≤ (n * 2 ^ d).log2 + 2) : Toward.zero.cut neg (n * 2 ^ d) d = n := by
  have hp := Nat.two_pow_pos d
  simp only [Toward.cut, Nat.min_eq_left hd, Nat.one_shiftLeft, Nat.mul_div_cancel _ hp]
  simp
theorem dbl_least : double.leastPlace = -1074 := by decide
theorem dbl_binade : double.binade = 4503599627370496 := by decide
theorem dbl_inf : double.infRung = 9218868437227405312 := by decide
theorem dbl_sign : double.signWeight = 9223372036854775808 := by decide
theorem log2_le52 {z : Nat} (hz : z ≠ 0) (h : z < 9007199254740992) : z.log2 ≤ 52 := by
  have h1 := Nat.log2_self_le hz
  rcases Nat.lt_or_ge z.log2 53 with h2 | h2
  · omega
  · have h3 : 2 ^ 53 ≤ 2 ^ z.log2 := Nat.pow_le_pow_right (by decide) h2
    omega
theorem mant {z : Nat} (hz : z ≠ 0) (h : z < 9007199254740992) : 4503599627370496 ≤ z * 2 ^ (52 - z.log2) ∧ z * 2 ^ (52 - z.log2) < 9007199254740992 := by
  have hl := log2_le52 hz h
  have h1 := Nat.mul_le_mul_right (2 ^ (52 - z.log2)) (Nat.log2_self_le hz)
  have h2 := Nat.mul_lt_mul_of_pos_right (Nat.lt_log2_self (n := z)) (Nat.two_pow_pos (52 - z.log2))
  rw [← Nat.pow_add, show z.log2 + (52 - z.log2) = 52 by omega] at h1
  rw [← Nat.pow_add, show z.log2 + 1 + (52 - z.log2) = 53 by omega] at h2
  exact ⟨h1, h2⟩
/-- A word is read. -/
theorem read_word (neg : Bool) (R : Nat) (hR : R < 9223372036854775808) : double.read (double.word neg R) = if R < 4503599627370496 then .number neg R (-1074) else if R < 9218868437227405312 then .number neg (4503599627370496 + R % 4503599627370496) (-1074 + ((R / 4503599627370496 - 1 : Nat) : Int)) else if R = 9218868437227405312 then .infinity neg else .nan neg (R - 9218868437227405312) := by
  have e1 : (double.word neg R / 9223372036854775808 % 2 == 1) = neg := by
    cases neg
    · simp only [Format.word, Bool.false_eq_true, if_false]
      rw [Nat.div_eq_of_lt hR]
      rfl
    · simp only [Format.word, if_true, dbl_sign]
      rw [show (9223372036854775808 + R) / 9223372036854775808 = 1 by omega]
      rfl
  have e2 : double.word neg R % 9223372036854775808 = R := by
    cases neg
    · simp only [Format.word, Bool.false_eq_true, if_false]
      omega
    · simp only [Format.word, if_true, dbl_sign]
      omega
  simp only [Format.read, dbl_sign, dbl_binade, dbl_inf, dbl_least, e1, e2]
theorem read_zero (neg : Bool) (p : Int) : double.read (double.nearest neg 0 p) = .number neg 0 (-1074) := by
  simp only [Format.nearest, if_true]
  rw [read_word neg 0 (by omega)]
  rfl
/-- A whole number is written as it is. -/
theorem read_near (neg : Bool) (z k : Nat) (hz : z ≠ 0) (h : z < 9007199254740992) : double.read (double.nearest neg (z * 2 ^ k) (-(k : Int))) = .number neg (z * 2 ^ (52 - z.log2)) ((z.log2 : Int) - 52) := by
  have hl := log2_le52 hz h
  obtain ⟨hm1, hm2⟩ := mant hz h
  have h0 : z * 2 ^ k ≠ 0 := Nat.mul_ne_zero hz (by have := Nat.two_pow_pos k; omega)
  have hlog := log2_shift z k hz
  have hlast : max (-(k : Int) + ((z * 2 ^ k).log2 : Int) - (double.fractionBits : Int)) (-1074) = (z.log2 : Int) - 52 := by
    rw [hlog]
    have : (double.fractionBits : Int) = 52 := rfl
    rw [this]
    omega
  have hkept : Toward.even.cut neg ((z * 2 ^ k) <<< (-(k : Int) - ((z.log2 : Int) - 52)).toNat) (((z.log2 : Int) - 52) - -(k : Int)).toNat = z * 2 ^ (52 - z.log2) := by
    rw [Nat.shiftLeft_eq]
    by_cases c : k ≤ 52 - z.log2
    · rw [show (-(k : Int) - ((z.log2 : Int) - 52)).toNat = 52 - z.log2 - k by omega, show (((z.log2 : Int) - 52) - -(k : Int)).toNat = 0 by omega]
      have := cut_exact neg (z * 2 ^ k * 2 ^ (52 - z.log2 - k)) 0 (by omega)
      rw [Nat.pow_zero, Nat.mul_one] at this
      rw [this, Nat.mul_assoc, ← Nat.pow_add, show k + (52 - z.log2 - k) = 52 - z.log2 by omega]
    · rw [show (-(k : Int) - ((z.log2 : Int) - 52)).toNat = 0 by omega, show (((z.log2 : Int) - 52) - -(k : Int)).toNat = k - (52 - z.log2) by omega, Nat.pow_zero, Nat.mul_one]
      have e : z * 2 ^ k = z * 2 ^ (52 - z.log2) * 2 ^ (k - (52 - z.log2)) := by rw [Nat.mul_assoc, ← Nat.pow_add, show 52 - z.log2 + (k - (52 - z.log2)) = k by omega]
      rw [e]
      refine cut_exact neg _ _ ?_
      rw [← e, hlog]
      omega
  simp only [Format.nearest, if_neg h0, dbl_least, dbl_binade, dbl_inf]
  rw [hlast, hkept]
  rw [show ((z.log2 : Int) - 52 - -1074).toNat = z.log2 + 1022 by omega]
  generalize z * 2 ^ (52 - z.log2) = K at hm1 hm2 ⊢
  generalize z.log2 = L at hl ⊢
  rw [Nat.min_eq_left (by omega), read_word neg _ (by omega), if_neg (by omega), if_pos (by omega)]
  congr 1
  · omega
  · omega
/-- The datum is the whole number z. -/
def DI (d : Datum) (z : Int) : Prop := ∃ (s : Bool) (k : Nat), d = .number s (z.natAbs * 2 ^ k) (-(k : Int)) ∧ (z ≠ 0 → s = decide (z < 0))
def FI (b : Nat) (z : Int) : Prop := DI (double.read b) z
theorem DI.write {d : Datum} {z : Int} (h : DI d z) (hz : z.natAbs < 9007199254740992) : FI (double.write d) z := by
  obtain ⟨s, k, rfl, hs⟩ := h
  unfold FI
  simp only [Format.write]
  by_cases c : z = 0
  · subst c
    rw [show (0 : Int).natAbs * 2 ^ k = 0 by simp, read_zero]
    obtain ⟨k0, hk0⟩ : ∃ k0 : Nat, k0 = 1074 := ⟨_, rfl⟩
    exact ⟨s, k0, by rw [Int.natAbs_zero, Nat.zero_mul, hk0]; rfl, fun h => absurd rfl h⟩
  · have hn : z.natAbs ≠ 0 := by omega
    rw [read_near s z.natAbs k hn hz]
    have hl := log2_le52 hn hz
    refine ⟨s, 52 - z.natAbs.log2, ?_, hs⟩
    congr 1
    omega
theorem DI.opposite {d : Datum} {z : Int} (h : DI d z) : DI d.opposite (-z) := by
  obtain ⟨s, k, rfl, hs⟩ := h
  refine ⟨!s, k, by simp [Datum.opposite], fun h => ?_⟩
  rw [hs (by omega)]
  by_cases c : z < 0
  · have : ¬ -z < 0 := by omega
    rw [decide_eq_true c, decide_eq_false this]
    rfl
  · have : -z < 0 := by omega
    rw [decide_eq_false c, decide_eq_true this]
    rfl
theorem signed_val {s : Bool} {z : Int} (k u : Nat) (hs : z ≠ 0 → s = decide (z < 0)) : Ieee.signed s (z.natAbs * 2 ^ k) u = z * 2 ^ (k + u) := by
  have e : (((z.natAbs * 2 ^ k) <<< u : Nat) : Int) = (z.natAbs : Int) * 2 ^ (k + u) := by
    rw [Nat.shiftLeft_eq, Nat.mul_assoc, ← Nat.pow_add]
    push_cast
    rfl
  unfold Ieee.signed
  rw [e]
  by_cases c : z = 0
  · subst c
    simp
  · rw [hs c]
    by_cases d : z < 0
    · rw [if_pos (by simpa using d), show (z.natAbs : Int) = -z by omega, Int.neg_mul, Int.neg_neg]
    · rw [if_neg (by simpa using d), show (z.natAbs : Int) = z by omega]
theorem DI.sum {d e : Datum} {x y : Int} (h : DI d x) (g : DI e y) : ∃ r, d.sum e = some r ∧ DI r (x + y) := by
  obtain ⟨s, k, rfl, hs⟩ := h
  obtain ⟨t, l, rfl, ht⟩ := g
  refine ⟨_, rfl, ?_⟩
  obtain ⟨K, hK, hk, hl⟩ : ∃ K : Nat, min (-(k : Int)) (-(l : Int)) = -(K : Int) ∧ k ≤ K ∧ l ≤ K := ⟨max k l, by omega, by omega, by omega⟩
  rw [hK, show (-(k : Int) - -(K : Int)).toNat = K - k by omega, show (-(l : Int) - -(K : Int)).toNat = K - l by omega, signed_val k (K - k) hs, signed_val l (K - l) ht, show k + (K - k) = K by omega, show l + (K - l) = K by omega, ← Int.add_mul]
  have hp : (0 : Int) < 2 ^ K := Int.pow_pos (by decide)
  refine ⟨_, K, by rw [Int.natAbs_mul]; simp only [Int.natAbs_pow]; rfl, fun hne => ?_⟩
  have h0 : (x + y) * 2 ^ K ≠ 0 := Int.mul_ne_zero hne (by omega)
  rw [if_neg h0]
  by_cases c : x + y < 0
  · have : (x + y) * 2 ^ K < 0 := Int.mul_neg_of_neg_of_pos c hp
    simp [c, this]
  · have : ¬ (x + y) * 2 ^ K < 0 := by
      have := Int.mul_nonneg (show 0 ≤ x + y by omega) (Int.le_of_lt hp)
      omega
    simp [c, this]
theorem DI.product {d e : Datum} {x y : Int} (h : DI d x) (g : DI e y) : ∃ r, d.product e = some r ∧ DI r (x * y) := by
  obtain ⟨s, k, rfl, hs⟩ := h
  obtain ⟨t, l, rfl, ht⟩ := g
  refine ⟨_, rfl, s ^^ t, k + l, ?_, fun hne => ?_⟩
  · congr 1
    · rw [Int.natAbs_mul, Nat.pow_add]
      simp only [Nat.mul_assoc, Nat.mul_comm, Nat.mul_left_comm]
    · omega
  · have hx : x ≠ 0 := by rintro rfl; simp at hne
    have hy : y ≠ 0 := by rintro rfl; simp at hne
    rw [hs hx, ht hy]
    rcases Int.lt_or_gt_of_ne hx with a | a <;> rcases Int.lt_or_gt_of_ne hy with b | b
    · have := Int.mul_pos_of_neg_of_neg a b
      simp [a, b, show ¬ x * y < 0 by omega]
    · have := Int.mul_neg_of_neg_of_pos a b
      simp [a, show ¬ y < 0 by omega, this]
    · have := Int.mul_neg_of_pos_of_neg a b
      simp [b, show ¬ x < 0 by omega, this]
    · have := Int.mul_pos a b
      simp [show ¬ x < 0 by omega, show ¬ y < 0 by omega, show ¬ x * y < 0 by omega]
theorem DI.order {d e : Datum} {x y : Int} (h : DI d x) (g : DI e y) : d.order e = some (compare x y) := by
  obtain ⟨s, k, rfl, hs⟩ := h
  obtain ⟨t, l, rfl, ht⟩ := g
  simp only [Datum.order]
  obtain ⟨K, hK, hk, hl⟩ : ∃ K : Nat, min (-(k : Int)) (-(l : Int)) = -(K : Int) ∧ k ≤ K ∧ l ≤ K := ⟨max k l, by omega, by omega, by omega⟩
  rw [hK, show (-(k : Int) - -(K : Int)).toNat = K - k by omega, show (-(l : Int) - -(K : Int)).toNat = K - l by omega, signed_val k (K - k) hs, signed_val l (K - l) ht, show k + (K - k) = K by omega, show l + (K - l) = K by omega]
  have hp : (0 : Int) < 2 ^ K := Int.pow_pos (by decide)
  congr 1
  simp only [compare, compareOfLessAndEq]
  have h1 : (x * 2 ^ K < y * 2 ^ K) ↔ x < y := ⟨fun h => Int.lt_of_mul_lt_mul_right h (Int.le_of_lt hp), fun h => Int.mul_lt_mul_of_pos_right h hp⟩
  have h2 : (x * 2 ^ K = y * 2 ^ K) ↔ x = y := ⟨fun h => Int.eq_of_mul_eq_mul_right (by omega) h, fun h => by rw [h]⟩
  simp only [h1, h2]
theorem DI.toInt {d : Datum} {z : Int} (h : DI d z) : d.toInt .zero = some z := by
  obtain ⟨s, k, rfl, hs⟩ := h
  simp only [Datum.toInt, Datum.integral]
  have e : Toward.zero.cut s ((z.natAbs * 2 ^ k) <<< (-(k : Int)).toNat) (- -(k : Int)).toNat = z.natAbs := by
    rw [show (- -(k : Int)).toNat = k by omega]
    by_cases c : k = 0
    · subst c
      rw [show (-((0 : Nat) : Int)).toNat = 0 by omega, Nat.shiftLeft_zero]
      exact cutz_exact s _ 0 (by omega)
    · rw [show (-(k : Int)).toNat = 0 by omega, Nat.shiftLeft_zero]
      by_cases d0 : z.natAbs = 0
      · rw [d0]
        simp [Toward.cut]
      · refine cutz_exact s _ k ?_
        rw [log2_shift _ _ d0]
        omega
  rw [e]
  have h := signed_val (s := s) (z := z) 0 0 hs
  simp only [Nat.pow_zero, Nat.mul_one, Nat.add_zero, Int.pow_zero, Int.mul_one] at h
  rw [h]
theorem FI.zero : FI 0 0 := ⟨false, 1074, by decide +kernel, fun h => absurd rfl h⟩
theorem FI.one : FI 4607182418800017408 1 := ⟨false, 52, by decide +kernel, fun _ => by decide⟩
theorem FI.far : FI 4832362400168542208 1125899906842624 := ⟨false, 2, by decide +kernel, fun _ => by decide⟩
theorem FI.add {a b : Nat} {x y : Int} (h : FI a x) (g : FI b y) (hz : (x + y).natAbs < 9007199254740992) : ∃ r, floatBits .add .f64 a b = some r ∧ FI r (x + y) := by
  obtain ⟨r, h1, h2⟩ := DI.sum h g
  exact ⟨_, by show ((double.read a).sum (double.read b)).map double.write = _; rw [h1]; rfl, h2.write hz⟩
theorem FI.sub {a b : Nat} {x y : Int} (h : FI a x) (g : FI b y) (hz : (x + -y).natAbs < 9007199254740992) : ∃ r, floatBits .sub .f64 a b = some r ∧ FI r (x + -y) := by
  obtain ⟨r, h1, h2⟩ := DI.sum h (DI.opposite g)
  exact ⟨_, by show ((double.read a).sum (double.read b).opposite).map double.write = _; rw [h1]; rfl, h2.write hz⟩
theorem FI.mul {a b : Nat} {x y : Int} (h : FI a x) (g : FI b y) (hz : (x * y).natAbs < 9007199254740992) : ∃ r, floatBits .mul .f64 a b = some r ∧ FI r (x * y) := by
  obtain ⟨r, h1, h2⟩ := DI.product h g
  exact ⟨_, by show ((double.read a).product (double.read b)).map double.write = _; rw [h1]; rfl, h2.write hz⟩
theorem FI.order {a b : Nat} {x y : Int} (h : FI a x) (g : FI b y) : FloatKind.f64.format.order a b = some (compare x y) := DI.order h g
theorem FI.toInt {b : Nat} {z : Int} (h : FI b z) (h0 : -9223372036854775808 ≤ z) (h1 : z ≤ 9223372036854775807) : floatToIntVal .f64 b .i64 = some z := by
  unfold floatToIntVal
  have e : (FloatKind.f64.decode b).toInt .zero = some z := DI.toInt h
  rw [e]
  show (if IntKind.i64.min ≤ z ∧ z ≤ IntKind.i64.max then some z else none) = some z
  exact if_pos ⟨h0, h1⟩
theorem FI.ofInt (n : Int) (hz : n.natAbs < 9007199254740992) : FI (floatOfInt .f64 n) n := by
  have h : DI (.number (decide (n < 0)) n.natAbs 0) n := ⟨_, 0, by simp, fun _ => rfl⟩
  exact h.write hz
/-- Two parts. -/
theorem FI.csum {a b c d : Nat} {x y u v : Int} (ha : FI a x) (hb : FI b y) (hc : FI c u) (hd : FI d v) (h1 : (x + u).natAbs < 9007199254740992) (h2 : (y + v).natAbs < 9007199254740992) : ∃ re im, cSumBits .add .f64 a b c d = some (re, im) ∧ FI re (x + u) ∧ FI im (y + v) := by
  obtain ⟨r, e1, f1⟩ := ha.add hc h1
  obtain ⟨i, e2, f2⟩ := hb.add hd h2
  exact ⟨r, i, by simp [cSumBits, e1, e2], f1, f2⟩
/-- A quarter turn. -/
theorem FI.turn {a b : Nat} {x y : Int} (ha : FI a x) (hb : FI b y) (h1 : x.natAbs < 9007199254740992) (h2 : y.natAbs < 9007199254740992) : ∃ re im, cMulBits a b 0 4607182418800017408 = some (re, im) ∧ FI re (-y) ∧ FI im x := by
  obtain ⟨r1, e1, f1⟩ := ha.mul FI.zero (by simp)
  obtain ⟨r2, e2, f2⟩ := hb.mul FI.one (by simpa using h2)
  obtain ⟨r3, e3, f3⟩ := f1.sub f2 (by simpa using h2)
  obtain ⟨r4, e4, f4⟩ := ha.mul FI.one (by simpa using h1)
  obtain ⟨r5, e5, f5⟩ := hb.mul FI.zero (by simp)
  obtain ⟨r6, e6, f6⟩ := f4.add f5 (by simpa using h1)
  refine ⟨r3, r6, by simp [cMulBits, e1, e2, e3, e4, e5, e6], ?_, ?_⟩
  · simpa using f3
  · simpa using f6
theorem read_neg (b : Nat) : double.read (b ^^^ 9223372036854775808) = (match double.read b with | .number s m p => .number (!s) m p | .infinity s => .infinity (!s) | .nan s t => .nan (!s) t) := by
  have e1 : (b ^^^ 9223372036854775808) % 9223372036854775808 = b % 9223372036854775808 := by
    have h := Nat.xor_mod_two_pow (a := b) (b := 9223372036854775808) (n := 63)
    simpa using h
  have e2 : ((b ^^^ 9223372036854775808) / 9223372036854775808 % 2 == 1) = !(b / 9223372036854775808 % 2 == 1) := by
    have h := Nat.xor_div_two_pow (a := b) (b := 9223372036854775808) (n := 63)
    have h2 : (b ^^^ 9223372036854775808) / 9223372036854775808 = (b / 9223372036854775808) ^^^ 1 := by simpa using h
    rw [h2]
    have h3 := Nat.xor_mod_two_pow (a := b / 9223372036854775808) (b := 1) (n := 1)
    simp only [Nat.pow_one] at h3
    rw [h3]
    rcases Nat.mod_two_eq_zero_or_one (b / 9223372036854775808) with h4 | h4 <;> rw [h4] <;> rfl
  simp only [Format.read, dbl_sign, e1, e2]
  split
  · rfl
  · split
    · rfl
    · split <;> rfl
theorem FI.neg {b : Nat} {z : Int} (h : FI b z) : FI (Op.negFloat .f64 b) (-z) := by
  have e : Op.negFloat .f64 b = b ^^^ 9223372036854775808 := rfl
  unfold FI
  rw [e, read_neg]
  have := DI.opposite h
  revert this
  cases double.read b <;> exact id
end Go.Proofs.YtnidaahimofppaaGreat

/- Texts as lists of bytes; small words for walks. -/
namespace Go.Proofs.YtnidaahimofppaaGreat
open Go.RowKit
set_option linter.unusedVariables false
set_option linter.unusedSimpArgs false

/-- A text's bytes. -/
abbrev tx (s : ByteArray) : List UInt8 := s.data.toList
theorem tx_len (s : ByteArray) : (tx s).length = s.size := by rw [tx, Array.length_toList]; rfl
theorem tx_get (s : ByteArray) (i : Nat) (hi : i < s.size) : (tx s)[i]? = some s[i] := by
  rw [tx, Array.getElem?_toList]
  exact Array.getElem?_eq_getElem (xs := s.data) hi
theorem tx_cut (s : ByteArray) (a b : Nat) : tx (s.extract a b) = ((tx s).drop a).take (b - a) := Lib.extract_data s a b
theorem tx_take (s : ByteArray) (n : Nat) : tx (s.extract 0 n) = (tx s).take n := by rw [tx_cut]; simp
theorem tx_drop (s : ByteArray) (n : Nat) : tx (s.extract n s.size) = (tx s).drop n := by
  rw [tx_cut, List.take_of_length_le]
  rw [List.length_drop, tx_len]; exact Nat.le_refl _
theorem tx_toList (s : ByteArray) : s.toList = tx s := Lib.toList_data s
theorem tx_inj {a b : ByteArray} (h : tx a = tx b) : a = b := Go.WideShapes.bytes_inj h
theorem tx_eqb (s : ByteArray) (l : List UInt8) : (s.toList == l) = decide (tx s = l) := by rw [tx_toList]; exact Bool.eq_iff_iff.2 (by simp)
theorem tx_dropc (s : ByteArray) (i : Nat) (hi : i < s.size) : (tx s).drop i = s[i] :: (tx s).drop (i + 1) := by
  have hl : i < (tx s).length := by rw [tx_len]; exact hi
  rw [List.drop_eq_getElem_cons hl]
  have h1 := tx_get s i hi
  rw [List.getElem?_eq_getElem hl] at h1
  injection h1 with h1
  rw [h1]
theorem tx_cons (s : ByteArray) (h0 : 0 < s.size) : ∃ t, tx s = s[0] :: t ∧ tx (s.extract 1 s.size) = t := by
  have h := tx_dropc s 0 h0
  rw [List.drop_zero] at h
  exact ⟨_, h, tx_drop s 1⟩
theorem tx_nil {s : ByteArray} (h : s.size = 0) : tx s = [] := List.eq_nil_of_length_eq_zero (by rw [tx_len, h])
theorem isE_yes {s : ByteArray} (h : s.size = 0) : s.toList.isEmpty = true := by rw [tx_toList, tx_nil h]; rfl
theorem isE_no {s : ByteArray} (h : 0 < s.size) : s.toList.isEmpty = false := by
  obtain ⟨t, ht, _⟩ := tx_cons s h
  rw [tx_toList, ht]; rfl
theorem isE_tx (s : ByteArray) : s.toList.isEmpty = decide (tx s = []) := by
  rw [tx_toList]
  cases tx s <;> simp
theorem u8_back (b : UInt8) : (((b.toNat : Nat) : Int)).toNat.toUInt8 = b := by simp
theorem u8_eq {b c : UInt8} : ((b.toNat : Int) == (c.toNat : Int)) = decide (b = c) := by
  rw [Bool.eq_iff_iff]
  simp only [beq_iff_eq, decide_eq_true_eq]
  constructor
  · intro h; exact UInt8.toNat_inj.1 (by omega)
  · rintro rfl; rfl
theorem less_step {n i : Nat} (hw : wrap64 ((i : Int) + 1) = (i : Int) + 1) (h : i < n) : n - (intOf (.int .i64 (wrap64 ((i : Int) + 1)))).toNat < n - (intOf (.int .i64 (i : Int))).toNat := by
  rw [hw]
  simp only [intOf]
  omega
/-- A text of these bytes. -/
def bs (l : List UInt8) : ByteArray := ⟨l.toArray⟩
theorem tx_bs (l : List UInt8) : tx (bs l) = l := by simp [tx, bs]
theorem bs_tx (s : ByteArray) : bs (tx s) = s := tx_inj (tx_bs _)
theorem bs_size (l : List UInt8) : (bs l).size = l.length := by rw [← tx_len, tx_bs]
theorem bs_app (l m : List UInt8) : bs l ++ bs m = bs (l ++ m) := tx_inj (by simp [tx, bs])
def nums (l : List UInt8) : List Int := l.map (fun b => (b.toNat : Int))
theorem nums_app (l m : List UInt8) : nums (l ++ m) = nums l ++ nums m := by simp [nums]
theorem strOf_nums (l : List UInt8) : strOfNums (nums l) = bs l := by
  have : ((nums l).map fun n => UInt8.ofNat n.toNat) = l := by
    simp only [nums, List.map_map]
    refine (List.map_congr_left (fun u _ => ?_)).trans (List.map_id _)
    simp
  simp only [strOfNums, this, bs]
end Go.Proofs.YtnidaahimofppaaGreat

/- Layer 7 (schema), plain words (no program in sight): columns, names, which are schemas. -/
namespace Go.Proofs.YtnidaahimofppaaGreat
set_option linter.unusedVariables false
set_option linter.unusedSimpArgs false

/-- A column as it lies in memory. -/
structure Cl where
  s : ByteArray
  k : Int
/-- (No bound on a text's size is wanted: names are looked at only up to 16 bytes.) -/
def SzB (_ : ByteArray) : Prop := True
theorem Cl.ext' {x y : Cl} (h1 : x.s = y.s) (h2 : x.k = y.k) : x = y := by
  obtain ⟨a, b⟩ := x
  obtain ⟨d, e⟩ := y
  simp only at h1 h2
  subst h1 h2
  rfl
def letC (b : UInt8) : Bool := decide (97 ≤ b.toNat) && decide (b.toNat ≤ 122)
def digD (b : UInt8) : Bool := decide (48 ≤ b.toNat) && decide (b.toNat ≤ 57)
def ldC (b : UInt8) : Bool := letC b || digD b
/-- 'and', 'or', 'not', 'len'. -/
def keyN (l : List UInt8) : Bool := decide (l = [97, 110, 100]) || decide (l = [111, 114]) || decide (l = [110, 111, 116]) || decide (l = [108, 101, 110])
def headN : List UInt8 → Bool
  | [] => false
  | b :: _ => decide (97 ≤ b.toNat)
def nameN (l : List UInt8) : Bool := decide (l.length ≤ 16) && headN l && l.all ldC && !keyN l
/-- The first column of a name. -/
def idxC : List Cl → ByteArray → Nat → Int
  | [], _, _ => -1
  | x :: r, s, i => if x.s = s then (i : Int) else idxC r s (i + 1)
def idx (cs : List Cl) (s : ByteArray) : Int := idxC cs s 0
theorem idxC_none {cs : List Cl} {s : ByteArray} (n : Nat) (h : ∀ x ∈ cs, x.s ≠ s) : idxC cs s n = -1 := by
  induction cs generalizing n with
  | nil => rfl
  | cons x r ih =>
    rw [idxC, if_neg (h x (by simp))]
    exact ih _ (fun y hy => h y (by simp [hy]))
theorem idxC_some {cs : List Cl} {s : ByteArray} (n i : Nat) (hi : i < cs.length) (he : cs[i].s = s) (h : ∀ j, (hj : j < i) → (cs[j]'(by omega)).s ≠ s) : idxC cs s n = ((n + i : Nat) : Int) := by
  induction cs generalizing n i with
  | nil => simp at hi
  | cons x r ih =>
    cases i with
    | zero =>
      have he2 : x.s = s := he
      rw [idxC, if_pos he2, Nat.add_zero]
    | succ i =>
      have h0 : x.s ≠ s := h 0 (by omega)
      rw [idxC, if_neg h0, ih (n + 1) i (by simpa using hi) he (fun j hj => h (j + 1) (by omega))]
      congr 1
      omega
theorem idx_none {cs : List Cl} {s : ByteArray} (h : ∀ x ∈ cs, x.s ≠ s) : idx cs s = -1 := idxC_none 0 h
theorem idx_some {cs : List Cl} {s : ByteArray} (i : Nat) (hi : i < cs.length) (he : cs[i].s = s) (h : ∀ j, (hj : j < i) → (cs[j]'(by omega)).s ≠ s) : idx cs s = (i : Int) := by
  have := idxC_some 0 i hi he h
  rwa [Nat.zero_add] at this
theorem idxC_ge (cs : List Cl) (s : ByteArray) (n : Nat) : idxC cs s n = -1 ∨ ∃ i, n ≤ i ∧ i < n + cs.length ∧ idxC cs s n = (i : Int) := by
  induction cs generalizing n with
  | nil => exact .inl rfl
  | cons x r ih =>
    rw [idxC]
    split
    · exact .inr ⟨n, Nat.le_refl _, by simp, rfl⟩
    · rcases ih (n + 1) with h | ⟨i, h1, h2, h3⟩
      · exact .inl h
      · exact .inr ⟨i, by omega, by simp only [List.length_cons]; omega, h3⟩
theorem idxC_before (cs : List Cl) (s : ByteArray) (n i : Nat) (h : idxC cs s n = ((n + i : Nat) : Int)) : ∀ j, (hj : j < i) → ∀ hl : j < cs.length, cs[j].s ≠ s := by
  induction cs generalizing n i with
  | nil => intro j hj hl; simp at hl
  | cons x r ih =>
    intro j hj hl
    rw [idxC] at h
    split at h
    · omega
    · rename_i hx
      cases j with
      | zero => exact hx
      | succ j =>
        have h2 : idxC r s (n + 1) = (((n + 1) + (i - 1) : Nat) : Int) := by rw [h]; congr 1; omega
        exact ih (n + 1) (i - 1) h2 j (by omega) (by simpa using hl)
theorem idx_first {cs : List Cl} {s : ByteArray} (i : Nat) (hi : i < cs.length) (he : cs[i].s = s) : idx cs s = (i : Int) ↔ ∀ j, (hj : j < i) → (cs[j]'(by omega)).s ≠ s := by
  constructor
  · intro h j hj
    exact idxC_before cs s 0 i (by rw [Nat.zero_add]; exact h) j hj (by omega)
  · intro h
    exact idx_some i hi he h
def kindB (k : Int) : Bool := decide (k = 1) || decide (k = 2)
/-- Is all well with the column at i? -/
def okAt (cs : List Cl) (i : Nat) : Bool := if h : i < cs.length then nameN (tx cs[i].s) && kindB cs[i].k && decide (idx cs cs[i].s = (i : Int)) else true
def mayC (cs : List Cl) : Bool := decide (1 ≤ cs.length ∧ cs.length ≤ 8) && (List.range cs.length).all (okAt cs)
theorem mayC_iff {cs : List Cl} : mayC cs = true ↔ (1 ≤ cs.length ∧ cs.length ≤ 8) ∧ ∀ i, i < cs.length → okAt cs i = true := by
  simp only [mayC, Bool.and_eq_true, decide_eq_true_eq, List.all_eq_true, List.mem_range]
theorem mayC_len0 {cs : List Cl} (h : ¬ (1 ≤ cs.length ∧ cs.length ≤ 8)) : mayC cs = false := by simp [mayC, h]
theorem mayC_bad {cs : List Cl} (i : Nat) (hi : i < cs.length) (h : okAt cs i = false) : mayC cs = false := by
  rw [Bool.eq_false_iff]
  intro hm
  rw [(mayC_iff.1 hm).2 i hi] at h
  cases h
end Go.Proofs.YtnidaahimofppaaGreat

/- Plain words on values (no program in sight): which are ones, how they stand to each other. -/
namespace Go.Proofs.YtnidaahimofppaaGreat
set_option linter.unusedVariables false
set_option linter.unusedSimpArgs false

abbrev Bs := List UInt8
/-- A value: a kind, a number, a text. -/
structure Va where
  k : Int
  n : Int
  t : Bs
def mayV (v : Va) : Bool := (decide (v.k = 1) && decide (v.t = [])) || (decide (v.k = 2) && decide (v.n = 0) && decide (v.t.length ≤ 64))
theorem mayV_iff {v : Va} : mayV v = true ↔ (v.k = 1 ∧ v.t = []) ∨ (v.k = 2 ∧ v.n = 0 ∧ v.t.length ≤ 64) := by
  simp [mayV, and_assoc]
def cmpI (x y : Int) : Int := if x < y then -1 else if y < x then 1 else 0
def cmpV (a b : Va) : Int :=
  if mayV a && mayV b then
    if a.k = 1 then (if b.k = 1 then cmpI a.n b.n else -1)
    else (if b.k = 1 then 1 else Lib.compareBytes a.t b.t)
  else 0
/-! ### the order of texts -/
theorem u8_lt {a b : UInt8} : a < b ↔ a.toNat < b.toNat := UInt8.lt_iff_toNat_lt
theorem u8_same {a b : UInt8} (h1 : ¬ a < b) (h2 : ¬ b < a) : a = b := by
  rw [u8_lt] at h1 h2
  exact UInt8.toNat_inj.1 (by omega)
theorem cb_range (a b : Bs) : Lib.compareBytes a b = -1 ∨ Lib.compareBytes a b = 0 ∨ Lib.compareBytes a b = 1 := by
  induction a generalizing b with
  | nil => cases b <;> simp [Lib.compareBytes]
  | cons x a ih =>
    cases b with
    | nil => simp [Lib.compareBytes]
    | cons y b =>
      simp only [Lib.compareBytes]
      split
      · simp
      · split
        · simp
        · exact ih b
theorem cb_flip (a b : Bs) : Lib.compareBytes b a = - Lib.compareBytes a b := by
  induction a generalizing b with
  | nil => cases b <;> simp [Lib.compareBytes]
  | cons x a ih =>
    cases b with
    | nil => simp [Lib.compareBytes]
    | cons y b =>
      simp only [Lib.compareBytes]
      by_cases h1 : x < y
      · have h2 : ¬ y < x := by rw [u8_lt] at h1 ⊢; omega
        simp [h1, h2]
      · by_cases h2 : y < x
        · simp [h1, h2]
        · simp only [h1, h2, if_false]
          exact ih b
theorem cb_zero (a b : Bs) : Lib.compareBytes a b = 0 ↔ a = b := by
  induction a generalizing b with
  | nil => cases b <;> simp [Lib.compareBytes]
  | cons x a ih =>
    cases b with
    | nil => simp [Lib.compareBytes]
    | cons y b =>
      simp only [Lib.compareBytes]
      by_cases h1 : x < y
      · have : x ≠ y := by rintro rfl; rw [u8_lt] at h1; omega
        simp [h1, this]
      · by_cases h2 : y < x
        · have : x ≠ y := by rintro rfl; rw [u8_lt] at h2; omega
          simp [h1, h2, this]
        · obtain rfl := u8_same h1 h2
          simp only [h1, if_false, ih b, List.cons.injEq, true_and]
theorem cb_trans (a b c : Bs) (h1 : Lib.compareBytes a b ≤ 0) (h2 : Lib.compareBytes b c ≤ 0) : Lib.compareBytes a c = min (Lib.compareBytes a b) (Lib.compareBytes b c) := by
  induction a generalizing b c with
  | nil =>
    cases b with
    | nil => cases c <;> simp [Lib.compareBytes] <;> decide
    | cons y b =>
      cases c with
      | nil => simp [Lib.compareBytes] at h2
      | cons z c =>
        have := cb_range (y :: b) (z :: c)
        simp only [Lib.compareBytes] at this ⊢
        omega
  | cons x a ih =>
    cases b with
    | nil => simp [Lib.compareBytes] at h1
    | cons y b =>
      cases c with
      | nil => simp [Lib.compareBytes] at h2
      | cons z c =>
        have r1 := cb_range a b
        have r2 := cb_range b c
        simp only [Lib.compareBytes] at h1 h2 ⊢
        by_cases xy : x < y
        · by_cases yz : y < z
          · have : x < z := by rw [u8_lt] at *; omega
            simp [xy, yz, this]
          · by_cases zy : z < y
            · simp [yz, zy] at h2
            · obtain rfl := u8_same yz zy
              simp only [xy, yz, if_true, if_false]
              omega
        · by_cases yx : y < x
          · simp [xy, yx] at h1
          · obtain rfl := u8_same xy yx
            by_cases yz : x < z
            · simp only [xy, yz, if_true, if_false]
              omega
            · by_cases zy : z < x
              · simp [yz, zy] at h2
              · obtain rfl := u8_same yz zy
                simp only [xy, if_false] at h1 h2 ⊢
                exact ih b c h1 h2
/-! ### the order of values -/
theorem cmpI_flip (x y : Int) : cmpI y x = - cmpI x y := by
  unfold cmpI
  split <;> split <;> (try split) <;> omega
theorem cmpV_flip (a b : Va) : cmpV b a = - cmpV a b := by
  unfold cmpV
  by_cases h : (mayV a && mayV b) = true
  · have h' : (mayV b && mayV a) = true := by rw [Bool.and_comm]; exact h
    rw [if_pos h, if_pos h']
    by_cases ka : a.k = 1
    · by_cases kb : b.k = 1
      · simp only [ka, kb, if_true]; exact cmpI_flip _ _
      · simp only [ka, kb, if_true, if_false]; decide
    · by_cases kb : b.k = 1
      · simp only [ka, kb, if_true, if_false]
      · simp only [ka, kb, if_false]; exact cb_flip _ _
  · have h' : ¬ (mayV b && mayV a) = true := by rw [Bool.and_comm]; exact h
    rw [if_neg h, if_neg h']; rfl
theorem cmpV_trans (a b c : Va) (ha : mayV a = true) (hb : mayV b = true) (hc : mayV c = true) (h1 : cmpV a b ≤ 0) (h2 : cmpV b c ≤ 0) : cmpV a c = min (cmpV a b) (cmpV b c) := by
  unfold cmpV at *
  simp only [ha, hb, hc, Bool.and_self, if_true] at *
  by_cases ka : a.k = 1 <;> by_cases kb : b.k = 1 <;> by_cases kc : c.k = 1 <;> simp only [ka, kb, kc, if_true, if_false] at *
  · unfold cmpI at *
    split at h1 <;> split at h2 <;> split <;> (try split) <;> omega
  · unfold cmpI at *
    split at h1 <;> (try split) <;> omega
  · omega
  · have := cb_range b.t c.t
    omega
  · omega
  · omega
  · omega
  · exact cb_trans _ _ _ h1 h2
theorem cmpV_zero (a b : Va) (ha : mayV a = true) (hb : mayV b = true) : cmpV a b = 0 ↔ (a.k = b.k ∧ a.n = b.n ∧ a.t = b.t) := by
  unfold cmpV
  simp only [ha, hb, Bool.and_self, if_true]
  rw [mayV_iff] at ha hb
  rcases ha with ⟨ka, ta⟩ | ⟨ka, na, _⟩ <;> rcases hb with ⟨kb, tb⟩ | ⟨kb, nb, _⟩
  · simp only [ka, kb, ta, tb, if_true, true_and, and_true]
    unfold cmpI
    split
    · constructor
      · intro h; cases h
      · intro h; omega
    · split
      · constructor
        · intro h; cases h
        · intro h; omega
      · constructor
        · intro h; omega
        · intro h; rfl
  · simp [ka, kb]
  · simp [ka, kb]
  · simp only [ka, kb, na, nb, show ¬ ((2 : Int) = 1) by decide, if_false, true_and]
    exact cb_zero _ _
end Go.Proofs.YtnidaahimofppaaGreat

/- Layer 6 (row), plain words (no program in sight): rows, which are ones, how they stand, what is written. -/
namespace Go.Proofs.YtnidaahimofppaaGreat
set_option linter.unusedVariables false
set_option linter.unusedSimpArgs false

/-- A value as it lies in memory. -/
structure Vr where
  k : Int
  n : Int
  s : ByteArray
def Vr.va (x : Vr) : Va := ⟨x.k, x.n, tx x.s⟩
theorem Vr.ext' {x y : Vr} (h1 : x.k = y.k) (h2 : x.n = y.n) (h3 : x.s = y.s) : x = y := by
  obtain ⟨a, b, c⟩ := x
  obtain ⟨d, e, f⟩ := y
  simp only at h1 h2 h3
  subst h1 h2 h3
  rfl
theorem Vr.va_inj {x y : Vr} (h : x.va = y.va) : x = y := by
  simp only [Vr.va, Va.mk.injEq] at h
  exact Vr.ext' h.1 h.2.1 (tx_inj h.2.2)
/-- The same value? as the machine asks. -/
def Vr.eqb (x y : Vr) : Bool := decide (x.k = y.k) && decide (x.n = y.n) && decide (x.s = y.s)
theorem Vr.eqb_iff {x y : Vr} : x.eqb y = true ↔ x = y := by
  constructor
  · intro h
    simp only [Vr.eqb, Bool.and_eq_true, decide_eq_true_eq] at h
    exact Vr.ext' h.1.1 h.1.2 h.2
  · rintro rfl
    simp [Vr.eqb]
theorem Vr.eqb_refl (x : Vr) : x.eqb x = true := Vr.eqb_iff.2 rfl
def sameR : List Vr → List Vr → Bool
  | [], [] => true
  | x :: a, y :: b => x.eqb y && sameR a b
  | _, _ => false
theorem sameR_iff {a b : List Vr} : sameR a b = true ↔ a = b := by
  induction a generalizing b with
  | nil => cases b <;> simp [sameR]
  | cons x a ih =>
    cases b with
    | nil => simp [sameR]
    | cons y b => simp [sameR, Vr.eqb_iff, ih]
theorem sameR_refl (a : List Vr) : sameR a a = true := sameR_iff.2 rfl
/-- Is it a row? -/
def allM (xs : List Vr) : Bool := xs.all (fun x => mayV x.va)
def mayR (xs : List Vr) : Bool := decide (xs.length ≤ 8) && allM xs
theorem mayR_iff {xs : List Vr} : mayR xs = true ↔ xs.length ≤ 8 ∧ ∀ x ∈ xs, mayV x.va = true := by simp [mayR, allM]
/-- How two rows stand. -/
def cmpL : List Vr → List Vr → Int
  | [], [] => 0
  | [], _ :: _ => -1
  | _ :: _, [] => 1
  | x :: a, y :: b => if x.eqb y = true then cmpL a b else cmpV x.va y.va
def cmpR (a b : List Vr) : Int := if mayR a = true ∧ mayR b = true then cmpL a b else 0
theorem cmpV_0 {x y : Vr} (hx : mayV x.va = true) (hy : mayV y.va = true) : cmpV x.va y.va = 0 ↔ x = y := by
  rw [cmpV_zero _ _ hx hy]
  constructor
  · rintro ⟨h1, h2, h3⟩
    exact Vr.ext' h1 h2 (tx_inj h3)
  · rintro rfl
    exact ⟨rfl, rfl, rfl⟩
theorem cmpV_range2 (a b : Va) : cmpV a b = -1 ∨ cmpV a b = 0 ∨ cmpV a b = 1 := by
  unfold cmpV cmpI
  have := cb_range a.t b.t
  split
  · split
    · split
      · split
        · omega
        · split <;> omega
      · omega
    · split <;> omega
  · omega
theorem cmpL_range (a b : List Vr) : cmpL a b = -1 ∨ cmpL a b = 0 ∨ cmpL a b = 1 := by
  induction a generalizing b with
  | nil => cases b <;> simp [cmpL]
  | cons x a ih =>
    cases b with
    | nil => simp [cmpL]
    | cons y b =>
      simp only [cmpL]
      split
      · exact ih b
      · exact cmpV_range2 _ _
theorem cmpL_flip (a b : List Vr) : cmpL b a = - cmpL a b := by
  induction a generalizing b with
  | nil => cases b <;> simp [cmpL]
  | cons x a ih =>
    cases b with
    | nil => simp [cmpL]
    | cons y b =>
      simp only [cmpL]
      by_cases e : x = y
      · subst e
        rw [if_pos (Vr.eqb_refl x), if_pos (Vr.eqb_refl x)]
        exact ih b
      · have h1 : ¬ y.eqb x = true := fun h => e (Vr.eqb_iff.1 h).symm
        have h2 : ¬ x.eqb y = true := fun h => e (Vr.eqb_iff.1 h)
        rw [if_neg h1, if_neg h2]
        exact cmpV_flip _ _
theorem cmpL_zero (a b : List Vr) (ha : ∀ x ∈ a, mayV x.va = true) (hb : ∀ x ∈ b, mayV x.va = true) : cmpL a b = 0 ↔ a = b := by
  induction a generalizing b with
  | nil => cases b <;> simp [cmpL]
  | cons x a ih =>
    cases b with
    | nil => simp [cmpL]
    | cons y b =>
      simp only [cmpL]
      by_cases e : x = y
      · subst e
        rw [if_pos (Vr.eqb_refl x), ih b (fun z hz => ha z (by simp [hz])) (fun z hz => hb z (by simp [hz]))]
        simp
      · have h2 : ¬ x.eqb y = true := fun h => e (Vr.eqb_iff.1 h)
        rw [if_neg h2, cmpV_0 (ha x (by simp)) (hb y (by simp))]
        simp [e]
theorem cmpL_trans (a b c : List Vr) (ha : ∀ x ∈ a, mayV x.va = true) (hb : ∀ x ∈ b, mayV x.va = true) (hc : ∀ x ∈ c, mayV x.va = true) (h1 : cmpL a b ≤ 0) (h2 : cmpL b c ≤ 0) : cmpL a c = min (cmpL a b) (cmpL b c) := by
  induction a generalizing b c with
  | nil =>
    cases b with
    | nil =>
      cases c with
      | nil => simp [cmpL]
      | cons z c => simp only [cmpL]; omega
    | cons y b =>
      cases c with
      | nil => simp [cmpL] at h2
      | cons z c =>
        have : cmpL (y :: b) (z :: c) = -1 ∨ cmpL (y :: b) (z :: c) = 0 ∨ cmpL (y :: b) (z :: c) = 1 := cmpL_range _ _
        simp only [cmpL] at this ⊢
        omega
  | cons x a ih =>
    cases b with
    | nil => simp [cmpL] at h1
    | cons y b =>
      cases c with
      | nil => simp [cmpL] at h2
      | cons z c =>
        have hx := ha x (by simp)
        have hy := hb y (by simp)
        have hz := hc z (by simp)
        simp only [cmpL] at h1 h2 ⊢
        by_cases e1 : x = y
        · subst e1
          simp only [Vr.eqb_refl, if_true] at h1 ⊢
          by_cases e2 : x = z
          · subst e2
            simp only [Vr.eqb_refl, if_true] at h2 ⊢
            exact ih b c (fun w hw => ha w (by simp [hw])) (fun w hw => hb w (by simp [hw])) (fun w hw => hc w (by simp [hw])) h1 h2
          · have n2 : x.eqb z = false := by
              cases h : x.eqb z with
              | false => rfl
              | true => exact absurd (Vr.eqb_iff.1 h) e2
            simp only [n2] at h2 ⊢
            simp only [Bool.false_eq_true, if_false] at h2 ⊢
            have := cmpV_range2 x.va z.va
            have h0 : cmpV x.va z.va ≠ 0 := fun h => e2 ((cmpV_0 hx hz).1 h)
            have := cmpL_range a b
            omega
        · have n1 : x.eqb y = false := by
            cases h : x.eqb y with
            | false => rfl
            | true => exact absurd (Vr.eqb_iff.1 h) e1
          simp only [n1, Bool.false_eq_true, if_false] at h1 ⊢
          have h0 : cmpV x.va y.va ≠ 0 := fun h => e1 ((cmpV_0 hx hy).1 h)
          have r1 := cmpV_range2 x.va y.va
          by_cases e2 : y = z
          · subst e2
            simp only [Vr.eqb_refl, if_true, n1, Bool.false_eq_true, if_false] at h2 ⊢
            have := cmpL_range b c
            omega
          · have n2 : y.eqb z = false := by
              cases h : y.eqb z with
              | false => rfl
              | true => exact absurd (Vr.eqb_iff.1 h) e2
            simp only [n2, Bool.false_eq_true, if_false] at h2 ⊢
            have h3 := cmpV_trans x.va y.va z.va hx hy hz h1 h2
            have r2 := cmpV_range2 y.va z.va
            have e3 : x ≠ z := by
              rintro rfl
              have h4 := cmpV_flip x.va y.va
              rw [h4] at h2
              omega
            have n3 : x.eqb z = false := by
              cases h : x.eqb z with
              | false => rfl
              | true => exact absurd (Vr.eqb_iff.1 h) e3
            simp only [n3, Bool.false_eq_true, if_false]
            exact h3
end Go.Proofs.YtnidaahimofppaaGreat

/- Layer 26 (tally), plain: a number for each value; the numbers stand to each other as the values do. -/
namespace Go.Proofs.YtnidaahimofppaaGreat
set_option linter.unusedVariables false
set_option linter.unusedSimpArgs false

/-- A text as a number of d digits to the base of 257. -/
def tc : Nat → List UInt8 → Nat
  | 0, _ => 0
  | _ + 1, [] => 0
  | d + 1, b :: r => (b.toNat + 1) * 257 ^ d + tc d r
theorem tc_lt (d : Nat) (l : List UInt8) : tc d l < 257 ^ d := by
  induction d generalizing l with
  | zero => simp [tc]
  | succ d ih =>
    have hp : 0 < 257 ^ d := Nat.pow_pos (by decide)
    cases l with
    | nil => simp only [tc]; exact Nat.pow_pos (by decide)
    | cons b r =>
      have h1 := ih r
      have hb : b.toNat < 256 := b.toNat_lt
      have h2 : (b.toNat + 1) * 257 ^ d ≤ 256 * 257 ^ d := Nat.mul_le_mul_right _ (by omega)
      simp only [tc, Nat.pow_succ]
      omega
def cmpN (x y : Nat) : Int := if x < y then -1 else if y < x then 1 else 0
theorem cmpN_lt {x y : Nat} (h : x < y) : cmpN x y = -1 := if_pos h
theorem cmpN_gt {x y : Nat} (h : y < x) : cmpN x y = 1 := by unfold cmpN; rw [if_neg (by omega), if_pos h]
theorem cmpN_eq (x : Nat) : cmpN x x = 0 := by unfold cmpN; rw [if_neg (by omega), if_neg (by omega)]
theorem cmpN_add (B x y : Nat) : cmpN (B + x) (B + y) = cmpN x y := by
  rcases Nat.lt_trichotomy x y with h | h | h
  · rw [cmpN_lt h, cmpN_lt (by omega)]
  · subst h; rw [cmpN_eq, cmpN_eq]
  · rw [cmpN_gt h, cmpN_gt (by omega)]
theorem cmpN_int (x y : Nat) : cmpN x y = cmpI (x : Int) (y : Int) := by
  unfold cmpI
  rcases Nat.lt_trichotomy x y with h | h | h
  · rw [cmpN_lt h, if_pos (by omega)]
  · subst h; rw [cmpN_eq, if_neg (by omega), if_neg (by omega)]
  · rw [cmpN_gt h, if_neg (by omega), if_pos (by omega)]
theorem tc_nil (d : Nat) : tc d [] = 0 := by cases d <;> rfl
theorem tc_cons (d : Nat) (b : UInt8) (r : List UInt8) : tc (d + 1) (b :: r) = (b.toNat + 1) * 257 ^ d + tc d r := rfl
theorem cb_cons (b c : UInt8) (s r : List UInt8) : Lib.compareBytes (b :: s) (c :: r) = if b < c then -1 else if c < b then 1 else Lib.compareBytes s r := rfl
theorem tc_cmp (d : Nat) (l m : List UInt8) (hl : l.length ≤ d) (hm : m.length ≤ d) : Lib.compareBytes l m = cmpN (tc d l) (tc d m) := by
  induction d generalizing l m with
  | zero =>
    have h1 : l = [] := List.eq_nil_of_length_eq_zero (by omega)
    have h2 : m = [] := List.eq_nil_of_length_eq_zero (by omega)
    subst h1 h2
    rfl
  | succ d ih =>
    have hp : 0 < 257 ^ d := Nat.pow_pos (by decide)
    cases l with
    | nil =>
      cases m with
      | nil => rfl
      | cons c r =>
        have h1 : 1 * 257 ^ d ≤ (c.toNat + 1) * 257 ^ d := Nat.mul_le_mul_right _ (by omega)
        rw [tc_nil, tc_cons, cmpN_lt (by omega)]
        rfl
    | cons b s =>
      cases m with
      | nil =>
        have h1 : 1 * 257 ^ d ≤ (b.toNat + 1) * 257 ^ d := Nat.mul_le_mul_right _ (by omega)
        rw [tc_nil, tc_cons, cmpN_gt (by omega)]
        rfl
      | cons c r =>
        have h1 := tc_lt d s
        have h2 := tc_lt d r
        rw [tc_cons, tc_cons, cb_cons]
        by_cases c1 : b < c
        · have c2 : b.toNat < c.toNat := u8_lt.1 c1
          have h3 : (b.toNat + 1 + 1) * 257 ^ d ≤ (c.toNat + 1) * 257 ^ d := Nat.mul_le_mul_right _ (by omega)
          rw [Nat.add_mul (b.toNat + 1) 1] at h3
          rw [if_pos c1, cmpN_lt (by omega)]
        · by_cases c2 : c < b
          · have c3 : c.toNat < b.toNat := u8_lt.1 c2
            have h3 : (c.toNat + 1 + 1) * 257 ^ d ≤ (b.toNat + 1) * 257 ^ d := Nat.mul_le_mul_right _ (by omega)
            rw [Nat.add_mul (c.toNat + 1) 1] at h3
            rw [if_neg c1, if_pos c2, cmpN_gt (by omega)]
          · have e := u8_same c1 c2
            subst e
            rw [if_neg c1, if_neg c1, ih s r (by simpa using hl) (by simpa using hm), cmpN_add]
/-- The value's number. -/
def vcode (x : Vr) : Int := if x.k = 2 then (tc 64 (tx x.s) : Int) else x.n - 18446744073709551616
theorem vcode_cmp (x y : Vr) (hx : mayV x.va = true) (hy : mayV y.va = true) (rx : x.n ≤ 9223372036854775807) (ry : y.n ≤ 9223372036854775807) : cmpV x.va y.va = cmpI (vcode x) (vcode y) := by
  have h1 := mayV_iff.1 hx
  have h2 := mayV_iff.1 hy
  simp only [Vr.va] at h1 h2
  have e : cmpV x.va y.va = (if x.k = 1 then (if y.k = 1 then cmpI x.n y.n else -1) else (if y.k = 1 then 1 else Lib.compareBytes (tx x.s) (tx y.s))) := by
    unfold cmpV
    rw [hx, hy]
    rfl
  rw [e]
  unfold vcode
  rcases h1 with ⟨a1, a2⟩ | ⟨a1, a2, a3⟩ <;> rcases h2 with ⟨b1, b2⟩ | ⟨b1, b2, b3⟩
  · rw [if_pos a1, if_pos b1, if_neg (by omega), if_neg (by omega)]
    unfold cmpI
    split <;> split <;> (try split) <;> (try split) <;> first | rfl | omega
  · rw [if_pos a1, if_neg (by omega), if_neg (by omega), if_pos b1]
    unfold cmpI
    rw [if_pos (by omega)]
  · rw [if_neg (by omega), if_pos b1, if_pos a1, if_neg (by omega)]
    unfold cmpI
    rw [if_neg (by omega), if_pos (by omega)]
  · rw [if_neg (by omega), if_neg (by omega), if_pos a1, if_pos b1, tc_cmp 64 _ _ a3 b3, cmpN_int]
/-- The same number, the same value. -/
theorem vcode_inj (x y : Vr) (hx : mayV x.va = true) (hy : mayV y.va = true) (rx : x.n ≤ 9223372036854775807) (ry : y.n ≤ 9223372036854775807) (h : vcode x = vcode y) : x = y := by
  have h1 := vcode_cmp x y hx hy rx ry
  rw [h] at h1
  have h2 : cmpI (vcode y) (vcode y) = 0 := by unfold cmpI; rw [if_neg (by omega), if_neg (by omega)]
  rw [h2] at h1
  obtain ⟨e1, e2, e3⟩ := (cmpV_zero _ _ hx hy).1 h1
  obtain ⟨k, n, s⟩ := x
  obtain ⟨k2, n2, s2⟩ := y
  simp only [Vr.va] at e1 e2 e3
  subst e1 e2
  rw [tx_inj e3]
end Go.Proofs.YtnidaahimofppaaGreat

/- Layer 26 (tally), plain: entries of values. -/
namespace Go.Proofs.YtnidaahimofppaaGreat
/-- A value, and how many copies it has. -/
structure En where
  v : Vr
  n : Int
def En.k (e : En) : Int := vcode e.v
end Go.Proofs.YtnidaahimofppaaGreat
