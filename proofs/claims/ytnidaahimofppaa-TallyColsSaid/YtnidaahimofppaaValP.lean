/- Plain words on values (no program in sight): which are ones, how they stand to each other. -/
import Derived.RowKit
import Derived.Lib.Bytealg
namespace Go.Proofs.Ytnidaahimofppaa
set_option linter.unusedVariables false
set_option linter.unusedSimpArgs false

abbrev Bs := List UInt8
/-- A value: a kind, a number, a text. -/
structure Va where
  k : Int
  n : Int
  t : Bs
def mayV (v : Va) : Bool := (decide (v.k = 1) && decide (v.t = [])) || (decide (v.k = 2) && decide (v.n = 0) && decide (v.t.length ≤ 64))
theorem mayV_iff {v : Va} : mayV v = true ↔ (v.k = 1 ∧ v.t = []) ∨ (v.k = 2 ∧ v.n = 0 ∧ v.t.length ≤ 64) := by
  simp [mayV, and_assoc]
def cmpI (x y : Int) : Int := if x < y then -1 else if y < x then 1 else 0
def cmpV (a b : Va) : Int :=
  if mayV a && mayV b then
    if a.k = 1 then (if b.k = 1 then cmpI a.n b.n else -1)
    else (if b.k = 1 then 1 else Lib.compareBytes a.t b.t)
  else 0
/-! ### the order of texts -/
theorem u8_lt {a b : UInt8} : a < b ↔ a.toNat < b.toNat := UInt8.lt_iff_toNat_lt
theorem u8_same {a b : UInt8} (h1 : ¬ a < b) (h2 : ¬ b < a) : a = b := by
  rw [u8_lt] at h1 h2
  exact UInt8.toNat_inj.1 (by omega)
theorem cb_range (a b : Bs) : Lib.compareBytes a b = -1 ∨ Lib.compareBytes a b = 0 ∨ Lib.compareBytes a b = 1 := by
  induction a generalizing b with
  | nil => cases b <;> simp [Lib.compareBytes]
  | cons x a ih =>
    cases b with
    | nil => simp [Lib.compareBytes]
    | cons y b =>
      simp only [Lib.compareBytes]
      split
      · simp
      · split
        · simp
        · exact ih b
theorem cb_flip (a b : Bs) : Lib.compareBytes b a = - Lib.compareBytes a b := by
  induction a generalizing b with
  | nil => cases b <;> simp [Lib.compareBytes]
  | cons x a ih =>
    cases b with
    | nil => simp [Lib.compareBytes]
    | cons y b =>
      simp only [Lib.compareBytes]
      by_cases h1 : x < y
      · have h2 : ¬ y < x := by rw [u8_lt] at h1 ⊢; omega
        simp [h1, h2]
      · by_cases h2 : y < x
        · simp [h1, h2]
        · simp only [h1, h2, if_false]
          exact ih b
theorem cb_zero (a b : Bs) : Lib.compareBytes a b = 0 ↔ a = b := by
  induction a generalizing b with
  | nil => cases b <;> simp [Lib.compareBytes]
  | cons x a ih =>
    cases b with
    | nil => simp [Lib.compareBytes]
    | cons y b =>
      simp only [Lib.compareBytes]
      by_cases h1 : x < y
      · have : x ≠ y := by rintro rfl; rw [u8_lt] at h1; omega
        simp [h1, this]
      · by_cases h2 : y < x
        · have : x ≠ y := by rintro rfl; rw [u8_lt] at h2; omega
          simp [h1, h2, this]
        · obtain rfl := u8_same h1 h2
          simp only [h1, if_false, ih b, List.cons.injEq, true_and]
theorem cb_trans (a b c : Bs) (h1 : Lib.compareBytes a b ≤ 0) (h2 : Lib.compareBytes b c ≤ 0) : Lib.compareBytes a c = min (Lib.compareBytes a b) (Lib.compareBytes b c) := by
  induction a generalizing b c with
  | nil =>
    cases b with
    | nil => cases c <;> simp [Lib.compareBytes] <;> decide
    | cons y b =>
      cases c with
      | nil => simp [Lib.compareBytes] at h2
      | cons z c =>
        have := cb_range (y :: b) (z :: c)
        simp only [Lib.compareBytes] at this ⊢
        omega
  | cons x a ih =>
    cases b with
    | nil => simp [Lib.compareBytes] at h1
    | cons y b =>
      cases c with
      | nil => simp [Lib.compareBytes] at h2
      | cons z c =>
        have r1 := cb_range a b
        have r2 := cb_range b c
        simp only [Lib.compareBytes] at h1 h2 ⊢
        by_cases xy : x < y
        · by_cases yz : y < z
          · have : x < z := by rw [u8_lt] at *; omega
            simp [xy, yz, this]
          · by_cases zy : z < y
            · simp [yz, zy] at h2
            · obtain rfl := u8_same yz zy
              simp only [xy, yz, if_true, if_false]
              omega
        · by_cases yx : y < x
          · simp [xy, yx] at h1
          · obtain rfl := u8_same xy yx
            by_cases yz : x < z
            · simp only [xy, yz, if_true, if_false]
              omega
            · by_cases zy : z < x
              · simp [yz, zy] at h2
              · obtain rfl := u8_same yz zy
                simp only [xy, if_false] at h1 h2 ⊢
                exact ih b c h1 h2
/-! ### the order of values -/
theorem cmpI_flip (x y : Int) : cmpI y x = - cmpI x y := by
  unfold cmpI
  split <;> split <;> (try split) <;> omega
theorem cmpV_flip (a b : Va) : cmpV b a = - cmpV a b := by
  unfold cmpV
  by_cases h : (mayV a && mayV b) = true
  · have h' : (mayV b && mayV a) = true := by rw [Bool.and_comm]; exact h
    rw [if_pos h, if_pos h']
    by_cases ka : a.k = 1
    · by_cases kb : b.k = 1
      · simp only [ka, kb, if_true]; exact cmpI_flip _ _
      · simp only [ka, kb, if_true, if_false]; decide
    · by_cases kb : b.k = 1
      · simp only [ka, kb, if_true, if_false]
      · simp only [ka, kb, if_false]; exact cb_flip _ _
  · have h' : ¬ (mayV b && mayV a) = true := by rw [Bool.and_comm]; exact h
    rw [if_neg h, if_neg h']; rfl
theorem cmpV_trans (a b c : Va) (ha : mayV a = true) (hb : mayV b = true) (hc : mayV c = true) (h1 : cmpV a b ≤ 0) (h2 : cmpV b c ≤ 0) : cmpV a c = min (cmpV a b) (cmpV b c) := by
  unfold cmpV at *
  simp only [ha, hb, hc, Bool.and_self, if_true] at *
  by_cases ka : a.k = 1 <;> by_cases kb : b.k = 1 <;> by_cases kc : c.k = 1 <;> simp only [ka, kb, kc, if_true, if_false] at *
  · unfold cmpI at *
    split at h1 <;> split at h2 <;> split <;> (try split) <;> omega
  · unfold cmpI at *
    split at h1 <;> (try split) <;> omega
  · omega
  · have := cb_range b.t c.t
    omega
  · omega
  · omega
  · omega
  · exact cb_trans _ _ _ h1 h2
theorem cmpV_zero (a b : Va) (ha : mayV a = true) (hb : mayV b = true) : cmpV a b = 0 ↔ (a.k = b.k ∧ a.n = b.n ∧ a.t = b.t) := by
  unfold cmpV
  simp only [ha, hb, Bool.and_self, if_true]
  rw [mayV_iff] at ha hb
  rcases ha with ⟨ka, ta⟩ | ⟨ka, na, _⟩ <;> rcases hb with ⟨kb, tb⟩ | ⟨kb, nb, _⟩
  · simp only [ka, kb, ta, tb, if_true, true_and, and_true]
    unfold cmpI
    split
    · constructor
      · intro h; cases h
      · intro h; omega
    · split
      · constructor
        · intro h; cases h
        · intro h; omega
      · constructor
        · intro h; omega
        · intro h; rfl
  · simp [ka, kb]
  · simp [ka, kb]
  · simp only [ka, kb, na, nb, show ¬ ((2 : Int) = 1) by decide, if_false, true_and]
    exact cb_zero _ _
end Go.Proofs.Ytnidaahimofppaa
