/- Layer 6 (row), plain words (no program in sight): rows, which are ones, how they stand, what is written. -/
import Derived.Test.YtnidaahimofppaaValP
import Derived.Test.YtnidaahimofppaaTx
namespace Go.Proofs.Ytnidaahimofppaa
set_option linter.unusedVariables false
set_option linter.unusedSimpArgs false

/-- A value as it lies in memory. -/
structure Vr where
  k : Int
  n : Int
  s : ByteArray
def Vr.va (x : Vr) : Va := ⟨x.k, x.n, tx x.s⟩
theorem Vr.ext' {x y : Vr} (h1 : x.k = y.k) (h2 : x.n = y.n) (h3 : x.s = y.s) : x = y := by
  obtain ⟨a, b, c⟩ := x
  obtain ⟨d, e, f⟩ := y
  simp only at h1 h2 h3
  subst h1 h2 h3
  rfl
theorem Vr.va_inj {x y : Vr} (h : x.va = y.va) : x = y := by
  simp only [Vr.va, Va.mk.injEq] at h
  exact Vr.ext' h.1 h.2.1 (tx_inj h.2.2)
/-- The same value? as the machine asks. -/
def Vr.eqb (x y : Vr) : Bool := decide (x.k = y.k) && decide (x.n = y.n) && decide (x.s = y.s)
theorem Vr.eqb_iff {x y : Vr} : x.eqb y = true ↔ x = y := by
  constructor
  · intro h
    simp only [Vr.eqb, Bool.and_eq_true, decide_eq_true_eq] at h
    exact Vr.ext' h.1.1 h.1.2 h.2
  · rintro rfl
    simp [Vr.eqb]
theorem Vr.eqb_refl (x : Vr) : x.eqb x = true := Vr.eqb_iff.2 rfl
def sameR : List Vr → List Vr → Bool
  | [], [] => true
  | x :: a, y :: b => x.eqb y && sameR a b
  | _, _ => false
theorem sameR_iff {a b : List Vr} : sameR a b = true ↔ a = b := by
  induction a generalizing b with
  | nil => cases b <;> simp [sameR]
  | cons x a ih =>
    cases b with
    | nil => simp [sameR]
    | cons y b => simp [sameR, Vr.eqb_iff, ih]
theorem sameR_refl (a : List Vr) : sameR a a = true := sameR_iff.2 rfl
/-- Is it a row? -/
def allM (xs : List Vr) : Bool := xs.all (fun x => mayV x.va)
def mayR (xs : List Vr) : Bool := decide (xs.length ≤ 8) && allM xs
theorem mayR_iff {xs : List Vr} : mayR xs = true ↔ xs.length ≤ 8 ∧ ∀ x ∈ xs, mayV x.va = true := by simp [mayR, allM]
/-- How two rows stand. -/
def cmpL : List Vr → List Vr → Int
  | [], [] => 0
  | [], _ :: _ => -1
  | _ :: _, [] => 1
  | x :: a, y :: b => if x.eqb y = true then cmpL a b else cmpV x.va y.va
def cmpR (a b : List Vr) : Int := if mayR a = true ∧ mayR b = true then cmpL a b else 0
theorem cmpV_0 {x y : Vr} (hx : mayV x.va = true) (hy : mayV y.va = true) : cmpV x.va y.va = 0 ↔ x = y := by
  rw [cmpV_zero _ _ hx hy]
  constructor
  · rintro ⟨h1, h2, h3⟩
    exact Vr.ext' h1 h2 (tx_inj h3)
  · rintro rfl
    exact ⟨rfl, rfl, rfl⟩
theorem cmpV_range2 (a b : Va) : cmpV a b = -1 ∨ cmpV a b = 0 ∨ cmpV a b = 1 := by
  unfold cmpV cmpI
  have := cb_range a.t b.t
  split
  · split
    · split
      · split
        · omega
        · split <;> omega
      · omega
    · split <;> omega
  · omega
theorem cmpL_range (a b : List Vr) : cmpL a b = -1 ∨ cmpL a b = 0 ∨ cmpL a b = 1 := by
  induction a generalizing b with
  | nil => cases b <;> simp [cmpL]
  | cons x a ih =>
    cases b with
    | nil => simp [cmpL]
    | cons y b =>
      simp only [cmpL]
      split
      · exact ih b
      · exact cmpV_range2 _ _
theorem cmpL_flip (a b : List Vr) : cmpL b a = - cmpL a b := by
  induction a generalizing b with
  | nil => cases b <;> simp [cmpL]
  | cons x a ih =>
    cases b with
    | nil => simp [cmpL]
    | cons y b =>
      simp only [cmpL]
      by_cases e : x = y
      · subst e
        rw [if_pos (Vr.eqb_refl x), if_pos (Vr.eqb_refl x)]
        exact ih b
      · have h1 : ¬ y.eqb x = true := fun h => e (Vr.eqb_iff.1 h).symm
        have h2 : ¬ x.eqb y = true := fun h => e (Vr.eqb_iff.1 h)
        rw [if_neg h1, if_neg h2]
        exact cmpV_flip _ _
theorem cmpL_zero (a b : List Vr) (ha : ∀ x ∈ a, mayV x.va = true) (hb : ∀ x ∈ b, mayV x.va = true) : cmpL a b = 0 ↔ a = b := by
  induction a generalizing b with
  | nil => cases b <;> simp [cmpL]
  | cons x a ih =>
    cases b with
    | nil => simp [cmpL]
    | cons y b =>
      simp only [cmpL]
      by_cases e : x = y
      · subst e
        rw [if_pos (Vr.eqb_refl x), ih b (fun z hz => ha z (by simp [hz])) (fun z hz => hb z (by simp [hz]))]
        simp
      · have h2 : ¬ x.eqb y = true := fun h => e (Vr.eqb_iff.1 h)
        rw [if_neg h2, cmpV_0 (ha x (by simp)) (hb y (by simp))]
        simp [e]
theorem cmpL_trans (a b c : List Vr) (ha : ∀ x ∈ a, mayV x.va = true) (hb : ∀ x ∈ b, mayV x.va = true) (hc : ∀ x ∈ c, mayV x.va = true) (h1 : cmpL a b ≤ 0) (h2 : cmpL b c ≤ 0) : cmpL a c = min (cmpL a b) (cmpL b c) := by
  induction a generalizing b c with
  | nil =>
    cases b with
    | nil =>
      cases c with
      | nil => simp [cmpL]
      | cons z c => simp only [cmpL]; omega
    | cons y b =>
      cases c with
      | nil => simp [cmpL] at h2
      | cons z c =>
        have : cmpL (y :: b) (z :: c) = -1 ∨ cmpL (y :: b) (z :: c) = 0 ∨ cmpL (y :: b) (z :: c) = 1 := cmpL_range _ _
        simp only [cmpL] at this ⊢
        omega
  | cons x a ih =>
    cases b with
    | nil => simp [cmpL] at h1
    | cons y b =>
      cases c with
      | nil => simp [cmpL] at h2
      | cons z c =>
        have hx := ha x (by simp)
        have hy := hb y (by simp)
        have hz := hc z (by simp)
        simp only [cmpL] at h1 h2 ⊢
        by_cases e1 : x = y
        · subst e1
          simp only [Vr.eqb_refl, if_true] at h1 ⊢
          by_cases e2 : x = z
          · subst e2
            simp only [Vr.eqb_refl, if_true] at h2 ⊢
            exact ih b c (fun w hw => ha w (by simp [hw])) (fun w hw => hb w (by simp [hw])) (fun w hw => hc w (by simp [hw])) h1 h2
          · have n2 : x.eqb z = false := by
              cases h : x.eqb z with
              | false => rfl
              | true => exact absurd (Vr.eqb_iff.1 h) e2
            simp only [n2] at h2 ⊢
            simp only [Bool.false_eq_true, if_false] at h2 ⊢
            have := cmpV_range2 x.va z.va
            have h0 : cmpV x.va z.va ≠ 0 := fun h => e2 ((cmpV_0 hx hz).1 h)
            have := cmpL_range a b
            omega
        · have n1 : x.eqb y = false := by
            cases h : x.eqb y with
            | false => rfl
            | true => exact absurd (Vr.eqb_iff.1 h) e1
          simp only [n1, Bool.false_eq_true, if_false] at h1 ⊢
          have h0 : cmpV x.va y.va ≠ 0 := fun h => e1 ((cmpV_0 hx hy).1 h)
          have r1 := cmpV_range2 x.va y.va
          by_cases e2 : y = z
          · subst e2
            simp only [Vr.eqb_refl, if_true, n1, Bool.false_eq_true, if_false] at h2 ⊢
            have := cmpL_range b c
            omega
          · have n2 : y.eqb z = false := by
              cases h : y.eqb z with
              | false => rfl
              | true => exact absurd (Vr.eqb_iff.1 h) e2
            simp only [n2, Bool.false_eq_true, if_false] at h2 ⊢
            have h3 := cmpV_trans x.va y.va z.va hx hy hz h1 h2
            have r2 := cmpV_range2 y.va z.va
            have e3 : x ≠ z := by
              rintro rfl
              have h4 := cmpV_flip x.va y.va
              rw [h4] at h2
              omega
            have n3 : x.eqb z = false := by
              cases h : x.eqb z with
              | false => rfl
              | true => exact absurd (Vr.eqb_iff.1 h) e3
            simp only [n3, Bool.false_eq_true, if_false]
            exact h3
end Go.Proofs.Ytnidaahimofppaa
