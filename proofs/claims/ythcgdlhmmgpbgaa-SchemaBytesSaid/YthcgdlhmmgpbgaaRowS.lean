/- Layer 6 (row): the same rows, copies, walked; the program's and the reference's. -/
import Derived.Test.YthcgdlhmmgpbgaaRowM
namespace Go.Proofs.Ythcgdlhmmgpbgaa
open Go.RowKit
set_option linter.unusedVariables false
set_option linter.unusedSimpArgs false

def SmI (xs ys : List Vr) (w : World) (v13 : Value) (wr : World) : Prop := ∃ (i nd : Nat), v13 = .int .i64 (i : Int) ∧ wr = w.drewN nd ∧ Kept (i ≤ xs.length ∧ sameR xs ys = sameR (xs.drop i) (ys.drop i))
theorem same_len {xs ys : List Vr} (h : xs.length ≠ ys.length) : sameR xs ys = false := by
  cases hs : sameR xs ys with
  | false => rfl
  | true => exact absurd (congrArg List.length (sameR_iff.1 hs)) h
theorem same_step {xs ys : List Vr} {i : Nat} (hi : i < xs.length) (hj : i < ys.length) : sameR (xs.drop i) (ys.drop i) = (xs[i].eqb ys[i] && sameR (xs.drop (i + 1)) (ys.drop (i + 1))) := by
  rw [List.drop_eq_getElem_cons hi, List.drop_eq_getElem_cons hj]
  rfl
theorem eqb_cases (x y : Vr) : x = y ∨ (x.eqb y = false ∧ (x.k ≠ y.k ∨ (x.k = y.k ∧ x.n ≠ y.n) ∨ (x.k = y.k ∧ x.n = y.n ∧ x.s ≠ y.s))) := by
  by_cases h1 : x.k = y.k
  · by_cases h2 : x.n = y.n
    · by_cases h3 : x.s = y.s
      · exact .inl (Vr.ext' h1 h2 h3)
      · exact .inr ⟨by simp [Vr.eqb, h3], .inr (.inr ⟨h1, h2, h3⟩)⟩
    · exact .inr ⟨by simp [Vr.eqb, h2], .inr (.inl ⟨h1, h2⟩)⟩
  · exact .inr ⟨by simp [Vr.eqb, h1], .inl h1⟩
theorem str_ne {s u : ByteArray} (h : s ≠ u) : (s.toList == u.toList) = false := by
  rw [beq_eq_false_iff_ne]
  intro e
  rw [tx_toList, tx_toList] at e
  exact h (tx_inj e)
end Go.Proofs.Ythcgdlhmmgpbgaa
