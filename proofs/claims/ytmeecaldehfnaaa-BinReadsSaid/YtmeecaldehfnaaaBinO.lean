/- A slice of wants that came in, opened. -/
import Derived.Test.YtmeecaldehfnaaaBinZ
import Derived.Deep.SlicePairs
namespace Go.Proofs.Ytmeecaldehfnaaa
open Go.RowKit
set_option linter.unusedVariables false
set_option linter.unusedSimpArgs false
section
open Go.ChangeShapes Go.WideShapes Go.Deep
variable {H : Type} {enc : TypeId × Value → H}
theorem open_wants {W : World} {base : Nat} {v : Value} {d : DataW H} {p : List MemPlace} (hval : Value.okWide Try.prog W .any base 35 v) (h : DataW.Trod enc Try.prog W 0 (fun _ => true) true 35 v d p) (hlt : ∀ x ∈ p, x.block < W.heap.size)
    (hsz : ∀ elems spare, d = .slice elems spare → (elems.length + spare.length) * 16 ≤ 140737488351232) :
    ∃ A n c K M, v = .slice A n c ∧ n ≤ 140737488351232 ∧ ArgW W A n K M := by
  obtain ⟨a1, len, cap, rfl⟩ := okWide_slice Try.underlying35 hval
  obtain ⟨fuel, hf⟩ := h
  rcases open_slice_pairs Try.underlying35 Try.underlying40 (by kernel_rfl) rfl rfl (by kernel_rfl) (by kernel_rfl) hf with ⟨hcs, hx⟩ | ⟨a, len', cap', m, n, V0, V1, D0, D1, P0, P1, hcs, _, hl, hm, hmm, hx, hcell⟩
  · simp [Value.cells] at hcs
    obtain ⟨rfl, rfl, rfl⟩ := hcs
    exact ⟨none, 0, 0, fun _ => 0, fun _ => 0, rfl, by simp, fun h => absurd rfl h⟩
  · simp [Value.cells] at hcs
    obtain ⟨rfl, rfl, rfl⟩ := hcs
    simp only [Prod.mk.injEq] at hx
    obtain ⟨rfl, rfl⟩ := hx
    simp only [if_true] at hmm
    subst hmm
    have h1 := hsz _ _ rfl
    refine ⟨some a, len, m, fun i => intOf (V0 i), fun i => intOf (V1 i), rfl, ?_, fun hne => ?_⟩
    · simp only [List.length_map, List.length_range] at h1
      omega
    · obtain ⟨b, off, spot⟩ := a
      have hspot : spot = none := by simpa [Addr.add] using World.cell?_spot (hcell 0 (by omega)).1
      subst hspot
      refine ⟨b, off, rfl, hlt (.cell b off) (List.mem_append_left _ (MemPlace.mem_row.2 ⟨0, by omega, by simp⟩)), fun j hj => ?_⟩
      obtain ⟨e0, e1, t0, t1⟩ := hcell j (by omega)
      rw [Addr.add_lit] at e0 e1
      rw [← Nat.add_assoc] at e1
      obtain ⟨x0, z0, _⟩ := DataW.trod_int Try.underlying3 t0
      obtain ⟨x1, z1, _⟩ := DataW.trod_int Try.underlying3 t1
      simp at z0 z1
      refine ⟨?_, ?_⟩
      · rw [e0]; simp only [z0]; rfl
      · rw [e1]; simp only [z1]; rfl
end
end Go.Proofs.Ytmeecaldehfnaaa
