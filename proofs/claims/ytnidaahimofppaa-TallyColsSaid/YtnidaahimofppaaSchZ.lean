/- Layer 7 (schema): schemas and numbers that came in, opened. -/
import Derived.Test.YtnidaahimofppaaSchA
import Derived.Test.YtnidaahimofppaaRows
import Derived.Deep.Slices
import Derived.ChangeSlices
import Derived.SizedLaws
import Derived.WideShapes
namespace Go.Proofs.Ytnidaahimofppaa
open Go.RowKit
set_option linter.unusedVariables false
set_option linter.unusedSimpArgs false
instance : Inhabited Cl := ⟨⟨⟨#[]⟩, 0⟩⟩
section
open Go.ChangeShapes Go.WideShapes Go.Deep
variable {H : Type} {enc : TypeId × Value → H}
theorem cellsC : Try.prog.cellsOf 56 = 2 := by kernel_rfl
theorem cellsK : Try.prog.cellsOf 54 = 1 := by kernel_rfl
theorem cellsN : Try.prog.cellsOf 3 = 1 := by kernel_rfl
theorem cellsS : Try.prog.cellsOf 9 = 1 := by kernel_rfl
set_option maxRecDepth 100000 in
theorem open_col {W : World} {n : Nat} {cs : List Value} {x : DataW H × List MemPlace} (h : DataW.trod enc Try.prog W 0 (fun _ => true) true n 56 cs = some x) : ∃ q : Cl, cs = colV q := by
  obtain ⟨ys, m, _, _, hl, hyl, hf⟩ := DataW.trod_struct Try.underlying56 h
  rw [cellsC] at hl
  match cs, hl with
  | [c0, c1], _ =>
    have f0 := hf 0 _ rfl
    have f1 := hf 1 _ rfl
    match ys, hyl with
    | [y0, y1], _ =>
      have t0 : DataW.trod enc Try.prog W 0 (fun _ => true) true m 9 (([c0, c1].drop 0).take (Try.prog.cellsOf 9)) = some y0 := f0
      have t1 : DataW.trod enc Try.prog W 0 (fun _ => true) true m 54 (([c0, c1].drop 1).take (Try.prog.cellsOf 54)) = some y1 := f1
      rw [cellsS] at t0
      rw [cellsK] at t1
      obtain ⟨a0, z0, _, _⟩ := DataW.trod_string Try.underlying9 t0
      obtain ⟨a1, z1, _, _⟩ := DataW.trod_int Try.underlying54 t1
      simp at z0 z1
      subst z0 z1
      exact ⟨⟨a0, a1⟩, rfl⟩
set_option maxRecDepth 100000 in
theorem open_cols {W : World} {base : Nat} {v : Value} {d : DataW H} {p : List MemPlace} (hval : Value.okWide Try.prog W .any base 23 v) (h : DataW.Trod enc Try.prog W 0 (fun _ => true) true 23 v d p) (hlt : ∀ x ∈ p, x.block < W.heap.size)
    (hsz : ∀ elems spare, d = .slice elems spare → (elems.length + spare.length) * 24 ≤ 140737488351232) :
    ∃ xs : List Cl, HasC W W.heap.size v xs ∧ xs.length * 24 ≤ 140737488351232 := by
  obtain ⟨a1, len, cap, rfl⟩ := okWide_slice Try.underlying23 hval
  obtain ⟨fuel, hf⟩ := h
  rcases open_slice Try.underlying23 hf with ⟨hcs, hx⟩ | ⟨a, len', cap', m, n, D, Pl, hcs, _, hl, hm, hmm, hx, hcell⟩
  · simp [Value.cells] at hcs
    obtain ⟨rfl, rfl, rfl⟩ := hcs
    exact ⟨[], HasC.nil W _, by simp⟩
  · simp [Value.cells] at hcs
    obtain ⟨rfl, rfl, rfl⟩ := hcs
    simp only [Prod.mk.injEq] at hx
    obtain ⟨rfl, rfl⟩ := hx
    simp only [if_true] at hmm
    subst hmm
    have h1 := hsz _ _ rfl
    simp only [List.length_map, List.length_range] at h1
    have each : ∀ i, i < len → ∃ q : Cl, W.cell? (a.add (i * 2)) = some (.string q.s) ∧ W.cell? (a.add (i * 2 + 1)) = some (.int .i64 q.k) := by
      intro i hi
      obtain ⟨cs', hc, ht⟩ := hcell i (by omega)
      rw [cellsC] at hc
      obtain ⟨q, rfl⟩ := open_col ht
      obtain ⟨_, _, hat⟩ := World.cells?_some hc
      refine ⟨q, ?_, ?_⟩
      · have := hat 0 (by omega)
        rw [Go.Deep.add_add] at this
        exact this
      · have := hat 1 (by omega)
        rw [Go.Deep.add_add] at this
        exact this
    obtain ⟨q, hq⟩ := choose_lt each
    refine ⟨(List.range len).map q, ⟨some a, m, by simp, by simpa using hl, fun hne => ?_⟩, ?_⟩
    · obtain ⟨b, off, spot⟩ := a
      have h0 : 0 < len := by
        rcases Nat.eq_zero_or_pos len with h0 | h0
        · subst h0; exact absurd rfl hne
        · exact h0
      have hspot : spot = none := by simpa [Addr.add] using World.cell?_spot (hq 0 h0).1
      subst hspot
      refine ⟨b, off, rfl, hlt (.cell b off) (List.mem_append_left _ (MemPlace.mem_row.2 ⟨0, by rw [cellsC]; omega, by simp⟩)), fun j hj => ?_⟩
      simp only [List.length_map, List.length_range] at hj
      obtain ⟨e0, e1⟩ := hq j hj
      rw [Addr.add_lit] at e0 e1
      rw [← Nat.add_assoc] at e1
      simp only [List.getElem_map, List.getElem_range]
      exact ⟨e0, e1⟩
    · simp only [List.length_map, List.length_range]
      omega
end
end Go.Proofs.Ytnidaahimofppaa
