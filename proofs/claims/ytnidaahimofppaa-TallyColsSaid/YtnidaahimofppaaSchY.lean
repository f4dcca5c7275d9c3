/- Layer 7 (schema): rows that came in, opened. -/
import Derived.Test.YtnidaahimofppaaSchZ
import Derived.Deep.Slices
import Derived.ChangeSlices
import Derived.SizedLaws
import Derived.WideShapes
namespace Go.Proofs.Ytnidaahimofppaa
open Go.RowKit
set_option linter.unusedVariables false
set_option linter.unusedSimpArgs false
def RngR (xs : List Vr) : Prop := ∀ x ∈ xs, -9223372036854775808 ≤ x.n ∧ x.n ≤ 9223372036854775807
instance : Inhabited Vr := ⟨⟨0, 0, ⟨#[]⟩⟩⟩
section
open Go.ChangeShapes Go.WideShapes Go.Deep
variable {H : Type} {enc : TypeId × Value → H}
theorem cellsV : Try.prog.cellsOf 68 = 3 := by kernel_rfl
set_option maxRecDepth 100000 in
theorem open_value {W : World} {n : Nat} {cs : List Value} {x : DataW H × List MemPlace} (h : DataW.trod enc Try.prog W 0 (fun _ => true) true n 68 cs = some x) : ∃ q : Vr, cs = valC q ∧ -9223372036854775808 ≤ q.n ∧ q.n ≤ 9223372036854775807 := by
  obtain ⟨ys, m, _, _, hl, hyl, hf⟩ := DataW.trod_struct Try.underlying68 h
  rw [cellsV] at hl
  match cs, hl with
  | [c0, c1, c2], _ =>
    have f0 := hf 0 _ rfl
    have f1 := hf 1 _ rfl
    have f2 := hf 2 _ rfl
    match ys, hyl with
    | [y0, y1, y2], _ =>
      have t0 : DataW.trod enc Try.prog W 0 (fun _ => true) true m 54 (([c0, c1, c2].drop 0).take (Try.prog.cellsOf 54)) = some y0 := f0
      have t1 : DataW.trod enc Try.prog W 0 (fun _ => true) true m 3 (([c0, c1, c2].drop 1).take (Try.prog.cellsOf 3)) = some y1 := f1
      have t2 : DataW.trod enc Try.prog W 0 (fun _ => true) true m 9 (([c0, c1, c2].drop 2).take (Try.prog.cellsOf 9)) = some y2 := f2
      rw [cellsK] at t0
      rw [cellsN] at t1
      rw [cellsS] at t2
      obtain ⟨a0, z0, _, _⟩ := DataW.trod_int Try.underlying54 t0
      obtain ⟨a1, z1, _, w1⟩ := DataW.trod_int Try.underlying3 t1
      obtain ⟨a2, z2, _, _⟩ := DataW.trod_string Try.underlying9 t2
      simp at z0 z1 z2
      subst z0 z1 z2
      have hw : -9223372036854775808 ≤ a1 ∧ a1 ≤ 9223372036854775807 := by simpa [Lit.wf, IntKind.min, IntKind.max, IntKind.signed, IntKind.bits] using w1
      exact ⟨⟨a0, a1, a2⟩, rfl, hw.1, hw.2⟩
set_option maxRecDepth 100000 in
theorem open_rows {W : World} {base : Nat} {v : Value} {d : DataW H} {p : List MemPlace} (hval : Value.okWide Try.prog W .any base 37 v) (h : DataW.Trod enc Try.prog W 0 (fun _ => true) true 37 v d p) (hlt : ∀ x ∈ p, x.block < W.heap.size)
    (hsz : ∀ elems spare, d = .slice elems spare → (elems.length + spare.length) * 32 ≤ 140737488351232) :
    ∃ xs : List Vr, HasR W W.heap.size v xs ∧ RngR xs ∧ xs.length * 32 ≤ 140737488351232 := by
  obtain ⟨a1, len, cap, rfl⟩ := okWide_slice Try.underlying37 hval
  obtain ⟨fuel, hf⟩ := h
  rcases open_slice Try.underlying37 hf with ⟨hcs, hx⟩ | ⟨a, len', cap', m, n, D, Pl, hcs, _, hl, hm, hmm, hx, hcell⟩
  · simp [Value.cells] at hcs
    obtain ⟨rfl, rfl, rfl⟩ := hcs
    exact ⟨[], HasR.nil W _, by intro x hx; simp at hx, by simp⟩
  · simp [Value.cells] at hcs
    obtain ⟨rfl, rfl, rfl⟩ := hcs
    simp only [Prod.mk.injEq] at hx
    obtain ⟨rfl, rfl⟩ := hx
    simp only [if_true] at hmm
    subst hmm
    have h1 := hsz _ _ rfl
    simp only [List.length_map, List.length_range] at h1
    have each : ∀ i, i < len → ∃ q : Vr, (W.cell? (a.add (i * 3)) = some (.int .i64 q.k) ∧ W.cell? (a.add (i * 3 + 1)) = some (.int .i64 q.n) ∧ W.cell? (a.add (i * 3 + 2)) = some (.string q.s)) ∧ -9223372036854775808 ≤ q.n ∧ q.n ≤ 9223372036854775807 := by
      intro i hi
      obtain ⟨cs', hc, ht⟩ := hcell i (by omega)
      rw [cellsV] at hc
      obtain ⟨q, rfl, r0, r1⟩ := open_value ht
      obtain ⟨_, _, hat⟩ := World.cells?_some hc
      refine ⟨q, ⟨?_, ?_, ?_⟩, r0, r1⟩
      · have := hat 0 (by omega)
        rw [Go.Deep.add_add] at this
        exact this
      · have := hat 1 (by omega)
        rw [Go.Deep.add_add] at this
        exact this
      · have := hat 2 (by omega)
        rw [Go.Deep.add_add] at this
        exact this
    obtain ⟨q, hq⟩ := choose_lt each
    refine ⟨(List.range len).map q, ⟨some a, m, by simp, by simpa using hl, fun hne => ?_⟩, ?_, ?_⟩
    · obtain ⟨b, off, spot⟩ := a
      have h0 : 0 < len := by
        rcases Nat.eq_zero_or_pos len with h0 | h0
        · subst h0; exact absurd rfl hne
        · exact h0
      have hspot : spot = none := by simpa [Addr.add] using World.cell?_spot (hq 0 h0).1.1
      subst hspot
      refine ⟨b, off, rfl, hlt (.cell b off) (List.mem_append_left _ (MemPlace.mem_row.2 ⟨0, by rw [cellsV]; omega, by simp⟩)), fun j hj => ?_⟩
      simp only [List.length_map, List.length_range] at hj
      obtain ⟨⟨e0, e1, e2⟩, _⟩ := hq j hj
      rw [Addr.add_lit] at e0 e1 e2
      rw [← Nat.add_assoc] at e1 e2
      simp only [List.getElem_map, List.getElem_range]
      exact ⟨e0, e1, e2⟩
    · intro x hx
      simp only [List.mem_map, List.mem_range] at hx
      obtain ⟨i, hi, rfl⟩ := hx
      exact (hq i hi).2
    · simp only [List.length_map, List.length_range]
      omega
end
end Go.Proofs.Ytnidaahimofppaa
