/- A slice of tokens that came in, opened. -/
import Derived.Test.YtlckgloaknjcgaaLexN
import Derived.Test.YtlckgloaknjcgaaRows
import Derived.Deep.SlicePairs
import Derived.ChangeSlices
import Derived.SizedLaws
namespace Go.Proofs.Ytlckgloaknjcgaa
open Go.RowKit
set_option linter.unusedVariables false
set_option linter.unusedSimpArgs false
section
open Go.ChangeShapes Go.WideShapes Go.Deep
variable {H : Type} {enc : TypeId × Value → H}
theorem bulk_toks (L : List Nat) (D : Nat → DataW H) (T : Nat → Tok) (h : ∀ i ∈ L, (T i).2.length + 2 ≤ Rows.uptoBulk (D i)) : jl (texts (L.map T)) + (L.map T).length ≤ Rows.uptoBulkAll (L.map D) := by
  induction L with
  | nil => simp [texts, jl, Rows.uptoBulkAll]
  | cons a r ih =>
    have h1 := h a (by simp)
    have h2 := ih (fun i hi => h i (by simp [hi]))
    simp only [texts, List.map_cons, jl, List.length_cons, Rows.uptoBulkAll] at h2 ⊢
    omega
theorem open_toks {W : World} {base : Nat} {v : Value} {d : DataW H} {p : List MemPlace} (hval : Value.okWide Try.prog W .any base 23 v) (h : DataW.Trod enc Try.prog W 0 (fun _ => true) true 23 v d p) (hlt : ∀ x ∈ p, x.block < W.heap.size) :
    ∃ ts : List Tok, HasT W v ts ∧ jl (texts ts) + ts.length ≤ Rows.uptoBulk d := by
  obtain ⟨a1, len, cap, rfl⟩ := okWide_slice Try.underlying23 hval
  obtain ⟨fuel, hf⟩ := h
  rcases open_slice_pairs Try.underlying23 Try.underlying34 (by kernel_rfl) rfl rfl (by kernel_rfl) (by kernel_rfl) hf with ⟨hcs, hx⟩ | ⟨a, len', cap', m, n, V0, V1, D0, D1, P0, P1, hcs, _, hl, hm, hmm, hx, hcell⟩
  · simp [Value.cells] at hcs
    obtain ⟨rfl, rfl, rfl⟩ := hcs
    exact ⟨[], HasT.nil W, by simp [texts, jl]⟩
  · simp [Value.cells] at hcs
    obtain ⟨rfl, rfl, rfl⟩ := hcs
    simp only [Prod.mk.injEq] at hx
    obtain ⟨rfl, rfl⟩ := hx
    simp only [if_true] at hmm
    subst hmm
    have each : ∀ i, i < len → ∃ q : Int × ByteArray, V0 i = .int .i64 q.1 ∧ V1 i = .string q.2 ∧ D0 i = .lit (.int .i64 q.1) ∧ D1 i = .lit (.string q.2.data.toList) := by
      intro i hi
      obtain ⟨_, _, t0, t1⟩ := hcell i (by omega)
      obtain ⟨x0, z0, y0, _⟩ := DataW.trod_int Try.underlying3 t0
      obtain ⟨x1, z1, y1, _⟩ := DataW.trod_string Try.underlying9 t1
      simp at z0 z1
      simp only [Prod.mk.injEq] at y0 y1
      exact ⟨(x0, x1), z0, z1, y0.1, y1.1⟩
    obtain ⟨q, hq⟩ := choose_lt each
    refine ⟨(List.range len).map (fun i => ((q i).1, tx (q i).2)), ?_, ?_⟩
    · refine ⟨some a, m, by simp, fun hne => ?_⟩
      obtain ⟨b, off, spot⟩ := a
      have h0 : 0 < len := by
        rcases Nat.eq_zero_or_pos len with h0 | h0
        · subst h0; exact absurd rfl hne
        · exact h0
      have hspot : spot = none := by simpa [Addr.add] using World.cell?_spot (hcell 0 (by omega)).1
      subst hspot
      refine ⟨b, off, rfl, hlt (.cell b off) (List.mem_append_left _ (MemPlace.mem_row.2 ⟨0, by omega, by simp⟩)), fun j hj => ?_⟩
      simp only [List.length_map, List.length_range] at hj
      obtain ⟨e0, e1, _, _⟩ := hcell j (by omega)
      rw [Addr.add_lit] at e0 e1
      rw [← Nat.add_assoc] at e1
      obtain ⟨g0, g1, _, _⟩ := hq j hj
      simp only [List.getElem_map, List.getElem_range]
      rw [e0, e1, g0, g1, bs_tx]
      exact ⟨rfl, rfl⟩
    · have hb := bulk_toks (H := H) (List.range len) (fun i => .agg [D0 i, D1 i]) (fun i => ((q i).1, tx (q i).2)) (fun i hi => by
        obtain ⟨_, _, g0, g1⟩ := hq i (List.mem_range.1 hi)
        simp only [g0, g1, Rows.uptoBulk, Rows.uptoBulkAll, tx]
        omega)
      simp only [Rows.uptoBulk]
      omega
end
end Go.Proofs.Ytlckgloaknjcgaa
