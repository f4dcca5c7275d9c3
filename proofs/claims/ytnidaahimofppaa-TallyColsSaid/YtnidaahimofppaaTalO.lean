/- Layer 26 (tally): lists of aggregates that the call itself makes (three cells an aggregate, as a value has). -/
import Derived.Test.YtnidaahimofppaaTalE
import Derived.Test.YtnidaahimofppaaWidB
namespace Go.Proofs.Ytnidaahimofppaa
open Go.RowKit
set_option linter.unusedVariables false
set_option linter.unusedSimpArgs false

theorem infoA : (Try.prog.info? 51).map (fun i => (i.zero, i.size, i.bytes)) = some (some (.agg #[.int .i64 0, .int .i64 0, .string ⟨#[]⟩]), 3, 32) := by kernel_rfl
def OwnA (w : World) (base : Nat) (v : Value) (xs : List Vr) : Prop := w.ownsRow base 51 3 v xs.length (rowC xs)
theorem OwnA.below {w w1 : World} {base : Nat} {v : Value} {xs : List Vr} (h : OwnA w base v xs) (hb : Below w.heap.size w w1) : OwnA w1 base v xs := by
  refine ⟨h.1, ?_⟩
  rcases h.2 with h2 | ⟨g, cap, cur, h1, h2, h3, h4⟩
  · exact .inl h2
  · exact .inr ⟨g, cap, cur, h1, h2, by rw [hb.block g (Array.getElem?_eq_some_iff.1 h3).1]; exact h3, h4⟩
theorem OwnA.mono {w : World} {base b0 : Nat} {v : Value} {xs : List Vr} (h : OwnA w base v xs) (hb : b0 ≤ base) : OwnA w b0 v xs := by
  refine ⟨h.1, ?_⟩
  rcases h.2 with h2 | ⟨g, cap, cur, h1, h2, h3⟩
  · exact .inl h2
  · exact .inr ⟨g, cap, cur, h1, Nat.le_trans hb h2, h3⟩
theorem OwnA.nil (w : World) (base : Nat) : OwnA w base (.slice none 0 0) [] := ⟨by simp [rowC], .inl ⟨rfl, rfl⟩⟩
theorem OwnA.lit (w : World) (base : Nat) (xs : List Vr) (hb : base ≤ w.heap.size) (hm : xs.length ≤ 100) : OwnA (w.alloc (.cells (rowC xs).toArray 51)) base (.slice (some ⟨w.heap.size, 0, none⟩) xs.length xs.length) xs := by
  have h := World.ownsRow_lit (base := base) (e := 51) (size := 3) w (rowC xs).toArray xs.length hb (by simp only [maxLen]; omega) (by simp [rowC_len])
  simpa [OwnA] using h
theorem OwnA.base {w : World} {base : Nat} {v : Value} {xs : List Vr} (h : OwnA w base v xs) (k : Nat) (hk : v.ownBlock = some k) : base ≤ k := by
  rcases h.2 with ⟨rfl, _⟩ | ⟨g, cap, cur, rfl, hb, _⟩
  · simp [Value.ownBlock] at hk
  · have : g = k := by simpa [Value.ownBlock] using hk
    omega
theorem OwnA.has {w : World} {base : Nat} {v : Value} {xs : List Vr} (h : OwnA w base v xs) : HasR w w.heap.size v xs := by
  rcases h.2 with ⟨rfl, hn⟩ | ⟨g, cap, cur, rfl, hb, hh, hc, hm, _⟩
  · rw [List.eq_nil_of_length_eq_zero hn]; exact HasR.nil w _
  · refine ⟨_, cap, rfl, hc, fun hn => ⟨g, 0, rfl, (Array.getElem?_eq_some_iff.1 hh).1, fun i hi => ?_⟩⟩
    obtain ⟨e0, e1, e2⟩ := rowC_at xs i hi
    refine ⟨?_, ?_, ?_⟩
    · rw [Nat.zero_add, World.ownsRow.cellAt h (i * 3) (by omega), e0]
    · rw [Nat.zero_add, World.ownsRow.cellAt h (i * 3 + 1) (by omega), e1]
    · rw [Nat.zero_add, World.ownsRow.cellAt h (i * 3 + 2) (by omega), e2]
section
variable {ops : Array Oper} {rest : List Oper} {o : Oper} {a : Act} {Q : Exit → Act → World → Prop}
set_option maxRecDepth 100000 in
theorem app_aggs {w0 W : World} (hgd : o.guard = none) (s x : Operand) (t : TypeId)
    (ho : o.op = .call { callee := .builtin .append, args := #[s, x], argTypes := #[t, t] })
    (ht : Try.prog.underlying t = some (.slice 51))
    (v : Value) (xs ys : List Vr) (A : Option Addr) (c : Nat) (hs : a.eval s = v) (hx : a.eval x = .slice A ys.length c)
    (hy : rowC ys ≠ [] → ∃ ad, A = some ad ∧ ∀ j u, (rowC ys)[j]? = some u → W.cell? (ad.add j) = some u)
    (HO : OwnA W w0.heap.size v xs) (HB : Below w0.heap.size w0 W) (hl : (xs.length + ys.length) * 32 ≤ 140737488355328)
    (h : ∀ v1 r d, OwnA (xw w0 r d) w0.heap.size v1 (xs ++ ys) → wpList Try.prog ops Q rest (a.put o.dst v1) (xw w0 r d)) :
    wpList Try.prog ops Q (o :: rest) a W := by
  obtain ⟨i0, hi, hzz⟩ := Option.map_eq_some_iff.1 infoA
  simp only [Prod.mk.injEq] at hzz
  obtain ⟨hz0, hz1, hz2⟩ := hzz
  have hrun : ∃ v1 w1, (Builtin.append_ #[t, t] o.type #[v, .slice A ys.length c]).run Try.prog W = .ok v1 w1 ∧ OwnA w1 w0.heap.size v1 (xs ++ ys) ∧ W.grownBy w1 v.ownBlock := by
    rcases A with _ | ad
    · have h0 : ys = [] := by
        cases ys with
        | nil => rfl
        | cons y r =>
          obtain ⟨ad, h, _⟩ := hy (by intro e; have := congrArg List.length e; rw [rowC_len] at this; simp at this)
          cases h
      subst h0
      refine ⟨v, W, ?_, by simpa using HO, World.grownBy.refl W _⟩
      rcases HO.2 with ⟨rfl, hn⟩ | ⟨g, cap, cur, rfl, _, _, hnc, _⟩
      · simp [Builtin.append_, run_underlying ht, sizeOf, typeInfo, hi, Builtin.lenOf, Builtin.firstCells]
      · simp [Builtin.append_, run_underlying ht, sizeOf, typeInfo, hi, Builtin.lenOf, Builtin.firstCells, hnc, storeCells]
    · have hc : ∀ j u, (rowC ys)[j]? = some u → W.cell? (ad.add j) = some u := by
        intro j u hu
        have hne : rowC ys ≠ [] := by intro e; rw [e] at hu; simp at hu
        obtain ⟨ad', h', hc⟩ := hy hne
        injection h' with h'
        subst h'
        exact hc j u hu
      obtain ⟨v1, w1, hr, h2, h3, _, h5⟩ := run_append_own_at (P := Try.prog) W w0.heap.size t o.type 51 i0 _ 3 32 ht hi hz0 hz1 hz2 (by rfl) (by omega) v xs.length (rowC xs) HO ad ys.length c (rowC ys) (by rw [rowC_len]) hc (rowC_cells1 ys) (by simp only [maxLen]; omega) hl HB.size
      exact ⟨v1, w1, hr, by unfold OwnA; rw [rowC_app, List.length_append]; exact h2, h3⟩
  obtain ⟨v1, w1, hr, hown, hg⟩ := hrun
  obtain ⟨r, d, rfl⟩ := grown_xw HB hg (OwnA.base HO)
  refine wpList_plain hgd fun K hK => ?_
  unfold Oper.wp execOp
  simp only [ho, resolve, invoke, builtin, Sem.run_bind, Sem.run_pure, Result.andThen_ok, List.map_toArray, List.map_cons, List.map_nil, hs, hx, hr]
  exact hK _ _ (h v1 r d hown)
end
end Go.Proofs.Ytnidaahimofppaa
