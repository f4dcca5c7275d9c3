/- Layer 6 (row): rows in memory (three cells a value): made and appended to by the call itself, or read. -/
import Derived.Test.YtnidaahimofppaaRowP
import Derived.Test.YtnidaahimofppaaValC
namespace Go.Proofs.Ytnidaahimofppaa
open Go.RowKit
set_option linter.unusedVariables false
set_option linter.unusedSimpArgs false

def valC (x : Vr) : List Value := [.int .i64 x.k, .int .i64 x.n, .string x.s]
def rowC (xs : List Vr) : List Value := xs.flatMap valC
theorem rowC_len (xs : List Vr) : (rowC xs).length = xs.length * 3 := by
  induction xs with
  | nil => rfl
  | cons x r ih => simp only [rowC, List.flatMap_cons, List.length_append, List.length_cons] at ih ⊢; rw [ih]; simp [valC]; omega
theorem rowC_app (xs ys : List Vr) : rowC (xs ++ ys) = rowC xs ++ rowC ys := by simp [rowC]
theorem rowC_one (x : Vr) : rowC [x] = valC x := by simp [rowC]
theorem rowC_at (xs : List Vr) (i : Nat) (hi : i < xs.length) : (rowC xs)[i * 3]? = some (.int .i64 (xs[i]).k) ∧ (rowC xs)[i * 3 + 1]? = some (.int .i64 (xs[i]).n) ∧ (rowC xs)[i * 3 + 2]? = some (.string (xs[i]).s) := by
  induction xs generalizing i with
  | nil => simp at hi
  | cons x r ih =>
    have e : rowC (x :: r) = .int .i64 x.k :: .int .i64 x.n :: .string x.s :: rowC r := rfl
    rw [e]
    cases i with
    | zero => simp
    | succ i =>
      have h := ih i (by simpa using hi)
      rw [show (i + 1) * 3 = i * 3 + 1 + 1 + 1 by omega]
      simpa using h
theorem rowC_cell (xs : List Vr) (j : Nat) (u : Value) (h : (rowC xs)[j]? = some u) : ∃ (i : Nat) (hi : i < xs.length), (j = i * 3 ∧ u = .int .i64 (xs[i]).k) ∨ (j = i * 3 + 1 ∧ u = .int .i64 (xs[i]).n) ∨ (j = i * 3 + 2 ∧ u = .string (xs[i]).s) := by
  have hj : j < xs.length * 3 := by rw [← rowC_len]; exact (List.getElem?_eq_some_iff.1 h).1
  have hi : j / 3 < xs.length := by omega
  obtain ⟨h0, h1, h2⟩ := rowC_at xs (j / 3) hi
  refine ⟨j / 3, hi, ?_⟩
  have hm : j % 3 = 0 ∨ j % 3 = 1 ∨ j % 3 = 2 := by omega
  rcases hm with hm | hm | hm
  · refine .inl ⟨by omega, ?_⟩
    rw [show j / 3 * 3 = j by omega, h] at h0
    injection h0
  · refine .inr (.inl ⟨by omega, ?_⟩)
    rw [show j / 3 * 3 + 1 = j by omega, h] at h1
    injection h1
  · refine .inr (.inr ⟨by omega, ?_⟩)
    rw [show j / 3 * 3 + 2 = j by omega, h] at h2
    injection h2
theorem rowC_cells1 (xs : List Vr) : ∀ u ∈ rowC xs, u.oneCell' = true := by
  intro u hu
  obtain ⟨j, hj⟩ := List.getElem?_of_mem hu
  obtain ⟨i, hi, h⟩ := rowC_cell xs j u hj
  rcases h with ⟨_, rfl⟩ | ⟨_, rfl⟩ | ⟨_, rfl⟩ <;> rfl
theorem infoV : (Try.prog.info? 68).map (fun i => (i.zero, i.size, i.bytes)) = some (some (.agg #[.int .i64 0, .int .i64 0, .string ⟨#[]⟩]), 3, 32) := by kernel_rfl
/-- The slice is the call's own and holds this row. -/
def OwnR (w : World) (base : Nat) (v : Value) (xs : List Vr) : Prop := w.ownsRow base 68 3 v xs.length (rowC xs)
theorem OwnR.below {w w1 : World} {base : Nat} {v : Value} {xs : List Vr} (h : OwnR w base v xs) (hb : Below w.heap.size w w1) : OwnR w1 base v xs := by
  refine ⟨h.1, ?_⟩
  rcases h.2 with h2 | ⟨g, cap, cur, h1, h2, h3, h4⟩
  · exact .inl h2
  · exact .inr ⟨g, cap, cur, h1, h2, by rw [hb.block g (Array.getElem?_eq_some_iff.1 h3).1]; exact h3, h4⟩
theorem OwnR.mono {w : World} {base b0 : Nat} {v : Value} {xs : List Vr} (h : OwnR w base v xs) (hb : b0 ≤ base) : OwnR w b0 v xs := by
  refine ⟨h.1, ?_⟩
  rcases h.2 with h2 | ⟨g, cap, cur, h1, h2, h3⟩
  · exact .inl h2
  · exact .inr ⟨g, cap, cur, h1, Nat.le_trans hb h2, h3⟩
theorem OwnR.nil (w : World) (base : Nat) : OwnR w base (.slice none 0 0) [] := ⟨by simp [rowC], .inl ⟨rfl, rfl⟩⟩
theorem OwnR.lit (w : World) (base : Nat) (xs : List Vr) (hb : base ≤ w.heap.size) (hm : xs.length ≤ 100) : OwnR (w.alloc (.cells (rowC xs).toArray 68)) base (.slice (some ⟨w.heap.size, 0, none⟩) xs.length xs.length) xs := by
  have h := World.ownsRow_lit (base := base) (e := 68) (size := 3) w (rowC xs).toArray xs.length hb (by simp only [maxLen]; omega) (by simp [rowC_len])
  simpa [OwnR] using h
theorem OwnR.base {w : World} {base : Nat} {v : Value} {xs : List Vr} (h : OwnR w base v xs) (k : Nat) (hk : v.ownBlock = some k) : base ≤ k := by
  rcases h.2 with ⟨rfl, _⟩ | ⟨g, cap, cur, rfl, hb, _⟩
  · simp [Value.ownBlock] at hk
  · have : g = k := by simpa [Value.ownBlock] using hk
    omega
/-- The slice holds this row, wherever it lies (in blocks below B). -/
def HasR (w : World) (B : Nat) (v : Value) (xs : List Vr) : Prop := ∃ A c, v = .slice A xs.length c ∧ xs.length ≤ c ∧ (xs ≠ [] → ∃ b off, A = some ⟨b, off, none⟩ ∧ b < B ∧ ∀ i, (hi : i < xs.length) → w.cell? ⟨b, off + i * 3, none⟩ = some (.int .i64 (xs[i]).k) ∧ w.cell? ⟨b, off + i * 3 + 1, none⟩ = some (.int .i64 (xs[i]).n) ∧ w.cell? ⟨b, off + i * 3 + 2, none⟩ = some (.string (xs[i]).s))
theorem HasR.opn {w : World} {B : Nat} {A : Option Addr} {n c : Nat} {xs : List Vr} (h : HasR w B (.slice A n c) xs) : n = xs.length ∧ xs.length ≤ c ∧ (xs ≠ [] → ∃ b off, A = some ⟨b, off, none⟩ ∧ b < B ∧ ∀ i, (hi : i < xs.length) → w.cell? ⟨b, off + i * 3, none⟩ = some (.int .i64 (xs[i]).k) ∧ w.cell? ⟨b, off + i * 3 + 1, none⟩ = some (.int .i64 (xs[i]).n) ∧ w.cell? ⟨b, off + i * 3 + 2, none⟩ = some (.string (xs[i]).s)) := by
  obtain ⟨A', c', hv, hlc, hA⟩ := h
  injection hv with h1 h2 h3
  subst h1 h3
  exact ⟨h2, hlc, hA⟩
theorem HasR.below {w w1 : World} {B : Nat} {v : Value} {xs : List Vr} (h : HasR w B v xs) (hb : Below B w w1) : HasR w1 B v xs := by
  obtain ⟨A, c, hv, hlc, hc⟩ := h
  refine ⟨A, c, hv, hlc, fun hn => ?_⟩
  obtain ⟨b, off, hA, hlt, hcell⟩ := hc hn
  refine ⟨b, off, hA, hlt, fun i hi => ?_⟩
  obtain ⟨e0, e1, e2⟩ := hcell i hi
  exact ⟨(World.cell?_of_block (hb.block b hlt)).trans e0, (World.cell?_of_block (hb.block b hlt)).trans e1, (World.cell?_of_block (hb.block b hlt)).trans e2⟩
theorem HasR.up {w : World} {B B' : Nat} {v : Value} {xs : List Vr} (h : HasR w B v xs) (hB : B ≤ B') : HasR w B' v xs := by
  obtain ⟨A, c, hv, hlc, hc⟩ := h
  refine ⟨A, c, hv, hlc, fun hn => ?_⟩
  obtain ⟨b, off, hA, hlt, hcell⟩ := hc hn
  exact ⟨b, off, hA, Nat.lt_of_lt_of_le hlt hB, hcell⟩
theorem HasR.nil (w : World) (B : Nat) : HasR w B (.slice none 0 0) [] := ⟨none, 0, rfl, Nat.le_refl _, fun h => absurd rfl h⟩
theorem OwnR.has {w : World} {base : Nat} {v : Value} {xs : List Vr} (h : OwnR w base v xs) : HasR w w.heap.size v xs := by
  rcases h.2 with ⟨rfl, hn⟩ | ⟨g, cap, cur, rfl, hb, hh, hc, hm, _⟩
  · rw [List.eq_nil_of_length_eq_zero hn]; exact HasR.nil w _
  · refine ⟨_, cap, rfl, hc, fun hn => ⟨g, 0, rfl, (Array.getElem?_eq_some_iff.1 hh).1, fun i hi => ?_⟩⟩
    obtain ⟨e0, e1, e2⟩ := rowC_at xs i hi
    refine ⟨?_, ?_, ?_⟩
    · rw [Nat.zero_add, World.ownsRow.cellAt h (i * 3) (by omega), e0]
    · rw [Nat.zero_add, World.ownsRow.cellAt h (i * 3 + 1) (by omega), e1]
    · rw [Nat.zero_add, World.ownsRow.cellAt h (i * 3 + 2) (by omega), e2]
theorem HasR.read {w : World} {B : Nat} {A : Option Addr} {n c : Nat} {xs : List Vr} (h : HasR w B (.slice A n c) xs) : rowC xs ≠ [] → ∃ ad, A = some ad ∧ ∀ j u, (rowC xs)[j]? = some u → w.cell? (ad.add j) = some u := by
  intro hne
  obtain ⟨A', c', hv, _, hc⟩ := h
  injection hv with h1 h2 h3
  subst h1
  have hx : xs ≠ [] := by rintro rfl; exact hne rfl
  obtain ⟨b, off, rfl, hlt, hcell⟩ := hc hx
  refine ⟨_, rfl, fun j u hu => ?_⟩
  obtain ⟨i, hi, h⟩ := rowC_cell xs j u hu
  obtain ⟨e0, e1, e2⟩ := hcell i hi
  rw [Addr.add_lit]
  rcases h with ⟨rfl, rfl⟩ | ⟨rfl, rfl⟩ | ⟨rfl, rfl⟩
  · exact e0
  · rw [← Nat.add_assoc]; exact e1
  · rw [← Nat.add_assoc]; exact e2
theorem three_new (W : World) (x y z : Value) (e : TypeId) (j : Nat) (u : Value) (hj : [x, y, z][j]? = some u) : (W.alloc (.cells #[x, y, z] e)).cell? ((⟨W.heap.size, 0, none⟩ : Addr).add j) = some u := by
  match j, hj with
  | 0, hj => simp at hj; subst hj; simp [Addr.add]
  | 1, hj => simp at hj; subst hj; simp [Addr.add]
  | 2, hj => simp at hj; subst hj; simp [Addr.add]
section
variable {ops : Array Oper} {rest : List Oper} {o : Oper} {a : Act} {Q : Exit → Act → World → Prop}
/-- append(v, x), x one value. -/
theorem app_val {w0 W : World} (hgd : o.guard = none) (s x : Operand) (t : TypeId)
    (ho : o.op = .call { callee := .builtin .append, args := #[s, x], argTypes := #[t, t] })
    (ht : Try.prog.underlying t = some (.slice 68))
    (v : Value) (xs : List Vr) (k n : Int) (y : ByteArray) (hs : a.eval s = v) (hx : a.eval x = .slice (some ⟨W.heap.size, 0, none⟩) 1 1)
    (HO : OwnR W w0.heap.size v xs) (HB : Below w0.heap.size w0 W) (hl : xs.length ≤ 100000)
    (h : ∀ v1 r d, OwnR (xw w0 r d) w0.heap.size v1 (xs ++ [⟨k, n, y⟩]) → (W.alloc (.cells #[.int .i64 k, .int .i64 n, .string y] 68)).grownBy (xw w0 r d) v.ownBlock → wpList Try.prog ops Q rest (a.put o.dst v1) (xw w0 r d)) :
    wpList Try.prog ops Q (o :: rest) a (W.alloc (.cells #[.int .i64 k, .int .i64 n, .string y] 68)) := by
  obtain ⟨i0, hi, hzz⟩ := Option.map_eq_some_iff.1 infoV
  simp only [Prod.mk.injEq] at hzz
  obtain ⟨hz0, hz1, hz2⟩ := hzz
  refine wpList_append_own_at (W.alloc (.cells #[.int .i64 k, .int .i64 n, .string y] 68)) hgd s x t ho w0.heap.size 68 i0 _ 3 32 ht hi hz0 hz1 hz2 (by rfl) (by omega) v xs.length (rowC xs) hs (OwnR.below HO ((Below.refl _ _).alloc (Nat.le_refl _) _)) ⟨W.heap.size, 0, none⟩ 1 1 [.int .i64 k, .int .i64 n, .string y] hx rfl
    (three_new W _ _ _ _) (by simp; exact ⟨rfl, rfl, rfl⟩) (by simp only [maxLen]; omega) (by omega) (by have := HB.size; simp; omega) ?_
  intro v1 w1 hown hg _ _
  obtain ⟨r, d, rfl⟩ := grown_xw (HB.alloc HB.size (.cells #[.int .i64 k, .int .i64 n, .string y] 68)) hg (OwnR.base HO)
  refine h v1 r d ?_ hg
  unfold OwnR
  rw [rowC_app, List.length_append]
  exact hown
set_option maxRecDepth 100000 in
/-- append(v, ys...), ys a row that is read; nil, too. -/
theorem app_vals {w0 W : World} (hgd : o.guard = none) (s x : Operand) (t : TypeId)
    (ho : o.op = .call { callee := .builtin .append, args := #[s, x], argTypes := #[t, t] })
    (ht : Try.prog.underlying t = some (.slice 68))
    (v : Value) (xs ys : List Vr) (A : Option Addr) (c : Nat) (hs : a.eval s = v) (hx : a.eval x = .slice A ys.length c)
    (hy : rowC ys ≠ [] → ∃ ad, A = some ad ∧ ∀ j u, (rowC ys)[j]? = some u → W.cell? (ad.add j) = some u)
    (HO : OwnR W w0.heap.size v xs) (HB : Below w0.heap.size w0 W) (hl : (xs.length + ys.length) * 32 ≤ 140737488355328)
    (h : ∀ v1 r d, OwnR (xw w0 r d) w0.heap.size v1 (xs ++ ys) → wpList Try.prog ops Q rest (a.put o.dst v1) (xw w0 r d)) :
    wpList Try.prog ops Q (o :: rest) a W := by
  obtain ⟨i0, hi, hzz⟩ := Option.map_eq_some_iff.1 infoV
  simp only [Prod.mk.injEq] at hzz
  obtain ⟨hz0, hz1, hz2⟩ := hzz
  have hrun : ∃ v1 w1, (Builtin.append_ #[t, t] o.type #[v, .slice A ys.length c]).run Try.prog W = .ok v1 w1 ∧ OwnR w1 w0.heap.size v1 (xs ++ ys) ∧ W.grownBy w1 v.ownBlock := by
    rcases A with _ | ad
    · have h0 : ys = [] := by
        cases ys with
        | nil => rfl
        | cons y r =>
          obtain ⟨ad, h, _⟩ := hy (by intro e; have := congrArg List.length e; rw [rowC_len] at this; simp at this)
          cases h
      subst h0
      refine ⟨v, W, ?_, by simpa using HO, World.grownBy.refl W _⟩
      rcases HO.2 with ⟨rfl, hn⟩ | ⟨g, cap, cur, rfl, _, _, hnc, _⟩
      · simp [Builtin.append_, run_underlying ht, sizeOf, typeInfo, hi, Builtin.lenOf, Builtin.firstCells]
      · simp [Builtin.append_, run_underlying ht, sizeOf, typeInfo, hi, Builtin.lenOf, Builtin.firstCells, hnc, storeCells]
    · have hc : ∀ j u, (rowC ys)[j]? = some u → W.cell? (ad.add j) = some u := by
        intro j u hu
        have hne : rowC ys ≠ [] := by intro e; rw [e] at hu; simp at hu
        obtain ⟨ad', h', hc⟩ := hy hne
        injection h' with h'
        subst h'
        exact hc j u hu
      obtain ⟨v1, w1, hr, h2, h3, _, h5⟩ := run_append_own_at (P := Try.prog) W w0.heap.size t o.type 68 i0 _ 3 32 ht hi hz0 hz1 hz2 (by rfl) (by omega) v xs.length (rowC xs) HO ad ys.length c (rowC ys) (by rw [rowC_len]) hc (rowC_cells1 ys) (by simp only [maxLen]; omega) hl HB.size
      exact ⟨v1, w1, hr, by unfold OwnR; rw [rowC_app, List.length_append]; exact h2, h3⟩
  obtain ⟨v1, w1, hr, hown, hg⟩ := hrun
  obtain ⟨r, d, rfl⟩ := grown_xw HB hg (OwnR.base HO)
  refine wpList_plain hgd fun K hK => ?_
  unfold Oper.wp execOp
  simp only [ho, resolve, invoke, builtin, Sem.run_bind, Sem.run_pure, Result.andThen_ok, List.map_toArray, List.map_cons, List.map_nil, hs, hx, hr]
  exact hK _ _ (h v1 r d hown)
end
end Go.Proofs.Ytnidaahimofppaa
