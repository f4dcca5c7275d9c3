/- Texts and slices of one's own: a text's bytes appended, and a text made bytes. -/
import Derived.Test.YtnidaahimofppaaOwn
import Derived.Lib.AppendStr
namespace Go.Proofs.Ytnidaahimofppaa
open Go.RowKit
set_option linter.unusedVariables false
set_option linter.unusedSimpArgs false

theorem add_lit0 (g j : Nat) : (⟨g, 0, none⟩ : Addr).add j = ⟨g, j, none⟩ := by simp [Addr.add]; intro h; exact h.symm
theorem strCells_u8s (s : ByteArray) : Go.Lib.strCells s = u8s (bytesOf s) := by simp [Go.Lib.strCells, u8s, bytesOf]
section
variable {P : Program} {ops : Array Oper} {rest : List Oper} {o : Oper} {a : Act} {Q : Exit → Act → World → Prop}
/-- append(v, s...): s a text. -/
theorem app_str {w0 W : World} (hgd : o.guard = none) (s x : Operand) (t u e : TypeId)
    (ho : o.op = .call { callee := .builtin .append, args := #[s, x], argTypes := #[t, u] })
    (ht : P.underlying t = some (.slice e)) (hu : P.underlying u = some .string) (hinfo : (P.info? e).map (fun i => (i.zero, i.size, i.bytes)) = some (some (.int .u8 0), 1, 1))
    (v : Value) (xs : List Value) (y : ByteArray) (hs : a.eval s = v) (hx : a.eval x = .string y)
    (HO : Own W w0.heap.size e v xs) (HB : Below w0.heap.size w0 W) (hl : xs.length + y.size ≤ 140737488355328)
    (h : ∀ v1 r d, Own (xw w0 r d) w0.heap.size e v1 (xs ++ u8s (bytesOf y)) → wpList P ops Q rest (a.put o.dst v1) (xw w0 r d)) :
    wpList P ops Q (o :: rest) a W := by
  obtain ⟨i0, hi, hzz⟩ := Option.map_eq_some_iff.1 hinfo
  simp only [Prod.mk.injEq] at hzz
  obtain ⟨hz0, hz1, hz2⟩ := hzz
  refine Go.Lib.wpList_append_own_string W hgd s x t u ho w0.heap.size e i0 ht hu hi hz0 hz1 hz2 v xs.length xs hs HO y hx (by simp only [maxLen]; omega) hl HB.size ?_
  intro v1 w1 hown hg _
  obtain ⟨r, d, rfl⟩ := grown_xw HB hg (HO.base)
  refine h v1 r d ?_
  have hl2 : xs.length + y.size = (xs ++ u8s (bytesOf y)).length := by rw [List.length_append, u8s_len, bytesOf_len]
  unfold Own
  rw [← hl2, ← strCells_u8s]
  exact hown
theorem bytesWorld_below (w : World) (e : TypeId) (s : ByteArray) : Below w.heap.size w (Go.Lib.bytesWorld w e s) :=
  ⟨rfl, rfl, rfl, by rw [Go.Lib.bytesWorld_size]; omega, fun i hi => Go.Lib.bytesWorld_at_old w e s i hi⟩
/-- append(v, ys...): both are one's own. -/
theorem app_own {w0 W : World} (hgd : o.guard = none) (s x : Operand) (t e : TypeId) (z : Value) (bytes : Nat)
    (ho : o.op = .call { callee := .builtin .append, args := #[s, x], argTypes := #[t, t] })
    (ht : P.underlying t = some (.slice e)) (hinfo : (P.info? e).map (fun i => (i.zero, i.size, i.bytes)) = some (some z, 1, bytes)) (hz : z.cells.size = 1) (hb0 : 0 < bytes)
    (v : Value) (xs : List Value) (b2 : Nat) (v2 : Value) (ys : List Value) (hs : a.eval s = v) (hx : a.eval x = v2) (h1 : ∀ y ∈ ys, y.oneCell' = true)
    (HO : Own W w0.heap.size e v xs) (HO2 : Own W b2 e v2 ys) (HB : Below w0.heap.size w0 W) (hl : (xs.length + ys.length) * bytes ≤ 140737488355328)
    (h : ∀ v1 r d, Own (xw w0 r d) w0.heap.size e v1 (xs ++ ys) → wpList P ops Q rest (a.put o.dst v1) (xw w0 r d)) :
    wpList P ops Q (o :: rest) a W := by
  rcases HO2.cells with ⟨rfl, rfl⟩ | ⟨g, c, rfl, _, _, _, _, hc⟩
  · exact app_row hgd s x t e z bytes ho ht hinfo hz hb0 v xs [] none 0 hs hx h1 (by simp) HO HB hl h
  · refine app_row hgd s x t e z bytes ho ht hinfo hz hb0 v xs ys (some ⟨g, 0, none⟩) c hs hx h1 (fun _ => ⟨_, rfl, fun j u hu => ?_⟩) HO HB hl h
    rw [add_lit0, hc j (List.getElem?_eq_some_iff.1 hu).1, hu]
/-- []byte(s). -/
theorem conv_str {w0 W : World} (hgd : o.guard = none) (x : Operand) (src dst e : TypeId)
    (ho : o.op = .convert src dst x) (hsr : P.underlying src = some .string) (hd : P.underlying dst = some (.slice e)) (he : P.underlying e = some (.int .u8))
    (s : ByteArray) (hx : a.eval x = .string s) (HB : Below w0.heap.size w0 W)
    (h : ∀ g c r d, (∀ j u, (u8s (bytesOf s))[j]? = some u → (xw w0 r d).cell? ⟨g, j, none⟩ = some u) → Below W.heap.size W (xw w0 r d) → W.heap.size ≤ g → wpList P ops Q rest (a.put o.dst (.slice (some ⟨g, 0, none⟩) (bytesOf s).length c)) (xw w0 r d)) :
    wpList P ops Q (o :: rest) a W := by
  have hb := bytesWorld_below W e s
  obtain ⟨r, d, hw⟩ := xw_of (HB.trans (hb.mono HB.size))
  have hr := Go.Lib.run_convert_string_bytes (P := P) W src dst e s hsr hd he
  refine wpList_plain hgd fun K hK => ?_
  unfold Oper.wp execOp
  simp only [ho, Sem.run_bind, Sem.run_pure, Result.andThen_ok, hx, hr]
  rw [← bytesOf_len, hw]
  rw [hw] at hb
  refine hK _ _ (h _ _ r d ?_ hb (Nat.le_refl _))
  intro j u hu
  rw [← hw]
  have hj : j < s.size := by
    have := (List.getElem?_eq_some_iff.1 hu).1
    rwa [u8s_len, bytesOf_len] at this
  rw [Go.Lib.bytesWorld_cell W e s j hj, ← hu]
  have hj' : j < s.data.toList.length := by rw [Array.length_toList]; exact hj
  rw [u8s, bytesOf, List.getElem?_map, List.getElem?_map, List.getElem?_eq_getElem hj', List.getD_eq_getElem?_getD, List.getElem?_eq_getElem hj']
  rfl
end
end Go.Proofs.Ytnidaahimofppaa
