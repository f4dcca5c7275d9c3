/- Layer 26 (tally): lists of aggregates that the call itself makes (three cells an aggregate, as a value has). -/
import Derived.Test.YtnidaahimofppaaGreatQpan
import Derived.Test.YtnidaahimofppaaGreatQpaz
import Derived.WalkSpells
import Derived.Test.YtnidaahimofppaaGreatQpaa
import Derived.Test.YtnidaahimofppaaGreatQpax
import Derived.Maps.OwnOps
import Derived.Maps.OwnSet
import Derived.Deep.RegionLaw
import Derived.Laws.CopyRow
namespace Go.Proofs.YtnidaahimofppaaGreat
open Go.RowKit
set_option linter.unusedVariables false
set_option linter.unusedSimpArgs false

theorem infoA : (Tryz.prog.info? 56).map (fun i => (i.zero, i.size, i.bytes)) = some (some (.agg #[.int .i64 0, .int .i64 0, .string ⟨#[]⟩]), 3, 32) := by kernel_rfl
def OwnA (w : World) (base : Nat) (v : Value) (xs : List Vr) : Prop := w.ownsRow base 56 3 v xs.length (rowC xs)
theorem OwnA.below {w w1 : World} {base : Nat} {v : Value} {xs : List Vr} (h : OwnA w base v xs) (hb : Below w.heap.size w w1) : OwnA w1 base v xs := by
  refine ⟨h.1, ?_⟩
  rcases h.2 with h2 | ⟨g, cap, cur, h1, h2, h3, h4⟩
  · exact .inl h2
  · exact .inr ⟨g, cap, cur, h1, h2, by rw [hb.block g (Array.getElem?_eq_some_iff.1 h3).1]; exact h3, h4⟩
theorem OwnA.mono {w : World} {base b0 : Nat} {v : Value} {xs : List Vr} (h : OwnA w base v xs) (hb : b0 ≤ base) : OwnA w b0 v xs := by
  refine ⟨h.1, ?_⟩
  rcases h.2 with h2 | ⟨g, cap, cur, h1, h2, h3⟩
  · exact .inl h2
  · exact .inr ⟨g, cap, cur, h1, Nat.le_trans hb h2, h3⟩
theorem OwnA.nil (w : World) (base : Nat) : OwnA w base (.slice none 0 0) [] := ⟨by simp [rowC], .inl ⟨rfl, rfl⟩⟩
theorem OwnA.lit (w : World) (base : Nat) (xs : List Vr) (hb : base ≤ w.heap.size) (hm : xs.length ≤ 100) : OwnA (w.alloc (.cells (rowC xs).toArray 56)) base (.slice (some ⟨w.heap.size, 0, none⟩) xs.length xs.length) xs := by
  have h := World.ownsRow_lit (base := base) (e := 56) (size := 3) w (rowC xs).toArray xs.length hb (by simp only [maxLen]; omega) (by simp [rowC_len])
  simpa [OwnA] using h
theorem OwnA.base {w : World} {base : Nat} {v : Value} {xs : List Vr} (h : OwnA w base v xs) (k : Nat) (hk : v.ownBlock = some k) : base ≤ k := by
  rcases h.2 with ⟨rfl, _⟩ | ⟨g, cap, cur, rfl, hb, _⟩
  · simp [Value.ownBlock] at hk
  · have : g = k := by simpa [Value.ownBlock] using hk
    omega
theorem OwnA.has {w : World} {base : Nat} {v : Value} {xs : List Vr} (h : OwnA w base v xs) : HasR w w.heap.size v xs := by
  rcases h.2 with ⟨rfl, hn⟩ | ⟨g, cap, cur, rfl, hb, hh, hc, hm, _⟩
  · rw [List.eq_nil_of_length_eq_zero hn]; exact HasR.nil w _
  · refine ⟨_, cap, rfl, hc, fun hn => ⟨g, 0, rfl, (Array.getElem?_eq_some_iff.1 hh).1, fun i hi => ?_⟩⟩
    obtain ⟨e0, e1, e2⟩ := rowC_at xs i hi
    refine ⟨?_, ?_, ?_⟩
    · rw [Nat.zero_add, World.ownsRow.cellAt h (i * 3) (by omega), e0]
    · rw [Nat.zero_add, World.ownsRow.cellAt h (i * 3 + 1) (by omega), e1]
    · rw [Nat.zero_add, World.ownsRow.cellAt h (i * 3 + 2) (by omega), e2]
section
variable {ops : Array Oper} {rest : List Oper} {o : Oper} {a : Act} {Q : Exit → Act → World → Prop}
set_option maxRecDepth 100000 in
theorem app_aggs {w0 W : World} (hgd : o.guard = none) (s x : Operand) (t : TypeId)
    (ho : o.op = .call { callee := .builtin .append, args := #[s, x], argTypes := #[t, t] })
    (ht : Tryz.prog.underlying t = some (.slice 56))
    (v : Value) (xs ys : List Vr) (A : Option Addr) (c : Nat) (hs : a.eval s = v) (hx : a.eval x = .slice A ys.length c)
    (hy : rowC ys ≠ [] → ∃ ad, A = some ad ∧ ∀ j u, (rowC ys)[j]? = some u → W.cell? (ad.add j) = some u)
    (HO : OwnA W w0.heap.size v xs) (HB : Below w0.heap.size w0 W) (hl : (xs.length + ys.length) * 32 ≤ 140737488355328)
    (h : ∀ v1 r d, OwnA (xw w0 r d) w0.heap.size v1 (xs ++ ys) → wpList Tryz.prog ops Q rest (a.put o.dst v1) (xw w0 r d)) :
    wpList Tryz.prog ops Q (o :: rest) a W := by
  obtain ⟨i0, hi, hzz⟩ := Option.map_eq_some_iff.1 infoA
  simp only [Prod.mk.injEq] at hzz
  obtain ⟨hz0, hz1, hz2⟩ := hzz
  have hrun : ∃ v1 w1, (Builtin.append_ #[t, t] o.type #[v, .slice A ys.length c]).run Tryz.prog W = .ok v1 w1 ∧ OwnA w1 w0.heap.size v1 (xs ++ ys) ∧ W.grownBy w1 v.ownBlock := by
    rcases A with _ | ad
    · have h0 : ys = [] := by
        cases ys with
        | nil => rfl
        | cons y r =>
          obtain ⟨ad, h, _⟩ := hy (by intro e; have := congrArg List.length e; rw [rowC_len] at this; simp at this)
          cases h
      subst h0
      refine ⟨v, W, ?_, by simpa using HO, World.grownBy.refl W _⟩
      rcases HO.2 with ⟨rfl, hn⟩ | ⟨g, cap, cur, rfl, _, _, hnc, _⟩
      · simp [Builtin.append_, run_underlying ht, sizeOf, typeInfo, hi, Builtin.lenOf, Builtin.firstCells]
      · simp [Builtin.append_, run_underlying ht, sizeOf, typeInfo, hi, Builtin.lenOf, Builtin.firstCells, hnc, storeCells]
    · have hc : ∀ j u, (rowC ys)[j]? = some u → W.cell? (ad.add j) = some u := by
        intro j u hu
        have hne : rowC ys ≠ [] := by intro e; rw [e] at hu; simp at hu
        obtain ⟨ad', h', hc⟩ := hy hne
        injection h' with h'
        subst h'
        exact hc j u hu
      obtain ⟨v1, w1, hr, h2, h3, _, h5⟩ := run_append_own_at (P := Tryz.prog) W w0.heap.size t o.type 56 i0 _ 3 32 ht hi hz0 hz1 hz2 (by rfl) (by omega) v xs.length (rowC xs) HO ad ys.length c (rowC ys) (by rw [rowC_len]) hc (rowC_cells1 ys) (by simp only [maxLen]; omega) hl HB.size
      exact ⟨v1, w1, hr, by unfold OwnA; rw [rowC_app, List.length_append]; exact h2, h3⟩
  obtain ⟨v1, w1, hr, hown, hg⟩ := hrun
  obtain ⟨r, d, rfl⟩ := grown_xw HB hg (OwnA.base HO)
  refine wpList_plain hgd fun K hK => ?_
  unfold Oper.wp execOp
  simp only [ho, resolve, invoke, builtin, Sem.run_bind, Sem.run_pure, Result.andThen_ok, List.map_toArray, List.map_cons, List.map_nil, hs, hx, hr]
  exact hK _ _ (h v1 r d hown)
end
end Go.Proofs.YtnidaahimofppaaGreat

/- Layer 26 (tally): slices.Clone of schemas and of aggregates, and begin, walked. -/
namespace Go.Proofs.YtnidaahimofppaaGreat
open Go.RowKit
set_option linter.unusedVariables false
set_option linter.unusedSimpArgs false

set_option maxRecDepth 100000 in
set_option maxHeartbeats 1000000 in
theorem cloneC_any (v : Value) (cs : List Cl) (w : World) (H : HasC w w.heap.size v cs) (h8 : cs.length ≤ 8) :
    Calls Tryz.prog 15 #[v] w (RetC1 w cs) := by
  have HH := Kept.mk H
  have H8 := Kept.mk h8
  obtain ⟨A, c, rfl, hlc, hA⟩ := H
  clear h8
  rcases A with _ | ad
  · have h0 : cs = [] := by
      by_cases h : cs = []
      · exact h
      · obtain ⟨_, _, h2, _⟩ := hA h
        cases h2
    subst h0
    clear hA hlc
    have hq : ∀ W : World, (binOp .eql 23 (.slice none ([] : List Cl).length c) (.slice none 0 0)).run Tryz.prog W = .ok (.bool true) W := fun W => Lib.run_eql_slice_nil (P := Tryz.prog) W 23 _ none _ c 0 0 Tryz.underlying23
    simp only [List.length_nil] at hq ⊢
    go_enter Tryz.func15, Tryz.ntmps15
    go_wp2_with fail
    go_returns
    exact ⟨_, rfl, OwnC.nil _ _, Below.refl _ _⟩
  · clear hA hlc
    have hq : ∀ W : World, (binOp .eql 23 (.slice (some ad) cs.length c) (.slice none 0 0)).run Tryz.prog W = .ok (.bool false) W := fun W => Lib.run_eql_slice_nil (P := Tryz.prog) W 23 _ (some ad) _ c 0 0 Tryz.underlying23
    go_enter Tryz.func15, Tryz.ntmps15
    go_wp2_with (first
      | ((at_builtin); refine app_cols (w0 := w) (W := _) rfl (.tmp 5) (.tmp 6) 23 rfl Tryz.underlying23 (.slice (some ⟨w.heap.size, 0, none⟩) 0 0) [] cs (some ad) c rfl rfl ?c1 ?c2 ?c3 ?c4 ?_; (case c1 => exact (HH.out.below ((Below.refl _ _).alloc (Nat.le_refl _) _)).read); (case c2 => exact OwnC.lit _ _ [] (Nat.le_refl _) (by simp)); (case c3 => exact (Below.refl _ _).alloc (Nat.le_refl _) _); (case c4 => have := H8.out; simp only [List.length_nil]; omega); intro v3 r3 d3 hO3; rewrite [List.nil_append] at hO3; have HO3 := Kept.mk hO3; clear hO3))
    go_returns
    exact ⟨_, rfl, HO3.out, xw_below _ _ _⟩
/-- It returns a new list of aggregates. -/
def RetA1 (w : World) (xs : List Vr) (e : Ending) (w' : World) : Prop := ∃ v, e = .returned v ∧ OwnA w' w.heap.size v xs ∧ Below w.heap.size w w'
set_option maxRecDepth 100000 in
set_option maxHeartbeats 1000000 in
theorem cloneA_any (v : Value) (cs : List Vr) (w : World) (H : HasR w w.heap.size v cs) (h8 : cs.length ≤ 8) :
    Calls Tryz.prog 16 #[v] w (RetA1 w cs) := by
  have HH := Kept.mk H
  have H8 := Kept.mk h8
  obtain ⟨A, c, rfl, hlc, hA⟩ := H
  clear h8
  rcases A with _ | ad
  · have h0 : cs = [] := by
      by_cases h : cs = []
      · exact h
      · obtain ⟨_, _, h2, _⟩ := hA h
        cases h2
    subst h0
    clear hA hlc
    have hq : ∀ W : World, (binOp .eql 24 (.slice none ([] : List Vr).length c) (.slice none 0 0)).run Tryz.prog W = .ok (.bool true) W := fun W => Lib.run_eql_slice_nil (P := Tryz.prog) W 24 _ none _ c 0 0 Tryz.underlying24
    simp only [List.length_nil] at hq ⊢
    go_enter Tryz.func16, Tryz.ntmps16
    go_wp2_with fail
    go_returns
    exact ⟨_, rfl, OwnA.nil _ _, Below.refl _ _⟩
  · clear hA hlc
    have hq : ∀ W : World, (binOp .eql 24 (.slice (some ad) cs.length c) (.slice none 0 0)).run Tryz.prog W = .ok (.bool false) W := fun W => Lib.run_eql_slice_nil (P := Tryz.prog) W 24 _ (some ad) _ c 0 0 Tryz.underlying24
    go_enter Tryz.func16, Tryz.ntmps16
    go_wp2_with (first
      | ((at_builtin); refine app_aggs (w0 := w) (W := _) rfl (.tmp 5) (.tmp 6) 24 rfl Tryz.underlying24 (.slice (some ⟨w.heap.size, 0, none⟩) 0 0) [] cs (some ad) c rfl rfl ?c1 ?c2 ?c3 ?c4 ?_; (case c1 => exact (HH.out.below ((Below.refl _ _).alloc (Nat.le_refl _) _)).read); (case c2 => exact OwnA.lit _ _ [] (Nat.le_refl _) (by simp)); (case c3 => exact (Below.refl _ _).alloc (Nat.le_refl _) _); (case c4 => have := H8.out; simp only [List.length_nil]; omega); intro v3 r3 d3 hO3; rewrite [List.nil_append] at hO3; have HO3 := Kept.mk hO3; clear hO3))
    go_returns
    exact ⟨_, rfl, HO3.out, xw_below _ _ _⟩
theorem lnew_any (w : World) : Calls Tryz.prog 30 #[] w (fun e w' => e = .returned (.pointer (some ⟨w.heap.size, 0, none⟩)) ∧ w.alloc (.cells #[.complex .f64 0 0] 129) = w') := by
  go_enter Tryz.func30, Tryz.ntmps30
  go_wp2_with fail
  go_returns
  exact ⟨rfl, rfl⟩
theorem vnew_any (w : World) : Calls Tryz.prog 28 #[.func (Fn.func 29) #[] #[]] w (fun e w' => e = .returned (.pointer (some ⟨w.heap.size, 0, none⟩)) ∧ w.alloc (.cells #[.slice none 0 0, .func (Fn.func 29) #[] #[], .int .i64 0] 117) = w') := by
  go_enter Tryz.func28, Tryz.ntmps28
  go_wp2_with fail
  go_returns
  exact ⟨rfl, rfl⟩
end Go.Proofs.YtnidaahimofppaaGreat

/- Layer 26 (tally): a tally in memory. -/
namespace Go.Proofs.YtnidaahimofppaaGreat
open Go.RowKit Go.Maps
set_option linter.unusedVariables false
set_option linter.unusedSimpArgs false

/-- What an aggregate has come to. -/
inductive Pt where
  | cnt (n : Int)
  | tot (n : Int)
  | ext (last : Bool) (es : List En)
  | sid (north : Bool) (z : Int × Int)
  | sta
/-- Nothing but these blocks (and new memory) has changed. -/
structure Chg (f : List Nat) (w w' : World) : Prop where
  os : w'.os = w.os
  tape : w'.tape = w.tape
  output : w'.output = w.output
  size : w.heap.size ≤ w'.heap.size
  block : ∀ k, k < w.heap.size → k ∉ f → w'.heap[k]? = w.heap[k]?
theorem Chg.refl (f : List Nat) (w : World) : Chg f w w := ⟨rfl, rfl, rfl, Nat.le_refl _, fun _ _ _ => rfl⟩
theorem Chg.of {f : List Nat} {w w' : World} (h : Below w.heap.size w w') : Chg f w w' := ⟨h.os, h.tape, h.output, h.size, fun k hk _ => h.block k hk⟩
theorem Chg.trans {f f1 : List Nat} {w w1 w2 : World} (h : Chg f w w1) (h2 : Chg f1 w1 w2) (hf : ∀ k ∈ f1, k ∈ f ∨ w.heap.size ≤ k) : Chg f w w2 :=
  ⟨h2.os.trans h.os, h2.tape.trans h.tape, h2.output.trans h.output, Nat.le_trans h.size h2.size, fun k hk hg => (h2.block k (Nat.lt_of_lt_of_le hk h.size) (fun e => (hf k e).elim hg (fun e => by omega))).trans (h.block k hk hg)⟩
theorem Chg.up {f f1 : List Nat} {w w1 : World} (h : Chg f w w1) (hf : ∀ k ∈ f, k ∈ f1) : Chg f1 w w1 := ⟨h.os, h.tape, h.output, h.size, fun k hk hg => h.block k hk (fun e => hg (hf k e))⟩
theorem Chg.below {f : List Nat} {w w1 : World} {B : Nat} (h : Chg f w w1) (hB : B ≤ w.heap.size) (hf : ∀ k ∈ f, B ≤ k) : Below B w w1 :=
  ⟨h.os, h.tape, h.output, h.size, fun k hk => h.block k (by omega) (fun e => by have := hf k e; omega)⟩
theorem Chg.set {f : List Nat} {w w' : World} (h : Chg f w w') (g i : Nat) (hg : g ∈ f ∨ w.heap.size ≤ g) (v : Value) : Chg f w (w'.setCell ⟨g, i, none⟩ v) :=
  h.trans (f1 := [g]) ⟨rfl, rfl, rfl, by simp, fun k _ hk => Below.heap_setCell w' ⟨g, i, none⟩ v k (by simpa using hk)⟩ (fun k hk => by simp at hk; subst hk; exact hg)
/-- A lean in memory. -/
def LeanAt (w : World) (g : Nat) (z : Int × Int) : Prop := ∃ re im, w.heap[g]? = some (.cells #[.complex .f64 re im] 129 (0, 0)) ∧ FI re z.1 ∧ FI im z.2
/-- A part in memory, in these blocks. -/
def PartAt (w : World) (f : List Nat) (v : Value) : Pt → Prop
  | .cnt n => ∃ g, v = .iface 77 (.pointer (some ⟨g, 0, none⟩)) ∧ f = [g] ∧ w.heap[g]? = some (.cells #[.int .i64 n] 79 (0, 0))
  | .tot n => ∃ g, v = .iface 80 (.pointer (some ⟨g, 0, none⟩)) ∧ f = [g] ∧ inW n ∧ w.heap[g]? = some (.cells #[.int .i64 (hiW n), .int .u64 (loW n)] 85 (0, 0))
  | .ext last es => ∃ g gm ve, v = .iface 86 (.pointer (some ⟨g, 0, none⟩)) ∧ f = g :: gm :: ve.ownBlock.toList ∧ w.heap[g]? = some (.cells #[.pointer (some ⟨gm, 0, none⟩), .bool last] 91 (0, 0)) ∧ MulAt w 0 gm ve es
  | .sid north z => ∃ g gl, v = .iface 92 (.pointer (some ⟨g, 0, none⟩)) ∧ f = [g, gl] ∧ w.heap[g]? = some (.cells #[.pointer (some ⟨gl, 0, none⟩), .bool north] 96 (0, 0)) ∧ LeanAt w gl z
  | .sta => v = .iface 98 (.agg #[]) ∧ f = []
theorem PartAt.chg {w w' : World} {f fc : List Nat} {v : Value} {p : Pt} (h : PartAt w f v p) (hc : Chg fc w w') (hd : ∀ k ∈ f, k ∉ fc) : PartAt w' f v p := by
  cases p with
  | cnt n =>
    obtain ⟨g, h1, rfl, h3⟩ := h
    exact ⟨g, h1, rfl, by rw [hc.block g (Array.getElem?_eq_some_iff.1 h3).1 (hd g (by simp))]; exact h3⟩
  | tot n =>
    obtain ⟨g, h1, rfl, h2, h3⟩ := h
    exact ⟨g, h1, rfl, h2, by rw [hc.block g (Array.getElem?_eq_some_iff.1 h3).1 (hd g (by simp))]; exact h3⟩
  | ext last es =>
    obtain ⟨g, gm, ve, h1, rfl, h3, h4⟩ := h
    exact ⟨g, gm, ve, h1, rfl, by rw [hc.block g (Array.getElem?_eq_some_iff.1 h3).1 (hd g (by simp))]; exact h3, h4.keep (hc.block gm h4.lt (hd gm (by simp))) (fun k hk => by
      obtain ⟨arr, h5⟩ := h4.own.typ hk
      exact hc.block k (Array.getElem?_eq_some_iff.1 h5).1 (hd k (by simp [hk])))⟩
  | sid north z =>
    obtain ⟨g, gl, h1, rfl, h3, re, im, h4, h5⟩ := h
    exact ⟨g, gl, h1, rfl, by rw [hc.block g (Array.getElem?_eq_some_iff.1 h3).1 (hd g (by simp))]; exact h3, re, im, by rw [hc.block gl (Array.getElem?_eq_some_iff.1 h4).1 (hd gl (by simp))]; exact h4, h5⟩
  | sta => exact h
theorem PartAt.below {w w' : World} {f : List Nat} {v : Value} {p : Pt} (h : PartAt w f v p) (hb : Below w.heap.size w w') : PartAt w' f v p := h.chg (Chg.of (f := []) hb) (fun _ _ => by simp)
/-- The kinds of the parts' blocks. -/
def ptTy : List TypeId := [79, 85, 91, 117, 183, 96, 129]
theorem PartAt.tys {w : World} {f : List Nat} {v : Value} {p : Pt} (h : PartAt w f v p) : ∀ k ∈ f, ∃ arr ty fr, w.heap[k]? = some (.cells arr ty fr) ∧ ty ∈ ptTy := by
  cases p with
  | cnt n =>
    obtain ⟨g, h1, rfl, h3⟩ := h
    intro k hk
    simp at hk
    subst hk
    exact ⟨_, _, _, h3, by decide⟩
  | tot n =>
    obtain ⟨g, h1, rfl, _, h3⟩ := h
    intro k hk
    simp at hk
    subst hk
    exact ⟨_, _, _, h3, by decide⟩
  | ext last es =>
    obtain ⟨g, gm, ve, h1, rfl, h3, h4⟩ := h
    intro k hk
    simp only [List.mem_cons, Option.mem_toList, Option.mem_def] at hk
    rcases hk with rfl | rfl | hk
    · exact ⟨_, _, _, h3, by decide⟩
    · exact ⟨_, _, _, h4.box, by decide⟩
    · obtain ⟨arr, h5⟩ := h4.own.typ hk
      exact ⟨_, _, _, h5, by decide⟩
  | sid north z =>
    obtain ⟨g, gl, h1, rfl, h3, re, im, h4, h5⟩ := h
    intro k hk
    simp at hk
    rcases hk with rfl | rfl
    · exact ⟨_, _, _, h3, by decide⟩
    · exact ⟨_, _, _, h4, by decide⟩
  | sta => intro k hk; rw [h.2] at hk; simp at hk
def ptOf (k : Int) : Pt := if k = 1 then .cnt 0 else if k = 2 then .tot 0 else if k = 3 ∨ k = 4 then .ext (k == 4) [] else if k = 5 ∨ k = 6 then .sid (k == 6) (0, 0) else .sta
/-- A new part. -/
def NewPart (w : World) (k : Int) (v : Value) (w' : World) : Prop := (∃ f, PartAt w' f v (ptOf k) ∧ ∀ x ∈ f, w.heap.size ≤ x ∧ x < w'.heap.size) ∧ ∃ t pl, v = .iface t pl
def BegP (w : World) (k : Int) (e : Ending) (w' : World) : Prop := ∃ v, e = .returned v ∧ NewPart w k v w' ∧ Below w.heap.size w w'
end Go.Proofs.YtnidaahimofppaaGreat

/- Layer 26 (tally): begin, walked. -/
namespace Go.Proofs.YtnidaahimofppaaGreat
open Go.RowKit Go.Maps
set_option linter.unusedVariables false
set_option linter.unusedSimpArgs false

theorem blk_new (w : World) (o : Obj) : (w.alloc o).heap[w.heap.size]? = some o := Array.getElem?_push_size
theorem blk_old (w : World) (o : Obj) {k : Nat} (h : k < w.heap.size) : (w.alloc o).heap[k]? = w.heap[k]? := by
  show (w.heap.push _)[k]? = _
  rw [Array.getElem?_push, if_neg (by omega)]
theorem extNew (w : World) (b : Bool) : PartAt ((w.alloc (.cells #[.slice none 0 0, .func (Fn.func 29) #[] #[], .int .i64 0] 117)).alloc (.cells #[.pointer (some ⟨w.heap.size, 0, none⟩), .bool b] 91)) [w.heap.size + 1, w.heap.size] (.iface 86 (.pointer (some ⟨w.heap.size + 1, 0, none⟩))) (.ext b []) := by
  have hs : (w.alloc (.cells #[.slice none 0 0, .func (Fn.func 29) #[] #[], .int .i64 0] 117)).heap.size = w.heap.size + 1 := World.size_alloc _ _
  refine ⟨w.heap.size + 1, w.heap.size, .slice none 0 0, rfl, rfl, by rw [← hs]; exact blk_new _ _, ⟨Nat.zero_le _, ?_, OwnE.nil _ _, by simp [Value.ownBlock], GoodE.nil⟩⟩
  rw [blk_old _ _ (by omega)]
  exact blk_new _ _
theorem sidNew (w : World) (b : Bool) : PartAt ((w.alloc (.cells #[.complex .f64 0 0] 129)).alloc (.cells #[.pointer (some ⟨w.heap.size, 0, none⟩), .bool b] 96)) [w.heap.size + 1, w.heap.size] (.iface 92 (.pointer (some ⟨w.heap.size + 1, 0, none⟩))) (.sid b (0, 0)) := by
  have hs : (w.alloc (.cells #[.complex .f64 0 0] 129)).heap.size = w.heap.size + 1 := World.size_alloc _ _
  refine ⟨w.heap.size + 1, w.heap.size, rfl, rfl, by rw [← hs]; exact blk_new _ _, 0, 0, ?_, FI.zero, FI.zero⟩
  rw [blk_old _ _ (by omega)]
  exact blk_new _ _
set_option maxRecDepth 100000 in
set_option maxHeartbeats 2000000 in
theorem begin_any (k : Int) (w : World) : Calls Tryz.prog 17 #[.int .i64 k] w (BegP w k) := by
  by_cases k1 : k = 1
  · subst k1
    go_enter Tryz.func17, Tryz.ntmps17
    go_wp2_with fail
    go_returns
    exact ⟨_, rfl, ⟨⟨_, ⟨_, rfl, rfl, blk_new w _⟩, by simp⟩, _, _, rfl⟩, (Below.refl _ _).alloc (Nat.le_refl _) _⟩
  by_cases k2 : k = 2
  · subst k2
    go_enter Tryz.func17, Tryz.ntmps17
    go_wp2_with fail
    go_returns
    exact ⟨_, rfl, ⟨⟨_, ⟨_, rfl, rfl, by decide, blk_new w _⟩, by simp⟩, _, _, rfl⟩, (Below.refl _ _).alloc (Nat.le_refl _) _⟩
  by_cases k3 : k = 3
  · subst k3
    go_enter Tryz.func17, Tryz.ntmps17
    go_wp2_with (first | (go_at_call 28; refine (vnew_any _).mono ?_; rintro e w1 ⟨rfl, rfl⟩))
    go_returns
    exact ⟨_, rfl, ⟨⟨_, extNew w false, by simp [Value.ownBlock]; omega⟩, _, _, rfl⟩, ((Below.refl _ _).alloc (Nat.le_refl _) _).alloc (by simp) _⟩
  by_cases k4 : k = 4
  · subst k4
    go_enter Tryz.func17, Tryz.ntmps17
    go_wp2_with (first | (go_at_call 28; refine (vnew_any _).mono ?_; rintro e w1 ⟨rfl, rfl⟩))
    go_returns
    exact ⟨_, rfl, ⟨⟨_, extNew w true, by simp [Value.ownBlock]; omega⟩, _, _, rfl⟩, ((Below.refl _ _).alloc (Nat.le_refl _) _).alloc (by simp) _⟩
  by_cases k5 : k = 5
  · subst k5
    go_enter Tryz.func17, Tryz.ntmps17
    go_wp2_with (first | (go_at_call 30; refine (lnew_any _).mono ?_; rintro e w1 ⟨rfl, rfl⟩))
    go_returns
    exact ⟨_, rfl, ⟨⟨_, sidNew w false, by simp; omega⟩, _, _, rfl⟩, ((Below.refl _ _).alloc (Nat.le_refl _) _).alloc (by simp) _⟩
  by_cases k6 : k = 6
  · subst k6
    go_enter Tryz.func17, Tryz.ntmps17
    go_wp2_with (first | (go_at_call 30; refine (lnew_any _).mono ?_; rintro e w1 ⟨rfl, rfl⟩))
    go_returns
    exact ⟨_, rfl, ⟨⟨_, sidNew w true, by simp; omega⟩, _, _, rfl⟩, ((Below.refl _ _).alloc (Nat.le_refl _) _).alloc (by simp) _⟩
  have hp : ptOf k = .sta := by unfold ptOf; rw [if_neg k1, if_neg k2, if_neg (by omega), if_neg (by omega)]
  have HP := Kept.mk hp
  have d1 : (k == 1) = false := by simp [k1]
  have d2 : (k == 2) = false := by simp [k2]
  have d3 : (k == 3) = false := by simp [k3]
  have d4 : (k == 4) = false := by simp [k4]
  have d5 : (k == 5) = false := by simp [k5]
  have d6 : (k == 6) = false := by simp [k6]
  clear k1 k2 k3 k4 k5 k6 hp
  go_enter Tryz.func17, Tryz.ntmps17
  go_wp2_with fail
  go_returns
  exact ⟨_, rfl, ⟨⟨[], by rw [HP.out]; exact ⟨rfl, rfl⟩, by simp⟩, _, _, rfl⟩, Below.refl _ _⟩
end Go.Proofs.YtnidaahimofppaaGreat

/- Layer 26 (tally): a whole tally in memory; New, walked. -/
namespace Go.Proofs.YtnidaahimofppaaGreat
open Go.RowKit Go.Maps
set_option linter.unusedVariables false
set_option linter.unusedSimpArgs false

theorem strKey : Keyed Tryz.prog 9 := string_keyed Tryz.underlying9
/-- The map says this of each text; it has been written at most n times. -/
def MapIs (w : World) (b n : Nat) (m : List UInt8 → Int) : Prop :=
  ∃ D : DataW Unit, w.ownsMap Tryz.prog 9 (plainElem Tryz.prog 3) b n D ∧ ∀ k, D.atKey (.string k) (.lit (.int .i64 0)) = .lit (.int .i64 (m k))
theorem MapIs.blk {w : World} {b n : Nat} {m : List UInt8 → Int} (h : MapIs w b n m) : ∃ es c, w.heap[b]? = some (.map es c) := by
  obtain ⟨D, ⟨es, c, h1, _⟩, _⟩ := h
  exact ⟨es, c, h1⟩
theorem MapIs.keep {w w' : World} {b n : Nat} {m : List UInt8 → Int} (h : MapIs w b n m) (hb : w'.heap[b]? = w.heap[b]?) : MapIs w' b n m := by
  obtain ⟨D, ⟨es, c, h1, h2⟩, h3⟩ := h
  exact ⟨D, ⟨es, c, hb.trans h1, h2⟩, h3⟩
theorem MapIs.made (w : World) : MapIs (w.alloc (.map #[] 0)) w.heap.size 0 (fun _ => 0) := ⟨_, World.ownsMap_made _ _ _ _, fun k => rfl⟩
theorem PartAt.ty {w : World} {f : List Nat} {v : Value} {p : Pt} (h : PartAt w f v p) : ∀ k ∈ f, ∃ arr ty fr, w.heap[k]? = some (.cells arr ty fr) ∧ ty ≠ 62 ∧ ty ≠ 60 := fun k hk => by
  obtain ⟨arr, ty, fr, h1, h2⟩ := h.tys k hk
  exact ⟨arr, ty, fr, h1, fun e => by subst e; exact absurd h2 (by decide), fun e => by subst e; exact absurd h2 (by decide)⟩
theorem Own.typ {w : World} {base : Nat} {e : TypeId} {v : Value} {xs : List Value} (h : Own w base e v xs) {k : Nat} (hk : v.ownBlock = some k) : ∃ arr fr, w.heap[k]? = some (.cells arr e fr) := by
  rcases h.2 with ⟨rfl, _⟩ | ⟨g, cap, cur, rfl, _, h3, _⟩
  · simp [Value.ownBlock] at hk
  · have : g = k := by simpa [Value.ownBlock] using hk
    subst this
    exact ⟨_, _, h3⟩
theorem Own.keep {w w' : World} {base : Nat} {e : TypeId} {v : Value} {xs : List Value} (h : Own w base e v xs) (hb : ∀ k, v.ownBlock = some k → w'.heap[k]? = w.heap[k]?) : Own w' base e v xs := by
  refine ⟨h.1, ?_⟩
  rcases h.2 with h2 | ⟨g, cap, cur, h1, h2, h3, h4⟩
  · exact .inl h2
  · exact .inr ⟨g, cap, cur, h1, h2, by rw [hb g (by rw [h1]; rfl)]; exact h3, h4⟩
abbrev Trd := Value × List Nat × Pt
structure TalIn (w : World) (B B1 g gm : Nat) (sv av pv : Value) (ts : List Trd) (cs : List Cl) (ags : List Vr) (m : List UInt8 → Int) (nm : Nat) (cnt : Int) : Prop where
  base : B ≤ B1
  svB : ∀ k, sv.ownBlock = some k → B ≤ k ∧ k < B1
  avB : ∀ k, av.ownBlock = some k → B ≤ k ∧ k < B1
  gB : B1 ≤ g
  mB : B1 ≤ gm
  box : w.heap[g]? = some (.cells #[sv, av, pv, .map (some gm), .int .i64 cnt] 60 (0, 0))
  sch : HasC w B1 sv cs
  agg : HasR w B1 av ags
  map : MapIs w gm nm m
  row : Own w B1 62 pv (ts.map (·.1))
  parts : ∀ t ∈ ts, PartAt w t.2.1 t.1 t.2.2 ∧ ∀ k ∈ t.2.1, B1 ≤ k
  apart : ts.Pairwise (fun s t => ∀ k ∈ s.2.1, k ∉ t.2.1)
section
variable {w w' : World} {B B1 g gm : Nat} {sv av pv : Value} {ts : List Trd} {cs : List Cl} {ags : List Vr} {m : List UInt8 → Int} {nm : Nat} {cnt : Int}
theorem TalIn.lt (h : TalIn w B B1 g gm sv av pv ts cs ags m nm cnt) : g < w.heap.size := (Array.getElem?_eq_some_iff.1 h.box).1
theorem TalIn.ltm (h : TalIn w B B1 g gm sv av pv ts cs ags m nm cnt) : gm < w.heap.size := by
  obtain ⟨_, _, h2⟩ := h.map.blk
  exact (Array.getElem?_eq_some_iff.1 h2).1
theorem TalIn.gm_ne (h : TalIn w B B1 g gm sv av pv ts cs ags m nm cnt) : gm ≠ g := by
  rintro rfl
  obtain ⟨_, _, h2⟩ := h.map.blk
  rw [h.box] at h2
  injection h2 with h2
  cases h2
theorem TalIn.row_ne (h : TalIn w B B1 g gm sv av pv ts cs ags m nm cnt) {k : Nat} (hk : pv.ownBlock = some k) : k < w.heap.size ∧ k ≠ g ∧ k ≠ gm := by
  obtain ⟨arr, fr, h2⟩ := h.row.typ hk
  refine ⟨(Array.getElem?_eq_some_iff.1 h2).1, ?_, ?_⟩
  · rintro rfl
    rw [h.box] at h2
    injection h2 with h2
    injection h2 with _ h3 _
    exact absurd h3 (by decide)
  · rintro rfl
    obtain ⟨_, _, h3⟩ := h.map.blk
    rw [h3] at h2
    injection h2 with h2
    cases h2
theorem TalIn.part_ne (h : TalIn w B B1 g gm sv av pv ts cs ags m nm cnt) {t : Trd} (ht : t ∈ ts) {k : Nat} (hk : k ∈ t.2.1) : k < w.heap.size ∧ k ≠ g ∧ k ≠ gm ∧ pv.ownBlock ≠ some k := by
  obtain ⟨arr, ty, fr, h1, h2, h3⟩ := (h.parts t ht).1.ty k hk
  refine ⟨(Array.getElem?_eq_some_iff.1 h1).1, ?_, ?_, ?_⟩
  · rintro rfl
    rw [h.box] at h1
    injection h1 with h1
    injection h1 with _ h4 _
    exact h3 h4.symm
  · rintro rfl
    obtain ⟨_, _, h4⟩ := h.map.blk
    rw [h4] at h1
    injection h1 with h1
    cases h1
  · intro e
    obtain ⟨_, _, h4⟩ := h.row.typ e
    rw [h4] at h1
    injection h1 with h1
    injection h1 with _ h5 _
    exact h2 h5.symm
theorem TalIn.keep (h : TalIn w B B1 g gm sv av pv ts cs ags m nm cnt) {f : List Nat} (hc : Chg f w w') (hf : ∀ k ∈ f, B1 ≤ k ∧ k ≠ g ∧ k ≠ gm ∧ pv.ownBlock ≠ some k ∧ ∀ t ∈ ts, k ∉ t.2.1) : TalIn w' B B1 g gm sv av pv ts cs ags m nm cnt := by
  have hB : B1 ≤ w.heap.size := by have := h.gB; have := h.lt; omega
  have hb : Below B1 w w' := hc.below hB (fun k hk => (hf k hk).1)
  have hgg : g ∉ f := fun e => (hf g e).2.1 rfl
  have hmm : gm ∉ f := fun e => (hf gm e).2.2.1 rfl
  exact ⟨h.base, h.svB, h.avB, h.gB, h.mB, by rw [hc.block g h.lt hgg]; exact h.box, h.sch.below hb, h.agg.below hb, h.map.keep (hc.block gm h.ltm hmm),
    h.row.keep (fun k hk => hc.block k (h.row_ne hk).1 (fun e => (hf k e).2.2.2.1 hk)), fun t ht => ⟨(h.parts t ht).1.chg hc (fun k hk e => (hf k e).2.2.2.2 t ht hk), (h.parts t ht).2⟩, h.apart⟩
theorem HasC.chg {f : List Nat} {B : Nat} {v : Value} {xs : List Cl} (h : HasC w B v xs) (hc : Chg f w w') (hB : B ≤ w.heap.size) (hf : ∀ k, v.ownBlock = some k → k ∉ f) : HasC w' B v xs := by
  obtain ⟨A, c, rfl, hlc, hc2⟩ := h
  refine ⟨A, c, rfl, hlc, fun hn => ?_⟩
  obtain ⟨b, off, rfl, hlt, hcell⟩ := hc2 hn
  have hk := hc.block b (by omega) (hf b rfl)
  refine ⟨b, off, rfl, hlt, fun i hi => ?_⟩
  obtain ⟨e0, e1⟩ := hcell i hi
  exact ⟨(World.cell?_of_block hk).trans e0, (World.cell?_of_block hk).trans e1⟩
theorem HasR.chg {f : List Nat} {B : Nat} {v : Value} {xs : List Vr} (h : HasR w B v xs) (hc : Chg f w w') (hB : B ≤ w.heap.size) (hf : ∀ k, v.ownBlock = some k → k ∉ f) : HasR w' B v xs := by
  obtain ⟨A, c, rfl, hlc, hc2⟩ := h
  refine ⟨A, c, rfl, hlc, fun hn => ?_⟩
  obtain ⟨b, off, rfl, hlt, hcell⟩ := hc2 hn
  have hk := hc.block b (by omega) (hf b rfl)
  refine ⟨b, off, rfl, hlt, fun i hi => ?_⟩
  obtain ⟨e0, e1, e2⟩ := hcell i hi
  exact ⟨(World.cell?_of_block hk).trans e0, (World.cell?_of_block hk).trans e1, (World.cell?_of_block hk).trans e2⟩
/-- The blocks that a put writes, and those that it reads alone. -/
def FW (g gm : Nat) (ts : List Trd) : List Nat := g :: gm :: ts.flatMap (·.2.1)
def FD (sv av pv : Value) : List Nat := sv.ownBlock.toList ++ (av.ownBlock.toList ++ pv.ownBlock.toList)
theorem FW_part {g gm : Nat} {ts : List Trd} {t : Trd} (ht : t ∈ ts) {k : Nat} (hk : k ∈ t.2.1) : k ∈ FW g gm ts := List.mem_cons_of_mem _ (List.mem_cons_of_mem _ (List.mem_flatMap.2 ⟨t, ht, hk⟩))
theorem FW_set {g gm : Nat} {ts : List Trd} {i : Nat} {v : Value} {f' : List Nat} {p' : Pt} {k : Nat} (hk : k ∈ FW g gm (ts.set i (v, f', p'))) : k ∈ FW g gm ts ∨ k ∈ f' := by
  rcases List.mem_cons.1 hk with e | hk
  · exact .inl (by rw [e]; exact List.mem_cons_self)
  rcases List.mem_cons.1 hk with e | hk
  · exact .inl (by rw [e]; exact List.mem_cons_of_mem _ List.mem_cons_self)
  obtain ⟨t, ht, hk⟩ := List.mem_flatMap.1 hk
  rcases List.mem_or_eq_of_mem_set ht with ht | rfl
  · exact .inl (FW_part ht hk)
  · exact .inr hk
theorem TalIn.ofFW (h : TalIn w B B1 g gm sv av pv ts cs ags m nm cnt) {k : Nat} (hk : k ∈ FW g gm ts) : B ≤ k ∧ k < w.heap.size := by
  have h1 := h.base
  have h2 := h.gB
  have h3 := h.mB
  have h4 := h.lt
  have h5 := h.ltm
  rcases List.mem_cons.1 hk with e | hk
  · omega
  rcases List.mem_cons.1 hk with e | hk
  · omega
  obtain ⟨t, ht, hk⟩ := List.mem_flatMap.1 hk
  have h6 := (h.part_ne ht hk).1
  have h7 := (h.parts t ht).2 k hk
  omega
theorem TalIn.ofFD (h : TalIn w B B1 g gm sv av pv ts cs ags m nm cnt) {k : Nat} (hk : k ∈ FD sv av pv) : B ≤ k ∧ k < w.heap.size := by
  have h1 := h.base
  have h2 := h.gB
  have h4 := h.lt
  rcases List.mem_append.1 hk with hk | hk
  · have := h.svB k (by simpa using hk); omega
  rcases List.mem_append.1 hk with hk | hk
  · have := h.avB k (by simpa using hk); omega
  · have h5 := h.row_ne (k := k) (by simpa using hk)
    have h6 := h.row.base k (by simpa using hk)
    omega
/-- What changes other blocks leaves a tally as it is. -/
theorem TalIn.keepF (h : TalIn w B B1 g gm sv av pv ts cs ags m nm cnt) {f : List Nat} (hc : Chg f w w') (hf : ∀ k ∈ f, k ∉ FW g gm ts ∧ k ∉ FD sv av pv) : TalIn w' B B1 g gm sv av pv ts cs ags m nm cnt := by
  have hB : B1 ≤ w.heap.size := by have := h.gB; have := h.lt; omega
  have hgg : g ∉ f := fun e => (hf g e).1 List.mem_cons_self
  have hmm : gm ∉ f := fun e => (hf gm e).1 (List.mem_cons_of_mem _ List.mem_cons_self)
  exact ⟨h.base, h.svB, h.avB, h.gB, h.mB, by rw [hc.block g h.lt hgg]; exact h.box, h.sch.chg hc hB (fun k hk e => (hf k e).2 (List.mem_append_left _ (by simp [hk]))), h.agg.chg hc hB (fun k hk e => (hf k e).2 (List.mem_append_right _ (List.mem_append_left _ (by simp [hk])))), h.map.keep (hc.block gm h.ltm hmm),
    h.row.keep (fun k hk => hc.block k (h.row_ne hk).1 (fun e => (hf k e).2 (List.mem_append_right _ (List.mem_append_right _ (by simp [hk]))))), fun t ht => ⟨(h.parts t ht).1.chg hc (fun k hk e => (hf k e).1 (FW_part ht hk)), (h.parts t ht).2⟩, h.apart⟩
theorem TalIn.below (h : TalIn w B B1 g gm sv av pv ts cs ags m nm cnt) (hb : Below w.heap.size w w') : TalIn w' B B1 g gm sv av pv ts cs ags m nm cnt := h.keep (f := []) (Chg.of hb) (fun k hk => by simp at hk)
/-- One part more. -/
theorem TalIn.push {W w2 : World} (h : TalIn w B B1 g gm sv av pv ts cs ags m nm cnt) (hb : Below w.heap.size w W) {v pv' : Value} {f : List Nat} {p : Pt} (hp : PartAt W f v p) (hf : ∀ x ∈ f, w.heap.size ≤ x) (hgr : W.grownBy w2 pv.ownBlock)
    (hO : Own w2 B1 62 pv' (ts.map (·.1) ++ [v])) : TalIn (w2.setCell ⟨g, 2, none⟩ pv') B B1 g gm sv av pv' (ts ++ [(v, f, p)]) cs ags m nm cnt := by
  have hW := h.below hb
  have hgn : some g ≠ pv.ownBlock := fun e => (hW.row_ne e.symm).2.1 rfl
  have hmn : some gm ≠ pv.ownBlock := fun e => (hW.row_ne e.symm).2.2 rfl
  have hbx : w2.heap[g]? = some (.cells #[sv, av, pv, .map (some gm), .int .i64 cnt] 60 (0, 0)) := (hgr.block g hW.lt hgn).trans hW.box
  have hset : w2.setCell ⟨g, 2, none⟩ pv' = w2.setRow g #[sv, av, pv', .map (some gm), .int .i64 cnt] := setCell_eq_setRow w2 g 2 _ _ _ _ hbx
  have hB : B1 ≤ W.heap.size := by have := hW.gB; have := hW.lt; omega
  have hb2 : Below B1 W (w2.setCell ⟨g, 2, none⟩ pv') := ((Below.refl _ _).grown hgr hB (fun k hk => hW.row.base k hk)).setCell (p := ⟨g, 2, none⟩) hW.gB _
  have hkeep : ∀ k, k < W.heap.size → some k ≠ pv.ownBlock → k ≠ g → (w2.setCell ⟨g, 2, none⟩ pv').heap[k]? = W.heap[k]? := fun k h1 h2 h3 => by
    rw [hset, setRow_other _ _ _ _ h3]
    exact hgr.block k h1 h2
  have hchg : ∀ fx : List Nat, (∀ k ∈ fx, some k ≠ pv.ownBlock ∧ k ≠ g) → ∀ {x : Value} {q : Pt}, PartAt W fx x q → PartAt (w2.setCell ⟨g, 2, none⟩ pv') fx x q := fun fx hx x q hq => by
    have hc : Chg (g :: pv.ownBlock.toList) W (w2.setCell ⟨g, 2, none⟩ pv') := ⟨hb2.os, hb2.tape, hb2.output, hb2.size, fun k h1 h2 => hkeep k h1 (fun e => h2 (by simp [← e])) (fun e => h2 (by simp [e]))⟩
    refine hq.chg hc (fun k hk e => ?_)
    rcases List.mem_cons.1 e with e | e
    · exact (hx k hk).2 e
    · exact (hx k hk).1 (by simpa using (Option.mem_toList.1 e).symm)
  refine ⟨h.base, h.svB, h.avB, h.gB, h.mB, by rw [hset]; exact setRow_heap w2 g _ _ _ _ hbx, hW.sch.below hb2, hW.agg.below hb2, hW.map.keep (hkeep gm hW.ltm hmn hW.gm_ne), ?_, ?_, ?_⟩
  · rw [List.map_append]
    refine hO.keep (fun k hk => ?_)
    rw [hset]
    refine setRow_other _ _ _ _ ?_
    rintro rfl
    obtain ⟨_, _, h4⟩ := hO.typ hk
    rw [hbx] at h4
    injection h4 with h4
    injection h4 with _ h5 _
    exact absurd h5 (by decide)
  · intro t ht
    rcases List.mem_append.1 ht with ht | ht
    · exact ⟨hchg _ (fun k hk => ⟨fun e => (hW.part_ne ht hk).2.2.2 e.symm, (hW.part_ne ht hk).2.1⟩) (hW.parts t ht).1, (hW.parts t ht).2⟩
    · simp at ht
      subst ht
      refine ⟨hchg _ (fun k hk => ⟨fun e => ?_, ?_⟩) hp, fun k hk => ?_⟩
      · have := (h.row_ne e.symm).1
        have := hf k hk
        omega
      · have := hf k hk
        have := h.lt
        omega
      · have := hf k hk
        have := h.lt
        have := h.gB
        omega
  · rw [List.pairwise_append]
    refine ⟨hW.apart, by simp, fun s hs t ht => ?_⟩
    simp at ht
    subst ht
    intro k hk e
    have := (h.part_ne hs hk).1
    have := hf k e
    omega
end
end Go.Proofs.YtnidaahimofppaaGreat
