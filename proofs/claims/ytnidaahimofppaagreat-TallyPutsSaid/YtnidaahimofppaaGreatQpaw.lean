/- Layer 26 (tally): a multi of values in memory; New, place, Count, Of, walked. -/
import Derived.Test.YtnidaahimofppaaGreatQpav
namespace Go.Proofs.YtnidaahimofppaaGreat
open Go.RowKit
set_option linter.unusedVariables false
set_option linter.unusedSimpArgs false

/-- A multi of the call's own: its box, its entries. -/
structure MulAt (w : World) (B g : Nat) (v : Value) (es : List En) : Prop where
  base : B ≤ g
  box : w.heap[g]? = some (.cells #[v, fnCmp, .int .i64 (cntE es)] 117 (0, 0))
  own : OwnE w B v es
  ne : some g ≠ v.ownBlock
  good : GoodE es
theorem MulAt.lt {w : World} {B g : Nat} {v : Value} {es : List En} (h : MulAt w B g v es) : g < w.heap.size := (Array.getElem?_eq_some_iff.1 h.box).1
theorem MulAt.below {w w' : World} {B g : Nat} {v : Value} {es : List En} (h : MulAt w B g v es) (hb : Below w.heap.size w w') : MulAt w' B g v es :=
  ⟨h.base, by rw [hb.block g h.lt]; exact h.box, h.own.below hb, h.ne, h.good⟩
theorem MulAt.keep {w w' : World} {B g : Nat} {v : Value} {es : List En} (h : MulAt w B g v es) (hg : w'.heap[g]? = w.heap[g]?) (hv : ∀ k, v.ownBlock = some k → w'.heap[k]? = w.heap[k]?) : MulAt w' B g v es := by
  refine ⟨h.base, by rw [hg]; exact h.box, ⟨h.own.1, ?_⟩, h.ne, h.good⟩
  rcases h.own.2 with h2 | ⟨g2, cap, cur, h1, h2, h3, h4⟩
  · exact .inl h2
  · exact .inr ⟨g2, cap, cur, h1, h2, by rw [hv g2 (by rw [h1]; rfl)]; exact h3, h4⟩
theorem MulAt.cells {w : World} {B g : Nat} {v : Value} {es : List En} (h : MulAt w B g v es) :
    w.cell? ⟨g, 0, none⟩ = some v ∧ w.cell? ⟨g, 1, none⟩ = some fnCmp ∧ w.cell? ⟨g, 2, none⟩ = some (.int .i64 (cntE es)) ∧ w.frozen? ⟨g, 0, none⟩ = false ∧ w.frozen? ⟨g, 2, none⟩ = false := by
  refine ⟨?_, ?_, ?_, ?_, ?_⟩ <;> simp [World.cell?, World.frozen?, h.box]
theorem Count_any (w : World) (B g : Nat) (v : Value) (es : List En) (h : MulAt w B g v es) :
    Calls Tryz.prog 107 #[.pointer (some ⟨g, 0, none⟩)] w (fun e w' => e = .returned (.int .i64 (cntE es)) ∧ w = w') := by
  obtain ⟨_, _, c2, _, _⟩ := h.cells
  clear h
  go_enter Tryz.func107, Tryz.ntmps107
  go_wp2_with fail
  go_returns
  exact ⟨rfl, rfl⟩
set_option maxRecDepth 100000 in
set_option maxHeartbeats 8000000 in
theorem place_any (w : World) (B g : Nat) (v : Value) (es : List En) (k : Vr) (hk : okV k) (h : MulAt w B g v es) :
    Calls Tryz.prog 103 #[.pointer (some ⟨g, 0, none⟩), va k.k k.n k.s] w (fun e w' => e = .returned (.tuple #[.int .i64 (posE es k : Nat), .bool (isE es k)]) ∧ Below w.heap.size w w') := by
  obtain ⟨w2, hw2⟩ : ∃ w2, w2 = (w.alloc (.cells #[.pointer (some ⟨g, 0, none⟩)] 87)).alloc (.cells #[.int .i64 k.k, .int .i64 k.n, .string k.s] 68) := ⟨_, rfl⟩
  have hb2 : Below w.heap.size w w2 := by rw [hw2]; exact ((Below.refl _ _).alloc (Nat.le_refl _) _).alloc (by rw [World.size_alloc]; omega) _
  have hs : w2.heap.size = w.heap.size + 2 := by rw [hw2, World.size_alloc, World.size_alloc]
  have HW : Kept (MulAt w2 B g v es) := ⟨h.below hb2⟩
  have p0 : w2.cell? ⟨w.heap.size, 0, none⟩ = some (.pointer (some ⟨g, 0, none⟩)) := by rw [hw2]; simp [go_sem]
  have k0 : w2.cell? ⟨w.heap.size + 1, 0, none⟩ = some (.int .i64 k.k) := by rw [hw2]; simp [go_sem]
  have k1 : w2.cell? ⟨w.heap.size + 1, 1, none⟩ = some (.int .i64 k.n) := by rw [hw2]; simp [go_sem]
  have k2 : w2.cell? ⟨w.heap.size + 1, 2, none⟩ = some (.string k.s) := by rw [hw2]; simp [go_sem]
  obtain ⟨A, c, rfl, _, _⟩ := HW.out.own.has
  have c0 := HW.out.cells.1
  have hgl := HW.out.lt
  have hs1 : w.heap.size < w2.heap.size := by omega
  have hs2 : w.heap.size + 1 < w2.heap.size := by omega
  have KB : Kept (Calls Tryz.prog 108 #[.slice A es.length c, va k.k k.n k.s, .func (.func 109) #[] #[.pointer (some ⟨w.heap.size, 0, none⟩)]] w2.drew (fun e w' => e = .returned (.tuple #[.int .i64 (posE es k : Nat), .bool (isE es k)]) ∧ Below w.heap.size w w')) := ⟨by
    have hM := HW.out.below (Below.refl _ _).drew
    refine (bsf_any _ es k w2.drew w.heap.size g hM.own.has hM.good.inc (by have := hM.good.len; omega) hM.good.ok hk p0 hM.cells.2.1 hs1 hM.lt).mono ?_
    rintro e w1 ⟨rfl, hb⟩
    exact ⟨rfl, hb2.trans ((Below.refl _ _).drew.trans (hb.mono (by show w.heap.size ≤ w2.heap.size; omega)))⟩⟩
  clear h hb2
  go_enter Tryz.func103, Tryz.ntmps103
  go_wp2_with fail
  rw [← hw2]
  clear hw2
  go_upto_region 1 with fail
  go_region_with (first | (go_at_call 108; refine KB.out.mono ?_; rintro e w1 ⟨rfl, hb1⟩; have HB1 := Kept.mk hb1; clear hb1))
  all_goals go_wp2_with fail
  all_goals go_returns
  all_goals exact ⟨rfl, HB1.out⟩
theorem isE_at {es : List En} {k : Vr} (h : isE es k = true) : ∃ hp : posE es k < es.length, es[posE es k].k = vcode k ∧ ofE es k = es[posE es k].n := by
  unfold isE at h
  split at h
  · rename_i hp
    have hk := of_decide_eq_true h
    exact ⟨hp, hk, by unfold ofE; rw [dif_pos hp, if_pos hk]⟩
  · cases h
theorem isE_not {es : List En} {k : Vr} (h : isE es k = false) : ofE es k = 0 := by
  unfold isE at h
  unfold ofE
  split at h
  · rename_i hp
    rw [dif_pos hp, if_neg (of_decide_eq_false h)]
  · rename_i hp
    rw [dif_neg hp]
set_option maxRecDepth 100000 in
theorem Of_any (w : World) (B g : Nat) (v : Value) (es : List En) (k : Vr) (hk : okV k) (h : MulAt w B g v es) :
    Calls Tryz.prog 102 #[.pointer (some ⟨g, 0, none⟩), va k.k k.n k.s] w (fun e w' => e = .returned (.int .i64 (ofE es k)) ∧ Below w.heap.size w w') := by
  obtain ⟨w0, hw0⟩ : ∃ w0, w0 = w.alloc (.cells #[.int .i64 k.k, .int .i64 k.n, .string k.s] 68) := ⟨_, rfl⟩
  have hb0 : Below w.heap.size w w0 := by rw [hw0]; exact (Below.refl _ _).alloc (Nat.le_refl _) _
  have ks : w.heap.size < w0.heap.size := by rw [hw0, World.size_alloc]; omega
  have k0 : w0.cell? ⟨w.heap.size, 0, none⟩ = some (.int .i64 k.k) := by rw [hw0]; simp [go_sem]
  have k1 : w0.cell? ⟨w.heap.size, 1, none⟩ = some (.int .i64 k.n) := by rw [hw0]; simp [go_sem]
  have k2 : w0.cell? ⟨w.heap.size, 2, none⟩ = some (.string k.s) := by rw [hw0]; simp [go_sem]
  replace h := h.below hb0
  have HM := Kept.mk h
  have HB0 : Kept (∀ r d, Below w.heap.size w (xw w0 r d)) := ⟨fun r d => below_xw hb0 (by omega) r d⟩
  clear hb0
  have hgl := h.lt
  obtain ⟨c0, _, _, _, _⟩ := h.cells
  cases hi : isE es k with
  | false =>
    have hv : Kept (ofE es k = 0) := ⟨isE_not hi⟩
    have HI := Kept.mk hi
    clear h hi
    go_enter Tryz.func102, Tryz.ntmps102
    go_upto_region 1 with fail
    rw [← hw0]
    clear hw0
    go_wp2_with (first | (go_at_call 103; refine (place_any w0 B g v es k hk HM.out).mono ?_; rintro e w1 ⟨rfl, hb1⟩; obtain ⟨r1, d1, rfl⟩ := xw_of hb1; clear hb1; rewrite [HI.out]))
    go_returns
    exact ⟨by rw [hv.out]; rfl, HB0.out _ _⟩
  | true =>
    obtain ⟨hp, hke, ho⟩ := isE_at hi
    have hv := Kept.mk ho
    have HI := Kept.mk hi
    obtain ⟨A, c, rfl, _, hA⟩ := h.own.has
    have hne : es ≠ [] := by rintro rfl; simp at hp
    obtain ⟨b1, o1, rfl, hb1, hc1⟩ := hA hne
    obtain ⟨e0, e1, e2, e3⟩ := hc1 _ hp
    have f0 : 0 ≤ ((posE es k : Nat) : Int) := by omega
    have f1 : ((posE es k : Nat) : Int) < (es.length : Int) := by omega
    clear h hi hke hc1 hA hne ho e0 e1 e2
    generalize es[posE es k].n = x at e3 hv
    go_enter Tryz.func102, Tryz.ntmps102
    go_upto_region 1 with fail
    rw [← hw0]
    clear hw0
    go_wp2_with (first | (go_at_call 103; refine (place_any w0 B g _ es k hk HM.out).mono ?_; rintro e w1 ⟨rfl, hb1⟩; obtain ⟨r1, d1, rfl⟩ := xw_of hb1; clear hb1; rewrite [HI.out]))
    go_returns
    exact ⟨by rw [hv.out]; rfl, HB0.out _ _⟩
end Go.Proofs.YtnidaahimofppaaGreat
