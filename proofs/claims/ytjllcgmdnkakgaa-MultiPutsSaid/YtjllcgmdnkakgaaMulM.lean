/- Layer 24 (multi): a multi in memory; New, place, Count, Of, walked. -/
import Derived.Test.YtjllcgmdnkakgaaMulB
namespace Go.Proofs.Ytjllcgmdnkakgaa
open Go.RowKit
set_option linter.unusedVariables false
set_option linter.unusedSimpArgs false

/-- A multi of the call's own: its box, its entries. -/
structure MulAt (w : World) (B g : Nat) (v : Value) (es : List En) : Prop where
  base : B ≤ g
  box : w.heap[g]? = some (.cells #[v, fnCmp, .int .i64 (cntE es)] 49 (0, 0))
  own : OwnE w B v es
  ne : some g ≠ v.ownBlock
  good : GoodE es
theorem MulAt.lt {w : World} {B g : Nat} {v : Value} {es : List En} (h : MulAt w B g v es) : g < w.heap.size := (Array.getElem?_eq_some_iff.1 h.box).1
theorem MulAt.below {w w' : World} {B g : Nat} {v : Value} {es : List En} (h : MulAt w B g v es) (hb : Below w.heap.size w w') : MulAt w' B g v es :=
  ⟨h.base, by rw [hb.block g h.lt]; exact h.box, h.own.below hb, h.ne, h.good⟩
theorem MulAt.cells {w : World} {B g : Nat} {v : Value} {es : List En} (h : MulAt w B g v es) :
    w.cell? ⟨g, 0, none⟩ = some v ∧ w.cell? ⟨g, 1, none⟩ = some fnCmp ∧ w.cell? ⟨g, 2, none⟩ = some (.int .i64 (cntE es)) ∧ w.frozen? ⟨g, 0, none⟩ = false ∧ w.frozen? ⟨g, 2, none⟩ = false := by
  refine ⟨?_, ?_, ?_, ?_, ?_⟩ <;> simp [World.cell?, World.frozen?, h.box]
theorem New_any (w : World) : Calls Try.prog 7 #[fnCmp] w (fun e w' => e = .returned (.pointer (some ⟨w.heap.size, 0, none⟩)) ∧ MulAt w' w.heap.size w.heap.size (.slice none 0 0) [] ∧ Below w.heap.size w w') := by
  go_enter Try.func7, Try.ntmps7
  go_wp2_with fail
  go_returns
  refine ⟨rfl, ⟨Nat.le_refl _, Array.getElem?_push_size, OwnE.nil _ _, by simp [Value.ownBlock], GoodE.nil⟩, (Below.refl _ _).alloc (Nat.le_refl _) _⟩
theorem Count_any (w : World) (B g : Nat) (v : Value) (es : List En) (h : MulAt w B g v es) :
    Calls Try.prog 14 #[.pointer (some ⟨g, 0, none⟩)] w (fun e w' => e = .returned (.int .i64 (cntE es)) ∧ w = w') := by
  obtain ⟨_, _, c2, _, _⟩ := h.cells
  clear h
  go_enter Try.func14, Try.ntmps14
  go_wp2_with fail
  go_returns
  exact ⟨rfl, rfl⟩
set_option maxRecDepth 100000 in
theorem place_any (w : World) (B g : Nat) (v : Value) (es : List En) (k : Int) (h : MulAt w B g v es) :
    Calls Try.prog 20 #[.pointer (some ⟨g, 0, none⟩), .int .i64 k] w (fun e w' => e = .returned (.tuple #[.int .i64 (posE es k : Nat), .bool (isE es k)]) ∧ Below w.heap.size w w') := by
  obtain ⟨c0, _, _, _, _⟩ := h.cells
  have HM := Kept.mk h
  have hgl := h.lt
  have HW : Kept (MulAt (w.alloc (.cells #[.pointer (some ⟨g, 0, none⟩)] 24)) B g v es) := ⟨h.below ((Below.refl _ _).alloc (Nat.le_refl _) _)⟩
  have HC : Kept ((w.alloc (.cells #[.pointer (some ⟨g, 0, none⟩)] 24)).cell? ⟨w.heap.size, 0, none⟩ = some (.pointer (some ⟨g, 0, none⟩))) := ⟨by simp [go_sem]⟩
  clear h
  go_enter Try.func20, Try.ntmps20
  go_wp2_with fail
  go_at_call 24
  refine (bsf_any v es k _ w.heap.size g HW.out.own.has HW.out.good.inc (by have := HW.out.good.len; omega) HC.out HW.out.cells.2.1 (by rw [World.size_alloc]; omega) HW.out.lt).mono ?_
  rintro e w1 ⟨rfl, hb1⟩
  obtain ⟨r1, d1, rfl⟩ := xw_of hb1
  clear hb1
  go_wp2_with fail
  go_returns
  exact ⟨rfl, below_xw ((Below.refl _ _).alloc (Nat.le_refl _) _) (by rw [World.size_alloc]; omega) _ _⟩
theorem isE_at {es : List En} {k : Int} (h : isE es k = true) : ∃ hp : posE es k < es.length, es[posE es k].k = k ∧ ofE es k = es[posE es k].n := by
  unfold isE at h
  split at h
  · rename_i hp
    have hk := of_decide_eq_true h
    exact ⟨hp, hk, by unfold ofE; rw [dif_pos hp, if_pos hk]⟩
  · cases h
theorem isE_not {es : List En} {k : Int} (h : isE es k = false) : ofE es k = 0 := by
  unfold isE at h
  unfold ofE
  split at h
  · rename_i hp
    rw [dif_pos hp, if_neg (of_decide_eq_false h)]
  · rename_i hp
    rw [dif_neg hp]
set_option maxRecDepth 100000 in
theorem Of_any (w : World) (B g : Nat) (v : Value) (es : List En) (k : Int) (h : MulAt w B g v es) :
    Calls Try.prog 15 #[.pointer (some ⟨g, 0, none⟩), .int .i64 k] w (fun e w' => e = .returned (.int .i64 (ofE es k)) ∧ Below w.heap.size w w') := by
  have HM := Kept.mk h
  have hgl := h.lt
  obtain ⟨c0, _, _, _, _⟩ := h.cells
  cases hi : isE es k with
  | false =>
    have hv : Kept (ofE es k = 0) := ⟨isE_not hi⟩
    have HI := Kept.mk hi
    clear h hi
    go_enter Try.func15, Try.ntmps15
    go_wp2_with (first | (go_at_call 20; refine (place_any w B g v es k HM.out).mono ?_; rintro e w1 ⟨rfl, hb1⟩; obtain ⟨r1, d1, rfl⟩ := xw_of hb1; clear hb1; rewrite [HI.out]))
    go_returns
    exact ⟨by rw [hv.out]; rfl, xw_below _ _ _⟩
  | true =>
    obtain ⟨hp, hk, ho⟩ := isE_at hi
    have hv := Kept.mk ho
    have HI := Kept.mk hi
    obtain ⟨A, c, rfl, _, hA⟩ := h.own.has
    have hne : es ≠ [] := by rintro rfl; simp at hp
    obtain ⟨b1, o1, rfl, hb1, hc1⟩ := hA hne
    obtain ⟨e0, e1⟩ := hc1 _ hp
    have f0 : 0 ≤ ((posE es k : Nat) : Int) := by omega
    have f1 : ((posE es k : Nat) : Int) < (es.length : Int) := by omega
    clear h hi hk hc1 hA hne ho e0
    generalize es[posE es k].n = x at e1 hv
    go_enter Try.func15, Try.ntmps15
    go_wp2_with (first | (go_at_call 20; refine (place_any w B g _ es k HM.out).mono ?_; rintro e w1 ⟨rfl, hb1⟩; obtain ⟨r1, d1, rfl⟩ := xw_of hb1; clear hb1; rewrite [HI.out]))
    go_returns
    exact ⟨by rw [hv.out]; rfl, xw_below _ _ _⟩
end Go.Proofs.Ytjllcgmdnkakgaa
