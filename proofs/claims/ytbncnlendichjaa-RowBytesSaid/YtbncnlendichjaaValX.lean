/- Layer 5 (value): the next value of a reader's, walked; the program's and the reference's. -/
import Derived.Test.YtbncnlendichjaaValS
import Derived.Test.YtbncnlendichjaaBinD
namespace Go.Proofs.Ytbncnlendichjaa
open Go.RowKit
set_option linter.unusedVariables false
set_option linter.unusedSimpArgs false

/-- What is read: the kind, the number, the text, what was wrong; and the reader's state. -/
structure Rv where
  k : Int
  n : Int
  t : ByteArray
  e : Int
def readV (s : St) : Rv × St :=
  if (byteS s).2.1 ≠ 0 then (⟨0, 0, ⟨#[]⟩, (byteS s).2.1⟩, (byteS s).2)
  else if (byteS s).1 = 1 then
    (if (grpS 10 (byteS s).2).2.1 ≠ 0 then (⟨0, 0, ⟨#[]⟩, (grpS 10 (byteS s).2).2.1⟩, (grpS 10 (byteS s).2).2)
     else (⟨1, unzig (grpS 10 (byteS s).2).1, ⟨#[]⟩, 0⟩, (grpS 10 (byteS s).2).2))
  else if (byteS s).1 = 2 then
    (if (textS 64 (byteS s).2).2.1 ≠ 0 then (⟨0, 0, ⟨#[]⟩, (textS 64 (byteS s).2).2.1⟩, (textS 64 (byteS s).2).2)
     else (⟨2, 0, strOfNums (textS 64 (byteS s).2).1, 0⟩, (textS 64 (byteS s).2).2))
  else (⟨0, 0, ⟨#[]⟩, 4⟩, (byteS s).2)
def VP (g : Nat) (xs : List Int) (w : World) (q : Rv × St) (r : Ending) (w' : World) : Prop :=
  ∃ (a' : Nat) (y' : Int), r = .returned (.tuple #[va q.1.k q.1.n q.1.t, .int .i64 q.1.e]) ∧ Rd w' g xs a' y' ∧ But g w w' ∧ stOf xs a' y' = q.2
theorem stOf_fst (xs : List Int) (a : Nat) (y : Int) : (stOf xs a y).1 = y := rfl
/-- A block of a value's three cells. -/
def Box (w : World) (b : Nat) (k n : Int) (t : ByteArray) : Prop := w.heap[b]? = some (.cells #[.int .i64 k, .int .i64 n, .string t] 39 (0, 0))
theorem Box.lt {w : World} {b : Nat} {k n : Int} {t : ByteArray} (h : Box w b k n t) : b < w.heap.size := (Array.getElem?_eq_some_iff.1 h).1
theorem Box.but {w w' : World} {b g : Nat} {k n : Int} {t : ByteArray} (h : Box w b k n t) (hb : But g w w') (hne : b ≠ g) : Box w' b k n t := (hb.block b h.lt hne).trans h
theorem Box.c0 {w : World} {b : Nat} {k n : Int} {t : ByteArray} (h : Box w b k n t) : w.cell? ⟨b, 0, none⟩ = some (.int .i64 k) ∧ w.cell? ⟨b, 1, none⟩ = some (.int .i64 n) ∧ w.cell? ⟨b, 2, none⟩ = some (.string t) ∧ w.frozen? ⟨b, 0, none⟩ = false ∧ w.frozen? ⟨b, 1, none⟩ = false ∧ w.frozen? ⟨b, 2, none⟩ = false := by
  refine ⟨?_, ?_, ?_, ?_, ?_, ?_⟩
  · rw [Lib.cell_of_heap h]; rfl
  · rw [Lib.cell_of_heap h]; rfl
  · rw [Lib.cell_of_heap h]; rfl
  · exact Lib.frozen_of_heap h 0
  · exact Lib.frozen_of_heap h 1
  · exact Lib.frozen_of_heap h 2
theorem Box.store {w : World} {b : Nat} {k n : Int} {t : ByteArray} (h : Box w b k n t) (k' n' : Int) (t' : ByteArray) : Box (((w.setCell ⟨b, 0, none⟩ (.int .i64 k')).setCell ⟨b, 1, none⟩ (.int .i64 n')).setCell ⟨b, 2, none⟩ (.string t')) b k' n' t' := by
  unfold Box at h ⊢
  rw [set_block _ b 2 _ _ _ _ (set_block _ b 1 _ _ _ _ (set_block w b 0 _ _ _ _ h))]
  rfl
theorem Box.butSet {w : World} {b : Nat} (k' n' : Int) (t' : ByteArray) : But b w (((w.setCell ⟨b, 0, none⟩ (.int .i64 k')).setCell ⟨b, 1, none⟩ (.int .i64 n')).setCell ⟨b, 2, none⟩ (.string t')) :=
  (((But.refl b w).set 0 _).set 1 _).set 2 _
theorem boxes (w : World) : Box ((w.alloc (.cells #[.int .i64 0, .int .i64 0, .string ⟨#[]⟩] 39)).alloc (.cells #[.int .i64 0, .int .i64 0, .string ⟨#[]⟩] 39)) w.heap.size 0 0 ⟨#[]⟩ ∧ Box ((w.alloc (.cells #[.int .i64 0, .int .i64 0, .string ⟨#[]⟩] 39)).alloc (.cells #[.int .i64 0, .int .i64 0, .string ⟨#[]⟩] 39)) (w.heap.size + 1) 0 0 ⟨#[]⟩ := by
  refine ⟨?_, ?_⟩
  · unfold Box
    rw [Lib.alloc_old _ _ _ (by rw [World.size_alloc]; omega)]
    exact Array.getElem?_push_size
  · unfold Box
    have h : (w.alloc (.cells #[.int .i64 0, .int .i64 0, .string ⟨#[]⟩] 39)).heap.size = w.heap.size + 1 := World.size_alloc _ _
    rw [← h]
    exact Array.getElem?_push_size
/-- A reader is as it was where a value's box has changed. -/
theorem Rd.box {w w' : World} {g b : Nat} {xs : List Int} {a : Nat} {y k n : Int} {t : ByteArray} (h : Rd w g xs a y) (hx : Box w b k n t) (hne : g ≠ b) (hb : But b w w') : Rd w' g xs a y := by
  obtain ⟨kk, c, ty, e1, e2, e3, e4, e5⟩ := h.blk
  refine ⟨⟨kk, c, ty, (hb.block g h.lt hne).trans e1, e2, Nat.lt_of_lt_of_le e3 hb.size, e4, fun j u hj => ?_⟩, h.at_le, h.len⟩
  have hk : kk ≠ b := by
    rintro rfl
    have hc := (e5 j u hj).1
    rw [Lib.cell_of_heap hx] at hc
    match j with
    | 0 => simp at hc
    | 1 => simp at hc
    | 2 => simp at hc
    | j + 3 => simp at hc
  exact (e5 j u hj).keep (hb.block kk e3 hk)
theorem But.step {g p : Nat} {w w1 w' : World} (h : But g w w1) (h2 : But p w1 w') (hp : w.heap.size ≤ p) : But g w w' :=
  ⟨h2.os.trans h.os, h2.tape.trans h.tape, h2.output.trans h.output, Nat.le_trans h.size h2.size, fun k hk hg => (h2.block k (Nat.lt_of_lt_of_le hk h.size) (by omega)).trans (h.block k hk hg)⟩

set_option maxRecDepth 100000 in
set_option maxHeartbeats 2000000 in
theorem read_val (g : Nat) (xs : List Int) (hxs : ∀ b ∈ xs, 0 ≤ b ∧ b ≤ 255) (a : Nat) (y : Int) (w : World) (H : Rd w g xs a y) :
    Calls Try.prog 44 #[.pointer (some ⟨g, 0, none⟩)] w (VP g xs w (readV (stOf xs a y))) := by
  have HX := Kept.mk hxs
  have HR := Kept.mk H
  have hlt := H.lt
  clear hxs H
  go_enter Try.func44, Try.ntmps44
  go_wp2_with fail
  go_at_call 42
  have HR0 := Kept.mk (HR.out.below (((Below.refl w.heap.size w).alloc (Nat.le_refl _) (.cells #[.int .i64 0, .int .i64 0, .string ⟨#[]⟩] 39)).alloc (by simp) (.cells #[.int .i64 0, .int .i64 0, .string ⟨#[]⟩] 39)))
  refine (Byte_read g xs a y _ HR0.out).mono ?_
  rintro e w1 ⟨b, a1, y1, rfl, hR1, hB1, hs1⟩
  have hp := (boxes w).1.but hB1 (by omega)
  have hq := (boxes w).2.but hB1 (by omega)
  have HB1 := Kept.mk ((But.of ((((Below.refl w.heap.size w).alloc (Nat.le_refl _) _).alloc (by simp) _)) g).trans hB1)
  have HP := Kept.mk hp
  have HQ := Kept.mk hq
  have HS1 := Kept.mk hs1
  have HR1 := Kept.mk hR1
  obtain ⟨p0, p1, p2, p3, p4, p5⟩ := hp.c0
  clear hB1 hp hq hs1 hR1 HR0
  by_cases cy : y1 = 0
  · subst cy
    by_cases cb1 : b = 1
    · subst cb1
      go_wp2_with (first | (go_at_call 43; refine (Err_read g xs a1 0 _ HR1.out).mono ?_; rintro e w2 ⟨rfl, rfl⟩))
      go_at_call 58
      refine (Int_read g xs HX.out a1 0 _ HR1.out).mono ?_
      rintro e w2 ⟨x, a2, y2, rfl, hR2, hB2, hs2⟩
      have HS2 := Kept.mk hs2
      have HP2 := Kept.mk (HP.out.but hB2 (by omega))
      have HQ2 := Kept.mk (HQ.out.but hB2 (by omega))
      have HB2 := Kept.mk (HB1.out.trans hB2)
      have HR2 := Kept.mk hR2
      clear hR2 hB2 hs2 p0 p1 p2 p3 p4 p5
      go_wp2_with fail
      go_at_call 40
      refine (num_any (unzig x) _).mono ?_
      rintro e w3 ⟨rfl, hb3⟩
      have HP3 := Kept.mk (HP2.out.but (But.of hb3 g) (by omega))
      have HQ3 := Kept.mk (HQ2.out.but (But.of hb3 g) (by omega))
      have HB3 := Kept.mk (HB2.out.trans (But.of hb3 g))
      have HR3 := Kept.mk (HR2.out.below hb3)
      obtain ⟨q0, q1, q2, q3, q4, q5⟩ := HQ3.out.c0
      clear hb3
      go_upto_region 9 with fail
      have HP4 := Kept.mk (HP3.out.but (Box.butSet (w := w3) (b := w.heap.size + 1) 1 (unzig x) ⟨#[]⟩) (by omega))
      have HQ4 := Kept.mk (HQ3.out.store 1 (unzig x) ⟨#[]⟩)
      have HB4 := Kept.mk (HB3.out.step (Box.butSet (b := w.heap.size + 1) 1 (unzig x) ⟨#[]⟩) (by omega))
      have HR4 := Kept.mk (HR3.out.box HQ3.out (by omega) (Box.butSet 1 (unzig x) ⟨#[]⟩))
      clear q0 q1 q2 q3 q4 q5
      generalize hw4 : ((w3.setCell ⟨w.heap.size + 1, 0, none⟩ (.int .i64 1)).setCell ⟨w.heap.size + 1, 1, none⟩ (.int .i64 (unzig x))).setCell ⟨w.heap.size + 1, 2, none⟩ (.string ⟨#[]⟩) = w4 at HP4 HQ4 HB4 HR4 ⊢
      clear hw4
      obtain ⟨v0, v1, v2, v3, v4, v5⟩ := HQ4.out.c0
      obtain ⟨o0, o1, o2, o3, o4, o5⟩ := HP4.out.c0
      by_cases cz : y2 = 0
      · subst cz
        have hv : Kept (readV (stOf xs a y) = (⟨1, (unzig x), ⟨#[]⟩, 0⟩, stOf xs a2 0)) := ⟨by
          unfold readV
          rw [← HS1.out]
          simp only [stOf_fst, ne_eq, not_true, if_false]
          rw [← HS2.out]
          simp [stOf_fst]⟩
        obtain ⟨u0, u1, u2, u3, u4, u5⟩ := (HP4.out.store 1 (unzig x) ⟨#[]⟩).c0
        go_wp2_with (first | (go_at_call 43; refine (Err_read g xs a2 0 _ HR4.out).mono ?_; rintro e w9 ⟨rfl, rfl⟩))
        refine bodyPost_ret (by simp [results, Try.results44, go_sem, u0, u1, u2]; try rfl) rfl ?_
        exact ⟨a2, 0, by rw [hv.out], HR4.out.box HP4.out (by omega) (Box.butSet _ _ _), HB4.out.step (Box.butSet _ _ _) (Nat.le_refl _), by rw [hv.out]⟩
      · have hv : Kept (readV (stOf xs a y) = (⟨0, 0, ⟨#[]⟩, y2⟩, stOf xs a2 y2)) := ⟨by
          unfold readV
          rw [← HS1.out]
          simp only [stOf_fst, ne_eq, not_true, if_false]
          rw [← HS2.out]
          simp [stOf_fst, cz]⟩
        have z0 : (y2 != 0) = true := by simp [cz]
        have z1 : (y2 == 0) = false := by simp [cz]
        obtain ⟨u0, u1, u2, u3, u4, u5⟩ := (HP4.out.store 0 0 ⟨#[]⟩).c0
        go_wp2_with (first | (go_at_call 43; refine (Err_read g xs a2 y2 _ HR4.out).mono ?_; rintro e w9 ⟨rfl, rfl⟩))
        refine bodyPost_ret (by simp [results, Try.results44, go_sem, u0, u1, u2]; try rfl) rfl ?_
        exact ⟨a2, y2, by rw [hv.out], HR4.out.box HP4.out (by omega) (Box.butSet _ _ _), HB4.out.step (Box.butSet _ _ _) (Nat.le_refl _), by rw [hv.out]⟩
    · have b1 : (b == 1) = false := by simp [cb1]
      by_cases cb2 : b = 2
      · subst cb2
        go_wp2_with (first | (go_at_call 43; refine (Err_read g xs a1 0 _ HR1.out).mono ?_; rintro e w2 ⟨rfl, rfl⟩))
        go_at_call 59
        refine (Text_read g xs HX.out a1 0 64 _ HR1.out).mono ?_
        rintro e w2 ⟨a2, y2, rfl, hR2, hB2, hs2⟩
        generalize htt : strOfNums (textS 64 (stOf xs a1 0)).1 = tt
        have HTT := Kept.mk htt
        have HS2 := Kept.mk hs2
        have HP3 := Kept.mk (HP.out.but hB2 (by omega))
        have HQ3 := Kept.mk (HQ.out.but hB2 (by omega))
        have HB3 := Kept.mk (HB1.out.trans hB2)
        have HR3 := Kept.mk hR2
        obtain ⟨q0, q1, q2, q3, q4, q5⟩ := HQ3.out.c0
        clear hR2 hB2 hs2 htt p0 p1 p2 p3 p4 p5
        go_upto_region 9 with fail
        have HP4 := Kept.mk (HP3.out.but (Box.butSet (w := w2) (b := w.heap.size + 1) 2 0 tt) (by omega))
        have HQ4 := Kept.mk (HQ3.out.store 2 0 tt)
        have HB4 := Kept.mk (HB3.out.step (Box.butSet (b := w.heap.size + 1) 2 0 tt) (by omega))
        have HR4 := Kept.mk (HR3.out.box HQ3.out (by omega) (Box.butSet 2 0 tt))
        clear q0 q1 q2 q3 q4 q5
        generalize hw4 : ((w2.setCell ⟨w.heap.size + 1, 0, none⟩ (.int .i64 2)).setCell ⟨w.heap.size + 1, 1, none⟩ (.int .i64 0)).setCell ⟨w.heap.size + 1, 2, none⟩ (.string tt) = w4 at HP4 HQ4 HB4 HR4 ⊢
        clear hw4
        obtain ⟨v0, v1, v2, v3, v4, v5⟩ := HQ4.out.c0
        obtain ⟨o0, o1, o2, o3, o4, o5⟩ := HP4.out.c0
        by_cases cz : y2 = 0
        · subst cz
          have hv : Kept (readV (stOf xs a y) = (⟨2, 0, tt, 0⟩, stOf xs a2 0)) := ⟨by
            unfold readV
            rw [← HS1.out]
            simp only [stOf_fst, ne_eq, not_true, if_false]
            rw [← HS2.out, HTT.out]
            simp [stOf_fst]⟩
          obtain ⟨u0, u1, u2, u3, u4, u5⟩ := (HP4.out.store 2 0 tt).c0
          go_wp2_with (first | (go_at_call 43; refine (Err_read g xs a2 0 _ HR4.out).mono ?_; rintro e w9 ⟨rfl, rfl⟩))
          refine bodyPost_ret (by simp [results, Try.results44, go_sem, u0, u1, u2]; try rfl) rfl ?_
          exact ⟨a2, 0, by rw [hv.out], HR4.out.box HP4.out (by omega) (Box.butSet _ _ _), HB4.out.step (Box.butSet _ _ _) (Nat.le_refl _), by rw [hv.out]⟩
        · have hv : Kept (readV (stOf xs a y) = (⟨0, 0, ⟨#[]⟩, y2⟩, stOf xs a2 y2)) := ⟨by
            unfold readV
            rw [← HS1.out]
            simp only [stOf_fst, ne_eq, not_true, if_false]
            rw [← HS2.out]
            simp [stOf_fst, cz]⟩
          have z0 : (y2 != 0) = true := by simp [cz]
          have z1 : (y2 == 0) = false := by simp [cz]
          obtain ⟨u0, u1, u2, u3, u4, u5⟩ := (HP4.out.store 0 0 ⟨#[]⟩).c0
          go_wp2_with (first | (go_at_call 43; refine (Err_read g xs a2 y2 _ HR4.out).mono ?_; rintro e w9 ⟨rfl, rfl⟩))
          refine bodyPost_ret (by simp [results, Try.results44, go_sem, u0, u1, u2]; try rfl) rfl ?_
          exact ⟨a2, y2, by rw [hv.out], HR4.out.box HP4.out (by omega) (Box.butSet _ _ _), HB4.out.step (Box.butSet _ _ _) (Nat.le_refl _), by rw [hv.out]⟩
      · have b2 : (b == 2) = false := by simp [cb2]
        have hv : Kept (readV (stOf xs a y) = (⟨0, 0, ⟨#[]⟩, 4⟩, stOf xs a1 0)) := ⟨by
          unfold readV
          rw [← HS1.out]
          simp [stOf_fst, cb1, cb2]⟩
        obtain ⟨u0, u1, u2, u3, u4, u5⟩ := (HP.out.store 0 0 ⟨#[]⟩).c0
        go_wp2_with (first | (go_at_call 43; refine (Err_read g xs a1 0 _ HR1.out).mono ?_; rintro e w2 ⟨rfl, rfl⟩))
        refine bodyPost_ret (by simp [results, Try.results44, go_sem, u0, u1, u2]; try rfl) rfl ?_
        exact ⟨a1, 0, by rw [hv.out], HR1.out.box HP.out (by omega) (Box.butSet _ _ _), HB1.out.step (Box.butSet _ _ _) (Nat.le_refl _), by rw [hv.out]⟩
  · have hv : Kept (readV (stOf xs a y) = (⟨0, 0, ⟨#[]⟩, y1⟩, stOf xs a1 y1)) := ⟨by
      unfold readV
      rw [← HS1.out]
      simp only [stOf_fst]
      rw [if_pos cy]⟩
    have d0 : (y1 != 0) = true := by simp [cy]
    have d1 : (y1 == 0) = false := by simp [cy]
    obtain ⟨u0, u1, u2, u3, u4, u5⟩ := (HP.out.store 0 0 ⟨#[]⟩).c0
    go_wp2_with (first | (go_at_call 43; refine (Err_read g xs a1 y1 _ HR1.out).mono ?_; rintro e w2 ⟨rfl, rfl⟩))
    refine bodyPost_ret (by simp [results, Try.results44, go_sem, u0, u1, u2]; try rfl) rfl ?_
    exact ⟨a1, y1, by rw [hv.out], HR1.out.box HP.out (by omega) (Box.butSet _ _ _), HB1.out.step (Box.butSet _ _ _) (Nat.le_refl _), by rw [hv.out]⟩
end Go.Proofs.Ytbncnlendichjaa
