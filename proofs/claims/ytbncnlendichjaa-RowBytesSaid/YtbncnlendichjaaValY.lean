/- Layer 5 (value): the next value of the reference's reader, walked. -/
import Derived.Test.YtbncnlendichjaaValX
namespace Go.Proofs.Ytbncnlendichjaa
open Go.RowKit
set_option linter.unusedVariables false
set_option linter.unusedSimpArgs false

theorem Rq.box {w w' : World} {g b : Nat} {s : St} {k n : Int} {t : ByteArray} (h : Rq w g s) (hx : Box w b k n t) (hne : g ≠ b) (hb : But b w w') : Rq w' g s := by
  obtain ⟨A, c, ty, e1, e2, e3, e4⟩ := h.blk
  refine ⟨⟨A, c, ty, (hb.block g h.lt hne).trans e1, e2, e3, fun hn => ?_⟩, h.err, h.len⟩
  obtain ⟨bb, off, f1, f2, f3, f4⟩ := e4 hn
  have hl : 0 < s.2.length := List.length_pos_iff.2 hn
  have hbb : bb ≠ b := by
    rintro rfl
    have hc := (f4 0 hl).1
    rw [Lib.cell_of_heap hx, Nat.add_zero] at hc
    match off with
    | 0 => simp at hc
    | 1 => simp at hc
    | 2 => simp at hc
    | j + 3 => simp at hc
  refine ⟨bb, off, f1, f2, Nat.lt_of_lt_of_le f3 hb.size, fun j hj => (f4 j hj).keep (hb.block bb f3 hbb)⟩
theorem byteS_range (s : St) (hs : ∀ b ∈ s.2, 0 ≤ b ∧ b ≤ 255) : ∀ b ∈ (byteS s).2.2, 0 ≤ b ∧ b ≤ 255 := by
  unfold byteS
  split
  · exact hs
  · split
    · simp
    · rename_i b t he
      intro x hx
      exact hs x (by rw [he]; simp; exact .inr hx)
theorem box1 (w : World) (k n : Int) (t : ByteArray) : Box (w.alloc (.cells #[.int .i64 k, .int .i64 n, .string t] 39)) w.heap.size k n t := Array.getElem?_push_size

set_option maxRecDepth 100000 in
set_option maxHeartbeats 2000000 in
theorem rread_val (g : Nat) (s : St) (hs : ∀ b ∈ s.2, 0 ≤ b ∧ b ≤ 255) (w : World) (H : Rq w g s) :
    Calls Try.prog 46 #[.pointer (some ⟨g, 0, none⟩)] w (fun e w' => e = .returned (.tuple #[va (readV s).1.k (readV s).1.n (readV s).1.t, .int .i64 (readV s).1.e]) ∧ Rq w' g (readV s).2 ∧ But g w w') := by
  have HBR := Kept.mk (byteS_range s hs)
  have HR := Kept.mk H
  have hlt := H.lt
  clear hs H
  go_enter Try.func46, Try.ntmps46
  go_wp2_with fail
  go_at_call 45
  have HR0 := Kept.mk (HR.out.below ((Below.refl w.heap.size w).alloc (Nat.le_refl _) (.cells #[.int .i64 0, .int .i64 0, .string ⟨#[]⟩] 39)))
  refine (rByte_any g s _ HR0.out).mono ?_
  rintro e w1 ⟨rfl, hR1, hB1⟩
  have HP := Kept.mk ((box1 w 0 0 ⟨#[]⟩).but hB1 (by omega))
  have HB1 := Kept.mk ((But.of ((Below.refl w.heap.size w).alloc (Nat.le_refl _) _) g).trans hB1)
  have HR1 := Kept.mk hR1
  obtain ⟨p0, p1, p2, p3, p4, p5⟩ := HP.out.c0
  obtain ⟨A1, c1, h10, h11, _⟩ := hR1.cells
  clear hB1 hR1 HR0
  obtain ⟨b, hb⟩ : ∃ b, b = (byteS s).1 := ⟨_, rfl⟩
  obtain ⟨y1, hy⟩ : ∃ y1, y1 = (byteS s).2.1 := ⟨_, rfl⟩
  have HBB := Kept.mk hb
  have HYY := Kept.mk hy
  rewrite [← hb]
  rewrite [← hy] at h11
  clear hb hy
  by_cases cy : y1 = 0
  · rewrite [cy] at h11
    by_cases cb1 : b = 1
    · subst cb1
      have HR1a := Kept.mk (HR1.out.below ((Below.refl w1.heap.size w1).alloc (Nat.le_refl _) (.cells #[.int .i64 1, .int .i64 0, .string ⟨#[]⟩] 39)))
      go_wp2_with fail
      go_at_call 61
      refine (rInt_read g (byteS s).2 HBR.out _ HR1a.out).mono ?_
      rintro e w2 ⟨rfl, hR2, hB2⟩
      have hgs : w.heap.size + 1 ≤ w1.heap.size := HP.out.lt
      have HP3 := Kept.mk ((HP.out.but (But.of ((Below.refl w1.heap.size w1).alloc (Nat.le_refl _) _) g) (by omega)).but hB2 (by omega))
      have HQ3 := Kept.mk ((box1 w1 1 0 ⟨#[]⟩).but hB2 (by omega))
      have HB3 := Kept.mk ((HB1.out.trans (But.of ((Below.refl w1.heap.size w1).alloc (Nat.le_refl _) _) g)).trans hB2)
      have HR3 := Kept.mk hR2
      obtain ⟨q0, q1, q2, q3, q4, q5⟩ := HQ3.out.c0
      generalize hnn : unzig (grpS 10 (byteS s).2).1 = nn
      have HNN := Kept.mk hnn
      generalize hgg : w1.heap.size = g5 at hgs HQ3 q0 q1 q2 q3 q4 q5 ⊢
      clear hR2 hB2 hnn hgg p0 p1 p2 p3 p4 p5 h10 h11
      go_upto_region 11 with fail
      have hbs : But g5 w2 (w2.setCell ⟨g5, 1, none⟩ (.int .i64 nn)) := (But.refl g5 w2).set 1 _
      have HP4 := Kept.mk (HP3.out.but hbs (by omega))
      have HQ4 : Kept (Box (w2.setCell ⟨g5, 1, none⟩ (.int .i64 nn)) g5 1 nn ⟨#[]⟩) := ⟨by have h := HQ3.out; unfold Box at h ⊢; rw [set_block _ g5 1 _ _ _ _ h]; rfl⟩
      have HB4 := Kept.mk (HB3.out.step hbs (by omega))
      have HR4 := Kept.mk (HR3.out.box HQ3.out (by omega) hbs)
      clear hbs q0 q1 q2 q3 q4 q5
      generalize hw4 : w2.setCell ⟨g5, 1, none⟩ (.int .i64 nn) = w4 at HP4 HQ4 HB4 HR4 ⊢
      clear hw4
      obtain ⟨A3, c3, h30, h31, _⟩ := HR4.out.cells
      obtain ⟨v0, v1, v2, v3, v4, v5⟩ := HQ4.out.c0
      obtain ⟨o0, o1, o2, o3, o4, o5⟩ := HP4.out.c0
      by_cases cz : ((grpS 10 (byteS s).2).2).1 = 0
      · have hv : Kept (readV s = (⟨1, nn, ⟨#[]⟩, 0⟩, (grpS 10 (byteS s).2).2)) := ⟨by
          unfold readV
          rw [← HYY.out, ← HBB.out, if_neg (by simp [cy]), if_pos rfl]
          rw [if_neg (by simp [cz]), HNN.out]⟩
        rewrite [cz] at h31
        obtain ⟨u0, u1, u2, u3, u4, u5⟩ := (HP4.out.store 1 nn ⟨#[]⟩).c0
        clear cz
        go_wp2_with fail
        refine bodyPost_ret (by simp [results, Try.results46, go_sem, u0, u1, u2]; try rfl) rfl ?_
        exact ⟨by rw [hv.out], by rw [hv.out]; exact HR4.out.box HP4.out (by omega) (Box.butSet _ _ _), HB4.out.step (Box.butSet _ _ _) (Nat.le_refl _)⟩
      · have hv : Kept (readV s = (⟨0, 0, ⟨#[]⟩, ((grpS 10 (byteS s).2).2).1⟩, (grpS 10 (byteS s).2).2)) := ⟨by
          unfold readV
          rw [← HYY.out, ← HBB.out, if_neg (by simp [cy]), if_pos rfl]
          rw [if_pos cz]⟩
        obtain ⟨er, her⟩ : ∃ er, er = ((grpS 10 (byteS s).2).2).1 := ⟨_, rfl⟩
        have HER := Kept.mk her
        rewrite [← her] at h31 cz
        have z0 : (er != 0) = true := by simp [cz]
        have z1 : (er == 0) = false := by simp [cz]
        obtain ⟨u0, u1, u2, u3, u4, u5⟩ := (HP4.out.store 0 0 ⟨#[]⟩).c0
        clear her
        go_wp2_with fail
        go_region
        go_wp2_with fail
        refine bodyPost_ret (by simp [results, Try.results46, go_sem, u0, u1, u2]; try rfl) rfl ?_
        exact ⟨by rw [hv.out, HER.out], by rw [hv.out]; exact HR4.out.box HP4.out (by omega) (Box.butSet _ _ _).drew, HB4.out.step (Box.butSet _ _ _).drew (Nat.le_refl _)⟩
    · have b1 : (b == 1) = false := by simp [cb1]
      by_cases cb2 : b = 2
      · subst cb2
        have HR1a := Kept.mk (HR1.out.below ((Below.refl w1.heap.size w1).alloc (Nat.le_refl _) (.cells #[.int .i64 2, .int .i64 0, .string ⟨#[]⟩] 39)))
        go_wp2_with fail
        go_at_call 62
        refine (rText_read g (byteS s).2 HBR.out 64 _ HR1a.out).mono ?_
        rintro e w2 ⟨rfl, hR2, hB2⟩
        have hgs : w.heap.size + 1 ≤ w1.heap.size := HP.out.lt
        have HP3 := Kept.mk ((HP.out.but (But.of ((Below.refl w1.heap.size w1).alloc (Nat.le_refl _) _) g) (by omega)).but hB2 (by omega))
        have HQ3 := Kept.mk ((box1 w1 2 0 ⟨#[]⟩).but hB2 (by omega))
        have HB3 := Kept.mk ((HB1.out.trans (But.of ((Below.refl w1.heap.size w1).alloc (Nat.le_refl _) _) g)).trans hB2)
        have HR3 := Kept.mk hR2
        obtain ⟨q0, q1, q2, q3, q4, q5⟩ := HQ3.out.c0
        generalize htt : strOfNums (textS 64 (byteS s).2).1 = tt
        have HTT := Kept.mk htt
        generalize hgg : w1.heap.size = g5 at hgs HQ3 q0 q1 q2 q3 q4 q5 ⊢
        clear hR2 hB2 htt hgg p0 p1 p2 p3 p4 p5 h10 h11
        go_upto_region 11 with fail
        have hbs : But g5 w2 (w2.setCell ⟨g5, 2, none⟩ (.string tt)) := (But.refl g5 w2).set 2 _
        have HP4 := Kept.mk (HP3.out.but hbs (by omega))
        have HQ4 : Kept (Box (w2.setCell ⟨g5, 2, none⟩ (.string tt)) g5 2 0 tt) := ⟨by have h := HQ3.out; unfold Box at h ⊢; rw [set_block _ g5 2 _ _ _ _ h]; rfl⟩
        have HB4 := Kept.mk (HB3.out.step hbs (by omega))
        have HR4 := Kept.mk (HR3.out.box HQ3.out (by omega) hbs)
        clear hbs q0 q1 q2 q3 q4 q5
        generalize hw4 : w2.setCell ⟨g5, 2, none⟩ (.string tt) = w4 at HP4 HQ4 HB4 HR4 ⊢
        clear hw4
        obtain ⟨A3, c3, h30, h31, _⟩ := HR4.out.cells
        obtain ⟨v0, v1, v2, v3, v4, v5⟩ := HQ4.out.c0
        obtain ⟨o0, o1, o2, o3, o4, o5⟩ := HP4.out.c0
        by_cases cz : ((textS 64 (byteS s).2).2).1 = 0
        · have hv : Kept (readV s = (⟨2, 0, tt, 0⟩, (textS 64 (byteS s).2).2)) := ⟨by
            unfold readV
            rw [← HYY.out, ← HBB.out, if_neg (by simp [cy]), if_neg cb1, if_pos rfl]
            rw [if_neg (by simp [cz]), HTT.out]⟩
          rewrite [cz] at h31
          obtain ⟨u0, u1, u2, u3, u4, u5⟩ := (HP4.out.store 2 0 tt).c0
          clear cz
          go_wp2_with fail
          refine bodyPost_ret (by simp [results, Try.results46, go_sem, u0, u1, u2]; try rfl) rfl ?_
          exact ⟨by rw [hv.out], by rw [hv.out]; exact HR4.out.box HP4.out (by omega) (Box.butSet _ _ _), HB4.out.step (Box.butSet _ _ _) (Nat.le_refl _)⟩
        · have hv : Kept (readV s = (⟨0, 0, ⟨#[]⟩, ((textS 64 (byteS s).2).2).1⟩, (textS 64 (byteS s).2).2)) := ⟨by
            unfold readV
            rw [← HYY.out, ← HBB.out, if_neg (by simp [cy]), if_neg cb1, if_pos rfl]
            rw [if_pos cz]⟩
          obtain ⟨er, her⟩ : ∃ er, er = ((textS 64 (byteS s).2).2).1 := ⟨_, rfl⟩
          have HER := Kept.mk her
          rewrite [← her] at h31 cz
          have z0 : (er != 0) = true := by simp [cz]
          have z1 : (er == 0) = false := by simp [cz]
          obtain ⟨u0, u1, u2, u3, u4, u5⟩ := (HP4.out.store 0 0 ⟨#[]⟩).c0
          clear her
          go_wp2_with fail
          go_region
          go_wp2_with fail
          refine bodyPost_ret (by simp [results, Try.results46, go_sem, u0, u1, u2]; try rfl) rfl ?_
          exact ⟨by rw [hv.out, HER.out], by rw [hv.out]; exact HR4.out.box HP4.out (by omega) (Box.butSet _ _ _).drew, HB4.out.step (Box.butSet _ _ _).drew (Nat.le_refl _)⟩
      · have b2 : (b == 2) = false := by simp [cb2]
        have b3 : (b != 1) = true := by simp [cb1]
        have b4 : (b != 2) = true := by simp [cb2]
        have hv : Kept (readV s = (⟨0, 0, ⟨#[]⟩, 4⟩, (byteS s).2)) := ⟨by
          unfold readV
          rw [← HYY.out, ← HBB.out, if_neg (by simp [cy]), if_neg cb1, if_neg cb2]⟩
        obtain ⟨u0, u1, u2, u3, u4, u5⟩ := (HP.out.store 0 0 ⟨#[]⟩).c0
        go_wp2_with fail
        refine bodyPost_ret (by simp [results, Try.results46, go_sem, u0, u1, u2]; try rfl) rfl ?_
        exact ⟨by rw [hv.out], by rw [hv.out]; exact HR1.out.box HP.out (by omega) (Box.butSet _ _ _), HB1.out.step (Box.butSet _ _ _) (Nat.le_refl _)⟩
  · have hv : Kept (readV s = (⟨0, 0, ⟨#[]⟩, y1⟩, (byteS s).2)) := ⟨by
      unfold readV
      rw [← HYY.out, if_pos cy]⟩
    have d0 : (y1 != 0) = true := by simp [cy]
    have d1 : (y1 == 0) = false := by simp [cy]
    obtain ⟨u0, u1, u2, u3, u4, u5⟩ := (HP.out.store 0 0 ⟨#[]⟩).c0
    go_wp2_with fail
    go_region
    go_wp2_with fail
    refine bodyPost_ret (by simp [results, Try.results46, go_sem, u0, u1, u2]; try rfl) rfl ?_
    exact ⟨by rw [hv.out], by rw [hv.out]; exact HR1.out.box HP.out (by omega) (Box.butSet _ _ _).drew, HB1.out.step (Box.butSet _ _ _).drew (Nat.le_refl _)⟩
end Go.Proofs.Ytbncnlendichjaa
