/- MultiUndo: the walk. -/
import Derived.Test.YtjllcgmdnkakgaaMulL
namespace Go.Proofs.Ytjllcgmdnkakgaa
open Go.RowKit
set_option linter.unusedVariables false
set_option linter.unusedSimpArgs false

theorem putE_err (es : List En) (k n : Int) (h : (putE es k n).1 ≠ 0) : (putE es k n).2 = es := by
  unfold putE at h ⊢
  split
  · rfl
  · rename_i c1
    rw [if_neg c1] at h
    split
    · rfl
    · rename_i c2
      rw [if_neg c2] at h
      split
      · rfl
      · rename_i c3
        rw [if_neg c3] at h
        exact absurd rfl h
theorem putE_rng (es : List En) (k n : Int) (h : (putE es k n).1 = 0) : -1048576 ≤ n ∧ n ≤ 1048576 := by
  unfold putE at h
  split at h
  · simp at h
  · omega
/-- Puts, one after another: some things in order are there. -/
def PuI (xs : List En) (w0 : World) (B g : Nat) (v10 : Value) (wr : World) : Prop := ∃ j : Nat, v10 = .int .i64 (j : Int) ∧ Kept (j ≤ xs.length ∧ (∃ v es, MulAt wr B g v es) ∧ Below B w0 wr)
set_option maxRecDepth 100000 in
set_option maxHeartbeats 4000000 in
theorem MultiUndo_any (v : Value) (xs : List En) (pk pn k i : Int) (hi0 : -9223372036854775808 ≤ i) (hi1 : i ≤ 9223372036854775807) (w : World) (H : HasE w w.heap.size v xs) (hlen : xs.length ≤ 140737488355328) :
    Calls Try.prog 5 #[v, .agg #[.int .i64 pk, .int .i64 pn], .int .i64 k, .int .i64 i] w (fun e w' => e = .returned (.bool true) ∧ Below w.heap.size w w') := by
  obtain ⟨A, c, rfl, _, hA⟩ := H
  have HA := Kept.mk hA
  have HI := Kept.mk (And.intro hi0 hi1)
  clear hA hi0 hi1
  by_cases c60 : 60 < xs.length
  · have c60' : 60 < (xs.length : Int) := by omega
    clear c60
    go_enter Try.func5, Try.ntmps5
    go_wp2_with (first | (go_at_call 6; refine (live_any _).mono ?_; rintro e w1 ⟨rfl, hb1⟩; have HB := Kept.mk hb1; clear hb1))
    go_returns
    exact ⟨rfl, ((Below.refl _ _).alloc (Nat.le_refl _) _).trans (HB.out.mono (by simp))⟩
  · have c60' : ¬ 60 < (xs.length : Int) := by omega
    have HC := Kept.mk c60
    clear c60
    go_enter Try.func5, Try.ntmps5
    go_wp2_with fail
    go_at_call 7
    have q0 : (w.alloc (.cells #[.int .i64 pk, .int .i64 pn] 32)).cell? ⟨w.heap.size, 0, none⟩ = some (.int .i64 pk) := by simp [go_sem]
    have q1 : (w.alloc (.cells #[.int .i64 pk, .int .i64 pn] 32)).cell? ⟨w.heap.size, 1, none⟩ = some (.int .i64 pn) := by simp [go_sem]
    have hbw : Below w.heap.size w (w.alloc (.cells #[.int .i64 pk, .int .i64 pn] 32)) := (Below.refl _ _).alloc (Nat.le_refl _) _
    have hlt : w.heap.size < (w.alloc (.cells #[.int .i64 pk, .int .i64 pn] 32)).heap.size := by rw [World.size_alloc]; omega
    generalize w.alloc (.cells #[.int .i64 pk, .int .i64 pn] 32) = w1 at q0 q1 hbw hlt ⊢
    refine (New_any w1).mono ?_
    rintro e w2 ⟨rfl, HM2, HB2⟩
    obtain ⟨B, hBe⟩ : ∃ B, B = w1.heap.size := ⟨_, rfl⟩
    rewrite [← hBe]
    rewrite [← hBe] at HM2 HB2
    have HM2 := Kept.mk HM2
    have HB1 : Kept (∀ wr, Below B w2 wr → Below w.heap.size w wr) := ⟨fun wr h => hbw.trans ((HB2.trans h).mono (by rw [hBe]; omega))⟩
    have HQ : Kept (∀ wr, Below B w2 wr → wr.cell? ⟨w.heap.size, 0, none⟩ = some (.int .i64 pk) ∧ wr.cell? ⟨w.heap.size, 1, none⟩ = some (.int .i64 pn)) := ⟨fun wr h => by
      have hb := HB2.trans h
      have hk := hb.block w.heap.size (by rw [hBe]; exact hlt)
      exact ⟨(World.cell?_of_block hk).trans q0, (World.cell?_of_block hk).trans q1⟩⟩
    have HE : Kept (w.heap.size < B) := ⟨by rw [hBe]; exact hlt⟩
    clear q0 q1 hbw hlt hBe HB2
    go_wp2_with fail
    go_loopw [10] (fun v10 wr => PuI xs w2 B B v10 wr) (fun v10 wr => xs.length - (intOf v10).toNat)
    case atStart => exact ⟨0, rfl, ⟨Nat.zero_le _, ⟨_, _, HM2.out⟩, Below.refl _ _⟩⟩
    case round =>
      obtain ⟨j, rfl, HJ⟩ := hrel
      obtain ⟨hj, ⟨v2, es, hM⟩, hBj⟩ := HJ.out
      have HMj := Kept.mk hM
      have HBj := Kept.mk hBj
      have hc60 := HC.out
      clear HJ hM hBj
      by_cases cj : j < xs.length
      · have hne : xs ≠ [] := by rintro rfl; simp at cj
        obtain ⟨b1, o1, rfl, hb1, hc1⟩ := HA.out hne
        obtain ⟨e0, e1⟩ := hc1 j cj
        have hk := (HB1.out wr HBj.out).block b1 hb1
        have e0' : wr.cell? ⟨b1, o1 + j * 2, none⟩ = some (.int .i64 (xs[j]).k) := (World.cell?_of_block hk).trans e0
        have e1' : wr.cell? ⟨b1, o1 + j * 2 + 1, none⟩ = some (.int .i64 (xs[j]).n) := (World.cell?_of_block hk).trans e1
        have cj' : (j : Int) < (xs.length : Int) := by omega
        have f0 : 0 ≤ (j : Int) := by omega
        have hw : wrap64 ((j : Int) + 1) = (j : Int) + 1 := by simp only [wrap64]; omega
        have HCJ := Kept.mk cj
        generalize xs[j] = x at e0' e1'
        clear e0 e1 hc1 hne hk cj hb1
        go_upto_region 9 with fail
        go_region_with (first | (go_at_call 10; refine (Put_any _ B B v2 es x.k x.n (HMj.out.below (Below.refl _ _).drew)).mono ?_; rintro e w3 ⟨v3, rfl, hM3, hP3⟩; have HM3 := Kept.mk hM3; have HP3 := Kept.mk hP3; clear hM3 hP3))
        all_goals go_wp2_with fail
        all_goals
          refine ⟨⟨j + 1, by first | rfl | (rw [hw]; rfl), ⟨HCJ.out, ⟨v3, _, HM3.out⟩, (HBj.out.drew).trans HP3.out.bel⟩⟩, by first | exact less_step hw HCJ.out | (have := HCJ.out; simp only [intOf]; omega)⟩
      · have cj' : ¬ ((j : Int) < (xs.length : Int)) := by omega
        clear cj
        go_wp2_with fail
        go_at_call 14
        refine (Count_any wr B B v2 es HMj.out).mono ?_
        rintro e w3 ⟨rfl, rfl⟩
        go_wp2_with fail
        go_at_call 15
        refine (Of_any wr B B v2 es k HMj.out).mono ?_
        rintro e w4 ⟨rfl, hb4⟩
        have HM4 := Kept.mk (HMj.out.below hb4)
        have HB4 := Kept.mk (HBj.out.trans (hb4.mono (Nat.le_of_lt HMj.out.lt)))
        clear hb4 HMj HBj
        go_wp2_with fail
        go_at_call 12
        refine (Nth_any w4 B B v2 es i HM4.out HI.out.1 HI.out.2).mono ?_
        rintro e w5 ⟨rfl, hb5⟩
        have HM5 := Kept.mk (HM4.out.below hb5)
        have HB5 := Kept.mk (HB4.out.trans (hb5.mono (Nat.le_of_lt HM4.out.lt)))
        clear hb5 HM4 HB4
        obtain ⟨y0, y1⟩ := HQ.out w5 HB5.out
        go_wp2_with fail
        go_at_call 10
        refine (Put_any w5 B B v2 es pk pn HM5.out).mono ?_
        rintro e w6 ⟨v6, rfl, hM6, hP6⟩
        have HB6 := Kept.mk (HB5.out.trans hP6.bel)
        clear y0 y1 hP6
        by_cases cp : (putE es pk pn).1 = 0
        · have hu := putE_undo es pk pn HM5.out.good cp
          have hr := putE_rng es pk pn cp
          have hneg : wrap64 (-pn) = -pn := by simp only [wrap64]; omega
          rewrite [cp]
          have HM6 := Kept.mk hM6
          have HU := Kept.mk hu
          clear hM6 HM5 HB5 cp hr hu
          obtain ⟨y0, y1⟩ := HQ.out w6 HB6.out
          go_wp2_with (first | (go_at_call 10; refine (Put_any w6 B B v6 _ pk (-pn) HM6.out).mono ?_; rintro e w7 ⟨v7, rfl, hM7, hP7⟩; rewrite [HU.out]; rewrite [HU.out] at hM7; have HM7 := Kept.mk hM7; have HB7 := Kept.mk (HB6.out.trans hP7.bel); clear hM7 hP7 y0 y1))
          refine (Nth_any w7 B B v7 es i HM7.out HI.out.1 HI.out.2).mono ?_
          rintro e w8 ⟨rfl, hb8⟩
          have HM8 := Kept.mk (HM7.out.below hb8)
          have HB8 := Kept.mk (HB7.out.trans (hb8.mono (Nat.le_of_lt HM7.out.lt)))
          clear hb8 HM7 HB7
          go_wp2_with fail
          go_at_call 6
          refine (live_any w8).mono ?_
          rintro e w9 ⟨rfl, hb9⟩
          have HM9 := Kept.mk (HM8.out.below hb9)
          have HB9 := Kept.mk (HB8.out.trans (hb9.mono (Nat.le_of_lt HM8.out.lt)))
          clear hb9 HM8 HB8
          go_wp2_with (first
            | (go_at_call 14; refine (Count_any w9 B B v7 es HM9.out).mono ?_; rintro e w10 ⟨rfl, rfl⟩)
            | (go_at_call 15; refine (Of_any w9 B B v7 es k HM9.out).mono ?_; rintro e w11 ⟨rfl, hb11⟩; have HB11 := Kept.mk (HB9.out.trans (hb11.mono (Nat.le_of_lt HM9.out.lt))); clear hb11))
          go_returns
          exact ⟨rfl, HB1.out _ HB11.out⟩
        · have hsm := putE_err es pk pn cp
          rw [hsm] at hM6
          have hce : ((putE es pk pn).1 == 0) = false := by simp [cp]
          have HM7 := Kept.mk hM6
          clear hM6 HM5 HB5 hsm cp
          have HB7 := Kept.mk HB6.out
          generalize (putE es pk pn).1 = er at hce ⊢
          go_wp2_with fail
          go_at_call 12
          refine (Nth_any w6 B B v6 es i HM7.out HI.out.1 HI.out.2).mono ?_
          rintro e w8 ⟨rfl, hb8⟩
          have HM8 := Kept.mk (HM7.out.below hb8)
          have HB8 := Kept.mk (HB7.out.trans (hb8.mono (Nat.le_of_lt HM7.out.lt)))
          clear hb8 HM7 HB7
          go_wp2_with fail
          go_at_call 6
          refine (live_any w8).mono ?_
          rintro e w9 ⟨rfl, hb9⟩
          have HM9 := Kept.mk (HM8.out.below hb9)
          have HB9 := Kept.mk (HB8.out.trans (hb9.mono (Nat.le_of_lt HM8.out.lt)))
          clear hb9 HM8 HB8
          go_wp2_with (first
            | (go_at_call 14; refine (Count_any w9 B B v6 es HM9.out).mono ?_; rintro e w10 ⟨rfl, rfl⟩)
            | (go_at_call 15; refine (Of_any w9 B B v6 es k HM9.out).mono ?_; rintro e w11 ⟨rfl, hb11⟩; have HB11 := Kept.mk (HB9.out.trans (hb11.mono (Nat.le_of_lt HM9.out.lt))); clear hb11))
          go_returns
          exact ⟨rfl, HB1.out _ HB11.out⟩
end Go.Proofs.Ytjllcgmdnkakgaa
