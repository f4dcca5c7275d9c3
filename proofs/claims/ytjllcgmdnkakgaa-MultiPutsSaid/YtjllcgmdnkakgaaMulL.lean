/- Layer 24 (multi): Least, Most, live, walked. -/
import Derived.Test.YtjllcgmdnkakgaaMulT
namespace Go.Proofs.Ytjllcgmdnkakgaa
open Go.RowKit
set_option linter.unusedVariables false
set_option linter.unusedSimpArgs false

theorem Least_any (w : World) (B g : Nat) (v : Value) (es : List En) (h : MulAt w B g v es) :
    Calls Try.prog 17 #[.pointer (some ⟨g, 0, none⟩)] w fun e w' => e = .returned (.tuple #[.int .i64 (nthE es 0).1, .bool (nthE es 0).2]) ∧ Below w.heap.size w w' := by
  have HM := Kept.mk h
  clear h
  go_enter Try.func17, Try.ntmps17
  go_wp2_with (first | (go_at_call 12; refine (Nth_any w B g v es 0 HM.out (by omega) (by omega)).mono ?_; rintro e w1 ⟨rfl, hb1⟩; have HB := Kept.mk hb1; clear hb1))
  go_returns
  exact ⟨rfl, HB.out⟩
theorem Most_any (w : World) (B g : Nat) (v : Value) (es : List En) (h : MulAt w B g v es) :
    Calls Try.prog 18 #[.pointer (some ⟨g, 0, none⟩)] w fun e w' => e = .returned (.tuple #[.int .i64 (nthE es (cntE es - 1)).1, .bool (nthE es (cntE es - 1)).2]) ∧ Below w.heap.size w w' := by
  have HM := Kept.mk h
  have h0 := cnt_nonneg es h.good
  have h1 := h.good.cnt
  have hw : wrap64 (cntE es - 1) = cntE es - 1 := by simp only [wrap64]; omega
  have HR : Kept (-9223372036854775808 ≤ cntE es - 1 ∧ cntE es - 1 ≤ 9223372036854775807) := ⟨by omega, by omega⟩
  clear h h0 h1
  go_enter Try.func18, Try.ntmps18
  go_wp2_with (first
    | (go_at_call 14; refine (Count_any w B g v es HM.out).mono ?_; rintro e w1 ⟨rfl, rfl⟩)
    | (go_at_call 12; refine (Nth_any w B g v es (cntE es - 1) HM.out HR.out.1 HR.out.2).mono ?_; rintro e w2 ⟨rfl, hb1⟩; have HB := Kept.mk hb1; clear hb1))
  go_returns
  exact ⟨rfl, HB.out⟩
theorem put1 : putE [] 5 2 = (0, [⟨5, 2⟩]) := rfl
theorem put2 : putE [⟨5, 2⟩] 3 1 = (0, [⟨3, 1⟩, ⟨5, 2⟩]) := rfl
theorem put3 : putE [⟨3, 1⟩, ⟨5, 2⟩] 3 (-2) = (20, [⟨3, 1⟩, ⟨5, 2⟩]) := rfl
theorem nth1 : nthE [⟨3, 1⟩, ⟨5, 2⟩] 0 = (3, true) := rfl
theorem cnt3 : cntE [⟨3, 1⟩, ⟨5, 2⟩] = 3 := rfl
theorem nth3 : nthE [⟨3, 1⟩, ⟨5, 2⟩] (cntE [⟨3, 1⟩, ⟨5, 2⟩] - 1) = (5, true) := rfl
set_option maxRecDepth 100000 in
set_option maxHeartbeats 1000000 in
theorem live_any (w : World) : Calls Try.prog 6 #[] w (fun e w' => e = .returned (.bool true) ∧ Below w.heap.size w w') := by
  go_enter Try.func6, Try.ntmps6
  go_wp2_with fail
  go_at_call 7
  refine (New_any w).mono ?_
  rintro e w1 ⟨rfl, HM1, HB1⟩
  have hgB := HB1
  have HM1 := Kept.mk HM1
  have HB1 := Kept.mk HB1
  clear hgB
  obtain ⟨g, hg⟩ : ∃ g, g = w.heap.size := ⟨_, rfl⟩
  rewrite [← hg]
  rewrite [← hg] at HM1 HB1
  have HGE := Kept.mk hg
  clear hg
  go_wp2_with fail
  go_at_call 10
  refine (Put_any w1 g g _ [] 5 2 HM1.out).mono ?_
  rintro e w2 ⟨v2, rfl, HM2, HP2⟩
  rewrite [put1]
  rewrite [put1] at HM2
  have HM2 := Kept.mk HM2
  have HB2 := Kept.mk (HB1.out.trans HP2.bel)
  clear HP2 HM1 HB1
  go_wp2_with fail
  go_at_call 10
  refine (Put_any w2 g g _ [⟨5, 2⟩] 3 1 HM2.out).mono ?_
  rintro e w3 ⟨v3, rfl, HM3, HP3⟩
  rewrite [put2]
  rewrite [put2] at HM3
  have HM3 := Kept.mk HM3
  have HB3 := Kept.mk (HB2.out.trans HP3.bel)
  clear HP3 HM2 HB2
  go_wp2_with fail
  go_at_call 10
  refine (Put_any w3 g g _ [⟨3, 1⟩, ⟨5, 2⟩] 3 (-2) HM3.out).mono ?_
  rintro e w4 ⟨v4, rfl, HM4, HP4⟩
  rewrite [put3]
  rewrite [put3] at HM4
  have HM4 := Kept.mk HM4
  have HB4 := Kept.mk (HB3.out.trans HP4.bel)
  clear HP4 HM3 HB3
  go_wp2_with fail
  go_at_call 17
  refine (Least_any w4 g g _ _ HM4.out).mono ?_
  rintro e w5 ⟨rfl, hb5⟩
  rewrite [nth1]
  have HM5 := Kept.mk (HM4.out.below hb5)
  have HB5 := Kept.mk (HB4.out.trans (hb5.mono (Nat.le_of_lt HM4.out.lt)))
  clear hb5 HM4 HB4
  go_wp2_with fail
  go_at_call 18
  refine (Most_any w5 g g _ _ HM5.out).mono ?_
  rintro e w6 ⟨rfl, hb6⟩
  rewrite [nth3]
  have HM6 := Kept.mk (HM5.out.below hb6)
  have HB6 := Kept.mk (HB5.out.trans (hb6.mono (Nat.le_of_lt HM5.out.lt)))
  clear hb6 HM5 HB5
  go_wp2_with (first | (go_at_call 14; refine (Count_any w6 g g _ _ HM6.out).mono ?_; rintro e w7 ⟨rfl, rfl⟩; rewrite [cnt3]))
  go_returns
  refine ⟨rfl, ?_⟩
  rw [← HGE.out]
  exact HB6.out
end Go.Proofs.Ytjllcgmdnkakgaa
