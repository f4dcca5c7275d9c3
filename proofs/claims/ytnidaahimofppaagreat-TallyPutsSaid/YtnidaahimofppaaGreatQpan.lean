/- Layer 26 (tally): the reference's columns of aggregates, walked. -/
import Derived.Test.YtnidaahimofppaaGreatQpam
namespace Go.Proofs.YtnidaahimofppaaGreat
open Go.RowKit
set_option linter.unusedVariables false
set_option linter.unusedSimpArgs false

set_option maxRecDepth 100000 in
set_option maxHeartbeats 8000000 in
theorem rtCols_any (v u : Value) (cs : List Cl) (ags : List Vr) (w : World) (H1 : HasC w w.heap.size v cs) (H2 : HasR w w.heap.size u ags) :
    Calls Tryz.prog 5 #[v, u] w (RetC w (colsV cs ags)) := by
  have HH := Kept.mk H1
  obtain ⟨A, c, rfl, hlc, _⟩ := H1
  obtain ⟨B, d, rfl, hld, hA⟩ := H2
  have HA := Kept.mk hA
  clear hA hlc hld
  go_enter Tryz.func5, Tryz.ntmps5
  go_wp2_with fail
  go_at_call 18
  refine (rcMay_any A cs.length c cs _ HH.out (fun _ _ => trivial)).mono ?_
  rintro e w1 ⟨rfl, hb1⟩
  obtain ⟨r1, d1, rfl⟩ := xw_of hb1
  clear hb1
  cases m1 : mayC cs with
  | false =>
    have hv : Kept (colsV cs ags = ([], 17)) := ⟨colsV_no m1⟩
    go_wp2_with fail
    go_returns
    rw [hv.out]
    exact ⟨_, rfl, OwnC.nil _ _, xw_below _ _ _⟩
  | true =>
    have M1 := Kept.mk m1
    have H8 := Kept.mk (mayC_iff.1 m1).1.2
    clear m1
    by_cases c8 : 8 < ags.length
    · have hv : Kept (colsV cs ags = ([], 6)) := ⟨colsV_long M1.out c8⟩
      have c8' : 8 < (ags.length : Int) := by omega
      clear c8
      go_wp2_with fail
      go_returns
      rw [hv.out]
      exact ⟨_, rfl, OwnC.nil _ _, xw_below _ _ _⟩
    · have HL : Kept (ags.length ≤ 8) := ⟨by omega⟩
      have HV : Kept (colsV cs ags = colsL cs [] ags) := ⟨colsV_go M1.out c8⟩
      have c8' : ¬ 8 < (ags.length : Int) := by omega
      have hO0 := OwnC.lit (xw w r1 d1) w.heap.size [] (xw_below w r1 d1).size (by simp)
      rw [alloc_xw, xw_xw] at hO0
      have HO := Kept.mk hO0
      clear c8 hO0
      go_wp2_with fail
      rewrite [alloc_xw, xw_xw]
      go_loopw [7, 6] (fun v7 v6 wr => TcL cs ags w v7 v6 wr) (fun v7 v6 wr => ags.length - (intOf v7).toNat)
      case atStart => exact ⟨0, _, _, _, rfl, rfl, HO, ⟨TcI.start _ _⟩⟩
      case round =>
        obtain ⟨i, o, r, d', rfl, rfl, HO2, HI⟩ := hrel
        clear HO
        have HO := HO2
        clear HO2
        obtain ⟨A2, c2, rfl, _, _⟩ := id HO.out.has
        by_cases ci : i < ags.length
        · have hne : ags ≠ [] := by rintro rfl; simp at ci
          obtain ⟨b, off, rfl, hb, hc⟩ := HA.out hne
          obtain ⟨e0, e1, e2⟩ := hc i ci
          have ci' : (i : Int) < (ags.length : Int) := by omega
          have f0 : 0 ≤ (i : Int) := by omega
          have hw : wrap64 ((i : Int) + 1) = (i : Int) + 1 := by have := HL.out; simp only [wrap64]; omega
          have HCI := Kept.mk ci
          have HBAD := Kept.mk (HI.out.bad ci)
          have HTW := Kept.mk (HI.out.twice ci)
          have HNX := Kept.mk (HI.out.next ci)
          generalize ags[i] = a at e0 e1 e2 HBAD HTW HNX
          obtain ⟨k, n, s⟩ := a
          dsimp only at e0 e1 e2
          clear hc hne ci
          by_cases c1 : k < 1
          · have hce : chkT cs ⟨k, n, s⟩ = 2 := chkT_bad (.inl c1)
            have hv : Kept (colsV cs ags = ([], 2)) := ⟨by rw [HV.out, ← hce]; exact HBAD.out (by rw [hce]; decide)⟩
            clear hce
            go_wp2_with fail
            go_returns
            rw [hv.out]
            exact ⟨_, rfl, OwnC.nil _ _, by (repeat' (first | (with_reducible exact Below.refl _ _) | (with_reducible assumption) | (with_reducible refine below_xw ?_ ?_ _ _) | (with_reducible refine below_drewN ?_ _) | (with_reducible refine Below.drew ?_) | (with_reducible refine Below.setCell ?_ ?_ _) | (with_reducible refine Below.alloc ?_ ?_ _) | (simp [xw_size]; done) | (simp [xw_size]; omega) | (dsimp only; omega)))⟩
          · by_cases c2 : 7 < k
            · have hce : chkT cs ⟨k, n, s⟩ = 2 := chkT_bad (.inr (.inl c2))
              have hv : Kept (colsV cs ags = ([], 2)) := ⟨by rw [HV.out, ← hce]; exact HBAD.out (by rw [hce]; decide)⟩
              clear hce
              go_wp2_with fail
              go_returns
              rw [hv.out]
              exact ⟨_, rfl, OwnC.nil _ _, by (repeat' (first | (with_reducible exact Below.refl _ _) | (with_reducible assumption) | (with_reducible refine below_xw ?_ ?_ _ _) | (with_reducible refine below_drewN ?_ _) | (with_reducible refine Below.drew ?_) | (with_reducible refine Below.setCell ?_ ?_ _) | (with_reducible refine Below.alloc ?_ ?_ _) | (simp [xw_size]; done) | (simp [xw_size]; omega) | (dsimp only; omega)))⟩
            · cases hn : nameN (tx s) with
              | false =>
                have hce : chkT cs ⟨k, n, s⟩ = 2 := chkT_bad (.inr (.inr hn))
                have hv : Kept (colsV cs ags = ([], 2)) := ⟨by rw [HV.out, ← hce]; exact HBAD.out (by rw [hce]; decide)⟩
                have HNM := Kept.mk hn
                clear hn
                clear hce
                go_wp2_with (first | (go_at_call 19; refine (rName_any _ trivial _).mono ?_; rintro e w1 ⟨rfl, rfl⟩; rewrite [HNM.out]))
                go_returns
                rw [hv.out]
                exact ⟨_, rfl, OwnC.nil _ _, by (repeat' (first | (with_reducible exact Below.refl _ _) | (with_reducible assumption) | (with_reducible refine below_xw ?_ ?_ _ _) | (with_reducible refine below_drewN ?_ _) | (with_reducible refine Below.drew ?_) | (with_reducible refine Below.setCell ?_ ?_ _) | (with_reducible refine Below.alloc ?_ ?_ _) | (simp [xw_size]; done) | (simp [xw_size]; omega) | (dsimp only; omega)))⟩
              | true =>
                have HNM := Kept.mk hn
                clear hn
                have HK := Kept.mk (And.intro c1 c2)
                by_cases ck : k = 1
                · subst ck
                  have HC : Kept (colB 1 = false) := ⟨rfl⟩
                  by_cases c3 : n = 0
                  · subst c3
                    have HCE : Kept (chkT cs ⟨1, 0, s⟩ = 0) := ⟨by rw [chkT_no (a := ⟨1, 0, s⟩) (by have := HK.out; simp only; omega) (by have := HK.out; simp only; omega) HNM.out HC.out]; rfl⟩
                    have hct : colT cs ⟨1, 0, s⟩ = ⟨s, 1⟩ := rfl
                    by_cases cx : 0 ≤ idx o s
                    · have hv : Kept (colsV cs ags = ([], 9)) := ⟨by rw [HV.out]; exact HTW.out HCE.out cx⟩
                      clear hct
                      go_wp2_with (first | (go_at_call 19; refine (rName_any _ trivial _).mono ?_; rintro e w1 ⟨rfl, rfl⟩; rewrite [HNM.out]) | (go_at_call 20; refine (rcIndex_any _ o s _ ?q (by have h1 := HI.out.1; have h2 := HI.out.2.1; have := HL.out; omega)).mono ?_; (case q => exact HO.out.has.to (by (repeat' (first | (with_reducible exact Below.refl _ _) | (with_reducible assumption) | (with_reducible refine below_xw ?_ ?_ _ _) | (with_reducible refine below_drewN ?_ _) | (with_reducible refine Below.drew ?_) | (with_reducible refine Below.setCell ?_ ?_ _) | (with_reducible refine Below.alloc ?_ ?_ _) | (simp [xw_size]; done) | (simp [xw_size]; omega) | (dsimp only; omega))))); rintro e w2 ⟨rfl, hb2⟩; obtain ⟨r2, d2, rfl⟩ := xw_of hb2; clear hb2))
                      go_returns
                      rw [hv.out]
                      exact ⟨_, rfl, OwnC.nil _ _, by (repeat' (first | (with_reducible exact Below.refl _ _) | (with_reducible assumption) | (with_reducible refine below_xw ?_ ?_ _ _) | (with_reducible refine below_drewN ?_ _) | (with_reducible refine Below.drew ?_) | (with_reducible refine Below.setCell ?_ ?_ _) | (with_reducible refine Below.alloc ?_ ?_ _) | (simp [xw_size]; done) | (simp [xw_size]; omega) | (dsimp only; omega)))⟩
                    · have HN2 := HNX.out HCE.out cx
                      rw [hct] at HN2
                      have HN3 := Kept.mk HN2
                      clear hct HN2
                      go_wp2_with (first | (go_at_call 19; refine (rName_any _ trivial _).mono ?_; rintro e w1 ⟨rfl, rfl⟩; rewrite [HNM.out]) | (go_at_call 20; refine (rcIndex_any _ o s _ ?q (by have h1 := HI.out.1; have h2 := HI.out.2.1; have := HL.out; omega)).mono ?_; (case q => exact HO.out.has.to (by (repeat' (first | (with_reducible exact Below.refl _ _) | (with_reducible assumption) | (with_reducible refine below_xw ?_ ?_ _ _) | (with_reducible refine below_drewN ?_ _) | (with_reducible refine Below.drew ?_) | (with_reducible refine Below.setCell ?_ ?_ _) | (with_reducible refine Below.alloc ?_ ?_ _) | (simp [xw_size]; done) | (simp [xw_size]; omega) | (dsimp only; omega))))); rintro e w2 ⟨rfl, hb2⟩; obtain ⟨r2, d2, rfl⟩ := xw_of hb2; clear hb2) | ((at_builtin); refine app_col3 (w0 := w) rfl (.tmp 92) (.tmp 94) 23 rfl Tryz.underlying23 _ o s 1 _ ?c1 rfl rfl ?c2 ?c3 (by have h1 := HI.out.1; have h2 := HI.out.2.1; have := HL.out; omega) ?_; (case c1 => simp [World.size_alloc, xw_size]); (case c2 => exact OwnC.below HO.out (by (repeat' (first | (with_reducible exact Below.refl _ _) | (with_reducible assumption) | (with_reducible refine below_xw ?_ ?_ _ _) | (with_reducible refine below_drewN ?_ _) | (with_reducible refine Below.drew ?_) | (with_reducible refine Below.setCell ?_ ?_ _) | (with_reducible refine Below.alloc ?_ ?_ _) | (simp [xw_size]; done) | (simp [xw_size]; omega) | (dsimp only; omega))))); (case c3 => (repeat' (first | (with_reducible exact Below.refl _ _) | (with_reducible assumption) | (with_reducible refine below_xw ?_ ?_ _ _) | (with_reducible refine below_drewN ?_ _) | (with_reducible refine Below.drew ?_) | (with_reducible refine Below.setCell ?_ ?_ _) | (with_reducible refine Below.alloc ?_ ?_ _) | (simp [xw_size]; done) | (simp [xw_size]; omega) | (dsimp only; omega)))); intro v1 r3 d3 hO _; have HO1 := Kept.mk hO; clear hO))
                      exact ⟨⟨i + 1, _, _, _, by first | rfl | (rw [hw]; rfl), rfl, HO1, ⟨HN3.out⟩⟩, by first | exact less_step hw HCI.out | exact less_bare' HCI.out⟩
                  · have hce : chkT cs ⟨1, n, s⟩ = 2 := by rw [chkT_no (a := ⟨1, n, s⟩) (by have := HK.out; simp only; omega) (by have := HK.out; simp only; omega) HNM.out HC.out]; exact if_neg c3
                    have hv : Kept (colsV cs ags = ([], 2)) := ⟨by rw [HV.out, ← hce]; exact HBAD.out (by rw [hce]; decide)⟩
                    have d3 : (n != 0) = true := by simp [c3]
                    clear hce
                    go_wp2_with (first | (go_at_call 19; refine (rName_any _ trivial _).mono ?_; rintro e w1 ⟨rfl, rfl⟩; rewrite [HNM.out]))
                    go_returns
                    rw [hv.out]
                    exact ⟨_, rfl, OwnC.nil _ _, by (repeat' (first | (with_reducible exact Below.refl _ _) | (with_reducible assumption) | (with_reducible refine below_xw ?_ ?_ _ _) | (with_reducible refine below_drewN ?_ _) | (with_reducible refine Below.drew ?_) | (with_reducible refine Below.setCell ?_ ?_ _) | (with_reducible refine Below.alloc ?_ ?_ _) | (simp [xw_size]; done) | (simp [xw_size]; omega) | (dsimp only; omega)))⟩
                · by_cases ck7 : k = 7
                  · subst ck7
                    have HC : Kept (colB 7 = false) := ⟨rfl⟩
                    by_cases c3 : n = 0
                    · subst c3
                      have HCE : Kept (chkT cs ⟨7, 0, s⟩ = 0) := ⟨by rw [chkT_no (a := ⟨7, 0, s⟩) (by have := HK.out; simp only; omega) (by have := HK.out; simp only; omega) HNM.out HC.out]; rfl⟩
                      have hct : colT cs ⟨7, 0, s⟩ = ⟨s, 1⟩ := rfl
                      by_cases cx : 0 ≤ idx o s
                      · have hv : Kept (colsV cs ags = ([], 9)) := ⟨by rw [HV.out]; exact HTW.out HCE.out cx⟩
                        clear hct
                        go_wp2_with (first | (go_at_call 19; refine (rName_any _ trivial _).mono ?_; rintro e w1 ⟨rfl, rfl⟩; rewrite [HNM.out]) | (go_at_call 20; refine (rcIndex_any _ o s _ ?q (by have h1 := HI.out.1; have h2 := HI.out.2.1; have := HL.out; omega)).mono ?_; (case q => exact HO.out.has.to (by (repeat' (first | (with_reducible exact Below.refl _ _) | (with_reducible assumption) | (with_reducible refine below_xw ?_ ?_ _ _) | (with_reducible refine below_drewN ?_ _) | (with_reducible refine Below.drew ?_) | (with_reducible refine Below.setCell ?_ ?_ _) | (with_reducible refine Below.alloc ?_ ?_ _) | (simp [xw_size]; done) | (simp [xw_size]; omega) | (dsimp only; omega))))); rintro e w2 ⟨rfl, hb2⟩; obtain ⟨r2, d2, rfl⟩ := xw_of hb2; clear hb2))
                        go_returns
                        rw [hv.out]
                        exact ⟨_, rfl, OwnC.nil _ _, by (repeat' (first | (with_reducible exact Below.refl _ _) | (with_reducible assumption) | (with_reducible refine below_xw ?_ ?_ _ _) | (with_reducible refine below_drewN ?_ _) | (with_reducible refine Below.drew ?_) | (with_reducible refine Below.setCell ?_ ?_ _) | (with_reducible refine Below.alloc ?_ ?_ _) | (simp [xw_size]; done) | (simp [xw_size]; omega) | (dsimp only; omega)))⟩
                      · have HN2 := HNX.out HCE.out cx
                        rw [hct] at HN2
                        have HN3 := Kept.mk HN2
                        clear hct HN2
                        go_wp2_with (first | (go_at_call 19; refine (rName_any _ trivial _).mono ?_; rintro e w1 ⟨rfl, rfl⟩; rewrite [HNM.out]) | (go_at_call 20; refine (rcIndex_any _ o s _ ?q (by have h1 := HI.out.1; have h2 := HI.out.2.1; have := HL.out; omega)).mono ?_; (case q => exact HO.out.has.to (by (repeat' (first | (with_reducible exact Below.refl _ _) | (with_reducible assumption) | (with_reducible refine below_xw ?_ ?_ _ _) | (with_reducible refine below_drewN ?_ _) | (with_reducible refine Below.drew ?_) | (with_reducible refine Below.setCell ?_ ?_ _) | (with_reducible refine Below.alloc ?_ ?_ _) | (simp [xw_size]; done) | (simp [xw_size]; omega) | (dsimp only; omega))))); rintro e w2 ⟨rfl, hb2⟩; obtain ⟨r2, d2, rfl⟩ := xw_of hb2; clear hb2) | ((at_builtin); refine app_col3 (w0 := w) rfl (.tmp 92) (.tmp 94) 23 rfl Tryz.underlying23 _ o s 1 _ ?c1 rfl rfl ?c2 ?c3 (by have h1 := HI.out.1; have h2 := HI.out.2.1; have := HL.out; omega) ?_; (case c1 => simp [World.size_alloc, xw_size]); (case c2 => exact OwnC.below HO.out (by (repeat' (first | (with_reducible exact Below.refl _ _) | (with_reducible assumption) | (with_reducible refine below_xw ?_ ?_ _ _) | (with_reducible refine below_drewN ?_ _) | (with_reducible refine Below.drew ?_) | (with_reducible refine Below.setCell ?_ ?_ _) | (with_reducible refine Below.alloc ?_ ?_ _) | (simp [xw_size]; done) | (simp [xw_size]; omega) | (dsimp only; omega))))); (case c3 => (repeat' (first | (with_reducible exact Below.refl _ _) | (with_reducible assumption) | (with_reducible refine below_xw ?_ ?_ _ _) | (with_reducible refine below_drewN ?_ _) | (with_reducible refine Below.drew ?_) | (with_reducible refine Below.setCell ?_ ?_ _) | (with_reducible refine Below.alloc ?_ ?_ _) | (simp [xw_size]; done) | (simp [xw_size]; omega) | (dsimp only; omega)))); intro v1 r3 d3 hO _; have HO1 := Kept.mk hO; clear hO))
                        exact ⟨⟨i + 1, _, _, _, by first | rfl | (rw [hw]; rfl), rfl, HO1, ⟨HN3.out⟩⟩, by first | exact less_step hw HCI.out | exact less_bare' HCI.out⟩
                    · have hce : chkT cs ⟨7, n, s⟩ = 2 := by rw [chkT_no (a := ⟨7, n, s⟩) (by have := HK.out; simp only; omega) (by have := HK.out; simp only; omega) HNM.out HC.out]; exact if_neg c3
                      have hv : Kept (colsV cs ags = ([], 2)) := ⟨by rw [HV.out, ← hce]; exact HBAD.out (by rw [hce]; decide)⟩
                      have d3 : (n != 0) = true := by simp [c3]
                      clear hce
                      go_wp2_with (first | (go_at_call 19; refine (rName_any _ trivial _).mono ?_; rintro e w1 ⟨rfl, rfl⟩; rewrite [HNM.out]))
                      go_returns
                      rw [hv.out]
                      exact ⟨_, rfl, OwnC.nil _ _, by (repeat' (first | (with_reducible exact Below.refl _ _) | (with_reducible assumption) | (with_reducible refine below_xw ?_ ?_ _ _) | (with_reducible refine below_drewN ?_ _) | (with_reducible refine Below.drew ?_) | (with_reducible refine Below.setCell ?_ ?_ _) | (with_reducible refine Below.alloc ?_ ?_ _) | (simp [xw_size]; done) | (simp [xw_size]; omega) | (dsimp only; omega)))⟩
                  · have HC : Kept (colB k = true) := ⟨by simp [colB, ck, ck7]⟩
                    have dk1 : (k == 1) = false := by simp [ck]
                    have dk7 : (k == 7) = false := by simp [ck7]
                    clear ck ck7
                    by_cases c3 : n < 0
                    · have hce : chkT cs ⟨k, n, s⟩ = 3 := chkT_rng (a := ⟨k, n, s⟩) (by have := HK.out; simp only; omega) (by have := HK.out; simp only; omega) HNM.out HC.out (.inl c3)
                      have hv : Kept (colsV cs ags = ([], 3)) := ⟨by rw [HV.out, ← hce]; exact HBAD.out (by rw [hce]; decide)⟩
                      clear hce
                      go_wp2_with (first | (go_at_call 19; refine (rName_any _ trivial _).mono ?_; rintro e w1 ⟨rfl, rfl⟩; rewrite [HNM.out]))
                      go_returns
                      rw [hv.out]
                      exact ⟨_, rfl, OwnC.nil _ _, by (repeat' (first | (with_reducible exact Below.refl _ _) | (with_reducible assumption) | (with_reducible refine below_xw ?_ ?_ _ _) | (with_reducible refine below_drewN ?_ _) | (with_reducible refine Below.drew ?_) | (with_reducible refine Below.setCell ?_ ?_ _) | (with_reducible refine Below.alloc ?_ ?_ _) | (simp [xw_size]; done) | (simp [xw_size]; omega) | (dsimp only; omega)))⟩
                    · by_cases c4 : (cs.length : Int) ≤ n
                      · have hce : chkT cs ⟨k, n, s⟩ = 3 := chkT_rng (a := ⟨k, n, s⟩) (by have := HK.out; simp only; omega) (by have := HK.out; simp only; omega) HNM.out HC.out (.inr c4)
                        have hv : Kept (colsV cs ags = ([], 3)) := ⟨by rw [HV.out, ← hce]; exact HBAD.out (by rw [hce]; decide)⟩
                        clear hce
                        go_wp2_with (first | (go_at_call 19; refine (rName_any _ trivial _).mono ?_; rintro e w1 ⟨rfl, rfl⟩; rewrite [HNM.out]))
                        go_returns
                        rw [hv.out]
                        exact ⟨_, rfl, OwnC.nil _ _, by (repeat' (first | (with_reducible exact Below.refl _ _) | (with_reducible assumption) | (with_reducible refine below_xw ?_ ?_ _ _) | (with_reducible refine below_drewN ?_ _) | (with_reducible refine Below.drew ?_) | (with_reducible refine Below.setCell ?_ ?_ _) | (with_reducible refine Below.alloc ?_ ?_ _) | (simp [xw_size]; done) | (simp [xw_size]; omega) | (dsimp only; omega)))⟩
                      · have hk := chkT_kind (a := ⟨k, n, s⟩) (cs := cs) (by have := HK.out; simp only; omega) (by have := HK.out; simp only; omega) HNM.out HC.out (by simp only; omega) (by simp only; omega)
                        dsimp only at hk
                        obtain ⟨m, rfl⟩ := Int.eq_ofNat_of_zero_le (show 0 ≤ n by omega)
                        obtain ⟨bc, oc, rfl, hbc, ec⟩ := HH.out.kind (show m < cs.length by omega)
                        have h2 := kAt_two M1.out (show 0 ≤ (m : Int) by omega) (by omega)
                        have hq3 : k = 3 ∨ k = 4 → colT cs ⟨k, (m : Int), s⟩ = ⟨s, kAt cs (m : Int)⟩ := fun h => by unfold colT; rw [if_pos h]
                        have hq1 : ¬ (k = 3 ∨ k = 4) → colT cs ⟨k, (m : Int), s⟩ = ⟨s, 1⟩ := fun h => by unfold colT; rw [if_neg h]
                        generalize kAt cs (m : Int) = q at ec hk h2 hq3
                        have H2 := Kept.mk h2
                        have HQ3 := Kept.mk hq3
                        have HQ1 := Kept.mk hq1
                        have HKK := Kept.mk hk
                        have c4' : (m : Int) < (cs.length : Int) := by omega
                        have f1 : 0 ≤ (m : Int) := by omega
                        clear h2 hq3 hq1 hk
                        by_cases c5 : k = 3
                        · subst c5
                          clear dk1 dk7
                          have HCE : Kept (chkT cs ⟨3, (m : Int), s⟩ = 0) := ⟨by rw [HKK.out]; simp⟩
                          have hct : colT cs ⟨3, (m : Int), s⟩ = ⟨s, q⟩ := HQ3.out (.inl rfl)
                          by_cases cx : 0 ≤ idx o s
                          · have hv : Kept (colsV cs ags = ([], 9)) := ⟨by rw [HV.out]; exact HTW.out HCE.out cx⟩
                            clear hct
                            go_wp2_with (first | (go_at_call 19; refine (rName_any _ trivial _).mono ?_; rintro e w1 ⟨rfl, rfl⟩; rewrite [HNM.out]) | (go_at_call 20; refine (rcIndex_any _ o s _ ?q (by have h1 := HI.out.1; have h2 := HI.out.2.1; have := HL.out; omega)).mono ?_; (case q => exact HO.out.has.to (by (repeat' (first | (with_reducible exact Below.refl _ _) | (with_reducible assumption) | (with_reducible refine below_xw ?_ ?_ _ _) | (with_reducible refine below_drewN ?_ _) | (with_reducible refine Below.drew ?_) | (with_reducible refine Below.setCell ?_ ?_ _) | (with_reducible refine Below.alloc ?_ ?_ _) | (simp [xw_size]; done) | (simp [xw_size]; omega) | (dsimp only; omega))))); rintro e w2 ⟨rfl, hb2⟩; obtain ⟨r2, d2, rfl⟩ := xw_of hb2; clear hb2))
                            go_returns
                            rw [hv.out]
                            exact ⟨_, rfl, OwnC.nil _ _, by (repeat' (first | (with_reducible exact Below.refl _ _) | (with_reducible assumption) | (with_reducible refine below_xw ?_ ?_ _ _) | (with_reducible refine below_drewN ?_ _) | (with_reducible refine Below.drew ?_) | (with_reducible refine Below.setCell ?_ ?_ _) | (with_reducible refine Below.alloc ?_ ?_ _) | (simp [xw_size]; done) | (simp [xw_size]; omega) | (dsimp only; omega)))⟩
                          · have HN2 := HNX.out HCE.out cx
                            rw [hct] at HN2
                            have HN3 := Kept.mk HN2
                            clear hct HN2
                            go_wp2_with (first | (go_at_call 19; refine (rName_any _ trivial _).mono ?_; rintro e w1 ⟨rfl, rfl⟩; rewrite [HNM.out]) | (go_at_call 20; refine (rcIndex_any _ o s _ ?q (by have h1 := HI.out.1; have h2 := HI.out.2.1; have := HL.out; omega)).mono ?_; (case q => exact HO.out.has.to (by (repeat' (first | (with_reducible exact Below.refl _ _) | (with_reducible assumption) | (with_reducible refine below_xw ?_ ?_ _ _) | (with_reducible refine below_drewN ?_ _) | (with_reducible refine Below.drew ?_) | (with_reducible refine Below.setCell ?_ ?_ _) | (with_reducible refine Below.alloc ?_ ?_ _) | (simp [xw_size]; done) | (simp [xw_size]; omega) | (dsimp only; omega))))); rintro e w2 ⟨rfl, hb2⟩; obtain ⟨r2, d2, rfl⟩ := xw_of hb2; clear hb2) | ((at_builtin); refine app_col3 (w0 := w) rfl (.tmp 92) (.tmp 94) 23 rfl Tryz.underlying23 _ o s q _ ?c1 rfl rfl ?c2 ?c3 (by have h1 := HI.out.1; have h2 := HI.out.2.1; have := HL.out; omega) ?_; (case c1 => simp [World.size_alloc, xw_size]); (case c2 => exact OwnC.below HO.out (by (repeat' (first | (with_reducible exact Below.refl _ _) | (with_reducible assumption) | (with_reducible refine below_xw ?_ ?_ _ _) | (with_reducible refine below_drewN ?_ _) | (with_reducible refine Below.drew ?_) | (with_reducible refine Below.setCell ?_ ?_ _) | (with_reducible refine Below.alloc ?_ ?_ _) | (simp [xw_size]; done) | (simp [xw_size]; omega) | (dsimp only; omega))))); (case c3 => (repeat' (first | (with_reducible exact Below.refl _ _) | (with_reducible assumption) | (with_reducible refine below_xw ?_ ?_ _ _) | (with_reducible refine below_drewN ?_ _) | (with_reducible refine Below.drew ?_) | (with_reducible refine Below.setCell ?_ ?_ _) | (with_reducible refine Below.alloc ?_ ?_ _) | (simp [xw_size]; done) | (simp [xw_size]; omega) | (dsimp only; omega)))); intro v1 r3 d3 hO _; have HO1 := Kept.mk hO; clear hO))
                            exact ⟨⟨i + 1, _, _, _, by first | rfl | (rw [hw]; rfl), rfl, HO1, ⟨HN3.out⟩⟩, by first | exact less_step hw HCI.out | exact less_bare' HCI.out⟩
                        · by_cases c6 : k = 4
                          · subst c6
                            clear dk1 dk7 c5
                            have HCE : Kept (chkT cs ⟨4, (m : Int), s⟩ = 0) := ⟨by rw [HKK.out]; simp⟩
                            have hct : colT cs ⟨4, (m : Int), s⟩ = ⟨s, q⟩ := HQ3.out (.inr rfl)
                            by_cases cx : 0 ≤ idx o s
                            · have hv : Kept (colsV cs ags = ([], 9)) := ⟨by rw [HV.out]; exact HTW.out HCE.out cx⟩
                              clear hct
                              go_wp2_with (first | (go_at_call 19; refine (rName_any _ trivial _).mono ?_; rintro e w1 ⟨rfl, rfl⟩; rewrite [HNM.out]) | (go_at_call 20; refine (rcIndex_any _ o s _ ?q (by have h1 := HI.out.1; have h2 := HI.out.2.1; have := HL.out; omega)).mono ?_; (case q => exact HO.out.has.to (by (repeat' (first | (with_reducible exact Below.refl _ _) | (with_reducible assumption) | (with_reducible refine below_xw ?_ ?_ _ _) | (with_reducible refine below_drewN ?_ _) | (with_reducible refine Below.drew ?_) | (with_reducible refine Below.setCell ?_ ?_ _) | (with_reducible refine Below.alloc ?_ ?_ _) | (simp [xw_size]; done) | (simp [xw_size]; omega) | (dsimp only; omega))))); rintro e w2 ⟨rfl, hb2⟩; obtain ⟨r2, d2, rfl⟩ := xw_of hb2; clear hb2))
                              go_returns
                              rw [hv.out]
                              exact ⟨_, rfl, OwnC.nil _ _, by (repeat' (first | (with_reducible exact Below.refl _ _) | (with_reducible assumption) | (with_reducible refine below_xw ?_ ?_ _ _) | (with_reducible refine below_drewN ?_ _) | (with_reducible refine Below.drew ?_) | (with_reducible refine Below.setCell ?_ ?_ _) | (with_reducible refine Below.alloc ?_ ?_ _) | (simp [xw_size]; done) | (simp [xw_size]; omega) | (dsimp only; omega)))⟩
                            · have HN2 := HNX.out HCE.out cx
                              rw [hct] at HN2
                              have HN3 := Kept.mk HN2
                              clear hct HN2
                              go_wp2_with (first | (go_at_call 19; refine (rName_any _ trivial _).mono ?_; rintro e w1 ⟨rfl, rfl⟩; rewrite [HNM.out]) | (go_at_call 20; refine (rcIndex_any _ o s _ ?q (by have h1 := HI.out.1; have h2 := HI.out.2.1; have := HL.out; omega)).mono ?_; (case q => exact HO.out.has.to (by (repeat' (first | (with_reducible exact Below.refl _ _) | (with_reducible assumption) | (with_reducible refine below_xw ?_ ?_ _ _) | (with_reducible refine below_drewN ?_ _) | (with_reducible refine Below.drew ?_) | (with_reducible refine Below.setCell ?_ ?_ _) | (with_reducible refine Below.alloc ?_ ?_ _) | (simp [xw_size]; done) | (simp [xw_size]; omega) | (dsimp only; omega))))); rintro e w2 ⟨rfl, hb2⟩; obtain ⟨r2, d2, rfl⟩ := xw_of hb2; clear hb2) | ((at_builtin); refine app_col3 (w0 := w) rfl (.tmp 92) (.tmp 94) 23 rfl Tryz.underlying23 _ o s q _ ?c1 rfl rfl ?c2 ?c3 (by have h1 := HI.out.1; have h2 := HI.out.2.1; have := HL.out; omega) ?_; (case c1 => simp [World.size_alloc, xw_size]); (case c2 => exact OwnC.below HO.out (by (repeat' (first | (with_reducible exact Below.refl _ _) | (with_reducible assumption) | (with_reducible refine below_xw ?_ ?_ _ _) | (with_reducible refine below_drewN ?_ _) | (with_reducible refine Below.drew ?_) | (with_reducible refine Below.setCell ?_ ?_ _) | (with_reducible refine Below.alloc ?_ ?_ _) | (simp [xw_size]; done) | (simp [xw_size]; omega) | (dsimp only; omega))))); (case c3 => (repeat' (first | (with_reducible exact Below.refl _ _) | (with_reducible assumption) | (with_reducible refine below_xw ?_ ?_ _ _) | (with_reducible refine below_drewN ?_ _) | (with_reducible refine Below.drew ?_) | (with_reducible refine Below.setCell ?_ ?_ _) | (with_reducible refine Below.alloc ?_ ?_ _) | (simp [xw_size]; done) | (simp [xw_size]; omega) | (dsimp only; omega)))); intro v1 r3 d3 hO _; have HO1 := Kept.mk hO; clear hO))
                              exact ⟨⟨i + 1, _, _, _, by first | rfl | (rw [hw]; rfl), rfl, HO1, ⟨HN3.out⟩⟩, by first | exact less_step hw HCI.out | exact less_bare' HCI.out⟩
                          · have d5 : (k == 3) = false := by simp [c5]
                            have d6 : (k == 4) = false := by simp [c6]
                            rcases H2.out with c7 | c7
                            · subst c7
                              have HCE : Kept (chkT cs ⟨k, (m : Int), s⟩ = 0) := ⟨by rw [HKK.out]; simp⟩
                              have hct : colT cs ⟨k, (m : Int), s⟩ = ⟨s, 1⟩ := HQ1.out (by omega)
                              by_cases cx : 0 ≤ idx o s
                              · have hv : Kept (colsV cs ags = ([], 9)) := ⟨by rw [HV.out]; exact HTW.out HCE.out cx⟩
                                clear hct
                                go_wp2_with (first | (go_at_call 19; refine (rName_any _ trivial _).mono ?_; rintro e w1 ⟨rfl, rfl⟩; rewrite [HNM.out]) | (go_at_call 20; refine (rcIndex_any _ o s _ ?q (by have h1 := HI.out.1; have h2 := HI.out.2.1; have := HL.out; omega)).mono ?_; (case q => exact HO.out.has.to (by (repeat' (first | (with_reducible exact Below.refl _ _) | (with_reducible assumption) | (with_reducible refine below_xw ?_ ?_ _ _) | (with_reducible refine below_drewN ?_ _) | (with_reducible refine Below.drew ?_) | (with_reducible refine Below.setCell ?_ ?_ _) | (with_reducible refine Below.alloc ?_ ?_ _) | (simp [xw_size]; done) | (simp [xw_size]; omega) | (dsimp only; omega))))); rintro e w2 ⟨rfl, hb2⟩; obtain ⟨r2, d2, rfl⟩ := xw_of hb2; clear hb2))
                                go_returns
                                rw [hv.out]
                                exact ⟨_, rfl, OwnC.nil _ _, by (repeat' (first | (with_reducible exact Below.refl _ _) | (with_reducible assumption) | (with_reducible refine below_xw ?_ ?_ _ _) | (with_reducible refine below_drewN ?_ _) | (with_reducible refine Below.drew ?_) | (with_reducible refine Below.setCell ?_ ?_ _) | (with_reducible refine Below.alloc ?_ ?_ _) | (simp [xw_size]; done) | (simp [xw_size]; omega) | (dsimp only; omega)))⟩
                              · have HN2 := HNX.out HCE.out cx
                                rw [hct] at HN2
                                have HN3 := Kept.mk HN2
                                clear hct HN2
                                go_wp2_with (first | (go_at_call 19; refine (rName_any _ trivial _).mono ?_; rintro e w1 ⟨rfl, rfl⟩; rewrite [HNM.out]) | (go_at_call 20; refine (rcIndex_any _ o s _ ?q (by have h1 := HI.out.1; have h2 := HI.out.2.1; have := HL.out; omega)).mono ?_; (case q => exact HO.out.has.to (by (repeat' (first | (with_reducible exact Below.refl _ _) | (with_reducible assumption) | (with_reducible refine below_xw ?_ ?_ _ _) | (with_reducible refine below_drewN ?_ _) | (with_reducible refine Below.drew ?_) | (with_reducible refine Below.setCell ?_ ?_ _) | (with_reducible refine Below.alloc ?_ ?_ _) | (simp [xw_size]; done) | (simp [xw_size]; omega) | (dsimp only; omega))))); rintro e w2 ⟨rfl, hb2⟩; obtain ⟨r2, d2, rfl⟩ := xw_of hb2; clear hb2) | ((at_builtin); refine app_col3 (w0 := w) rfl (.tmp 92) (.tmp 94) 23 rfl Tryz.underlying23 _ o s 1 _ ?c1 rfl rfl ?c2 ?c3 (by have h1 := HI.out.1; have h2 := HI.out.2.1; have := HL.out; omega) ?_; (case c1 => simp [World.size_alloc, xw_size]); (case c2 => exact OwnC.below HO.out (by (repeat' (first | (with_reducible exact Below.refl _ _) | (with_reducible assumption) | (with_reducible refine below_xw ?_ ?_ _ _) | (with_reducible refine below_drewN ?_ _) | (with_reducible refine Below.drew ?_) | (with_reducible refine Below.setCell ?_ ?_ _) | (with_reducible refine Below.alloc ?_ ?_ _) | (simp [xw_size]; done) | (simp [xw_size]; omega) | (dsimp only; omega))))); (case c3 => (repeat' (first | (with_reducible exact Below.refl _ _) | (with_reducible assumption) | (with_reducible refine below_xw ?_ ?_ _ _) | (with_reducible refine below_drewN ?_ _) | (with_reducible refine Below.drew ?_) | (with_reducible refine Below.setCell ?_ ?_ _) | (with_reducible refine Below.alloc ?_ ?_ _) | (simp [xw_size]; done) | (simp [xw_size]; omega) | (dsimp only; omega)))); intro v1 r3 d3 hO _; have HO1 := Kept.mk hO; clear hO))
                                exact ⟨⟨i + 1, _, _, _, by first | rfl | (rw [hw]; rfl), rfl, HO1, ⟨HN3.out⟩⟩, by first | exact less_step hw HCI.out | exact less_bare' HCI.out⟩
                            · subst c7
                              have hce : chkT cs ⟨k, (m : Int), s⟩ = 12 := by rw [HKK.out, if_pos ⟨c5, c6, by decide⟩]
                              have hv : Kept (colsV cs ags = ([], 12)) := ⟨by rw [HV.out, ← hce]; exact HBAD.out (by rw [hce]; decide)⟩
                              clear hce
                              go_wp2_with (first | (go_at_call 19; refine (rName_any _ trivial _).mono ?_; rintro e w1 ⟨rfl, rfl⟩; rewrite [HNM.out]))
                              go_returns
                              rw [hv.out]
                              exact ⟨_, rfl, OwnC.nil _ _, by (repeat' (first | (with_reducible exact Below.refl _ _) | (with_reducible assumption) | (with_reducible refine below_xw ?_ ?_ _ _) | (with_reducible refine below_drewN ?_ _) | (with_reducible refine Below.drew ?_) | (with_reducible refine Below.setCell ?_ ?_ _) | (with_reducible refine Below.alloc ?_ ?_ _) | (simp [xw_size]; done) | (simp [xw_size]; omega) | (dsimp only; omega)))⟩
        · have hv : Kept (colsV cs ags = (o, 0)) := ⟨by rw [HV.out]; exact HI.out.done ci⟩
          have ci' : ¬ ((i : Int) < (ags.length : Int)) := by omega
          clear ci
          go_wp2_with fail
          go_returns
          rw [hv.out]
          exact ⟨_, rfl, HO.out, xw_below _ _ _⟩
end Go.Proofs.YtnidaahimofppaaGreat
