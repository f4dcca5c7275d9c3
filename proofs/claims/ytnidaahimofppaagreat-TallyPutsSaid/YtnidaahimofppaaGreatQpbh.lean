/- Layer 26 (tally): Row, walked (no extremes, no leans). -/
import Derived.Test.YtnidaahimofppaaGreatQpbg
import Derived.Test.YtnidaahimofppaaGreatQpbf
namespace Go.Proofs.YtnidaahimofppaaGreat
open Go.RowKit Go.Maps
set_option linter.unusedVariables false
set_option linter.unusedSimpArgs false

set_option maxRecDepth 100000 in
set_option maxHeartbeats 4000000 in
theorem tRow_any (w : World) (B g : Nat) (cs : List Cl) (ags : List Vr) (ps : List Pt) (m : List UInt8 → Int) (nm : Nat) (cnt start : Int) (H : TalAt w B g cs ags ps m nm cnt) (M : Nat) (hM : M ≤ 1000) (hs : ∀ p ∈ ps, okPt M p) (hl8 : ps.length ≤ 8) :
    Calls Tryz.prog 11 #[.pointer (some ⟨g, 0, none⟩), .int .i64 start] w (RetR w (rowT cnt start ps)) := by
  obtain ⟨B1, gm, sv, av, pv, ts, HT, HP⟩ := H
  have HT := Kept.mk HT
  have HP := Kept.mk HP
  have HS := Kept.mk hs
  have HMM := Kept.mk hM
  have H8 := Kept.mk hl8
  obtain ⟨Ap, cp, rfl⟩ := HT.out.row.slice
  have e2 := (box5 HT.out.box).2.2.1
  have e4 := (box5 HT.out.box).2.2.2.2
  have hgl := HT.out.lt
  have hpl : ts.length = ps.length := by have h := congrArg List.length HP.out; simpa using h
  have HPL := Kept.mk hpl
  clear hs hl8
  by_cases c0 : cnt = 0
  · subst c0
    have hv : rowT 0 start ps = ([], 8) := rfl
    rw [hv]
    clear hv
    go_enter Tryz.func11, Tryz.ntmps11
    go_wp2_with fail
    go_returns
    exact ⟨_, rfl, OwnR.nil _ _, Below.refl _ _⟩
  · have hv : rowT cnt start ps = rowL start [] ps := if_neg c0
    rw [hv]
    have d0 : (cnt == 0) = false := by simp [c0]
    clear hv c0
    go_enter Tryz.func11, Tryz.ntmps11
    rw [List.length_map] at e2
    rw [hpl] at e2
    clear hpl
    go_wp2_with (first
      | ((refine mk_vals (W := w) rfl (.tmp 24) 36 _ rfl Tryz.underlying36 ps.length rfl rfl ?c1 ?_); (case c1 => have := H8.out; omega); intro r1 d1 hO; have HO := Kept.mk hO; clear hO))
    go_loopw [31, 6] (fun v31 v6 wr => RwL ps start w v31 v6 wr) (fun v31 v6 wr => ps.length - (intOf v31).toNat)
    case atStart => exact ⟨0, _, _, _, rfl, rfl, HO, ⟨Nat.zero_le _, rfl, rfl⟩⟩
    case round =>
      obtain ⟨i, out, r, d, rfl, rfl, HO2, HI⟩ := hrel
      clear HO
      have HO := HO2
      clear HO2
      by_cases ci : i < ps.length
      · have ci' : (i : Int) < (ps.length : Int) := by omega
        have f0 : 0 ≤ (i : Int) := by omega
        have htz : i < ts.length := by have := HPL.out; omega
        have htp : (ts[i]'htz).2.2 = ps[i] := by
          have h := congrArg (fun l => l[i]?) HP.out
          simp only [List.getElem?_map, List.getElem?_eq_getElem htz, List.getElem?_eq_getElem ci, Option.map_some, Option.some.injEq] at h
          exact h
        obtain ⟨g6, rfl, h6⟩ := row_at HT.out.row htz
        have hPA := (HT.out.parts _ (List.getElem_mem htz)).1
        have hok := HS.out _ (List.getElem_mem ci)
        have hg6 : g6 < w.heap.size := World.block_lt_of_cell? w _ h6
        have hst := HI.out.2.2
        rw [rowL_at ci] at hst
        rw [← htp] at hok hst
        obtain ⟨tv, tf, tp, htt⟩ : ∃ tv tf tp, ts[i]'htz = (tv, tf, tp) := ⟨_, _, _, rfl⟩
        rw [htt] at h6 hPA hok hst
        dsimp only at h6 hPA hok hst
        have HPA := Kept.mk hPA
        have HOK := Kept.mk hok
        have HST := Kept.mk hst
        have HCI := Kept.mk ci
        have hw : wrap64 ((i : Int) + 1) = (i : Int) + 1 := by have := H8.out; simp only [wrap64]; omega
        clear ci hPA hok hst htt htp htz
        cases tp with
        | cnt c =>
          obtain ⟨g5, rfl, rfl, hb5⟩ := HPA.out
          have HB5 := Kept.mk hb5
          have HST : Kept (rowL start [] ps = rowL start (out ++ [⟨1, c, ⟨#[]⟩⟩]) (ps.drop (i + 1))) := ⟨HST.out⟩
          have hna := nilTA
          clear hb5
          go_wp2_with (first
            | (go_at_call 84; refine (ctell_any g5 c start _ ?q1).mono ?_; (case q1 => rw [xw_block _ _ _ _ (Array.getElem?_eq_some_iff.1 HB5.out).1]; exact HB5.out); rintro e w1 ⟨rfl, hb1⟩; have HO3 := Kept.mk (OwnR.below HO.out hb1); obtain ⟨r1, d1, rfl⟩ := xw_of hb1; rw [xw_xw] at HO3; clear hb1)
            | ((at_builtin); refine app_val3 (w0 := w) rfl (.tmp 44) (.tmp 46) 36 rfl Tryz.underlying36 _ out 1 c _ _ ?c1 rfl rfl ?c2 ?c3 (by have h1 := HI.out.1; have h2 := HI.out.2.1; have := H8.out; omega) ?_; (case c1 => simp [World.size_alloc, xw_size]); (case c2 => exact OwnR.below HO3.out (by (repeat' (first | (with_reducible exact Below.refl _ _) | (with_reducible assumption) | (with_reducible refine below_xw ?_ ?_ _ _) | (with_reducible refine below_drewN ?_ _) | (with_reducible refine Below.drew ?_) | (with_reducible refine Below.setCell ?_ ?_ _) | (with_reducible refine Below.alloc ?_ ?_ _) | (simp [xw_size]; done) | (simp [xw_size]; omega) | (dsimp only; omega))))); (case c3 => (repeat' (first | (with_reducible exact Below.refl _ _) | (with_reducible assumption) | (with_reducible refine below_xw ?_ ?_ _ _) | (with_reducible refine below_drewN ?_ _) | (with_reducible refine Below.drew ?_) | (with_reducible refine Below.setCell ?_ ?_ _) | (with_reducible refine Below.alloc ?_ ?_ _) | (simp [xw_size]; done) | (simp [xw_size]; omega) | (dsimp only; omega)))); intro v1 r3 d3 hO; have HO1 := Kept.mk hO; clear hO))
          exact ⟨⟨i + 1, _, _, _, by first | rfl | (rw [hw]; rfl), rfl, HO1, ⟨HCI.out, by have := HI.out.2.1; simp; omega, HST.out⟩⟩, by first | exact less_step hw HCI.out | exact less_bare' HCI.out⟩
        | tot T =>
          obtain ⟨g5, rfl, rfl, hT, hb5⟩ := HPA.out
          have HB5 := Kept.mk hb5
          have HTT := Kept.mk hT
          have hna := nilTB
          clear hb5 hT
          by_cases c : in64 T
          · have hv : tellP start (.tot T) = (⟨1, T, ⟨#[]⟩⟩, 0) := if_pos c
            have HV := Kept.mk hv
            have hst := HST.out
            rw [hv, if_neg (by simp)] at hst
            have HST := Kept.mk hst
            clear hv hst c
            go_wp2_with (first
              | (go_at_call 87; refine (stell_any g5 T start _ HTT.out ?q1).mono ?_; (case q1 => rw [xw_block _ _ _ _ (Array.getElem?_eq_some_iff.1 HB5.out).1]; exact HB5.out); rintro e w1 ⟨rfl, hb1⟩; rewrite [HV.out]; have HO3 := Kept.mk (OwnR.below HO.out hb1); obtain ⟨r1, d1, rfl⟩ := xw_of hb1; rw [xw_xw] at HO3; clear hb1)
              | ((at_builtin); refine app_val3 (w0 := w) rfl (.tmp 44) (.tmp 46) 36 rfl Tryz.underlying36 _ out 1 T _ _ ?c1 rfl rfl ?c2 ?c3 (by have h1 := HI.out.1; have h2 := HI.out.2.1; have := H8.out; omega) ?_; (case c1 => simp [World.size_alloc, xw_size]); (case c2 => exact OwnR.below HO3.out (by (repeat' (first | (with_reducible exact Below.refl _ _) | (with_reducible assumption) | (with_reducible refine below_xw ?_ ?_ _ _) | (with_reducible refine below_drewN ?_ _) | (with_reducible refine Below.drew ?_) | (with_reducible refine Below.setCell ?_ ?_ _) | (with_reducible refine Below.alloc ?_ ?_ _) | (simp [xw_size]; done) | (simp [xw_size]; omega) | (dsimp only; omega))))); (case c3 => (repeat' (first | (with_reducible exact Below.refl _ _) | (with_reducible assumption) | (with_reducible refine below_xw ?_ ?_ _ _) | (with_reducible refine below_drewN ?_ _) | (with_reducible refine Below.drew ?_) | (with_reducible refine Below.setCell ?_ ?_ _) | (with_reducible refine Below.alloc ?_ ?_ _) | (simp [xw_size]; done) | (simp [xw_size]; omega) | (dsimp only; omega)))); intro v1 r3 d3 hO; have HO1 := Kept.mk hO; clear hO))
            exact ⟨⟨i + 1, _, _, _, by first | rfl | (rw [hw]; rfl), rfl, HO1, ⟨HCI.out, by have := HI.out.2.1; simp; omega, HST.out⟩⟩, by first | exact less_step hw HCI.out | exact less_bare' HCI.out⟩
          · have hv : tellP start (.tot T) = (⟨0, 0, ⟨#[]⟩⟩, 10) := if_neg c
            have HV := Kept.mk hv
            have hst := HST.out
            rw [hv, if_pos (by simp)] at hst
            have HST := Kept.mk hst
            clear hv hst c
            go_wp2_with (first
              | (go_at_call 87; refine (stell_any g5 T start _ HTT.out ?q1).mono ?_; (case q1 => rw [xw_block _ _ _ _ (Array.getElem?_eq_some_iff.1 HB5.out).1]; exact HB5.out); rintro e w1 ⟨rfl, hb1⟩; rewrite [HV.out]; have HO3 := Kept.mk (OwnR.below HO.out hb1); obtain ⟨r1, d1, rfl⟩ := xw_of hb1; rw [xw_xw] at HO3; clear hb1))
            go_returns
            rw [HST.out]
            exact ⟨_, rfl, OwnR.nil _ _, by (repeat' (first | (with_reducible exact Below.refl _ _) | (with_reducible assumption) | (with_reducible refine below_xw ?_ ?_ _ _) | (with_reducible refine below_drewN ?_ _) | (with_reducible refine Below.drew ?_) | (with_reducible refine Below.setCell ?_ ?_ _) | (with_reducible refine Below.alloc ?_ ?_ _) | (simp [xw_size]; done) | (simp [xw_size]; omega) | (dsimp only; omega)))⟩
        | ext last es =>
          obtain ⟨g5, gm5, ve, rfl, rfl, hb5, hM5⟩ := HPA.out
          have HB5 := Kept.mk (And.intro hb5 hM5)
          have hx : ∃ xk xn xs, (tellP start (.ext last es)).1 = ⟨xk, xn, xs⟩ := ⟨_, _, _, rfl⟩
          obtain ⟨xk, xn, xs, hx⟩ := hx
          have HX := Kept.mk hx
          have HST : Kept (rowL start [] ps = rowL start (out ++ [⟨xk, xn, xs⟩]) (ps.drop (i + 1))) := ⟨by rw [← hx]; exact HST.out⟩
          have hna := nilTD
          clear hb5 hM5 hx
          go_wp2_with (first
            | (go_at_call 98; refine (xtell_any g5 gm5 ve es last start _ ?q1 ?q2).mono ?_; (case q1 => rw [xw_block _ _ _ _ (Array.getElem?_eq_some_iff.1 HB5.out.1).1]; exact HB5.out.1); (case q2 => exact HB5.out.2.below (by (repeat' (first | (with_reducible exact Below.refl _ _) | (with_reducible assumption) | (with_reducible refine below_xw ?_ ?_ _ _) | (with_reducible refine below_drewN ?_ _) | (with_reducible refine Below.drew ?_) | (with_reducible refine Below.setCell ?_ ?_ _) | (with_reducible refine Below.alloc ?_ ?_ _) | (simp [xw_size]; done) | (simp [xw_size]; omega) | (dsimp only; omega))))); rintro e w1 ⟨rfl, hb1⟩; rewrite [HX.out]; have HO3 := Kept.mk (OwnR.below HO.out hb1); obtain ⟨r1, d1, rfl⟩ := xw_of hb1; rw [xw_xw] at HO3; clear hb1)
            | ((at_builtin); refine app_val3 (w0 := w) rfl (.tmp 44) (.tmp 46) 36 rfl Tryz.underlying36 _ out xk xn _ _ ?c1 rfl rfl ?c2 ?c3 (by have h1 := HI.out.1; have h2 := HI.out.2.1; have := H8.out; omega) ?_; (case c1 => simp [World.size_alloc, xw_size]); (case c2 => exact OwnR.below HO3.out (by (repeat' (first | (with_reducible exact Below.refl _ _) | (with_reducible assumption) | (with_reducible refine below_xw ?_ ?_ _ _) | (with_reducible refine below_drewN ?_ _) | (with_reducible refine Below.drew ?_) | (with_reducible refine Below.setCell ?_ ?_ _) | (with_reducible refine Below.alloc ?_ ?_ _) | (simp [xw_size]; done) | (simp [xw_size]; omega) | (dsimp only; omega))))); (case c3 => (repeat' (first | (with_reducible exact Below.refl _ _) | (with_reducible assumption) | (with_reducible refine below_xw ?_ ?_ _ _) | (with_reducible refine below_drewN ?_ _) | (with_reducible refine Below.drew ?_) | (with_reducible refine Below.setCell ?_ ?_ _) | (with_reducible refine Below.alloc ?_ ?_ _) | (simp [xw_size]; done) | (simp [xw_size]; omega) | (dsimp only; omega)))); intro v1 r3 d3 hO; have HO1 := Kept.mk hO; clear hO))
          exact ⟨⟨i + 1, _, _, _, by first | rfl | (rw [hw]; rfl), rfl, HO1, ⟨HCI.out, by have := HI.out.2.1; simp; omega, HST.out⟩⟩, by first | exact less_step hw HCI.out | exact less_bare' HCI.out⟩
        | sid north z =>
          obtain ⟨g5, gl5, rfl, rfl, hb5, hL5⟩ := HPA.out
          have HB5 := Kept.mk (And.intro hb5 hL5)
          have hx : ∃ xn, (if north = true then z.2 else z.1) = xn := ⟨_, rfl⟩
          obtain ⟨xn, hx⟩ := hx
          have HX := Kept.mk hx
          have HST : Kept (rowL start [] ps = rowL start (out ++ [⟨1, xn, ⟨#[]⟩⟩]) (ps.drop (i + 1))) := ⟨by rw [← hx]; exact HST.out⟩
          have hna := nilTE
          clear hb5 hL5 hx
          go_wp2_with (first
            | (go_at_call 117; refine (dtell_any g5 gl5 north z start _ ?q1 ?q2 (okPt_sm HMM.out HOK.out)).mono ?_; (case q1 => rw [xw_block _ _ _ _ (Array.getElem?_eq_some_iff.1 HB5.out.1).1]; exact HB5.out.1); (case q2 => obtain ⟨re, im, h3, h4⟩ := HB5.out.2; exact ⟨re, im, by rw [xw_block _ _ _ _ (Array.getElem?_eq_some_iff.1 h3).1]; exact h3, h4⟩); rintro e w1 ⟨rfl, hb1⟩; rewrite [HX.out]; have HO3 := Kept.mk (OwnR.below HO.out hb1); obtain ⟨r1, d1, rfl⟩ := xw_of hb1; rw [xw_xw] at HO3; clear hb1)
            | ((at_builtin); refine app_val3 (w0 := w) rfl (.tmp 44) (.tmp 46) 36 rfl Tryz.underlying36 _ out 1 xn _ _ ?c1 rfl rfl ?c2 ?c3 (by have h1 := HI.out.1; have h2 := HI.out.2.1; have := H8.out; omega) ?_; (case c1 => simp [World.size_alloc, xw_size]); (case c2 => exact OwnR.below HO3.out (by (repeat' (first | (with_reducible exact Below.refl _ _) | (with_reducible assumption) | (with_reducible refine below_xw ?_ ?_ _ _) | (with_reducible refine below_drewN ?_ _) | (with_reducible refine Below.drew ?_) | (with_reducible refine Below.setCell ?_ ?_ _) | (with_reducible refine Below.alloc ?_ ?_ _) | (simp [xw_size]; done) | (simp [xw_size]; omega) | (dsimp only; omega))))); (case c3 => (repeat' (first | (with_reducible exact Below.refl _ _) | (with_reducible assumption) | (with_reducible refine below_xw ?_ ?_ _ _) | (with_reducible refine below_drewN ?_ _) | (with_reducible refine Below.drew ?_) | (with_reducible refine Below.setCell ?_ ?_ _) | (with_reducible refine Below.alloc ?_ ?_ _) | (simp [xw_size]; done) | (simp [xw_size]; omega) | (dsimp only; omega)))); intro v1 r3 d3 hO; have HO1 := Kept.mk hO; clear hO))
          exact ⟨⟨i + 1, _, _, _, by first | rfl | (rw [hw]; rfl), rfl, HO1, ⟨HCI.out, by have := HI.out.2.1; simp; omega, HST.out⟩⟩, by first | exact less_step hw HCI.out | exact less_bare' HCI.out⟩
        | sta =>
          obtain ⟨rfl, rfl⟩ := HPA.out
          have HST : Kept (rowL start [] ps = rowL start (out ++ [⟨1, start, ⟨#[]⟩⟩]) (ps.drop (i + 1))) := ⟨HST.out⟩
          have hna := nilTC
          go_wp2_with (first
            | (go_at_call 124; refine (statell_any start _).mono ?_; rintro e w1 ⟨rfl, hb1⟩; have HO3 := Kept.mk (OwnR.below HO.out hb1); obtain ⟨r1, d1, rfl⟩ := xw_of hb1; rw [xw_xw] at HO3; clear hb1)
            | ((at_builtin); refine app_val3 (w0 := w) rfl (.tmp 44) (.tmp 46) 36 rfl Tryz.underlying36 _ out 1 start _ _ ?c1 rfl rfl ?c2 ?c3 (by have h1 := HI.out.1; have h2 := HI.out.2.1; have := H8.out; omega) ?_; (case c1 => simp [World.size_alloc, xw_size]); (case c2 => exact OwnR.below HO3.out (by (repeat' (first | (with_reducible exact Below.refl _ _) | (with_reducible assumption) | (with_reducible refine below_xw ?_ ?_ _ _) | (with_reducible refine below_drewN ?_ _) | (with_reducible refine Below.drew ?_) | (with_reducible refine Below.setCell ?_ ?_ _) | (with_reducible refine Below.alloc ?_ ?_ _) | (simp [xw_size]; done) | (simp [xw_size]; omega) | (dsimp only; omega))))); (case c3 => (repeat' (first | (with_reducible exact Below.refl _ _) | (with_reducible assumption) | (with_reducible refine below_xw ?_ ?_ _ _) | (with_reducible refine below_drewN ?_ _) | (with_reducible refine Below.drew ?_) | (with_reducible refine Below.setCell ?_ ?_ _) | (with_reducible refine Below.alloc ?_ ?_ _) | (simp [xw_size]; done) | (simp [xw_size]; omega) | (dsimp only; omega)))); intro v1 r3 d3 hO; have HO1 := Kept.mk hO; clear hO))
          exact ⟨⟨i + 1, _, _, _, by first | rfl | (rw [hw]; rfl), rfl, HO1, ⟨HCI.out, by have := HI.out.2.1; simp; omega, HST.out⟩⟩, by first | exact less_step hw HCI.out | exact less_bare' HCI.out⟩
      · have hv : rowL start [] ps = (out, 0) := by rw [HI.out.2.2, rowL_end (by omega)]
        have HV := Kept.mk hv
        have ci' : ¬ ((i : Int) < (ps.length : Int)) := by omega
        clear ci hv
        go_wp2_with fail
        go_returns
        rw [HV.out]
        exact ⟨_, rfl, HO.out, xw_below _ _ _⟩
end Go.Proofs.YtnidaahimofppaaGreat
