/- Layer 26 (tally): the columns of aggregates, walked. -/
import Derived.Test.YtnidaahimofppaaGreatQpal
import Derived.Test.YtnidaahimofppaaGreatQpai
namespace Go.Proofs.YtnidaahimofppaaGreat
open Go.RowKit
set_option linter.unusedVariables false
set_option linter.unusedSimpArgs false

theorem HasC.to {w W : World} {v : Value} {cs : List Cl} (h : HasC w w.heap.size v cs) (hb : Below w.heap.size w W) : HasC W W.heap.size v cs := (h.below hb).up hb.size
theorem HasR.to {w W : World} {v : Value} {xs : List Vr} (h : HasR w w.heap.size v xs) (hb : Below w.heap.size w W) : HasR W W.heap.size v xs := (h.below hb).up hb.size
section
variable {ops : Array Oper} {rest : List Oper} {o : Oper} {a : Act} {Q : Exit → Act → World → Prop}
theorem app_col3 {w0 W : World} (hgd : o.guard = none) (s x : Operand) (t : TypeId)
    (ho : o.op = .call { callee := .builtin .append, args := #[s, x], argTypes := #[t, t] })
    (ht : Tryz.prog.underlying t = some (.slice 52))
    (v : Value) (xs : List Cl) (y : ByteArray) (k : Int) (N : Nat) (hN : N = W.heap.size) (hs : a.eval s = v) (hx : a.eval x = .slice (some ⟨N, 0, none⟩) 1 1)
    (HO : OwnC W w0.heap.size v xs) (HB : Below w0.heap.size w0 W) (hl : xs.length ≤ 100000)
    (h : ∀ v1 r d, OwnC (xw w0 r d) w0.heap.size v1 (xs ++ [⟨y, k⟩]) → (W.alloc (.cells #[.string y, .int .i64 k] 52)).grownBy (xw w0 r d) v.ownBlock → wpList Tryz.prog ops Q rest (a.put o.dst v1) (xw w0 r d)) :
    wpList Tryz.prog ops Q (o :: rest) a (W.alloc (.cells #[.string y, .int .i64 k] 52)) := by
  subst hN
  exact app_col hgd s x t ho ht v xs y k hs hx HO HB hl h
end
def TcL (cs : List Cl) (ags : List Vr) (w : World) (v24 v6 : Value) (wr : World) : Prop := ∃ (i : Nat) (o : List Cl) (r : Array Obj) (d : Nat), v24 = .int .i64 (i : Int) ∧ wr = xw w r d ∧ Kept (OwnC wr w.heap.size v6 o) ∧ Kept (TcI cs ags i o)
set_option maxRecDepth 100000 in
set_option maxHeartbeats 4000000 in
theorem tCols_any (v u : Value) (cs : List Cl) (ags : List Vr) (w : World) (H1 : HasC w w.heap.size v cs) (H2 : HasR w w.heap.size u ags) :
    Calls Tryz.prog 14 #[v, u] w (RetC w (colsV cs ags)) := by
  have HH := Kept.mk H1
  obtain ⟨A, c, rfl, hlc, _⟩ := H1
  obtain ⟨B, d, rfl, hld, hA⟩ := H2
  have HA := Kept.mk hA
  clear hA hlc hld
  go_enter Tryz.func14, Tryz.ntmps14
  go_wp2_with fail
  go_at_call 25
  refine (cMay_any A cs.length c cs _ HH.out (fun _ _ => trivial)).mono ?_
  rintro e w1 ⟨rfl, hb1⟩
  obtain ⟨r1, d1, rfl⟩ := xw_of hb1
  clear hb1
  cases m1 : mayC cs with
  | false =>
    have hv : Kept (colsV cs ags = ([], 17)) := ⟨colsV_no m1⟩
    go_wp2_with fail
    go_returns
    rw [hv.out]
    exact ⟨_, rfl, OwnC.nil _ _, xw_below _ _ _⟩
  | true =>
    have M1 := Kept.mk m1
    have H8 := Kept.mk (mayC_iff.1 m1).1.2
    clear m1
    by_cases c8 : 8 < ags.length
    · have hv : Kept (colsV cs ags = ([], 6)) := ⟨colsV_long M1.out c8⟩
      have c8' : 8 < (ags.length : Int) := by omega
      clear c8
      go_wp2_with fail
      go_returns
      rw [hv.out]
      exact ⟨_, rfl, OwnC.nil _ _, xw_below _ _ _⟩
    · have HL : Kept (ags.length ≤ 8) := ⟨by omega⟩
      have HV : Kept (colsV cs ags = colsL cs [] ags) := ⟨colsV_go M1.out c8⟩
      have c8' : ¬ 8 < (ags.length : Int) := by omega
      clear c8
      go_wp2_with (first
        | ((refine mk_cols (W := xw w r1 d1) rfl (.tmp 20) 23 _ rfl Tryz.underlying23 ags.length rfl rfl ?c1 ?_); (case c1 => have := HL.out; omega); intro r2 d2 hO; rewrite [xw_xw] at hO; rewrite [xw_xw]; have HO := Kept.mk (hO.mono (by rw [xw_size]; omega) : OwnC _ w.heap.size _ _); clear hO))
      go_loopw [24, 6] (fun v24 v6 wr => TcL cs ags w v24 v6 wr) (fun v24 v6 wr => ags.length - (intOf v24).toNat)
      case atStart => exact ⟨0, _, _, _, rfl, rfl, HO, ⟨TcI.start _ _⟩⟩
      case round =>
        obtain ⟨i, o, r, d', rfl, rfl, HO2, HI⟩ := hrel
        clear HO
        have HO := HO2
        clear HO2
        obtain ⟨A2, c2, rfl, _, _⟩ := id HO.out.has
        by_cases ci : i < ags.length
        · have hne : ags ≠ [] := by rintro rfl; simp at ci
          obtain ⟨b, off, rfl, hb, hc⟩ := HA.out hne
          obtain ⟨e0, e1, e2⟩ := hc i ci
          have ci' : (i : Int) < (ags.length : Int) := by omega
          have f0 : 0 ≤ (i : Int) := by omega
          have hw : wrap64 ((i : Int) + 1) = (i : Int) + 1 := by have := HL.out; simp only [wrap64]; omega
          have HCI := Kept.mk ci
          have HBAD := Kept.mk (HI.out.bad ci)
          have HTW := Kept.mk (HI.out.twice ci)
          have HNX := Kept.mk (HI.out.next ci)
          have HCOL := Kept.mk (chkT_col (cs := cs) (a := ags[i]))
          generalize ags[i] = a at e0 e1 e2 HBAD HTW HNX HCOL
          obtain ⟨k, n, s⟩ := a
          dsimp only at e0 e1 e2
          clear hc hne ci
          obtain ⟨ce, hce⟩ : ∃ ce, ce = chkT cs ⟨k, n, s⟩ := ⟨_, rfl⟩
          have HCE := Kept.mk hce.symm
          clear hce
          by_cases cz : ce = 0
          · subst cz
            by_cases cx : 0 ≤ idx o s
            · have hv : Kept (colsV cs ags = ([], 9)) := ⟨by rw [HV.out]; exact HTW.out HCE.out cx⟩
              go_wp2_with (first | (go_at_call 26; refine (tcheck_any _ cs ⟨_, _, _⟩ _ ?q H8.out).mono ?_; (case q => exact HH.out.to (by (repeat' (first | (with_reducible exact Below.refl _ _) | (with_reducible assumption) | (with_reducible refine below_xw ?_ ?_ _ _) | (with_reducible refine below_drewN ?_ _) | (with_reducible refine Below.drew ?_) | (with_reducible refine Below.setCell ?_ ?_ _) | (with_reducible refine Below.alloc ?_ ?_ _) | (simp [xw_size]; done) | (simp [xw_size]; omega) | (dsimp only; omega))))); rintro e w1 ⟨rfl, hb1⟩; obtain ⟨r1, d1, rfl⟩ := xw_of hb1; clear hb1; rewrite [HCE.out]) | (go_at_call 27; refine (cIndex_any A2 o.length c2 o s _ ?q (by have h1 := HI.out.1; have h2 := HI.out.2.1; have := HL.out; omega)).mono ?_; (case q => exact HO.out.has.to (by (repeat' (first | (with_reducible exact Below.refl _ _) | (with_reducible assumption) | (with_reducible refine below_xw ?_ ?_ _ _) | (with_reducible refine below_drewN ?_ _) | (with_reducible refine Below.drew ?_) | (with_reducible refine Below.setCell ?_ ?_ _) | (with_reducible refine Below.alloc ?_ ?_ _) | (simp [xw_size]; done) | (simp [xw_size]; omega) | (dsimp only; omega))))); rintro e w2 ⟨rfl, hb2⟩; obtain ⟨r2, d2, rfl⟩ := xw_of hb2; clear hb2))
              go_returns
              rw [hv.out]
              exact ⟨_, rfl, OwnC.nil _ _, by (repeat' (first | (with_reducible exact Below.refl _ _) | (with_reducible assumption) | (with_reducible refine below_xw ?_ ?_ _ _) | (with_reducible refine below_drewN ?_ _) | (with_reducible refine Below.drew ?_) | (with_reducible refine Below.setCell ?_ ?_ _) | (with_reducible refine Below.alloc ?_ ?_ _) | (simp [xw_size]; done) | (simp [xw_size]; omega) | (dsimp only; omega)))⟩
            · have HN1 := Kept.mk (HNX.out HCE.out cx)
              by_cases c3 : k = 3
              · have hmn := HCOL.out HCE.out (by simp only; omega)
                dsimp only at hmn
                obtain ⟨m, rfl⟩ := Int.eq_ofNat_of_zero_le hmn.1
                obtain ⟨bc, oc, rfl, hbc, ec⟩ := HH.out.kind (show m < cs.length by omega)
                have hct : colT cs ⟨k, (m : Int), s⟩ = ⟨s, kAt cs (m : Int)⟩ := by unfold colT; rw [if_pos (by simp only; omega)]
                have HN2 := HN1.out
                rw [hct] at HN2
                generalize kAt cs (m : Int) = q at ec HN2
                have HN3 := Kept.mk HN2
                have c4' : (m : Int) < (cs.length : Int) := by omega
                have f1 : 0 ≤ (m : Int) := by omega
                subst c3
                clear hct HN2 HN1 hmn
                go_wp2_with (first | (go_at_call 26; refine (tcheck_any _ cs ⟨_, _, _⟩ _ ?q H8.out).mono ?_; (case q => exact HH.out.to (by (repeat' (first | (with_reducible exact Below.refl _ _) | (with_reducible assumption) | (with_reducible refine below_xw ?_ ?_ _ _) | (with_reducible refine below_drewN ?_ _) | (with_reducible refine Below.drew ?_) | (with_reducible refine Below.setCell ?_ ?_ _) | (with_reducible refine Below.alloc ?_ ?_ _) | (simp [xw_size]; done) | (simp [xw_size]; omega) | (dsimp only; omega))))); rintro e w1 ⟨rfl, hb1⟩; obtain ⟨r1, d1, rfl⟩ := xw_of hb1; clear hb1; rewrite [HCE.out]) | (go_at_call 27; refine (cIndex_any A2 o.length c2 o s _ ?q (by have h1 := HI.out.1; have h2 := HI.out.2.1; have := HL.out; omega)).mono ?_; (case q => exact HO.out.has.to (by (repeat' (first | (with_reducible exact Below.refl _ _) | (with_reducible assumption) | (with_reducible refine below_xw ?_ ?_ _ _) | (with_reducible refine below_drewN ?_ _) | (with_reducible refine Below.drew ?_) | (with_reducible refine Below.setCell ?_ ?_ _) | (with_reducible refine Below.alloc ?_ ?_ _) | (simp [xw_size]; done) | (simp [xw_size]; omega) | (dsimp only; omega))))); rintro e w2 ⟨rfl, hb2⟩; obtain ⟨r2, d2, rfl⟩ := xw_of hb2; clear hb2) | ((at_builtin); refine app_col3 (w0 := w) rfl (.tmp 57) (.tmp 59) 23 rfl Tryz.underlying23 _ o s q _ ?c1 rfl rfl ?c2 ?c3 (by have h1 := HI.out.1; have h2 := HI.out.2.1; have := HL.out; omega) ?_; (case c1 => simp [World.size_alloc]); (case c2 => exact OwnC.below HO.out (by (repeat' (first | (with_reducible exact Below.refl _ _) | (with_reducible assumption) | (with_reducible refine below_xw ?_ ?_ _ _) | (with_reducible refine below_drewN ?_ _) | (with_reducible refine Below.drew ?_) | (with_reducible refine Below.setCell ?_ ?_ _) | (with_reducible refine Below.alloc ?_ ?_ _) | (simp [xw_size]; done) | (simp [xw_size]; omega) | (dsimp only; omega))))); (case c3 => (repeat' (first | (with_reducible exact Below.refl _ _) | (with_reducible assumption) | (with_reducible refine below_xw ?_ ?_ _ _) | (with_reducible refine below_drewN ?_ _) | (with_reducible refine Below.drew ?_) | (with_reducible refine Below.setCell ?_ ?_ _) | (with_reducible refine Below.alloc ?_ ?_ _) | (simp [xw_size]; done) | (simp [xw_size]; omega) | (dsimp only; omega)))); intro v1 r3 d3 hO _; have HO1 := Kept.mk hO; clear hO))
                exact ⟨⟨i + 1, _, _, _, by first | rfl | (rw [hw]; rfl), rfl, HO1, ⟨HN3.out⟩⟩, by first | exact less_step hw HCI.out | exact less_bare' HCI.out⟩
              · by_cases c4 : k = 4
                · have hmn := HCOL.out HCE.out (by simp only; omega)
                  dsimp only at hmn
                  obtain ⟨m, rfl⟩ := Int.eq_ofNat_of_zero_le hmn.1
                  obtain ⟨bc, oc, rfl, hbc, ec⟩ := HH.out.kind (show m < cs.length by omega)
                  have hct : colT cs ⟨k, (m : Int), s⟩ = ⟨s, kAt cs (m : Int)⟩ := by unfold colT; rw [if_pos (by simp only; omega)]
                  have HN2 := HN1.out
                  rw [hct] at HN2
                  generalize kAt cs (m : Int) = q at ec HN2
                  have HN3 := Kept.mk HN2
                  have c4' : (m : Int) < (cs.length : Int) := by omega
                  have f1 : 0 ≤ (m : Int) := by omega
                  clear c3
                  subst c4
                  clear hct HN2 HN1 hmn
                  go_wp2_with (first | (go_at_call 26; refine (tcheck_any _ cs ⟨_, _, _⟩ _ ?q H8.out).mono ?_; (case q => exact HH.out.to (by (repeat' (first | (with_reducible exact Below.refl _ _) | (with_reducible assumption) | (with_reducible refine below_xw ?_ ?_ _ _) | (with_reducible refine below_drewN ?_ _) | (with_reducible refine Below.drew ?_) | (with_reducible refine Below.setCell ?_ ?_ _) | (with_reducible refine Below.alloc ?_ ?_ _) | (simp [xw_size]; done) | (simp [xw_size]; omega) | (dsimp only; omega))))); rintro e w1 ⟨rfl, hb1⟩; obtain ⟨r1, d1, rfl⟩ := xw_of hb1; clear hb1; rewrite [HCE.out]) | (go_at_call 27; refine (cIndex_any A2 o.length c2 o s _ ?q (by have h1 := HI.out.1; have h2 := HI.out.2.1; have := HL.out; omega)).mono ?_; (case q => exact HO.out.has.to (by (repeat' (first | (with_reducible exact Below.refl _ _) | (with_reducible assumption) | (with_reducible refine below_xw ?_ ?_ _ _) | (with_reducible refine below_drewN ?_ _) | (with_reducible refine Below.drew ?_) | (with_reducible refine Below.setCell ?_ ?_ _) | (with_reducible refine Below.alloc ?_ ?_ _) | (simp [xw_size]; done) | (simp [xw_size]; omega) | (dsimp only; omega))))); rintro e w2 ⟨rfl, hb2⟩; obtain ⟨r2, d2, rfl⟩ := xw_of hb2; clear hb2) | ((at_builtin); refine app_col3 (w0 := w) rfl (.tmp 57) (.tmp 59) 23 rfl Tryz.underlying23 _ o s q _ ?c1 rfl rfl ?c2 ?c3 (by have h1 := HI.out.1; have h2 := HI.out.2.1; have := HL.out; omega) ?_; (case c1 => simp [World.size_alloc]); (case c2 => exact OwnC.below HO.out (by (repeat' (first | (with_reducible exact Below.refl _ _) | (with_reducible assumption) | (with_reducible refine below_xw ?_ ?_ _ _) | (with_reducible refine below_drewN ?_ _) | (with_reducible refine Below.drew ?_) | (with_reducible refine Below.setCell ?_ ?_ _) | (with_reducible refine Below.alloc ?_ ?_ _) | (simp [xw_size]; done) | (simp [xw_size]; omega) | (dsimp only; omega))))); (case c3 => (repeat' (first | (with_reducible exact Below.refl _ _) | (with_reducible assumption) | (with_reducible refine below_xw ?_ ?_ _ _) | (with_reducible refine below_drewN ?_ _) | (with_reducible refine Below.drew ?_) | (with_reducible refine Below.setCell ?_ ?_ _) | (with_reducible refine Below.alloc ?_ ?_ _) | (simp [xw_size]; done) | (simp [xw_size]; omega) | (dsimp only; omega)))); intro v1 r3 d3 hO _; have HO1 := Kept.mk hO; clear hO))
                  exact ⟨⟨i + 1, _, _, _, by first | rfl | (rw [hw]; rfl), rfl, HO1, ⟨HN3.out⟩⟩, by first | exact less_step hw HCI.out | exact less_bare' HCI.out⟩
                · have hct : colT cs ⟨k, n, s⟩ = ⟨s, 1⟩ := by unfold colT; rw [if_neg (by simp only; omega)]
                  have HN2 := HN1.out
                  rw [hct] at HN2
                  have HN3 := Kept.mk HN2
                  have d3 : (k == 3) = false := by simp [c3]
                  have d4 : (k == 4) = false := by simp [c4]
                  clear hct HN2 HN1 c3 c4
                  go_wp2_with (first | (go_at_call 26; refine (tcheck_any _ cs ⟨_, _, _⟩ _ ?q H8.out).mono ?_; (case q => exact HH.out.to (by (repeat' (first | (with_reducible exact Below.refl _ _) | (with_reducible assumption) | (with_reducible refine below_xw ?_ ?_ _ _) | (with_reducible refine below_drewN ?_ _) | (with_reducible refine Below.drew ?_) | (with_reducible refine Below.setCell ?_ ?_ _) | (with_reducible refine Below.alloc ?_ ?_ _) | (simp [xw_size]; done) | (simp [xw_size]; omega) | (dsimp only; omega))))); rintro e w1 ⟨rfl, hb1⟩; obtain ⟨r1, d1, rfl⟩ := xw_of hb1; clear hb1; rewrite [HCE.out]) | (go_at_call 27; refine (cIndex_any A2 o.length c2 o s _ ?q (by have h1 := HI.out.1; have h2 := HI.out.2.1; have := HL.out; omega)).mono ?_; (case q => exact HO.out.has.to (by (repeat' (first | (with_reducible exact Below.refl _ _) | (with_reducible assumption) | (with_reducible refine below_xw ?_ ?_ _ _) | (with_reducible refine below_drewN ?_ _) | (with_reducible refine Below.drew ?_) | (with_reducible refine Below.setCell ?_ ?_ _) | (with_reducible refine Below.alloc ?_ ?_ _) | (simp [xw_size]; done) | (simp [xw_size]; omega) | (dsimp only; omega))))); rintro e w2 ⟨rfl, hb2⟩; obtain ⟨r2, d2, rfl⟩ := xw_of hb2; clear hb2) | ((at_builtin); refine app_col3 (w0 := w) rfl (.tmp 57) (.tmp 59) 23 rfl Tryz.underlying23 _ o s 1 _ ?c1 rfl rfl ?c2 ?c3 (by have h1 := HI.out.1; have h2 := HI.out.2.1; have := HL.out; omega) ?_; (case c1 => simp [World.size_alloc]); (case c2 => exact OwnC.below HO.out (by (repeat' (first | (with_reducible exact Below.refl _ _) | (with_reducible assumption) | (with_reducible refine below_xw ?_ ?_ _ _) | (with_reducible refine below_drewN ?_ _) | (with_reducible refine Below.drew ?_) | (with_reducible refine Below.setCell ?_ ?_ _) | (with_reducible refine Below.alloc ?_ ?_ _) | (simp [xw_size]; done) | (simp [xw_size]; omega) | (dsimp only; omega))))); (case c3 => (repeat' (first | (with_reducible exact Below.refl _ _) | (with_reducible assumption) | (with_reducible refine below_xw ?_ ?_ _ _) | (with_reducible refine below_drewN ?_ _) | (with_reducible refine Below.drew ?_) | (with_reducible refine Below.setCell ?_ ?_ _) | (with_reducible refine Below.alloc ?_ ?_ _) | (simp [xw_size]; done) | (simp [xw_size]; omega) | (dsimp only; omega)))); intro v1 r3 d3 hO _; have HO1 := Kept.mk hO; clear hO))
                  exact ⟨⟨i + 1, _, _, _, by first | rfl | (rw [hw]; rfl), rfl, HO1, ⟨HN3.out⟩⟩, by first | exact less_step hw HCI.out | exact less_bare' HCI.out⟩
          · have hv : Kept (colsV cs ags = ([], ce)) := ⟨by rw [HV.out, ← HCE.out]; exact HBAD.out (by rw [HCE.out]; exact cz)⟩
            have dz : (ce != 0) = true := by simp [cz]
            clear cz
            go_wp2_with (first | (go_at_call 26; refine (tcheck_any _ cs ⟨_, _, _⟩ _ ?q H8.out).mono ?_; (case q => exact HH.out.to (by (repeat' (first | (with_reducible exact Below.refl _ _) | (with_reducible assumption) | (with_reducible refine below_xw ?_ ?_ _ _) | (with_reducible refine below_drewN ?_ _) | (with_reducible refine Below.drew ?_) | (with_reducible refine Below.setCell ?_ ?_ _) | (with_reducible refine Below.alloc ?_ ?_ _) | (simp [xw_size]; done) | (simp [xw_size]; omega) | (dsimp only; omega))))); rintro e w1 ⟨rfl, hb1⟩; obtain ⟨r1, d1, rfl⟩ := xw_of hb1; clear hb1; rewrite [HCE.out]))
            go_returns
            rw [hv.out]
            exact ⟨_, rfl, OwnC.nil _ _, by (repeat' (first | (with_reducible exact Below.refl _ _) | (with_reducible assumption) | (with_reducible refine below_xw ?_ ?_ _ _) | (with_reducible refine below_drewN ?_ _) | (with_reducible refine Below.drew ?_) | (with_reducible refine Below.setCell ?_ ?_ _) | (with_reducible refine Below.alloc ?_ ?_ _) | (simp [xw_size]; done) | (simp [xw_size]; omega) | (dsimp only; omega)))⟩
        · have hv : Kept (colsV cs ags = (o, 0)) := ⟨by rw [HV.out]; exact HI.out.done ci⟩
          have ci' : ¬ ((i : Int) < (ags.length : Int)) := by omega
          clear ci
          go_wp2_with fail
          go_returns
          rw [hv.out]
          exact ⟨_, rfl, HO.out, xw_below _ _ _⟩
end Go.Proofs.YtnidaahimofppaaGreat
