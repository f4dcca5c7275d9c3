/- Layer 26 (tally): Put, walked (no extremes, no leans). -/
import Derived.Test.YtnidaahimofppaaGreatQpbd
import Derived.Test.YtnidaahimofppaaGreatQpbe
import Derived.Deep.CutBlock
namespace Go.Proofs.YtnidaahimofppaaGreat
open Go.RowKit Go.Maps
set_option linter.unusedVariables false
set_option linter.unusedSimpArgs false

def MapP (w2 : World) (B B1 g gm : Nat) (sv av pv : Value) (ts : List Trd) (cs : List Cl) (ags : List Vr) (m : List UInt8 → Int) (nm : Nat) (cnt : Int) (wx : World) : Prop := TalIn wx B B1 g gm sv av pv ts cs ags m nm cnt ∧ w2.grownBy wx (some gm)
/-- (288: the program's types and the model's own bound, counted.) -/
theorem nilA (W : World) (g5 : Nat) : (nilAhead 306 77 (.pointer (some ⟨g5, 0, none⟩)) "rescind/tally.put").run Tryz.prog W = .ok (some false) W := by kernel_rfl
theorem nilB (W : World) (g5 : Nat) : (nilAhead 306 80 (.pointer (some ⟨g5, 0, none⟩)) "rescind/tally.put").run Tryz.prog W = .ok (some false) W := by kernel_rfl
theorem nilD (W : World) (g5 : Nat) : (nilAhead 306 86 (.pointer (some ⟨g5, 0, none⟩)) "rescind/tally.put").run Tryz.prog W = .ok (some false) W := by kernel_rfl
theorem nilE (W : World) (g5 : Nat) : (nilAhead 306 92 (.pointer (some ⟨g5, 0, none⟩)) "rescind/tally.put").run Tryz.prog W = .ok (some false) W := by kernel_rfl
theorem nilC (W : World) : (nilAhead 306 98 (.agg #[]) "rescind/tally.put").run Tryz.prog W = .ok (some false) W := by kernel_rfl
theorem mix_tl {r : List Vr} {n : Int} {ags : List Vr} {ps : List Pt} {ts : List Trd} {i : Nat} (hl : ags.length = ps.length) (hi : i ≤ ps.length) (h : ts.map (·.2.2) = mixP r n ags ps i) : ts.length = ps.length := by
  have h1 := congrArg List.length h
  rw [List.length_map, mixP_len hl i hi] at h1
  exact h1
theorem mix_at {r : List Vr} {n : Int} {ags : List Vr} {ps : List Pt} {ts : List Trd} {i : Nat} (hl : ags.length = ps.length) (hi : i < ps.length) (h : ts.map (·.2.2) = mixP r n ags ps i) (ht : i < ts.length) : (ts[i]'ht).2.2 = ps[i] := by
  have h1 := mixP_at (r := r) (n := n) hl hi
  rw [← h, List.getElem?_map, List.getElem?_eq_getElem ht] at h1
  simpa using h1
theorem row_at {w : World} {B : Nat} {Ap : Option Addr} {N cp : Nat} {tz : List Trd} {i : Nat} (h : Own w B 62 (.slice Ap N cp) (tz.map (·.1))) (ht : i < tz.length) : ∃ g6, Ap = some ⟨g6, 0, none⟩ ∧ w.cell? ⟨g6, i, none⟩ = some (tz[i]'ht).1 := by
  rcases h.cells with ⟨_, h⟩ | ⟨g6, c6, hpv, _, _, _, _, hcell⟩
  · rw [List.map_eq_nil_iff] at h
    subst h
    simp at ht
  · injection hpv with h1 _ _
    refine ⟨g6, h1, ?_⟩
    rw [hcell i (by simpa using ht)]
    simp [ht]
theorem val_at {w wr : World} {b off cr : Nat} {r : List Vr} {c : Int} (HR : HasR w w.heap.size (.slice (some ⟨b, off, none⟩) r.length cr) r) (hr : RngR r) (hk : wr.heap[b]? = w.heap[b]?) (h0 : 0 ≤ c) (h1 : c < r.length) :
    ∃ x : Vr, valAt r c = x ∧ okH x.n ∧ ∃ j : Nat, c = (j : Int) ∧ j < r.length ∧ wr.cell? ⟨b, off + j * 3, none⟩ = some (.int .i64 x.k) ∧ wr.cell? ⟨b, off + j * 3 + 1, none⟩ = some (.int .i64 x.n) ∧ wr.cell? ⟨b, off + j * 3 + 2, none⟩ = some (.string x.s) := by
  obtain ⟨j, rfl⟩ := Int.eq_ofNat_of_zero_le h0
  have hjl : j < r.length := by omega
  obtain ⟨b9, off9, h9, _, hcr⟩ := HR.opn.2.2 (by rintro rfl; simp at hjl)
  injection h9 with h9
  injection h9 with h9 h9b _
  subst h9 h9b
  obtain ⟨q0, q1, q2⟩ := hcr j hjl
  refine ⟨r[j], ?_, hr _ (List.getElem_mem hjl), j, rfl, hjl, (World.cell?_of_block hk).trans q0, (World.cell?_of_block hk).trans q1, (World.cell?_of_block hk).trans q2⟩
  simp [valAt, hjl]
theorem key_of (S : ByteArray) (h : S.size ≤ 601) : keyOf Tryz.prog 9 (.string S) = some (.string (tx S)) := WideMaps.keyOf_string_mk Tryz.underlying9 (by simp only [maxLen]; omega)
set_option maxRecDepth 100000 in
set_option maxHeartbeats 4000000 in
theorem tPut_any (w : World) (B g : Nat) (F D : List Nat) (cs : List Cl) (ags : List Vr) (ps : List Pt) (m : List UInt8 → Int) (nm : Nat) (cnt : Int) (v : Value) (r : List Vr) (n : Int)
    (H : TalFt w B g F D cs ags ps m nm cnt) (HR : HasS w B v r) (hr : RngR r) (hs : ∀ p ∈ ps, okPt nm p) (hl : ags.length = ps.length) (hl8 : ps.length ≤ 8) (hc : ∀ a ∈ ags, 0 ≤ a.n ∧ a.n < cs.length)
    (hnm : nm ≤ 900) (hm : ∀ k, -((nm : Int) * 1048576) ≤ m k ∧ m k ≤ (nm : Int) * 1048576) (hcn : -((nm : Int) * 1048576) ≤ cnt ∧ cnt ≤ (nm : Int) * 1048576) (hn : -9223372036854775808 ≤ n ∧ n ≤ 9223372036854775807) :
    Calls Tryz.prog 7 #[.pointer (some ⟨g, 0, none⟩), v, .int .i64 n] w (TPutP w B g F D cs ags ps m nm cnt r n) := by
  obtain ⟨B1, gm, sv, av, pv, ts, HT, HP, rfl, rfl⟩ := H
  have HT := Kept.mk HT
  have HP := Kept.mk HP
  have HR2 := Kept.mk HR.2
  have HR1 := Kept.mk HR.1
  have HRR := Kept.mk hr
  have HSI := Kept.mk hs
  have HL := Kept.mk (And.intro hl hl8)
  have HCC := Kept.mk hc
  have HNM := Kept.mk hnm
  have HMB := Kept.mk hm
  have HCN := Kept.mk hcn
  have HB1 : Kept (B ≤ w.heap.size ∧ B1 ≤ w.heap.size) := ⟨by have h1 := HT.out.base; have h2 := HT.out.gB; have h3 := HT.out.lt; omega⟩
  obtain ⟨Ap, cp, rfl⟩ := HT.out.row.slice
  obtain ⟨A3, c3, rfl, _, _⟩ := id HT.out.agg
  obtain ⟨e0, e1, e2, e3, e4⟩ := box5 HT.out.box
  have hgl := HT.out.lt
  clear HR hr hs hl hl8 hc hnm hm
  cases hfit : fitsC cs r with
  | false =>
    have hv := errT_17 (m := m) (cnt := cnt) (n := n) hfit
    have HF := Kept.mk hfit
    have HV := Kept.mk hv
    clear hfit hv
    go_enter Tryz.func7, Tryz.ntmps7
    go_wp2_with (first | (go_at_call 21; refine (cFits_any sv _ cs r w (HT.out.sch.up HB1.out.2) HR1.out).mono ?_; rintro e w1 ⟨rfl, hb1⟩; rewrite [HF.out]; have HBB := Kept.mk hb1; clear hb1))
    go_returns
    refine ⟨by rw [HV.out]; rfl, Chg.of HBB.out, fun _ => ⟨_, _, _, _, _, _, HT.out.below HBB.out, HP.out, rfl, rfl⟩, fun h => absurd h (by rw [HV.out]; decide)⟩
  | true =>
    have HF := Kept.mk hfit
    clear hfit
    by_cases c2 : 1048576 < n ∨ n < -1048576
    · have HV := Kept.mk (errT_2 (m := m) (cnt := cnt) HF.out c2)
      by_cases c2a : 1048576 < n
      · clear c2
        go_enter Tryz.func7, Tryz.ntmps7
        go_wp2_with (first | (go_at_call 21; refine (cFits_any sv _ cs r w (HT.out.sch.up HB1.out.2) HR1.out).mono ?_; rintro e w1 ⟨rfl, hb1⟩; rewrite [HF.out]; have HBB := Kept.mk hb1; clear hb1))
        go_returns
        refine ⟨by rw [HV.out]; rfl, Chg.of HBB.out, fun _ => ⟨_, _, _, _, _, _, HT.out.below HBB.out, HP.out, rfl, rfl⟩, fun h => absurd h (by rw [HV.out]; decide)⟩
      · have c2b : n < -1048576 := by omega
        clear c2
        go_enter Tryz.func7, Tryz.ntmps7
        go_wp2_with (first | (go_at_call 21; refine (cFits_any sv _ cs r w (HT.out.sch.up HB1.out.2) HR1.out).mono ?_; rintro e w1 ⟨rfl, hb1⟩; rewrite [HF.out]; have HBB := Kept.mk hb1; clear hb1))
        go_returns
        refine ⟨by rw [HV.out]; rfl, Chg.of HBB.out, fun _ => ⟨_, _, _, _, _, _, HT.out.below HBB.out, HP.out, rfl, rfl⟩, fun h => absurd h (by rw [HV.out]; decide)⟩
    · have c2a : ¬ 1048576 < n := by omega
      have c2b : ¬ n < -1048576 := by omega
      have HN2 := Kept.mk c2
      clear c2
      obtain ⟨hrl, hc1, hc8, hmc⟩ := fits_len HF.out
      obtain ⟨b, off, cr, rfl, hbl, hap⟩ := HR2.out (by rintro rfl; simp at hrl; omega)
      have HFL := Kept.mk (And.intro hrl (And.intro hc1 hc8))
      have HAP := Kept.mk (And.intro hbl hap)
      clear hrl hc1 hc8 hmc hbl hap
      obtain ⟨mk, hmk⟩ : ∃ mk, mk = m (keyR r) := ⟨_, rfl⟩
      have HMK := Kept.mk hmk.symm
      have hmb : -((nm : Int) * 1048576) ≤ mk ∧ mk ≤ (nm : Int) * 1048576 := by rw [hmk]; exact HMB.out _
      obtain ⟨S, hS⟩ : ∃ S, S = strOfNums (bytesR r) := ⟨_, rfl⟩
      have HKY : Kept (keyR r = tx S) := ⟨by rw [hS]; rfl⟩
      have HSZ : Kept (S.size ≤ 601) := ⟨by
        rw [hS, ← tx_len]
        have h := bytesR_len r HRR.out
        simp only [tx, strOfNums, List.length_map]
        simpa using h⟩
      have HSE := Kept.mk hS.symm
      have hkey := key_of S HSZ.out
      have hw1 : wrap64 (mk + n) = mk + n := by have := HNM.out; simp only [wrap64]; omega
      have HW1 := Kept.mk hw1
      have hw2 : wrap64 (cnt + n) = cnt + n := by have := HNM.out; have := HCN.out; simp only [wrap64]; omega
      have HKK := Kept.mk hkey
      clear hmk hS hkey
      go_enter Tryz.func7, Tryz.ntmps7
      go_upto_block 1 with (first
        | (go_at_call 21; refine (cFits_any sv _ cs r w (HT.out.sch.up HB1.out.2) HR1.out).mono ?_; rintro e w1 ⟨rfl, hb1⟩; rewrite [HF.out]; have HBB := Kept.mk hb1; clear hb1)
        | (go_at_call 22; refine (Key_any _ r HRR.out _ (HR1.out.to HBB.out)).mono ?_; rintro e w2 ⟨rfl, hb2⟩; have HB2 := Kept.mk (HBB.out.trans (hb2.mono HBB.out.size)); rewrite [HSE.out]; have HT2 := Kept.mk (HT.out.below HB2.out); clear hb2; have e3 := (box5 HT2.out.box).2.2.2.1; have e4 := (box5 HT2.out.box).2.2.2.2; obtain ⟨D, hown, hIM, hat0⟩ := HT2.out.map.look; have HOWN := Kept.mk hown; have HIM := Kept.mk hIM; have HAT := Kept.mk hat0; clear hown hIM hat0)
        | (at_lookup; refine wpList_lookup_own_int _ rfl _ _ 57 rfl 9 3 .i64 strKey Tryz.underlying57 Tryz.underlying3 (zeroI _) gm nm D rfl HOWN.out _ _ rfl HKK.out ?_; intro c hat hwc; (obtain rfl : mk = c := by have h := HAT.out (tx S); rw [hat, ← HKY.out, HMK.out] at h; simpa using h.symm)))
      clear e0 e1 e2
      go_cut [8] (fun sx wx => MapP w2 B B1 g gm sv (.slice A3 ags.length c3) (.slice Ap (ts.map (·.1)).length cp) ts cs ags (updM m (keyR r) (mk + n)) (nm + 1) cnt wx ∧ errT cs m cnt r n = 0)
      case first =>
        by_cases c3 : mk + n < 0
        · have HV := Kept.mk (errT_20 (m := m) (cnt := cnt) HF.out HN2.out (by rw [HMK.out]; exact c3))
          go_wp2_with fail
          go_returns
          refine ⟨by rw [HV.out]; rfl, Chg.of HB2.out, fun _ => ⟨_, _, _, _, _, _, HT2.out, HP.out, rfl, by first | rfl | rw [List.length_map]⟩, fun h => absurd h (by rw [HV.out]; decide)⟩
        by_cases c4 : 1048576 < cnt + n
        · have HV := Kept.mk (errT_7 (m := m) (cnt := cnt) HF.out HN2.out (by rw [HMK.out]; exact c3) c4)
          go_wp2_with fail
          go_returns
          refine ⟨by rw [HV.out]; rfl, Chg.of HB2.out, fun _ => ⟨_, _, _, _, _, _, HT2.out, HP.out, rfl, by first | rfl | rw [List.length_map]⟩, fun h => absurd h (by rw [HV.out]; decide)⟩
        have HV := Kept.mk (errT_0 (m := m) (cnt := cnt) HF.out HN2.out (by rw [HMK.out]; exact c3) c4)
        by_cases c5 : mk + n = 0
        · have c5' : (mk + n == 0) = true := by simp [c5]
          have HC5 := Kept.mk c5
          clear c5
          go_wp2_with (first
            | (at_delete; refine wpList_delete_own _ rfl (.tmp 62) (.tmp 63) 57 9 rfl 3 strKey Tryz.underlying57 _ gm nm D rfl HOWN.out _ _ rfl HKK.out ?_; intro w3 hown3 ht3; have HM3 := Kept.mk (And.intro hown3 ht3.grown); clear hown3 ht3))
          go_meet
          refine ⟨⟨HT2.out.mapped HM3.out.2 ?_, HM3.out.2⟩, HV.out⟩
          have h := MapIs.del HAT.out (keyR r) (by rw [HKY.out]; exact HM3.out.1)
          rw [HC5.out]
          exact h.mono (by omega)
        · have c5' : (mk + n == 0) = false := by simp [c5]
          have hwf : (Lit.int IntKind.i64 (mk + n)).wf = true := by
            have h1 := HNM.out
            simp [Lit.wf, IntKind.min, IntKind.max, IntKind.signed, IntKind.bits]
            omega
          have HWF := Kept.mk hwf
          clear hwf c5
          go_wp2_with (first
            | (at_mapUpdate; refine wpList_mapUpdate_own _ rfl (.tmp 42) (.tmp 43) (.tmp 44) 57 rfl 9 3 strKey Tryz.underlying57 _ gm nm D rfl HOWN.out (by have := HNM.out; simp only [maxLen]; omega) _ _ _ rfl rfl HKK.out _ [] (plainElem_int Tryz.underlying3 ?c7) ?_; (case c7 => first | exact HWF.out | (rw [HW1.out]; exact HWF.out)); intro w3 hown3 ht3; (try rewrite [HW1.out] at hown3); have HM3 := Kept.mk (And.intro hown3 ht3); clear hown3 ht3))
          go_meet
          refine ⟨⟨HT2.out.mapped HM3.out.2 ?_, HM3.out.2⟩, HV.out⟩
          exact MapIs.put HIM.out HAT.out (keyR r) (mk + n) (by rw [HKY.out]; exact HM3.out.1)
      case rest =>
        obtain ⟨⟨hT3, hg3⟩, hv0⟩ := hcut
        have HT3 := Kept.mk hT3
        have HG3 := Kept.mk hg3
        have HV0 := Kept.mk hv0
        obtain ⟨f0, f1, f2, f3, f4⟩ := box5 HT3.out.box
        have ff := box5f HT3.out.box 4
        have HT4 := Kept.mk (HT3.out.counted (cnt + n))
        have HB4 : Kept (Chg (FW g gm ts) w (wc.setCell ⟨g, 4, none⟩ (.int .i64 (cnt + n)))) := ⟨by
          have hg := HG3.out
          have h1 : Chg [gm] w2 wc := ⟨hg.os, hg.tape, hg.output, hg.size, fun k h1 h2 => hg.block k h1 (fun e => h2 (by injection e with e; simp [e]))⟩
          exact ((Chg.of (f := FW g gm ts) HB2.out).trans h1 (fun k hk => .inl (by simp at hk; simp [FW, hk]))).set g 4 (.inl (by simp [FW])) _⟩
        have hap := HT2.out.apt (b := b) (by
          rcases HAP.out.2 with h | ⟨arr, fr, h⟩
          · exact .inl h
          · exact .inr ⟨arr, fr, (HB2.out.block b HAP.out.1).trans h⟩)
        have HBB4 : Kept ((wc.setCell ⟨g, 4, none⟩ (.int .i64 (cnt + n))).heap[b]? = w.heap[b]?) := ⟨by
          rw [heap_setCell_other _ _ _ _ hap.1, HG3.out.block b (by have := HAP.out.1; have := HB2.out.size; omega) (fun e => hap.2.1 (by injection e)), HB2.out.block b HAP.out.1]⟩
        have hgc : g < wc.heap.size := HT3.out.lt
        clear hT3 hg3 hv0 hap e3 e4 HT2 HOWN HIM HAT HB2 HBB HT3
        go_wp2_with fail
        generalize hw4 : wc.setCell ⟨g, 4, none⟩ (.int .i64 (cnt + n)) = w4 at HT4 HB4 HBB4 ⊢
        clear hw4 hw1 hw2 hmb hcn hn c2a c2b hwc hat hgc f0 f1 f2 f3 f4 ff
        have HPL : Kept (ts.length = ps.length) := ⟨by have h := congrArg List.length HP.out; simpa using h⟩
        go_loopw [77] (fun v77 wr => PuL w (FW g gm ts) B B1 g gm b sv (.slice A3 ags.length c3) (.slice Ap (ts.map (·.1)).length cp) cs ags ps (updM m (keyR r) (mk + n)) (nm + 1) (cnt + n) r n v77 wr) (fun v77 wr => ps.length - (intOf v77).toNat)
        case atStart => exact ⟨0, ts, rfl, ⟨Nat.zero_le _, HT4.out, by rw [mixP_0]; exact HP.out, ⟨HB4.out, fun k hk => .inl hk⟩, HBB4.out⟩⟩
        case round =>
          obtain ⟨i, tz, rfl, HI⟩ := hrel
          clear HT4 HB4 HBB4
          have hpl := HPL.out
          by_cases ci : i < ps.length
          · have ci' : (i : Int) < (ts.length : Int) := by omega
            have f0' : 0 ≤ (i : Int) := by omega
            have hw : wrap64 ((i : Int) + 1) = (i : Int) + 1 := by have := HL.out.2; simp only [wrap64]; omega
            have HCI := Kept.mk ci
            have htl := mix_tl HL.out.1 HI.out.1 HI.out.2.2.1
            have htz : i < tz.length := by omega
            have hal : i < ags.length := by have := HL.out.1; omega
            have HTL : Kept (∃ _ : i < tz.length, i < ags.length) := ⟨htz, hal⟩
            have htp := mix_at HL.out.1 ci HI.out.2.2.1 htz
            have hPA := (HI.out.2.1.parts _ (List.getElem_mem htz)).1
            have hok := HSI.out _ (List.getElem_mem ci)
            rw [← htp] at hok
            have hrow := row_at HI.out.2.1.row htz
            obtain ⟨g6, rfl, h6⟩ := hrow
            obtain ⟨_, _, hag⟩ := HI.out.2.1.agg.opn
            obtain ⟨b3, off3, rfl, hb3, hcl⟩ := hag (by rintro rfl; simp at hal)
            have ha1 := (hcl i hal).2.1
            obtain ⟨hn0, hn1⟩ := HCC.out _ (List.getElem_mem hal)
            have HVA := Kept.mk (val_at HR1.out HRR.out HI.out.2.2.2.2 hn0 (by rw [HFL.out.1]; exact hn1))
            obtain ⟨⟨xk, xn, xs⟩, hvx, hxo, j, hj, hjl, q0, q1, q2⟩ := HVA.out
            rw [hj] at ha1
            have HVX := Kept.mk (And.intro hvx hxo)
            have HMEM : Kept ((⟨xk, xn, xs⟩ : Vr) ∈ r) := ⟨by rw [← hvx]; exact valAt_mem hn0 (by rw [HFL.out.1]; exact hn1)⟩
            have hjl' : (j : Int) < (r.length : Int) := by omega
            have fj : 0 ≤ (j : Int) := by omega
            obtain ⟨tv, tf, tp, htt⟩ : ∃ tv tf tp, tz[i]'htz = (tv, tf, tp) := ⟨_, _, _, rfl⟩
            have HTT := Kept.mk htt
            rw [htt] at h6 hPA hok htp
            dsimp only at h6 hPA hok htp q0 q1 q2
            have HPA := Kept.mk hPA
            have HOK := Kept.mk hok
            have HTP := Kept.mk htp
            have bb := (box5 HI.out.2.1.box).2.1
            have ci2 : (i : Int) < (ags.length : Int) := by omega
            clear HVA hcl hag hpl htl hb3 hn0 hn1 hj hjl hvx hxo htt hPA hok htp
            go_upto_block 3 with fail
            go_cut [98] (fun sx wx => OneP wr tf tv (ptPut ⟨xk, xn, xs⟩ n tp) wx)
            case first =>
              cases tp with
              | cnt c =>
                obtain ⟨g5, rfl, rfl, hb5⟩ := HPA.out
                have hcb : -9223372036854775808 ≤ c + n ∧ c + n ≤ 9223372036854775807 := by
                  have h1 := HOK.out
                  have h2 := HNM.out
                  have h3 := HN2.out
                  simp only [okPt] at h1
                  omega
                have HCB := Kept.mk hcb
                have HB5 := Kept.mk hb5
                clear hcb hb5
                have hna := nilA
                go_upto_region 20 with fail
                go_region_with (first | (go_at_call 83; refine (cput_any g5 c n _ _ _ _ ?q1 HCB.out.1 HCB.out.2).mono ?_; (case q1 => exact HB5.out); rintro e w5 ⟨rfl, hb6, hc6⟩; have HB6 := Kept.mk hb6; have HC6 := Kept.mk hc6; clear hb6 hc6))
                all_goals go_wp2_with fail
                all_goals
                  go_meet
                  exact ⟨[g5], ⟨g5, rfl, rfl, HB6.out⟩, ⟨HC6.out.os, HC6.out.tape, HC6.out.output, HC6.out.size, HC6.out.block⟩, fun k hk => .inl hk⟩
              | tot T =>
                obtain ⟨g5, rfl, rfl, hT, hb5⟩ := HPA.out
                have hTT := okPt_inW (M := nm + 1) (by have := HNM.out; omega) (okPt_put (p := .tot T) (x := ⟨xk, xn, xs⟩) (n := n) HOK.out HVX.out.2 (by have := HN2.out; omega) (by have := HN2.out; omega))
                have HTT := Kept.mk (And.intro hT hTT)
                have HB5 := Kept.mk hb5
                have HOH : Kept (okH n) := ⟨by have := HN2.out; unfold okH; omega⟩
                clear hT hTT hb5
                have hna := nilB
                go_upto_region 20 with fail
                go_region_with (first | (go_at_call 86; refine (sput_any g5 T n _ xn _ _ ?q1 HTT.out.1 HOH.out HVX.out.2 HTT.out.2).mono ?_; (case q1 => exact HB5.out); rintro e w5 ⟨rfl, hb6, hc6⟩; have HB6 := Kept.mk hb6; have HC6 := Kept.mk hc6; clear hb6 hc6))
                all_goals go_wp2_with fail
                all_goals
                  go_meet
                  exact ⟨[g5], ⟨g5, rfl, rfl, HTT.out.2, HB6.out⟩, ⟨HC6.out.os, HC6.out.tape, HC6.out.output, HC6.out.size, HC6.out.block⟩, fun k hk => .inl hk⟩
              | ext last es =>
                obtain ⟨g5, g6b, ve, rfl, rfl, hb5, hM5⟩ := HPA.out
                have HB5 := Kept.mk (And.intro hb5 hM5)
                have HOV : Kept (okV ⟨xk, xn, xs⟩) := ⟨by
                  have h := fits_may HF.out ⟨xk, xn, xs⟩ HMEM.out
                  exact ⟨h, HVX.out.2.2⟩⟩
                clear hb5 hM5
                have hna := nilD
                go_upto_region 20 with fail
                go_region_with (first | (go_at_call 97; refine (xput_any g5 g6b ve es last ⟨xk, xn, xs⟩ n _ ?q1 ?q2 HOV.out).mono ?_; (case q1 => exact HB5.out.1); (case q2 => exact HB5.out.2.below (Below.refl _ _).drew); rintro e w5 ⟨rfl, hp5⟩; have HP5 := Kept.mk hp5; clear hp5))
                all_goals go_wp2_with fail
                all_goals
                  go_meet
                  exact OneP.ofExt ((Below.refl _ _).drew) HP5.out
              | sid north z =>
                obtain ⟨g5, g6b, rfl, rfl, hb5, hL5⟩ := HPA.out
                have HB5 := Kept.mk (And.intro hb5 hL5)
                have HSM : Kept (smZ (z.1 + (spinZ (xn % 4).toNat (n, 0)).1, z.2 + (spinZ (xn % 4).toNat (n, 0)).2)) := ⟨okPt_sm (M := nm + 1) (b := north) (by have := HNM.out; omega) (okPt_put (p := .sid north z) (x := ⟨xk, xn, xs⟩) (n := n) HOK.out HVX.out.2 (by have := HN2.out; omega) (by have := HN2.out; omega))⟩
                clear hb5 hL5
                have hna := nilE
                go_upto_region 20 with fail
                go_region_with (first | (go_at_call 116; refine (dput_any g5 g6b north z ⟨xk, xn, xs⟩ n _ ?q1 ?q2 (by have := HN2.out; omega) (by have := HN2.out; omega) HSM.out).mono ?_; (case q1 => exact HB5.out.1); (case q2 => exact HB5.out.2); rintro e w5 ⟨rfl, hp5⟩; have HP5 := Kept.mk hp5; clear hp5))
                all_goals go_wp2_with fail
                all_goals
                  go_meet
                  exact OneP.ofSid ((Below.refl _ _).drew) HP5.out
              | sta =>
                obtain ⟨rfl, rfl⟩ := HPA.out
                have hna := nilC
                go_upto_region 20 with fail
                go_region_with (first | (go_at_call 123; refine (staput_any n _ _ _ _).mono ?_; rintro e w5 ⟨rfl, hb6⟩; have HB6 := Kept.mk hb6; clear hb6))
                all_goals go_wp2_with fail
                all_goals
                  go_meet
                  exact ⟨[], ⟨rfl, rfl⟩, Chg.of ((Below.refl _ _).drew.trans HB6.out), fun k hk => .inl hk⟩
            case rest =>
              obtain ⟨f', hP', hC', hF'⟩ := hcut
              have HPP := Kept.mk (And.intro hP' (And.intro hC' hF'))
              clear hP' hC' hF' bb h6 ha1 q0 q1 q2
              go_wp2_with fail
              have hpv : ptPut ⟨xk, xn, xs⟩ n tp = ptPut (valAt r (ags[i]'HTL.out.2).n) n (ps[i]'HCI.out) := by rw [HVX.out.1, HTP.out]
              have hT5 := HI.out.2.1.upd (i := i) HTL.out.1 (v := tv) (f' := f') (p' := ptPut ⟨xk, xn, xs⟩ n tp) (by rw [HTT.out]) (by rw [HTT.out]; exact HPP.out.2.1) HPP.out.1 (by rw [HTT.out]; exact HPP.out.2.2)
              have hap := HI.out.2.1.apt (b := b) (by
                rcases HAP.out.2 with h | ⟨arr, fr, h⟩
                · exact .inl h
                · exact .inr ⟨arr, fr, HI.out.2.2.2.2.trans h⟩)
              have hnf : b ∉ tf := by
                have h := hap.2.2 _ (List.getElem_mem HTL.out.1)
                rw [HTT.out] at h
                exact h
              have hfB : ∀ k ∈ tf, B ≤ k := fun k hk => by
                have h := (HI.out.2.1.parts _ (List.getElem_mem HTL.out.1)).2 k (by rw [HTT.out]; exact hk)
                have := HI.out.2.1.base
                omega
              have hBw : B ≤ wr.heap.size := by have h1 := HI.out.2.1.base; have h2 := HI.out.2.1.gB; have h3 := HI.out.2.1.lt; omega
              have hbw : b < wr.heap.size := by
                have h1 := HAP.out.1
                have h2 := HI.out.2.2.2.2
                rw [Array.getElem?_eq_getElem h1] at h2
                exact (Array.getElem?_eq_some_iff.1 h2).1
              refine ⟨⟨i + 1, tz.set i (tv, f', ptPut ⟨xk, xn, xs⟩ n tp), by first | rfl | (rw [hw]; rfl), ⟨HCI.out, hT5, ?_, ⟨HI.out.2.2.2.1.1.trans HPP.out.2.1 (fun k hk => HI.out.2.2.2.1.2 k (FW_part (List.getElem_mem HTL.out.1) (by rw [HTT.out]; exact hk))), fun k hk => (FW_set hk).elim (HI.out.2.2.2.1.2 k) (fun hk => (HPP.out.2.2 k hk).elim (fun hk => HI.out.2.2.2.1.2 k (FW_part (List.getElem_mem HTL.out.1) (by rw [HTT.out]; exact hk))) (fun hk => .inr (Nat.le_trans HI.out.2.2.2.1.1.size hk)))⟩, (HPP.out.2.1.block b hbw hnf).trans HI.out.2.2.2.2⟩⟩, by first | exact less_step hw HCI.out | exact less_bare' HCI.out⟩
              rw [mixP_next HL.out.1 HCI.out, ← HI.out.2.2.1, List.map_set]
              simp only [hpv]
          · have hi : i = ps.length := by have := HI.out.1; omega
            have ci' : ¬ ((i : Int) < (ts.length : Int)) := by omega
            have hmx := HI.out.2.2.1
            rw [hi, mixP_all HL.out.1] at hmx
            have HMX := Kept.mk hmx
            clear ci hi hmx hpl
            go_wp2_with fail
            go_returns
            have hfin := HI.out.2.1
            rw [← HMK.out] at hfin
            exact ⟨by rw [HV0.out]; rfl, HI.out.2.2.2.1.1, fun h => absurd HV0.out h, fun _ => ⟨_, ⟨_, _, _, _, _, _, hfin, HMX.out, rfl, by first | rfl | rw [List.length_map]⟩, HI.out.2.2.2.1.2⟩⟩
end Go.Proofs.YtnidaahimofppaaGreat
