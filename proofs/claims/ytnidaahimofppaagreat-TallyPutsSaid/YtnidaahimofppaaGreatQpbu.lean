/- Layer 26 (tally): what an aggregate of copies is, by the reference: the last value, walked. -/
import Derived.Test.YtnidaahimofppaaGreatQpbq
namespace Go.Proofs.YtnidaahimofppaaGreat
open Go.RowKit
set_option linter.unusedVariables false
set_option linter.unusedSimpArgs false

set_option maxRecDepth 100000 in
set_option maxHeartbeats 8000000 in
theorem one_ext4 (n : Int) (s : ByteArray) (v : Value) (p0 : Pv) (K0 : List Pv) (start : Int) (w : World) (H : HasP w w.heap.size v (p0 :: K0)) (hk : ColOk (p0 :: K0) n) (es : List En)
    (hes : (nthE es (if true = true then cntE es - 1 else 0)).1 = bestL true n (valAt p0.r n) (toC K0)) :
    Calls Tryz.prog 24 #[va 4 n s, v, .int .i64 start] w (OneR w start (.ext true es)) := by
  have hpt : tellP start (.ext true es) = (bestL true n (valAt p0.r n) (toC K0), 0) := by rw [← hes]; rfl
  unfold OneR
  rw [hpt]
  clear hes hpt
  obtain ⟨Ks, hKs⟩ : ∃ Ks, Ks = p0 :: K0 := ⟨_, rfl⟩
  have h0 : 0 < Ks.length := by rw [hKs]; simp
  have hk0 : Ks[0] = p0 := by simp [hKs]
  have hd0 : toC K0 = (toC Ks).drop 1 := by rw [hKs]; rfl
  rw [← hKs] at H hk
  rw [hd0, ← hk0]
  obtain ⟨fin, hfin⟩ : ∃ fin, fin = bestL true n (valAt (Ks[0]).r n) ((toC Ks).drop 1) := ⟨_, rfl⟩
  rw [← hfin]
  have HFIN := Kept.mk hfin.symm
  have HP := Kept.mk H
  have HK := Kept.mk hk
  obtain ⟨A, cc, rfl, _, _, _⟩ := id H
  have hne : Ks ≠ [] := by rw [hKs]; simp
  obtain ⟨b, off, rfl⟩ : ∃ b off, A = some ⟨b, off, none⟩ := by
    obtain ⟨A', c', hv, _, _, hc⟩ := H
    injection hv with hv1 _ _
    obtain ⟨b, off, h, _⟩ := hc hne
    exact ⟨b, off, hv1.trans h⟩
  clear H hk hk0 hd0 hKs hfin hne
  obtain ⟨w0, hw0⟩ : ∃ w0, w0 = ((w.alloc (.cells #[.int .i64 4, .int .i64 n, .string s] 56)).alloc (.cells #[.int .i64 0, .int .i64 0, .string ⟨#[]⟩] 68)) := ⟨_, rfl⟩
  have HB0 : Kept (Bx w w0 4 n s ∧ w0.heap.size = w.heap.size + 1 + 1) := ⟨by
    have h1 : (w.alloc (.cells #[.int .i64 4, .int .i64 n, .string s] 56)).heap.size = w.heap.size + 1 := World.size_alloc _ _
    rw [hw0]
    refine ⟨⟨?_, ?_, ((Below.refl _ _).alloc (Nat.le_refl _) _).alloc (by simp) _⟩, by rw [World.size_alloc, h1]⟩
    · rw [blk_old _ _ (by omega)]; exact blk_new _ _
    · rw [← h1]; exact blk_new _ _⟩
  have hpk0 := HK.out.col _ (List.getElem_mem h0)
  obtain ⟨b2, o2, n2, c2, j, e0, _, hj, hjn, hbB, hb2B, q0, q1, q2⟩ := (HP.out.below HB0.out.1.bel).at h0 hpk0.1 hpk0.2
  rw [Nat.zero_mul, Nat.add_zero] at e0
  have hsz := HB0.out.2
  have hbw : b < w0.heap.size := by omega
  have hb2w : b2 < w0.heap.size := by omega
  have f1 : 0 ≤ (j : Int) := by omega
  have f2 : (j : Int) < (n2 : Int) := by omega
  have f3 : (0 : Int) < (Ks.length : Int) := by omega
  obtain ⟨a0, a1, a2, af⟩ := box3 HB0.out.1.a
  have hal := (Array.getElem?_eq_some_iff.1 HB0.out.1.a).1
  have hrl := (Array.getElem?_eq_some_iff.1 HB0.out.1.r).1
  have HSZ := Kept.mk hsz
  subst hj
  clear hpk0 hjn hbB hb2B hsz
  go_enter Tryz.func24, Tryz.ntmps24
  go_upto_region 19 with fail
  rw [← hw0]
  clear hw0
  go_cut [12] (fun s12 wx => s12 = .pointer (some ⟨w.heap.size + 1 + 1, 0, none⟩) ∧ BoxV wx (w.heap.size + 1 + 1) (valAt (Ks[0]).r (j : Int)) ∧ Bx w wx 4 (j : Int) s)
  case first =>
    go_region_with fail
    all_goals go_wp2_with fail
    all_goals
      go_meet
      refine ⟨by rw [HSZ.out], by rw [← HSZ.out]; exact blk_new w0 _, HB0.out.1.chg (f := []) (Chg.of (((Below.refl _ _).alloc (Nat.le_refl _) _).drew)) (by simp) (by simp) (by simp)⟩
  case rest =>
    obtain ⟨rfl, hv0, hbx⟩ := hcut
    have HC0 := Kept.mk (And.intro hv0 hbx)
    clear hv0 hbx HB0 a0 a1 a2 af hal hrl e0 q0 q1 q2 hbw hb2w f2 HSZ
    go_wp2_with fail
    go_loopw [13] (fun v13 wr => BestI Ks true fin 4 (j : Int) s w v13 wr) (fun v13 wr => Ks.length - (intOf v13).toNat)
    case atStart => exact ⟨1, valAt (Ks[0]).r (j : Int), rfl, ⟨Nat.le_refl _, h0, HC0.out.1, HFIN.out, HC0.out.2⟩⟩
    case round =>
      obtain ⟨i, cur, rfl, HI⟩ := hrel
      clear HC0
      obtain ⟨a0, a1, a2, af⟩ := box3 HI.out.2.2.2.2.a
      have hal := (Array.getElem?_eq_some_iff.1 HI.out.2.2.2.2.a).1
      obtain ⟨m0, m1, m2, mf⟩ := box3 HI.out.2.2.1
      have hml := (Array.getElem?_eq_some_iff.1 HI.out.2.2.1).1
      by_cases ci : i < Ks.length
      · have hl := HK.out.ok.len
        have hpk := HK.out.col _ (List.getElem_mem ci)
        obtain ⟨b2, o2, n2, c2, j', e0, _, hj, hjn, hbB, hb2B, q0, q1, q2⟩ := (HP.out.below HI.out.2.2.2.2.bel).at ci hpk.1 hpk.2
        obtain rfl : j = j' := by omega
        have hsz := HI.out.2.2.2.2.bel.size
        have hbw : b < wr.heap.size := by omega
        have hb2w : b2 < wr.heap.size := by omega
        have ci' : (i : Int) < (Ks.length : Int) := by omega
        have f0 : 0 ≤ (i : Int) := by omega
        have f2 : (j : Int) < (n2 : Int) := by omega
        have hw : wrap64 ((i : Int) + 1) = (i : Int) + 1 := by simp only [wrap64]; omega
        have HW := Kept.mk hw
        have HCI := Kept.mk ci
        have HBD := Kept.mk (best_drop (mx := true) (c := (j : Int)) (cur := cur) ci)
        generalize hx : valAt (Ks[i]).r (j : Int) = x at q0 q1 q2 HBD
        clear hx hl hpk hj hjn hbB hb2B hsz
        go_upto_region 23 with fail
        go_cut [14] from 90 to 131 (fun s14 wx => s14 = .int .i64 (cmpV x.va cur.va) ∧ Below wr.heap.size wr wx)
        case first =>
          go_region_with (first | (go_at_call 39; refine (rcomp_any _ _ _ _ _ _ _).mono ?_; rintro e w5 ⟨rfl, hb5⟩; have HB5 := Kept.mk hb5; clear hb5))
          all_goals go_wp2_with fail
          all_goals
            go_meet
            exact ⟨rfl, ((Below.refl _ _).drew).trans HB5.out⟩
        case rest =>
          obtain ⟨rfl, hbc⟩ := hcut
          have HBX := Kept.mk (HI.out.2.2.2.2.chg (f := []) (Chg.of hbc) (by simp) (by simp) (by simp))
          have HV : Kept (BoxV wc (w.heap.size + 1 + 1) cur) := ⟨(hbc.block _ hml).trans HI.out.2.2.1⟩
          have t0 := (hbc.cell (p := ⟨b, off + i * 2, none⟩) hbw).trans e0
          have t1 := (hbc.cell (p := ⟨b2, o2 + j * 3, none⟩) hb2w).trans q0
          have t2 := (hbc.cell (p := ⟨b2, o2 + j * 3 + 1, none⟩) hb2w).trans q1
          have t3 := (hbc.cell (p := ⟨b2, o2 + j * 3 + 2, none⟩) hb2w).trans q2
          have u0 : b < wc.heap.size := Nat.lt_of_lt_of_le hbw hbc.size
          have u1 : b2 < wc.heap.size := Nat.lt_of_lt_of_le hb2w hbc.size
          obtain ⟨a0', a1', a2', af'⟩ := box3 HBX.out.a
          have hal' := (Array.getElem?_eq_some_iff.1 HBX.out.a).1
          obtain ⟨m0', m1', m2', mf'⟩ := box3 HV.out
          have hml' := HV.out.lt
          clear a0 a1 a2 af hal m0 m1 m2 mf hml e0 q0 q1 q2 hbw hb2w hbc hw
          have hbet : betV true x cur = decide (0 < cmpV x.va cur.va) := rfl
          by_cases cc : 0 < cmpV x.va cur.va
          · have HBT : Kept (bestL true (j : Int) x ((toC Ks).drop (i + 1)) = fin) := ⟨by
              have h := HBD.out
              rw [hbet, if_pos (decide_eq_true cc)] at h
              rw [← h]
              exact HI.out.2.2.2.1⟩
            clear hbet HBD
            go_upto_region 25 with fail
            go_region_with fail
            all_goals
              have hw := HW.out
              go_wp2_with fail
            all_goals
              have hset : BoxV (((wc.setCell ⟨w.heap.size + 1 + 1, 0, none⟩ (.int .i64 x.k)).setCell ⟨w.heap.size + 1 + 1, 1, none⟩ (.int .i64 x.n)).setCell ⟨w.heap.size + 1 + 1, 2, none⟩ (.string x.s)) (w.heap.size + 1 + 1) x := HV.out.set x
              have hc : Chg [w.heap.size + 1 + 1] wc (((wc.setCell ⟨w.heap.size + 1 + 1, 0, none⟩ (.int .i64 x.k)).setCell ⟨w.heap.size + 1 + 1, 1, none⟩ (.int .i64 x.n)).setCell ⟨w.heap.size + 1 + 1, 2, none⟩ (.string x.s)) := (((Chg.refl [w.heap.size + 1 + 1] wc).set _ 0 (.inl (by simp)) _).set _ 1 (.inl (by simp)) _).set _ 2 (.inl (by simp)) _
              exact ⟨⟨i + 1, x, by first | rfl | (rw [HW.out]; rfl), ⟨Nat.le_add_left 1 i, HCI.out, hset, HBT.out, HBX.out.chg (hc.trans (Chg.of (f := []) ((Below.refl _ _).drew)) (by simp)) (nin0 _) (nin1 _) (nin2 _)⟩⟩, by first | exact less_step HW.out HCI.out | exact less_bareK HCI.out⟩
          · have HBT : Kept (bestL true (j : Int) cur ((toC Ks).drop (i + 1)) = fin) := ⟨by
              have h := HBD.out
              rw [hbet, if_neg (by rw [decide_eq_true_eq]; exact cc)] at h
              rw [← h]
              exact HI.out.2.2.2.1⟩
            clear hbet HBD
            have hw := HW.out
            go_wp2_with fail
            exact ⟨⟨i + 1, cur, by first | rfl | (rw [HW.out]; rfl), ⟨Nat.le_add_left 1 i, HCI.out, HV.out, HBT.out, HBX.out⟩⟩, by first | exact less_step HW.out HCI.out | exact less_bareK HCI.out⟩
      · have hi : i = Ks.length := by have := HI.out.2.1; omega
        subst hi
        have ci' : ¬ ((Ks.length : Int) < (Ks.length : Int)) := by omega
        have hcur : cur = fin := by
          have h := HI.out.2.2.2.1
          rw [List.drop_eq_nil_of_le (by rw [toC_len]; omega)] at h
          exact h
        subst hcur
        obtain ⟨r0, r1, r2, rf⟩ := box3 HI.out.2.2.2.2.r
        have hrl := (Array.getElem?_eq_some_iff.1 HI.out.2.2.2.2.r).1
        have hb := HI.out.2.2.2.2.bel
        have hset := (show BoxV wr (w.heap.size + 1) ⟨0, 0, ⟨#[]⟩⟩ from HI.out.2.2.2.2.r).set cur
        have hb9 := ((hb.setCell (p := ⟨w.heap.size + 1, 0, none⟩) (Nat.le_succ _) (.int .i64 cur.k)).setCell (p := ⟨w.heap.size + 1, 1, none⟩) (Nat.le_succ _) (.int .i64 cur.n)).setCell (p := ⟨w.heap.size + 1, 2, none⟩) (Nat.le_succ _) (.string cur.s)
        obtain ⟨z0, z1, z2⟩ := hset.at
        clear ci HI
        go_wp2_with fail
        generalize ((wr.setCell ⟨w.heap.size + 1, 0, none⟩ (.int .i64 cur.k)).setCell ⟨w.heap.size + 1, 1, none⟩ (.int .i64 cur.n)).setCell ⟨w.heap.size + 1, 2, none⟩ (.string cur.s) = w9 at z0 z1 z2 hb9 ⊢
        clear hset
        refine bodyPost_ret (by simp [results, Tryz.results24, go_sem, z0, z1, z2]; try rfl) rfl ?_
        exact ⟨rfl, hb9⟩
end Go.Proofs.YtnidaahimofppaaGreat
