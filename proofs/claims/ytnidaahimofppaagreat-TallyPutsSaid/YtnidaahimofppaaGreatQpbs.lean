/- Layer 26 (tally): what an aggregate of copies is, by the reference: north, walked. -/
import Derived.Test.YtnidaahimofppaaGreatQpbq
namespace Go.Proofs.YtnidaahimofppaaGreat
open Go.RowKit
set_option linter.unusedVariables false
set_option linter.unusedSimpArgs false

set_option maxRecDepth 100000 in
set_option maxHeartbeats 8000000 in
theorem one_sid6 (n : Int) (s : ByteArray) (v : Value) (Ks : List Pv) (start : Int) (w : World) (H : HasP w w.heap.size v Ks) (hk : ColOk Ks n) :
    Calls Tryz.prog 24 #[va 6 n s, v, .int .i64 start] w (OneR w start (.sid true (sumC (toC Ks) (eaF n), sumC (toC Ks) (noF n)))) := by
  have HP := Kept.mk H
  have HK := Kept.mk hk
  obtain ⟨A, cc, rfl, _, _, _⟩ := id H
  clear H hk
  obtain ⟨w0, hw0⟩ : ∃ w0, w0 = (((w.alloc (.cells #[.int .i64 6, .int .i64 n, .string s] 56)).alloc (.cells #[.int .i64 0, .int .i64 0, .string ⟨#[]⟩] 68)).alloc (.cells #[.int .i64 0, .int .i64 0] 108)) := ⟨_, rfl⟩
  have HB0 : Kept (Bx w w0 6 n s ∧ w0.heap[w.heap.size + 1 + 1]? = some (.cells #[.int .i64 0, .int .i64 0] 108 (0, 0))) := ⟨by
    have h1 : (w.alloc (.cells #[.int .i64 6, .int .i64 n, .string s] 56)).heap.size = w.heap.size + 1 := World.size_alloc _ _
    have h2 : ((w.alloc (.cells #[.int .i64 6, .int .i64 n, .string s] 56)).alloc (.cells #[.int .i64 0, .int .i64 0, .string ⟨#[]⟩] 68)).heap.size = w.heap.size + 1 + 1 := by rw [World.size_alloc, h1]
    rw [hw0]
    refine ⟨⟨?_, ?_, (((Below.refl _ _).alloc (Nat.le_refl _) _).alloc (by simp) _).alloc (by simp; omega) _⟩, by rw [← h2]; exact blk_new _ _⟩
    · rw [blk_old _ _ (by omega), blk_old _ _ (by omega)]; exact blk_new _ _
    · rw [blk_old _ _ (by omega), ← h1]; exact blk_new _ _⟩
  go_enter Tryz.func24, Tryz.ntmps24
  go_wp2_with fail
  rw [← hw0]
  clear hw0
  go_loopw [11] (fun v11 wr => SdI Ks 6 n s w v11 wr) (fun v11 wr => Ks.length - (intOf v11).toNat)
  case atStart => exact ⟨0, rfl, ⟨Nat.zero_le _, HB0.out.2, HB0.out.1⟩⟩
  case round =>
    obtain ⟨i, rfl, HI⟩ := hrel
    clear HB0
    obtain ⟨a0, a1, a2, af⟩ := box3 HI.out.2.2.a
    have hal := (Array.getElem?_eq_some_iff.1 HI.out.2.2.a).1
    by_cases ci : i < Ks.length
    · have hl := HK.out.ok.len
      have hpk := HK.out.col _ (List.getElem_mem ci)
      have hne : Ks ≠ [] := by rintro rfl; simp at ci
      obtain ⟨b, off, rfl⟩ : ∃ b off, A = some ⟨b, off, none⟩ := by
        obtain ⟨A', c', hv, _, _, hc⟩ := HP.out
        injection hv with hv1 _ _
        obtain ⟨b, off, h, _⟩ := hc hne
        exact ⟨b, off, hv1.trans h⟩
      obtain ⟨b2, o2, n2, c2, j, e0, e1, hj, hjn, hbB, hb2B, _, q1, _⟩ := (HP.out.below HI.out.2.2.bel).at ci hpk.1 hpk.2
      have hsz := HI.out.2.2.bel.size
      have hbw : b < wr.heap.size := by omega
      have hb2w : b2 < wr.heap.size := by omega
      have ci' : (i : Int) < (Ks.length : Int) := by omega
      have f0 : 0 ≤ (i : Int) := by omega
      have f1 : 0 ≤ (j : Int) := by omega
      have f2 : (j : Int) < (n2 : Int) := by omega
      have hw : wrap64 ((i : Int) + 1) = (i : Int) + 1 := by simp only [wrap64]; omega
      have HW := Kept.mk hw
      have hx := colF_bd (HK.out.pv _ (List.getElem_mem ci)) hpk.1 hpk.2
      have hn := n_bd HK.out.ok ci
      have HS : Kept (sumC (toC (Ks.take (i + 1))) (eaF n) = sumC (toC (Ks.take i)) (eaF n) + (Ks[i]).n * (spE (colF n (Ks[i]).r)).1 ∧ sumC (toC (Ks.take (i + 1))) (noF n) = sumC (toC (Ks.take i)) (noF n) + (Ks[i]).n * (spE (colF n (Ks[i]).r)).2) := ⟨sumC_take Ks (eaF n) i ci, sumC_take Ks (noF n) i ci⟩
      have HPE := Kept.mk (part_ea HK.out.ok n i)
      have HX := Kept.mk (And.intro hx hn)
      have HCI := Kept.mk ci
      rw [show (valAt (Ks[i]).r n).n = colF n (Ks[i]).r from rfl] at q1
      subst hj
      generalize colF (j : Int) (Ks[i]).r = x at q1 HS HX
      generalize (Ks[i]).n = y at e1 HS HX
      generalize sumC (toC (Ks.take i)) (eaF (j : Int)) = E at HS HPE HI
      generalize sumC (toC (Ks.take i)) (noF (j : Int)) = N at HS HPE HI
      have HLN : Kept (wr.drew.heap[w.heap.size + 1 + 1]? = some (.cells #[.int .i64 E, .int .i64 N] 108 (0, 0))) := ⟨HI.out.2.1⟩
      clear hx hn hl hpk hne hjn hbB hb2B hsz hw a0 a2
      go_upto_region 15 with fail
      go_region_with (first | (go_at_call 38; refine (rlPut_any (w.heap.size + 1 + 1) E N x y _ HLN.out (by have := HX.out; omega) (by have := HX.out; omega) HX.out.1.1 HX.out.1.2 (by have := HPE.out; omega) (by have := HPE.out; omega)).mono ?_; rintro e w5 ⟨rfl, hb5, hc5⟩; have HB5 := Kept.mk (And.intro hb5 hc5); clear hb5 hc5))
      all_goals
        have hw := HW.out
        go_wp2_with fail
      all_goals
        have hc : Chg [w.heap.size + 1 + 1] wr w5 := ⟨HB5.out.2.os, HB5.out.2.tape, HB5.out.2.output, HB5.out.2.size, HB5.out.2.block⟩
        exact ⟨⟨i + 1, by first | rfl | (rw [HW.out]; rfl), ⟨HCI.out, by rw [HS.out.1, HS.out.2]; exact HB5.out.1, HI.out.2.2.chg hc (nin0 _) (nin1 _) (nin2 _)⟩⟩, by first | exact less_step HW.out HCI.out | exact less_bareK HCI.out⟩
    · have hi : i = Ks.length := by have := HI.out.1; omega
      subst hi
      have ci' : ¬ ((Ks.length : Int) < (Ks.length : Int)) := by omega
      have hlx := HI.out.2.1
      rw [List.take_length] at hlx
      obtain ⟨l0, l1, _, _⟩ := box2 hlx
      obtain ⟨r0, r1, r2, rf⟩ := box3 HI.out.2.2.r
      have hl2 := (Array.getElem?_eq_some_iff.1 hlx).1
      have hrl := (Array.getElem?_eq_some_iff.1 HI.out.2.2.r).1
      have HBX := Kept.mk HI.out.2.2
      clear ci hlx HI
      go_wp2_with (first | (go_at_call 36; refine (rnum_any _ _).mono ?_; rintro e w2 ⟨rfl, hb2⟩; obtain ⟨x2, d2, rfl⟩ := xw_of hb2; clear hb2))
      have hset := (show BoxV wr (w.heap.size + 1) ⟨0, 0, ⟨#[]⟩⟩ from HBX.out.r).set ⟨1, (sumC (toC Ks) (noF n)), ⟨#[]⟩⟩
      have hx : BoxV (xw (((wr.setCell ⟨w.heap.size + 1, 0, none⟩ (.int .i64 1)).setCell ⟨w.heap.size + 1, 1, none⟩ (.int .i64 (sumC (toC Ks) (noF n)))).setCell ⟨w.heap.size + 1, 2, none⟩ (.string ⟨#[]⟩)) x2 d2) (w.heap.size + 1) ⟨1, (sumC (toC Ks) (noF n)), ⟨#[]⟩⟩ := (xw_block _ _ _ _ hset.lt).trans hset
      have hb8 := ((HBX.out.bel.setCell (p := ⟨w.heap.size + 1, 0, none⟩) (Nat.le_succ _) (.int .i64 1)).setCell (p := ⟨w.heap.size + 1, 1, none⟩) (Nat.le_succ _) (.int .i64 (sumC (toC Ks) (noF n)))).setCell (p := ⟨w.heap.size + 1, 2, none⟩) (Nat.le_succ _) (.string ⟨#[]⟩)
      have hb9 := below_xw hb8 hb8.size x2 d2
      obtain ⟨z0, z1, z2⟩ := hx.at
      dsimp only at z0 z1 z2
      generalize xw (((wr.setCell ⟨w.heap.size + 1, 0, none⟩ (.int .i64 1)).setCell ⟨w.heap.size + 1, 1, none⟩ (.int .i64 (sumC (toC Ks) (noF n)))).setCell ⟨w.heap.size + 1, 2, none⟩ (.string ⟨#[]⟩)) x2 d2 = w9 at z0 z1 z2 hb9 ⊢
      clear hset hx hb8
      refine bodyPost_ret (by simp [results, Tryz.results24, go_sem, z0, z1, z2]; try rfl) rfl ?_
      exact ⟨rfl, hb9⟩
end Go.Proofs.YtnidaahimofppaaGreat
