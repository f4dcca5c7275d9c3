/- Layer 26 (tally): the reference's total, walked. -/
import Derived.Test.YtnidaahimofppaaGreatQpbn
namespace Go.Proofs.YtnidaahimofppaaGreat
open Go.RowKit
set_option linter.unusedVariables false
set_option linter.unusedSimpArgs false

def TtI (Ks : List Pv) (c : Int) (w : World) (v7 : Value) (wr : World) : Prop := ∃ i : Nat, v7 = .int .i64 (i : Int) ∧ Kept (i ≤ Ks.length ∧ wr.heap[w.heap.size]? = some (.cells #[.int .i64 (hiW (sumC (toC (Ks.take i)) (colF c))), .int .u64 (loW (sumC (toC (Ks.take i)) (colF c)))] 83 (0, 0)) ∧ Below w.heap.size w wr)
set_option maxRecDepth 100000 in
set_option maxHeartbeats 2000000 in
theorem rTotal_any (v : Value) (Ks : List Pv) (c : Int) (w : World) (H : HasP w w.heap.size v Ks) (hk : ColOk Ks c) :
    Calls Tryz.prog 37 #[v, .int .i64 c] w (fun e w' => e = .returned (.tuple #[.int .i64 (intN (sumC (toC Ks) (colF c))), .int .i64 (intE (sumC (toC Ks) (colF c)))]) ∧ Below w.heap.size w w') := by
  have HP := Kept.mk H
  have HK := Kept.mk hk
  obtain ⟨A, cc, rfl, _, _, _⟩ := id H
  clear H hk
  have hb0 : Below w.heap.size w (w.alloc (.cells #[.int .i64 0, .int .u64 0] 83)) := (Below.refl _ _).alloc (Nat.le_refl _) _
  have hm0 : (w.alloc (.cells #[.int .i64 0, .int .u64 0] 83)).heap[w.heap.size]? = some (.cells #[.int .i64 0, .int .u64 0] 83 (0, 0)) := Array.getElem?_push_size
  have HB0 := Kept.mk (And.intro hb0 hm0)
  clear hb0 hm0
  go_enter Tryz.func37, Tryz.ntmps37
  go_wp2_with fail
  generalize w.alloc (.cells #[.int .i64 0, .int .u64 0] 83) = w0 at HB0 ⊢
  go_loopw [7] (fun v7 wr => TtI Ks c w v7 wr) (fun v7 wr => Ks.length - (intOf v7).toNat)
  case atStart => exact ⟨0, rfl, ⟨Nat.zero_le _, HB0.out.2, HB0.out.1⟩⟩
  case round =>
    obtain ⟨i, rfl, HI⟩ := hrel
    clear HB0
    obtain ⟨m0, m1, mf0, mf1⟩ := box2 HI.out.2.1
    have hml := (Array.getElem?_eq_some_iff.1 HI.out.2.1).1
    by_cases ci : i < Ks.length
    · have hl := HK.out.ok.len
      have hpk := HK.out.col _ (List.getElem_mem ci)
      have hne : Ks ≠ [] := by rintro rfl; simp at ci
      obtain ⟨b, off, rfl⟩ : ∃ b off, A = some ⟨b, off, none⟩ := by
        obtain ⟨A', c', hv, _, _, hc⟩ := HP.out
        injection hv with hv1 _ _
        obtain ⟨b, off, h, _⟩ := hc hne
        exact ⟨b, off, hv1.trans h⟩
      obtain ⟨b2, o2, n2, c2, j, e0, e1, hj, hjn, hbB, hb2B, _, q1, _⟩ := (HP.out.below HI.out.2.2).at ci hpk.1 hpk.2
      have hsz := HI.out.2.2.size
      have hbw : b < wr.heap.size := by omega
      have hb2w : b2 < wr.heap.size := by omega
      have ci' : (i : Int) < (Ks.length : Int) := by omega
      have f0 : 0 ≤ (i : Int) := by omega
      have f1 : 0 ≤ (j : Int) := by omega
      have f2 : (j : Int) < (n2 : Int) := by omega
      have hw : wrap64 ((i : Int) + 1) = (i : Int) + 1 := by simp only [wrap64]; omega
      have hx : okH (colF c (Ks[i]).r) := colF_bd (HK.out.pv _ (List.getElem_mem ci)) hpk.1 hpk.2
      have hn : okH (Ks[i]).n := by
        obtain ⟨_, _, _, _, hpo, _⟩ := HP.out
        exact (hpo _ (List.getElem_mem ci)).2.2
      have hS := sumC_take Ks (colF c) i ci
      have hi1 := inW_of (part_bd2 HK.out i)
      have hi2 := inW_of (part_bd2 HK.out (i + 1))
      rw [hS] at hi2
      rw [Int.mul_comm] at hS hi2
      have HS := Kept.mk hS
      have HX := Kept.mk (And.intro hx hn)
      have HCI := Kept.mk ci
      have hmi := mul_in hx hn
      have HIN := Kept.mk (And.intro hi1 (And.intro hmi hi2))
      rw [show (valAt (Ks[i]).r c).n = colF c (Ks[i]).r from rfl] at q1
      subst hj
      generalize colF (j : Int) (Ks[i]).r = x at q1 HS HX HIN
      generalize (Ks[i]).n = y at e1 HS HX HIN
      generalize sumC (toC (Ks.take i)) (colF (j : Int)) = T at m0 m1 HS HIN HI
      clear hx hn hS hi1 hi2 hmi hl hpk hne hjn hbB hb2B hsz
      go_upto_region 5 with fail
      go_region_with (first
        | (go_at_call 53; refine (w_rMul_any x y HX.out.1 HX.out.2 _).mono ?_; rintro e w1 ⟨rfl, hb1⟩; obtain ⟨r1, d1, rfl⟩ := xw_of hb1; clear hb1)
        | (go_at_call 52; refine (w_rAdd_to T (x * y) HIN.out.1 HIN.out.2.1 HIN.out.2.2 _).mono ?_; rintro e w2 ⟨rfl, hb2⟩; obtain ⟨r2, d2, rfl⟩ := xw_of hb2; clear hb2))
      all_goals go_wp2_with fail
      all_goals
        have hM := rl_fin HI.out.2.1 (.int .i64 (hiW (T + x * y))) (.int .u64 (loW (T + x * y)))
        have hB : Below w.heap.size w ((wr.setCell ⟨w.heap.size, 0, none⟩ (.int .i64 (hiW (T + x * y)))).setCell ⟨w.heap.size, 1, none⟩ (.int .u64 (loW (T + x * y)))) := (HI.out.2.2.setCell (p := ⟨w.heap.size, 0, none⟩) (Nat.le_refl _) _).setCell (p := ⟨w.heap.size, 1, none⟩) (Nat.le_refl _) _
        exact ⟨⟨i + 1, by first | rfl | (rw [hw]; rfl), ⟨HCI.out, by rw [xw_block _ _ _ _ (Array.getElem?_eq_some_iff.1 hM.1).1, HS.out]; exact hM.1, below_xw hB hB.size _ _⟩⟩, by first | exact less_step hw HCI.out | (have := HCI.out; simp only [intOf]; omega)⟩
    · have hi : i = Ks.length := by have := HI.out.1; omega
      subst hi
      have ci' : ¬ ((Ks.length : Int) < (Ks.length : Int)) := by omega
      have hin := inW_of (part_bd2 HK.out Ks.length)
      rw [List.take_length] at hin m0 m1
      have HIN := Kept.mk hin
      have HIB := Kept.mk HI.out.2.2
      have HII : Kept (∀ W, Calls Tryz.prog 54 #[.agg #[.int .i64 (hiW (sumC (toC Ks) (colF c))), .int .u64 (loW (sumC (toC Ks) (colF c)))]] W (fun e w' => e = .returned (.tuple #[.int .i64 (intN (sumC (toC Ks) (colF c))), .int .i64 (intE (sumC (toC Ks) (colF c)))]) ∧ Below W.heap.size W w')) := ⟨fun W => by
        have h := w_rInt_any (hiW (sumC (toC Ks) (colF c))) (loW (sumC (toC Ks) (colF c))) (okH_hi HIN.out) (okL_lo _) W
        rw [val_hl] at h
        exact h⟩
      clear hin ci HI
      go_wp2_with (first | (go_at_call 54; refine (HII.out _).mono ?_; rintro e w1 ⟨rfl, hb1⟩; have HB1 := Kept.mk (HIB.out.trans (hb1.mono HIB.out.size)); clear hb1))
      go_returns
      exact ⟨rfl, HB1.out⟩
end Go.Proofs.YtnidaahimofppaaGreat
