/- TallyUndo: the walk. -/
import Derived.Test.YtnidaahimofppaaQubf
import Derived.Test.YtnidaahimofppaaQubg
namespace Go.Proofs.Ytnidaahimofppaa
open Go.RowKit Go.Maps
set_option linter.unusedVariables false
set_option linter.unusedSimpArgs false

theorem errC_0 {cs : List Cl} {L : Cps} {r : List Vr} {n : Int} (h : errC cs L r n = 0) : fitsC cs r = true ∧ n ≤ 1048576 ∧ -1048576 ≤ n ∧ 0 ≤ hasC L r 0 + n ∧ cntC L + n ≤ 1048576 := by
  unfold errC at h
  cases hf : fitsC cs r with
  | false => rw [hf] at h; simp at h
  | true =>
    rw [if_neg (by rw [hf]; decide)] at h
    split at h
    · simp at h
    split at h
    · simp at h
    split at h
    · simp at h
    exact ⟨rfl, by omega, by omega, by omega, by omega⟩
theorem errC_of {cs : List Cl} {L : Cps} {r : List Vr} {n : Int} (h1 : fitsC cs r = true) (h2 : n ≤ 1048576) (h3 : -1048576 ≤ n) (h4 : 0 ≤ hasC L r 0 + n) (h5 : cntC L + n ≤ 1048576) : errC cs L r n = 0 := by
  unfold errC
  rw [if_neg (by rw [h1]; decide), if_neg (by omega), if_neg (by omega), if_neg (by omega)]
/-- WHAT WAS PUT IN CAN BE TAKEN OUT AGAIN. -/
theorem undoC {cs : List Cl} {L : Cps} {r : List Vr} {n : Int} (hg : GoodC cs L) (hful : cntC L ≤ 1048576) (he : errC cs L r n = 0) : errC cs (putC cs L r n) r (-n) = 0 ∧ ∀ f, sumC (putC cs (putC cs L r n) r (-n)) f = sumC L f := by
  obtain ⟨q1, q2, q3, q4, q5⟩ := errC_0 he
  have hL : putC cs L r n = addC L r n := by unfold putC; rw [if_pos he]
  have hg1 := addC_good hg q1 n
  have hn := has_nonneg hg r
  have hh : hasC (addC L r n) r 0 = hasC L r 0 + n := by
    rw [hasC_add hg q1 n q4]
    unfold isR
    rw [sameR_refl, if_pos rfl]
    omega
  have hcn : cntC (addC L r n) = cntC L + n := by unfold cntC; rw [addC_sum hg r n q4]; omega
  have he2 : errC cs (putC cs L r n) r (-n) = 0 := by rw [hL]; exact errC_of q1 (by omega) (by omega) (by omega) (by omega)
  refine ⟨he2, fun f => ?_⟩
  have hL2 : putC cs (putC cs L r n) r (-n) = addC (addC L r n) r (-n) := by unfold putC at he2 ⊢; rw [if_pos he] at he2 ⊢; rw [if_pos he2]
  rw [hL2, addC_sum hg1 r (-n) (by omega), addC_sum hg r n q4, Int.neg_mul]
  omega
def UnI (w : World) (B g kx m : Nat) (D : List Nat) (cs : List Cl) (ags : List Vr) (pv : Value) (pn : Int) (v10 : Value) (wr : World) : Prop :=
  ∃ (j : Nat) (F : List Nat) (L : Cps) (ps : List Pt), v10 = .int .i64 (j : Int) ∧ Kept (j ≤ m ∧ TalS wr B g F D cs ags L ps j ∧ Below w.heap.size w wr ∧ wr.heap[kx]? = some (.cells #[pv, .int .i64 pn] 39 (0, 0)) ∧ kx ∉ F)
set_option maxRecDepth 100000 in
set_option maxHeartbeats 4000000 in
theorem TallyUndo_any (v u z : Value) (cs : List Cl) (ags : List Vr) (xs : List Pv) (w : World) (H1 : HasC w w.heap.size v cs) (H2 : HasR w w.heap.size u ags) (H3 : HasP w w.heap.size z xs) (hlen : xs.length ≤ 140737488355328) :
    Calls Try.prog 4 #[v, u, z] w (fun e w' => e = .returned (.bool true) ∧ Below w.heap.size w w') := by
  have HH := Kept.mk H1
  have HR := Kept.mk H2
  have HP := Kept.mk H3
  obtain ⟨A, c, rfl, hlc, _, _⟩ := id H3
  clear H1 H2 H3 hlc
  go_enter Try.func4, Try.ntmps4
  go_wp2_with fail
  go_at_call 8
  refine (sNew_any v u cs ags w HH.out HR.out).mono ?_
  rintro e w1 ⟨h1, hb1⟩
  have HB1 := Kept.mk hb1
  clear hb1
  rcases h1 with ⟨ce, hce, hcz, rfl⟩ | ⟨h0, g, F0, D, rfl, hT⟩
  · have dz : (ce != 0) = true := by simp [hcz]
    clear hcz hce
    go_wp2_with (first | (go_at_call 9; refine (live_any _).mono ?_; rintro e w2 ⟨rfl, hb2⟩; have HB2 := Kept.mk (HB1.out.trans (hb2.mono HB1.out.size)); clear hb2))
    go_returns
    exact ⟨rfl, HB2.out⟩
  have HAG := Kept.mk (AgOk.of h0)
  have HT1 := Kept.mk hT
  clear h0 hT
  by_cases cz : xs = []
  · subst cz
    go_wp2_with (first | (go_at_call 9; refine (live_any _).mono ?_; rintro e w2 ⟨rfl, hb2⟩; have HB2 := Kept.mk (HB1.out.trans (hb2.mono HB1.out.size)); clear hb2))
    go_returns
    exact ⟨rfl, HB2.out⟩
  have hpos : 0 < xs.length := by
    rcases Nat.eq_zero_or_pos xs.length with h | h
    · exact absurd (List.eq_nil_of_length_eq_zero h) cz
    · exact h
  have hz1 : ((xs.length : Int) == 0) = false := by rw [beq_eq_false_iff_ne]; omega
  by_cases c60 : 60 < xs.length
  · have c60' : 60 < (xs.length : Int) := by omega
    clear c60 hpos
    go_wp2_with (first | (go_at_call 9; refine (live_any _).mono ?_; rintro e w2 ⟨rfl, hb2⟩; have HB2 := Kept.mk (HB1.out.trans (hb2.mono HB1.out.size)); clear hb2))
    go_returns
    exact ⟨rfl, HB2.out⟩
  have c60' : ¬ 60 < (xs.length : Int) := by omega
  obtain ⟨m, hm⟩ : ∃ m, xs.length = m + 1 := ⟨xs.length - 1, by omega⟩
  have HM := Kept.mk (And.intro hm (show m ≤ 59 by omega))
  have hwm : wrap64 ((xs.length : Int) - 1) = (m : Int) := by simp only [wrap64]; omega
  have hml : m < xs.length := by omega
  have f0 : 0 ≤ (m : Int) := by omega
  have f1 : (m : Int) < (xs.length : Int) := by omega
  obtain ⟨_, _, hv, _, hpo, hcl⟩ := HP.out.below HB1.out
  injection hv with hv1 hv2 hv3
  subst hv1 hv3
  obtain ⟨b, off, rfl, hbl, hcell⟩ := hcl cz
  obtain ⟨e0, e1⟩ := hcell m hml
  have hPok := Kept.mk (HP.out)
  obtain ⟨p, hp⟩ : ∃ p, p = xs[m] := ⟨_, rfl⟩
  have hpk : PvOk w w.heap.size p := by
    obtain ⟨_, _, _, _, h, _⟩ := HP.out
    rw [hp]
    exact h _ (List.getElem_mem hml)
  rw [← hp] at e0 e1
  have hm1 : m = xs.length - 1 := by omega
  have hmi : (xs.length : Int) - 1 = (m : Int) := by omega
  have HMI := Kept.mk hmi
  have u0 : w1.cell? ⟨b, off + (xs.length - 1) * 2, none⟩ = some p.v := by rw [← hm1]; exact e0
  have u1 : w1.cell? ⟨b, off + (xs.length - 1) * 2 + 1, none⟩ = some (.int .i64 p.n) := by rw [← hm1]; exact e1
  obtain ⟨pv, pr, pn⟩ := p
  obtain ⟨Ap, cp, hpv, _⟩ := id hpk.1
  dsimp only at hpv
  subst hpv
  have HPK := Kept.mk hpk
  dsimp only at u0 u1
  have HCZ := Kept.mk cz
  clear cz c60 hml hcell hcl hpo hp hpk hm hm1 hmi hwm e0 e1
  go_upto_region 5 with fail
  obtain ⟨kx, hkx⟩ : ∃ kx, kx = w1.heap.size := ⟨_, rfl⟩
  have hbx : (w1.alloc (.cells #[(.slice Ap pr.length cp), .int .i64 pn] 39)).heap[kx]? = some (.cells #[(.slice Ap pr.length cp), .int .i64 pn] 39 (0, 0)) := by rw [hkx]; exact blk_new _ _
  have hba : Below w1.heap.size w1 (w1.alloc (.cells #[(.slice Ap pr.length cp), .int .i64 pn] 39)) := (Below.refl _ _).alloc (Nat.le_refl _) _
  have HT2 := Kept.mk (HT1.out.below hba)
  have HB2 := Kept.mk (HB1.out.trans (hba.mono HB1.out.size))
  have HBX := Kept.mk hbx
  have HKF : Kept (kx ∉ F0) := ⟨fun e => by have := (HT1.out.inF e).2; omega⟩
  rewrite [← hkx]
  generalize w1.alloc (.cells #[(.slice Ap pr.length cp), .int .i64 pn] 39) = w2 at HT2 HB2 HBX ⊢
  clear hbx hba hkx HT1 HB1 u0 u1
  go_wp2_with fail
  go_loopw [10] (fun v10 wr => UnI w w.heap.size g kx m D cs ags (.slice Ap pr.length cp) pn v10 wr) (fun v10 wr => m - (intOf v10).toNat)
  case atStart => exact ⟨0, F0, _, _, rfl, ⟨Nat.zero_le _, HT2.out, HB2.out, HBX.out, HKF.out⟩⟩
  case round =>
    obtain ⟨j, F, L, ps, rfl, HJ⟩ := hrel
    clear HT2 HB2 HBX HKF
    obtain ⟨hj, hT, hB, hX, hK⟩ := HJ.out
    have HT := Kept.mk hT
    have HB := Kept.mk hB
    have HX := Kept.mk (And.intro hX hK)
    have HJM := Kept.mk hj
    clear HJ hT hB hX hK
    by_cases cj : j < m
    · have cj' : (j : Int) < (xs.length : Int) - 1 := by have := HMI.out; omega
      have hjl : j < xs.length := by have := HM.out.1; omega
      have g0 : 0 ≤ (j : Int) := by omega
      have g1 : (j : Int) < (xs.length : Int) := by omega
      have hw : wrap64 ((j : Int) + 1) = (j : Int) + 1 := by have := HM.out.2; simp only [wrap64]; omega
      obtain ⟨_, _, hv, _, hpo, hcl⟩ := HP.out
      injection hv with hv1 hv2 hv3
      obtain ⟨b', off', hbo, hbl', hcell⟩ := hcl HCZ.out
      rw [← hv1] at hbo
      injection hbo with hbo
      injection hbo with hb1 ho1 _
      subst hb1 ho1
      obtain ⟨e0, e1⟩ := hcell j hjl
      have hk := HB.out.block b hbl'
      have e0' : wr.cell? ⟨b, off + j * 2, none⟩ = some (xs[j]).v := (World.cell?_of_block hk).trans e0
      have e1' : wr.cell? ⟨b, off + j * 2 + 1, none⟩ = some (.int .i64 (xs[j]).n) := (World.cell?_of_block hk).trans e1
      have hpj := hpo _ (List.getElem_mem hjl)
      have hbw : b < wr.heap.size := by have := HB.out.size; omega
      generalize xs[j] = q at e0' e1' hpj
      obtain ⟨qv, qr, qn⟩ := q
      have HPJ := Kept.mk hpj
      have HCJ := Kept.mk cj
      dsimp only at e0' e1'
      clear e0 e1 hcell hcl hpo hk hpj hjl hbl' hv1 hv2 hv3 hj cj
      go_upto_region 8 with fail
      go_region_with (first | (go_at_call 11; refine (sPut_any _ w.heap.size g F D cs ags L ps j qv qr qn (HT.out.below (Below.refl _ _).drew) HAG.out (HasS.of HPJ.out.1 (HB.out.drew) (Nat.le_refl _) HB.out.size) HPJ.out.2.1 (by have := HM.out.2; have := HCJ.out; omega) HPJ.out.2.2).mono ?_; rintro e w3 ⟨rfl, hc3, F3, ps3, hT3, hf3, _⟩; have HT3 := Kept.mk hT3; have HC3 := Kept.mk (And.intro hc3 hf3); clear hT3 hc3 hf3))
      all_goals go_wp2_with fail
      all_goals
        refine ⟨⟨j + 1, F3, _, ps3, by first | rfl | (rw [hw]; rfl), ⟨HCJ.out, HT3.out, (HB.out.drew).trans (HC3.out.1.below HB.out.size (fun k hk => (HT.out.inF hk).1)), (HC3.out.1.block kx (Array.getElem?_eq_some_iff.1 HX.out.1).1 HX.out.2).trans HX.out.1, fun e => (HC3.out.2 kx e).elim HX.out.2 (fun e => by have h := (Array.getElem?_eq_some_iff.1 HX.out.1).1; have h2 : wr.heap.size ≤ kx := e; omega)⟩⟩, by first | exact less_step hw HCJ.out | (have := HCJ.out; simp only [intOf]; omega)⟩
    · have hjm : j = m := by have := HJM.out; omega
      subst hjm
      have cj' : ¬ ((j : Int) < (xs.length : Int) - 1) := by have := HMI.out; omega
      clear cj hj
      go_wp2_with fail
      go_at_call 12
      refine (sCount_any wr w.heap.size g F D cs ags L ps j HT.out).mono ?_
      rintro e w3 ⟨rfl, rfl⟩
      go_wp2_with fail
      go_at_call 13
      refine (sRow_any wr w.heap.size g F D cs ags L ps j 7 HT.out HAG.out (by have := HM.out.2; omega)).mono ?_
      rintro e w4 ⟨v4, rfl, hO4, hb4⟩
      have HT4 := Kept.mk (HT.out.below hb4)
      have HB4 := Kept.mk (HB.out.trans (hb4.mono HB.out.size))
      have HV4 := Kept.mk (And.intro hO4.has (Off.of HT.out hO4))
      have HX4 : Kept (w4.heap[kx]? = some (.cells #[(.slice Ap pr.length cp), .int .i64 pn] 39 (0, 0)) ∧ kx ∉ F) := ⟨(hb4.block kx (Array.getElem?_eq_some_iff.1 HX.out.1).1).trans HX.out.1, HX.out.2⟩
      have HLN : Kept ((rowT (cntC L) 7 ps).1.length ≤ 140737488355328) := ⟨by have h1 := rowT_len (cntC L) 7 ps; have h2 := HT.out.good.2.2; have h3 := HAG.out.len; omega⟩
      obtain ⟨y0, y1, _, _⟩ := box2 HX4.out.1
      have hkl := (Array.getElem?_eq_some_iff.1 HX4.out.1).1
      clear hO4 hb4 HX HB
      go_wp2_with fail
      go_at_call 11
      refine (sPut_any w4 w.heap.size g F D cs ags L ps j (.slice Ap pr.length cp) pr pn HT4.out HAG.out (HasS.of HPK.out.1 HB4.out (Nat.le_refl _) HB4.out.size) HPK.out.2.1 (by have := HM.out.2; omega) HPK.out.2.2).mono ?_
      rintro e w5 ⟨rfl, hc5, F5, ps5, hT5, hf5, hn5⟩
      have HB5 := Kept.mk (HB4.out.trans (hc5.below HB4.out.size (fun k hk => (HT4.out.inF hk).1)))
      have HV5 := Kept.mk (And.intro (HV4.out.1.off HV4.out.2 hc5) (HV4.out.2.next hc5 hf5))
      have HX5 : Kept (w5.heap[kx]? = some (.cells #[(.slice Ap pr.length cp), .int .i64 pn] 39 (0, 0)) ∧ kx ∉ F5) := ⟨(hc5.block kx hkl HX4.out.2).trans HX4.out.1, fun e => (hf5 kx e).elim HX4.out.2 (fun e => by omega)⟩
      have HT5 := Kept.mk hT5
      have HN5 := Kept.mk hn5
      clear y0 y1 hkl hc5 hf5 hn5 hT5 HX4 HV4 HB4
      by_cases ce : errC cs L pr pn = 0
      · obtain ⟨he2, hs2⟩ := undoC HT4.out.good.1 HT4.out.good.2.1 ce
        obtain ⟨_, q2, q3, _, _⟩ := errC_0 ce
        have hneg : wrap64 (-pn) = -pn := by simp only [wrap64]; omega
        have HE2 := Kept.mk (And.intro he2 hs2)
        have HQ := Kept.mk (And.intro q2 q3)
        rewrite [ce]
        obtain ⟨y0, y1, _, _⟩ := box2 HX5.out.1
        have hkl := (Array.getElem?_eq_some_iff.1 HX5.out.1).1
        clear he2 hs2 q2 q3 ce
        go_wp2_with (first | (go_at_call 11; refine (sPut_any w5 w.heap.size g F5 D cs ags _ ps5 (j + 1) (.slice Ap pr.length cp) pr (-pn) HT5.out HAG.out (HasS.of HPK.out.1 HB5.out (Nat.le_refl _) HB5.out.size) HPK.out.2.1 (by have := HM.out.2; omega) (by have := HQ.out; omega)).mono ?_; rintro e w6 ⟨rfl, hc6, F6, ps6, hT6, hf6, _⟩; rewrite [HE2.out.1]; have HT6 := Kept.mk hT6; have HB6 := Kept.mk (HB5.out.trans (hc6.below HB5.out.size (fun k hk => (HT5.out.inF hk).1))); have HV6 := Kept.mk (And.intro (HV5.out.1.off HV5.out.2 hc6) (HV5.out.2.next hc6 hf6)); clear hc6 hf6 hT6))
        have hone := HT6.out.one HT4.out HE2.out.2
        have HONE := Kept.mk hone
        clear hone y0 y1 hkl hneg
        refine (sRow_any w6 w.heap.size g F6 D cs ags _ ps6 (j + 1 + 1) 7 HT6.out HAG.out (by have := HM.out.2; omega)).mono ?_
        rintro e w7 ⟨v7, rfl, hO7, hb7⟩
        rw [HONE.out.1, HONE.out.2] at hO7
        rewrite [HONE.out.1, HONE.out.2]
        have HT7 := Kept.mk (HT6.out.below hb7)
        have HB7 := Kept.mk (HB6.out.trans (hb7.mono HB6.out.size))
        have HV7 := Kept.mk ((HV6.out.1.below hb7).up hb7.size)
        have HW7 := Kept.mk hO7.has
        clear hO7 hb7
        go_wp2_with fail
        go_at_call 9
        refine (live_any w7).mono ?_
        rintro e w8 ⟨rfl, hb8⟩
        have HT8 := Kept.mk (HT7.out.below hb8)
        have HB8 := Kept.mk (HB7.out.trans (hb8.mono HB7.out.size))
        have HV8 := Kept.mk ((HV7.out.below hb8).up hb8.size)
        have HW8 := Kept.mk ((HW7.out.below hb8).up hb8.size)
        clear hb8
        have HSM := Kept.mk (sameR_refl (rowT (cntC L) 7 ps).1)
        generalize (rowT (cntC L) 7 ps).1 = rr at HV8 HW8 HSM HLN
        generalize (rowT (cntC L) 7 ps).2 = rc
        go_wp2_with (first
          | (go_at_call 14; refine (rSame_any v4 v7 rr rr _ HV8.out HW8.out HLN.out).mono ?_; rintro e w9 ⟨rfl, hb9⟩; rewrite [HSM.out]; have HT9 := Kept.mk (HT8.out.below hb9); have HB9 := Kept.mk (HB8.out.trans (hb9.mono HB8.out.size)); clear hb9)
          | (go_at_call 12; refine (sCount_any _ w.heap.size g F6 D cs ags _ ps6 _ HT9.out).mono ?_; rintro e w10 ⟨rfl, rfl⟩; rewrite [HONE.out.2]))
        go_returns
        exact ⟨rfl, HB9.out⟩
      · have hce : (errC cs L pr pn == 0) = false := by simp [ce]
        have hps := HN5.out ce
        have hL5 : putC cs L pr pn = L := by unfold putC; rw [if_neg ce]
        have hT5 := HT5.out
        rw [hps, hL5] at hT5
        have HT6 := Kept.mk hT5
        clear HT5 HN5 hps hL5 hT5 ce
        generalize errC cs L pr pn = er at hce ⊢
        go_wp2_with fail
        go_at_call 13
        refine (sRow_any w5 w.heap.size g F5 D cs ags L ps (j + 1) 7 HT6.out HAG.out (by have := HM.out.2; omega)).mono ?_
        rintro e w7 ⟨v7, rfl, hO7, hb7⟩
        have HT7 := Kept.mk (HT6.out.below hb7)
        have HB7 := Kept.mk (HB5.out.trans (hb7.mono HB5.out.size))
        have HV7 := Kept.mk ((HV5.out.1.below hb7).up hb7.size)
        have HW7 := Kept.mk hO7.has
        clear hO7 hb7
        go_wp2_with fail
        go_at_call 9
        refine (live_any w7).mono ?_
        rintro e w8 ⟨rfl, hb8⟩
        have HT8 := Kept.mk (HT7.out.below hb8)
        have HB8 := Kept.mk (HB7.out.trans (hb8.mono HB7.out.size))
        have HV8 := Kept.mk ((HV7.out.below hb8).up hb8.size)
        have HW8 := Kept.mk ((HW7.out.below hb8).up hb8.size)
        clear hb8
        have HSM := Kept.mk (sameR_refl (rowT (cntC L) 7 ps).1)
        generalize (rowT (cntC L) 7 ps).1 = rr at HV8 HW8 HSM HLN
        generalize (rowT (cntC L) 7 ps).2 = rc
        go_wp2_with (first
          | (go_at_call 14; refine (rSame_any v4 v7 rr rr _ HV8.out HW8.out HLN.out).mono ?_; rintro e w9 ⟨rfl, hb9⟩; rewrite [HSM.out]; have HT9 := Kept.mk (HT8.out.below hb9); have HB9 := Kept.mk (HB8.out.trans (hb9.mono HB8.out.size)); clear hb9)
          | (go_at_call 12; refine (sCount_any _ w.heap.size g F5 D cs ags _ ps _ HT9.out).mono ?_; rintro e w10 ⟨rfl, rfl⟩))
        go_returns
        exact ⟨rfl, HB9.out⟩
end Go.Proofs.Ytnidaahimofppaa
