/- TallyOrder: the walk. -/
import Derived.Test.YtnidaahimofppaaQubf
import Derived.Test.YtnidaahimofppaaQubg
namespace Go.Proofs.Ytnidaahimofppaa
open Go.RowKit Go.Maps
set_option linter.unusedVariables false
set_option linter.unusedSimpArgs false

theorem errC_fit {cs : List Cl} {L : Cps} {r : List Vr} (hg : GoodC cs L) (hc : cntC L ≤ 1000) (hf : fitsC cs r = true) : errC cs L r 1 = 0 := by
  have hn := has_nonneg hg r
  unfold errC
  rw [if_neg (by rw [hf]; decide), if_neg (by omega), if_neg (by omega), if_neg (by omega)]
theorem errC_no {cs : List Cl} {L : Cps} {r : List Vr} (hf : fitsC cs r = false) : errC cs L r 1 = 17 := if_pos hf
def fx (cs : List Cl) (f : List Vr → Int) (p : Pv) : Int := if fitsC cs p.r = true then f p.r else 0
theorem one_put {cs : List Cl} {L : Cps} (p : Pv) (hg : GoodC cs L) (hc : cntC L ≤ 1000) (f : List Vr → Int) : sumC (putC cs L p.r 1) f = sumC L f + fx cs f p := by
  unfold putC fx
  cases hf : fitsC cs p.r with
  | false =>
    rw [errC_no hf, if_neg (by decide), if_neg (by decide)]
    omega
  | true =>
    rw [errC_fit hg hc hf, if_pos rfl, if_pos rfl, addC_sum hg p.r 1 (by have := has_nonneg hg p.r; omega), Int.one_mul]
theorem one_cnt {cs : List Cl} {L : Cps} (p : Pv) (hg : GoodC cs L) (hc : cntC L ≤ 1000) : cntC (putC cs L p.r 1) ≤ cntC L + 1 := by
  have h := one_put p hg hc (fun _ => 1)
  unfold cntC
  rw [h]
  unfold fx
  split
  · exact Int.le_refl _
  · rw [Int.add_zero]
    exact Int.le_add_one (Int.le_refl _)
/-- What the one changes is not the other's. -/
def Apt (Ft Dt Fu Du : List Nat) : Prop := (∀ k ∈ Ft, k ∉ Fu ∧ k ∉ Du) ∧ ∀ k ∈ Fu, k ∉ Ft ∧ k ∉ Dt
theorem Apt.symm {Ft Dt Fu Du : List Nat} (h : Apt Ft Dt Fu Du) : Apt Fu Du Ft Dt := ⟨h.2, h.1⟩
theorem Apt.left {Ft Dt Fu Du Ft' : List Nat} {n : Nat} (h : Apt Ft Dt Fu Du) (hf : ∀ k ∈ Ft', k ∈ Ft ∨ n ≤ k) (hu : ∀ k ∈ Fu, k < n) (hd : ∀ k ∈ Du, k < n) : Apt Ft' Dt Fu Du :=
  ⟨fun k hk => (hf k hk).elim (h.1 k) (fun e => ⟨fun e2 => by have := hu k e2; omega, fun e2 => by have := hd k e2; omega⟩), fun k hk => ⟨fun e => (hf k e).elim (h.2 k hk).1 (fun e2 => by have := hu k hk; omega), (h.2 k hk).2⟩⟩
structure OrS (w : World) (B0 B1 gt gu : Nat) (Dt Du : List Nat) (cs : List Cl) (ags : List Vr) (xs : List Pv) (a b : Nat) (wr : World) (Ft Fu : List Nat) (Lt Lu : Cps) (pt pu : List Pt) : Prop where
  t : TalS wr B0 gt Ft Dt cs ags Lt pt a
  u : TalS wr B1 gu Fu Du cs ags Lu pu b
  apt : Apt Ft Dt Fu Du
  bel : Below w.heap.size w wr
  ct : cntC Lt ≤ a
  cu : cntC Lu ≤ b
  st : ∀ f, sumC Lt f = ((xs.take a).map (fx cs f)).sum
  su : ∀ f, sumC Lu f = ((xs.drop (xs.length - b)).map (fx cs f)).sum
section
variable {w : World} {B0 B1 gt gu : Nat} {Dt Du : List Nat} {cs : List Cl} {ags : List Vr} {xs : List Pv} {a b : Nat} {wr : World} {Ft Fu : List Nat} {Lt Lu : Cps} {pt pu : List Pt}
theorem OrS.putT (h : OrS w B0 B1 gt gu Dt Du cs ags xs a b wr Ft Fu Lt Lu pt pu) (hB : w.heap.size ≤ B0) (ha : a < xs.length) (ha2 : a ≤ 900) {w3 : World} {F3 : List Nat} {p3 : List Pt} (hc : Chg Ft wr w3) (hT : TalS w3 B0 gt F3 Dt cs ags (putC cs Lt xs[a].r 1) p3 (a + 1)) (hf : ∀ k ∈ F3, k ∈ Ft ∨ wr.heap.size ≤ k) :
    OrS w B0 B1 gt gu Dt Du cs ags xs (a + 1) b w3 F3 Fu (putC cs Lt xs[a].r 1) Lu p3 pu := by
  have hcn := h.ct
  refine ⟨hT, h.u.keep hc h.apt.1, h.apt.left hf (fun k hk => (h.u.inF hk).2) (fun k hk => (h.u.inD hk).2), h.bel.trans (hc.below h.bel.size (fun k hk => by have := (h.t.inF hk).1; omega)), ?_, h.cu, fun f => ?_, h.su⟩
  · have := one_cnt (cs := cs) xs[a] h.t.good.1 (by omega)
    omega
  · rw [one_put xs[a] h.t.good.1 (by omega) f, h.st f, List.take_succ_eq_append_getElem ha, List.map_append, List.sum_append]
    simp
theorem OrS.putU (h : OrS w B0 B1 gt gu Dt Du cs ags xs a b wr Ft Fu Lt Lu pt pu) (hB : w.heap.size ≤ B1) {j : Nat} (hj : j < xs.length) (hjb : j + 1 + b = xs.length) (hb2 : b ≤ 900) {w3 : World} {F3 : List Nat} {p3 : List Pt} (hc : Chg Fu wr w3) (hT : TalS w3 B1 gu F3 Du cs ags (putC cs Lu xs[j].r 1) p3 (b + 1)) (hf : ∀ k ∈ F3, k ∈ Fu ∨ wr.heap.size ≤ k) :
    OrS w B0 B1 gt gu Dt Du cs ags xs a (b + 1) w3 Ft F3 Lt (putC cs Lu xs[j].r 1) pt p3 := by
  have hcn := h.cu
  refine ⟨h.t.keep hc h.apt.2, hT, (h.apt.symm.left hf (fun k hk => (h.t.inF hk).2) (fun k hk => (h.t.inD hk).2)).symm, h.bel.trans (hc.below h.bel.size (fun k hk => by have := (h.u.inF hk).1; omega)), h.ct, ?_, h.st, fun f => ?_⟩
  · have := one_cnt (cs := cs) xs[j] h.u.good.1 (by omega)
    omega
  · rw [one_put xs[j] h.u.good.1 (by omega) f, h.su f, show xs.length - (b + 1) = j by omega, List.drop_eq_getElem_cons hj, List.map_cons, List.sum_cons, show xs.length - b = j + 1 by omega]
    omega
end
def OrI (w : World) (B0 B1 gt gu : Nat) (Dt Du : List Nat) (cs : List Cl) (ags : List Vr) (xs : List Pv) (v11 : Value) (wr : World) : Prop :=
  ∃ (j : Nat) (Ft Fu : List Nat) (Lt Lu : Cps) (pt pu : List Pt), v11 = .int .i64 (j : Int) ∧ Kept (j ≤ xs.length ∧ OrS w B0 B1 gt gu Dt Du cs ags xs j j wr Ft Fu Lt Lu pt pu)
set_option maxRecDepth 100000 in
set_option maxHeartbeats 4000000 in
theorem TallyOrder_any (v u z : Value) (cs : List Cl) (ags : List Vr) (xs : List Pv) (w : World) (H1 : HasC w w.heap.size v cs) (H2 : HasR w w.heap.size u ags) (H3 : HasL w w.heap.size z xs) (hlen : xs.length ≤ 140737488355328) :
    Calls Try.prog 5 #[v, u, z] w (fun e w' => e = .returned (.bool true) ∧ Below w.heap.size w w') := by
  have HH := Kept.mk H1
  have HR := Kept.mk H2
  have HP := Kept.mk H3
  obtain ⟨A, c, rfl, hlc, _, _⟩ := id H3
  clear H1 H2 H3 hlc
  go_enter Try.func5, Try.ntmps5
  go_wp2_with fail
  go_at_call 8
  refine (sNew_any v u cs ags w HH.out HR.out).mono ?_
  rintro e w1 ⟨h1, hb1⟩
  have HB1 := Kept.mk hb1
  clear hb1
  rcases h1 with ⟨ce, hce, hcz, rfl⟩ | ⟨h0, gt, Ft, Dt, rfl, hT⟩
  · have dz : (ce != 0) = true := by simp [hcz]
    have HCE := Kept.mk (And.intro hce hcz)
    clear hcz hce
    go_wp2_with fail
    go_at_call 8
    refine (sNew_any v u cs ags w1 (HH.out.to HB1.out) (HR.out.to HB1.out)).mono ?_
    rintro e w2 ⟨h2, hb2⟩
    have HB2 := Kept.mk (HB1.out.trans (hb2.mono HB1.out.size))
    clear hb2
    rcases h2 with ⟨ce2, hce2, hcz2, rfl⟩ | ⟨h02, _⟩
    · obtain rfl : ce = ce2 := by rw [← hce2, HCE.out.1]
      clear hce2 hcz2
      go_wp2_with (first | (go_at_call 9; refine (live_any _).mono ?_; rintro e w3 ⟨rfl, hb3⟩; have HB3 := Kept.mk (HB2.out.trans (hb3.mono HB2.out.size)); clear hb3))
      go_returns
      exact ⟨rfl, HB3.out⟩
    · exact absurd (HCE.out.1.symm.trans h02) HCE.out.2
  have HAG := Kept.mk (AgOk.of h0)
  have HT1 := Kept.mk hT
  have H0 := Kept.mk h0
  clear h0 hT
  go_wp2_with fail
  go_at_call 8
  refine (sNew_any v u cs ags w1 (HH.out.to HB1.out) (HR.out.to HB1.out)).mono ?_
  rintro e w2 ⟨h2, hb2⟩
  rcases h2 with ⟨ce2, hce2, hcz2, rfl⟩ | ⟨h02, gu, Fu, Du, rfl, hU⟩
  · exact absurd (hce2.symm.trans H0.out) hcz2
  have HB2 := Kept.mk (HB1.out.trans (hb2.mono HB1.out.size))
  have HS2 : Kept (OrS w w.heap.size w1.heap.size gt gu Dt Du cs ags xs 0 0 w2 Ft Fu [] [] (partsOf ags) (partsOf ags)) := ⟨by
    refine ⟨HT1.out.below hb2, hU, ⟨fun k hk => ?_, fun k hk => ?_⟩, HB2.out, by decide, by decide, fun f => by simp [sumC], fun f => by simp [sumC]⟩
    · have h := (HT1.out.inF hk).2
      exact ⟨fun e => by have := (hU.inF e).1; omega, fun e => by have := (hU.inD e).1; omega⟩
    · have h := (hU.inF hk).1
      exact ⟨fun e => by have := (HT1.out.inF e).2; omega, fun e => by have := (HT1.out.inD e).2; omega⟩⟩
  have HBB : Kept (w.heap.size ≤ w1.heap.size) := ⟨HB1.out.size⟩
  clear h02 hU hb2 HT1 HB1 H0
  by_cases c200 : 200 < xs.length
  · have c200' : 200 < (xs.length : Int) := by omega
    clear c200
    go_wp2_with (first | (go_at_call 9; refine (live_any _).mono ?_; rintro e w3 ⟨rfl, hb3⟩; have HB3 := Kept.mk (HB2.out.trans (hb3.mono HB2.out.size)); clear hb3))
    go_returns
    exact ⟨rfl, HB3.out⟩
  have c200' : ¬ 200 < (xs.length : Int) := by omega
  have HL := Kept.mk c200
  clear c200 HB2
  generalize w1.heap.size = B1 at HS2 HBB
  go_wp2_with fail
  go_loopw [11] (fun v11 wr => OrI w w.heap.size B1 gt gu Dt Du cs ags xs v11 wr) (fun v11 wr => xs.length - (intOf v11).toNat)
  case atStart => exact ⟨0, _, _, _, _, _, _, rfl, ⟨Nat.zero_le _, HS2.out⟩⟩
  case round =>
    obtain ⟨j, Ft, Fu, Lt, Lu, pt, pu, rfl, HJ⟩ := hrel
    clear HS2
    by_cases cj : j < xs.length
    · have cj' : (j : Int) < (xs.length : Int) := by omega
      have hne : xs ≠ [] := by rintro rfl; simp at cj
      obtain ⟨_, _, hv, _, hpo, hcl⟩ := HP.out
      injection hv with hv1 hv2 hv3
      obtain ⟨b, off, hbo, hbl, hcell⟩ := hcl hne
      rw [← hv1] at hbo
      subst hbo
      obtain ⟨i, hi⟩ : ∃ i, j + 1 + i = xs.length := ⟨xs.length - (j + 1), by omega⟩
      have hil : i < xs.length := by omega
      have e0 := hcell j cj
      have e1 := hcell i hil
      have hk := HJ.out.2.bel.block b hbl
      have hbw : b < wr.heap.size := by have := HJ.out.2.bel.size; omega
      have hp0 := hpo _ (List.getElem_mem cj)
      have hp1 := hpo _ (List.getElem_mem hil)
      have e0' : wr.cell? ⟨b, off + j, none⟩ = some (xs[j]).v := (World.cell?_of_block hk).trans e0
      have HE1 : Kept (w.cell? ⟨b, off + i, none⟩ = some (xs[i]).v) := ⟨e1⟩
      have HBL := Kept.mk hbl
      have HP0 := Kept.mk hp0
      have HP1 := Kept.mk hp1
      have HCJ := Kept.mk (And.intro cj (And.intro hil hi))
      have HNE := Kept.mk hne
      have g0 : 0 ≤ (j : Int) := by omega
      have hw : wrap64 ((j : Int) + 1) = (j : Int) + 1 := by have := HL.out; simp only [wrap64]; omega
      have HW := Kept.mk hw
      generalize hqv : (xs[j]).v = qv at e0'
      have HQV := Kept.mk hqv
      clear e0 e1 hcell hcl hpo hk hp0 hp1 hne hv1 hv2 hv3 hi hbl hw hqv
      go_wp2_with fail
      go_at_call 11
      refine (sPut_any wr w.heap.size gt Ft Dt cs ags Lt pt j qv (xs[j]'HCJ.out.1).r 1 HJ.out.2.t HAG.out (HasS.of (by rw [← HQV.out]; exact HP0.out.1) HJ.out.2.bel (Nat.le_refl _) HJ.out.2.bel.size) HP0.out.2.1 (by have := HL.out; have := HCJ.out; omega) (by omega)).mono ?_
      rintro e w3 ⟨rfl, hc3, F3, p3, hT3, hf3, _⟩
      have HJ3 := Kept.mk (HJ.out.2.putT (Nat.le_refl _) HCJ.out.1 (by have := HL.out; have := HCJ.out; omega) hc3 hT3 hf3)
      have hbw3 : b < w3.heap.size := Nat.lt_of_lt_of_le hbw hc3.size
      have e1' : w3.cell? ⟨b, off + i, none⟩ = some (xs[i]'HCJ.out.2.1).v := (World.cell?_of_block (HJ3.out.bel.block b HBL.out)).trans HE1.out
      clear hc3 hT3 hf3 e0' hbw
      have hi2 := HCJ.out.2.2
      have hx1 : (xs.length : Int) - 1 - (j : Int) = (i : Int) := by omega
      have hx2 : wrap64 ((xs.length : Int) - 1) = (xs.length : Int) - 1 := by have := HL.out; simp only [wrap64]; omega
      have hx3 : wrap64 ((xs.length : Int) - 1 - (j : Int)) = (i : Int) := by have := HL.out; simp only [wrap64]; omega
      have g1 : 0 ≤ (i : Int) := by omega
      have g2 : (i : Int) < (xs.length : Int) := by omega
      generalize hqv : (xs[i]'HCJ.out.2.1).v = qw at e1'
      have HQW := Kept.mk hqv
      clear hqv hi2
      go_wp2_with fail
      refine (sPut_any w3 B1 gu Fu Du cs ags Lu pu j qw (xs[i]'HCJ.out.2.1).r 1 HJ3.out.u HAG.out (HasS.of (by rw [← HQW.out]; exact HP1.out.1) HJ3.out.bel HBB.out HJ3.out.u.sz) HP1.out.2.1 (by have := HL.out; have := HCJ.out; omega) (by omega)).mono ?_
      rintro e w4 ⟨rfl, hc4, F4, p4, hT4, hf4, _⟩
      have HJ4 := Kept.mk (HJ3.out.putU HBB.out HCJ.out.2.1 (by have := HCJ.out; omega) (by have := HL.out; have := HCJ.out; omega) hc4 hT4 hf4)
      have hw := HW.out
      clear hc4 hT4 hf4 e1' hx1 hx2 hx3 g1 g2 hbw3
      go_wp2_with fail
      exact ⟨⟨j + 1, F3, F4, _, _, p3, p4, by first | rfl | (rw [hw]; rfl), ⟨HCJ.out.1, HJ4.out⟩⟩, by first | exact less_step hw HCJ.out.1 | (have := HCJ.out; simp only [intOf]; omega)⟩
    · have hjl : j = xs.length := by have := HJ.out.1; omega
      subst hjl
      have cj' : ¬ ((xs.length : Int) < (xs.length : Int)) := by omega
      have hs : ∀ f, sumC Lt f = sumC Lu f := fun f => by
        rw [HJ.out.2.st f, HJ.out.2.su f, Nat.sub_self, List.drop_zero, List.take_length]
      have HONE := Kept.mk (HJ.out.2.t.one HJ.out.2.u hs)
      have HT := Kept.mk HJ.out.2.t
      have HU := Kept.mk HJ.out.2.u
      have HB := Kept.mk HJ.out.2.bel
      clear cj hs HJ
      go_wp2_with fail
      go_at_call 13
      refine (sRow_any wr w.heap.size gt Ft Dt cs ags Lt pt _ 7 HT.out HAG.out (by have := HL.out; omega)).mono ?_
      rintro e w4 ⟨v4, rfl, hO4, hb4⟩
      have HT4 := Kept.mk (HT.out.below hb4)
      have HU4 := Kept.mk (HU.out.below hb4)
      have HB4 := Kept.mk (HB.out.trans (hb4.mono HB.out.size))
      have HV4 := Kept.mk hO4.has
      have HLN : Kept ((rowT (cntC Lt) 7 pt).1.length ≤ 140737488355328) := ⟨by have h1 := rowT_len (cntC Lt) 7 pt; have h2 := HT.out.good.2.2; have h3 := HAG.out.len; omega⟩
      clear hO4 hb4 HT HU HB
      go_wp2_with fail
      go_at_call 13
      refine (sRow_any w4 B1 gu Fu Du cs ags Lu pu _ 7 HU4.out HAG.out (by have := HL.out; omega)).mono ?_
      rintro e w7 ⟨v7, rfl, hO7, hb7⟩
      rw [← HONE.out.1, ← HONE.out.2] at hO7
      rewrite [← HONE.out.1, ← HONE.out.2]
      have HT7 := Kept.mk (HT4.out.below hb7)
      have HU7 := Kept.mk (HU4.out.below hb7)
      have HB7 := Kept.mk (HB4.out.trans (hb7.mono HB4.out.size))
      have HV7 := Kept.mk ((HV4.out.below hb7).up hb7.size)
      have HW7 := Kept.mk hO7.has
      clear hO7 hb7
      go_wp2_with fail
      go_at_call 9
      refine (live_any w7).mono ?_
      rintro e w8 ⟨rfl, hb8⟩
      have HT8 := Kept.mk (HT7.out.below hb8)
      have HU8 := Kept.mk (HU7.out.below hb8)
      have HB8 := Kept.mk (HB7.out.trans (hb8.mono HB7.out.size))
      have HV8 := Kept.mk ((HV7.out.below hb8).up hb8.size)
      have HW8 := Kept.mk ((HW7.out.below hb8).up hb8.size)
      clear hb8
      have HSM := Kept.mk (sameR_refl (rowT (cntC Lt) 7 pt).1)
      generalize (rowT (cntC Lt) 7 pt).1 = rr at HV8 HW8 HSM HLN
      generalize (rowT (cntC Lt) 7 pt).2 = rc
      have hx := HONE.out.2
      go_wp2_with (first
        | (go_at_call 14; refine (rSame_any v4 v7 rr rr _ HV8.out HW8.out HLN.out).mono ?_; rintro e w9 ⟨rfl, hb9⟩; rewrite [HSM.out]; have HT9 := Kept.mk (HT8.out.below hb9); have HU9 := Kept.mk (HU8.out.below hb9); have HB9 := Kept.mk (HB8.out.trans (hb9.mono HB8.out.size)); clear hb9)
        | (go_at_call 12; refine (sCount_any _ w.heap.size gt Ft Dt cs ags Lt pt _ HT9.out).mono ?_; rintro e w10 ⟨rfl, rfl⟩; clear HT9)
        | (go_at_call 12; refine (sCount_any _ B1 gu Fu Du cs ags Lu pu _ HU9.out).mono ?_; rintro e w10 ⟨rfl, rfl⟩; rewrite [← HONE.out.2]))
      go_returns
      exact ⟨rfl, HB9.out⟩
end Go.Proofs.Ytnidaahimofppaa
