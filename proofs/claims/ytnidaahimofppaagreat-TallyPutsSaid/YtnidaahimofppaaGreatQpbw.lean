/- TallyPuts: the walk. -/
import Derived.Test.YtnidaahimofppaaGreatQpbv
import Derived.Test.YtnidaahimofppaaGreatQpbj
import Derived.Test.YtnidaahimofppaaGreatQpan
namespace Go.Proofs.YtnidaahimofppaaGreat
open Go.RowKit Go.Maps
set_option linter.unusedVariables false
set_option linter.unusedSimpArgs false

/-- Copies that a tally's puts leave alone. -/
def OffP (F : List Nat) (v : Value) (Ks : List Pv) : Prop := (Ks ≠ [] → ∀ k, v.ownBlock = some k → k ∉ F) ∧ ∀ p ∈ Ks, p.r ≠ [] → ∀ k, p.v.ownBlock = some k → k ∉ F
theorem HasP.lts {w : World} {B : Nat} {v : Value} {Ks : List Pv} (h : HasP w B v Ks) : (Ks ≠ [] → ∀ k, v.ownBlock = some k → k < B) ∧ ∀ p ∈ Ks, p.r ≠ [] → ∀ k, p.v.ownBlock = some k → k < B := by
  obtain ⟨A, c, rfl, _, hp, hc⟩ := h
  refine ⟨fun hn k hk => ?_, fun p hp2 hr k hk => ?_⟩
  · obtain ⟨b, off, rfl, hb, _⟩ := hc hn
    have : b = k := by simpa [Value.ownBlock] using hk
    omega
  · obtain ⟨b, off, c2, hv, hb⟩ := (hp p hp2).1.own_lt hr
    rw [hv] at hk
    have : b = k := by simpa [Value.ownBlock] using hk
    omega
theorem HasR.off2 {w w' : World} {F : List Nat} {v : Value} {xs : List Vr} (h : HasR w w.heap.size v xs) (ho : xs ≠ [] → ∀ k, v.ownBlock = some k → k ∉ F) (hc : Chg F w w') : HasR w' w'.heap.size v xs := by
  by_cases hx : xs = []
  · subst hx
    obtain ⟨A, c, hv, hl, _⟩ := h
    exact ⟨A, c, hv, hl, fun h => absurd rfl h⟩
  · exact (h.chg hc (Nat.le_refl _) (ho hx)).up hc.size
theorem HasP.off {w w' : World} {F : List Nat} {v : Value} {Ks : List Pv} (h : HasP w w.heap.size v Ks) (ho : OffP F v Ks) (hc : Chg F w w') : HasP w' w'.heap.size v Ks := by
  obtain ⟨A, c, rfl, hl, hp, hA⟩ := h
  refine ⟨A, c, rfl, hl, fun p hp2 => ⟨(hp p hp2).1.off2 (ho.2 p hp2) hc, (hp p hp2).2⟩, fun hn => ?_⟩
  obtain ⟨b, off, rfl, hb, hcell⟩ := hA hn
  have hk := hc.block b hb (ho.1 hn b rfl)
  exact ⟨b, off, rfl, Nat.lt_of_lt_of_le hb hc.size, fun i hi => ⟨(World.cell?_of_block hk).trans (hcell i hi).1, (World.cell?_of_block hk).trans (hcell i hi).2⟩⟩
theorem OffP.next {w : World} {F F' : List Nat} {v : Value} {Ks : List Pv} (h : OffP F v Ks) (hP : HasP w w.heap.size v Ks) (hf : ∀ k ∈ F', k ∈ F ∨ w.heap.size ≤ k) : OffP F' v Ks := by
  obtain ⟨l1, l2⟩ := hP.lts
  exact ⟨fun hn k hk e => (hf k e).elim (h.1 hn k hk) (fun e => by have := l1 hn k hk; omega), fun p hp hr k hk e => (hf k e).elim (h.2 p hp hr k hk) (fun e => by have := l2 p hp hr k hk; omega)⟩
theorem OffP.new {w : World} {F : List Nat} {v v' : Value} {Ks Ks' : List Pv} (h : OffP F v Ks) (hN : NewK w v Ks v' Ks') (hF : ∀ k ∈ F, k < w.heap.size) : OffP F v' Ks' := by
  refine ⟨fun hn k hk e => ?_, fun p hp hr k hk e => ?_⟩
  · rcases hN.1 with ⟨rfl, rfl⟩ | h1
    · exact h.1 hn k hk e
    · have := h1 k hk
      have := hF k e
      omega
  · rcases hN.2 p hp with h1 | h1
    · exact h.2 p h1 hr k hk e
    · have := h1 k hk
      have := hF k e
      omega
structure PsS (w : World) (g : Nat) (D : List Nat) (cs : List Cl) (ags : List Vr) (nm : Nat) (wr : World) (F : List Nat) (ps : List Pt) (vK : Value) (Ks : List Pv) : Prop where
  t : TalS wr w.heap.size g F D cs ags (toC Ks) ps nm
  k : HasP wr wr.heap.size vK Ks
  off : OffP F vK Ks
  bel : Below w.heap.size w wr
theorem PsS.ks {w : World} {g : Nat} {D : List Nat} {cs : List Cl} {ags : List Vr} {nm : Nat} {wr : World} {F : List Nat} {ps : List Pt} {vK : Value} {Ks : List Pv} (h : PsS w g D cs ags nm wr F ps vK Ks) : KsOk Ks := ⟨h.t.good.1.pos, h.t.good.2.1⟩
theorem PsS.rng {w : World} {g : Nat} {D : List Nat} {cs : List Cl} {ags : List Vr} {nm : Nat} {wr : World} {F : List Nat} {ps : List Pt} {vK : Value} {Ks : List Pv} (h : PsS w g D cs ags nm wr F ps vK Ks) : ∀ q ∈ Ks, RngR q.r := by
  obtain ⟨_, _, _, _, hp, _⟩ := h.k
  exact fun q hq => (hp q hq).2.1
theorem PsS.below {w : World} {g : Nat} {D : List Nat} {cs : List Cl} {ags : List Vr} {nm : Nat} {wr w' : World} {F : List Nat} {ps : List Pt} {vK : Value} {Ks : List Pv} (h : PsS w g D cs ags nm wr F ps vK Ks) (hb : Below wr.heap.size wr w') : PsS w g D cs ags nm w' F ps vK Ks := ⟨h.t.below hb, h.k.to hb, h.off, h.bel.trans (hb.mono h.bel.size)⟩
def PsI (w : World) (g : Nat) (D : List Nat) (cs : List Cl) (ags : List Vr) (n : Nat) (v13 v14 : Value) (wr : World) : Prop :=
  ∃ (j : Nat) (F : List Nat) (ps : List Pt) (Ks : List Pv), v14 = .int .i64 (j : Int) ∧ Kept (j ≤ n ∧ PsS w g D cs ags j wr F ps v13 Ks)
set_option maxRecDepth 100000 in
set_option maxHeartbeats 8000000 in
theorem TallyPuts_any (v u z : Value) (cs : List Cl) (ags : List Vr) (xs : List Pv) (start : Int) (w : World) (H1 : HasC w w.heap.size v cs) (H2 : HasR w w.heap.size u ags) (H3 : HasP w w.heap.size z xs) (hlen : xs.length ≤ 140737488355328) :
    Calls Tryz.prog 3 #[v, u, z, .int .i64 start] w (fun e w' => e = .returned (.bool true) ∧ Below w.heap.size w w') := by
  have HH := Kept.mk H1
  have HR := Kept.mk H2
  have HP := Kept.mk H3
  obtain ⟨A, c, rfl, hlc, _, _⟩ := id H3
  clear H1 H2 H3 hlc
  go_enter Tryz.func3, Tryz.ntmps3
  go_wp2_with fail
  go_at_call 4
  refine (sNew_any v u cs ags w HH.out HR.out).mono ?_
  rintro e w1 ⟨h1, hb1⟩
  have HB1 := Kept.mk hb1
  clear hb1
  rcases h1 with ⟨ce, hce, hcz, rfl⟩ | ⟨h0, g, F0, D, rfl, hT⟩
  · have dz : (ce != 0) = true := by simp [hcz]
    have HCE := Kept.mk hce
    clear hcz hce
    go_wp2_with fail
    go_at_call 5
    refine (rtCols_any v u cs ags _ (HH.out.to HB1.out) (HR.out.to HB1.out)).mono ?_
    rintro e w2 ⟨v2, rfl, _, hb2⟩
    rewrite [HCE.out]
    have HB2 := Kept.mk (HB1.out.trans (hb2.mono HB1.out.size))
    clear hb2
    go_wp2_with (first | (go_at_call 6; refine (live_any _).mono ?_; rintro e w3 ⟨rfl, hb3⟩; have HB3 := Kept.mk (HB2.out.trans (hb3.mono HB2.out.size)); clear hb3))
    go_returns
    exact ⟨rfl, HB3.out⟩
  have HAG := Kept.mk (AgOk.of h0)
  have HT1 := Kept.mk hT
  have H0 := Kept.mk h0
  clear h0 hT
  go_wp2_with fail
  go_at_call 5
  refine (rtCols_any v u cs ags _ (HH.out.to HB1.out) (HR.out.to HB1.out)).mono ?_
  rintro e w2 ⟨v2, rfl, _, hb2⟩
  rewrite [H0.out]
  have HB2 := Kept.mk (HB1.out.trans (hb2.mono HB1.out.size))
  have HT2 := Kept.mk (HT1.out.below hb2)
  clear hb2 HT1 HB1 H0
  by_cases c60 : 60 < xs.length
  · have c60' : 60 < (xs.length : Int) := by omega
    clear c60
    go_wp2_with (first | (go_at_call 6; refine (live_any _).mono ?_; rintro e w3 ⟨rfl, hb3⟩; have HB3 := Kept.mk (HB2.out.trans (hb3.mono HB2.out.size)); clear hb3))
    go_returns
    exact ⟨rfl, HB3.out⟩
  have c60' : ¬ 60 < (xs.length : Int) := by omega
  have HL := Kept.mk c60
  clear c60
  go_wp2_with fail
  have hO0 : OwnK (w2.alloc (.cells #[] 72)) w2.heap.size (.slice (some ⟨w2.heap.size, 0, none⟩) 0 0) [] := OwnK.lit _ _ [] (Nat.le_refl _) (by simp)
  have hba : Below w2.heap.size w2 (w2.alloc (.cells #[] 72)) := (Below.refl _ _).alloc (Nat.le_refl _) _
  have HS0 : Kept (PsS w g D cs ags 0 (w2.alloc (.cells #[] 72)) F0 (partsOf ags) (.slice (some ⟨w2.heap.size, 0, none⟩) 0 0) []) := ⟨⟨HT2.out.below hba, hO0.hasP (by simp), ⟨fun h => absurd rfl h, by simp⟩, HB2.out.trans (hba.mono HB2.out.size)⟩⟩
  generalize w2.alloc (.cells #[] 72) = w3 at HS0 ⊢
  generalize (Value.slice (some ⟨w2.heap.size, 0, none⟩) 0 0) = vk0 at HS0 ⊢
  clear hO0 hba HT2 HB2
  go_wp2_with fail
  go_loopw [13, 14] (fun v13 v14 wr => PsI w g D cs ags xs.length v13 v14 wr) (fun v13 v14 wr => xs.length - (intOf v14).toNat)
  case atStart => exact ⟨0, F0, _, [], rfl, ⟨Nat.zero_le _, HS0.out⟩⟩
  case round =>
    obtain ⟨j, F, ps, Ks, rfl, HJ⟩ := hrel
    clear HS0
    by_cases cj : j < xs.length
    · have cj' : (j : Int) < (xs.length : Int) := by omega
      have hne : xs ≠ [] := by rintro rfl; simp at cj
      obtain ⟨_, _, hv, _, hpo, hcl⟩ := HP.out
      injection hv with hv1 hv2 hv3
      obtain ⟨b, off, hbo, hbl, hcell⟩ := hcl hne
      rw [← hv1] at hbo
      subst hbo
      obtain ⟨e0, e1⟩ := hcell j cj
      have hk := HJ.out.2.bel.block b hbl
      have e0' : wr.cell? ⟨b, off + j * 2, none⟩ = some (xs[j]).v := (World.cell?_of_block hk).trans e0
      have e1' : wr.cell? ⟨b, off + j * 2 + 1, none⟩ = some (.int .i64 (xs[j]).n) := (World.cell?_of_block hk).trans e1
      have hpj := hpo _ (List.getElem_mem cj)
      have hbw : b < wr.heap.size := by have := HJ.out.2.bel.size; omega
      have g0 : 0 ≤ (j : Int) := by omega
      have hw : wrap64 ((j : Int) + 1) = (j : Int) + 1 := by have := HL.out; simp only [wrap64]; omega
      have HW := Kept.mk hw
      have HCJ := Kept.mk cj
      have HBL := Kept.mk hbl
      have HE0 : Kept (∀ wx, Below w.heap.size w wx → b < wx.heap.size ∧ wx.cell? ⟨b, off + j * 2, none⟩ = some (xs[j]).v ∧ wx.cell? ⟨b, off + j * 2 + 1, none⟩ = some (.int .i64 (xs[j]).n)) := ⟨fun wx hx => by
        have hkx := hx.block b hbl
        exact ⟨by have := hx.size; omega, (World.cell?_of_block hkx).trans e0, (World.cell?_of_block hkx).trans e1⟩⟩
      generalize xs[j] = q at e0' e1' hpj HE0
      obtain ⟨qv, qr, qn⟩ := q
      have HPJ := Kept.mk hpj
      dsimp only at e0' e1' HE0
      clear e0 e1 hcell hcl hpo hk hpj hne hbl hv1 hv2 hv3 cj hw
      go_upto_region 11 with fail
      go_cut [15] from 46 to 112 (fun s15 wx => s15 = .int .i64 (errC cs (toC Ks) qr qn) ∧ Chg F wr wx ∧ ∃ F' ps', TalS wx w.heap.size g F' D cs ags (putC cs (toC Ks) qr qn) ps' (j + 1) ∧ ∀ k ∈ F', k ∈ F ∨ wr.heap.size ≤ k)
      case first =>
        go_region_with (first | (go_at_call 7; refine (sPut_any _ w.heap.size g F D cs ags (toC Ks) ps j qv qr qn (HJ.out.2.t.below (Below.refl _ _).drew) HAG.out (HasS.of HPJ.out.1 (HJ.out.2.bel.drew) (Nat.le_refl _) HJ.out.2.bel.size) HPJ.out.2.1 (by have := HL.out; have := HCJ.out; omega) HPJ.out.2.2).mono ?_; rintro e w4 ⟨rfl, hc4, F4, ps4, hT4, hf4, _⟩; have HT4 := Kept.mk (And.intro hT4 (And.intro hc4 hf4)); clear hT4 hc4 hf4))
        all_goals go_wp2_with fail
        all_goals
          go_meet
          exact ⟨rfl, ⟨HT4.out.2.1.os, HT4.out.2.1.tape, HT4.out.2.1.output, HT4.out.2.1.size, HT4.out.2.1.block⟩, F4, ps4, HT4.out.1, HT4.out.2.2⟩
      case rest =>
        obtain ⟨rfl, hc4, F4, ps4, hT4, hf4⟩ := hcut
        have HT4 := Kept.mk hT4
        have HB4 := Kept.mk (HJ.out.2.bel.trans (hc4.below HJ.out.2.bel.size (fun k hk => (HJ.out.2.t.inF hk).1)))
        have HK4 := Kept.mk (HJ.out.2.k.off HJ.out.2.off hc4)
        have HO4 := Kept.mk (HJ.out.2.off.next HJ.out.2.k hf4)
        have HGD := Kept.mk (And.intro HJ.out.2.t.good HJ.out.2.ks)
        rename World => wA
        obtain ⟨hbw4, t0, t1⟩ := HE0.out wA HB4.out
        clear hT4 hc4 hf4 e0' e1' hbw HJ
        go_upto_region 12 with fail
        go_cut [16, 17] from 46 to 112 (fun s16 s17 wy => ∃ Ks', s17 = .int .i64 (errC cs (toC Ks) qr qn) ∧ HasP wy wy.heap.size s16 Ks' ∧ toC Ks' = putC cs (toC Ks) qr qn ∧ NewK wA u13 Ks s16 Ks' ∧ Below wA.heap.size wA wy)
        case first =>
          go_region_with (first | (go_at_call 8; refine (rPut_any v u13 qv cs Ks qr qn _ (HH.out.to (HB4.out.drew)) (HK4.out.to ((Below.refl _ _).drew)) (HPJ.out.1.to (HB4.out.drew)) HPJ.out.2.1 HGD.out.1.1 HGD.out.2.full HPJ.out.2.2).mono ?_; rintro e w5 ⟨v5, Ks5, rfl, hK5, hC5, hN5, hb5⟩; have HK5 := Kept.mk (And.intro hK5 (And.intro hC5 (And.intro hN5 hb5))); clear hK5 hC5 hN5 hb5))
          all_goals go_wp2_with fail
          all_goals
            go_meet
            exact ⟨Ks5, rfl, HK5.out.1, HK5.out.2.1, HK5.out.2.2.1, ((Below.refl _ _).drew).trans HK5.out.2.2.2⟩
        case rest =>
          rename World => wB
          obtain ⟨Ks5, rfl, hK5, hC5, hN5, hb5⟩ := hcut
          have hT5 := HT4.out.below hb5
          rw [← hC5] at hT5
          have HS5 : Kept (PsS w g D cs ags (j + 1) wB F4 ps4 u16 Ks5) := ⟨⟨hT5, hK5, HO4.out.new hN5 (fun k hk => (HT4.out.inF hk).2), HB4.out.trans (hb5.mono HB4.out.size)⟩⟩
          clear hT5 hK5 hC5 hN5 hb5 hbw4 t0 t1 HT4 HB4 HK4 HO4 HGD HE0
          have hbne : ∀ x : Int, (x != x) = false := fun x => by simp
          generalize errC cs (toC Ks) qr qn = er
          go_wp2_with fail
          go_at_call 9
          refine (sCount_any wB w.heap.size g F4 D cs ags (toC Ks5) ps4 (j + 1) HS5.out.t).mono ?_
          rintro e w6 ⟨rfl, rfl⟩
          go_wp2_with fail
          go_at_call 10
          refine (rCount_any u16 Ks5 _ HS5.out.k HS5.out.ks).mono ?_
          rintro e w7 ⟨rfl, hb7⟩
          have HS7 := Kept.mk (HS5.out.below hb7)
          clear hb7 HS5
          go_wp2_with fail
          go_at_call 11
          refine (sRow_any w7 w.heap.size g F4 D cs ags (toC Ks5) ps4 (j + 1) start HS7.out.t HAG.out (by have := HL.out; have := HCJ.out; omega)).mono ?_
          rintro e w8 ⟨v8, rfl, hO8, hb8⟩
          have HS8 := Kept.mk (HS7.out.below hb8)
          have HV8 := Kept.mk hO8.has
          have HLN : Kept ((rowT (cntC (toC Ks5)) start ps4).1.length ≤ 140737488355328) := ⟨by have h1 := rowT_len (cntC (toC Ks5)) start ps4; have h2 := HS7.out.t.good.2.2; have h3 := HAG.out.len; omega⟩
          clear hO8 hb8 HS7
          go_wp2_with fail
          go_at_call 12
          refine (rRow_any u u16 ags Ks5 start ps4 cs w8 (HR.out.to HS8.out.bel) HS8.out.k HAG.out HS8.out.t.good.1 HS8.out.ks HS8.out.t.good.2.2 HS8.out.t.parts HS8.out.rng).mono ?_
          rintro e w9 ⟨v9, rfl, hO9, hb9⟩
          have HS9 := Kept.mk (HS8.out.below hb9)
          have HV9 := Kept.mk ((HV8.out.below hb9).up hb9.size)
          have HW9 := Kept.mk hO9.has
          clear hO9 hb9 HS8 HV8
          have HSM := Kept.mk (sameR_refl (rowT (cntC (toC Ks5)) start ps4).1)
          generalize (rowT (cntC (toC Ks5)) start ps4).1 = rr at HV9 HW9 HSM HLN
          generalize (rowT (cntC (toC Ks5)) start ps4).2 = rc
          have hw := HW.out
          go_wp2_with (first
            | (go_at_call 13; refine (rSame_any v8 v9 rr rr _ HV9.out HW9.out HLN.out).mono ?_; rintro e w10 ⟨rfl, hb10⟩; rewrite [HSM.out]; have HS10 := Kept.mk (HS9.out.below hb10); clear hb10))
          exact ⟨⟨j + 1, F4, ps4, Ks5, by first | rfl | (rw [HW.out]; rfl), ⟨HCJ.out, HS10.out⟩⟩, by first | exact less_step HW.out HCJ.out | exact less_bareK HCJ.out⟩
    · have hjl : j = xs.length := by have := HJ.out.1; omega
      subst hjl
      have cj' : ¬ ((xs.length : Int) < (xs.length : Int)) := by omega
      have HB := Kept.mk HJ.out.2.bel
      clear cj HJ
      go_wp2_with (first | (go_at_call 6; refine (live_any _).mono ?_; rintro e w3 ⟨rfl, hb3⟩; have HB3 := Kept.mk (HB.out.trans (hb3.mono HB.out.size)); clear hb3))
      go_returns
      exact ⟨rfl, HB3.out⟩
end Go.Proofs.YtnidaahimofppaaGreat
