/- SchemaBytes: the walk. -/
import Derived.Test.YthcgdlhmmgpbgaaSchG
import Derived.Test.YthcgdlhmmgpbgaaSchH
import Derived.Test.YthcgdlhmmgpbgaaSchLd
import Derived.Test.YthcgdlhmmgpbgaaSchLa
import Derived.Deep.RegionWith
import Derived.Deep.DeepCutAuto
namespace Go.Proofs.Ythcgdlhmmgpbgaa
open Go.RowKit
set_option linter.unusedVariables false
set_option linter.unusedSimpArgs false

theorem own_read {w : World} {base : Nat} {v : Value} {xs : List Int} (h : Own w base 5 v (u8s xs)) : ∃ A c, v = .slice A xs.length c ∧ (u8s xs ≠ [] → ∃ ad, A = some ad ∧ ∀ j u, (u8s xs)[j]? = some u → w.cell? (ad.add j) = some u) := by
  rcases h.cells with ⟨rfl, hn⟩ | ⟨g, c, rfl, _, _, _, _, hc⟩
  · have hx : xs.length = 0 := by have := congrArg List.length hn; rwa [u8s_len] at this
    exact ⟨none, 0, by rw [hx], fun h => absurd hn h⟩
  · refine ⟨some ⟨g, 0, none⟩, c, by rw [u8s_len], fun _ => ⟨_, rfl, fun j u hu => ?_⟩⟩
    rw [add_lit0, hc j (List.getElem?_eq_some_iff.1 hu).1, hu]
theorem HasC.but {w w' : World} {B g : Nat} {v : Value} {xs : List Cl} (h : HasC w B v xs) (hb : But g w w') (hB : B ≤ g) (hg : g ≤ w.heap.size) : HasC w' B v xs := by
  obtain ⟨A, c, hv, hlc, hc⟩ := h
  refine ⟨A, c, hv, hlc, fun hn => ?_⟩
  obtain ⟨b, off, hA, hlt, hcell⟩ := hc hn
  have hbk := hb.block b (by omega) (by omega)
  refine ⟨b, off, hA, hlt, fun i hi => ?_⟩
  obtain ⟨e0, e1⟩ := hcell i hi
  exact ⟨(World.cell?_of_block hbk).trans e0, (World.cell?_of_block hbk).trans e1⟩
set_option maxRecDepth 100000 in
set_option maxHeartbeats 10000000 in
theorem SchemaBytes_any (v : Value) (xs : List Cl) (R : List Int) (hR : ∀ b ∈ R, 0 ≤ b ∧ b ≤ 255) (hl : R.length ≤ 140737488351232) (A : Option Addr) (c : Nat) (w : World) (H1 : HasC w w.heap.size v xs) (hN : xs.length ≤ 140737488355328) (hA : ArgB w A R) :
    Calls Try.prog 8 #[v, .slice A R.length c] w (fun e w' => e = .returned (.bool true) ∧ Below w.heap.size w w') := by
  obtain ⟨A0, c0, rfl, _⟩ := id H1
  have h1 := Kept.mk H1
  have HN1 := Kept.mk hN
  have HR := Kept.mk hR
  have HL := Kept.mk hl
  have HA := Kept.mk hA
  have LB := Kept.mk (bytesC_len xs)
  clear H1 hN hR hl hA
  go_enter Try.func8, Try.ntmps8
  go_wp2_with fail
  go_at_call 32
  refine (cBytes_any _ xs w h1.out).mono ?_
  rintro e w1 ⟨vb, rfl, hO, hb⟩
  obtain ⟨r1, d1, rfl⟩ := xw_of hb
  clear hb
  have HO := Kept.mk hO
  have k2 := (own_conv hO).1
  have k2' := (own_conv hO).2
  clear hO
  have KL : Kept (∀ r d, HasC (xw w r d) (xw w r d).heap.size (.slice A0 xs.length c0) xs) := ⟨fun r d => (h1.out.below (xw_below _ _ _)).up (by rw [xw_size]; omega)⟩
  go_upto_region 2 with fail
  go_cut [23] (fun sx wx => sx = .bool false ∧ ∃ r d, wx = xw w (r1 ++ r) d)
  case first =>
    go_region_with (first
      | (go_at_call 33; refine (rcBytes_any _ xs _ (KL.out _ _)).mono ?_; rintro e w3 ⟨v3, rfl, hO3, hb3⟩; obtain ⟨r3, d3, rfl⟩ := xw_of hb3; clear hb3; have k3 := (own_conv hO3).1; have k3' := (own_conv hO3).2; simp only [xw_xw, drew_xw, drewN_xw, Array.append_assoc] at k3 k3'; clear hO3)
      | (go_at_call 34; refine (cShow_any _ xs _ (KL.out _ _) (fun _ _ => trivial)).mono ?_; rintro e w5 ⟨rfl, hb5⟩; obtain ⟨r5, d5, rfl⟩ := xw_of hb5; clear hb5)
      | (go_at_call 35; refine (rcShow_any _ xs _ (KL.out _ _)).mono ?_; rintro e w6 ⟨rfl, hb6⟩; obtain ⟨r6, d6, rfl⟩ := xw_of hb6; clear hb6))
    all_goals go_wp2_with fail
    all_goals
      go_meet
      exact ⟨rfl, _, _, rfl⟩
  case rest =>
    obtain ⟨rfl, r, d, rfl⟩ := hcut
    clear k2 k2'
    have hO2 : Own (xw w (r1 ++ r) d) w.heap.size 5 vb (u8s (bytesC xs)) := by
      have h := HO.out.xw r d
      rwa [xw_xw] at h
    have HO2 := Kept.mk hO2
    have HBW := Kept.mk (xw_below w (r1 ++ r) d)
    have HW := Kept.mk (KL.out (r1 ++ r) d)
    clear hO2 HO KL
    generalize xw w (r1 ++ r) d = wz at HO2 HBW HW ⊢
    go_wp2_with fail
    go_at_call 17
    refine (cMay_any _ _ _ xs wz HW.out (fun _ _ => trivial)).mono ?_
    rintro e w2 ⟨rfl, hb1⟩
    have B1 := Kept.mk (HW.out.next hb1)
    have BO := Kept.mk (HO2.out.below hb1)
    have BB := Kept.mk (bel_next HBW.out hb1)
    clear HW HO2 HBW hb1
    cases hm : mayC xs with
    | false =>
      have e0 : bytesC xs = [] := by simp [bytesC, hm]
      obtain ⟨A2, c2, hv, _⟩ := own_read BO.out
      rw [e0] at hv
      subst hv
      clear hm e0
      go_wp2_with (first
        | (go_at_call 9; refine (live_any w2).mono ?_; rintro e w9 ⟨rfl, hb9⟩; have EB := Kept.mk (bel_next BB.out hb9); clear hb9))
      go_returns
      exact ⟨rfl, EB.out⟩
    | true =>
      have HM := Kept.mk hm
      clear hm
      go_wp2_with (first
        | ((at_builtin); refine app_own (w0 := w2) (W := _) rfl (.tmp 33) (.tmp 34) 47 5 (.int .u8 0) 1 rfl Try.underlying47 infoB rfl (by decide) _ [] w.heap.size vb (u8s (bytesC xs)) rfl rfl (u8s_one _) ?c1 ?c2 ?c3 ?c4 ?_; (case c1 => exact Own.empty _ _ _ (Nat.le_refl _)); (case c2 => exact BO.out.alloc _); (case c3 => exact (Below.refl _ _).alloc (Nat.le_refl _) _); (case c4 => have := LB.out; simp only [u8s_len, List.length_nil]; omega); intro a1 r2 d2 hP; rw [List.nil_append] at hP; have hP1 := Kept.mk hP; clear hP)
        | ((at_builtin); refine app_row (w0 := w2) (W := _) rfl (.tmp 35) (.tmp 36) 47 5 (.int .u8 0) 1 rfl Try.underlying47 infoB rfl (by decide) _ (u8s (bytesC xs)) (u8s R) A c rfl ?c0 (u8s_one _) ?c5 hP1.out ?c6 ?c7 ?_; (case c0 => rw [u8s_len]; rfl); (case c5 => exact ((HA.out.below BB.out).below (xw_below _ _ _)).read); (case c6 => exact xw_below _ _ _); (case c7 => have := LB.out; have := HL.out; simp only [u8s_len]; omega); intro a4 r7 d7 hP; rw [← u8s_app] at hP; have hP4 := Kept.mk hP; clear hP))
      go_at_call 28
      obtain ⟨A4, c4, hv4, hread⟩ := own_read hP4.out
      subst hv4
      refine (New_arg _ (by have := LB.out; have := HL.out; simp only [List.length_append]; omega) A4 c4 _ hread).mono ?_
      rintro e wn ⟨g, rfl, hg, HRd, HBn⟩
      rw [xw_size] at hg
      have HBW5 := Kept.mk ((below_xw BB.out BB.out.size r7 d7).trans (HBn.mono (by rw [xw_size]; have := BB.out.size; omega)))
      have HG : Kept (w2.heap.size ≤ g) := ⟨by omega⟩
      have C1 := Kept.mk ((B1.out.below (xw_below _ r7 d7)).below (HBn.mono (by rw [xw_size]; omega)))
      have HGw : Kept (w.heap.size ≤ g) := ⟨Nat.le_trans BB.out.size HG.out⟩
      have HLR := Kept.mk HRd
      have HSN : Kept (w2.heap.size ≤ wn.heap.size) := ⟨by have := HBn.size; rw [xw_size] at this; omega⟩
      have hEV : readC (stOf (bytesC xs ++ R) 0 0) = ((xs, 0), (0, R)) := readC_back xs HM.out R
      have HEV := Kept.mk hEV
      have hXB : ∀ b ∈ bytesC xs ++ R, 0 ≤ b ∧ b ≤ 255 := by
        intro b hb
        rcases List.mem_append.1 hb with h | h
        · exact bytesC_range xs b h
        · exact HR.out b h
      have HXB := Kept.mk hXB
      clear hg HBn hread HRd hEV hXB hP4 hP1 BO B1
      generalize bytesC xs ++ R = B at HEV HXB HLR
      go_wp2_with fail
      go_at_call 29
      refine (cRead_any g B HXB.out 0 0 _ HLR.out).mono ?_
      rintro e w6 ⟨a6, y6, v6, rfl, hO6, hR6, hB6, hs6⟩
      rw [HEV.out] at hs6 hO6 ⊢
      have hy6 : y6 = 0 := congrArg Prod.fst hs6
      subst hy6
      have hl6 : leftS (stOf B a6 0) = (R.length : Int) := by rw [hs6]; rfl
      have HL6 := Kept.mk hl6
      have HB6 := Kept.mk (hB6.below HBW5.out HGw.out HBW5.out.size)
      have HR6 := Kept.mk hR6
      have D1 := Kept.mk ((C1.out.but hB6 HG.out (Nat.le_of_lt HLR.out.lt)).up (show w2.heap.size ≤ w6.heap.size by have := HSN.out; have := hB6.size; omega))
      have D6 := Kept.mk hO6.has
      have L8 := Kept.mk (mayC_iff.1 HM.out).1
      clear hB6 hR6 hs6 hl6 hO6 C1
      go_wp2_with fail
      go_at_call 9
      refine (live_any w6).mono ?_
      rintro e w7 ⟨rfl, hb1⟩
      have E1 := Kept.mk (D1.out.next hb1)
      have E6 := Kept.mk (D6.out.next hb1)
      have ER := Kept.mk (HR6.out.below hb1)
      have EB := Kept.mk (bel_next HB6.out hb1)
      clear D1 D6 HR6 HB6 hb1
      go_wp2_with fail
      go_at_call 16
      refine (rcSame_any _ v6 xs xs w7 E1.out E6.out (by have := L8.out; omega)).mono ?_
      rintro e w8 ⟨rfl, hb1⟩
      rewrite [sameC_refl]
      have FR := Kept.mk (ER.out.below hb1)
      have FB := Kept.mk (bel_next EB.out hb1)
      clear E1 E6 ER EB hb1
      go_wp2_with fail
      go_at_call 31
      refine (Left_read g B a6 0 _ FR.out).mono ?_
      rintro e wk ⟨rfl, hbk⟩
      rewrite [HL6.out]
      have HBK := Kept.mk (bel_next FB.out hbk)
      clear hbk
      go_wp2_with fail
      go_returns
      exact ⟨rfl, HBK.out⟩
end Go.Proofs.Ythcgdlhmmgpbgaa
