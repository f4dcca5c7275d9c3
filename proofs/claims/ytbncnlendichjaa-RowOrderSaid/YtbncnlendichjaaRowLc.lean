/- RowOrder: the walk. -/
import Derived.Test.YtbncnlendichjaaRowLa
namespace Go.Proofs.Ytbncnlendichjaa
open Go.RowKit
set_option linter.unusedVariables false
set_option linter.unusedSimpArgs false

theorem cmpR_flip (a b : List Vr) : cmpR b a = - cmpR a b := by
  unfold cmpR
  by_cases h : mayR a = true ∧ mayR b = true
  · rw [if_pos h, if_pos ⟨h.2, h.1⟩, cmpL_flip]
  · rw [if_neg h, if_neg (fun h2 => h ⟨h2.2, h2.1⟩)]; rfl
theorem cmpR_range (a b : List Vr) : cmpR a b = -1 ∨ cmpR a b = 0 ∨ cmpR a b = 1 := by
  unfold cmpR
  split
  · exact cmpL_range a b
  · omega
set_option maxRecDepth 100000 in
set_option maxHeartbeats 8000000 in
theorem RowOrder_any (v u t : Value) (xs ys zs : List Vr) (w : World) (H1 : HasR w w.heap.size v xs) (H2 : HasR w w.heap.size u ys) (H3 : HasR w w.heap.size t zs) (hN1 : xs.length ≤ 140737488355328) (hN2 : ys.length ≤ 140737488355328) :
    Calls Try.prog 3 #[v, u, t] w (fun e w' => e = .returned (.bool true) ∧ Below w.heap.size w w') := by
  have h1 := Kept.mk H1
  have h2 := Kept.mk H2
  have h3 := Kept.mk H3
  have HN1 := Kept.mk hN1
  have HN2 := Kept.mk hN2
  clear H1 H2 H3 hN1 hN2
  have HX := Kept.mk (cmpR_range xs ys)
  have HF := Kept.mk (cmpR_flip xs ys)
  have HZ0 : Kept (mayR xs = true → mayR ys = true → (cmpR xs ys = 0 ↔ xs = ys)) := ⟨fun m1 m2 => by
    have e : cmpR xs ys = cmpL xs ys := by simp [cmpR, m1, m2]
    rw [e]
    exact cmpL_zero xs ys (mayR_iff.1 m1).2 (mayR_iff.1 m2).2⟩
  have HT : Kept (mayR xs = true → mayR ys = true → mayR zs = true → cmpR xs ys ≤ 0 → cmpR ys zs ≤ 0 → cmpR xs zs = min (cmpR xs ys) (cmpR ys zs)) := ⟨fun m1 m2 m3 => by
    have e1 : cmpR xs ys = cmpL xs ys := by simp [cmpR, m1, m2]
    have e2 : cmpR ys zs = cmpL ys zs := by simp [cmpR, m2, m3]
    have e3 : cmpR xs zs = cmpL xs zs := by simp [cmpR, m1, m3]
    rw [e1, e2, e3]
    exact cmpL_trans xs ys zs (mayR_iff.1 m1).2 (mayR_iff.1 m2).2 (mayR_iff.1 m3).2⟩
  have HY := Kept.mk (cmpR_range ys zs)
  have C1 := Kept.mk (fun W a b => Compare_any v u xs ys W a b)
  have C2 := Kept.mk (fun W a b => Compare_any u v ys xs W a b)
  have C3 := Kept.mk (fun W a b => rCompare_any v u xs ys W a b HN1.out HN2.out)
  have C4 := Kept.mk (fun W a b => Compare_any u t ys zs W a b)
  have C5 := Kept.mk (fun W a b => Compare_any v t xs zs W a b)
  rw [HF.out] at C2
  clear HF
  generalize cmpR xs ys = x at HX HZ0 HT C1 C2 C3
  generalize cmpR ys zs = y at HT C4 HY
  generalize cmpR xs zs = z at HT C5
  have hw : wrap64 (-x) = -x := by have := HX.out; simp only [wrap64]; omega
  have hx1 : -1 ≤ x := by have := HX.out; omega
  have hx2 : x ≤ 1 := by have := HX.out; omega
  go_enter Try.func3, Try.ntmps3
  go_wp2_with fail
  go_at_call 9
  refine (C1.out w h1.out h2.out).mono ?_
  rintro e w1 ⟨rfl, hb1⟩
  have A1 := Kept.mk (h1.out.next hb1)
  have A2 := Kept.mk (h2.out.next hb1)
  have A3 := Kept.mk (h3.out.next hb1)
  have AB := Kept.mk hb1
  clear h1 h2 h3 hb1
  go_wp2_with fail
  go_at_call 10
  refine (C3.out w1 A1.out A2.out).mono ?_
  rintro e w2 ⟨rfl, hb1⟩
  have B1 := Kept.mk (A1.out.next hb1)
  have B2 := Kept.mk (A2.out.next hb1)
  have B3 := Kept.mk (A3.out.next hb1)
  have BB := Kept.mk (bel_next AB.out hb1)
  clear A1 A2 A3 AB hb1
  go_wp2_with fail
  go_at_call 9
  refine (C2.out w2 B2.out B1.out).mono ?_
  rintro e w3 ⟨rfl, hb1⟩
  have D1 := Kept.mk (B1.out.next hb1)
  have D2 := Kept.mk (B2.out.next hb1)
  have D3 := Kept.mk (B3.out.next hb1)
  have DB := Kept.mk (bel_next BB.out hb1)
  clear B1 B2 B3 BB hb1
  go_wp2_with fail
  go_at_call 11
  refine (May_any v xs w3 D1.out).mono ?_
  rintro e w4 ⟨rfl, hb1⟩
  have E1 := Kept.mk (D1.out.next hb1)
  have E2 := Kept.mk (D2.out.next hb1)
  have E3 := Kept.mk (D3.out.next hb1)
  have EB := Kept.mk (bel_next DB.out hb1)
  clear D1 D2 D3 DB hb1
  go_wp2_with fail
  go_at_call 12
  refine (rMay_any v xs w4 E1.out HN1.out).mono ?_
  rintro e w5 ⟨rfl, hb1⟩
  have F1 := Kept.mk (E1.out.next hb1)
  have F2 := Kept.mk (E2.out.next hb1)
  have F3 := Kept.mk (E3.out.next hb1)
  have FB := Kept.mk (bel_next EB.out hb1)
  clear E1 E2 E3 EB hb1
  have hbb : (mayR xs != mayR xs) = false := by simp
  go_wp2_with fail
  go_at_call 11
  refine (May_any v xs w5 F1.out).mono ?_
  rintro e w6 ⟨rfl, hb1⟩
  have G1 := Kept.mk (F1.out.next hb1)
  have G2 := Kept.mk (F2.out.next hb1)
  have G3 := Kept.mk (F3.out.next hb1)
  have GB := Kept.mk (bel_next FB.out hb1)
  clear F1 F2 F3 FB hb1 hbb
  cases m1 : mayR xs with
  | false =>
    go_wp2_with (first | (go_at_call 13; refine (live_any w6).mono ?_; rintro e w9 ⟨rfl, hb9⟩; have EB := Kept.mk (bel_next GB.out hb9); clear hb9))
    go_returns
    exact ⟨rfl, EB.out⟩
  | true =>
    have M1 := Kept.mk m1
    clear m1
    go_wp2_with fail
    go_at_call 11
    refine (May_any u ys w6 G2.out).mono ?_
    rintro e w7 ⟨rfl, hb1⟩
    have I1 := Kept.mk (G1.out.next hb1)
    have I2 := Kept.mk (G2.out.next hb1)
    have I3 := Kept.mk (G3.out.next hb1)
    have IB := Kept.mk (bel_next GB.out hb1)
    clear G1 G2 G3 GB hb1
    cases m2 : mayR ys with
    | false =>
      go_wp2_with (first | (go_at_call 13; refine (live_any w7).mono ?_; rintro e w9 ⟨rfl, hb9⟩; have EB := Kept.mk (bel_next IB.out hb9); clear hb9))
      go_returns
      exact ⟨rfl, EB.out⟩
    | true =>
      have M2 := Kept.mk m2
      clear m2
      go_wp2_with fail
      go_at_call 11
      refine (May_any t zs w7 I3.out).mono ?_
      rintro e w8 ⟨rfl, hb1⟩
      have J1 := Kept.mk (I1.out.next hb1)
      have J2 := Kept.mk (I2.out.next hb1)
      have J3 := Kept.mk (I3.out.next hb1)
      have JB := Kept.mk (bel_next IB.out hb1)
      clear I1 I2 I3 IB hb1
      cases m3 : mayR zs with
      | false =>
        go_wp2_with (first | (go_at_call 13; refine (live_any w8).mono ?_; rintro e w9 ⟨rfl, hb9⟩; have EB := Kept.mk (bel_next JB.out hb9); clear hb9))
        go_returns
        exact ⟨rfl, EB.out⟩
      | true =>
        have HT2 := Kept.mk (HT.out M1.out M2.out m3)
        have HZ2 := Kept.mk (HZ0.out M1.out M2.out)
        have L1 := Kept.mk (mayR_iff.1 M1.out).1
        clear m3 HT HZ0
        go_wp2_with fail
        go_at_call 9
        refine (C4.out w8 J2.out J3.out).mono ?_
        rintro e w9 ⟨rfl, hb1⟩
        have K1 := Kept.mk (J1.out.next hb1)
        have K2 := Kept.mk (J2.out.next hb1)
        have K3 := Kept.mk (J3.out.next hb1)
        have KB := Kept.mk (bel_next JB.out hb1)
        clear J1 J2 J3 JB hb1
        go_wp2_with fail
        go_at_call 9
        refine (C5.out w9 K1.out K3.out).mono ?_
        rintro e wa ⟨rfl, hb1⟩
        have N1 := Kept.mk (K1.out.next hb1)
        have N2 := Kept.mk (K2.out.next hb1)
        have NB := Kept.mk (bel_next KB.out hb1)
        clear K1 K2 K3 KB hb1
        go_upto_region 8 with fail
        go_cut [65] (fun s65 wx => s65 = .bool false ∧ wx = wa)
        case first =>
          by_cases cx : x ≤ 0
          · by_cases cy : y ≤ 0
            · have hz := HT2.out cx cy
              have hmm : (z != min x y) = false := by rw [hz]; simp
              have HMM := Kept.mk hmm
              subst hz
              go_wp2_with fail
              go_meet
              exact ⟨rfl, rfl⟩
            · go_wp2_with fail
              go_meet
              exact ⟨rfl, rfl⟩
          · go_wp2_with fail
            go_meet
            exact ⟨rfl, rfl⟩
        case rest =>
          obtain ⟨rfl, rfl⟩ := hcut
          go_wp2_with fail
          go_at_call 13
          refine (live_any _).mono ?_
          rintro e wb ⟨rfl, hb1⟩
          have P1 := Kept.mk (N1.out.next hb1)
          have P2 := Kept.mk (N2.out.next hb1)
          have PB := Kept.mk (bel_next NB.out hb1)
          clear hb1
          have HQ : Kept ((x == 0) = sameR xs ys) := ⟨by
            rw [Bool.eq_iff_iff, beq_iff_eq, sameR_iff]
            exact HZ2.out⟩
          have hq2 : ((x == 0) == sameR xs ys) = true := by rw [HQ.out]; simp
          go_wp2_with fail
          go_at_call 14
          refine (rSame_any v u xs ys wb P1.out P2.out (by have := L1.out; omega)).mono ?_
          rintro e wd ⟨rfl, hb1⟩
          have QB := Kept.mk (bel_next PB.out hb1)
          clear hb1
          go_wp2_with fail
          go_returns
          exact ⟨rfl, QB.out⟩
end Go.Proofs.Ytbncnlendichjaa
