/- ValueOrder: the walk. -/
import Derived.Test.YtmibpaegcbaaaaaValL
namespace Go.Proofs.Ytmibpaegcbaaaaa
open Go.RowKit
set_option linter.unusedVariables false
set_option linter.unusedSimpArgs false

theorem cmpV_range (a b : Va) : cmpV a b = -1 ∨ cmpV a b = 0 ∨ cmpV a b = 1 := by
  unfold cmpV cmpI
  have := cb_range a.t b.t
  split
  · split
    · split
      · split
        · omega
        · split <;> omega
      · omega
    · split <;> omega
  · omega
set_option maxRecDepth 100000 in
set_option maxHeartbeats 8000000 in
theorem ValueOrder_any (k0 n0 k1 n1 k2 n2 : Int) (s0 s1 s2 : ByteArray) (w : World) :
    Calls Try.prog 4 #[va k0 n0 s0, va k1 n1 s1, va k2 n2 s2] w (fun e w' => e = .returned (.bool true) ∧ Below w.heap.size w w') := by
  have hflip := cmpV_flip ⟨k0, n0, tx s0⟩ ⟨k1, n1, tx s1⟩
  have hrx := cmpV_range ⟨k0, n0, tx s0⟩ ⟨k1, n1, tx s1⟩
  have hzero := cmpV_zero ⟨k0, n0, tx s0⟩ ⟨k1, n1, tx s1⟩
  have htr := cmpV_trans ⟨k0, n0, tx s0⟩ ⟨k1, n1, tx s1⟩ ⟨k2, n2, tx s2⟩
  generalize hx : cmpV ⟨k0, n0, tx s0⟩ ⟨k1, n1, tx s1⟩ = x at hflip hrx hzero htr
  have HFL := Kept.mk hflip
  have HX := Kept.mk hx
  have HRX := Kept.mk hrx
  have HZ := Kept.mk hzero
  have HT := Kept.mk htr
  have hneg : wrap64 (-x) = -x := by simp only [wrap64]; omega
  clear hflip hrx hzero htr hx
  go_enter Try.func4, Try.ntmps4
  go_wp2_with fail
  go_at_call 16
  refine (comp_any k0 n0 k1 n1 s0 s1 _).mono ?_
  rintro e w1 ⟨rfl, hb1⟩
  obtain ⟨r1, d1, rfl⟩ := xw_of hb1
  clear hb1
  rewrite [HX.out]
  go_wp2_with fail
  go_at_call 17
  refine (rcomp_any k0 n0 k1 n1 s0 s1 _).mono ?_
  rintro e w1 ⟨rfl, hb1⟩
  obtain ⟨r2, d2, rfl⟩ := xw_of hb1
  clear hb1
  rewrite [HX.out]
  go_wp2_with fail
  go_at_call 16
  refine (comp_any k1 n1 k0 n0 s1 s0 _).mono ?_
  rintro e w1 ⟨rfl, hb1⟩
  obtain ⟨r3, d3, rfl⟩ := xw_of hb1
  clear hb1
  rewrite [HFL.out]
  go_wp2_with fail
  go_at_call 10
  refine (may_any k0 n0 s0 _).mono ?_
  rintro e w1 ⟨rfl, hb1⟩
  obtain ⟨r4, d4, rfl⟩ := xw_of hb1
  clear hb1
  cases ma : mayV ⟨k0, n0, tx s0⟩ with
  | false =>
    clear HT HZ HRX HFL HX hneg
    go_wp2_with (first | (go_at_call 14; refine (live_any _).mono ?_; rintro e w9 ⟨rfl, hb9⟩; obtain ⟨r9, d9, rfl⟩ := xw_of hb9; clear hb9))
    go_returns
    exact ⟨rfl, below_xw ((((Below.refl _ _).alloc (Nat.le_refl _) _).alloc (by simp) _).alloc (by simp; omega) _) (by simp; omega) _ _⟩
  | true =>
    go_wp2_with fail
    go_at_call 10
    refine (may_any k1 n1 s1 _).mono ?_
    rintro e w1 ⟨rfl, hb1⟩
    obtain ⟨r5, d5, rfl⟩ := xw_of hb1
    clear hb1
    cases mb : mayV ⟨k1, n1, tx s1⟩ with
    | false =>
      clear HT HZ HRX HFL HX hneg ma
      go_wp2_with (first | (go_at_call 14; refine (live_any _).mono ?_; rintro e w9 ⟨rfl, hb9⟩; obtain ⟨r9, d9, rfl⟩ := xw_of hb9; clear hb9))
      go_returns
      exact ⟨rfl, below_xw ((((Below.refl _ _).alloc (Nat.le_refl _) _).alloc (by simp) _).alloc (by simp; omega) _) (by simp; omega) _ _⟩
    | true =>
      go_wp2_with fail
      go_at_call 10
      refine (may_any k2 n2 s2 _).mono ?_
      rintro e w1 ⟨rfl, hb1⟩
      obtain ⟨r6, d6, rfl⟩ := xw_of hb1
      clear hb1
      cases mc : mayV ⟨k2, n2, tx s2⟩ with
      | false =>
        clear HT HZ HRX HFL HX hneg ma mb
        go_wp2_with (first | (go_at_call 14; refine (live_any _).mono ?_; rintro e w9 ⟨rfl, hb9⟩; obtain ⟨r9, d9, rfl⟩ := xw_of hb9; clear hb9))
        go_returns
        exact ⟨rfl, below_xw ((((Below.refl _ _).alloc (Nat.le_refl _) _).alloc (by simp) _).alloc (by simp; omega) _) (by simp; omega) _ _⟩
      | true =>
        have hry := cmpV_range ⟨k1, n1, tx s1⟩ ⟨k2, n2, tx s2⟩
        have htr := HT.out ma mb mc
        have hz := HZ.out ma mb
        generalize hy : cmpV ⟨k1, n1, tx s1⟩ ⟨k2, n2, tx s2⟩ = y at hry htr
        generalize hzz : cmpV ⟨k0, n0, tx s0⟩ ⟨k2, n2, tx s2⟩ = z at htr
        have HY := Kept.mk hy
        have HZZ := Kept.mk hzz
        have HTR := Kept.mk htr
        have HZ2 := Kept.mk hz
        have HRY := Kept.mk hry
        clear hry htr hz hy hzz HT HZ ma mb mc HFL HX hneg
        go_wp2_with fail
        go_at_call 16
        refine (comp_any k1 n1 k2 n2 s1 s2 _).mono ?_
        rintro e w1 ⟨rfl, hb1⟩
        obtain ⟨r7, d7, rfl⟩ := xw_of hb1
        clear hb1
        rewrite [HY.out]
        go_wp2_with fail
        go_at_call 16
        refine (comp_any k0 n0 k2 n2 s0 s2 _).mono ?_
        rintro e w1 ⟨rfl, hb1⟩
        obtain ⟨r8, d8, rfl⟩ := xw_of hb1
        clear hb1
        rewrite [HZZ.out]
        have HEQ : Kept ((x = 0 ∧ k0 = k1 ∧ n0 = n1 ∧ s0 = s1) ∨ (x ≠ 0 ∧ k0 ≠ k1) ∨ (x ≠ 0 ∧ k0 = k1 ∧ n0 ≠ n1) ∨ (x ≠ 0 ∧ k0 = k1 ∧ n0 = n1 ∧ ¬ (s0.toList = s1.toList))) := ⟨by
          have h : x = 0 ↔ (k0 = k1 ∧ n0 = n1 ∧ tx s0 = tx s1) := HZ2.out
          by_cases c : x = 0
          · obtain ⟨h1, h2, h3⟩ := h.1 c
            exact .inl ⟨c, h1, h2, tx_inj h3⟩
          · right
            by_cases c1 : k0 = k1
            · by_cases c2 : n0 = n1
              · right; right
                refine ⟨c, c1, c2, fun e => ?_⟩
                rw [tx_toList, tx_toList] at e
                exact c (h.2 ⟨c1, c2, e⟩)
              · right; left; exact ⟨c, c1, c2⟩
            · left; exact ⟨c, c1⟩⟩
        have HZV : Kept (x ≤ 0 → y ≤ 0 → z = min x y) := HTR
        clear HZ2 HTR
        have hfin : ∀ (wf : World), Below w.heap.size w wf → Below w.heap.size w wf := fun _ h => h
        rcases HRX.out with hxv | hxv | hxv <;> rcases HRY.out with hyv | hyv | hyv
        all_goals
          subst hxv
          subst hyv
        all_goals
          first
            | (have hz0 := HZV.out (by decide) (by decide); simp only [show min (-1 : Int) (-1) = -1 from by decide, show min (-1 : Int) 0 = -1 from by decide, show min (0 : Int) (-1) = -1 from by decide, show min (0 : Int) 0 = 0 from by decide] at hz0; subst hz0)
            | skip
        all_goals
          rcases HEQ.out with ⟨g0, rfl, rfl, rfl⟩ | ⟨g0, g1⟩ | ⟨g0, rfl, g2⟩ | ⟨g0, rfl, rfl, g3⟩
        all_goals first | (exact absurd g0 (by decide)) | (exact absurd rfl g0) | skip
        all_goals
          clear HEQ HZV HRX HRY HY HZZ
          go_wp2_with (first | (go_at_call 14; refine (live_any _).mono ?_; rintro e w9 ⟨rfl, hb9⟩; obtain ⟨r9, d9, rfl⟩ := xw_of hb9; clear hb9))
          go_returns
          exact ⟨rfl, below_xw ((((Below.refl _ _).alloc (Nat.le_refl _) _).alloc (by simp) _).alloc (by simp; omega) _) (by simp; omega) _ _⟩
end Go.Proofs.Ytmibpaegcbaaaaa
