/- BinShort: the walk. -/
import Derived.Test.YtmeecaldehfnaaaBinB
import Derived.Deep.DeepCutAuto
namespace Go.Proofs.Ytmeecaldehfnaaa
open Go.RowKit
set_option linter.unusedVariables false
set_option linter.unusedSimpArgs false

/-- What was read without an error: how much is left, and what was read. -/
theorem short_pure (m : Nat) (xs : List Int) (hxs : ∀ b ∈ xs, 0 ≤ b ∧ b ≤ 255) (x a : Nat) (hm : m ≤ 10) (ha : a ≤ xs.length) (h : (x, stOf xs a 0) = grpS m (stOf xs 0 0)) : xs.take a = enc x ∧ 0 < a ∧ leftS (stOf xs a 0) = (xs.length : Int) - (a : Int) := by
  unfold grpS stOf at h
  simp only [ne_eq, not_true, if_false, if_true, List.drop_zero] at h
  cases hg : grp m 0 xs with
  | error e =>
    rw [hg] at h
    simp only [Prod.mk.injEq] at h
    exfalso
    have h1 := h.2.1
    have key : ∀ (m i : Nat) (l : List Int), grp m i l ≠ .error 0 := by
      intro m
      induction m with
      | zero => intro i l; simp [grp]
      | succ m ih =>
        intro i l
        cases l with
        | nil => simp [grp]
        | cons b t =>
          simp only [grp]
          split
          · simp
          · split
            · split <;> simp
            · have := ih (i + 1) t
              split
              · simp
              · rename_i he; rw [he] at this; simpa using this
    rw [← h1] at hg
    exact key m 0 xs hg
  | ok p =>
    obtain ⟨z, t⟩ := p
    rw [hg] at h
    simp only [Prod.mk.injEq, true_and] at h
    obtain ⟨rfl, rfl⟩ := h
    obtain ⟨e, _⟩ := grp_back m 0 xs x _ hxs hg
    have hl := congrArg List.length e
    rw [List.length_append, List.length_drop] at hl
    have h1 : 1 ≤ (enc x).length := List.length_pos_iff.2 (enc_ne x)
    have hla : (enc x).length = a := by omega
    refine ⟨?_, by omega, ?_⟩
    · have := congrArg (List.take a) e
      rw [this, ← hla, List.take_left]
    · simp [leftS, stOf]; omega

set_option maxRecDepth 100000 in
set_option maxHeartbeats 4000000 in
theorem BinShort_any (xs : List Int) (hxs : ∀ b ∈ xs, 0 ≤ b ∧ b ≤ 255) (hl : xs.length ≤ 140737488351232) (A : Option Addr) (c : Nat) (hc : xs.length ≤ c) (hm : c ≤ maxLen) (w : World) (hA : ArgB w A xs) :
    Calls Try.prog 3 #[.slice A xs.length c] w (fun e w' => e = .returned (.bool true) ∧ Below w.heap.size w w') := by
  have HX := Kept.mk hxs
  have HA := Kept.mk hA
  have HC := Kept.mk hm
  have HL := Kept.mk hl
  clear hxs hA hm hl
  go_enter Try.func3, Try.ntmps3

  go_wp2_with fail
  go_at_call 7
  refine (New_arg xs (by have := HL.out; omega) A c _ HA.out.read).mono ?_
  rintro e wa1 ⟨g1, rfl, hg1, HR1, HBa1⟩
  have HB1 := Kept.mk (HBa1)
  have HG1 := Kept.mk hg1
  clear HBa1 hg1
  go_wp2_with fail
  go_at_call 8
  refine (Num_read g1 _ HX.out 0 0 _ HR1).mono ?_
  rintro e wb1 ⟨x1, a1, y1, rfl, HRb1, hBb1, hs1⟩
  have HBB1 := Kept.mk (hBb1.below HB1.out HG1.out HB1.out.size)
  have HS1 := Kept.mk hs1
  have hx1 : x1 < 9223372036854775808 := by
    have := (grpS_lt 9 (by decide) (stOf xs 0 0) (stOf_range xs HX.out 0 0)).2 (by decide)
    rw [← hs1] at this; exact this
  have HRK1 := Kept.mk HRb1
  clear hBb1 hs1 HR1 HRb1
  go_upto_region 3 with fail
  go_cut [32] (fun sx wx => sx = .bool false ∧ Below w.heap.size w wx)
  case first =>
    by_cases cy : y1 = 0
    · subst cy
      obtain ⟨ht, ha0, hleft⟩ := short_pure 9 xs HX.out x1 a1 (by decide) HRK1.out.at_le HS1.out
      have ha := HRK1.out.at_le
      obtain ⟨L, hL⟩ : ∃ L : Int, L = (xs.length : Int) - (a1 : Int) := ⟨_, rfl⟩
      rw [← hL] at hleft
      have HLE := Kept.mk hleft
      have kk := HA.out.convs HBB1.out HBB1.out.size a1 c ha ha0
      rw [ht] at kk
      obtain ⟨kd, kx⟩ := kk
      have hne : u8s xs ≠ [] := by
        intro e
        have h := congrArg List.length e
        rw [u8s_len] at h
        have h1 : xs.length = 0 := h
        omega
      obtain ⟨bb, off, hAe, _, _⟩ := HA.out hne
      subst hAe
      clear hne
      have f1 : wrap64 ((xs.length : Int) - L) = (a1 : Int) := by have := HL.out; simp only [wrap64]; omega
      have f2 : decide ((xs.length : Int) < L) = false := decide_eq_false (by omega)
      have f3 : (a1 : Int) ≤ (c : Int) := by omega
      have f4 : 0 ≤ (a1 : Int) := by omega
      have f5 : ¬ c = 0 := by omega
      have f6 : IntKind.i64.wrap ((xs.length : Int) - L) = (a1 : Int) := by have := HL.out; rw [IntKind.wrap_i64]; omega
      have f7 : IntKind.i64.wrap (a1 : Int) = (a1 : Int) := by have := HL.out; rw [IntKind.wrap_i64]; omega
      have f8 : (xs.length : Int) - L = (a1 : Int) := by omega
      clear ht ha0 hleft hL
      go_region_with
        (first
          | (go_at_call 9; refine (Err_read g1 xs a1 0 _ HRK1.out.drew).mono ?_; rintro e w5 ⟨rfl, rfl⟩)
          | (go_at_call 10; refine (Left_read g1 xs a1 0 _ (by first | exact HRK1.out.drew | exact HRK1.out.xw _ _)).mono ?_; rintro e w5 ⟨rfl, hb5⟩; rewrite [HLE.out]; obtain ⟨r5, d5, rfl⟩ := xw_of hb5; clear hb5)
          | (go_at_call 11; refine (Num_any _ (by omega) _).mono ?_; rintro e w6 ⟨v6, rfl, hO6, hb6⟩; rw [numB_nat] at hO6; obtain ⟨r6, d6, rfl⟩ := xw_of hb6; clear hb6; have k6 := (own_conv hO6).1; have k6' := (own_conv hO6).2; simp only [xw_xw, drew_xw, drewN_xw, Array.append_assoc] at k6 k6'; clear hO6))
      all_goals go_wp2_with fail
      all_goals
        go_meet
        exact ⟨rfl, below_xw HBB1.out HBB1.out.size _ _⟩
    · have d0 : (y1 == 0) = false := by simp [cy]
      go_quiet ((go_at_call 9; refine Calls.quiet_of_same ((Err_read g1 xs a1 y1 _ (HRK1.out.drewN _)).mono (fun e w' h => ⟨h.1, h.2.symm⟩))))
      all_goals go_wp2_with fail
      all_goals
        go_meet
        exact ⟨rfl, below_drewN HBB1.out _⟩
  case rest =>
    obtain ⟨rfl, hBc⟩ := hcut

    go_wp2_with fail
    go_at_call 7
    refine (New_arg xs (by have := HL.out; omega) A c _ (HA.out.below hBc).read).mono ?_
    rintro e wa2 ⟨g2, rfl, hg2, HR2, HBa2⟩
    have HB2 := Kept.mk (hBc.trans (HBa2.mono hBc.size))
    have HG2 := Kept.mk hg2
    clear HBa2 hg2
    go_wp2_with fail
    go_at_call 12
    refine (Int_read g2 _ HX.out 0 0 _ HR2).mono ?_
    rintro e wb2 ⟨x2, a2, y2, rfl, HRb2, hBb2, hs2⟩
    have HBB2 := Kept.mk (hBb2.below HB2.out (Nat.le_trans hBc.size HG2.out) HB2.out.size)
    have HS2 := Kept.mk hs2
    have hx2 : x2 < 18446744073709551616 := by
      have := (grpS_lt 10 (by decide) (stOf xs 0 0) (stOf_range xs HX.out 0 0)).1
      rw [← hs2] at this; exact this
    have HRK2 := Kept.mk HRb2
    clear hBb2 hs2 HR2 HRb2
    go_upto_region 7 with fail
    go_cut [60] (fun sx wx => sx = .bool false ∧ Below w.heap.size w wx)
    case first =>
      by_cases cy : y2 = 0
      · subst cy
        obtain ⟨ht, ha0, hleft⟩ := short_pure 10 xs HX.out x2 a2 (by decide) HRK2.out.at_le HS2.out
        have ha := HRK2.out.at_le
        obtain ⟨L, hL⟩ : ∃ L : Int, L = (xs.length : Int) - (a2 : Int) := ⟨_, rfl⟩
        rw [← hL] at hleft
        have HLE := Kept.mk hleft
        have kk := HA.out.convs HBB2.out HBB2.out.size a2 c ha ha0
        rw [ht] at kk
        obtain ⟨kd, kx⟩ := kk
        have hne : u8s xs ≠ [] := by
          intro e
          have h := congrArg List.length e
          rw [u8s_len] at h
          have h1 : xs.length = 0 := h
          omega
        obtain ⟨bb, off, hAe, _, _⟩ := HA.out hne
        subst hAe
        clear hne
        have f1 : wrap64 ((xs.length : Int) - L) = (a2 : Int) := by have := HL.out; simp only [wrap64]; omega
        have f2 : decide ((xs.length : Int) < L) = false := decide_eq_false (by omega)
        have f3 : (a2 : Int) ≤ (c : Int) := by omega
        have f4 : 0 ≤ (a2 : Int) := by omega
        have f5 : ¬ c = 0 := by omega
        have f6 : IntKind.i64.wrap ((xs.length : Int) - L) = (a2 : Int) := by have := HL.out; rw [IntKind.wrap_i64]; omega
        have f7 : IntKind.i64.wrap (a2 : Int) = (a2 : Int) := by have := HL.out; rw [IntKind.wrap_i64]; omega
        have f8 : (xs.length : Int) - L = (a2 : Int) := by omega
        clear ht ha0 hleft hL
        go_region_with
          (first
            | (go_at_call 9; refine (Err_read g2 xs a2 0 _ HRK2.out.drew).mono ?_; rintro e w5 ⟨rfl, rfl⟩)
            | (go_at_call 10; refine (Left_read g2 xs a2 0 _ (by first | exact HRK2.out.drew | exact HRK2.out.xw _ _)).mono ?_; rintro e w5 ⟨rfl, hb5⟩; rewrite [HLE.out]; obtain ⟨r5, d5, rfl⟩ := xw_of hb5; clear hb5)
            | (go_at_call 13; refine (Int_any (unzig x2) (by unfold unzig; split <;> omega) (by unfold unzig; split <;> omega) _).mono ?_; rintro e w6 ⟨v6, rfl, hO6, hb6⟩; unfold intB at hO6; rw [zig_unzig] at hO6; obtain ⟨r6, d6, rfl⟩ := xw_of hb6; clear hb6; have k6 := (own_conv hO6).1; have k6' := (own_conv hO6).2; simp only [xw_xw, drew_xw, drewN_xw, Array.append_assoc] at k6 k6'; clear hO6))
        all_goals go_wp2_with fail
        all_goals
          go_meet
          exact ⟨rfl, below_xw HBB2.out HBB2.out.size _ _⟩
      · have d0 : (y2 == 0) = false := by simp [cy]
        go_quiet ((go_at_call 9; refine Calls.quiet_of_same ((Err_read g2 xs a2 y2 _ (HRK2.out.drewN _)).mono (fun e w' h => ⟨h.1, h.2.symm⟩))))
        all_goals go_wp2_with fail
        all_goals
          go_meet
          exact ⟨rfl, below_drewN HBB2.out _⟩
    case rest =>
      obtain ⟨rfl, hBd⟩ := hcut
      go_wp2_with (first | (go_at_call 14; refine (live_any _).mono ?_; rintro e w9 ⟨rfl, hb9⟩))
      go_ret
      exact ⟨rfl, hBd.trans (hb9.mono hBd.size)⟩

end Go.Proofs.Ytmeecaldehfnaaa
