/- Layer 7 (schema): the reference's Name: walked; which texts are names. -/
import Derived.Test.YtnidaahimofppaaGreatQpag
namespace Go.Proofs.YtnidaahimofppaaGreat
open Go.RowKit Go.Shelf
set_option linter.unusedVariables false
set_option linter.unusedSimpArgs false

def RnI (s : ByteArray) (v3 : Value) (wr w : World) : Prop := ∃ i : Nat, v3 = .int .i64 (i : Int) ∧ wr = w ∧ Kept ((i ≤ s.size ∧ ∀ j, (hj : j < i) → (hs : j < s.size) → ldC s[j] = true) ∧ (0 < i → headN (tx s) = true))
theorem nameN_isKey {s : ByteArray} (h : keyN (tx s) = true) : nameN (tx s) = false := by simp only [nameN, h, Bool.not_true, Bool.and_false]
theorem headN_yes {s : ByteArray} (h0 : 0 < s.size) (h : 97 ≤ s[0].toNat) : headN (tx s) = true := by
  obtain ⟨t, ht, _⟩ := tx_cons s h0
  simp only [ht, headN, decide_eq_true_eq]
  exact h
theorem head_nat {s : ByteArray} (h0 : 0 < s.size) (h : headN (tx s) = true) : 97 ≤ (s[0].toNat : Int) := by
  obtain ⟨t, ht, _⟩ := tx_cons s h0
  simp only [ht, headN, decide_eq_true_eq] at h
  omega
set_option maxRecDepth 100000 in
set_option maxHeartbeats 2000000 in
theorem rName_any (s : ByteArray) (hs : SzB s) (w : World) : Calls Tryz.prog 19 #[.string s] w (fun e w' => e = .returned (.bool (nameN (tx s))) ∧ w' = w) := by
  by_cases h0 : 0 < s.size
  · by_cases h16 : s.size ≤ 16
    · cases hk : keyN (tx s) with
      | true =>
        have hv := nameN_isKey hk
        have i0 : ((s.size : Int) == 0) = false := by rw [beq_eq_false_iff_ne]; omega
        have i00 : ¬ s = ByteArray.empty := by rintro rfl; simp at h0
        have i1 : ¬ (16 < (s.size : Int)) := by omega
        have hk2 := (keyN_eq s).symm.trans hk
        simp only [Bool.or_eq_true] at hk2
        go_enter Tryz.func19, Tryz.ntmps19
        rcases hk2 with ((hk2 | hk2) | hk2) | hk2
        all_goals go_wp2_with fail
        all_goals first
          | (exfalso; simp_all; done)
          | (go_returns; first | exact ⟨congrArg Ending.returned (congrArg Value.bool hv.symm), rfl⟩ | exact ⟨rfl, rfl⟩)
          | trace_state
      | false =>
        have i0 : ((s.size : Int) == 0) = false := by rw [beq_eq_false_iff_ne]; omega
        have i00 : ¬ s = ByteArray.empty := by rintro rfl; simp at h0
        have i1 : ¬ (16 < (s.size : Int)) := by omega
        have hk2 := (keyN_eq s).symm.trans hk
        simp only [Bool.or_eq_false_iff] at hk2
        obtain ⟨⟨⟨k1, k2⟩, k3⟩, k4⟩ := hk2
        have HKY := Kept.mk hk
        clear hk
        go_enter Tryz.func19, Tryz.ntmps19
        go_wp2_with fail
        go_loopw [3] (fun v3 wr => RnI s v3 wr w) (fun v3 wr => s.size - (intOf v3).toNat)
        case atStart => exact ⟨0, rfl, rfl, ⟨⟨Nat.zero_le _, fun j hj => by omega⟩, fun h => by omega⟩⟩
        case round =>
          obtain ⟨i, rfl, rfl, HI⟩ := hrel
          by_cases ci : i < s.size
          · have ci' : (i : Int) < (s.size : Int) := by omega
            have f0 : 0 ≤ (i : Int) := by omega
            have hw : wrap64 ((i : Int) + 1) = (i : Int) + 1 := by have := h16; simp only [wrap64]; omega
            by_cases z : i = 0
            · subst z
              go_wp2_with fail
              all_goals first
                | (go_returns; refine ⟨?_, rfl⟩; refine congrArg Ending.returned (congrArg Value.bool (Eq.symm ?_)); first | exact nameN_head h0 (by assumption) | (refine nameN_bad 0 ci ?_; simp [ldC, letC, digD] at *; omega))
                | (refine ⟨⟨0 + 1, by first | rfl | (rw [hw]; rfl), rfl, ⟨⟨ci, upto_step ci HI.out.1.2 ?_⟩, fun _ => headN_yes h0 (by omega)⟩⟩, by first | exact less_step hw ci | exact less_bare' ci | (simp [intOf]; omega)⟩; simp [ldC, letC, digD] at *; omega)
                | trace_state
            · have z' : ¬ ((i : Int) = 0) := by omega
              have HD : Kept (headN (tx s) = true) := ⟨HI.out.2 (by omega)⟩
              go_wp2_with fail
              all_goals first
                | (go_returns; refine ⟨?_, rfl⟩; refine congrArg Ending.returned (congrArg Value.bool (Eq.symm (nameN_bad i ci ?_))); simp [ldC, letC, digD] at *; omega)
                | (refine ⟨⟨i + 1, by first | rfl | (rw [hw]; rfl), rfl, ⟨⟨ci, upto_step ci HI.out.1.2 ?_⟩, fun _ => HD.out⟩⟩, by first | exact less_step hw ci | exact less_bare' ci⟩; simp [ldC, letC, digD] at *; omega)
                | trace_state
          · have ci' : ¬ ((i : Int) < (s.size : Int)) := by omega
            have hi : i = s.size := by have := HI.out.1.1; omega
            have hv : nameN (tx s) = true := by
              rw [nameN_key h0 h16 (head_nat h0 (HI.out.2 (by omega))) (fun j hj => HI.out.1.2 j (by omega) hj), HKY.out]
              rfl
            go_wp2_with fail
            go_returns
            first | exact ⟨congrArg Ending.returned (congrArg Value.bool hv.symm), rfl⟩ | exact ⟨rfl, rfl⟩
    · have i0 : ((s.size : Int) == 0) = false := by rw [beq_eq_false_iff_ne]; omega
      have i00 : ¬ s = ByteArray.empty := by rintro rfl; simp at h0
      have i1 : 16 < (s.size : Int) := by omega
      have hk : nameN (tx s) = false := by
        have : ¬ (tx s).length ≤ 16 := by rw [tx_len]; exact h16
        simp only [nameN, decide_eq_false this, Bool.false_and]
      go_enter Tryz.func19, Tryz.ntmps19
      go_wp2_with fail
      go_returns
      first | exact ⟨congrArg Ending.returned (congrArg Value.bool hk.symm), rfl⟩ | exact ⟨rfl, rfl⟩
  · have i0 : ((s.size : Int) == 0) = true := by rw [beq_iff_eq]; omega
    have i00 : s = ByteArray.empty := by
      apply tx_inj
      rw [tx_nil (by omega)]
      rfl
    have hk : nameN (tx s) = false := by
      have : tx s = [] := tx_nil (by omega)
      rw [this]
      rfl
    go_enter Tryz.func19, Tryz.ntmps19
    go_wp2_with fail
    go_returns
    first | exact ⟨congrArg Ending.returned (congrArg Value.bool hk.symm), rfl⟩ | exact ⟨rfl, rfl⟩
end Go.Proofs.YtnidaahimofppaaGreat
