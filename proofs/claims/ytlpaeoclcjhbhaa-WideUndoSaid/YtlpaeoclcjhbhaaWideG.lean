/- What each function on wide numbers comes to, as a contract of its call: layer 1's reference; and what must be whatever is asked. -/
import Derived.Test.YtlpaeoclcjhbhaaWideF
namespace Go.Proofs.Ytlpaeoclcjhbhaa
open Go.RowKit
set_option linter.unusedVariables false
set_option linter.unusedSimpArgs false

theorem sAdd_any (a b : Int) (ha : okH a) (hb : okH b) (w : World) :
    Calls Try.prog 13 #[.int .i64 a, .int .i64 b] w fun e w' => e = .returned (.tuple #[.int .i64 (intN (a + b)), .int .i64 (intE (a + b))]) ∧ w = w' := by
  have a0 := ha.1
  have a1 := ha.2
  have b0 := hb.1
  have b1 := hb.2
  by_cases h : in64 (a + b)
  · have e : intN (a + b) = a + b ∧ intE (a + b) = 0 := ⟨if_pos h, if_pos h⟩
    rw [e.1, e.2]
    unfold in64 at h
    have h0 := h.1
    have h1 := h.2
    clear e h
    by_cases c : b > 0 <;> by_cases c2 : b < 0
    all_goals first | (exfalso; omega) | skip
    all_goals
      go_enter Try.func13, Try.ntmps13
      go_wp2
      go_ret2
      exact ⟨rfl, rfl⟩
  · have e : intN (a + b) = 0 ∧ intE (a + b) = 10 := ⟨if_neg h, if_neg h⟩
    rw [e.1, e.2]
    unfold in64 at h
    clear e
    by_cases c : b > 0
    · have c2 : ¬ b < 0 := by omega
      have c3 : a > 9223372036854775807 - b := by omega
      clear h
      go_enter Try.func13, Try.ntmps13
      go_wp2
      go_ret2
      exact ⟨rfl, rfl⟩
    · have c2 : b < 0 := by omega
      have c3 : a < -9223372036854775808 - b := by omega
      clear h
      go_enter Try.func13, Try.ntmps13
      go_wp2
      go_ret2
      exact ⟨rfl, rfl⟩

theorem wrap_mod (n : Int) : ∃ k, wrap64 n = n + k * 18446744073709551616 := ⟨-((n + 9223372036854775808) / 18446744073709551616), by unfold wrap64; omega⟩
theorem mul_back {a b : Int} (ha : okH a) (hb : okH b) (h0 : b ≠ 0) (h1 : ¬ (a = -1 ∧ b = -9223372036854775808)) (h2 : ¬ (b = -1 ∧ a = -9223372036854775808)) :
    (in64 (a * b) → wrap64 (a * b) = a * b ∧ wrap64 ((wrap64 (a * b)).tdiv b) = a) ∧ (¬ in64 (a * b) → wrap64 ((wrap64 (a * b)).tdiv b) ≠ a) := by
  have hw : ∀ n, okH (wrap64 n) := by intro n; unfold okH wrap64; omega
  refine ⟨fun h => ?_, fun h e => h ?_⟩
  · have e : wrap64 (a * b) = a * b := by unfold in64 at h; unfold wrap64; omega
    rw [e, Int.mul_tdiv_cancel _ h0]
    exact ⟨rfl, by unfold okH at ha; unfold wrap64; omega⟩
  · generalize hc : wrap64 (a * b) = c at *
    have hc2 := hw (a * b)
    rw [hc] at hc2
    obtain ⟨k, hk⟩ := wrap_mod (a * b)
    rw [hc] at hk
    -- the quotient is its own wrap, but for the least number by -1
    have hd := Int.mul_tdiv_add_tmod c b
    have hm1 : (c.tmod b).natAbs < b.natAbs := by rw [Int.natAbs_tmod]; exact Nat.mod_lt _ (by omega)
    by_cases hq : wrap64 (c.tdiv b) = c.tdiv b
    · rw [hq] at e
      rw [e] at hd
      have hcomm : b * a = a * b := Int.mul_comm b a
      have : k = 0 := by unfold okH at hb; omega
      subst this
      unfold in64
      unfold okH at hc2
      omega
    · exfalso
      have hle : (c.tdiv b).natAbs ≤ c.natAbs := by rw [Int.natAbs_tdiv]; exact Nat.div_le_self _ _
      have hlt : c.tdiv b = 9223372036854775808 := by
        unfold okH at hc2
        unfold wrap64 at hq
        omega
      have hcc : c = -9223372036854775808 := by unfold okH at hc2; omega
      have hb1 : b = -1 := by
        subst hcc
        rw [hlt] at hd
        unfold okH at hb
        omega
      refine h2 ⟨hb1, ?_⟩
      rw [hlt] at e
      unfold wrap64 at e
      omega

set_option maxHeartbeats 1000000 in
theorem sMul_any (a b : Int) (ha : okH a) (hb : okH b) (w : World) :
    Calls Try.prog 10 #[.int .i64 a, .int .i64 b] w fun e w' => e = .returned (.tuple #[.int .i64 (intN (a * b)), .int .i64 (intE (a * b))]) ∧ w = w' := by
  have z0 : intN 0 = 0 ∧ intE 0 = 0 := ⟨rfl, rfl⟩
  by_cases a0 : a = 0
  · subst a0
    rw [Int.zero_mul, z0.1, z0.2]
    go_enter Try.func10, Try.ntmps10
    go_wp2
    go_ret2
    exact ⟨rfl, rfl⟩
  by_cases b0 : b = 0
  · subst b0
    rw [Int.mul_zero, z0.1, z0.2]
    have d0 : (a == 0) = false := beq_eq_false_iff_ne.2 a0
    go_enter Try.func10, Try.ntmps10
    go_wp2
    go_ret2
    exact ⟨rfl, rfl⟩
  have d0 : (a == 0) = false := beq_eq_false_iff_ne.2 a0
  have d1 : (b == 0) = false := beq_eq_false_iff_ne.2 b0
  by_cases c1 : a = -1 ∧ b = -9223372036854775808
  · have e : intN (a * b) = 0 ∧ intE (a * b) = 10 := by rw [c1.1, c1.2]; exact ⟨rfl, rfl⟩
    rw [e.1, e.2]
    have k1 : (a == -1) = true := by rw [c1.1]; rfl
    have k2 : (b == -9223372036854775808) = true := by rw [c1.2]; rfl
    clear e c1 a0 b0
    go_enter Try.func10, Try.ntmps10
    go_wp2
    go_ret2
    exact ⟨rfl, rfl⟩
  by_cases c2 : b = -1 ∧ a = -9223372036854775808
  · have e : intN (a * b) = 0 ∧ intE (a * b) = 10 := by rw [c2.1, c2.2]; exact ⟨rfl, rfl⟩
    rw [e.1, e.2]
    have k1 : (a == -1) = false := by rw [c2.2]; rfl
    have k2 : (b == -1) = true := by rw [c2.1]; rfl
    have k3 : (a == -9223372036854775808) = true := by rw [c2.2]; rfl
    clear e c1 c2 a0 b0
    go_enter Try.func10, Try.ntmps10
    go_wp2
    go_ret2
    exact ⟨rfl, rfl⟩
  have m := mul_back ha hb b0 c1 c2
  have f1 : ((a == -1) && (b == -9223372036854775808)) = false := by
    rw [Bool.and_eq_false_iff, beq_eq_false_iff_ne, beq_eq_false_iff_ne]; omega
  have f2 : ((b == -1) && (a == -9223372036854775808)) = false := by
    rw [Bool.and_eq_false_iff, beq_eq_false_iff_ne, beq_eq_false_iff_ne]; omega
  by_cases h : in64 (a * b)
  · have e : intN (a * b) = wrap64 (a * b) ∧ intE (a * b) = 0 := ⟨by rw [(m.1 h).1]; exact if_pos h, if_pos h⟩
    rw [e.1, e.2]
    have f3 : (wrap64 ((wrap64 (a * b)).tdiv b) != a) = false := by rw [(m.1 h).2]; exact bne_self_eq_false _
    clear e m c1 c2 h
    cases k1 : (a == -1) <;> cases k2 : (b == -1) <;> rw [k1] at f1 <;> rw [k2] at f2 <;> simp only [Bool.true_and, Bool.false_and] at f1 f2
    all_goals
      go_enter Try.func10, Try.ntmps10
      go_wp2
      go_ret2
      exact ⟨rfl, rfl⟩
  · have e : intN (a * b) = 0 ∧ intE (a * b) = 10 := ⟨if_neg h, if_neg h⟩
    rw [e.1, e.2]
    have f3 : (wrap64 ((wrap64 (a * b)).tdiv b) != a) = true := bne_iff_ne.2 (m.2 h)
    clear e m c1 c2 h
    cases k1 : (a == -1) <;> cases k2 : (b == -1) <;> rw [k1] at f1 <;> rw [k2] at f2 <;> simp only [Bool.true_and, Bool.false_and] at f1 f2
    all_goals
      go_enter Try.func10, Try.ntmps10
      go_wp2
      go_ret2
      exact ⟨rfl, rfl⟩

theorem Mul_any (a b : Int) (ha : okH a) (hb : okH b) (w : World) :
    Calls Try.prog 8 #[.int .i64 a, .int .i64 b] w fun e w' => e = .returned (.agg #[.int .i64 (hiW (a * b)), .int .u64 (loW (a * b))]) ∧ Below w.heap.size w w' := by
  have hl : okL ((a.natAbs * b.natAbs % 18446744073709551616 : Nat) : Int) := by unfold okL; omega
  have hh : okH a ∧ okH b := ⟨ha, hb⟩
  have na : a.natAbs < 18446744073709551616 := by unfold okH at hh; omega
  have nb : b.natAbs < 18446744073709551616 := by unfold okH at hh; omega
  have k1 := run34 0 ((a.natAbs * b.natAbs % 18446744073709551616 : Nat) : Int) 0 (by unfold okL; omega) hl (by omega) (by omega)
  have k2 := run34 0 (IntKind.u64.wrap (wrap64 ((a.natAbs * b.natAbs / 18446744073709551616 : Nat) : Int))) (if 0 < ((a.natAbs * b.natAbs % 18446744073709551616 : Nat) : Int) + 0 then 1 else 0) (by unfold okL; omega) (u64_bd _) (by split <;> omega) (by split <;> omega)
  have m := mul_split ha hb ((a.natAbs * b.natAbs / 18446744073709551616 : Nat) : Int) ((a.natAbs * b.natAbs % 18446744073709551616 : Nat) : Int) _ (if 0 < ((a.natAbs * b.natAbs % 18446744073709551616 : Nat) : Int) + 0 then 1 else 0) _ rfl rfl rfl (by split <;> split <;> omega) rfl
  refine (Mul_walk a b ((a.natAbs * b.natAbs % 18446744073709551616 : Nat) : Int) ((a.natAbs * b.natAbs / 18446744073709551616 : Nat) : Int) _ _ _ _ ha hb (fun w => (Try.bits_Mul64 a.natAbs b.natAbs na nb w).mono fun e w' ⟨h1, h2⟩ => ⟨h1, h2.symm⟩) k1 k2 w).mono fun e w' ⟨he, hb⟩ => ⟨?_, hb⟩
  rw [he, ← m.2.1, ← m.2.2]
  by_cases c : (a < 0 ↔ b < 0)
  · rw [if_pos c, if_pos c, if_pos c]
  · rw [if_neg c, if_neg c, if_neg c]
    have e1 : (0 + 18446744073709551616 - ((a.natAbs * b.natAbs % 18446744073709551616 : Nat) : Int) - 0) % 18446744073709551616 = (18446744073709551616 - ((a.natAbs * b.natAbs % 18446744073709551616 : Nat) : Int)) % 18446744073709551616 := by congr 1; omega
    rw [e1, Int.zero_add]

instance decOkH (n : Int) : Decidable (okH n) := by unfold okH; exact inferInstance
instance decOkL (n : Int) : Decidable (okL n) := by unfold okL; exact inferInstance
theorem of3 (n : Int) (h : okH n) : okH (hiW n) ∧ okL (loW n) := ⟨by unfold okH hiW at *; omega, okL_lo n⟩
theorem live1 (w : World) : Calls Try.prog 14 #[.agg #[.int .i64 (hiW (-5)), .int .u64 (loW (-5))], .agg #[.int .i64 (hiW 3), .int .u64 (loW 3)]] w fun e w' => e = .returned (.tuple #[.agg #[.int .i64 (hiW (-2)), .int .u64 (loW (-2))], .int .i64 0]) ∧ Below w.heap.size w w' := by
  have h := Add_any (hiW (-5)) (loW (-5)) (hiW 3) (loW 3) (by decide) (by decide) (by decide) (by decide) w
  rw [val_hl, val_hl] at h
  exact h
theorem live2 (w : World) : Calls Try.prog 9 #[.agg #[.int .i64 (hiW (-2)), .int .u64 (loW (-2))]] w fun e w' => e = .returned (.tuple #[.int .i64 (-2), .int .i64 0]) ∧ Below w.heap.size w w' := by
  have h := Int_any (hiW (-2)) (loW (-2)) (by decide) (by decide) w
  rw [val_hl] at h
  exact h
theorem live3 (w : World) : Calls Try.prog 8 #[.int .i64 (-9223372036854775808), .int .i64 (-9223372036854775808)] w fun e w' => e = .returned (.agg #[.int .i64 4611686018427387904, .int .u64 0]) ∧ Below w.heap.size w w' :=
  Mul_any (-9223372036854775808) (-9223372036854775808) (by decide) (by decide) w
theorem live4 (w : World) : Calls Try.prog 17 #[.agg #[.int .i64 (hiW (-1)), .int .u64 (loW (-1))], .agg #[.int .i64 (hiW 0), .int .u64 (loW 0)]] w fun e w' => e = .returned (.int .i64 (-1)) ∧ Below w.heap.size w w' := by
  have h := Compare_any (hiW (-1)) (loW (-1)) (hiW 0) (loW 0) (by decide) (by decide) (by decide) (by decide) w
  rw [val_hl, val_hl] at h
  exact h
set_option maxHeartbeats 1000000 in
theorem live_any (w : World) :
    Calls Try.prog 11 #[] w fun e w' => e = .returned (.bool true) ∧ Below w.heap.size w w' := by
  go_enter Try.func11, Try.ntmps11
  go_wp2_with (first
    | (go_at_call 16; refine (Of_any _ (by decide) _).mono ?_; rintro e w' ⟨rfl, hb1⟩; obtain ⟨r, dr, rfl⟩ := xw_of hb1; clear hb1)
    | (go_at_call 14; refine (live1 _).mono ?_; rintro e w' ⟨rfl, hb1⟩; obtain ⟨r, dr, rfl⟩ := xw_of hb1; clear hb1)
    | (go_at_call 9; refine (live2 _).mono ?_; rintro e w' ⟨rfl, hb1⟩; obtain ⟨r, dr, rfl⟩ := xw_of hb1; clear hb1)
    | (go_at_call 8; refine (live3 _).mono ?_; rintro e w' ⟨rfl, hb1⟩; obtain ⟨r, dr, rfl⟩ := xw_of hb1; clear hb1)
    | (go_at_call 17; refine (live4 _).mono ?_; rintro e w' ⟨rfl, hb1⟩; obtain ⟨r, dr, rfl⟩ := xw_of hb1; clear hb1))
  go_returns
  refine ⟨rfl, ?_⟩
  repeat' (first | (with_reducible exact Below.refl _ _) | (with_reducible assumption) | (with_reducible refine below_xw ?_ ?_ _ _) | (with_reducible refine below_drewN ?_ _) | (with_reducible refine Below.drew ?_) | (with_reducible refine Below.setCell ?_ ?_ _) | (with_reducible refine Below.alloc ?_ ?_ _) | (simp [xw_size]; done) | (simp [xw_size]; omega) | (dsimp only; omega))
end Go.Proofs.Ytlpaeoclcjhbhaa
