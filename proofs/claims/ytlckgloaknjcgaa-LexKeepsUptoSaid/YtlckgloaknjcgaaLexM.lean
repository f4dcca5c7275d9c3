/- Layer 19 (lex): which things are tokens, as the reference has it, walked. -/
import Derived.Test.YtlckgloaknjcgaaLexF
namespace Go.Proofs.Ytlckgloaknjcgaa
open Go.RowKit
set_option linter.unusedVariables false
set_option linter.unusedSimpArgs false

theorem may_nil (k : Int) : mayB k [] = false := by simp [mayB]
theorem all_run (p : UInt8 → Bool) (l : Bs) : l.all p = decide (runB p l = l.length) := by
  by_cases h : runB p l = l.length
  · have := run_all p l
    rw [h, List.take_length] at this
    rw [this]; simp [h]
  · have h2 := run_le p l
    have := run_stop p l l.length (by omega) (Nat.le_refl _)
    rw [List.take_length] at this
    rw [this]; simp [h]
theorem u8_eq {b c : UInt8} : ((b.toNat : Int) == (c.toNat : Int)) = decide (b = c) := by
  rw [Bool.eq_iff_iff]
  simp only [beq_iff_eq, decide_eq_true_eq]
  constructor
  · intro h; exact UInt8.toNat_inj.1 (by omega)
  · rintro rfl; rfl
theorem tx_ne (s : ByteArray) (h : s.size ≠ 0) : tx s ≠ [] := by
  intro e
  have := tx_len s
  rw [e] at this
  exact h this.symm
theorem may_other {k : Int} (h1 : k ≠ 1) (h2 : k ≠ 2) (h3 : k ≠ 3) (h4 : k ≠ 4) (l : Bs) : mayB k l = false := by
  unfold mayB
  rw [if_neg h1, if_neg h2, if_neg h3, if_neg h4]
  simp

set_option maxRecDepth 100000 in
set_option maxHeartbeats 1000000 in
theorem rMay4 (s : ByteArray) (h0 : 0 < s.size) (hs : s.size ≤ 140737488355328) (w : World) :
    Calls Try.prog 14 #[.agg #[.int .i64 4, .string s]] w (fun e w' => e = .returned (.bool (mayB 4 (tx s))) ∧ Below w.heap.size w w') := by
  have f0 := tx_eqb s [61]
  have f1 := tx_eqb s [60, 62]
  have f2 := tx_eqb s [60]
  have f3 := tx_eqb s [60, 61]
  have f4 := tx_eqb s [62]
  have f5 := tx_eqb s [62, 61]
  have f6 := tx_eqb s [43]
  have f7 := tx_eqb s [43, 43]
  have f8 := tx_eqb s [45]
  have f9 := tx_eqb s [42]
  have f10 := tx_eqb s [47]
  have f11 := tx_eqb s [37]
  have f12 := tx_eqb s [40]
  have f13 := tx_eqb s [41]
  have f14 := tx_eqb s [44]
  have d0 : ((s.size : Int) == 0) = false := by rw [beq_eq_false_iff_ne]; omega
  have hne := tx_ne s (by omega)
  by_cases hm : tx s ∈ signs
  · have hv : Kept (mayB 4 (tx s) = true) := ⟨by unfold mayB; rw [if_neg hne, if_pos rfl]; simpa using hm⟩
    clear hne
    have hm : tx s = [61] ∨ tx s = [60, 62] ∨ tx s = [60] ∨ tx s = [60, 61] ∨ tx s = [62] ∨ tx s = [62, 61] ∨ tx s = [43] ∨ tx s = [43, 43] ∨ tx s = [45] ∨ tx s = [42] ∨ tx s = [47] ∨ tx s = [37] ∨ tx s = [40] ∨ tx s = [41] ∨ tx s = [44] := by simpa [signs] using hm
    go_enter Try.func14, Try.ntmps14
    rcases hm with hm | hm | hm | hm | hm | hm | hm | hm | hm | hm | hm | hm | hm | hm | hm
    all_goals
      rw [hm] at f0 f1 f2 f3 f4 f5 f6 f7 f8 f9 f10 f11 f12 f13 f14
      simp only [List.cons.injEq, and_true, and_self, and_false, false_and, decide_true, decide_false, reduceCtorEq, decide_eq_false_iff_not] at f0 f1 f2 f3 f4 f5 f6 f7 f8 f9 f10 f11 f12 f13 f14
      clear hm
      go_wp2_with fail
      go_ret
      exact ⟨by rw [hv.out]; rfl, (Below.refl _ _).alloc (Nat.le_refl _) _⟩
  · have hv : Kept (mayB 4 (tx s) = false) := ⟨by unfold mayB; rw [if_neg hne, if_pos rfl]; simpa using hm⟩
    clear hne
    rw [decide_eq_false (fun h => hm (by rw [h]; decide) : ¬ tx s = [61])] at f0
    rw [decide_eq_false (fun h => hm (by rw [h]; decide) : ¬ tx s = [60, 62])] at f1
    rw [decide_eq_false (fun h => hm (by rw [h]; decide) : ¬ tx s = [60])] at f2
    rw [decide_eq_false (fun h => hm (by rw [h]; decide) : ¬ tx s = [60, 61])] at f3
    rw [decide_eq_false (fun h => hm (by rw [h]; decide) : ¬ tx s = [62])] at f4
    rw [decide_eq_false (fun h => hm (by rw [h]; decide) : ¬ tx s = [62, 61])] at f5
    rw [decide_eq_false (fun h => hm (by rw [h]; decide) : ¬ tx s = [43])] at f6
    rw [decide_eq_false (fun h => hm (by rw [h]; decide) : ¬ tx s = [43, 43])] at f7
    rw [decide_eq_false (fun h => hm (by rw [h]; decide) : ¬ tx s = [45])] at f8
    rw [decide_eq_false (fun h => hm (by rw [h]; decide) : ¬ tx s = [42])] at f9
    rw [decide_eq_false (fun h => hm (by rw [h]; decide) : ¬ tx s = [47])] at f10
    rw [decide_eq_false (fun h => hm (by rw [h]; decide) : ¬ tx s = [37])] at f11
    rw [decide_eq_false (fun h => hm (by rw [h]; decide) : ¬ tx s = [40])] at f12
    rw [decide_eq_false (fun h => hm (by rw [h]; decide) : ¬ tx s = [41])] at f13
    rw [decide_eq_false (fun h => hm (by rw [h]; decide) : ¬ tx s = [44])] at f14
    clear hm
    go_enter Try.func14, Try.ntmps14
    go_wp2_with fail
    go_ret
    exact ⟨by rw [hv.out]; rfl, (Below.refl _ _).alloc (Nat.le_refl _) _⟩

set_option maxRecDepth 100000 in
set_option maxHeartbeats 1000000 in
theorem rMayO (s : ByteArray) (h0 : 0 < s.size) (hs : s.size ≤ 140737488355328) (k : Int) (h1 : k ≠ 1) (h2 : k ≠ 2) (h3 : k ≠ 3) (h4 : k ≠ 4) (w : World) :
    Calls Try.prog 14 #[.agg #[.int .i64 k, .string s]] w (fun e w' => e = .returned (.bool (mayB k (tx s))) ∧ Below w.heap.size w w') := by
  have hv : Kept (mayB k (tx s) = false) := ⟨may_other h1 h2 h3 h4 _⟩
  have d0 : ((s.size : Int) == 0) = false := by rw [beq_eq_false_iff_ne]; omega
  have e1 : (k == 1) = false := by simp [h1]
  have e2 : (k == 2) = false := by simp [h2]
  have e3 : (k == 3) = false := by simp [h3]
  have e4 : (k == 4) = false := by simp [h4]
  have g1 : (k != 1) = true := by simp [h1]
  have g2 : (k != 2) = true := by simp [h2]
  clear h3 h4
  go_enter Try.func14, Try.ntmps14
  go_wp2_with fail
  go_ret
  exact ⟨by rw [hv.out]; rfl, (Below.refl _ _).alloc (Nat.le_refl _) _⟩
theorem rMay0 (k : Int) (s : ByteArray) (h0 : s.size = 0) (w : World) :
    Calls Try.prog 14 #[.agg #[.int .i64 k, .string s]] w (fun e w' => e = .returned (.bool (mayB k (tx s))) ∧ Below w.heap.size w w') := by
  have hv : Kept (mayB k (tx s) = false) := ⟨by
    have h := tx_len s
    rw [h0] at h
    rw [List.eq_nil_of_length_eq_zero h]
    exact may_nil k⟩
  have d0 : ((s.size : Int) == 0) = true := by simp [h0]
  clear h0
  go_enter Try.func14, Try.ntmps14
  go_wp2_with fail
  go_ret
  exact ⟨by rw [hv.out]; rfl, (Below.refl _ _).alloc (Nat.le_refl _) _⟩
end Go.Proofs.Ytlckgloaknjcgaa
