/- What each function on wide numbers comes to, as a contract of its call: the program's own ones (2). -/
import Derived.Test.YtlpaeoclcjhbhaaWideB
namespace Go.Proofs.Ytlpaeoclcjhbhaa
open Go.RowKit
set_option linter.unusedVariables false
set_option linter.unusedSimpArgs false

/-- The pair is one of the two. -/
theorem neg_iff {a b : Int} (ha : okH a) (hb : okL b) : ((a = hiW (rnd (-(val a b))) ∧ b = loW (rnd (-(val a b)))) ∧ ¬ (a = 0 ∧ b = 0) ↔ ¬ inW (-(val a b))) ∧ (inW (-(val a b)) → rnd (-(val a b)) = -(val a b)) := by
  refine ⟨?_, rnd_in⟩
  unfold okH okL at *
  unfold rnd val hiW loW inW
  omega

set_option maxHeartbeats 1000000 in
theorem Neg_walk (a b lo bw hi b2 : Int) (h1 : Run 34 0 b 0 lo bw) (h2 : Run 34 0 (IntKind.u64.wrap a) bw hi b2) (w : World) :
    Calls Try.prog 21 #[.agg #[.int .i64 a, .int .u64 b]] w fun e w' => e = .returned (if (a = wrap64 hi ∧ b = lo) ∧ ¬ (a = 0 ∧ b = 0) then .tuple #[.agg #[.int .i64 0, .int .u64 0], .int .i64 10] else .tuple #[.agg #[.int .i64 (wrap64 hi), .int .u64 lo], .int .i64 0]) ∧ Below w.heap.size w w' := by
  unfold Run at h1 h2
  go_enter Try.func21, Try.ntmps21
  go_wp2
  all_goals go_returns
  all_goals exact ⟨by first | rfl | simp_all, by go_grown⟩
theorem Neg_any (a b : Int) (ha : okH a) (hb : okL b) (w : World) :
    Calls Try.prog 21 #[.agg #[.int .i64 a, .int .u64 b]] w fun e w' => e = .returned (.tuple #[.agg #[.int .i64 (addH (-(val a b))), .int .u64 (addL (-(val a b)))], .int .i64 (addE (-(val a b)))]) ∧ Below w.heap.size w w' := by
  have k1 := run34 0 b 0 (by unfold okL; omega) hb (by omega) (by omega)
  have k2 := run34 0 (IntKind.u64.wrap a) (if 0 < b + 0 then 1 else 0) (by unfold okL; omega) (u64_bd a) (by split <;> omega) (by split <;> omega)
  have m := half_neg ha hb ((0 + 18446744073709551616 - b - 0) % 18446744073709551616) (if 0 < b + 0 then 1 else 0) ((0 + 18446744073709551616 - IntKind.u64.wrap a - if 0 < b + 0 then 1 else 0) % 18446744073709551616) (by congr 1; omega) (by unfold okL at hb; split <;> split <;> omega) (by rw [Int.zero_add])
  have q := neg_iff ha hb
  refine (Neg_walk a b _ _ _ _ k1 k2 w).mono fun e w' ⟨he, hb⟩ => ⟨?_, hb⟩
  rw [he, m.1, m.2]
  by_cases h : inW (-(val a b))
  · rw [if_neg (fun z => q.1.1 z h), addH_in h, addL_in h, addE_in h, q.2 h]
  · rw [if_pos (q.1.2 h), addH_out h, addL_out h, addE_out h]

set_option maxHeartbeats 1000000 in
theorem Mul_walk (a b lo hi l2 bw h2 b2 : Int) (ha : okH a) (hb : okH b) (hc : ∀ w : World, Calls Try.prog 23 #[.int .u64 (a.natAbs : Int), .int .u64 (b.natAbs : Int)] w fun e w' => e = .returned (.tuple #[.int .u64 hi, .int .u64 lo]) ∧ w = w')
    (k1 : Run 34 0 lo 0 l2 bw) (k2 : Run 34 0 (IntKind.u64.wrap (wrap64 hi)) bw h2 b2) (w : World) :
    Calls Try.prog 8 #[.int .i64 a, .int .i64 b] w fun e w' => e = .returned (if (a < 0 ↔ b < 0) then .agg #[.int .i64 (wrap64 hi), .int .u64 lo] else .agg #[.int .i64 (wrap64 h2), .int .u64 l2]) ∧ Below w.heap.size w w' := by
  unfold Run at k1 k2
  have HC := Lib.hid hc
  clear hc
  by_cases c1 : a < 0 <;> by_cases c2 : b < 0
  all_goals
    first | rw [if_pos (by omega)] | rw [if_neg (by omega)]
    first | have d1 : decide (a < 0) = true := decide_eq_true c1 | have d1 : decide (a < 0) = false := decide_eq_false c1
    first | have d2 : decide (b < 0) = true := decide_eq_true c2 | have d2 : decide (b < 0) = false := decide_eq_false c2
    go_enter Try.func8, Try.ntmps8
    go_wp2_with (first | (go_at_call 24; refine (size_any _ (by assumption) _).mono ?_; rintro e w' ⟨rfl, rfl⟩) | (go_at_call 23; refine (HC.out _).mono ?_; rintro e w' ⟨rfl, rfl⟩) | go_in)
    go_returns
    exact ⟨rfl, by go_grown⟩

theorem mul_nat {a b : Int} (ha : okH a) (hb : okH b) : (a.natAbs * b.natAbs : Nat) ≤ 85070591730234615865843651857942052864 ∧ a * b = if (a < 0 ↔ b < 0) then ((a.natAbs * b.natAbs : Nat) : Int) else -((a.natAbs * b.natAbs : Nat) : Int) := by
  have h1 : a.natAbs ≤ 9223372036854775808 := by unfold okH at ha; omega
  have h2 : b.natAbs ≤ 9223372036854775808 := by unfold okH at hb; omega
  refine ⟨Nat.le_trans (Nat.mul_le_mul h1 h2) (by decide), ?_⟩
  rcases Int.natAbs_eq a with e1 | e1 <;> rcases Int.natAbs_eq b with e2 | e2
  all_goals
    rw [Int.natCast_mul]
    generalize a.natAbs = n at *
    generalize b.natAbs = m at *
    subst e1 e2
    split <;> rename_i c
  all_goals try (first | rfl | (simp only [Int.neg_mul, Int.mul_neg, Int.neg_neg]; done))
  all_goals
    have z : n = 0 ∨ m = 0 := by omega
    rcases z with rfl | rfl <;> simp
theorem mul_split {a b : Int} (ha : okH a) (hb : okH b) (hi lo l2 bw h2 : Int) (e1 : hi = ((a.natAbs * b.natAbs / 18446744073709551616 : Nat) : Int)) (e2 : lo = ((a.natAbs * b.natAbs % 18446744073709551616 : Nat) : Int))
    (e3 : l2 = (18446744073709551616 - lo) % 18446744073709551616) (e4 : bw = if lo = 0 then 0 else 1) (e5 : h2 = (18446744073709551616 - IntKind.u64.wrap (wrap64 hi) - bw) % 18446744073709551616) :
    inW (a * b) ∧ (if (a < 0 ↔ b < 0) then wrap64 hi else wrap64 h2) = hiW (a * b) ∧ (if (a < 0 ↔ b < 0) then lo else l2) = loW (a * b) := by
  obtain ⟨m, e⟩ := mul_nat ha hb
  rw [u64_eq] at e5
  rw [e]
  generalize a.natAbs * b.natAbs = n at *
  unfold inW hiW loW
  unfold wrap64 at *
  by_cases c : (a < 0 ↔ b < 0)
  · rw [if_pos c, if_pos c, if_pos c]; omega
  · rw [if_neg c, if_neg c, if_neg c]
    split at e4 <;> omega

set_option maxHeartbeats 1000000 in
theorem Compare_walk (a b c d : Int) (w : World) :
    Calls Try.prog 17 #[.agg #[.int .i64 a, .int .u64 b], .agg #[.int .i64 c, .int .u64 d]] w fun e w' => e = .returned (.int .i64 (if a < c then -1 else if c < a then 1 else if b < d then -1 else if d < b then 1 else 0)) ∧ Below w.heap.size w w' := by
  go_enter Try.func17, Try.ntmps17
  go_wp2
  all_goals go_returns
  all_goals exact ⟨by first | rfl | simp_all, by go_grown⟩
theorem Compare_any (a b c d : Int) (ha : okH a) (hb : okL b) (hc : okH c) (hd : okL d) (w : World) :
    Calls Try.prog 17 #[.agg #[.int .i64 a, .int .u64 b], .agg #[.int .i64 c, .int .u64 d]] w fun e w' => e = .returned (.int .i64 (cmpW (val a b) (val c d))) ∧ Below w.heap.size w w' := by
  refine (Compare_walk a b c d w).mono fun e w' ⟨he, hb⟩ => ⟨?_, hb⟩
  rw [he]
  congr 2
  unfold okH okL at *
  unfold cmpW val
  split <;> split <;> try (first | omega | rfl)
  all_goals (split <;> try (first | omega | rfl))
  all_goals (split <;> try (first | omega | rfl))
  all_goals (split <;> try (first | omega | rfl))
end Go.Proofs.Ytlpaeoclcjhbhaa
