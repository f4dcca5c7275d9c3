/- What each function on wide numbers comes to, as a contract of its call: the reference's. -/
import Derived.Test.YtlpaeoclcjhbhaaWideC
import Derived.Test.YtlpaeoclcjhbhaaExt
import Derived.Deep.DeepCutAuto
namespace Go.Proofs.Ytlpaeoclcjhbhaa
open Go.RowKit
set_option linter.unusedVariables false
set_option linter.unusedSimpArgs false

set_option maxHeartbeats 1000000 in
theorem parts_any (h l : Int) (L : okL l) (w : World) :
    Calls Try.prog 31 #[.agg #[.int .i64 h, .int .u64 l]] w fun e w' => e = .returned (.agg #[.int .u64 (l % 4294967296), .int .u64 (l / 4294967296), .int .u64 (IntKind.u64.wrap h % 4294967296), .int .u64 (IntKind.u64.wrap h / 4294967296), .int .i64 (sgn h)]) ∧ Below w.heap.size w w' := by
  have hu := (u64_bd h).1
  have h0 := L.1
  have h1 := L.2
  unfold sgn
  by_cases c : h < 0
  · rw [if_pos c]
    go_enter Try.func31, Try.ntmps31
    go_wp2
    go_returns
    exact ⟨rfl, by go_grown⟩
  · rw [if_neg c]
    go_enter Try.func31, Try.ntmps31
    go_wp2
    go_returns
    exact ⟨rfl, by go_grown⟩

set_option maxHeartbeats 2000000 in
theorem sum_any (p0 p1 p2 p3 s q0 q1 q2 q3 t : Int) (h0 : 0 ≤ p0) (h1 : p0 ≤ 4294967295) (h2 : 0 ≤ p1) (h3 : p1 ≤ 4294967295) (h4 : 0 ≤ p2) (h5 : p2 ≤ 4294967295) (h6 : 0 ≤ p3) (h7 : p3 ≤ 4294967295)
    (g0 : 0 ≤ q0) (g1 : q0 ≤ 4294967295) (g2 : 0 ≤ q1) (g3 : q1 ≤ 4294967295) (g4 : 0 ≤ q2) (g5 : q2 ≤ 4294967295) (g6 : 0 ≤ q3) (g7 : q3 ≤ 4294967295) (s0 : -1 ≤ s) (s1 : s ≤ 0) (t0 : -1 ≤ t) (t1 : t ≤ 0) (w : World) :
    Calls Try.prog 30 #[.agg #[.int .u64 p0, .int .u64 p1, .int .u64 p2, .int .u64 p3, .int .i64 s], .agg #[.int .u64 q0, .int .u64 q1, .int .u64 q2, .int .u64 q3, .int .i64 t]] w fun e w' => 
      e = .returned (.agg #[.int .u64 (r0 p0 q0), .int .u64 (r1 p0 q0 p1 q1), .int .u64 (r2 p0 q0 p1 q1 p2 q2), .int .u64 (r3 p0 q0 p1 q1 p2 q2 p3 q3), .int .i64 (rs p0 q0 p1 q1 p2 q2 p3 q3 s t)]) ∧ Below w.heap.size w w' := by
  unfold r0 r1 r2 r3 rs
  go_enter Try.func30, Try.ntmps30
  go_wp2
  refine wp_loop_rounds 5 ?_
  iterate 4
    rw [rounds_succ]
    go_wp2
    go_quiet (fail)
    go_wp2
  rw [rounds_succ]
  go_wp2
  go_returns
  refine ⟨rfl, ?_⟩
  iterate 4
    go_grown
    refine below_drewN ?_ _
  go_grown

set_option maxHeartbeats 1000000 in
theorem fits_any (p0 p1 p2 p3 s : Int) (h0 : 0 ≤ p3) (h1 : p3 ≤ 4294967295) (w : World) :
    Calls Try.prog 32 #[.agg #[.int .u64 p0, .int .u64 p1, .int .u64 p2, .int .u64 p3, .int .i64 s]] w fun e w' => e = .returned (.bool (if 2147483648 ≤ p3 then s == -1 else s == 0)) ∧ Below w.heap.size w w' := by
  by_cases c : 2147483648 ≤ p3
  · rw [if_pos c]
    go_enter Try.func32, Try.ntmps32
    go_wp2
    go_returns
    exact ⟨rfl, by go_grown⟩
  · rw [if_neg c]
    go_enter Try.func32, Try.ntmps32
    go_wp2
    go_returns
    exact ⟨rfl, by go_grown⟩

set_option maxHeartbeats 1000000 in
theorem back_any (p0 p1 p2 p3 s : Int) (h0 : 0 ≤ p0) (h1 : p0 ≤ 4294967295) (h2 : 0 ≤ p1) (h3 : p1 ≤ 4294967295) (h4 : 0 ≤ p2) (h5 : p2 ≤ 4294967295) (h6 : 0 ≤ p3) (h7 : p3 ≤ 4294967295) (w : World) :
    Calls Try.prog 33 #[.agg #[.int .u64 p0, .int .u64 p1, .int .u64 p2, .int .u64 p3, .int .i64 s]] w fun e w' => e = .returned (.agg #[.int .i64 (wrap64 (p3 * 4294967296 + p2)), .int .u64 (p1 * 4294967296 + p0)]) ∧ Below w.heap.size w w' := by
  rw [← or_parts p3 p2 h6 h7 h4 h5, ← or_parts p1 p0 h2 h3 h0 h1]
  go_enter Try.func33, Try.ntmps33
  go_wp2
  go_returns
  exact ⟨rfl, by go_grown⟩
theorem sgn_bd (h : Int) : -1 ≤ sgn h ∧ sgn h ≤ 0 := by unfold sgn; split <;> omega
theorem div_bd {l : Int} (h0 : 0 ≤ l) (h1 : l ≤ 18446744073709551615) : 0 ≤ l / 4294967296 ∧ l / 4294967296 ≤ 4294967295 := by omega
theorem r_bd (p0 q0 p1 q1 p2 q2 p3 q3 : Int) : (0 ≤ r0 p0 q0 ∧ r0 p0 q0 ≤ 4294967295) ∧ (0 ≤ r1 p0 q0 p1 q1 ∧ r1 p0 q0 p1 q1 ≤ 4294967295) ∧ (0 ≤ r2 p0 q0 p1 q1 p2 q2 ∧ r2 p0 q0 p1 q1 p2 q2 ≤ 4294967295) ∧ (0 ≤ r3 p0 q0 p1 q1 p2 q2 p3 q3 ∧ r3 p0 q0 p1 q1 p2 q2 p3 q3 ≤ 4294967295) := by
  unfold r0 r1 r2 r3
  exact ⟨part_bd _, part_bd _, part_bd _, part_bd _⟩

end Go.Proofs.Ytlpaeoclcjhbhaa
