/- What each function on wide numbers comes to, as a contract of its call: the reference's (3). -/
import Derived.Test.YtlpaeoclcjhbhaaWideE
namespace Go.Proofs.Ytlpaeoclcjhbhaa
open Go.RowKit
set_option linter.unusedVariables false
set_option linter.unusedSimpArgs false

set_option maxHeartbeats 1000000 in
theorem rOf_any (n : Int) (h : okH n) (w : World) :
    Calls Try.prog 19 #[.int .i64 n] w fun e w' => e = .returned (.agg #[.int .i64 (hiW n), .int .u64 (loW n)]) ∧ Below w.heap.size w w' := by
  have e1 : hiW n = if n < 0 then -1 else 0 := by unfold hiW okH at *; split <;> omega
  have e2 : loW n = IntKind.u64.wrap n := by unfold loW; rw [u64_eq]
  rw [e1, e2]
  go_enter Try.func19, Try.ntmps19
  go_wp2
  all_goals
    go_returns
    exact ⟨by first | rfl | simp_all, by go_grown⟩

set_option maxHeartbeats 1000000 in
theorem rInt_any (a b : Int) (ha : okH a) (hb : okL b) (w : World) :
    Calls Try.prog 15 #[.agg #[.int .i64 a, .int .u64 b]] w fun e w' => e = .returned (.tuple #[.int .i64 (intN (val a b)), .int .i64 (intE (val a b))]) ∧ Below w.heap.size w w' := by
  have m := int_of ha hb
  rw [← m.1, ← m.2.1]
  have e : (hiW (wrap64 b) = a ∧ loW (wrap64 b) = b) ↔ (a = 0 ∧ 0 ≤ wrap64 b ∨ a = -1 ∧ wrap64 b < 0) := by
    unfold okH okL at *
    unfold hiW loW wrap64
    omega
  clear m
  by_cases c : a = 0 ∧ 0 ≤ wrap64 b ∨ a = -1 ∧ wrap64 b < 0
  · rw [if_pos (e.2 c), if_pos (e.2 c)]
    clear e
    rcases c with ⟨rfl, c⟩ | ⟨rfl, c⟩
    all_goals
      go_enter Try.func15, Try.ntmps15
      go_wp2
      all_goals go_returns
      all_goals exact ⟨by first | rfl | simp_all, by go_grown⟩
  · rw [if_neg (fun z => c (e.1 z)), if_neg (fun z => c (e.1 z))]
    clear e
    go_enter Try.func15, Try.ntmps15
    go_wp2
    all_goals go_returns
    all_goals exact ⟨by first | rfl | (exfalso; omega) | (simp_all; omega), by go_grown⟩

set_option maxHeartbeats 1000000 in
theorem rCompare_walk (a b c d : Int) (w : World) :
    Calls Try.prog 18 #[.agg #[.int .i64 a, .int .u64 b], .agg #[.int .i64 c, .int .u64 d]] w fun e w' => e = .returned (.int .i64 (if a < c then -1 else if c < a then 1 else if b < d then -1 else if d < b then 1 else 0)) ∧ Below w.heap.size w w' := by
  go_enter Try.func18, Try.ntmps18
  go_wp2
  all_goals go_returns
  all_goals exact ⟨by first | rfl | (simp_all; done) | (congr 2; repeat' split) <;> first | rfl | (exfalso; omega), by go_grown⟩
theorem cmp_of {a b c d : Int} (ha : okH a) (hb : okL b) (hc : okH c) (hd : okL d) : (if a < c then -1 else if c < a then 1 else if b < d then -1 else if d < b then 1 else 0) = cmpW (val a b) (val c d) := by
  unfold okH okL at *
  unfold cmpW val
  split <;> split <;> try (first | omega | rfl)
  all_goals (split <;> try (first | omega | rfl))
  all_goals (split <;> try (first | omega | rfl))
  all_goals (split <;> try (first | omega | rfl))
theorem rCompare_any (a b c d : Int) (ha : okH a) (hb : okL b) (hc : okH c) (hd : okL d) (w : World) :
    Calls Try.prog 18 #[.agg #[.int .i64 a, .int .u64 b], .agg #[.int .i64 c, .int .u64 d]] w fun e w' => e = .returned (.int .i64 (cmpW (val a b) (val c d))) ∧ Below w.heap.size w w' := by
  refine (rCompare_walk a b c d w).mono fun e w' ⟨he, hb⟩ => ⟨?_, hb⟩
  rw [he, cmp_of ha ‹okL b› hc hd]

theorem comp_bd {x : Int} (h : 0 ≤ x ∧ x ≤ 4294967295) : 0 ≤ 4294967295 - x ∧ 4294967295 - x ≤ 4294967295 := by omega
theorem num_comp (p0 p1 p2 p3 s : Int) : num5 (4294967295 - p0) (4294967295 - p1) (4294967295 - p2) (4294967295 - p3) (-1 - s) = -1 - num5 p0 p1 p2 p3 s := by
  unfold num5; omega
theorem num_one : num5 1 0 0 0 0 = 1 := by unfold num5; omega
theorem sgn_comp (h : Int) : -1 ≤ -1 - sgn h ∧ -1 - sgn h ≤ 0 := by have := sgn_bd h; omega

set_option maxHeartbeats 1000000 in
theorem rNeg_any (a b : Int) (ha : okH a) (hb : okL b) (w : World) :
    Calls Try.prog 22 #[.agg #[.int .i64 a, .int .u64 b]] w fun e w' => e = .returned (.tuple #[.agg #[.int .i64 (addH (-(val a b))), .int .u64 (addL (-(val a b)))], .int .i64 (addE (-(val a b)))]) ∧ Below w.heap.size w w' := by
  have hb0 := hb.1
  have hb9 := hb.2
  have hu := u64_bd a
  have hs := sgn_bd a
  have q0 := part_bd b
  have q1 := div_bd hb.1 hb.2
  have q2 := part_bd (IntKind.u64.wrap a)
  have q3 := div_bd hu.1 hu.2
  have rb := r_bd (4294967295 - b % 4294967296) 1 (4294967295 - b / 4294967296) 0 (4294967295 - IntKind.u64.wrap a % 4294967296) 0 (4294967295 - IntKind.u64.wrap a / 4294967296) 0
  have m := num_back (V := -(val a b)) rb.1.1 rb.1.2 rb.2.1.1 rb.2.1.2 rb.2.2.1.1 rb.2.2.1.2 rb.2.2.2.1 rb.2.2.2.2 (s := rs (4294967295 - b % 4294967296) 1 (4294967295 - b / 4294967296) 0 (4294967295 - IntKind.u64.wrap a % 4294967296) 0 (4294967295 - IntKind.u64.wrap a / 4294967296) 0 (-1 - sgn a) 0) (by rw [num_sum, num_comp, num_one, parts_num ha hb]; omega)
  have Q := Lib.hid (And.intro q0 (And.intro q1 (And.intro q2 q3)))
  have RB := Lib.hid rb
  have C := Lib.hid (sgn_comp a)
  have M := Lib.hid m
  clear rb m
  have hF : ∃ B, (if 2147483648 ≤ r3 (4294967295 - b % 4294967296) 1 (4294967295 - b / 4294967296) 0 (4294967295 - IntKind.u64.wrap a % 4294967296) 0 (4294967295 - IntKind.u64.wrap a / 4294967296) 0 then rs (4294967295 - b % 4294967296) 1 (4294967295 - b / 4294967296) 0 (4294967295 - IntKind.u64.wrap a % 4294967296) 0 (4294967295 - IntKind.u64.wrap a / 4294967296) 0 (-1 - sgn a) 0 == -1 else rs (4294967295 - b % 4294967296) 1 (4294967295 - b / 4294967296) 0 (4294967295 - IntKind.u64.wrap a % 4294967296) 0 (4294967295 - IntKind.u64.wrap a / 4294967296) 0 (-1 - sgn a) 0 == 0) = B := ⟨_, rfl⟩
  obtain ⟨B, hF⟩ := hF
  have HF := Lib.hid hF
  clear hF
  cases B
  all_goals
    go_enter Try.func22, Try.ntmps22
    go_wp2_with (first | (go_at_call 31; refine (parts_any _ _ (by assumption) _).mono ?_; rintro e w' ⟨rfl, hb1⟩; obtain ⟨r, dr, rfl⟩ := xw_of hb1; clear hb1))
    refine wp_loop_rounds 5 ?_
    iterate 4
      rw [rounds_succ]
      go_wp2
    rw [rounds_succ]
    go_wp2_with (first
      | (go_at_call 30; refine (sum_any _ _ _ _ _ _ _ _ _ _ (comp_bd Q.out.1).1 (comp_bd Q.out.1).2 (comp_bd Q.out.2.1).1 (comp_bd Q.out.2.1).2 (comp_bd Q.out.2.2.1).1 (comp_bd Q.out.2.2.1).2 (comp_bd Q.out.2.2.2).1 (comp_bd Q.out.2.2.2).2 (by omega) (by omega) (by omega) (by omega) (by omega) (by omega) (by omega) (by omega) C.out.1 C.out.2 (by omega) (by omega) _).mono ?_; rintro e w' ⟨rfl, hb1⟩; obtain ⟨r, dr, rfl⟩ := xw_of hb1; clear hb1)
      | (go_at_call 32; refine (fits_to _ _ _ _ _ _ RB.out.2.2.2.1 RB.out.2.2.2.2 HF.out _).mono ?_; rintro e w' ⟨rfl, hb1⟩; obtain ⟨r, dr, rfl⟩ := xw_of hb1; clear hb1)
      | (go_at_call 33; refine (back_any _ _ _ _ _ RB.out.1.1 RB.out.1.2 RB.out.2.1.1 RB.out.2.1.2 RB.out.2.2.1.1 RB.out.2.2.1.2 RB.out.2.2.2.1 RB.out.2.2.2.2 _).mono ?_; rintro e w' ⟨rfl, hb1⟩; obtain ⟨r, dr, rfl⟩ := xw_of hb1; clear hb1))
    go_returns
  · have h : ¬ inW (-(val a b)) := fun z => by have := M.out.1.2 z; rw [HF.out] at this; cases this
    refine ⟨by rw [addH_out h, addL_out h, addE_out h], ?_⟩
    repeat' (first | (with_reducible exact Below.refl _ _) | (with_reducible assumption) | (with_reducible refine below_xw ?_ ?_ _ _) | (with_reducible refine below_drewN ?_ _) | (with_reducible refine Below.drew ?_) | (with_reducible refine Below.setCell ?_ ?_ _) | (with_reducible refine Below.alloc ?_ ?_ _) | (simp [xw_size]; done) | (simp [xw_size]; omega) | (dsimp only; omega))
  · have h := M.out.1.1 HF.out
    refine ⟨by rw [addH_in h, addL_in h, addE_in h, ← (M.out.2 h).1, ← (M.out.2 h).2], ?_⟩
    repeat' (first | (with_reducible exact Below.refl _ _) | (with_reducible assumption) | (with_reducible refine below_xw ?_ ?_ _ _) | (with_reducible refine below_drewN ?_ _) | (with_reducible refine Below.drew ?_) | (with_reducible refine Below.setCell ?_ ?_ _) | (with_reducible refine Below.alloc ?_ ?_ _) | (simp [xw_size]; done) | (simp [xw_size]; omega) | (dsimp only; omega))
end Go.Proofs.Ytlpaeoclcjhbhaa
