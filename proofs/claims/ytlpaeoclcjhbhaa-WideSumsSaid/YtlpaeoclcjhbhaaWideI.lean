/- The laws of layer 23 (wide), walked: each call returns true, and nothing that was there has changed. -/
import Derived.Test.YtlpaeoclcjhbhaaWideH
namespace Go.Proofs.Ytlpaeoclcjhbhaa
open Go.RowKit
set_option linter.unusedVariables false
set_option linter.unusedSimpArgs false

set_option maxHeartbeats 1000000 in
theorem Sums_walk (a b c d : Int) (ha : okH a) (hb : okL b) (hc : okH c) (hd : okL d) (w : World) :
    Calls Try.prog 6 #[.agg #[.int .i64 a, .int .u64 b], .agg #[.int .i64 c, .int .u64 d]] w fun e w' => e = .returned (.bool true) ∧ Below w.heap.size w w' := by
  go_enter Try.func6, Try.ntmps6
  go_wp2_with (first
    | (go_at_call 14; refine (Add_any _ _ _ _ ha hb hc hd _).mono ?_; rintro e w' ⟨rfl, hb1⟩; obtain ⟨r, dr, rfl⟩ := xw_of hb1; clear hb1)
    | (go_at_call 20; refine (rAdd_any _ _ _ _ ha hb hc hd _).mono ?_; rintro e w' ⟨rfl, hb1⟩; obtain ⟨r, dr, rfl⟩ := xw_of hb1; clear hb1)
    | (go_at_call 21; refine (Neg_any _ _ ha hb _).mono ?_; rintro e w' ⟨rfl, hb1⟩; obtain ⟨r, dr, rfl⟩ := xw_of hb1; clear hb1)
    | (go_at_call 22; refine (rNeg_any _ _ ha hb _).mono ?_; rintro e w' ⟨rfl, hb1⟩; obtain ⟨r, dr, rfl⟩ := xw_of hb1; clear hb1)
    | (go_at_call 11; refine (live_any _).mono ?_; rintro e w' ⟨rfl, hb1⟩; obtain ⟨r, dr, rfl⟩ := xw_of hb1; clear hb1))
  go_returns
  refine ⟨by first | rfl | simp, ?_⟩
  repeat' (first | (with_reducible exact Below.refl _ _) | (with_reducible assumption) | (with_reducible refine below_xw ?_ ?_ _ _) | (with_reducible refine below_drewN ?_ _) | (with_reducible refine Below.drew ?_) | (with_reducible refine Below.setCell ?_ ?_ _) | (with_reducible refine Below.alloc ?_ ?_ _) | (simp [xw_size]; done) | (simp [xw_size]; omega) | (dsimp only; omega))

set_option maxHeartbeats 1000000 in
theorem Undo_walk (a b c d : Int) (ha : okH a) (hb : okL b) (hc : okH c) (hd : okL d) (w : World) :
    Calls Try.prog 7 #[.agg #[.int .i64 a, .int .u64 b], .agg #[.int .i64 c, .int .u64 d]] w fun e w' => e = .returned (.bool true) ∧ Below w.heap.size w w' := by
  have k1 : ∀ w : World, Calls Try.prog 14 #[.agg #[.int .i64 c, .int .u64 d], .agg #[.int .i64 a, .int .u64 b]] w fun e w' => e = .returned (.tuple #[.agg #[.int .i64 (addH (val a b + val c d)), .int .u64 (addL (val a b + val c d))], .int .i64 (addE (val a b + val c d))]) ∧ Below w.heap.size w w' := by
    intro w
    rw [Int.add_comm (val a b)]
    exact Add_any c d a b hc hd ha hb w
  have K1 := Lib.hid k1
  clear k1
  have p1 := okH_add (val a b + val c d)
  have p2 := okL_add (val a b + val c d)
  have p3 := okH_add (-(val c d))
  have p4 := okL_add (-(val c d))
  by_cases h1 : inW (val a b + val c d)
  · by_cases h2 : inW (-(val c d))
    · have e1 : addE (val a b + val c d) = 0 := addE_in h1
      have e2 : addE (-(val c d)) = 0 := addE_in h2
      have k2 : ∀ w : World, Calls Try.prog 14 #[.agg #[.int .i64 (addH (val a b + val c d)), .int .u64 (addL (val a b + val c d))], .agg #[.int .i64 (addH (-(val c d))), .int .u64 (addL (-(val c d)))]] w fun e w' => e = .returned (.tuple #[.agg #[.int .i64 a, .int .u64 b], .int .i64 0]) ∧ Below w.heap.size w w' := by
        intro w
        have h := Add_any _ _ _ _ p1 p2 p3 p4 w
        rw [addH_in h1, addL_in h1, addH_in h2, addL_in h2, val_hl, val_hl] at h
        have e : val a b + val c d + -val c d = val a b := by omega
        have v := val_in ha hb
        rw [e, addH_in v, addL_in v, addE_in v, hi_val hb, lo_val hb] at h
        rw [addH_in h1, addL_in h1, addH_in h2, addL_in h2]
        exact h
      have K2 := Lib.hid k2
      clear k2 h1 h2
      go_enter Try.func7, Try.ntmps7
      go_wp2_with fail
      refine (Add_any _ _ _ _ ha hb hc hd _).mono ?_
      rintro e w1 ⟨rfl, hb1⟩
      obtain ⟨r, dr, rfl⟩ := xw_of hb1
      clear hb1
      go_wp2_with fail
      refine (K1.out _).mono ?_
      rintro e w1 ⟨rfl, hb1⟩
      obtain ⟨r, dr, rfl⟩ := xw_of hb1
      clear hb1
      go_wp2_with fail
      refine (Neg_any _ _ hc hd _).mono ?_
      rintro e w1 ⟨rfl, hb1⟩
      obtain ⟨r, dr, rfl⟩ := xw_of hb1
      clear hb1
      go_wp2_with fail
      refine (K2.out _).mono ?_
      rintro e w1 ⟨rfl, hb1⟩
      obtain ⟨r, dr, rfl⟩ := xw_of hb1
      clear hb1
      go_wp2_with fail
      refine (live_any _).mono ?_
      rintro e w1 ⟨rfl, hb1⟩
      obtain ⟨r, dr, rfl⟩ := xw_of hb1
      clear hb1
      go_wp2_with fail
      go_returns
      refine ⟨by first | rfl | simp, ?_⟩
      repeat' (first | (with_reducible exact Below.refl _ _) | (with_reducible assumption) | (with_reducible refine below_xw ?_ ?_ _ _) | (with_reducible refine below_drewN ?_ _) | (with_reducible refine Below.drew ?_) | (with_reducible refine Below.setCell ?_ ?_ _) | (with_reducible refine Below.alloc ?_ ?_ _) | (simp [xw_size]; done) | (simp [xw_size]; omega) | (dsimp only; omega))
    · have e1 : addE (val a b + val c d) = 0 := addE_in h1
      have e2 : addE (-(val c d)) = 10 := addE_out h2
      clear h1 h2
      go_enter Try.func7, Try.ntmps7
      go_wp2_with fail
      refine (Add_any _ _ _ _ ha hb hc hd _).mono ?_
      rintro e w1 ⟨rfl, hb1⟩
      obtain ⟨r, dr, rfl⟩ := xw_of hb1
      clear hb1
      go_wp2_with fail
      refine (K1.out _).mono ?_
      rintro e w1 ⟨rfl, hb1⟩
      obtain ⟨r, dr, rfl⟩ := xw_of hb1
      clear hb1
      go_wp2_with fail
      refine (Neg_any _ _ hc hd _).mono ?_
      rintro e w1 ⟨rfl, hb1⟩
      obtain ⟨r, dr, rfl⟩ := xw_of hb1
      clear hb1
      go_wp2_with fail
      refine (live_any _).mono ?_
      rintro e w1 ⟨rfl, hb1⟩
      obtain ⟨r, dr, rfl⟩ := xw_of hb1
      clear hb1
      go_wp2_with fail
      go_returns
      refine ⟨by first | rfl | simp, ?_⟩
      repeat' (first | (with_reducible exact Below.refl _ _) | (with_reducible assumption) | (with_reducible refine below_xw ?_ ?_ _ _) | (with_reducible refine below_drewN ?_ _) | (with_reducible refine Below.drew ?_) | (with_reducible refine Below.setCell ?_ ?_ _) | (with_reducible refine Below.alloc ?_ ?_ _) | (simp [xw_size]; done) | (simp [xw_size]; omega) | (dsimp only; omega))
  · have e1 : addE (val a b + val c d) = 10 := addE_out h1
    clear h1
    go_enter Try.func7, Try.ntmps7
    go_wp2_with fail
    refine (Add_any _ _ _ _ ha hb hc hd _).mono ?_
    rintro e w1 ⟨rfl, hb1⟩
    obtain ⟨r, dr, rfl⟩ := xw_of hb1
    clear hb1
    go_wp2_with fail
    refine (K1.out _).mono ?_
    rintro e w1 ⟨rfl, hb1⟩
    obtain ⟨r, dr, rfl⟩ := xw_of hb1
    clear hb1
    go_wp2_with fail
    refine (Neg_any _ _ hc hd _).mono ?_
    rintro e w1 ⟨rfl, hb1⟩
    obtain ⟨r, dr, rfl⟩ := xw_of hb1
    clear hb1
    go_wp2_with fail
    refine (live_any _).mono ?_
    rintro e w1 ⟨rfl, hb1⟩
    obtain ⟨r, dr, rfl⟩ := xw_of hb1
    clear hb1
    go_wp2_with fail
    go_returns
    refine ⟨by first | rfl | simp, ?_⟩
    repeat' (first | (with_reducible exact Below.refl _ _) | (with_reducible assumption) | (with_reducible refine below_xw ?_ ?_ _ _) | (with_reducible refine below_drewN ?_ _) | (with_reducible refine Below.drew ?_) | (with_reducible refine Below.setCell ?_ ?_ _) | (with_reducible refine Below.alloc ?_ ?_ _) | (simp [xw_size]; done) | (simp [xw_size]; omega) | (dsimp only; omega))

end Go.Proofs.Ytlpaeoclcjhbhaa
