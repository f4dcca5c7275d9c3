/- The laws of layer 23 (wide), walked (2). -/
import Derived.Test.YtlpaeoclcjhbhaaWideI
namespace Go.Proofs.Ytlpaeoclcjhbhaa
open Go.RowKit
set_option linter.unusedVariables false
set_option linter.unusedSimpArgs false

theorem mul_in {a b : Int} (ha : okH a) (hb : okH b) : inW (a * b) :=
  (mul_split ha hb _ _ _ _ _ rfl rfl rfl rfl rfl).1
theorem Int_to (X : Int) (h : inW X) (w : World) :
    Calls Try.prog 9 #[.agg #[.int .i64 (hiW X), .int .u64 (loW X)]] w fun e w' => e = .returned (.tuple #[.int .i64 (intN X), .int .i64 (intE X)]) ∧ Below w.heap.size w w' := by
  have k := Int_any (hiW X) (loW X) (okH_hi h) (okL_lo X) w
  rw [val_hl] at k
  exact k

set_option maxHeartbeats 1000000 in
theorem Muls_walk (a b : Int) (ha : okH a) (hb : okH b) (w : World) :
    Calls Try.prog 3 #[.int .i64 a, .int .i64 b] w fun e w' => e = .returned (.bool true) ∧ Below w.heap.size w w' := by
  have hp := mul_in ha hb
  go_enter Try.func3, Try.ntmps3
  go_wp2_with fail
  refine (Mul_any _ _ ha hb _).mono ?_
  rintro e w1 ⟨rfl, hb1⟩
  obtain ⟨r1, d1, rfl⟩ := xw_of hb1
  clear hb1
  go_wp2_with fail
  refine (Int_to _ hp _).mono ?_
  rintro e w1 ⟨rfl, hb1⟩
  obtain ⟨r2, d2, rfl⟩ := xw_of hb1
  clear hb1
  go_wp2_with fail
  refine (sMul_any _ _ ha hb _).mono ?_
  rintro e w1 ⟨rfl, rfl⟩
  go_upto_region 4 with fail
  go_region_held3 (fun w' => w'.cell? ⟨(xw w r1 d1).heap.size, 0, none⟩ = some (.int .i64 (hiW (a * b))) ∧ w'.cell? ⟨(xw w r1 d1).heap.size, 1, none⟩ = some (.int .u64 (loW (a * b))) ∧ Below w.heap.size w w')
    (((refine ⟨?_, ?_, ?_⟩ <;> try (simp [go_sem]; done)); (repeat' (first | (with_reducible exact Below.refl _ _) | (with_reducible assumption) | (with_reducible refine below_xw ?_ ?_ _ _) | (with_reducible refine below_drewN ?_ _) | (with_reducible refine Below.drew ?_) | (with_reducible refine Below.setCell ?_ ?_ _) | (with_reducible refine Below.alloc ?_ ?_ _) | (simp [xw_size]; done) | (simp [xw_size]; omega) | (dsimp only; omega)))))
    (first
      | (go_at_call 11; refine (live_any _).mono ?_; rintro e w' ⟨rfl, hb1⟩; obtain ⟨r, dr, rfl⟩ := xw_of hb1; clear hb1)
      | (go_at_call 12; refine (rMul_any _ _ ha hb _).mono ?_; rintro e w' ⟨rfl, hb1⟩; obtain ⟨r, dr, rfl⟩ := xw_of hb1; clear hb1))
  go_wp2_with fail
  go_returns
  refine ⟨by first | rfl | simp, ?_⟩
  repeat' (first | (with_reducible exact Below.refl _ _) | (with_reducible assumption) | (with_reducible refine below_xw ?_ ?_ _ _) | (with_reducible refine below_drewN ?_ _) | (with_reducible refine Below.drew ?_) | (with_reducible refine Below.setCell ?_ ?_ _) | (with_reducible refine Below.alloc ?_ ?_ _) | (simp [xw_size]; done) | (simp [xw_size]; omega) | (dsimp only; omega))

set_option maxHeartbeats 1000000 in
theorem Ring_walk (a b c : Int) (ha : okH a) (hb : okH b) (hc : okH c) (w : World) :
    Calls Try.prog 4 #[.int .i64 a, .int .i64 b, .int .i64 c] w fun e w' => e = .returned (.bool true) ∧ Below w.heap.size w w' := by
  by_cases h : in64 (a + b)
  · have hn : intN (a + b) = a + b := if_pos h
    have he : intE (a + b) = 0 := if_pos h
    have hs : okH (a + b) := by unfold in64 at h; unfold okH; omega
    have i1 := mul_in ha hc
    have i2 := mul_in hb hc
    have ed : (a + b) * c = a * c + b * c := Int.add_mul a b c
    have i3 : inW (a * c + b * c) := by rw [← ed]; exact mul_in hs hc
    have k0 : ∀ w : World, Calls Try.prog 13 #[.int .i64 a, .int .i64 b] w fun e w' => e = .returned (.tuple #[.int .i64 (a + b), .int .i64 0]) ∧ w = w' := by
      intro w
      have k := sAdd_any a b ha hb w
      rw [hn, he] at k
      exact k
    have k1 : ∀ w : World, Calls Try.prog 14 #[.agg #[.int .i64 (hiW (a * c)), .int .u64 (loW (a * c))], .agg #[.int .i64 (hiW (b * c)), .int .u64 (loW (b * c))]] w fun e w' => e = .returned (.tuple #[.agg #[.int .i64 (hiW (a * c + b * c)), .int .u64 (loW (a * c + b * c))], .int .i64 0]) ∧ Below w.heap.size w w' := by
      intro w
      have k := Add_any (hiW (a * c)) (loW (a * c)) (hiW (b * c)) (loW (b * c)) (okH_hi i1) (okL_lo _) (okH_hi i2) (okL_lo _) w
      rw [val_hl, val_hl, addH_in i3, addL_in i3, addE_in i3] at k
      exact k
    have k2 : ∀ w : World, Calls Try.prog 8 #[.int .i64 (a + b), .int .i64 c] w fun e w' => e = .returned (.agg #[.int .i64 (hiW (a * c + b * c)), .int .u64 (loW (a * c + b * c))]) ∧ Below w.heap.size w w' := by
      intro w
      have k := Mul_any (a + b) c hs hc w
      rw [ed] at k
      exact k
    have k3 : ∀ w : World, Calls Try.prog 8 #[.int .i64 c, .int .i64 a] w fun e w' => e = .returned (.agg #[.int .i64 (hiW (a * c)), .int .u64 (loW (a * c))]) ∧ Below w.heap.size w w' := by
      intro w
      have k := Mul_any c a hc ha w
      rw [Int.mul_comm] at k
      exact k
    have K0 := Lib.hid k0
    have K1 := Lib.hid k1
    have K2 := Lib.hid k2
    have K3 := Lib.hid k3
    clear k0 k1 k2 k3 hn he ed h i1 i2 i3
    go_enter Try.func4, Try.ntmps4
    go_wp2_with fail
    refine (K0.out _).mono ?_
    rintro e w1 ⟨rfl, rfl⟩
    go_wp2_with fail
    refine (Mul_any _ _ ha hc _).mono ?_
    rintro e w1 ⟨rfl, hb1⟩
    obtain ⟨r1, d1, rfl⟩ := xw_of hb1
    clear hb1
    go_wp2_with fail
    refine (Mul_any _ _ hb hc _).mono ?_
    rintro e w1 ⟨rfl, hb1⟩
    obtain ⟨r2, d2, rfl⟩ := xw_of hb1
    clear hb1
    go_wp2_with fail
    refine (K1.out _).mono ?_
    rintro e w1 ⟨rfl, hb1⟩
    obtain ⟨r3, d3, rfl⟩ := xw_of hb1
    clear hb1
    go_upto_region 5 with fail
    go_region_held3 (fun w' => w'.cell? ⟨(xw w (r1 ++ (r2 ++ r3)) d3).heap.size, 0, none⟩ = some (.int .i64 (hiW (a * c + b * c))) ∧ w'.cell? ⟨(xw w (r1 ++ (r2 ++ r3)) d3).heap.size, 1, none⟩ = some (.int .u64 (loW (a * c + b * c))) ∧ Below w.heap.size w w')
      (((refine ⟨?_, ?_, ?_⟩ <;> try (simp [go_sem]; done)); (repeat' (first | (with_reducible exact Below.refl _ _) | (with_reducible assumption) | (with_reducible refine below_xw ?_ ?_ _ _) | (with_reducible refine below_drewN ?_ _) | (with_reducible refine Below.drew ?_) | (with_reducible refine Below.setCell ?_ ?_ _) | (with_reducible refine Below.alloc ?_ ?_ _) | (simp [xw_size]; done) | (simp [xw_size]; omega) | (dsimp only; omega)))))
      (first
        | (go_at_call 11; refine (live_any _).mono ?_; rintro e w' ⟨rfl, hb1⟩; obtain ⟨r, dr, rfl⟩ := xw_of hb1; clear hb1)
        | (go_at_call_of 8 (Value.int .i64 (a + b)); refine (K2.out _).mono ?_; rintro e w' ⟨rfl, hb1⟩; obtain ⟨r, dr, rfl⟩ := xw_of hb1; clear hb1)
        | (go_at_call 8; with_reducible refine (Mul_any a c ha hc _).mono ?_; rintro e w' ⟨rfl, hb1⟩; obtain ⟨r, dr, rfl⟩ := xw_of hb1; clear hb1)
        | (go_at_call 8; with_reducible refine (K3.out _).mono ?_; rintro e w' ⟨rfl, hb1⟩; obtain ⟨r, dr, rfl⟩ := xw_of hb1; clear hb1))
    all_goals
      go_wp2_with fail
      go_returns
      refine ⟨by first | rfl | simp, ?_⟩
      repeat' (first | (with_reducible exact Below.refl _ _) | (with_reducible assumption) | (with_reducible refine below_xw ?_ ?_ _ _) | (with_reducible refine below_drewN ?_ _) | (with_reducible refine Below.drew ?_) | (with_reducible refine Below.setCell ?_ ?_ _) | (with_reducible refine Below.alloc ?_ ?_ _) | (simp [xw_size]; done) | (simp [xw_size]; omega) | (dsimp only; omega))
  · have he : intE (a + b) = 10 := if_neg h
    have hn : intN (a + b) = 0 := if_neg h
    have k0 : ∀ w : World, Calls Try.prog 13 #[.int .i64 a, .int .i64 b] w fun e w' => e = .returned (.tuple #[.int .i64 0, .int .i64 10]) ∧ w = w' := by
      intro w
      have k := sAdd_any a b ha hb w
      rw [hn, he] at k
      exact k
    have K0 := Lib.hid k0
    clear k0 hn he h
    go_enter Try.func4, Try.ntmps4
    go_wp2_with fail
    refine (K0.out _).mono ?_
    rintro e w1 ⟨rfl, rfl⟩
    go_wp2_with fail
    refine (live_any _).mono ?_
    rintro e w1 ⟨rfl, hb1⟩
    obtain ⟨r1, d1, rfl⟩ := xw_of hb1
    clear hb1
    go_wp2_with fail
    go_returns
    refine ⟨by first | rfl | simp, ?_⟩
    repeat' (first | (with_reducible exact Below.refl _ _) | (with_reducible assumption) | (with_reducible refine below_xw ?_ ?_ _ _) | (with_reducible refine below_drewN ?_ _) | (with_reducible refine Below.drew ?_) | (with_reducible refine Below.setCell ?_ ?_ _) | (with_reducible refine Below.alloc ?_ ?_ _) | (simp [xw_size]; done) | (simp [xw_size]; omega) | (dsimp only; omega))

set_option maxHeartbeats 1000000 in
theorem Ints_walk (a b c d n : Int) (ha : okH a) (hb : okL b) (hc : okH c) (hd : okL d) (hn : okH n) (w : World) :
    Calls Try.prog 5 #[.agg #[.int .i64 a, .int .u64 b], .agg #[.int .i64 c, .int .u64 d], .int .i64 n] w fun e w' => e = .returned (.bool true) ∧ Below w.heap.size w w' := by
  have hi : in64 n := by unfold okH at hn; unfold in64; omega
  have k1 : ∀ w : World, Calls Try.prog 9 #[.agg #[.int .i64 (hiW n), .int .u64 (loW n)]] w fun e w' => e = .returned (.tuple #[.int .i64 n, .int .i64 0]) ∧ Below w.heap.size w w' := by
    intro w
    have k := Int_to n (in64_inW hi) w
    have e1 : intN n = n := if_pos hi
    have e2 : intE n = 0 := if_pos hi
    rw [e1, e2] at k
    exact k
  have K1 := Lib.hid k1
  clear k1 hi
  go_enter Try.func5, Try.ntmps5
  go_wp2_with fail
  refine (Int_any _ _ ha hb _).mono ?_
  rintro e w1 ⟨rfl, hb1⟩
  obtain ⟨r1, d1, rfl⟩ := xw_of hb1
  clear hb1
  go_wp2_with fail
  refine (rInt_any _ _ ha hb _).mono ?_
  rintro e w1 ⟨rfl, hb1⟩
  obtain ⟨r2, d2, rfl⟩ := xw_of hb1
  clear hb1
  go_wp2_with fail
  refine (Of_any _ hn _).mono ?_
  rintro e w1 ⟨rfl, hb1⟩
  obtain ⟨r3, d3, rfl⟩ := xw_of hb1
  clear hb1
  go_wp2_with fail
  refine (K1.out _).mono ?_
  rintro e w1 ⟨rfl, hb1⟩
  obtain ⟨r4, d4, rfl⟩ := xw_of hb1
  clear hb1
  go_upto_region 4 with fail
  go_region_held3 (fun w' => w'.cell? ⟨w.heap.size, 0, none⟩ = some (.int .i64 a) ∧ w'.cell? ⟨w.heap.size, 1, none⟩ = some (.int .u64 b) ∧ w'.cell? ⟨w.heap.size + 1, 0, none⟩ = some (.int .i64 c) ∧ w'.cell? ⟨w.heap.size + 1, 1, none⟩ = some (.int .u64 d) ∧ Below w.heap.size w w')
    (((refine ⟨?_, ?_, ?_, ?_, ?_⟩ <;> try (simp [go_sem]; done)); (repeat' (first | (with_reducible exact Below.refl _ _) | (with_reducible assumption) | (with_reducible refine below_xw ?_ ?_ _ _) | (with_reducible refine below_drewN ?_ _) | (with_reducible refine Below.drew ?_) | (with_reducible refine Below.setCell ?_ ?_ _) | (with_reducible refine Below.alloc ?_ ?_ _) | (simp [xw_size]; done) | (simp [xw_size]; omega) | (dsimp only; omega)))))
    (first
      | (go_at_call 11; refine (live_any _).mono ?_; rintro e w' ⟨rfl, hb1⟩; obtain ⟨r, dr, rfl⟩ := xw_of hb1; clear hb1)
      | (go_at_call 17; refine (Compare_any _ _ _ _ ha hb hc hd _).mono ?_; rintro e w' ⟨rfl, hb1⟩; obtain ⟨r, dr, rfl⟩ := xw_of hb1; clear hb1)
      | (go_at_call 18; refine (rCompare_any _ _ _ _ ha hb hc hd _).mono ?_; rintro e w' ⟨rfl, hb1⟩; obtain ⟨r, dr, rfl⟩ := xw_of hb1; clear hb1)
      | (go_at_call 16; refine (Of_any _ hn _).mono ?_; rintro e w' ⟨rfl, hb1⟩; obtain ⟨r, dr, rfl⟩ := xw_of hb1; clear hb1)
      | (go_at_call 19; refine (rOf_any _ hn _).mono ?_; rintro e w' ⟨rfl, hb1⟩; obtain ⟨r, dr, rfl⟩ := xw_of hb1; clear hb1))
  all_goals
    go_wp2_with fail
    go_returns
    refine ⟨by first | rfl | simp, ?_⟩
    repeat' (first | (with_reducible exact Below.refl _ _) | (with_reducible assumption) | (with_reducible refine below_xw ?_ ?_ _ _) | (with_reducible refine below_drewN ?_ _) | (with_reducible refine Below.drew ?_) | (with_reducible refine Below.setCell ?_ ?_ _) | (with_reducible refine Below.alloc ?_ ?_ _) | (simp [xw_size]; done) | (simp [xw_size]; omega) | (dsimp only; omega))
end Go.Proofs.Ytlpaeoclcjhbhaa
