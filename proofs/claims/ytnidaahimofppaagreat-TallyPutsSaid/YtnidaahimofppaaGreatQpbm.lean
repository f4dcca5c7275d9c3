/- Layer 26 (tally): wide numbers, the reference's functions. -/
import Derived.Test.YtnidaahimofppaaGreatQpbl
import Derived.Test.YtnidaahimofppaaGreatQpaa
import Derived.Deep.DeepCutAuto
import Derived.Handy
namespace Go.Proofs.YtnidaahimofppaaGreat
open Go.RowKit
set_option linter.unusedVariables false
set_option linter.unusedSimpArgs false

set_option maxHeartbeats 1000000 in
theorem w_rOf_any (n : Int) (h : okH n) (w : World) :
    Calls Tryz.prog 65 #[.int .i64 n] w fun e w' => e = .returned (.agg #[.int .i64 (hiW n), .int .u64 (loW n)]) ∧ Below w.heap.size w w' := by
  have e1 : hiW n = if n < 0 then -1 else 0 := by unfold hiW okH at *; split <;> omega
  have e2 : loW n = IntKind.u64.wrap n := by unfold loW; rw [u64_eq]
  rw [e1, e2]
  go_enter Tryz.func65, Tryz.ntmps65
  go_wp2
  all_goals
    go_returns
    exact ⟨by first | rfl | simp_all, by go_grown⟩

set_option maxHeartbeats 1000000 in
theorem w_rInt_any (a b : Int) (ha : okH a) (hb : okL b) (w : World) :
    Calls Tryz.prog 54 #[.agg #[.int .i64 a, .int .u64 b]] w fun e w' => e = .returned (.tuple #[.int .i64 (intN (vW a b)), .int .i64 (intE (vW a b))]) ∧ Below w.heap.size w w' := by
  have m := int_of ha hb
  rw [← m.1, ← m.2.1]
  have e : (hiW (wrap64 b) = a ∧ loW (wrap64 b) = b) ↔ (a = 0 ∧ 0 ≤ wrap64 b ∨ a = -1 ∧ wrap64 b < 0) := by
    unfold okH okL at *
    unfold hiW loW wrap64
    omega
  clear m
  by_cases c : a = 0 ∧ 0 ≤ wrap64 b ∨ a = -1 ∧ wrap64 b < 0
  · rw [if_pos (e.2 c), if_pos (e.2 c)]
    clear e
    rcases c with ⟨rfl, c⟩ | ⟨rfl, c⟩
    all_goals
      go_enter Tryz.func54, Tryz.ntmps54
      go_wp2
      all_goals go_returns
      all_goals exact ⟨by first | rfl | simp_all, by go_grown⟩
  · rw [if_neg (fun z => c (e.1 z)), if_neg (fun z => c (e.1 z))]
    clear e
    go_enter Tryz.func54, Tryz.ntmps54
    go_wp2
    all_goals go_returns
    all_goals exact ⟨by first | rfl | (exfalso; omega) | (simp_all; omega), by go_grown⟩

theorem w_comp_bd {x : Int} (h : 0 ≤ x ∧ x ≤ 4294967295) : 0 ≤ 4294967295 - x ∧ 4294967295 - x ≤ 4294967295 := by omega
theorem w_num_comp (p0 p1 p2 p3 s : Int) : num5 (4294967295 - p0) (4294967295 - p1) (4294967295 - p2) (4294967295 - p3) (-1 - s) = -1 - num5 p0 p1 p2 p3 s := by
  unfold num5; omega
theorem w_num_one : num5 1 0 0 0 0 = 1 := by unfold num5; omega
theorem w_sgn_comp (h : Int) : -1 ≤ -1 - sgn h ∧ -1 - sgn h ≤ 0 := by have := w_sgn_bd h; omega

set_option maxHeartbeats 1000000 in
theorem w_rNeg_any (a b : Int) (ha : okH a) (hb : okL b) (w : World) :
    Calls Tryz.prog 66 #[.agg #[.int .i64 a, .int .u64 b]] w fun e w' => e = .returned (.tuple #[.agg #[.int .i64 (addH (-(vW a b))), .int .u64 (addL (-(vW a b)))], .int .i64 (addE (-(vW a b)))]) ∧ Below w.heap.size w w' := by
  have hb0 := hb.1
  have hb9 := hb.2
  have hu := u64_bd a
  have hs := w_sgn_bd a
  have q0 := part_bd b
  have q1 := w_div_bd hb.1 hb.2
  have q2 := part_bd (IntKind.u64.wrap a)
  have q3 := w_div_bd hu.1 hu.2
  have rb := w_r_bd (4294967295 - b % 4294967296) 1 (4294967295 - b / 4294967296) 0 (4294967295 - IntKind.u64.wrap a % 4294967296) 0 (4294967295 - IntKind.u64.wrap a / 4294967296) 0
  have m := num_back (V := -(vW a b)) rb.1.1 rb.1.2 rb.2.1.1 rb.2.1.2 rb.2.2.1.1 rb.2.2.1.2 rb.2.2.2.1 rb.2.2.2.2 (s := rs (4294967295 - b % 4294967296) 1 (4294967295 - b / 4294967296) 0 (4294967295 - IntKind.u64.wrap a % 4294967296) 0 (4294967295 - IntKind.u64.wrap a / 4294967296) 0 (-1 - sgn a) 0) (by rw [num_sum, w_num_comp, w_num_one, parts_num ha hb]; omega)
  have Q := Lib.hid (And.intro q0 (And.intro q1 (And.intro q2 q3)))
  have RB := Lib.hid rb
  have C := Lib.hid (w_sgn_comp a)
  have M := Lib.hid m
  clear rb m
  have hF : ∃ B, (if 2147483648 ≤ r3 (4294967295 - b % 4294967296) 1 (4294967295 - b / 4294967296) 0 (4294967295 - IntKind.u64.wrap a % 4294967296) 0 (4294967295 - IntKind.u64.wrap a / 4294967296) 0 then rs (4294967295 - b % 4294967296) 1 (4294967295 - b / 4294967296) 0 (4294967295 - IntKind.u64.wrap a % 4294967296) 0 (4294967295 - IntKind.u64.wrap a / 4294967296) 0 (-1 - sgn a) 0 == -1 else rs (4294967295 - b % 4294967296) 1 (4294967295 - b / 4294967296) 0 (4294967295 - IntKind.u64.wrap a % 4294967296) 0 (4294967295 - IntKind.u64.wrap a / 4294967296) 0 (-1 - sgn a) 0 == 0) = B := ⟨_, rfl⟩
  obtain ⟨B, hF⟩ := hF
  have HF := Lib.hid hF
  clear hF
  cases B
  all_goals
    go_enter Tryz.func66, Tryz.ntmps66
    go_wp2_with (first | (go_at_call 62; refine (w_parts_any _ _ (by assumption) _).mono ?_; rintro e w' ⟨rfl, hb1⟩; obtain ⟨r, dr, rfl⟩ := xw_of hb1; clear hb1))
    refine wp_loop_rounds 5 ?_
    iterate 4
      rw [rounds_succ]
      go_wp2
    rw [rounds_succ]
    go_wp2_with (first
      | (go_at_call 61; refine (w_sum_any _ _ _ _ _ _ _ _ _ _ (w_comp_bd Q.out.1).1 (w_comp_bd Q.out.1).2 (w_comp_bd Q.out.2.1).1 (w_comp_bd Q.out.2.1).2 (w_comp_bd Q.out.2.2.1).1 (w_comp_bd Q.out.2.2.1).2 (w_comp_bd Q.out.2.2.2).1 (w_comp_bd Q.out.2.2.2).2 (by omega) (by omega) (by omega) (by omega) (by omega) (by omega) (by omega) (by omega) C.out.1 C.out.2 (by omega) (by omega) _).mono ?_; rintro e w' ⟨rfl, hb1⟩; obtain ⟨r, dr, rfl⟩ := xw_of hb1; clear hb1)
      | (go_at_call 63; refine (w_fits_to _ _ _ _ _ _ RB.out.2.2.2.1 RB.out.2.2.2.2 HF.out _).mono ?_; rintro e w' ⟨rfl, hb1⟩; obtain ⟨r, dr, rfl⟩ := xw_of hb1; clear hb1)
      | (go_at_call 64; refine (w_back_any _ _ _ _ _ RB.out.1.1 RB.out.1.2 RB.out.2.1.1 RB.out.2.1.2 RB.out.2.2.1.1 RB.out.2.2.1.2 RB.out.2.2.2.1 RB.out.2.2.2.2 _).mono ?_; rintro e w' ⟨rfl, hb1⟩; obtain ⟨r, dr, rfl⟩ := xw_of hb1; clear hb1))
    go_returns
  · have h : ¬ inW (-(vW a b)) := fun z => by have := M.out.1.2 z; rw [HF.out] at this; cases this
    refine ⟨by rw [addH_out h, addL_out h, addE_out h], ?_⟩
    repeat' (first | (with_reducible exact Below.refl _ _) | (with_reducible assumption) | (with_reducible refine below_xw ?_ ?_ _ _) | (with_reducible refine below_drewN ?_ _) | (with_reducible refine Below.drew ?_) | (with_reducible refine Below.setCell ?_ ?_ _) | (with_reducible refine Below.alloc ?_ ?_ _) | (simp [xw_size]; done) | (simp [xw_size]; omega) | (dsimp only; omega))
  · have h := M.out.1.1 HF.out
    refine ⟨by rw [addH_in h, addL_in h, addE_in h, ← (M.out.2 h).1, ← (M.out.2 h).2], ?_⟩
    repeat' (first | (with_reducible exact Below.refl _ _) | (with_reducible assumption) | (with_reducible refine below_xw ?_ ?_ _ _) | (with_reducible refine below_drewN ?_ _) | (with_reducible refine Below.drew ?_) | (with_reducible refine Below.setCell ?_ ?_ _) | (with_reducible refine Below.alloc ?_ ?_ _) | (simp [xw_size]; done) | (simp [xw_size]; omega) | (dsimp only; omega))

/-- What lies in memory at a round's head. -/
def w_MulAt (w : World) (g : Nat) (a X : Int) (wr : World) : Prop :=
  wr.cell? ⟨w.heap.size + 1, 0, none⟩ = some (.int .i64 (hiW X)) ∧ wr.cell? ⟨w.heap.size + 1, 1, none⟩ = some (.int .u64 (loW X)) ∧
  wr.frozen? ⟨w.heap.size + 1, 0, none⟩ = false ∧ wr.frozen? ⟨w.heap.size + 1, 1, none⟩ = false ∧
  wr.cell? ⟨g, 0, none⟩ = some (.int .i64 (hiW a)) ∧ wr.cell? ⟨g, 1, none⟩ = some (.int .u64 (loW a)) ∧
  wr.cell? ⟨w.heap.size, 0, none⟩ = some (.int .i64 0) ∧ wr.cell? ⟨w.heap.size, 1, none⟩ = some (.int .u64 0) ∧
  wr.frozen? ⟨w.heap.size, 0, none⟩ = false ∧ wr.frozen? ⟨w.heap.size, 1, none⟩ = false ∧
  w.heap.size + 1 < g ∧ g < wr.heap.size ∧ Below w.heap.size w wr

theorem w_small_in {m : Nat} {a : Int} (ha : okH a) (hm : m ≤ 9223372036854775808) : inW ((m : Int) * a) := by
  have h1 : a.natAbs ≤ 9223372036854775808 := by unfold okH at ha; omega
  have h2 : m * a.natAbs ≤ 85070591730234615865843651857942052864 := Nat.le_trans (Nat.mul_le_mul hm h1) (by decide)
  have e : ((m : Int) * a).natAbs = m * a.natAbs := by rw [Int.natAbs_mul, Int.natAbs_natCast]
  unfold inW
  generalize (m : Int) * a = X at *
  omega

theorem w_rAdd_to (X Y : Int) (hX : inW X) (hY : inW Y) (hS : inW (X + Y)) (w : World) :
    Calls Tryz.prog 52 #[.agg #[.int .i64 (hiW X), .int .u64 (loW X)], .agg #[.int .i64 (hiW Y), .int .u64 (loW Y)]] w fun e w' => e = .returned (.tuple #[.agg #[.int .i64 (hiW (X + Y)), .int .u64 (loW (X + Y))], .int .i64 0]) ∧ Below w.heap.size w w' := by
  have h := w_rAdd_any (hiW X) (loW X) (hiW Y) (loW Y) (okH_hi hX) (okL_lo X) (okH_hi hY) (okL_lo Y) w
  rw [val_hl, val_hl, addH_in hS, addL_in hS, addE_in hS] at h
  exact h
theorem w_rNeg_to (X : Int) (hX : inW X) (hS : inW (-X)) (w : World) :
    Calls Tryz.prog 66 #[.agg #[.int .i64 (hiW X), .int .u64 (loW X)]] w fun e w' => e = .returned (.tuple #[.agg #[.int .i64 (hiW (-X)), .int .u64 (loW (-X))], .int .i64 0]) ∧ Below w.heap.size w w' := by
  have h := w_rNeg_any (hiW X) (loW X) (okH_hi hX) (okL_lo X) w
  rw [val_hl, addH_in hS, addL_in hS, addE_in hS] at h
  exact h
theorem w_some_set {w : World} {p : Addr} (a : Addr) (v : Value) (h : ∃ u, w.cell? p = some u) : ∃ u, (w.setCell a v).cell? p = some u := by
  obtain ⟨u, h⟩ := h
  exact cell?_setCell_some (w := w) (p := a) (x := v) (q := p) (v := u) h
theorem w_last_set {w : World} {p : Addr} (v : Value) (h : ∃ u, w.cell? p = some u) : (w.setCell p v).cell? p = some v := by
  obtain ⟨u, h⟩ := h
  exact World.cell?_setCell_same w p v h
theorem w_bits_step (μ : Int) (j : Nat) (h : 0 ≤ μ) : μ / 2 ^ j = 2 * (μ / 2 ^ (j + 1)) + μ / 2 ^ j % 2 := by
  have e : μ / 2 ^ (j + 1) = μ / 2 ^ j / 2 := by rw [Int.pow_succ, Int.ediv_ediv_of_nonneg (Int.le_of_lt (Int.pow_pos (by decide)))]
  rw [e]
  omega
theorem w_bits_le (μ : Int) (j : Nat) (h : 0 ≤ μ) : 0 ≤ μ / 2 ^ j ∧ μ / 2 ^ j ≤ μ :=
  ⟨Int.ediv_nonneg h (Int.le_of_lt (Int.pow_pos (by decide))), Int.ediv_le_self _ h⟩
theorem w_small_inq {x a : Int} (ha : okH a) (h0 : 0 ≤ x) (hm : x ≤ 9223372036854775808) : inW (x * a) := by
  obtain ⟨m, rfl⟩ := Int.eq_ofNat_of_zero_le h0
  exact w_small_in ha (by omega)

/-- What a round's head knows. -/
def w_MulRel (w : World) (g : Nat) (a μ : Int) (v8 : Value) (wr : World) : Prop :=
  (∃ j : Nat, j ≤ 62 ∧ v8 = .int .i64 j ∧ w_MulAt w g a (μ / 2 ^ (j + 1) * a) wr) ∨ (v8 = .int .i64 (-1) ∧ w_MulAt w g a (μ * a) wr)
theorem w_mulrel_next {w : World} {g : Nat} {a μ : Int} {j : Nat} {X : Int} {wr : World} (hX : X = μ / 2 ^ j * a) (hj : j ≤ 62) (h : w_MulAt w g a X wr) : w_MulRel w g a μ (.int .i64 ((j : Int) - 1)) wr := by
  subst hX
  cases j with
  | zero => exact .inr ⟨rfl, by simpa using h⟩
  | succ k => exact .inl ⟨k, by omega, by congr 1; omega, h⟩

set_option maxHeartbeats 2000000 in
theorem w_rMul_any (a b : Int) (ha : okH a) (hb : okH b) (w : World) :
    Calls Tryz.prog 53 #[.int .i64 a, .int .i64 b] w fun e w' => e = .returned (.agg #[.int .i64 (hiW (a * b)), .int .u64 (loW (a * b))]) ∧ Below w.heap.size w w' := by
  have b0 := hb.1
  have b1 := hb.2
  obtain ⟨μ, hμ⟩ : ∃ μ : Int, μ = if b < 0 then -1 - b else b := ⟨_, rfl⟩
  have m0 : 0 ≤ μ := by rw [hμ]; split <;> omega
  have m1 : μ ≤ 9223372036854775807 := by rw [hμ]; split <;> omega
  by_cases c : b < 0
  · rw [if_pos c] at hμ
    have e7 : IntKind.u64.wrap (-1 - b) = μ := by rw [u64_eq]; omega
    have HM := Lib.hid hμ
    clear hμ
    go_enter Tryz.func53, Tryz.ntmps53
    go_wp2_with (first | (go_at_call 65; refine (w_rOf_any _ ha _).mono ?_; rintro e w' ⟨rfl, hb1⟩; obtain ⟨r, dr, rfl⟩ := xw_of hb1; clear hb1))
    clear e7
    have h0 : w_MulAt w (xw ((w.alloc (.cells #[.int .i64 0, .int .u64 0] 83)).alloc (.cells #[.int .i64 0, .int .u64 0] 83)) r dr).heap.size a 0 ((xw ((w.alloc (.cells #[.int .i64 0, .int .u64 0] 83)).alloc (.cells #[.int .i64 0, .int .u64 0] 83)) r dr).alloc (.cells #[.int .i64 (hiW a), .int .u64 (loW a)] 83)) := by
      refine ⟨?_, ?_, ?_, ?_, ?_, ?_, ?_, ?_, ?_, ?_, ?_, ?_, ?_⟩ <;> try first | (simp [go_sem, hiW, loW]; done) | (simp [go_sem, xw_size]; omega)
      repeat' (first | (with_reducible exact Below.refl _ _) | (with_reducible assumption) | (with_reducible refine below_xw ?_ ?_ _ _) | (with_reducible refine below_drewN ?_ _) | (with_reducible refine Below.drew ?_) | (with_reducible refine Below.setCell ?_ ?_ _) | (with_reducible refine Below.alloc ?_ ?_ _) | (simp [xw_size]; done) | (simp [xw_size]; omega) | (dsimp only; omega))
    generalize (xw ((w.alloc (.cells #[.int .i64 0, .int .u64 0] 83)).alloc (.cells #[.int .i64 0, .int .u64 0] 83)) r dr).alloc (.cells #[.int .i64 (hiW a), .int .u64 (loW a)] 83) = W0 at h0 ⊢
    generalize (xw ((w.alloc (.cells #[.int .i64 0, .int .u64 0] 83)).alloc (.cells #[.int .i64 0, .int .u64 0] 83)) r dr).heap.size = g at h0 ⊢
    have H0 := Lib.hid h0
    clear h0
    go_loopw [8] (fun v8 wr => w_MulRel w g a μ v8 wr) (fun v8 wr => (intOf v8 + 1).toNat)
    case atStart =>
      refine .inl ⟨62, by omega, rfl, ?_⟩
      have e : μ / 2 ^ (62 + 1) = 0 := Int.ediv_eq_zero_of_lt m0 (by omega)
      rw [e, Int.zero_mul]
      exact H0.out
    case round =>
      rcases hrel with ⟨j, hj, rfl, hI⟩ | ⟨rfl, hI⟩
      · have st := w_bits_step μ j m0
        have bl := w_bits_le μ (j + 1) m0
        have bj := w_bits_le μ j m0
        obtain ⟨X, hX⟩ : ∃ X, X = μ / 2 ^ (j + 1) * a := ⟨_, rfl⟩
        rw [← hX] at hI
        have i1 : inW X := by rw [hX]; exact w_small_inq ha bl.1 (by omega)
        have i2 : inW (X + X) := by rw [hX, ← Int.add_mul]; exact w_small_inq ha (by omega) (by omega)
        have ia : inW a := by unfold okH at ha; unfold inW; omega
        have I := Lib.hid (And.intro i1 (And.intro i2 ia))
        by_cases t : μ / 2 ^ j % 2 = 1
        · have e : X + X + a = μ / 2 ^ j * a := by rw [hX, st, t, Int.add_mul, Int.one_mul, Int.mul_assoc]; omega
          have i3 : inW (X + X + a) := by rw [e]; exact w_small_inq ha bj.1 (by omega)
          have HE := Lib.hid (And.intro e i3)
          have tt : (μ / 2 ^ j % 2 == 1) = true := beq_iff_eq.2 t
          clear t e i3 i1 i2 ia hX st bl
          obtain ⟨c0, c1, f0, f1, g0, g1, z0, z1, k0, k1, hz1, hz2, hB⟩ := hI
          have hz3 : w.heap.size + 1 < wr.heap.size := by omega
          have hz4 : w.heap.size < wr.heap.size := by omega
          go_wp2_with (first
            | (go_at_call_of 52 (Value.agg #[.int .i64 (hiW X), .int .u64 (loW X)]); refine (w_rAdd_to X X I.out.1 I.out.1 I.out.2.1 _).mono ?_; rintro e w' ⟨rfl, hb1⟩; obtain ⟨r, dr, rfl⟩ := xw_of hb1; clear hb1)
            | (go_at_call_of 52 (Value.agg #[.int .i64 (hiW a), .int .u64 (loW a)]); refine (w_rAdd_to (X + X) a I.out.2.1 I.out.2.2 HE.out.2 _).mono ?_; rintro e w' ⟨rfl, hb1⟩; obtain ⟨r, dr, rfl⟩ := xw_of hb1; clear hb1))
          go_roundw
          case rel =>
            refine w_mulrel_next HE.out.1 hj ?_
            refine ⟨?_, ?_, ?_, ?_, ?_, ?_, ?_, ?_, ?_, ?_, ?_, ?_, ?_⟩ <;> try first | (simp [go_sem, *]; done) | (rw [xw_cell _ _ _ _ _ (by simp; omega)]; exact w_last_set _ (w_some_set _ _ (w_some_set _ _ (w_some_set _ _ ⟨_, c1⟩)))) | (simp [go_sem, xw_size]; omega)
            repeat' (first | (with_reducible exact Below.refl _ _) | (with_reducible assumption) | (with_reducible refine below_xw ?_ ?_ _ _) | (with_reducible refine below_drewN ?_ _) | (with_reducible refine Below.drew ?_) | (with_reducible refine Below.setCell ?_ ?_ _) | (with_reducible refine Below.alloc ?_ ?_ _) | (simp [xw_size]; done) | (simp [xw_size]; omega) | (dsimp only; omega))
          case measure => first | (simp [intOf]; done) | (simp [intOf]; omega)
        · have e : X + X = μ / 2 ^ j * a := by have t0 : μ / 2 ^ j % 2 = 0 := by omega
                                               rw [hX, st, t0, Int.add_zero, Int.mul_assoc]; omega
          have HE := Lib.hid e
          have tt : (μ / 2 ^ j % 2 == 1) = false := beq_eq_false_iff_ne.2 t
          clear t e i1 i2 ia hX st bl
          obtain ⟨c0, c1, f0, f1, g0, g1, z0, z1, k0, k1, hz1, hz2, hB⟩ := hI
          have hz3 : w.heap.size + 1 < wr.heap.size := by omega
          have hz4 : w.heap.size < wr.heap.size := by omega
          go_wp2_with (first
            | (go_at_call_of 52 (Value.agg #[.int .i64 (hiW X), .int .u64 (loW X)]); refine (w_rAdd_to X X I.out.1 I.out.1 I.out.2.1 _).mono ?_; rintro e w' ⟨rfl, hb1⟩; obtain ⟨r, dr, rfl⟩ := xw_of hb1; clear hb1))
          go_roundw
          case rel =>
            refine w_mulrel_next HE.out hj ?_
            refine ⟨?_, ?_, ?_, ?_, ?_, ?_, ?_, ?_, ?_, ?_, ?_, ?_, ?_⟩ <;> try first | (simp [go_sem, *]; done) | (rw [xw_cell _ _ _ _ _ (by simp; omega)]; exact w_last_set _ (w_some_set _ _ (w_some_set _ _ (w_some_set _ _ ⟨_, c1⟩)))) | (simp [go_sem, xw_size]; omega)
            repeat' (first | (with_reducible exact Below.refl _ _) | (with_reducible assumption) | (with_reducible refine below_xw ?_ ?_ _ _) | (with_reducible refine below_drewN ?_ _) | (with_reducible refine Below.drew ?_) | (with_reducible refine Below.setCell ?_ ?_ _) | (with_reducible refine Below.alloc ?_ ?_ _) | (simp [xw_size]; done) | (simp [xw_size]; omega) | (dsimp only; omega))
          case measure => first | (simp [intOf]; done) | (simp [intOf]; omega)
      · have ia : inW a := by unfold okH at ha; unfold inW; omega
        have i1 : inW (μ * a) := w_small_inq ha m0 (by omega)
        have i2 : inW (μ * a + a) := by
          have e : μ * a + a = (μ + 1) * a := by rw [Int.add_mul, Int.one_mul]
          rw [e]; exact w_small_inq ha (by omega) (by omega)
        have e : -(μ * a + a) = a * b := by
          have := HM.out
          have e : μ * a + a = (μ + 1) * a := by rw [Int.add_mul, Int.one_mul]
          rw [e, this, show (-1 - b + 1) = -b by omega, Int.neg_mul, Int.neg_neg, Int.mul_comm]
        have i3 : inW (-(μ * a + a)) := by
          have e2 : -(μ * a + a) = (μ + 1) * (-a) := by rw [Int.add_mul, Int.one_mul, Int.mul_neg]; omega
          unfold inW at i2 ⊢
          have h1 : (μ + 1).natAbs * a.natAbs ≤ 85070591730234615865843651857942052864 := Nat.le_trans (Nat.mul_le_mul (show (μ + 1).natAbs ≤ 9223372036854775808 by omega) (show a.natAbs ≤ 9223372036854775808 by unfold okH at ha; omega)) (by decide)
          have h2 : ((μ + 1) * (-a)).natAbs = (μ + 1).natAbs * a.natAbs := by rw [Int.natAbs_mul, Int.natAbs_neg]
          rw [e2]
          generalize (μ + 1) * (-a) = Y at *
          omega
        obtain ⟨X, hX⟩ : ∃ X, X = μ * a := ⟨_, rfl⟩
        rw [← hX] at hI i1 i2 i3 e
        have I := Lib.hid (And.intro i1 (And.intro i2 (And.intro ia i3)))
        have HE := Lib.hid e
        clear i1 i2 i3 ia e hX
        obtain ⟨c0, c1, f0, f1, g0, g1, z0, z1, k0, k1, hz1, hz2, hB⟩ := hI
        have hz3 : w.heap.size + 1 < wr.heap.size := by omega
        have hz4 : w.heap.size < wr.heap.size := by omega
        go_wp2_with (first
          | (go_at_call 52; refine (w_rAdd_to X a I.out.1 I.out.2.2.1 I.out.2.1 _).mono ?_; rintro e w' ⟨rfl, hb1⟩; obtain ⟨r, dr, rfl⟩ := xw_of hb1; clear hb1)
          | (go_at_call 66; refine (w_rNeg_to (X + a) I.out.2.1 I.out.2.2.2 _).mono ?_; rintro e w' ⟨rfl, hb1⟩; obtain ⟨r, dr, rfl⟩ := xw_of hb1; clear hb1))
        refine bodyPost_ret (by simp [results, Tryz.results53, go_sem, *]; try rfl) rfl ?_
        refine ⟨by rw [HE.out], ?_⟩
        repeat' (first | (with_reducible exact Below.refl _ _) | (with_reducible assumption) | (with_reducible refine below_xw ?_ ?_ _ _) | (with_reducible refine below_drewN ?_ _) | (with_reducible refine Below.drew ?_) | (with_reducible refine Below.setCell ?_ ?_ _) | (with_reducible refine Below.alloc ?_ ?_ _) | (simp [xw_size]; done) | (simp [xw_size]; omega) | (dsimp only; omega))
  · rw [if_neg c] at hμ
    have e7 : IntKind.u64.wrap b = μ := by rw [u64_eq]; omega
    have HM := Lib.hid hμ
    clear hμ
    go_enter Tryz.func53, Tryz.ntmps53
    go_wp2_with (first | (go_at_call 65; refine (w_rOf_any _ ha _).mono ?_; rintro e w' ⟨rfl, hb1⟩; obtain ⟨r, dr, rfl⟩ := xw_of hb1; clear hb1))
    clear e7
    have h0 : w_MulAt w (xw ((w.alloc (.cells #[.int .i64 0, .int .u64 0] 83)).alloc (.cells #[.int .i64 0, .int .u64 0] 83)) r dr).heap.size a 0 ((xw ((w.alloc (.cells #[.int .i64 0, .int .u64 0] 83)).alloc (.cells #[.int .i64 0, .int .u64 0] 83)) r dr).alloc (.cells #[.int .i64 (hiW a), .int .u64 (loW a)] 83)) := by
      refine ⟨?_, ?_, ?_, ?_, ?_, ?_, ?_, ?_, ?_, ?_, ?_, ?_, ?_⟩ <;> try first | (simp [go_sem, hiW, loW]; done) | (simp [go_sem, xw_size]; omega)
      repeat' (first | (with_reducible exact Below.refl _ _) | (with_reducible assumption) | (with_reducible refine below_xw ?_ ?_ _ _) | (with_reducible refine below_drewN ?_ _) | (with_reducible refine Below.drew ?_) | (with_reducible refine Below.setCell ?_ ?_ _) | (with_reducible refine Below.alloc ?_ ?_ _) | (simp [xw_size]; done) | (simp [xw_size]; omega) | (dsimp only; omega))
    generalize (xw ((w.alloc (.cells #[.int .i64 0, .int .u64 0] 83)).alloc (.cells #[.int .i64 0, .int .u64 0] 83)) r dr).alloc (.cells #[.int .i64 (hiW a), .int .u64 (loW a)] 83) = W0 at h0 ⊢
    generalize (xw ((w.alloc (.cells #[.int .i64 0, .int .u64 0] 83)).alloc (.cells #[.int .i64 0, .int .u64 0] 83)) r dr).heap.size = g at h0 ⊢
    have H0 := Lib.hid h0
    clear h0
    go_loopw [8] (fun v8 wr => w_MulRel w g a μ v8 wr) (fun v8 wr => (intOf v8 + 1).toNat)
    case atStart =>
      refine .inl ⟨62, by omega, rfl, ?_⟩
      have e : μ / 2 ^ (62 + 1) = 0 := Int.ediv_eq_zero_of_lt m0 (by omega)
      rw [e, Int.zero_mul]
      exact H0.out
    case round =>
      rcases hrel with ⟨j, hj, rfl, hI⟩ | ⟨rfl, hI⟩
      · have st := w_bits_step μ j m0
        have bl := w_bits_le μ (j + 1) m0
        have bj := w_bits_le μ j m0
        obtain ⟨X, hX⟩ : ∃ X, X = μ / 2 ^ (j + 1) * a := ⟨_, rfl⟩
        rw [← hX] at hI
        have i1 : inW X := by rw [hX]; exact w_small_inq ha bl.1 (by omega)
        have i2 : inW (X + X) := by rw [hX, ← Int.add_mul]; exact w_small_inq ha (by omega) (by omega)
        have ia : inW a := by unfold okH at ha; unfold inW; omega
        have I := Lib.hid (And.intro i1 (And.intro i2 ia))
        by_cases t : μ / 2 ^ j % 2 = 1
        · have e : X + X + a = μ / 2 ^ j * a := by rw [hX, st, t, Int.add_mul, Int.one_mul, Int.mul_assoc]; omega
          have i3 : inW (X + X + a) := by rw [e]; exact w_small_inq ha bj.1 (by omega)
          have HE := Lib.hid (And.intro e i3)
          have tt : (μ / 2 ^ j % 2 == 1) = true := beq_iff_eq.2 t
          clear t e i3 i1 i2 ia hX st bl
          obtain ⟨c0, c1, f0, f1, g0, g1, z0, z1, k0, k1, hz1, hz2, hB⟩ := hI
          have hz3 : w.heap.size + 1 < wr.heap.size := by omega
          have hz4 : w.heap.size < wr.heap.size := by omega
          go_wp2_with (first
            | (go_at_call_of 52 (Value.agg #[.int .i64 (hiW X), .int .u64 (loW X)]); refine (w_rAdd_to X X I.out.1 I.out.1 I.out.2.1 _).mono ?_; rintro e w' ⟨rfl, hb1⟩; obtain ⟨r, dr, rfl⟩ := xw_of hb1; clear hb1)
            | (go_at_call_of 52 (Value.agg #[.int .i64 (hiW a), .int .u64 (loW a)]); refine (w_rAdd_to (X + X) a I.out.2.1 I.out.2.2 HE.out.2 _).mono ?_; rintro e w' ⟨rfl, hb1⟩; obtain ⟨r, dr, rfl⟩ := xw_of hb1; clear hb1))
          go_roundw
          case rel =>
            refine w_mulrel_next HE.out.1 hj ?_
            refine ⟨?_, ?_, ?_, ?_, ?_, ?_, ?_, ?_, ?_, ?_, ?_, ?_, ?_⟩ <;> try first | (simp [go_sem, *]; done) | (rw [xw_cell _ _ _ _ _ (by simp; omega)]; exact w_last_set _ (w_some_set _ _ (w_some_set _ _ (w_some_set _ _ ⟨_, c1⟩)))) | (simp [go_sem, xw_size]; omega)
            repeat' (first | (with_reducible exact Below.refl _ _) | (with_reducible assumption) | (with_reducible refine below_xw ?_ ?_ _ _) | (with_reducible refine below_drewN ?_ _) | (with_reducible refine Below.drew ?_) | (with_reducible refine Below.setCell ?_ ?_ _) | (with_reducible refine Below.alloc ?_ ?_ _) | (simp [xw_size]; done) | (simp [xw_size]; omega) | (dsimp only; omega))
          case measure => first | (simp [intOf]; done) | (simp [intOf]; omega)
        · have e : X + X = μ / 2 ^ j * a := by have t0 : μ / 2 ^ j % 2 = 0 := by omega
                                               rw [hX, st, t0, Int.add_zero, Int.mul_assoc]; omega
          have HE := Lib.hid e
          have tt : (μ / 2 ^ j % 2 == 1) = false := beq_eq_false_iff_ne.2 t
          clear t e i1 i2 ia hX st bl
          obtain ⟨c0, c1, f0, f1, g0, g1, z0, z1, k0, k1, hz1, hz2, hB⟩ := hI
          have hz3 : w.heap.size + 1 < wr.heap.size := by omega
          have hz4 : w.heap.size < wr.heap.size := by omega
          go_wp2_with (first
            | (go_at_call_of 52 (Value.agg #[.int .i64 (hiW X), .int .u64 (loW X)]); refine (w_rAdd_to X X I.out.1 I.out.1 I.out.2.1 _).mono ?_; rintro e w' ⟨rfl, hb1⟩; obtain ⟨r, dr, rfl⟩ := xw_of hb1; clear hb1))
          go_roundw
          case rel =>
            refine w_mulrel_next HE.out hj ?_
            refine ⟨?_, ?_, ?_, ?_, ?_, ?_, ?_, ?_, ?_, ?_, ?_, ?_, ?_⟩ <;> try first | (simp [go_sem, *]; done) | (rw [xw_cell _ _ _ _ _ (by simp; omega)]; exact w_last_set _ (w_some_set _ _ (w_some_set _ _ (w_some_set _ _ ⟨_, c1⟩)))) | (simp [go_sem, xw_size]; omega)
            repeat' (first | (with_reducible exact Below.refl _ _) | (with_reducible assumption) | (with_reducible refine below_xw ?_ ?_ _ _) | (with_reducible refine below_drewN ?_ _) | (with_reducible refine Below.drew ?_) | (with_reducible refine Below.setCell ?_ ?_ _) | (with_reducible refine Below.alloc ?_ ?_ _) | (simp [xw_size]; done) | (simp [xw_size]; omega) | (dsimp only; omega))
          case measure => first | (simp [intOf]; done) | (simp [intOf]; omega)
      · obtain ⟨X, hX⟩ : ∃ X, X = μ * a := ⟨_, rfl⟩
        have e : X = a * b := by rw [hX, HM.out, Int.mul_comm]
        rw [← hX] at hI
        have HE := Lib.hid e
        clear e hX
        obtain ⟨c0, c1, f0, f1, g0, g1, z0, z1, k0, k1, hz1, hz2, hB⟩ := hI
        have hz3 : w.heap.size + 1 < wr.heap.size := by omega
        have hz4 : w.heap.size < wr.heap.size := by omega
        go_wp2_with fail
        refine bodyPost_ret (by simp [results, Tryz.results53, go_sem, *]; try rfl) rfl ?_
        refine ⟨by rw [HE.out], ?_⟩
        repeat' (first | (with_reducible exact Below.refl _ _) | (with_reducible assumption) | (with_reducible refine below_xw ?_ ?_ _ _) | (with_reducible refine below_drewN ?_ _) | (with_reducible refine Below.drew ?_) | (with_reducible refine Below.setCell ?_ ?_ _) | (with_reducible refine Below.alloc ?_ ?_ _) | (simp [xw_size]; done) | (simp [xw_size]; omega) | (dsimp only; omega))
end Go.Proofs.YtnidaahimofppaaGreat
