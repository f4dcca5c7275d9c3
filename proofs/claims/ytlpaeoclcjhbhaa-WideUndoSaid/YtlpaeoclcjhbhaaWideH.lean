/- What each function on wide numbers comes to, as a contract of its call: the reference's product. -/
import Derived.Test.YtlpaeoclcjhbhaaWideG
namespace Go.Proofs.Ytlpaeoclcjhbhaa
open Go.RowKit
set_option linter.unusedVariables false
set_option linter.unusedSimpArgs false

/-- What lies in memory at a round's head. -/
def MulAt (w : World) (g : Nat) (a X : Int) (wr : World) : Prop :=
  wr.cell? ⟨w.heap.size + 1, 0, none⟩ = some (.int .i64 (hiW X)) ∧ wr.cell? ⟨w.heap.size + 1, 1, none⟩ = some (.int .u64 (loW X)) ∧
  wr.frozen? ⟨w.heap.size + 1, 0, none⟩ = false ∧ wr.frozen? ⟨w.heap.size + 1, 1, none⟩ = false ∧
  wr.cell? ⟨g, 0, none⟩ = some (.int .i64 (hiW a)) ∧ wr.cell? ⟨g, 1, none⟩ = some (.int .u64 (loW a)) ∧
  wr.cell? ⟨w.heap.size, 0, none⟩ = some (.int .i64 0) ∧ wr.cell? ⟨w.heap.size, 1, none⟩ = some (.int .u64 0) ∧
  wr.frozen? ⟨w.heap.size, 0, none⟩ = false ∧ wr.frozen? ⟨w.heap.size, 1, none⟩ = false ∧
  w.heap.size + 1 < g ∧ g < wr.heap.size ∧ Below w.heap.size w wr

theorem small_in {m : Nat} {a : Int} (ha : okH a) (hm : m ≤ 9223372036854775808) : inW ((m : Int) * a) := by
  have h1 : a.natAbs ≤ 9223372036854775808 := by unfold okH at ha; omega
  have h2 : m * a.natAbs ≤ 85070591730234615865843651857942052864 := Nat.le_trans (Nat.mul_le_mul hm h1) (by decide)
  have e : ((m : Int) * a).natAbs = m * a.natAbs := by rw [Int.natAbs_mul, Int.natAbs_natCast]
  unfold inW
  generalize (m : Int) * a = X at *
  omega

theorem rAdd_to (X Y : Int) (hX : inW X) (hY : inW Y) (hS : inW (X + Y)) (w : World) :
    Calls Try.prog 20 #[.agg #[.int .i64 (hiW X), .int .u64 (loW X)], .agg #[.int .i64 (hiW Y), .int .u64 (loW Y)]] w fun e w' => e = .returned (.tuple #[.agg #[.int .i64 (hiW (X + Y)), .int .u64 (loW (X + Y))], .int .i64 0]) ∧ Below w.heap.size w w' := by
  have h := rAdd_any (hiW X) (loW X) (hiW Y) (loW Y) (okH_hi hX) (okL_lo X) (okH_hi hY) (okL_lo Y) w
  rw [val_hl, val_hl, addH_in hS, addL_in hS, addE_in hS] at h
  exact h
theorem rNeg_to (X : Int) (hX : inW X) (hS : inW (-X)) (w : World) :
    Calls Try.prog 22 #[.agg #[.int .i64 (hiW X), .int .u64 (loW X)]] w fun e w' => e = .returned (.tuple #[.agg #[.int .i64 (hiW (-X)), .int .u64 (loW (-X))], .int .i64 0]) ∧ Below w.heap.size w w' := by
  have h := rNeg_any (hiW X) (loW X) (okH_hi hX) (okL_lo X) w
  rw [val_hl, addH_in hS, addL_in hS, addE_in hS] at h
  exact h
theorem some_set {w : World} {p : Addr} (a : Addr) (v : Value) (h : ∃ u, w.cell? p = some u) : ∃ u, (w.setCell a v).cell? p = some u := by
  obtain ⟨u, h⟩ := h
  exact cell?_setCell_some (w := w) (p := a) (x := v) (q := p) (v := u) h
theorem last_set {w : World} {p : Addr} (v : Value) (h : ∃ u, w.cell? p = some u) : (w.setCell p v).cell? p = some v := by
  obtain ⟨u, h⟩ := h
  exact World.cell?_setCell_same w p v h
theorem bits_step (μ : Int) (j : Nat) (h : 0 ≤ μ) : μ / 2 ^ j = 2 * (μ / 2 ^ (j + 1)) + μ / 2 ^ j % 2 := by
  have e : μ / 2 ^ (j + 1) = μ / 2 ^ j / 2 := by rw [Int.pow_succ, Int.ediv_ediv_of_nonneg (Int.le_of_lt (Int.pow_pos (by decide)))]
  rw [e]
  omega
theorem bits_le (μ : Int) (j : Nat) (h : 0 ≤ μ) : 0 ≤ μ / 2 ^ j ∧ μ / 2 ^ j ≤ μ :=
  ⟨Int.ediv_nonneg h (Int.le_of_lt (Int.pow_pos (by decide))), Int.ediv_le_self _ h⟩
theorem small_in' {x a : Int} (ha : okH a) (h0 : 0 ≤ x) (hm : x ≤ 9223372036854775808) : inW (x * a) := by
  obtain ⟨m, rfl⟩ := Int.eq_ofNat_of_zero_le h0
  exact small_in ha (by omega)

/-- What a round's head knows. -/
def MulRel (w : World) (g : Nat) (a μ : Int) (v8 : Value) (wr : World) : Prop :=
  (∃ j : Nat, j ≤ 62 ∧ v8 = .int .i64 j ∧ MulAt w g a (μ / 2 ^ (j + 1) * a) wr) ∨ (v8 = .int .i64 (-1) ∧ MulAt w g a (μ * a) wr)
theorem mulrel_next {w : World} {g : Nat} {a μ : Int} {j : Nat} {X : Int} {wr : World} (hX : X = μ / 2 ^ j * a) (hj : j ≤ 62) (h : MulAt w g a X wr) : MulRel w g a μ (.int .i64 ((j : Int) - 1)) wr := by
  subst hX
  cases j with
  | zero => exact .inr ⟨rfl, by simpa using h⟩
  | succ k => exact .inl ⟨k, by omega, by congr 1; omega, h⟩

set_option maxHeartbeats 2000000 in
theorem rMul_any (a b : Int) (ha : okH a) (hb : okH b) (w : World) :
    Calls Try.prog 12 #[.int .i64 a, .int .i64 b] w fun e w' => e = .returned (.agg #[.int .i64 (hiW (a * b)), .int .u64 (loW (a * b))]) ∧ Below w.heap.size w w' := by
  have b0 := hb.1
  have b1 := hb.2
  obtain ⟨μ, hμ⟩ : ∃ μ : Int, μ = if b < 0 then -1 - b else b := ⟨_, rfl⟩
  have m0 : 0 ≤ μ := by rw [hμ]; split <;> omega
  have m1 : μ ≤ 9223372036854775807 := by rw [hμ]; split <;> omega
  by_cases c : b < 0
  · rw [if_pos c] at hμ
    have e7 : IntKind.u64.wrap (-1 - b) = μ := by rw [u64_eq]; omega
    have HM := Lib.hid hμ
    clear hμ
    go_enter Try.func12, Try.ntmps12
    go_wp2_with (first | (go_at_call 19; refine (rOf_any _ ha _).mono ?_; rintro e w' ⟨rfl, hb1⟩; obtain ⟨r, dr, rfl⟩ := xw_of hb1; clear hb1))
    clear e7
    have h0 : MulAt w (xw ((w.alloc (.cells #[.int .i64 0, .int .u64 0] 24)).alloc (.cells #[.int .i64 0, .int .u64 0] 24)) r dr).heap.size a 0 ((xw ((w.alloc (.cells #[.int .i64 0, .int .u64 0] 24)).alloc (.cells #[.int .i64 0, .int .u64 0] 24)) r dr).alloc (.cells #[.int .i64 (hiW a), .int .u64 (loW a)] 24)) := by
      refine ⟨?_, ?_, ?_, ?_, ?_, ?_, ?_, ?_, ?_, ?_, ?_, ?_, ?_⟩ <;> try first | (simp [go_sem, hiW, loW]; done) | (simp [go_sem, xw_size]; omega)
      repeat' (first | (with_reducible exact Below.refl _ _) | (with_reducible assumption) | (with_reducible refine below_xw ?_ ?_ _ _) | (with_reducible refine below_drewN ?_ _) | (with_reducible refine Below.drew ?_) | (with_reducible refine Below.setCell ?_ ?_ _) | (with_reducible refine Below.alloc ?_ ?_ _) | (simp [xw_size]; done) | (simp [xw_size]; omega) | (dsimp only; omega))
    generalize (xw ((w.alloc (.cells #[.int .i64 0, .int .u64 0] 24)).alloc (.cells #[.int .i64 0, .int .u64 0] 24)) r dr).alloc (.cells #[.int .i64 (hiW a), .int .u64 (loW a)] 24) = W0 at h0 ⊢
    generalize (xw ((w.alloc (.cells #[.int .i64 0, .int .u64 0] 24)).alloc (.cells #[.int .i64 0, .int .u64 0] 24)) r dr).heap.size = g at h0 ⊢
    have H0 := Lib.hid h0
    clear h0
    go_loopw [8] (fun v8 wr => MulRel w g a μ v8 wr) (fun v8 wr => (intOf v8 + 1).toNat)
    case atStart =>
      refine .inl ⟨62, by omega, rfl, ?_⟩
      have e : μ / 2 ^ (62 + 1) = 0 := Int.ediv_eq_zero_of_lt m0 (by omega)
      rw [e, Int.zero_mul]
      exact H0.out
    case round =>
      rcases hrel with ⟨j, hj, rfl, hI⟩ | ⟨rfl, hI⟩
      · have st := bits_step μ j m0
        have bl := bits_le μ (j + 1) m0
        have bj := bits_le μ j m0
        obtain ⟨X, hX⟩ : ∃ X, X = μ / 2 ^ (j + 1) * a := ⟨_, rfl⟩
        rw [← hX] at hI
        have i1 : inW X := by rw [hX]; exact small_in' ha bl.1 (by omega)
        have i2 : inW (X + X) := by rw [hX, ← Int.add_mul]; exact small_in' ha (by omega) (by omega)
        have ia : inW a := by unfold okH at ha; unfold inW; omega
        have I := Lib.hid (And.intro i1 (And.intro i2 ia))
        by_cases t : μ / 2 ^ j % 2 = 1
        · have e : X + X + a = μ / 2 ^ j * a := by rw [hX, st, t, Int.add_mul, Int.one_mul, Int.mul_assoc]; omega
          have i3 : inW (X + X + a) := by rw [e]; exact small_in' ha bj.1 (by omega)
          have HE := Lib.hid (And.intro e i3)
          have tt : (μ / 2 ^ j % 2 == 1) = true := beq_iff_eq.2 t
          clear t e i3 i1 i2 ia hX st bl
          obtain ⟨c0, c1, f0, f1, g0, g1, z0, z1, k0, k1, hz1, hz2, hB⟩ := hI
          have hz3 : w.heap.size + 1 < wr.heap.size := by omega
          have hz4 : w.heap.size < wr.heap.size := by omega
          go_wp2_with (first
            | (go_at_call_of 20 (Value.agg #[.int .i64 (hiW X), .int .u64 (loW X)]); refine (rAdd_to X X I.out.1 I.out.1 I.out.2.1 _).mono ?_; rintro e w' ⟨rfl, hb1⟩; obtain ⟨r, dr, rfl⟩ := xw_of hb1; clear hb1)
            | (go_at_call_of 20 (Value.agg #[.int .i64 (hiW a), .int .u64 (loW a)]); refine (rAdd_to (X + X) a I.out.2.1 I.out.2.2 HE.out.2 _).mono ?_; rintro e w' ⟨rfl, hb1⟩; obtain ⟨r, dr, rfl⟩ := xw_of hb1; clear hb1))
          go_roundw
          case rel =>
            refine mulrel_next HE.out.1 hj ?_
            refine ⟨?_, ?_, ?_, ?_, ?_, ?_, ?_, ?_, ?_, ?_, ?_, ?_, ?_⟩ <;> try first | (simp [go_sem, *]; done) | (rw [xw_cell _ _ _ _ _ (by simp; omega)]; exact last_set _ (some_set _ _ (some_set _ _ (some_set _ _ ⟨_, c1⟩)))) | (simp [go_sem, xw_size]; omega)
            repeat' (first | (with_reducible exact Below.refl _ _) | (with_reducible assumption) | (with_reducible refine below_xw ?_ ?_ _ _) | (with_reducible refine below_drewN ?_ _) | (with_reducible refine Below.drew ?_) | (with_reducible refine Below.setCell ?_ ?_ _) | (with_reducible refine Below.alloc ?_ ?_ _) | (simp [xw_size]; done) | (simp [xw_size]; omega) | (dsimp only; omega))
          case measure => first | (simp [intOf]; done) | (simp [intOf]; omega)
        · have e : X + X = μ / 2 ^ j * a := by have t0 : μ / 2 ^ j % 2 = 0 := by omega
                                               rw [hX, st, t0, Int.add_zero, Int.mul_assoc]; omega
          have HE := Lib.hid e
          have tt : (μ / 2 ^ j % 2 == 1) = false := beq_eq_false_iff_ne.2 t
          clear t e i1 i2 ia hX st bl
          obtain ⟨c0, c1, f0, f1, g0, g1, z0, z1, k0, k1, hz1, hz2, hB⟩ := hI
          have hz3 : w.heap.size + 1 < wr.heap.size := by omega
          have hz4 : w.heap.size < wr.heap.size := by omega
          go_wp2_with (first
            | (go_at_call_of 20 (Value.agg #[.int .i64 (hiW X), .int .u64 (loW X)]); refine (rAdd_to X X I.out.1 I.out.1 I.out.2.1 _).mono ?_; rintro e w' ⟨rfl, hb1⟩; obtain ⟨r, dr, rfl⟩ := xw_of hb1; clear hb1))
          go_roundw
          case rel =>
            refine mulrel_next HE.out hj ?_
            refine ⟨?_, ?_, ?_, ?_, ?_, ?_, ?_, ?_, ?_, ?_, ?_, ?_, ?_⟩ <;> try first | (simp [go_sem, *]; done) | (rw [xw_cell _ _ _ _ _ (by simp; omega)]; exact last_set _ (some_set _ _ (some_set _ _ (some_set _ _ ⟨_, c1⟩)))) | (simp [go_sem, xw_size]; omega)
            repeat' (first | (with_reducible exact Below.refl _ _) | (with_reducible assumption) | (with_reducible refine below_xw ?_ ?_ _ _) | (with_reducible refine below_drewN ?_ _) | (with_reducible refine Below.drew ?_) | (with_reducible refine Below.setCell ?_ ?_ _) | (with_reducible refine Below.alloc ?_ ?_ _) | (simp [xw_size]; done) | (simp [xw_size]; omega) | (dsimp only; omega))
          case measure => first | (simp [intOf]; done) | (simp [intOf]; omega)
      · have ia : inW a := by unfold okH at ha; unfold inW; omega
        have i1 : inW (μ * a) := small_in' ha m0 (by omega)
        have i2 : inW (μ * a + a) := by
          have e : μ * a + a = (μ + 1) * a := by rw [Int.add_mul, Int.one_mul]
          rw [e]; exact small_in' ha (by omega) (by omega)
        have e : -(μ * a + a) = a * b := by
          have := HM.out
          have e : μ * a + a = (μ + 1) * a := by rw [Int.add_mul, Int.one_mul]
          rw [e, this, show (-1 - b + 1) = -b by omega, Int.neg_mul, Int.neg_neg, Int.mul_comm]
        have i3 : inW (-(μ * a + a)) := by
          have e2 : -(μ * a + a) = (μ + 1) * (-a) := by rw [Int.add_mul, Int.one_mul, Int.mul_neg]; omega
          unfold inW at i2 ⊢
          have h1 : (μ + 1).natAbs * a.natAbs ≤ 85070591730234615865843651857942052864 := Nat.le_trans (Nat.mul_le_mul (show (μ + 1).natAbs ≤ 9223372036854775808 by omega) (show a.natAbs ≤ 9223372036854775808 by unfold okH at ha; omega)) (by decide)
          have h2 : ((μ + 1) * (-a)).natAbs = (μ + 1).natAbs * a.natAbs := by rw [Int.natAbs_mul, Int.natAbs_neg]
          rw [e2]
          generalize (μ + 1) * (-a) = Y at *
          omega
        obtain ⟨X, hX⟩ : ∃ X, X = μ * a := ⟨_, rfl⟩
        rw [← hX] at hI i1 i2 i3 e
        have I := Lib.hid (And.intro i1 (And.intro i2 (And.intro ia i3)))
        have HE := Lib.hid e
        clear i1 i2 i3 ia e hX
        obtain ⟨c0, c1, f0, f1, g0, g1, z0, z1, k0, k1, hz1, hz2, hB⟩ := hI
        have hz3 : w.heap.size + 1 < wr.heap.size := by omega
        have hz4 : w.heap.size < wr.heap.size := by omega
        go_wp2_with (first
          | (go_at_call 20; refine (rAdd_to X a I.out.1 I.out.2.2.1 I.out.2.1 _).mono ?_; rintro e w' ⟨rfl, hb1⟩; obtain ⟨r, dr, rfl⟩ := xw_of hb1; clear hb1)
          | (go_at_call 22; refine (rNeg_to (X + a) I.out.2.1 I.out.2.2.2 _).mono ?_; rintro e w' ⟨rfl, hb1⟩; obtain ⟨r, dr, rfl⟩ := xw_of hb1; clear hb1))
        refine bodyPost_ret (by simp [results, Try.results12, go_sem, *]; try rfl) rfl ?_
        refine ⟨by rw [HE.out], ?_⟩
        repeat' (first | (with_reducible exact Below.refl _ _) | (with_reducible assumption) | (with_reducible refine below_xw ?_ ?_ _ _) | (with_reducible refine below_drewN ?_ _) | (with_reducible refine Below.drew ?_) | (with_reducible refine Below.setCell ?_ ?_ _) | (with_reducible refine Below.alloc ?_ ?_ _) | (simp [xw_size]; done) | (simp [xw_size]; omega) | (dsimp only; omega))
  · rw [if_neg c] at hμ
    have e7 : IntKind.u64.wrap b = μ := by rw [u64_eq]; omega
    have HM := Lib.hid hμ
    clear hμ
    go_enter Try.func12, Try.ntmps12
    go_wp2_with (first | (go_at_call 19; refine (rOf_any _ ha _).mono ?_; rintro e w' ⟨rfl, hb1⟩; obtain ⟨r, dr, rfl⟩ := xw_of hb1; clear hb1))
    clear e7
    have h0 : MulAt w (xw ((w.alloc (.cells #[.int .i64 0, .int .u64 0] 24)).alloc (.cells #[.int .i64 0, .int .u64 0] 24)) r dr).heap.size a 0 ((xw ((w.alloc (.cells #[.int .i64 0, .int .u64 0] 24)).alloc (.cells #[.int .i64 0, .int .u64 0] 24)) r dr).alloc (.cells #[.int .i64 (hiW a), .int .u64 (loW a)] 24)) := by
      refine ⟨?_, ?_, ?_, ?_, ?_, ?_, ?_, ?_, ?_, ?_, ?_, ?_, ?_⟩ <;> try first | (simp [go_sem, hiW, loW]; done) | (simp [go_sem, xw_size]; omega)
      repeat' (first | (with_reducible exact Below.refl _ _) | (with_reducible assumption) | (with_reducible refine below_xw ?_ ?_ _ _) | (with_reducible refine below_drewN ?_ _) | (with_reducible refine Below.drew ?_) | (with_reducible refine Below.setCell ?_ ?_ _) | (with_reducible refine Below.alloc ?_ ?_ _) | (simp [xw_size]; done) | (simp [xw_size]; omega) | (dsimp only; omega))
    generalize (xw ((w.alloc (.cells #[.int .i64 0, .int .u64 0] 24)).alloc (.cells #[.int .i64 0, .int .u64 0] 24)) r dr).alloc (.cells #[.int .i64 (hiW a), .int .u64 (loW a)] 24) = W0 at h0 ⊢
    generalize (xw ((w.alloc (.cells #[.int .i64 0, .int .u64 0] 24)).alloc (.cells #[.int .i64 0, .int .u64 0] 24)) r dr).heap.size = g at h0 ⊢
    have H0 := Lib.hid h0
    clear h0
    go_loopw [8] (fun v8 wr => MulRel w g a μ v8 wr) (fun v8 wr => (intOf v8 + 1).toNat)
    case atStart =>
      refine .inl ⟨62, by omega, rfl, ?_⟩
      have e : μ / 2 ^ (62 + 1) = 0 := Int.ediv_eq_zero_of_lt m0 (by omega)
      rw [e, Int.zero_mul]
      exact H0.out
    case round =>
      rcases hrel with ⟨j, hj, rfl, hI⟩ | ⟨rfl, hI⟩
      · have st := bits_step μ j m0
        have bl := bits_le μ (j + 1) m0
        have bj := bits_le μ j m0
        obtain ⟨X, hX⟩ : ∃ X, X = μ / 2 ^ (j + 1) * a := ⟨_, rfl⟩
        rw [← hX] at hI
        have i1 : inW X := by rw [hX]; exact small_in' ha bl.1 (by omega)
        have i2 : inW (X + X) := by rw [hX, ← Int.add_mul]; exact small_in' ha (by omega) (by omega)
        have ia : inW a := by unfold okH at ha; unfold inW; omega
        have I := Lib.hid (And.intro i1 (And.intro i2 ia))
        by_cases t : μ / 2 ^ j % 2 = 1
        · have e : X + X + a = μ / 2 ^ j * a := by rw [hX, st, t, Int.add_mul, Int.one_mul, Int.mul_assoc]; omega
          have i3 : inW (X + X + a) := by rw [e]; exact small_in' ha bj.1 (by omega)
          have HE := Lib.hid (And.intro e i3)
          have tt : (μ / 2 ^ j % 2 == 1) = true := beq_iff_eq.2 t
          clear t e i3 i1 i2 ia hX st bl
          obtain ⟨c0, c1, f0, f1, g0, g1, z0, z1, k0, k1, hz1, hz2, hB⟩ := hI
          have hz3 : w.heap.size + 1 < wr.heap.size := by omega
          have hz4 : w.heap.size < wr.heap.size := by omega
          go_wp2_with (first
            | (go_at_call_of 20 (Value.agg #[.int .i64 (hiW X), .int .u64 (loW X)]); refine (rAdd_to X X I.out.1 I.out.1 I.out.2.1 _).mono ?_; rintro e w' ⟨rfl, hb1⟩; obtain ⟨r, dr, rfl⟩ := xw_of hb1; clear hb1)
            | (go_at_call_of 20 (Value.agg #[.int .i64 (hiW a), .int .u64 (loW a)]); refine (rAdd_to (X + X) a I.out.2.1 I.out.2.2 HE.out.2 _).mono ?_; rintro e w' ⟨rfl, hb1⟩; obtain ⟨r, dr, rfl⟩ := xw_of hb1; clear hb1))
          go_roundw
          case rel =>
            refine mulrel_next HE.out.1 hj ?_
            refine ⟨?_, ?_, ?_, ?_, ?_, ?_, ?_, ?_, ?_, ?_, ?_, ?_, ?_⟩ <;> try first | (simp [go_sem, *]; done) | (rw [xw_cell _ _ _ _ _ (by simp; omega)]; exact last_set _ (some_set _ _ (some_set _ _ (some_set _ _ ⟨_, c1⟩)))) | (simp [go_sem, xw_size]; omega)
            repeat' (first | (with_reducible exact Below.refl _ _) | (with_reducible assumption) | (with_reducible refine below_xw ?_ ?_ _ _) | (with_reducible refine below_drewN ?_ _) | (with_reducible refine Below.drew ?_) | (with_reducible refine Below.setCell ?_ ?_ _) | (with_reducible refine Below.alloc ?_ ?_ _) | (simp [xw_size]; done) | (simp [xw_size]; omega) | (dsimp only; omega))
          case measure => first | (simp [intOf]; done) | (simp [intOf]; omega)
        · have e : X + X = μ / 2 ^ j * a := by have t0 : μ / 2 ^ j % 2 = 0 := by omega
                                               rw [hX, st, t0, Int.add_zero, Int.mul_assoc]; omega
          have HE := Lib.hid e
          have tt : (μ / 2 ^ j % 2 == 1) = false := beq_eq_false_iff_ne.2 t
          clear t e i1 i2 ia hX st bl
          obtain ⟨c0, c1, f0, f1, g0, g1, z0, z1, k0, k1, hz1, hz2, hB⟩ := hI
          have hz3 : w.heap.size + 1 < wr.heap.size := by omega
          have hz4 : w.heap.size < wr.heap.size := by omega
          go_wp2_with (first
            | (go_at_call_of 20 (Value.agg #[.int .i64 (hiW X), .int .u64 (loW X)]); refine (rAdd_to X X I.out.1 I.out.1 I.out.2.1 _).mono ?_; rintro e w' ⟨rfl, hb1⟩; obtain ⟨r, dr, rfl⟩ := xw_of hb1; clear hb1))
          go_roundw
          case rel =>
            refine mulrel_next HE.out hj ?_
            refine ⟨?_, ?_, ?_, ?_, ?_, ?_, ?_, ?_, ?_, ?_, ?_, ?_, ?_⟩ <;> try first | (simp [go_sem, *]; done) | (rw [xw_cell _ _ _ _ _ (by simp; omega)]; exact last_set _ (some_set _ _ (some_set _ _ (some_set _ _ ⟨_, c1⟩)))) | (simp [go_sem, xw_size]; omega)
            repeat' (first | (with_reducible exact Below.refl _ _) | (with_reducible assumption) | (with_reducible refine below_xw ?_ ?_ _ _) | (with_reducible refine below_drewN ?_ _) | (with_reducible refine Below.drew ?_) | (with_reducible refine Below.setCell ?_ ?_ _) | (with_reducible refine Below.alloc ?_ ?_ _) | (simp [xw_size]; done) | (simp [xw_size]; omega) | (dsimp only; omega))
          case measure => first | (simp [intOf]; done) | (simp [intOf]; omega)
      · obtain ⟨X, hX⟩ : ∃ X, X = μ * a := ⟨_, rfl⟩
        have e : X = a * b := by rw [hX, HM.out, Int.mul_comm]
        rw [← hX] at hI
        have HE := Lib.hid e
        clear e hX
        obtain ⟨c0, c1, f0, f1, g0, g1, z0, z1, k0, k1, hz1, hz2, hB⟩ := hI
        have hz3 : w.heap.size + 1 < wr.heap.size := by omega
        have hz4 : w.heap.size < wr.heap.size := by omega
        go_wp2_with fail
        refine bodyPost_ret (by simp [results, Try.results12, go_sem, *]; try rfl) rfl ?_
        refine ⟨by rw [HE.out], ?_⟩
        repeat' (first | (with_reducible exact Below.refl _ _) | (with_reducible assumption) | (with_reducible refine below_xw ?_ ?_ _ _) | (with_reducible refine below_drewN ?_ _) | (with_reducible refine Below.drew ?_) | (with_reducible refine Below.setCell ?_ ?_ _) | (with_reducible refine Below.alloc ?_ ?_ _) | (simp [xw_size]; done) | (simp [xw_size]; omega) | (dsimp only; omega))
end Go.Proofs.Ytlpaeoclcjhbhaa
