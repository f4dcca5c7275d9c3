/- What each function on wide numbers comes to, as a contract of its call: the program's own ones. -/
import Derived.Test.YtnidaahimofppaaGreatProg
import Derived.Test.YtnidaahimofppaaGreatQpaa
import Derived.Test.YtnidaahimofppaaGreatQpac
import Derived.WalkKit
import Derived.WalkLawsBesides
import Derived.Deep.QuietTactic
import Derived.BigQuiet
import Derived.WalkSmall
import Derived.Lib.Hide
import Derived.Handy
import Derived.Laws.Externs
import Derived.Shelf.Spec.BitsCarry
import Derived.Deep.RegionHeld3
namespace Go.Proofs.YtnidaahimofppaaGreat
open Go.RowKit
set_option linter.unusedVariables false
set_option linter.unusedSimpArgs false

/-- What a call of a function without a body gives here and now. -/
def Run (f : Nat) (x y c lo cy : Int) : Prop := ∀ w : World, (callFunc f #[.int .u64 x, .int .u64 y, .int .u64 c]).run Tryz.prog w = .ok (.value (.tuple #[.int .u64 lo, .int .u64 cy])) w
theorem run26 (x y c : Int) (hx : okL x) (hy : okL y) (h0 : 0 ≤ c) (h1 : c ≤ 1) : Run 91 x y c ((x + y + c) % 18446744073709551616) ((x + y + c) / 18446744073709551616) := by
  intro w
  rw [run_callFunc_extern Tryz.func91 (by kernel_rfl) (by kernel_rfl) (by kernel_rfl) (e := add64Entry) (by kernel_rfl), run_add64 x y c hx.1 hy.1 h0 h1]
  rfl
theorem run34 (x y c : Int) (hx : okL x) (hy : okL y) (h0 : 0 ≤ c) (h1 : c ≤ 1) : Run 96 x y c ((x + 18446744073709551616 - y - c) % 18446744073709551616) (if x < y + c then 1 else 0) := by
  obtain ⟨x, rfl⟩ := Int.eq_ofNat_of_zero_le hx.1
  obtain ⟨y, rfl⟩ := Int.eq_ofNat_of_zero_le hy.1
  obtain ⟨c, rfl⟩ := Int.eq_ofNat_of_zero_le h0
  have hx2 := hx.2
  have hy2 := hy.2
  intro w
  rw [run_callFunc_extern Tryz.func96 (by kernel_rfl) (by kernel_rfl) (by kernel_rfl) (e := sub64Entry) (by kernel_rfl), run_sub64 x y c (by omega)]
  have e1 : (((x + 18446744073709551616 - y - c) % 18446744073709551616 : Nat) : Int) = ((x : Int) + 18446744073709551616 - y - c) % 18446744073709551616 := by omega
  have e2 : (((if x < y + c then 1 else 0 : Nat)) : Int) = if (x : Int) < (y : Int) + (c : Int) then 1 else 0 := by split <;> split <;> omega
  rw [e1, e2]
  rfl

set_option maxHeartbeats 1000000 in
theorem wOf_any (n : Int) (h : okH n) (w : World) :
    Calls Tryz.prog 95 #[.int .i64 n] w fun e w' => e = .returned (.agg #[.int .i64 (hiW n), .int .u64 (loW n)]) ∧ Below w.heap.size w w' := by
  have e1 : hiW n = n / 9223372036854775808 := by unfold hiW okH at *; omega
  have e2 : loW n = IntKind.u64.wrap n := by unfold loW; rw [u64_eq]
  rw [e1, e2]
  go_enter Tryz.func95, Tryz.ntmps95
  go_wp2
  go_returns
  exact ⟨rfl, by go_grown⟩

set_option maxHeartbeats 1000000 in
theorem wAdd_walk (a b c d lo cy hi cy2 : Int) (h1 : Run 91 b d 0 lo cy) (h2 : Run 91 (IntKind.u64.wrap a) (IntKind.u64.wrap c) cy hi cy2) (w : World) :
    Calls Tryz.prog 88 #[.agg #[.int .i64 a, .int .u64 b], .agg #[.int .i64 c, .int .u64 d]] w fun e w' => e = .returned (if ((a < 0 ↔ c < 0) ∧ ¬ (wrap64 hi < 0 ↔ a < 0)) then .tuple #[.agg #[.int .i64 0, .int .u64 0], .int .i64 10] else .tuple #[.agg #[.int .i64 (wrap64 hi), .int .u64 lo], .int .i64 0]) ∧ Below w.heap.size w w' := by
  unfold Run at h1 h2
  by_cases c1 : a < 0 <;> by_cases c2 : c < 0 <;> by_cases c3 : wrap64 hi < 0 <;> simp only [c1, c2, c3, true_iff, false_iff, not_true, not_false_iff, true_and, false_and, and_true, and_false, if_true, if_false, iff_true, iff_false]
  all_goals
    go_enter Tryz.func88, Tryz.ntmps88
    go_wp2
    go_returns
    exact ⟨rfl, by go_grown⟩

theorem wAdd_any (a b c d : Int) (ha : okH a) (hb : okL b) (hc : okH c) (hd : okL d) (w : World) :
    Calls Tryz.prog 88 #[.agg #[.int .i64 a, .int .u64 b], .agg #[.int .i64 c, .int .u64 d]] w fun e w' => e = .returned (.tuple #[.agg #[.int .i64 (addH (vW a b + vW c d)), .int .u64 (addL (vW a b + vW c d))], .int .i64 (addE (vW a b + vW c d))]) ∧ Below w.heap.size w w' := by
  have k1 := run26 b d 0 hb hd (by omega) (by omega)
  have k2 := run26 (IntKind.u64.wrap a) (IntKind.u64.wrap c) ((b + d + 0) / 18446744073709551616) (u64_bd a) (u64_bd c) (by unfold okL at *; omega) (by unfold okL at *; omega)
  have m := half_sum ha hb hc hd ((b + d + 0) % 18446744073709551616) ((b + d + 0) / 18446744073709551616) _ (by rw [Int.add_zero]) (by rw [Int.add_zero]) rfl
  refine (wAdd_walk a b c d _ _ _ _ k1 k2 w).mono fun e w' ⟨he, hb⟩ => ⟨?_, hb⟩
  rw [he]
  by_cases h : inW (vW a b + vW c d)
  · rw [if_neg (fun z => m.1.1 z h), addH_in h, addL_in h, addE_in h, (m.2 h).1, (m.2 h).2]
  · rw [if_pos (m.1.2 h), addH_out h, addL_out h, addE_out h]

set_option maxHeartbeats 1000000 in
theorem wturned_walk (a b lo bw hi b2 : Int) (h1 : Run 96 0 b 0 lo bw) (h2 : Run 96 0 (IntKind.u64.wrap a) bw hi b2) (w : World) :
    Calls Tryz.prog 94 #[.agg #[.int .i64 a, .int .u64 b]] w fun e w' => e = .returned (.agg #[.int .i64 (wrap64 hi), .int .u64 lo]) ∧ Below w.heap.size w w' := by
  unfold Run at h1 h2
  go_enter Tryz.func94, Tryz.ntmps94
  go_wp2
  go_returns
  exact ⟨rfl, by go_grown⟩
theorem wturned_any (a b : Int) (ha : okH a) (hb : okL b) (w : World) :
    Calls Tryz.prog 94 #[.agg #[.int .i64 a, .int .u64 b]] w fun e w' => e = .returned (.agg #[.int .i64 (hiW (rnd (-(vW a b)))), .int .u64 (loW (rnd (-(vW a b))))]) ∧ Below w.heap.size w w' := by
  have k1 := run34 0 b 0 (by unfold okL; omega) hb (by omega) (by omega)
  have k2 := run34 0 (IntKind.u64.wrap a) (if 0 < b + 0 then 1 else 0) (by unfold okL; omega) (u64_bd a) (by split <;> omega) (by split <;> omega)
  have m := half_neg ha hb ((0 + 18446744073709551616 - b - 0) % 18446744073709551616) (if 0 < b + 0 then 1 else 0) ((0 + 18446744073709551616 - IntKind.u64.wrap a - if 0 < b + 0 then 1 else 0) % 18446744073709551616) (by congr 1; omega) (by unfold okL at hb; split <;> split <;> omega) (by rw [Int.zero_add])
  refine (wturned_walk a b _ _ _ _ k1 k2 w).mono fun e w' ⟨he, hb⟩ => ⟨?_, hb⟩
  rw [he, m.1, m.2]

theorem wsize_any (n : Int) (h : okH n) (w : World) :
    Calls Tryz.prog 93 #[.int .i64 n] w fun e w' => e = .returned (.int .u64 (n.natAbs : Int)) ∧ w = w' := by
  by_cases c : n < 0
  · have e : IntKind.u64.wrap (-(IntKind.u64.wrap n)) = (n.natAbs : Int) := by rw [u64_eq, u64_eq]; unfold okH at h; omega
    go_enter Tryz.func93, Tryz.ntmps93
    go_wp2
    go_ret
    exact ⟨rfl, rfl⟩
  · have e : IntKind.u64.wrap n = (n.natAbs : Int) := by rw [u64_eq]; unfold okH at h; omega
    go_enter Tryz.func93, Tryz.ntmps93
    go_wp2
    go_ret
    exact ⟨rfl, rfl⟩

theorem wkept {w w1 : World} (h : Below w.heap.size w w1) {a : Addr} {v : Value} (hc : w.cell? a = some v) : w1.cell? a = some v := (h.cell (World.block_lt_of_cell? w a hc)).trans hc
theorem wonward {B : Nat} {w w1 w2 : World} (h : Below B w w1) (hB : B ≤ w.heap.size) (k : Below w1.heap.size w1 w2) : Below B w w2 := h.trans (k.mono (Nat.le_trans hB h.size))

set_option maxHeartbeats 1000000 in
theorem wInt_walk (a b : Int) (w : World) (hc : okH (wrap64 b)) :
    Calls Tryz.prog 90 #[.agg #[.int .i64 a, .int .u64 b]] w fun e w' => e = .returned (.tuple #[.int .i64 (if hiW (wrap64 b) = a ∧ loW (wrap64 b) = b then wrap64 b else 0), .int .i64 (if hiW (wrap64 b) = a ∧ loW (wrap64 b) = b then 0 else 10)]) ∧ Below w.heap.size w w' := by
  by_cases c1 : hiW (wrap64 b) = a <;> by_cases c2 : loW (wrap64 b) = b
  all_goals
    go_enter Tryz.func90, Tryz.ntmps90
    go_wp2_with fail
    go_region_held3 (fun w' => w'.cell? ⟨w.heap.size, 0, none⟩ = some (.int .i64 a) ∧ w'.cell? ⟨w.heap.size, 1, none⟩ = some (.int .u64 b) ∧ Below w.heap.size w w')
      (refine ⟨?_, ?_, ?_⟩ <;> first | exact wkept hb (And.left ‹_ ∧ _›) | exact wkept hb (And.left (And.right ‹_ ∧ _›)) | exact wonward (And.right (And.right ‹_ ∧ _›)) (Nat.le_refl _) hb | (go_simp; done) | (go_grown; done))
      ((go_at_call 95; refine (wOf_any _ hc _).mono ?_; rintro e w' ⟨rfl, hb⟩))
    go_wp2
    go_returns
    exact ⟨by simp [c1, c2], And.right (And.right ‹_ ∧ _›)⟩

theorem int_iff {a b : Int} (ha : okH a) (hb : okL b) : (hiW (wrap64 b) = a ∧ loW (wrap64 b) = b ↔ in64 (vW a b)) ∧ (in64 (vW a b) → wrap64 b = vW a b) ∧ okH (wrap64 b) := by
  unfold okH okL at *
  unfold in64 vW hiW loW wrap64
  refine ⟨?_, ?_, ?_⟩ <;> omega
theorem int_of {a b : Int} (ha : okH a) (hb : okL b) : (if hiW (wrap64 b) = a ∧ loW (wrap64 b) = b then wrap64 b else 0) = intN (vW a b) ∧ (if hiW (wrap64 b) = a ∧ loW (wrap64 b) = b then 0 else 10) = intE (vW a b) ∧ okH (wrap64 b) := by
  have m := int_iff ha hb
  unfold intN intE
  by_cases h : in64 (vW a b)
  · rw [if_pos h, if_pos h, if_pos (m.1.2 h), if_pos (m.1.2 h)]
    exact ⟨m.2.1 h, rfl, m.2.2⟩
  · rw [if_neg h, if_neg h, if_neg (fun z => h (m.1.1 z)), if_neg (fun z => h (m.1.1 z))]
    exact ⟨rfl, rfl, m.2.2⟩
theorem wInt_any (a b : Int) (ha : okH a) (hb : okL b) (w : World) :
    Calls Tryz.prog 90 #[.agg #[.int .i64 a, .int .u64 b]] w fun e w' => e = .returned (.tuple #[.int .i64 (intN (vW a b)), .int .i64 (intE (vW a b))]) ∧ Below w.heap.size w w' := by
  have m := int_of ha hb
  refine (wInt_walk a b w m.2.2).mono fun e w' ⟨he, hb⟩ => ⟨?_, hb⟩
  rw [he, m.1, m.2.1]

set_option maxHeartbeats 1000000 in
theorem wMul_walk (a b lo hi l2 bw h2 b2 : Int) (ha : okH a) (hb : okH b) (hc : ∀ w : World, Calls Tryz.prog 92 #[.int .u64 (a.natAbs : Int), .int .u64 (b.natAbs : Int)] w fun e w' => e = .returned (.tuple #[.int .u64 hi, .int .u64 lo]) ∧ w = w')
    (k1 : Run 96 0 lo 0 l2 bw) (k2 : Run 96 0 (IntKind.u64.wrap (wrap64 hi)) bw h2 b2) (w : World) :
    Calls Tryz.prog 89 #[.int .i64 a, .int .i64 b] w fun e w' => e = .returned (if (a < 0 ↔ b < 0) then .agg #[.int .i64 (wrap64 hi), .int .u64 lo] else .agg #[.int .i64 (wrap64 h2), .int .u64 l2]) ∧ Below w.heap.size w w' := by
  unfold Run at k1 k2
  have HC := Lib.hid hc
  clear hc
  by_cases c1 : a < 0 <;> by_cases c2 : b < 0
  all_goals
    first | rw [if_pos (by omega)] | rw [if_neg (by omega)]
    first | have d1 : decide (a < 0) = true := decide_eq_true c1 | have d1 : decide (a < 0) = false := decide_eq_false c1
    first | have d2 : decide (b < 0) = true := decide_eq_true c2 | have d2 : decide (b < 0) = false := decide_eq_false c2
    go_enter Tryz.func89, Tryz.ntmps89
    go_wp2_with (first | (go_at_call 93; refine (wsize_any _ (by assumption) _).mono ?_; rintro e w' ⟨rfl, rfl⟩) | (go_at_call 92; refine (HC.out _).mono ?_; rintro e w' ⟨rfl, rfl⟩) | go_in)
    go_returns
    exact ⟨rfl, by go_grown⟩

theorem mul_nat {a b : Int} (ha : okH a) (hb : okH b) : (a.natAbs * b.natAbs : Nat) ≤ 85070591730234615865843651857942052864 ∧ a * b = if (a < 0 ↔ b < 0) then ((a.natAbs * b.natAbs : Nat) : Int) else -((a.natAbs * b.natAbs : Nat) : Int) := by
  have h1 : a.natAbs ≤ 9223372036854775808 := by unfold okH at ha; omega
  have h2 : b.natAbs ≤ 9223372036854775808 := by unfold okH at hb; omega
  refine ⟨Nat.le_trans (Nat.mul_le_mul h1 h2) (by decide), ?_⟩
  rcases Int.natAbs_eq a with e1 | e1 <;> rcases Int.natAbs_eq b with e2 | e2
  all_goals
    rw [Int.natCast_mul]
    generalize a.natAbs = n at *
    generalize b.natAbs = m at *
    subst e1 e2
    split <;> rename_i c
  all_goals try (first | rfl | (simp only [Int.neg_mul, Int.mul_neg, Int.neg_neg]; done))
  all_goals
    have z : n = 0 ∨ m = 0 := by omega
    rcases z with rfl | rfl <;> simp
theorem mul_split {a b : Int} (ha : okH a) (hb : okH b) (hi lo l2 bw h2 : Int) (e1 : hi = ((a.natAbs * b.natAbs / 18446744073709551616 : Nat) : Int)) (e2 : lo = ((a.natAbs * b.natAbs % 18446744073709551616 : Nat) : Int))
    (e3 : l2 = (18446744073709551616 - lo) % 18446744073709551616) (e4 : bw = if lo = 0 then 0 else 1) (e5 : h2 = (18446744073709551616 - IntKind.u64.wrap (wrap64 hi) - bw) % 18446744073709551616) :
    inW (a * b) ∧ (if (a < 0 ↔ b < 0) then wrap64 hi else wrap64 h2) = hiW (a * b) ∧ (if (a < 0 ↔ b < 0) then lo else l2) = loW (a * b) := by
  obtain ⟨m, e⟩ := mul_nat ha hb
  rw [u64_eq] at e5
  rw [e]
  generalize a.natAbs * b.natAbs = n at *
  unfold inW hiW loW
  unfold wrap64 at *
  by_cases c : (a < 0 ↔ b < 0)
  · rw [if_pos c, if_pos c, if_pos c]; omega
  · rw [if_neg c, if_neg c, if_neg c]
    split at e4 <;> omega

theorem wMul_any (a b : Int) (ha : okH a) (hb : okH b) (w : World) :
    Calls Tryz.prog 89 #[.int .i64 a, .int .i64 b] w fun e w' => e = .returned (.agg #[.int .i64 (hiW (a * b)), .int .u64 (loW (a * b))]) ∧ Below w.heap.size w w' := by
  have hl : okL ((a.natAbs * b.natAbs % 18446744073709551616 : Nat) : Int) := by unfold okL; omega
  have hh : okH a ∧ okH b := ⟨ha, hb⟩
  have na : a.natAbs < 18446744073709551616 := by unfold okH at hh; omega
  have nb : b.natAbs < 18446744073709551616 := by unfold okH at hh; omega
  have k1 := run34 0 ((a.natAbs * b.natAbs % 18446744073709551616 : Nat) : Int) 0 (by unfold okL; omega) hl (by omega) (by omega)
  have k2 := run34 0 (IntKind.u64.wrap (wrap64 ((a.natAbs * b.natAbs / 18446744073709551616 : Nat) : Int))) (if 0 < ((a.natAbs * b.natAbs % 18446744073709551616 : Nat) : Int) + 0 then 1 else 0) (by unfold okL; omega) (u64_bd _) (by split <;> omega) (by split <;> omega)
  have m := mul_split ha hb ((a.natAbs * b.natAbs / 18446744073709551616 : Nat) : Int) ((a.natAbs * b.natAbs % 18446744073709551616 : Nat) : Int) _ (if 0 < ((a.natAbs * b.natAbs % 18446744073709551616 : Nat) : Int) + 0 then 1 else 0) _ rfl rfl rfl (by split <;> split <;> omega) rfl
  refine (wMul_walk a b ((a.natAbs * b.natAbs % 18446744073709551616 : Nat) : Int) ((a.natAbs * b.natAbs / 18446744073709551616 : Nat) : Int) _ _ _ _ ha hb (fun w => (Tryz.bits_Mul64 a.natAbs b.natAbs na nb w).mono fun e w' ⟨h1, h2⟩ => ⟨h1, h2.symm⟩) k1 k2 w).mono fun e w' ⟨he, hb⟩ => ⟨?_, hb⟩
  rw [he, ← m.2.1, ← m.2.2]
  by_cases c : (a < 0 ↔ b < 0)
  · rw [if_pos c, if_pos c, if_pos c]
  · rw [if_neg c, if_neg c, if_neg c]
    have e1 : (0 + 18446744073709551616 - ((a.natAbs * b.natAbs % 18446744073709551616 : Nat) : Int) - 0) % 18446744073709551616 = (18446744073709551616 - ((a.natAbs * b.natAbs % 18446744073709551616 : Nat) : Int)) % 18446744073709551616 := by congr 1; omega
    rw [e1, Int.zero_add]

theorem mul_in {a b : Int} (ha : okH a) (hb : okH b) : inW (a * b) :=
  (mul_split ha hb _ _ _ _ _ rfl rfl rfl rfl rfl).1
end Go.Proofs.YtnidaahimofppaaGreat
