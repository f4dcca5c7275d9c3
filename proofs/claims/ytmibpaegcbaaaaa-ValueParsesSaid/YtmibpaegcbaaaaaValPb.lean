/- Layer 1's reference (num): products, differences, sums; a number as it is written, read: walked. -/
import Derived.Test.YtmibpaegcbaaaaaValPa
import Derived.Test.YtmibpaegcbaaaaaValN
import Derived.Deep.DeepCutAuto
namespace Go.Proofs.Ytmibpaegcbaaaaa
open Go.RowKit
set_option linter.unusedVariables false
set_option linter.unusedSimpArgs false

def inI (x : Int) : Prop := -9223372036854775808 ≤ x ∧ x ≤ 9223372036854775807
instance (x : Int) : Decidable (inI x) := by unfold inI; infer_instance
def okI (x : Int) : Value := if inI x then .tuple #[.int .i64 x, .int .i64 0] else .tuple #[.int .i64 0, .int .i64 10]
theorem wrap_in {x : Int} (h : inI x) : wrap64 x = x := by unfold inI at h; simp only [wrap64]; omega
theorem tdiv10 (a : Int) (ha : inI a) : (wrap64 (a * 10)).tdiv 10 = a ↔ inI (a * 10) := by
  have h1 := Int.mul_tdiv_add_tmod (wrap64 (a * 10)) 10
  have h2 : -10 < (wrap64 (a * 10)).tmod 10 ∧ (wrap64 (a * 10)).tmod 10 < 10 := by
    have := Int.tmod_lt_of_pos (wrap64 (a * 10)) (b := 10) (by omega)
    have := Int.lt_tmod_of_pos (wrap64 (a * 10)) (b := 10) (by omega)
    omega
  generalize (wrap64 (a * 10)).tdiv 10 = q at h1 ⊢
  generalize (wrap64 (a * 10)).tmod 10 = m at h1 h2
  unfold inI at ha ⊢
  constructor
  · rintro rfl
    simp only [wrap64] at h1
    omega
  · intro h
    simp only [wrap64] at h1
    omega
theorem wrap_rng (x : Int) : inI (wrap64 x) := by unfold inI; simp only [wrap64]; omega
theorem tdivIn (x : Int) (hx : inI x) : inI (x.tdiv 10) := by
  have h1 := Int.mul_tdiv_add_tmod x 10
  have h2 := Int.tmod_lt_of_pos x (b := 10) (by omega)
  have h3 := Int.lt_tmod_of_pos x (b := 10) (by omega)
  unfold inI at hx ⊢
  omega
theorem rMul10 (a : Int) (ha : inI a) (w : World) : Calls Try.prog 51 #[.int .i64 a, .int .i64 10] w (fun e w' => e = .returned (okI (a * 10)) ∧ w = w') := by
  have HT := Kept.mk (tdiv10 a ha)
  by_cases c0 : a = 0
  · subst c0
    go_enter Try.func51, Try.ntmps51
    go_wp2_with fail
    go_returns
    exact ⟨rfl, rfl⟩
  · have e0 : (a == 0) = false := by simp [c0]
    by_cases hr : inI (a * 10)
    · have ht : (wrap64 (a * 10)).tdiv 10 = a := HT.out.2 hr
      have hv : Kept (okI (a * 10) = .tuple #[.int .i64 (wrap64 (a * 10)), .int .i64 0]) := ⟨by rw [wrap_in hr]; exact if_pos hr⟩
      have hwa := wrap_in ha
      clear HT hr ha c0
      by_cases c1 : a = -1
      · subst c1
        go_enter Try.func51, Try.ntmps51
        go_wp2_with fail
        go_returns
        exact ⟨by rw [hv.out, wrap_in (x := -1 * 10) (by unfold inI; omega)]; rfl, rfl⟩
      · have e1 : (a == -1) = false := by simp [c1]
        clear c1
        go_enter Try.func51, Try.ntmps51
        go_wp2_with fail
        go_returns
        exact ⟨by rw [hv.out]; rfl, rfl⟩
    · have ht : (wrap64 ((wrap64 (a * 10)).tdiv 10) != a) = true := by
        rw [wrap_in (tdivIn _ (wrap_rng _)), bne_iff_ne]
        exact fun h => hr (HT.out.1 h)
      have ht2 : (wrap64 ((wrap64 (a * 10)).tdiv 10) == a) = false := by
        rw [wrap_in (tdivIn _ (wrap_rng _)), beq_eq_false_iff_ne]
        exact fun h => hr (HT.out.1 h)
      have hv : Kept (okI (a * 10) = .tuple #[.int .i64 0, .int .i64 10]) := ⟨if_neg hr⟩
      have hwa := wrap_in ha
      have c1 : a ≠ -1 := by rintro rfl; exact hr (by decide)
      have e1 : (a == -1) = false := by simp [c1]
      clear HT hr ha c0 c1
      go_enter Try.func51, Try.ntmps51
      go_wp2_with fail
      go_returns
      exact ⟨by rw [hv.out]; rfl, rfl⟩
theorem rSubD (a b : Int) (ha : inI a) (hb : 0 ≤ b ∧ b ≤ 9) (w : World) : Calls Try.prog 52 #[.int .i64 a, .int .i64 b] w (fun e w' => e = .returned (okI (a - b)) ∧ w = w') := by
  have hn : ¬ b < 0 := by omega
  have hlo : -9223372036854775808 + b ≤ 9223372036854775807 := by omega
  by_cases c0 : 0 < b
  · have hwl : wrap64 (-9223372036854775808 + b) = -9223372036854775808 + b := wrap_in (by unfold inI; omega)
    by_cases hr : inI (a - b)
    · have hv : Kept (okI (a - b) = .tuple #[.int .i64 (wrap64 (a - b)), .int .i64 0]) := ⟨by rw [wrap_in hr]; exact if_pos hr⟩
      have hc : ¬ a < -9223372036854775808 + b := by unfold inI at hr; omega
      clear hr ha hb hlo
      go_enter Try.func52, Try.ntmps52
      go_wp2_with fail
      go_returns
      exact ⟨by rw [hv.out]; rfl, rfl⟩
    · have hv : Kept (okI (a - b) = .tuple #[.int .i64 0, .int .i64 10]) := ⟨if_neg hr⟩
      have hc : a < -9223372036854775808 + b := by unfold inI at hr ha; omega
      clear hr ha hb hlo
      go_enter Try.func52, Try.ntmps52
      go_wp2_with fail
      go_returns
      exact ⟨by rw [hv.out]; rfl, rfl⟩
  · have hb0 : b = 0 := by omega
    subst hb0
    have hr : inI (a - 0) := by unfold inI at ha ⊢; omega
    have hv : Kept (okI (a - 0) = .tuple #[.int .i64 (wrap64 a), .int .i64 0]) := ⟨by unfold okI; rw [if_pos hr, Int.sub_zero, wrap_in ha]⟩
    clear ha hb hlo hn hr c0
    go_enter Try.func52, Try.ntmps52
    go_wp2_with fail
    go_returns
    exact ⟨by rw [hv.out]; rfl, rfl⟩
theorem rAddD (a b : Int) (ha : inI a) (hb : 0 ≤ b ∧ b ≤ 9) (w : World) : Calls Try.prog 53 #[.int .i64 a, .int .i64 b] w (fun e w' => e = .returned (okI (a + b)) ∧ w = w') := by
  have hn : ¬ b < 0 := by omega
  by_cases c0 : 0 < b
  · have hwl : wrap64 (9223372036854775807 - b) = 9223372036854775807 - b := wrap_in (by unfold inI; omega)
    by_cases hr : inI (a + b)
    · have hv : Kept (okI (a + b) = .tuple #[.int .i64 (wrap64 (a + b)), .int .i64 0]) := ⟨by rw [wrap_in hr]; exact if_pos hr⟩
      have hc : ¬ 9223372036854775807 - b < a := by unfold inI at hr; omega
      clear hr ha hb
      go_enter Try.func53, Try.ntmps53
      go_wp2_with fail
      go_returns
      exact ⟨by rw [hv.out]; rfl, rfl⟩
    · have hv : Kept (okI (a + b) = .tuple #[.int .i64 0, .int .i64 10]) := ⟨if_neg hr⟩
      have hc : 9223372036854775807 - b < a := by unfold inI at hr ha; omega
      clear hr ha hb
      go_enter Try.func53, Try.ntmps53
      go_wp2_with fail
      go_returns
      exact ⟨by rw [hv.out]; rfl, rfl⟩
  · have hb0 : b = 0 := by omega
    subst hb0
    have hr : inI (a + 0) := by unfold inI at ha ⊢; omega
    have hv : Kept (okI (a + 0) = .tuple #[.int .i64 (wrap64 a), .int .i64 0]) := ⟨by unfold okI; rw [if_pos hr, Int.add_zero, wrap_in ha]⟩
    clear ha hb hn hr c0
    go_enter Try.func53, Try.ntmps53
    go_wp2_with fail
    go_returns
    exact ⟨by rw [hv.out]; rfl, rfl⟩
/-! ### a number as it is written -/
def mxN (below : Bool) : Nat := if below = true then 9223372036854775808 else 9223372036854775807
def sgn (below : Bool) (x : Nat) : Int := if below = true then -(x : Int) else (x : Int)
theorem sgB_ok {below : Bool} {x : Nat} (h : x ≤ mxN below) : sgB below x = .ok (sgn below x) := by
  unfold mxN at h
  unfold sgB sgn
  cases below <;> simp at h ⊢ <;> omega
theorem sgB_over {below : Bool} {x : Nat} (h : ¬ x ≤ mxN below) : sgB below x = .error 10 := by
  unfold mxN at h
  unfold sgB
  cases below <;> simp at h ⊢ <;> omega
theorem sgn_in {below : Bool} {x : Nat} : inI (sgn below x) ↔ x ≤ mxN below := by
  unfold inI sgn mxN
  cases below <;> simp <;> omega
theorem sgn_ten (below : Bool) (x : Nat) : sgn below x * 10 = sgn below (x * 10) := by
  unfold sgn
  cases below <;> simp <;> omega
def RdD (d : Bs) (below : Bool) (v8 v7 : Value) (wr w : World) : Prop := ∃ i : Nat, v8 = .int .i64 (i : Int) ∧ v7 = .int .i64 (sgn below (decB (d.take i))) ∧ wr = w ∧ Kept (i ≤ d.length ∧ decB (d.take i) ≤ mxN below)
end Go.Proofs.Ytmibpaegcbaaaaa
