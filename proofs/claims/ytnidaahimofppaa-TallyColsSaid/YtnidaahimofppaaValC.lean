/- Layer 5 (value): May, Num, Text and how values stand to each other, walked. -/
import Derived.Test.YtnidaahimofppaaValW
namespace Go.Proofs.Ytnidaahimofppaa
open Go.RowKit
set_option linter.unusedVariables false
set_option linter.unusedSimpArgs false

/-- What is a value is a number or a text. -/
theorem mayV_cases {k n : Int} {s : ByteArray} (h : mayV ⟨k, n, tx s⟩ = true) : (k = 1 ∧ tx s = []) ∨ (k = 2 ∧ n = 0 ∧ s.size ≤ 64) := by
  rw [mayV_iff] at h
  simp only [tx_len] at h
  exact h
set_option maxRecDepth 100000 in
theorem may_any (k n : Int) (s : ByteArray) (w : World) :
    Calls Try.prog 43 #[va k n s] w (fun e w' => e = .returned (.bool (mayV ⟨k, n, tx s⟩)) ∧ Below w.heap.size w w') := by
  cases hm : mayV ⟨k, n, tx s⟩ with
  | true =>
    rcases mayV_cases hm with ⟨rfl, h⟩ | ⟨rfl, rfl, h⟩
    · go_enter Try.func43, Try.ntmps43
      go_wp2_with (first | (go_at_call 38; refine (of_num n s h _).mono ?_; rintro e w1 ⟨rfl, hb1⟩))
      go_returns
      exact ⟨rfl, ((Below.refl _ _).alloc (Nat.le_refl _) _).trans (hb1.mono (by simp))⟩
    · go_enter Try.func43, Try.ntmps43
      go_wp2_with (first | (go_at_call 38; refine (of_txt s h _).mono ?_; rintro e w1 ⟨rfl, hb1⟩))
      go_returns
      exact ⟨rfl, ((Below.refl _ _).alloc (Nat.le_refl _) _).trans (hb1.mono (by simp))⟩
  | false =>
    go_enter Try.func43, Try.ntmps43
    go_wp2_with (first | (go_at_call 38; refine (of_no k n s hm _).mono ?_; rintro e w1 ⟨rfl, hb1⟩))
    go_returns
    exact ⟨rfl, ((Below.refl _ _).alloc (Nat.le_refl _) _).trans (hb1.mono (by simp))⟩
theorem num_any (n : Int) (w : World) :
    Calls Try.prog 66 #[.int .i64 n] w (fun e w' => e = .returned (va 1 n ⟨#[]⟩) ∧ Below w.heap.size w w') := by
  go_enter Try.func66, Try.ntmps66
  go_wp2_with fail
  go_returns
  exact ⟨rfl, (Below.refl _ _).alloc (Nat.le_refl _) _⟩
theorem nan_any (n : Int) (w : World) : Calls Try.prog 45 #[.int .i64 n] w (fun e w' => e = .returned (.bool false) ∧ w = w') := by
  go_enter Try.func45, Try.ntmps45
  go_wp2_with fail
  go_returns
  exact ⟨rfl, rfl⟩
theorem cmpI_any (x y : Int) (w : World) : Calls Try.prog 39 #[.int .i64 x, .int .i64 y] w (fun e w' => e = .returned (.int .i64 (cmpI x y)) ∧ w = w') := by
  have h1 : x < y → Kept (cmpI x y = -1) := fun h => ⟨by unfold cmpI; rw [if_pos h]⟩
  have h2 : ¬ x < y → y < x → Kept (cmpI x y = 1) := fun h h' => ⟨by unfold cmpI; rw [if_neg h, if_pos h']⟩
  have h3 : ¬ x < y → ¬ y < x → Kept (cmpI x y = 0) := fun h h' => ⟨by unfold cmpI; rw [if_neg h, if_neg h']⟩
  rcases Int.lt_trichotomy x y with c | c | c
  · have hv := h1 c
    clear h1 h2 h3
    go_enter Try.func39, Try.ntmps39
    go_wp2_with (first | (go_at_call 45; refine (nan_any _ _).mono ?_; rintro e w1 ⟨rfl, rfl⟩))
    go_returns
    exact ⟨by rw [hv.out]; rfl, rfl⟩
  · subst c
    have hv := h3 (by omega) (by omega)
    clear h1 h2 h3
    go_enter Try.func39, Try.ntmps39
    go_wp2_with (first | (go_at_call 45; refine (nan_any _ _).mono ?_; rintro e w1 ⟨rfl, rfl⟩))
    go_returns
    exact ⟨by rw [hv.out]; rfl, rfl⟩
  · have hv := h2 (by omega) c
    have c' : ¬ x < y := by omega
    clear h1 h2 h3
    go_enter Try.func39, Try.ntmps39
    go_wp2_with (first | (go_at_call 45; refine (nan_any _ _).mono ?_; rintro e w1 ⟨rfl, rfl⟩))
    go_returns
    exact ⟨by rw [hv.out]; rfl, rfl⟩
end Go.Proofs.Ytnidaahimofppaa
