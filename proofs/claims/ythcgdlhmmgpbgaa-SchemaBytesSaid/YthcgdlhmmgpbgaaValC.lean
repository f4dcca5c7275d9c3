/- Layer 5 (value): May, Num, Text and how values stand to each other, walked. -/
import Derived.Test.YthcgdlhmmgpbgaaValW
namespace Go.Proofs.Ythcgdlhmmgpbgaa
open Go.RowKit
set_option linter.unusedVariables false
set_option linter.unusedSimpArgs false

/-- What is a value is a number or a text. -/
theorem mayV_cases {k n : Int} {s : ByteArray} (h : mayV ⟨k, n, tx s⟩ = true) : (k = 1 ∧ tx s = []) ∨ (k = 2 ∧ n = 0 ∧ s.size ≤ 64) := by
  rw [mayV_iff] at h
  simp only [tx_len] at h
  exact h
set_option maxRecDepth 100000 in
theorem may_any (k n : Int) (s : ByteArray) (w : World) :
    Calls Try.prog 64 #[va k n s] w (fun e w' => e = .returned (.bool (mayV ⟨k, n, tx s⟩)) ∧ Below w.heap.size w w') := by
  cases hm : mayV ⟨k, n, tx s⟩ with
  | true =>
    rcases mayV_cases hm with ⟨rfl, h⟩ | ⟨rfl, rfl, h⟩
    · go_enter Try.func64, Try.ntmps64
      go_wp2_with (first | (go_at_call 77; refine (of_num n s h _).mono ?_; rintro e w1 ⟨rfl, hb1⟩))
      go_returns
      exact ⟨rfl, ((Below.refl _ _).alloc (Nat.le_refl _) _).trans (hb1.mono (by simp))⟩
    · go_enter Try.func64, Try.ntmps64
      go_wp2_with (first | (go_at_call 77; refine (of_txt s h _).mono ?_; rintro e w1 ⟨rfl, hb1⟩))
      go_returns
      exact ⟨rfl, ((Below.refl _ _).alloc (Nat.le_refl _) _).trans (hb1.mono (by simp))⟩
  | false =>
    go_enter Try.func64, Try.ntmps64
    go_wp2_with (first | (go_at_call 77; refine (of_no k n s hm _).mono ?_; rintro e w1 ⟨rfl, hb1⟩))
    go_returns
    exact ⟨rfl, ((Below.refl _ _).alloc (Nat.le_refl _) _).trans (hb1.mono (by simp))⟩
set_option maxRecDepth 100000 in
theorem rmay_any (k n : Int) (s : ByteArray) (w : World) :
    Calls Try.prog 65 #[va k n s] w (fun e w' => e = .returned (.bool (mayV ⟨k, n, tx s⟩)) ∧ Below w.heap.size w w') := by
  by_cases k1 : k = 1
  · subst k1
    have hm : Kept (mayV ⟨1, n, tx s⟩ = s.toList.isEmpty) := ⟨by rw [isE_tx]; simp [mayV]⟩
    go_enter Try.func65, Try.ntmps65
    go_wp2_with fail
    go_returns
    exact ⟨by rw [hm.out]; rfl, (Below.refl _ _).alloc (Nat.le_refl _) _⟩
  · have b1 : (k == 1) = false := by simp [k1]
    by_cases k2 : k = 2
    · subst k2
      by_cases n0 : n = 0
      · subst n0
        have hm : Kept (mayV ⟨2, 0, tx s⟩ = decide ((s.size : Int) ≤ 64)) := ⟨by simp [mayV, tx_len]; omega⟩
        go_enter Try.func65, Try.ntmps65
        go_wp2_with fail
        go_returns
        exact ⟨by rw [hm.out]; rfl, (Below.refl _ _).alloc (Nat.le_refl _) _⟩
      · have b0 : (n == 0) = false := by simp [n0]
        have hm : Kept (mayV ⟨2, n, tx s⟩ = false) := ⟨by simp [mayV, n0]⟩
        go_enter Try.func65, Try.ntmps65
        go_wp2_with fail
        go_returns
        exact ⟨by rw [hm.out]; rfl, (Below.refl _ _).alloc (Nat.le_refl _) _⟩
    · have b2 : (k == 2) = false := by simp [k2]
      have hm : Kept (mayV ⟨k, n, tx s⟩ = false) := ⟨by simp [mayV, k1, k2]⟩
      go_enter Try.func65, Try.ntmps65
      go_wp2_with fail
      go_returns
      exact ⟨by rw [hm.out]; rfl, (Below.refl _ _).alloc (Nat.le_refl _) _⟩
end Go.Proofs.Ythcgdlhmmgpbgaa
