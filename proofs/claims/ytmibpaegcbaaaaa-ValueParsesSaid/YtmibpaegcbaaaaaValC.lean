/- Layer 5 (value): May, Num, Text and how values stand to each other, walked. -/
import Derived.Test.YtmibpaegcbaaaaaValW
namespace Go.Proofs.Ytmibpaegcbaaaaa
open Go.RowKit
set_option linter.unusedVariables false
set_option linter.unusedSimpArgs false

/-- What is a value is a number or a text. -/
theorem mayV_cases {k n : Int} {s : ByteArray} (h : mayV ⟨k, n, tx s⟩ = true) : (k = 1 ∧ tx s = []) ∨ (k = 2 ∧ n = 0 ∧ s.size ≤ 64) := by
  rw [mayV_iff] at h
  simp only [tx_len] at h
  exact h
set_option maxRecDepth 100000 in
theorem may_any (k n : Int) (s : ByteArray) (w : World) :
    Calls Try.prog 10 #[va k n s] w (fun e w' => e = .returned (.bool (mayV ⟨k, n, tx s⟩)) ∧ Below w.heap.size w w') := by
  cases hm : mayV ⟨k, n, tx s⟩ with
  | true =>
    rcases mayV_cases hm with ⟨rfl, h⟩ | ⟨rfl, rfl, h⟩
    · go_enter Try.func10, Try.ntmps10
      go_wp2_with (first | (go_at_call 28; refine (of_num n s h _).mono ?_; rintro e w1 ⟨rfl, hb1⟩))
      go_returns
      exact ⟨rfl, ((Below.refl _ _).alloc (Nat.le_refl _) _).trans (hb1.mono (by simp))⟩
    · go_enter Try.func10, Try.ntmps10
      go_wp2_with (first | (go_at_call 28; refine (of_txt s h _).mono ?_; rintro e w1 ⟨rfl, hb1⟩))
      go_returns
      exact ⟨rfl, ((Below.refl _ _).alloc (Nat.le_refl _) _).trans (hb1.mono (by simp))⟩
  | false =>
    go_enter Try.func10, Try.ntmps10
    go_wp2_with (first | (go_at_call 28; refine (of_no k n s hm _).mono ?_; rintro e w1 ⟨rfl, hb1⟩))
    go_returns
    exact ⟨rfl, ((Below.refl _ _).alloc (Nat.le_refl _) _).trans (hb1.mono (by simp))⟩
set_option maxRecDepth 100000 in
theorem rmay_any (k n : Int) (s : ByteArray) (w : World) :
    Calls Try.prog 11 #[va k n s] w (fun e w' => e = .returned (.bool (mayV ⟨k, n, tx s⟩)) ∧ Below w.heap.size w w') := by
  by_cases k1 : k = 1
  · subst k1
    have hm : Kept (mayV ⟨1, n, tx s⟩ = s.toList.isEmpty) := ⟨by rw [isE_tx]; simp [mayV]⟩
    go_enter Try.func11, Try.ntmps11
    go_wp2_with fail
    go_returns
    exact ⟨by rw [hm.out]; rfl, (Below.refl _ _).alloc (Nat.le_refl _) _⟩
  · have b1 : (k == 1) = false := by simp [k1]
    by_cases k2 : k = 2
    · subst k2
      by_cases n0 : n = 0
      · subst n0
        have hm : Kept (mayV ⟨2, 0, tx s⟩ = decide ((s.size : Int) ≤ 64)) := ⟨by simp [mayV, tx_len]; omega⟩
        go_enter Try.func11, Try.ntmps11
        go_wp2_with fail
        go_returns
        exact ⟨by rw [hm.out]; rfl, (Below.refl _ _).alloc (Nat.le_refl _) _⟩
      · have b0 : (n == 0) = false := by simp [n0]
        have hm : Kept (mayV ⟨2, n, tx s⟩ = false) := ⟨by simp [mayV, n0]⟩
        go_enter Try.func11, Try.ntmps11
        go_wp2_with fail
        go_returns
        exact ⟨by rw [hm.out]; rfl, (Below.refl _ _).alloc (Nat.le_refl _) _⟩
    · have b2 : (k == 2) = false := by simp [k2]
      have hm : Kept (mayV ⟨k, n, tx s⟩ = false) := ⟨by simp [mayV, k1, k2]⟩
      go_enter Try.func11, Try.ntmps11
      go_wp2_with fail
      go_returns
      exact ⟨by rw [hm.out]; rfl, (Below.refl _ _).alloc (Nat.le_refl _) _⟩
theorem num_any (n : Int) (w : World) :
    Calls Try.prog 12 #[.int .i64 n] w (fun e w' => e = .returned (va 1 n ⟨#[]⟩) ∧ Below w.heap.size w w') := by
  go_enter Try.func12, Try.ntmps12
  go_wp2_with fail
  go_returns
  exact ⟨rfl, (Below.refl _ _).alloc (Nat.le_refl _) _⟩
theorem rnum_any (n : Int) (w : World) :
    Calls Try.prog 13 #[.int .i64 n] w (fun e w' => e = .returned (va 1 n ⟨#[]⟩) ∧ Below w.heap.size w w') := by
  go_enter Try.func13, Try.ntmps13
  go_wp2_with fail
  go_returns
  exact ⟨rfl, (Below.refl _ _).alloc (Nat.le_refl _) _⟩
theorem text_any (s : ByteArray) (w : World) :
    Calls Try.prog 9 #[.string s] w (fun e w' => e = .returned (if 64 < s.size then .tuple #[va 0 0 ⟨#[]⟩, .int .i64 6] else .tuple #[va 2 0 s, .int .i64 0]) ∧ Below w.heap.size w w') := by
  by_cases c : 64 < s.size
  · rw [if_pos c]
    have c' : 64 < (s.size : Int) := by omega
    clear c
    go_enter Try.func9, Try.ntmps9
    go_wp2_with fail
    go_returns
    exact ⟨rfl, (Below.refl _ _).alloc (Nat.le_refl _) _⟩
  · rw [if_neg c]
    have c' : ¬ (64 < (s.size : Int)) := by omega
    clear c
    go_enter Try.func9, Try.ntmps9
    go_wp2_with fail
    go_returns
    exact ⟨rfl, (Below.refl _ _).alloc (Nat.le_refl _) _⟩
theorem rtext_any (s : ByteArray) (w : World) :
    Calls Try.prog 15 #[.string s] w (fun e w' => e = .returned (va 2 0 s) ∧ Below w.heap.size w w') := by
  go_enter Try.func15, Try.ntmps15
  go_wp2_with fail
  go_returns
  exact ⟨rfl, (Below.refl _ _).alloc (Nat.le_refl _) _⟩
theorem nan_any (n : Int) (w : World) : Calls Try.prog 46 #[.int .i64 n] w (fun e w' => e = .returned (.bool false) ∧ w = w') := by
  go_enter Try.func46, Try.ntmps46
  go_wp2_with fail
  go_returns
  exact ⟨rfl, rfl⟩
theorem cmpI_any (x y : Int) (w : World) : Calls Try.prog 29 #[.int .i64 x, .int .i64 y] w (fun e w' => e = .returned (.int .i64 (cmpI x y)) ∧ w = w') := by
  have h1 : x < y → Kept (cmpI x y = -1) := fun h => ⟨by unfold cmpI; rw [if_pos h]⟩
  have h2 : ¬ x < y → y < x → Kept (cmpI x y = 1) := fun h h' => ⟨by unfold cmpI; rw [if_neg h, if_pos h']⟩
  have h3 : ¬ x < y → ¬ y < x → Kept (cmpI x y = 0) := fun h h' => ⟨by unfold cmpI; rw [if_neg h, if_neg h']⟩
  rcases Int.lt_trichotomy x y with c | c | c
  · have hv := h1 c
    clear h1 h2 h3
    go_enter Try.func29, Try.ntmps29
    go_wp2_with (first | (go_at_call 46; refine (nan_any _ _).mono ?_; rintro e w1 ⟨rfl, rfl⟩))
    go_returns
    exact ⟨by rw [hv.out]; rfl, rfl⟩
  · subst c
    have hv := h3 (by omega) (by omega)
    clear h1 h2 h3
    go_enter Try.func29, Try.ntmps29
    go_wp2_with (first | (go_at_call 46; refine (nan_any _ _).mono ?_; rintro e w1 ⟨rfl, rfl⟩))
    go_returns
    exact ⟨by rw [hv.out]; rfl, rfl⟩
  · have hv := h2 (by omega) c
    have c' : ¬ x < y := by omega
    clear h1 h2 h3
    go_enter Try.func29, Try.ntmps29
    go_wp2_with (first | (go_at_call 46; refine (nan_any _ _).mono ?_; rintro e w1 ⟨rfl, rfl⟩))
    go_returns
    exact ⟨by rw [hv.out]; rfl, rfl⟩
end Go.Proofs.Ytmibpaegcbaaaaa
