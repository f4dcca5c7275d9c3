/- Layer 5 (value): which values are ones, walked. -/
import Derived.Test.YtnidaahimofppaaTx
import Derived.Test.YtnidaahimofppaaShelf
import Derived.Test.YtnidaahimofppaaValP
namespace Go.Proofs.Ytnidaahimofppaa
open Go.RowKit
set_option linter.unusedVariables false
set_option linter.unusedSimpArgs false

abbrev va (k n : Int) (s : ByteArray) : Value := .agg #[.int .i64 k, .int .i64 n, .string s]
theorem mayV_no {k n : Int} {s : ByteArray} (h : mayV ⟨k, n, tx s⟩ = false) (h1 : k = 1) : s.toList.isEmpty = false := by
  rw [isE_tx]
  simp only [mayV, h1, decide_true, Bool.true_and, Bool.or_eq_false_iff] at h
  exact h.1

set_option maxRecDepth 100000 in
theorem of_num (n : Int) (s : ByteArray) (h : tx s = []) (w : World) :
    Calls Try.prog 38 #[va 1 n s] w (fun e w' => e = .returned (.tuple #[.iface 114 (.int .i64 n), .bool true]) ∧ Below w.heap.size w w') := by
  have hE : s.toList.isEmpty = true := by rw [isE_tx, h]; rfl
  clear h
  go_enter Try.func38, Try.ntmps38
  go_wp2_with fail
  go_returns
  exact ⟨rfl, (Below.refl _ _).alloc (Nat.le_refl _) _⟩
set_option maxRecDepth 100000 in
theorem of_txt (s : ByteArray) (h : s.size ≤ 64) (w : World) :
    Calls Try.prog 38 #[va 2 0 s] w (fun e w' => e = .returned (.tuple #[.iface 118 (.string s), .bool true]) ∧ Below w.heap.size w w') := by
  have h' : (s.size : Int) ≤ 64 := by omega
  clear h
  go_enter Try.func38, Try.ntmps38
  go_wp2_with fail
  go_returns
  exact ⟨rfl, (Below.refl _ _).alloc (Nat.le_refl _) _⟩
set_option maxRecDepth 100000 in
theorem of_no (k n : Int) (s : ByteArray) (h : mayV ⟨k, n, tx s⟩ = false) (w : World) :
    Calls Try.prog 38 #[va k n s] w (fun e w' => e = .returned (.tuple #[.nilIface, .bool false]) ∧ Below w.heap.size w w') := by
  by_cases k1 : k = 1
  · have hE := mayV_no h k1
    subst k1
    clear h
    go_enter Try.func38, Try.ntmps38
    go_wp2_with fail
    go_returns
    exact ⟨rfl, (Below.refl _ _).alloc (Nat.le_refl _) _⟩
  · have b1 : (k == 1) = false := by simp [k1]
    by_cases k2 : k = 2
    · subst k2
      by_cases n0 : n = 0
      · subst n0
        have hs : ¬ ((s.size : Int) ≤ 64) := by
          simp only [mayV, tx_len] at h
          simp at h
          omega
        clear h
        go_enter Try.func38, Try.ntmps38
        go_wp2_with fail
        go_returns
        exact ⟨rfl, (Below.refl _ _).alloc (Nat.le_refl _) _⟩
      · have b0 : (n == 0) = false := by simp [n0]
        clear h
        go_enter Try.func38, Try.ntmps38
        go_wp2_with fail
        go_returns
        exact ⟨rfl, (Below.refl _ _).alloc (Nat.le_refl _) _⟩
    · have b2 : (k == 2) = false := by simp [k2]
      clear h
      go_enter Try.func38, Try.ntmps38
      go_wp2_with fail
      go_returns
      exact ⟨rfl, (Below.refl _ _).alloc (Nat.le_refl _) _⟩
end Go.Proofs.Ytnidaahimofppaa
