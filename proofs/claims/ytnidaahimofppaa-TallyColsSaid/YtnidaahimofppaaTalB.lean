/- Layer 26 (tally): begin, walked. -/
import Derived.Test.YtnidaahimofppaaTalM
namespace Go.Proofs.Ytnidaahimofppaa
open Go.RowKit Go.Maps
set_option linter.unusedVariables false
set_option linter.unusedSimpArgs false

theorem blk_new (w : World) (o : Obj) : (w.alloc o).heap[w.heap.size]? = some o := Array.getElem?_push_size
set_option maxRecDepth 100000 in
set_option maxHeartbeats 2000000 in
theorem begin_any (k : Int) (w : World) : Calls Try.prog 23 #[.int .i64 k] w (BegP w k) := by
  by_cases k1 : k = 1
  · subst k1
    go_enter Try.func23, Try.ntmps23
    go_wp2_with fail
    go_returns
    exact ⟨_, rfl, ⟨⟨_, ⟨_, rfl, rfl, blk_new w _⟩, by simp⟩, _, _, rfl⟩, (Below.refl _ _).alloc (Nat.le_refl _) _⟩
  by_cases k2 : k = 2
  · subst k2
    go_enter Try.func23, Try.ntmps23
    go_wp2_with fail
    go_returns
    exact ⟨_, rfl, ⟨⟨_, ⟨_, rfl, rfl, by decide, blk_new w _⟩, by simp⟩, _, _, rfl⟩, (Below.refl _ _).alloc (Nat.le_refl _) _⟩
  by_cases k3 : k = 3
  · subst k3
    go_enter Try.func23, Try.ntmps23
    go_wp2_with (first | (go_at_call 30; refine (vnew_any _).mono ?_; rintro e w1 ⟨rfl, rfl⟩))
    go_returns
    exact ⟨_, rfl, ⟨⟨_, rfl, by simp⟩, _, _, rfl⟩, ((Below.refl _ _).alloc (Nat.le_refl _) _).alloc (by simp) _⟩
  by_cases k4 : k = 4
  · subst k4
    go_enter Try.func23, Try.ntmps23
    go_wp2_with (first | (go_at_call 30; refine (vnew_any _).mono ?_; rintro e w1 ⟨rfl, rfl⟩))
    go_returns
    exact ⟨_, rfl, ⟨⟨_, rfl, by simp⟩, _, _, rfl⟩, ((Below.refl _ _).alloc (Nat.le_refl _) _).alloc (by simp) _⟩
  by_cases k5 : k = 5
  · subst k5
    go_enter Try.func23, Try.ntmps23
    go_wp2_with (first | (go_at_call 32; refine (lnew_any _).mono ?_; rintro e w1 ⟨rfl, rfl⟩))
    go_returns
    exact ⟨_, rfl, ⟨⟨_, rfl, by simp⟩, _, _, rfl⟩, ((Below.refl _ _).alloc (Nat.le_refl _) _).alloc (by simp) _⟩
  by_cases k6 : k = 6
  · subst k6
    go_enter Try.func23, Try.ntmps23
    go_wp2_with (first | (go_at_call 32; refine (lnew_any _).mono ?_; rintro e w1 ⟨rfl, rfl⟩))
    go_returns
    exact ⟨_, rfl, ⟨⟨_, rfl, by simp⟩, _, _, rfl⟩, ((Below.refl _ _).alloc (Nat.le_refl _) _).alloc (by simp) _⟩
  have hp : ptOf k = .sta := by unfold ptOf; rw [if_neg k1, if_neg k2, if_neg (by omega), if_neg (by omega)]
  have HP := Kept.mk hp
  have d1 : (k == 1) = false := by simp [k1]
  have d2 : (k == 2) = false := by simp [k2]
  have d3 : (k == 3) = false := by simp [k3]
  have d4 : (k == 4) = false := by simp [k4]
  have d5 : (k == 5) = false := by simp [k5]
  have d6 : (k == 6) = false := by simp [k6]
  clear k1 k2 k3 k4 k5 k6 hp
  go_enter Try.func23, Try.ntmps23
  go_wp2_with fail
  go_returns
  exact ⟨_, rfl, ⟨⟨[], by rw [HP.out]; exact ⟨rfl, rfl⟩, by simp⟩, _, _, rfl⟩, Below.refl _ _⟩
end Go.Proofs.Ytnidaahimofppaa
