/- Layer 26 (tally): slices.Clone of schemas and of aggregates, and begin, walked. -/
import Derived.Test.YtnidaahimofppaaTalO
import Derived.WalkSpells
namespace Go.Proofs.Ytnidaahimofppaa
open Go.RowKit
set_option linter.unusedVariables false
set_option linter.unusedSimpArgs false

set_option maxRecDepth 100000 in
set_option maxHeartbeats 1000000 in
theorem cloneC_any (v : Value) (cs : List Cl) (w : World) (H : HasC w w.heap.size v cs) (h8 : cs.length ≤ 8) :
    Calls Try.prog 21 #[v] w (RetC1 w cs) := by
  have HH := Kept.mk H
  have H8 := Kept.mk h8
  obtain ⟨A, c, rfl, hlc, hA⟩ := H
  clear h8
  rcases A with _ | ad
  · have h0 : cs = [] := by
      by_cases h : cs = []
      · exact h
      · obtain ⟨_, _, h2, _⟩ := hA h
        cases h2
    subst h0
    clear hA hlc
    have hq : ∀ W : World, (binOp .eql 23 (.slice none ([] : List Cl).length c) (.slice none 0 0)).run Try.prog W = .ok (.bool true) W := fun W => Lib.run_eql_slice_nil (P := Try.prog) W 23 _ none _ c 0 0 Try.underlying23
    simp only [List.length_nil] at hq ⊢
    go_enter Try.func21, Try.ntmps21
    go_wp2_with fail
    go_returns
    exact ⟨_, rfl, OwnC.nil _ _, Below.refl _ _⟩
  · clear hA hlc
    have hq : ∀ W : World, (binOp .eql 23 (.slice (some ad) cs.length c) (.slice none 0 0)).run Try.prog W = .ok (.bool false) W := fun W => Lib.run_eql_slice_nil (P := Try.prog) W 23 _ (some ad) _ c 0 0 Try.underlying23
    go_enter Try.func21, Try.ntmps21
    go_wp2_with (first
      | ((at_builtin); refine app_cols (w0 := w) (W := _) rfl (.tmp 5) (.tmp 6) 23 rfl Try.underlying23 (.slice (some ⟨w.heap.size, 0, none⟩) 0 0) [] cs (some ad) c rfl rfl ?c1 ?c2 ?c3 ?c4 ?_; (case c1 => exact (HH.out.below ((Below.refl _ _).alloc (Nat.le_refl _) _)).read); (case c2 => exact OwnC.lit _ _ [] (Nat.le_refl _) (by simp)); (case c3 => exact (Below.refl _ _).alloc (Nat.le_refl _) _); (case c4 => have := H8.out; simp only [List.length_nil]; omega); intro v3 r3 d3 hO3; rewrite [List.nil_append] at hO3; have HO3 := Kept.mk hO3; clear hO3))
    go_returns
    exact ⟨_, rfl, HO3.out, xw_below _ _ _⟩
/-- It returns a new list of aggregates. -/
def RetA1 (w : World) (xs : List Vr) (e : Ending) (w' : World) : Prop := ∃ v, e = .returned v ∧ OwnA w' w.heap.size v xs ∧ Below w.heap.size w w'
set_option maxRecDepth 100000 in
set_option maxHeartbeats 1000000 in
theorem cloneA_any (v : Value) (cs : List Vr) (w : World) (H : HasR w w.heap.size v cs) (h8 : cs.length ≤ 8) :
    Calls Try.prog 22 #[v] w (RetA1 w cs) := by
  have HH := Kept.mk H
  have H8 := Kept.mk h8
  obtain ⟨A, c, rfl, hlc, hA⟩ := H
  clear h8
  rcases A with _ | ad
  · have h0 : cs = [] := by
      by_cases h : cs = []
      · exact h
      · obtain ⟨_, _, h2, _⟩ := hA h
        cases h2
    subst h0
    clear hA hlc
    have hq : ∀ W : World, (binOp .eql 24 (.slice none ([] : List Vr).length c) (.slice none 0 0)).run Try.prog W = .ok (.bool true) W := fun W => Lib.run_eql_slice_nil (P := Try.prog) W 24 _ none _ c 0 0 Try.underlying24
    simp only [List.length_nil] at hq ⊢
    go_enter Try.func22, Try.ntmps22
    go_wp2_with fail
    go_returns
    exact ⟨_, rfl, OwnA.nil _ _, Below.refl _ _⟩
  · clear hA hlc
    have hq : ∀ W : World, (binOp .eql 24 (.slice (some ad) cs.length c) (.slice none 0 0)).run Try.prog W = .ok (.bool false) W := fun W => Lib.run_eql_slice_nil (P := Try.prog) W 24 _ (some ad) _ c 0 0 Try.underlying24
    go_enter Try.func22, Try.ntmps22
    go_wp2_with (first
      | ((at_builtin); refine app_aggs (w0 := w) (W := _) rfl (.tmp 5) (.tmp 6) 24 rfl Try.underlying24 (.slice (some ⟨w.heap.size, 0, none⟩) 0 0) [] cs (some ad) c rfl rfl ?c1 ?c2 ?c3 ?c4 ?_; (case c1 => exact (HH.out.below ((Below.refl _ _).alloc (Nat.le_refl _) _)).read); (case c2 => exact OwnA.lit _ _ [] (Nat.le_refl _) (by simp)); (case c3 => exact (Below.refl _ _).alloc (Nat.le_refl _) _); (case c4 => have := H8.out; simp only [List.length_nil]; omega); intro v3 r3 d3 hO3; rewrite [List.nil_append] at hO3; have HO3 := Kept.mk hO3; clear hO3))
    go_returns
    exact ⟨_, rfl, HO3.out, xw_below _ _ _⟩
theorem lnew_any (w : World) : Calls Try.prog 32 #[] w (fun e w' => e = .returned (.pointer (some ⟨w.heap.size, 0, none⟩)) ∧ w.alloc (.cells #[.complex .f64 0 0] 121) = w') := by
  go_enter Try.func32, Try.ntmps32
  go_wp2_with fail
  go_returns
  exact ⟨rfl, rfl⟩
theorem vnew_any (w : World) : Calls Try.prog 30 #[.func (Fn.func 31) #[] #[]] w (fun e w' => e = .returned (.pointer (some ⟨w.heap.size, 0, none⟩)) ∧ w.alloc (.cells #[.slice none 0 0, .func (Fn.func 31) #[] #[], .int .i64 0] 109) = w') := by
  go_enter Try.func30, Try.ntmps30
  go_wp2_with fail
  go_returns
  exact ⟨rfl, rfl⟩
end Go.Proofs.Ytnidaahimofppaa
