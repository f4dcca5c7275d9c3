/- A world with more blocks and draws behind it: how the walk reads what lies in the old ones. (What 'Below' says, in a form that the walk computes with.) -/
import Derived.WalkKit
import Derived.WalkSmall
namespace Go.Proofs.Ytnidaahimofppaa
open Go.RowKit
set_option linter.unusedVariables false
set_option linter.unusedSimpArgs false

/-- w, with the blocks r behind its own, d orders having been drawn. -/
def xw (w : World) (r : Array Obj) (d : Nat) : World := { w with heap := w.heap ++ r, drawn := d }
theorem xw_of {w w' : World} (h : Below w.heap.size w w') : ∃ r d, w' = xw w r d := by
  refine ⟨w'.heap.extract w.heap.size w'.heap.size, w'.drawn, ?_⟩
  have hh : w'.heap = w.heap ++ w'.heap.extract w.heap.size w'.heap.size := by
    apply Array.ext_getElem?
    intro i
    rw [Array.getElem?_append]
    split
    · rename_i hi; exact h.block i hi
    · rename_i hi
      rw [Array.getElem?_extract]
      have hs := h.size
      split
      · congr 1; omega
      · rename_i hj
        rw [Array.getElem?_eq_none]; omega
  unfold xw
  rw [← hh]
  obtain ⟨a, b, c, d, e⟩ := w'
  simp only [World.mk.injEq, true_and, and_true]
  exact ⟨h.tape, h.os, h.output⟩
theorem xw_size (w : World) (r : Array Obj) (d : Nat) : (xw w r d).heap.size = w.heap.size + r.size := by simp [xw]
theorem xw_block (w : World) (r : Array Obj) (d n : Nat) (h : n < w.heap.size) : (xw w r d).heap[n]? = w.heap[n]? := by
  show (w.heap ++ r)[n]? = _
  rw [Array.getElem?_append_left h]
theorem xw_below (w : World) (r : Array Obj) (d : Nat) : Below w.heap.size w (xw w r d) := ⟨rfl, rfl, rfl, by rw [xw_size]; omega, fun i hi => xw_block w r d i hi⟩
theorem below_xw {B : Nat} {w w1 : World} (h : Below B w w1) (hB : B ≤ w1.heap.size) (r : Array Obj) (d : Nat) : Below B w (xw w1 r d) := h.trans ((xw_below w1 r d).mono hB)
/-! what the walk's simp takes -/
theorem xw_cell (w : World) (r : Array Obj) (d n i : Nat) (h : n < w.heap.size) : (xw w r d).cell? ⟨n, i, none⟩ = w.cell? ⟨n, i, none⟩ := World.cell?_of_block (w := w) (xw_block w r d n h)
theorem xw_frozen (w : World) (r : Array Obj) (d n i : Nat) (h : n < w.heap.size) : (xw w r d).frozen? ⟨n, i, none⟩ = w.frozen? ⟨n, i, none⟩ := World.frozen?_of_block (w := w) (xw_block w r d n h)
theorem xw_set (w : World) (r : Array Obj) (d n i : Nat) (v : Value) (h : n < w.heap.size) : (xw w r d).setCell ⟨n, i, none⟩ v = xw (w.setCell ⟨n, i, none⟩ v) r d := by
  unfold xw World.setCell
  congr 1
  apply Array.ext_getElem?
  intro k
  rw [Array.getElem?_append]
  simp only [Array.getElem?_modify, Array.getElem?_append, Array.size_modify]
  split <;> rename_i h1
  · split <;> simp_all
  · have : ¬ n = k := by omega
    simp [this, h1]
theorem xw_drew (w : World) (r : Array Obj) (d : Nat) : (xw w r d).drew = xw w r (d + 1) := rfl
theorem xw_drewN (w : World) (r : Array Obj) (d n : Nat) : (xw w r d).drewN n = xw w r (d + n) := rfl
theorem drew_xw (w : World) (r : Array Obj) (d : Nat) : xw w.drew r d = xw w r d := rfl
theorem drewN_xw (w : World) (r : Array Obj) (d n : Nat) : xw (w.drewN n) r d = xw w r d := rfl
theorem xw_xw (w : World) (r r2 : Array Obj) (d d2 : Nat) : xw (xw w r d) r2 d2 = xw w (r ++ r2) d2 := by
  unfold xw; simp [Array.append_assoc]
/-! two stores into one block: the later one counts; the lower place first -/
theorem set_set (w : World) (n i : Nat) (u v : Value) : (w.setCell ⟨n, i, none⟩ u).setCell ⟨n, i, none⟩ v = w.setCell ⟨n, i, none⟩ v := by
  unfold World.setCell
  congr 1
  apply Array.ext_getElem?
  intro k
  simp only [Array.getElem?_modify]
  split
  · cases w.heap[k]? with
    | none => rfl
    | some o => cases o <;> simp
  · rfl
theorem set_sort (w : World) (n i j : Nat) (u v : Value) (h : i < j) : (w.setCell ⟨n, j, none⟩ v).setCell ⟨n, i, none⟩ u = (w.setCell ⟨n, i, none⟩ u).setCell ⟨n, j, none⟩ v := by
  unfold World.setCell
  congr 1
  apply Array.ext_getElem?
  intro k
  simp only [Array.getElem?_modify]
  split
  · cases w.heap[k]? with
    | none => rfl
    | some o => cases o <;> simp [Array.setIfInBounds_comm _ _ (show i ≠ j by omega)]
  · rfl
attribute [go_sem] set_set set_sort
/-- What the walk need not see of. -/
def Far (n : Nat) (w : World) (r : Array Obj) (k : Nat) : Prop := n ≤ w.heap.size + r.size + k
def FarL (n : Nat) (w : World) (r : Array Obj) : Prop := n < w.heap.size + r.size
theorem lt_xw (w : World) (r : Array Obj) (d n : Nat) : (n < (xw w r d).heap.size) = (n < w.heap.size ∨ FarL n w r) := by rw [xw_size]; unfold FarL; apply propext; omega
theorem le_xw (w : World) (r : Array Obj) (d n : Nat) : (n ≤ (xw w r d).heap.size) = (n ≤ w.heap.size ∨ Far n w r 0) := by rw [xw_size]; unfold Far; apply propext; omega
theorem le_xw1 (w : World) (r : Array Obj) (d n : Nat) : (n ≤ (xw w r d).heap.size + 1) = (n ≤ w.heap.size ∨ Far n w r 1) := by rw [xw_size]; unfold Far; apply propext; omega
theorem lt_xw1 (w : World) (r : Array Obj) (d n : Nat) : (n < (xw w r d).heap.size + 1) = (n ≤ w.heap.size ∨ Far n w r (1 - 1)) := by rw [xw_size]; unfold Far; apply propext; omega
theorem le_xw2 (w : World) (r : Array Obj) (d n : Nat) : (n ≤ (xw w r d).heap.size + 1 + 1) = (n ≤ w.heap.size ∨ Far n w r 2) := by rw [xw_size]; unfold Far; apply propext; omega
theorem lt_xw2 (w : World) (r : Array Obj) (d n : Nat) : (n < (xw w r d).heap.size + 1 + 1) = (n ≤ w.heap.size ∨ Far n w r (2 - 1)) := by rw [xw_size]; unfold Far; apply propext; omega
theorem le_xw3 (w : World) (r : Array Obj) (d n : Nat) : (n ≤ (xw w r d).heap.size + 1 + 1 + 1) = (n ≤ w.heap.size ∨ Far n w r 3) := by rw [xw_size]; unfold Far; apply propext; omega
theorem lt_xw3 (w : World) (r : Array Obj) (d n : Nat) : (n < (xw w r d).heap.size + 1 + 1 + 1) = (n ≤ w.heap.size ∨ Far n w r (3 - 1)) := by rw [xw_size]; unfold Far; apply propext; omega
theorem le_xw4 (w : World) (r : Array Obj) (d n : Nat) : (n ≤ (xw w r d).heap.size + 1 + 1 + 1 + 1) = (n ≤ w.heap.size ∨ Far n w r 4) := by rw [xw_size]; unfold Far; apply propext; omega
theorem lt_xw4 (w : World) (r : Array Obj) (d n : Nat) : (n < (xw w r d).heap.size + 1 + 1 + 1 + 1) = (n ≤ w.heap.size ∨ Far n w r (4 - 1)) := by rw [xw_size]; unfold Far; apply propext; omega
theorem le_xw5 (w : World) (r : Array Obj) (d n : Nat) : (n ≤ (xw w r d).heap.size + 1 + 1 + 1 + 1 + 1) = (n ≤ w.heap.size ∨ Far n w r 5) := by rw [xw_size]; unfold Far; apply propext; omega
theorem lt_xw5 (w : World) (r : Array Obj) (d n : Nat) : (n < (xw w r d).heap.size + 1 + 1 + 1 + 1 + 1) = (n ≤ w.heap.size ∨ Far n w r (5 - 1)) := by rw [xw_size]; unfold Far; apply propext; omega
theorem le_xw6 (w : World) (r : Array Obj) (d n : Nat) : (n ≤ (xw w r d).heap.size + 1 + 1 + 1 + 1 + 1 + 1) = (n ≤ w.heap.size ∨ Far n w r 6) := by rw [xw_size]; unfold Far; apply propext; omega
theorem lt_xw6 (w : World) (r : Array Obj) (d n : Nat) : (n < (xw w r d).heap.size + 1 + 1 + 1 + 1 + 1 + 1) = (n ≤ w.heap.size ∨ Far n w r (6 - 1)) := by rw [xw_size]; unfold Far; apply propext; omega
theorem le_xw7 (w : World) (r : Array Obj) (d n : Nat) : (n ≤ (xw w r d).heap.size + 1 + 1 + 1 + 1 + 1 + 1 + 1) = (n ≤ w.heap.size ∨ Far n w r 7) := by rw [xw_size]; unfold Far; apply propext; omega
theorem lt_xw7 (w : World) (r : Array Obj) (d n : Nat) : (n < (xw w r d).heap.size + 1 + 1 + 1 + 1 + 1 + 1 + 1) = (n ≤ w.heap.size ∨ Far n w r (7 - 1)) := by rw [xw_size]; unfold Far; apply propext; omega
theorem le_up2 (n : Nat) : (n ≤ n + 1 + 1) = True := by simp; omega
theorem lt_up2 (n : Nat) : (n < n + 1 + 1) = True := by simp; omega
theorem le_up3 (n : Nat) : (n ≤ n + 1 + 1 + 1) = True := by simp; omega
theorem lt_up3 (n : Nat) : (n < n + 1 + 1 + 1) = True := by simp; omega
theorem le_up4 (n : Nat) : (n ≤ n + 1 + 1 + 1 + 1) = True := by simp; omega
theorem lt_up4 (n : Nat) : (n < n + 1 + 1 + 1 + 1) = True := by simp; omega
theorem le_up5 (n : Nat) : (n ≤ n + 1 + 1 + 1 + 1 + 1) = True := by simp; omega
theorem lt_up5 (n : Nat) : (n < n + 1 + 1 + 1 + 1 + 1) = True := by simp; omega
theorem le_up6 (n : Nat) : (n ≤ n + 1 + 1 + 1 + 1 + 1 + 1) = True := by simp; omega
theorem lt_up6 (n : Nat) : (n < n + 1 + 1 + 1 + 1 + 1 + 1) = True := by simp; omega
theorem le_up7 (n : Nat) : (n ≤ n + 1 + 1 + 1 + 1 + 1 + 1 + 1) = True := by simp; omega
theorem lt_up7 (n : Nat) : (n < n + 1 + 1 + 1 + 1 + 1 + 1 + 1) = True := by simp; omega
theorem le_up8 (n : Nat) : (n ≤ n + 1 + 1 + 1 + 1 + 1 + 1 + 1 + 1) = True := by simp; omega
theorem lt_up8 (n : Nat) : (n < n + 1 + 1 + 1 + 1 + 1 + 1 + 1 + 1) = True := by simp; omega
theorem le_up9 (n : Nat) : (n ≤ n + 1 + 1 + 1 + 1 + 1 + 1 + 1 + 1 + 1) = True := by simp; omega
theorem lt_up9 (n : Nat) : (n < n + 1 + 1 + 1 + 1 + 1 + 1 + 1 + 1 + 1) = True := by simp; omega
attribute [go_sem] le_up2 lt_up2 le_up3 lt_up3 le_up4 lt_up4 le_up5 lt_up5 le_up6 lt_up6 le_up7 lt_up7 le_up8 lt_up8 le_up9 lt_up9
attribute [go_sem] xw_cell xw_frozen xw_set xw_drew xw_drewN drew_xw drewN_xw xw_xw lt_xw le_xw le_xw1 lt_xw1 le_xw2 lt_xw2 le_xw3 lt_xw3 le_xw4 lt_xw4 le_xw5 lt_xw5 le_xw6 lt_xw6 le_xw7 lt_xw7
end Go.Proofs.Ytnidaahimofppaa
