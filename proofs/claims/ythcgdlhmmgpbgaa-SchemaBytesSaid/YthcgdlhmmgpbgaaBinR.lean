/- A reader of bytes as a struct of three cells (what is read, how far, what was wrong first), kept through calls that change nothing else. -/
import Derived.Test.YthcgdlhmmgpbgaaBinX
namespace Go.Proofs.Ythcgdlhmmgpbgaa
open Go.RowKit
set_option linter.unusedVariables false
set_option linter.unusedSimpArgs false

/-- Of what was there only the block g may have changed. -/
structure But (g : Nat) (w w' : World) : Prop where
  os : w'.os = w.os
  tape : w'.tape = w.tape
  output : w'.output = w.output
  size : w.heap.size ≤ w'.heap.size
  block : ∀ k, k < w.heap.size → k ≠ g → w'.heap[k]? = w.heap[k]?
theorem But.refl (g : Nat) (w : World) : But g w w := ⟨rfl, rfl, rfl, Nat.le_refl _, fun _ _ _ => rfl⟩
theorem But.trans {g : Nat} {w w1 w2 : World} (h : But g w w1) (h2 : But g w1 w2) : But g w w2 :=
  ⟨h2.os.trans h.os, h2.tape.trans h.tape, h2.output.trans h.output, Nat.le_trans h.size h2.size, fun k hk hg => (h2.block k (Nat.lt_of_lt_of_le hk h.size) hg).trans (h.block k hk hg)⟩
theorem But.of {w w' : World} (h : Below w.heap.size w w') (g : Nat) : But g w w' := ⟨h.os, h.tape, h.output, h.size, fun k hk _ => h.block k hk⟩
theorem But.set {g : Nat} {w w' : World} (h : But g w w') (i : Nat) (v : Value) : But g w (w'.setCell ⟨g, i, none⟩ v) :=
  h.trans ⟨rfl, rfl, rfl, by simp, fun k _ hg => Below.heap_setCell w' ⟨g, i, none⟩ v k hg⟩
theorem But.drew {g : Nat} {w w' : World} (h : But g w w') : But g w w'.drew := h.trans (But.of (Below.refl _ _).drew g)
theorem But.drewN {g : Nat} {w w' : World} (h : But g w w') (n : Nat) : But g w (w'.drewN n) := h.trans (But.of (below_drewN (Below.refl _ _) n) g)
theorem But.xw {g : Nat} {w w' : World} (h : But g w w') (r : Array Obj) (d : Nat) : But g w (Ythcgdlhmmgpbgaa.xw w' r d) := h.trans (But.of (xw_below w' r d) g)
theorem But.below {g B : Nat} {w0 w w' : World} (h : But g w w') (hb : Below B w0 w) (hg : B ≤ g) (hB : B ≤ w.heap.size) : Below B w0 w' :=
  ⟨h.os.trans hb.os, h.tape.trans hb.tape, h.output.trans hb.output, Nat.le_trans hb.size h.size, fun k hk => (h.block k (by omega) (by omega)).trans (hb.block k hk)⟩

/-- A byte lies there, in a block of bytes. -/
def BytAt (w : World) (k j : Nat) (b : Int) : Prop := w.cell? ⟨k, j, none⟩ = some (.int .u8 b) ∧ ∃ arr fr, w.heap[k]? = some (.cells arr 5 fr)
theorem BytAt.keep {w w' : World} {k j : Nat} {b : Int} (h : BytAt w k j b) (he : w'.heap[k]? = w.heap[k]?) : BytAt w' k j b := by
  obtain ⟨h1, arr, fr, h2⟩ := h
  exact ⟨(World.cell?_of_block he).trans h1, arr, fr, he.trans h2⟩
theorem Own.typ {w : World} {base : Nat} {e : TypeId} {v : Value} {xs : List Value} {k n c : Nat} (h : Own w base e v xs) (hv : v = .slice (some ⟨k, 0, none⟩) n c) : ∃ arr fr, w.heap[k]? = some (.cells arr e fr) := by
  rcases h.2 with ⟨h1, _⟩ | ⟨g, cap, cur, h1, _, h3, _⟩
  · rw [hv] at h1; cases h1
  · rw [hv] at h1
    injection h1 with q1 _ _
    injection q1 with q1
    injection q1 with q1 _ _
    subst q1
    exact ⟨cur, _, h3⟩
/-- The reader at g reads xs, is at the place at, and this was wrong first. -/
structure Rd (w : World) (g : Nat) (xs : List Int) (at_ : Nat) (why : Int) : Prop where
  blk : ∃ k c ty, w.heap[g]? = some (.cells #[.slice (some ⟨k, 0, none⟩) xs.length c, .int .i64 (at_ : Int), .int .i64 why] ty (0, 0)) ∧ k ≠ g ∧ k < w.heap.size ∧ xs.length ≤ c ∧ ∀ j b, xs[j]? = some b → BytAt w k j b
  at_le : at_ ≤ xs.length
  len : xs.length ≤ 140737488355328
theorem Rd.lt {w : World} {g : Nat} {xs : List Int} {a : Nat} {y : Int} (h : Rd w g xs a y) : g < w.heap.size := by
  obtain ⟨k, c, ty, h1, _⟩ := h.blk
  exact (Array.getElem?_eq_some_iff.1 h1).1
theorem Rd.cells {w : World} {g : Nat} {xs : List Int} {a : Nat} {y : Int} (h : Rd w g xs a y) : ∃ k c,
    w.cell? ⟨g, 0, none⟩ = some (.slice (some ⟨k, 0, none⟩) xs.length c) ∧ w.cell? ⟨g, 1, none⟩ = some (.int .i64 (a : Int)) ∧ w.cell? ⟨g, 2, none⟩ = some (.int .i64 y) ∧
    w.frozen? ⟨g, 1, none⟩ = false ∧ w.frozen? ⟨g, 2, none⟩ = false ∧ k ≠ g ∧ k < w.heap.size ∧ xs.length ≤ c ∧ ∀ j b, xs[j]? = some b → w.cell? ⟨k, j, none⟩ = some (.int .u8 b) := by
  obtain ⟨k, c, ty, h1, h2, h3, h4, h5⟩ := h.blk
  refine ⟨k, c, ?_, ?_, ?_, ?_, ?_, h2, h3, h4, fun j b hj => (h5 j b hj).1⟩
  all_goals first | (simp only [World.cell?, h1]; rfl) | (simp only [World.frozen?, h1]; rfl)
theorem Rd.kept {w w' : World} {g : Nat} {xs : List Int} {a : Nat} {y : Int} (h : Rd w g xs a y) (hb : w'.heap[g]? = w.heap[g]?) (ho : But g w w') : Rd w' g xs a y := by
  obtain ⟨k, c, ty, h1, h2, h3, h4, h5⟩ := h.blk
  refine ⟨⟨k, c, ty, hb.trans h1, h2, Nat.lt_of_lt_of_le h3 ho.size, h4, fun j b hj => (h5 j b hj).keep (ho.block k h3 h2)⟩, h.at_le, h.len⟩
theorem Rd.below {w w' : World} {g : Nat} {xs : List Int} {a : Nat} {y : Int} (h : Rd w g xs a y) (hb : Below w.heap.size w w') : Rd w' g xs a y :=
  h.kept (hb.block g h.lt) (But.of hb g)
theorem Rd.but {w w' : World} {g g2 : Nat} {xs : List Int} {a : Nat} {y : Int} (h : Rd w g xs a y) (hb : But g2 w w') (hne : ∀ k, k = g ∨ k = g2 → True) (h1 : g ≠ g2) (h2 : ∀ k c ty, w.heap[g]? = some (.cells #[.slice (some ⟨k, 0, none⟩) xs.length c, .int .i64 (a : Int), .int .i64 y] ty (0, 0)) → k ≠ g2) : Rd w' g xs a y := by
  obtain ⟨k, c, ty, e1, e2, e3, e4, e5⟩ := h.blk
  refine ⟨⟨k, c, ty, (hb.block g h.lt h1).trans e1, e2, Nat.lt_of_lt_of_le e3 hb.size, e4, fun j b hj => (e5 j b hj).keep (hb.block k e3 (h2 k c ty e1))⟩, h.at_le, h.len⟩
theorem Rd.drew {w : World} {g : Nat} {xs : List Int} {a : Nat} {y : Int} (h : Rd w g xs a y) : Rd w.drew g xs a y := h.below (Below.refl _ _).drew
theorem Rd.drewN {w : World} {g : Nat} {xs : List Int} {a : Nat} {y : Int} (h : Rd w g xs a y) (n : Nat) : Rd (w.drewN n) g xs a y := h.below (below_drewN (Below.refl _ _) n)
theorem Rd.xw {w : World} {g : Nat} {xs : List Int} {a : Nat} {y : Int} (h : Rd w g xs a y) (r : Array Obj) (d : Nat) : Rd (Ythcgdlhmmgpbgaa.xw w r d) g xs a y := h.below (xw_below w r d)
theorem set_block (w : World) (g i : Nat) (v : Value) (cs : Array Value) (ty : TypeId) (fr : Nat × Nat) (h : w.heap[g]? = some (.cells cs ty fr)) : (w.setCell ⟨g, i, none⟩ v).heap[g]? = some (.cells (cs.setIfInBounds i v) ty fr) := by
  unfold World.setCell
  simp only [Array.getElem?_modify, if_true, h, Option.map_some]
  rfl
theorem Rd.setAt {w : World} {g : Nat} {xs : List Int} {a : Nat} {y : Int} (h : Rd w g xs a y) (a' : Nat) (h' : a' ≤ xs.length) : Rd (w.setCell ⟨g, 1, none⟩ (.int .i64 (a' : Int))) g xs a' y := by
  obtain ⟨k, c, ty, h1, h2, h3, h4, h5⟩ := h.blk
  refine ⟨⟨k, c, ty, ?_, h2, by simpa using h3, h4, fun j b hj => (h5 j b hj).keep (Below.heap_setCell w ⟨g, 1, none⟩ _ k h2)⟩, h', h.len⟩
  rw [set_block w g 1 _ _ ty _ h1]; rfl
theorem Rd.setWhy {w : World} {g : Nat} {xs : List Int} {a : Nat} {y : Int} (h : Rd w g xs a y) (y' : Int) : Rd (w.setCell ⟨g, 2, none⟩ (.int .i64 y')) g xs a y' := by
  obtain ⟨k, c, ty, h1, h2, h3, h4, h5⟩ := h.blk
  refine ⟨⟨k, c, ty, ?_, h2, by simpa using h3, h4, fun j b hj => (h5 j b hj).keep (Below.heap_setCell w ⟨g, 2, none⟩ _ k h2)⟩, h.at_le, h.len⟩
  rw [set_block w g 2 _ _ ty _ h1]; rfl

/-- What is left to read, as the plain words have it. -/
def stOf (xs : List Int) (a : Nat) (y : Int) : St := (y, if y = 0 then xs.drop a else [])


set_option maxRecDepth 100000 in
set_option maxHeartbeats 1000000 in
theorem pLeft_any (g : Nat) (xs : List Int) (a : Nat) (y : Int) (w : World) (H : Rd w g xs a y) :
    Calls Try.prog 55 #[.pointer (some ⟨g, 0, none⟩)] w (fun e w' => e = .returned (.int .i64 (leftS (stOf xs a y))) ∧ Below w.heap.size w w') := by
  obtain ⟨k, c, h0, h1, h2, hf1, hf2, hk, hk2, hc, hd⟩ := H.cells
  have ha := H.at_le
  have hl := H.len
  clear H
  go_enter Try.func55, Try.ntmps55
  by_cases c : y = 0
  · subst c
    have e : leftS (stOf xs a 0) = (xs.length : Int) - (a : Int) := by simp [leftS, stOf]; omega
    rw [e]
    clear e
    go_wp2_with fail
    go_quiet (fail)
    go_wp2
    go_ret
    refine ⟨rfl, ?_⟩
    (repeat' (first | (with_reducible exact Below.refl _ _) | (with_reducible assumption) | (with_reducible refine below_xw ?_ ?_ _ _) | (with_reducible refine below_drewN ?_ _) | (with_reducible refine Below.drew ?_) | (with_reducible refine Below.setCell ?_ ?_ _) | (with_reducible refine Below.alloc ?_ ?_ _) | (simp [xw_size]; done) | (simp [xw_size]; omega) | (dsimp only; omega)))
  · unfold leftS stOf
    rw [if_neg c]
    go_wp2
    go_ret
    exact ⟨rfl, Below.refl _ _⟩

set_option maxRecDepth 100000 in
set_option maxHeartbeats 1000000 in
theorem pFail_any (g : Nat) (xs : List Int) (a : Nat) (y e : Int) (w : World) (H : Rd w g xs a y) :
    Calls Try.prog 68 #[.pointer (some ⟨g, 0, none⟩), .int .i64 e] w (fun r w' => (∃ v, r = .returned v) ∧ Rd w' g xs a (if y = 0 then e else y) ∧ But g w w') := by
  obtain ⟨k, c, h0, h1, h2, hf1, hf2, hk, hk2, hc, hd⟩ := H.cells
  go_enter Try.func68, Try.ntmps68
  by_cases c : y = 0
  · subst c
    go_wp2
    go_returns
    refine ⟨⟨_, rfl⟩, ?_, ?_⟩
    · exact H.setWhy e
    · (repeat (first | assumption | (with_reducible exact But.refl _ _) | (with_reducible refine But.set ?_ _ _) | (with_reducible refine But.drew ?_) | (with_reducible refine But.drewN ?_ _) | (with_reducible refine But.xw ?_ _ _) | (with_reducible refine Rd.drew ?_) | (with_reducible refine Rd.drewN ?_ _) | (with_reducible refine Rd.xw ?_ _ _)))
  · rw [if_neg c]
    go_wp2
    go_returns
    refine ⟨⟨_, rfl⟩, ?_, ?_⟩ <;> (repeat (first | assumption | (with_reducible exact But.refl _ _) | (with_reducible refine But.set ?_ _ _) | (with_reducible refine But.drew ?_) | (with_reducible refine But.drewN ?_ _) | (with_reducible refine But.xw ?_ _ _) | (with_reducible refine Rd.drew ?_) | (with_reducible refine Rd.drewN ?_ _) | (with_reducible refine Rd.xw ?_ _ _)))

set_option maxRecDepth 100000 in
set_option maxHeartbeats 1000000 in
theorem pNext_any (g : Nat) (xs : List Int) (a : Nat) (y : Int) (w : World) (H : Rd w g xs a y) :
    Calls Try.prog 66 #[.pointer (some ⟨g, 0, none⟩)] w (fun r w' => ∃ b ok a' y', r = .returned (.tuple #[.int .u8 b, .bool ok]) ∧ Rd w' g xs a' y' ∧ But g w w' ∧ (b, stOf xs a' y') = byteS (stOf xs a y) ∧ (ok = true ↔ leftS (stOf xs a y) ≠ 0)) := by
  go_enter Try.func66, Try.ntmps66
  by_cases cl : leftS (stOf xs a y) = 0
  · go_wp2_with (first | (go_at_call 55; refine (pLeft_any g xs a y w H).mono ?_; rintro e w1 ⟨rfl, hb⟩; have H1 := H.below hb; have hB := But.of hb g; clear hb) | (go_at_call 68; refine (pFail_any g xs a y 5 _ H1).mono ?_; rintro e w2 ⟨⟨v, rfl⟩, H2, hB2⟩))
    go_returns
    refine ⟨0, false, a, _, rfl, H2, hB.trans hB2, ?_, by simp [cl]⟩
    unfold stOf byteS leftS at *
    by_cases c : y = 0
    · subst c
      simp only [if_true, ne_eq, not_true, if_false] at cl ⊢
      have e : xs.drop a = [] := List.eq_nil_of_length_eq_zero (by omega)
      rw [e]; rfl
    · simp [c]
  · have hy : y = 0 := Decidable.byContradiction fun c => cl (by unfold leftS stOf; rw [if_neg c])
    subst hy
    have hx : a < xs.length := Decidable.byContradiction fun c => cl (by
      have : xs.length ≤ a := by omega
      simp [leftS, stOf, List.drop_eq_nil_of_le this])
    have hlen := H.len
    have hw : wrap64 ((a : Int) + 1) = ((a + 1 : Nat) : Int) := by simp only [wrap64]; omega
    obtain ⟨b, hb0⟩ : ∃ b, xs[a]? = some b := ⟨_, List.getElem?_eq_getElem hx⟩
    go_wp2_with (first | (go_at_call 55; refine (pLeft_any g xs a 0 w H).mono ?_; rintro e w1 ⟨rfl, hb⟩; have H1 := H.below hb; have hB := But.of hb g; clear hb; obtain ⟨k, c, h0, h1, h2, hf1, hf2, hk, hk2, hc, hd⟩ := H1.cells; have hda := hd a b hb0; clear hd))
    go_quiet (fail)
    go_wp2
    go_returns
    refine ⟨b, true, a + 1, 0, rfl, ?_, ?_, ?_, by simp [cl]⟩
    · have h := (H1.setAt (a + 1) hx).drewN nq
      simpa using h
    · (repeat (first | assumption | (with_reducible exact But.refl _ _) | (with_reducible refine But.set ?_ _ _) | (with_reducible refine But.drew ?_) | (with_reducible refine But.drewN ?_ _) | (with_reducible refine But.xw ?_ _ _) | (with_reducible refine Rd.drew ?_) | (with_reducible refine Rd.drewN ?_ _) | (with_reducible refine Rd.xw ?_ _ _)))
    · have e : xs.drop a = b :: xs.drop (a + 1) := by
        rw [List.drop_eq_getElem_cons hx]
        have := List.getElem?_eq_getElem hx
        rw [hb0] at this
        injection this with this
        rw [← this]
      simp [stOf, byteS, e]

end Go.Proofs.Ythcgdlhmmgpbgaa
