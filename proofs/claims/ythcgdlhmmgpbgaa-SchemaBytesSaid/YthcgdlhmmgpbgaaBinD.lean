/- The two readers beside each other (layer 3): what one does leaves the other as it is. -/
import Derived.Test.YthcgdlhmmgpbgaaBinI
namespace Go.Proofs.Ythcgdlhmmgpbgaa
open Go.RowKit
set_option linter.unusedVariables false
set_option linter.unusedSimpArgs false

theorem Rd.other {w w' : World} {g g2 : Nat} {xs : List Int} {a : Nat} {y : Int} {s : St} (h : Rd w g xs a y) (h2 : Rq w g2 s) (hne : g ≠ g2) (hb : But g2 w w') : Rd w' g xs a y := by
  obtain ⟨k, c, ty, e1, e2, e3, e4, e5⟩ := h.blk
  refine ⟨⟨k, c, ty, (hb.block g h.lt hne).trans e1, e2, Nat.lt_of_lt_of_le e3 hb.size, e4, fun j b hj => ?_⟩, h.at_le, h.len⟩
  have hk : k ≠ g2 := by
    rintro rfl
    have hc := (e5 j b hj).1
    obtain ⟨A, c2, ty2, q1, _⟩ := h2.blk
    simp only [World.cell?, q1] at hc
    match j with
    | 0 => simp at hc
    | 1 => simp at hc
    | j + 2 => simp at hc
  exact (e5 j b hj).keep (hb.block k e3 hk)
theorem Rq.other {w w' : World} {g g2 : Nat} {xs : List Int} {a : Nat} {y : Int} {s : St} (h2 : Rq w g2 s) (h : Rd w g xs a y) (hne : g ≠ g2) (hb : But g w w') : Rq w' g2 s := by
  obtain ⟨A, c, ty, e1, e2, e3, e4⟩ := h2.blk
  refine ⟨⟨A, c, ty, (hb.block g2 h2.lt (Ne.symm hne)).trans e1, e2, e3, fun hn => ?_⟩, h2.err, h2.len⟩
  obtain ⟨b, off, f1, f2, f3, f4⟩ := e4 hn
  have hl : 0 < s.2.length := List.length_pos_iff.2 hn
  have hbg : b ≠ g := by
    rintro rfl
    have hc := (f4 0 hl).1
    obtain ⟨k, c1, ty1, q1, _⟩ := h.blk
    simp only [World.cell?, q1, Nat.add_zero] at hc
    match off with
    | 0 => simp at hc
    | 1 => simp at hc
    | 2 => simp at hc
    | j + 3 => simp at hc
  refine ⟨b, off, f1, f2, Nat.lt_of_lt_of_le f3 hb.size, fun j hj => (f4 j hj).keep (hb.block b f3 hbg)⟩

set_option maxRecDepth 100000 in
set_option maxHeartbeats 1000000 in
theorem pLeft_quiet (g : Nat) (xs : List Int) (a : Nat) (y : Int) (w : World) (H : Rd w g xs a y) :
    Calls Try.prog 55 #[.pointer (some ⟨g, 0, none⟩)] w (fun e w' => e = .returned (.int .i64 (leftS (stOf xs a y))) ∧ ∃ n, w' = w.drewN n) := by
  obtain ⟨k, c, h0, h1, h2, hf1, hf2, hk, hk2, hc, hd⟩ := H.cells
  have ha := H.at_le
  have hl := H.len
  clear H
  go_enter Try.func55, Try.ntmps55
  by_cases c : y = 0
  · subst c
    have e : leftS (stOf xs a 0) = (xs.length : Int) - (a : Int) := by simp [leftS, stOf]; omega
    rw [e]
    clear e
    go_wp2_with fail
    go_quiet (fail)
    go_wp2
    go_ret
    exact ⟨rfl, _, rfl⟩
  · unfold leftS stOf
    rw [if_neg c]
    go_wp2
    go_ret
    exact ⟨rfl, 0, rfl⟩
set_option maxRecDepth 100000 in
set_option maxHeartbeats 1000000 in
theorem Left_quiet (g : Nat) (xs : List Int) (a : Nat) (y : Int) (w : World) (H : Rd w g xs a y) :
    Calls Try.prog 31 #[.pointer (some ⟨g, 0, none⟩)] w (fun e w' => e = .returned (.int .i64 (leftS (stOf xs a y))) ∧ ∃ n, w' = w.drewN n) := by
  go_enter Try.func31, Try.ntmps31
  go_wp2_with fail
  go_at_call 55
  refine (pLeft_quiet g xs a y _ H).mono ?_
  rintro e w1 ⟨rfl, hb⟩
  go_wp2
  go_ret
  exact ⟨rfl, hb⟩
end Go.Proofs.Ythcgdlhmmgpbgaa
