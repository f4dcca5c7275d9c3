/- RowParts, RowKeys: the walks. -/
import Derived.Test.YtbncnlendichjaaRowL
namespace Go.Proofs.Ytbncnlendichjaa
open Go.RowKit
set_option linter.unusedVariables false
set_option linter.unusedSimpArgs false

theorem HasR.next {w w' : World} {v : Value} {xs : List Vr} (h : HasR w w.heap.size v xs) (hb : Below w.heap.size w w') : HasR w' w'.heap.size v xs := (h.below hb).up hb.size
theorem HasI.next {w w' : World} {v : Value} {cs : List Int} (h : HasI w w.heap.size v cs) (hb : Below w.heap.size w w') : HasI w' w'.heap.size v cs := (h.below hb).up hb.size
theorem bel_next {w0 w w' : World} (h : Below w0.heap.size w0 w) (hb : Below w.heap.size w w') : Below w0.heap.size w0 w' := h.trans (hb.mono h.size)
theorem joinR_len (a b : List Vr) : (joinR a b).1.length ≤ 8 := by
  unfold joinR
  split
  · split
    · simp
    · simp; omega
  · simp
theorem pickL_len {a : List Vr} {cs : List Int} {l : List Vr} (h : pickL a cs = some l) : l.length = cs.length := by
  induction cs generalizing l with
  | nil => simp [pickL] at h; rw [h]; rfl
  | cons c r ih =>
    unfold pickL at h
    split at h
    · cases h
    · split at h
      · cases h
      · cases hp : pickL a r with
        | none => rw [hp] at h; cases h
        | some l' =>
          rw [hp] at h
          simp only [Option.map_some, Option.some.injEq] at h
          rw [← h, List.length_cons, List.length_cons, ih hp]
theorem pickR_len (a : List Vr) (cs : List Int) : (pickR a cs).1.length ≤ 8 := by
  unfold pickR
  split
  · split
    · simp
    · rename_i h8
      split
      · simp
      · rename_i l hl
        have := pickL_len hl
        simp only
        omega
  · simp
set_option maxRecDepth 100000 in
set_option maxHeartbeats 4000000 in
theorem RowParts_any (v u t : Value) (xs ys : List Vr) (cs : List Int) (w : World) (H1 : HasR w w.heap.size v xs) (H2 : HasR w w.heap.size u ys) (H3 : HasI w w.heap.size t cs) (hN1 : xs.length ≤ 140737488355328) (hN2 : ys.length ≤ 140737488355328) :
    Calls Try.prog 4 #[v, u, t] w (fun e w' => e = .returned (.bool true) ∧ Below w.heap.size w w') := by
  have h1 := Kept.mk H1
  have h2 := Kept.mk H2
  have h3 := Kept.mk H3
  have HN1 := Kept.mk hN1
  have HN2 := Kept.mk hN2
  clear H1 H2 H3 hN1 hN2
  go_enter Try.func4, Try.ntmps4
  go_wp2_with fail
  go_at_call 15
  refine (Join_any v u xs ys w h1.out h2.out).mono ?_
  rintro e w1 ⟨v1, rfl, hO1, hb1⟩
  have A1 := Kept.mk (h1.out.next hb1)
  have A2 := Kept.mk (h2.out.next hb1)
  have A3 := Kept.mk (h3.out.next hb1)
  have A4 := Kept.mk hO1.has
  have AB := Kept.mk hb1
  clear h1 h2 h3 hO1 hb1
  go_wp2_with fail
  go_at_call 16
  refine (rJoin_any v u xs ys w1 A1.out A2.out HN1.out HN2.out).mono ?_
  rintro e w2 ⟨v2, rfl, hO1, hb1⟩
  have B1 := Kept.mk (A1.out.next hb1)
  have B3 := Kept.mk (A3.out.next hb1)
  have B4 := Kept.mk (A4.out.next hb1)
  have B5 := Kept.mk hO1.has
  have BB := Kept.mk (bel_next AB.out hb1)
  clear A1 A2 A3 A4 AB hO1 hb1
  go_wp2_with fail
  go_at_call 17
  refine (Pick_any v t xs cs w2 B1.out B3.out).mono ?_
  rintro e w3 ⟨v3, rfl, hO1, hb1⟩
  have C1 := Kept.mk (B1.out.next hb1)
  have C3 := Kept.mk (B3.out.next hb1)
  have C4 := Kept.mk (B4.out.next hb1)
  have C5 := Kept.mk (B5.out.next hb1)
  have C6 := Kept.mk hO1.has
  have CB := Kept.mk (bel_next BB.out hb1)
  clear B1 B3 B4 B5 BB hO1 hb1
  go_wp2_with fail
  go_at_call 18
  refine (rPick_any v t xs cs w3 C1.out C3.out HN1.out).mono ?_
  rintro e w4 ⟨v4, rfl, hO1, hb1⟩
  have D4 := Kept.mk (C4.out.next hb1)
  have D5 := Kept.mk (C5.out.next hb1)
  have D6 := Kept.mk (C6.out.next hb1)
  have D7 := Kept.mk hO1.has
  have DB := Kept.mk (bel_next CB.out hb1)
  clear C1 C3 C4 C5 C6 CB hO1 hb1
  have JL := Kept.mk (joinR_len xs ys)
  have PL := Kept.mk (pickR_len xs cs)
  generalize joinR xs ys = q1 at D4 D5 JL ⊢
  generalize pickR xs cs = q2 at D6 D7 PL ⊢
  go_wp2_with fail
  go_at_call 13
  refine (live_any w4).mono ?_
  rintro e w5 ⟨rfl, hb1⟩
  have E4 := Kept.mk (D4.out.next hb1)
  have E5 := Kept.mk (D5.out.next hb1)
  have E6 := Kept.mk (D6.out.next hb1)
  have E7 := Kept.mk (D7.out.next hb1)
  have EB := Kept.mk (bel_next DB.out hb1)
  clear D4 D5 D6 D7 DB hb1
  go_wp2_with fail
  go_at_call 14
  refine (rSame_any v1 v2 q1.1 q1.1 w5 E4.out E5.out (by have := JL.out; omega)).mono ?_
  rintro e w6 ⟨rfl, hb1⟩
  rewrite [sameR_refl]
  have F6 := Kept.mk (E6.out.next hb1)
  have F7 := Kept.mk (E7.out.next hb1)
  have FB := Kept.mk (bel_next EB.out hb1)
  clear E4 E5 E6 E7 EB hb1
  go_wp2_with fail
  go_at_call 14
  refine (rSame_any v3 v4 q2.1 q2.1 w6 F6.out F7.out (by have := PL.out; omega)).mono ?_
  rintro e w7 ⟨rfl, hb1⟩
  rewrite [sameR_refl]
  have GB := Kept.mk (bel_next FB.out hb1)
  clear hb1
  go_wp2_with fail
  go_returns
  exact ⟨rfl, GB.out⟩
end Go.Proofs.Ytbncnlendichjaa
