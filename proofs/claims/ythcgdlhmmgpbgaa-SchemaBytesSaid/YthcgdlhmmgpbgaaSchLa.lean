/- SchemaParts: the walk. -/
import Derived.Test.YthcgdlhmmgpbgaaSchW
namespace Go.Proofs.Ythcgdlhmmgpbgaa
open Go.RowKit Go.Shelf
set_option linter.unusedVariables false
set_option linter.unusedSimpArgs false

theorem HasC.next {w w' : World} {v : Value} {xs : List Cl} (h : HasC w w.heap.size v xs) (hb : Below w.heap.size w w') : HasC w' w'.heap.size v xs := (h.below hb).up hb.size
theorem HasI.next {w w' : World} {v : Value} {cs : List Int} (h : HasI w w.heap.size v cs) (hb : Below w.heap.size w w') : HasI w' w'.heap.size v cs := (h.below hb).up hb.size
theorem bel_next {w0 w w' : World} (h : Below w0.heap.size w0 w) (hb : Below w.heap.size w w') : Below w0.heap.size w0 w' := h.trans (hb.mono h.size)
theorem joinC_len (a b : List Cl) : (joinC a b).1.length ≤ 8 := by
  unfold joinC
  split
  · split
    · simp
    · split
      · simp
      · simp; omega
  · simp
theorem pickC_len (a : List Cl) (cs : List Int) : (pickC a cs).1.length ≤ 8 := by
  unfold pickC
  split
  · split
    · simp
    · split
      · simp
      · split
        · simp; omega
        · simp
  · simp
set_option maxRecDepth 100000 in
set_option maxHeartbeats 4000000 in
theorem SchemaParts_any (v u t : Value) (xs ys : List Cl) (cs : List Int) (w : World) (H1 : HasC w w.heap.size v xs) (H2 : HasC w w.heap.size u ys) (H3 : HasI w w.heap.size t cs)  :
    Calls Try.prog 4 #[v, u, t] w (fun e w' => e = .returned (.bool true) ∧ Below w.heap.size w w') := by
  have h1 := Kept.mk H1
  have h2 := Kept.mk H2
  have h3 := Kept.mk H3
  clear H1 H2 H3
  go_enter Try.func4, Try.ntmps4
  go_wp2_with fail
  go_at_call 12
  refine (cJoin_any v u xs ys w h1.out h2.out (fun _ _ => trivial) (fun _ _ => trivial)).mono ?_
  rintro e w1 ⟨v1, rfl, hO1, hb1⟩
  have A1 := Kept.mk (h1.out.next hb1)
  have A2 := Kept.mk (h2.out.next hb1)
  have A3 := Kept.mk (h3.out.next hb1)
  have A4 := Kept.mk hO1.has
  have AB := Kept.mk hb1
  clear h1 h2 h3 hO1 hb1
  go_wp2_with fail
  go_at_call 13
  refine (rcJoin_any v u xs ys w1 A1.out A2.out (fun _ _ => trivial) (fun _ _ => trivial)).mono ?_
  rintro e w2 ⟨v2, rfl, hO1, hb1⟩
  have B1 := Kept.mk (A1.out.next hb1)
  have B3 := Kept.mk (A3.out.next hb1)
  have B4 := Kept.mk (A4.out.next hb1)
  have B5 := Kept.mk hO1.has
  have BB := Kept.mk (bel_next AB.out hb1)
  clear A1 A2 A3 A4 AB hO1 hb1
  go_wp2_with fail
  go_at_call 14
  refine (cPick_any v t xs cs w2 B1.out B3.out (fun _ _ => trivial)).mono ?_
  rintro e w3 ⟨v3, rfl, hO1, hb1⟩
  have C1 := Kept.mk (B1.out.next hb1)
  have C3 := Kept.mk (B3.out.next hb1)
  have C4 := Kept.mk (B4.out.next hb1)
  have C5 := Kept.mk (B5.out.next hb1)
  have C6 := Kept.mk hO1.has
  have CB := Kept.mk (bel_next BB.out hb1)
  clear B1 B3 B4 B5 BB hO1 hb1
  go_wp2_with fail
  go_at_call 15
  refine (rcPick_any v t xs cs w3 C1.out C3.out (fun _ _ => trivial)).mono ?_
  rintro e w4 ⟨v4, rfl, hO1, hb1⟩
  have D4 := Kept.mk (C4.out.next hb1)
  have D5 := Kept.mk (C5.out.next hb1)
  have D6 := Kept.mk (C6.out.next hb1)
  have D7 := Kept.mk hO1.has
  have DB := Kept.mk (bel_next CB.out hb1)
  clear C1 C3 C4 C5 C6 CB hO1 hb1
  have JL := Kept.mk (joinC_len xs ys)
  have PL := Kept.mk (pickC_len xs cs)
  generalize joinC xs ys = q1 at D4 D5 JL ⊢
  generalize pickC xs cs = q2 at D6 D7 PL ⊢
  go_wp2_with fail
  go_at_call 9
  refine (live_any w4).mono ?_
  rintro e w5 ⟨rfl, hb1⟩
  have E4 := Kept.mk (D4.out.next hb1)
  have E5 := Kept.mk (D5.out.next hb1)
  have E6 := Kept.mk (D6.out.next hb1)
  have E7 := Kept.mk (D7.out.next hb1)
  have EB := Kept.mk (bel_next DB.out hb1)
  clear D4 D5 D6 D7 DB hb1
  go_wp2_with fail
  go_at_call 16
  refine (rcSame_any v1 v2 q1.1 q1.1 w5 E4.out E5.out (by have := JL.out; omega)).mono ?_
  rintro e w6 ⟨rfl, hb1⟩
  rewrite [sameC_refl]
  have F6 := Kept.mk (E6.out.next hb1)
  have F7 := Kept.mk (E7.out.next hb1)
  have FB := Kept.mk (bel_next EB.out hb1)
  clear E4 E5 E6 E7 EB hb1
  go_wp2_with fail
  go_at_call 16
  refine (rcSame_any v3 v4 q2.1 q2.1 w6 F6.out F7.out (by have := PL.out; omega)).mono ?_
  rintro e w7 ⟨rfl, hb1⟩
  rewrite [sameC_refl]
  have GB := Kept.mk (bel_next FB.out hb1)
  clear hb1
  go_wp2_with fail
  go_returns
  exact ⟨rfl, GB.out⟩
end Go.Proofs.Ythcgdlhmmgpbgaa
