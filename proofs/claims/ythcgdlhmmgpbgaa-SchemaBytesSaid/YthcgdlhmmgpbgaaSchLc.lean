/- SchemaFits: the walk. -/
import Derived.Test.YthcgdlhmmgpbgaaSchC
namespace Go.Proofs.Ythcgdlhmmgpbgaa
open Go.RowKit Go.Shelf
set_option linter.unusedVariables false
set_option linter.unusedSimpArgs false

theorem HasI.step {w w' : World} {v : Value} {ns : List Int} (h : HasI w w.heap.size v ns) (hb : Below w.heap.size w w') : HasI w' w'.heap.size v ns := (h.below hb).up hb.size
/-- What the law's walk keeps. -/
def K5 (w : World) (va vb vr vs vc : Value) (a b : List Cl) (r s : List Vr) (ns : List Int) (w' : World) : Prop := (HasC w' w'.heap.size va a ∧ HasC w' w'.heap.size vb b ∧ HasR w' w'.heap.size vr r ∧ HasR w' w'.heap.size vs s ∧ HasI w' w'.heap.size vc ns) ∧ Below w.heap.size w w'
theorem K5.step {w : World} {va vb vr vs vc : Value} {a b : List Cl} {r s : List Vr} {ns : List Int} {w' w2 : World} (h : K5 w va vb vr vs vc a b r s ns w') (hb : Below w'.heap.size w' w2) : K5 w va vb vr vs vc a b r s ns w2 :=
  ⟨⟨h.1.1.step hb, h.1.2.1.step hb, h.1.2.2.1.step hb, h.1.2.2.2.1.step hb, h.1.2.2.2.2.step hb⟩, bel_step h.2 hb⟩
set_option maxRecDepth 100000 in
set_option maxHeartbeats 8000000 in
theorem SchemaFits_any (va vb vr vs vc : Value) (a b : List Cl) (r s : List Vr) (ns : List Int) (w : World) (H1 : HasC w w.heap.size va a) (H2 : HasC w w.heap.size vb b) (H3 : HasR w w.heap.size vr r) (H4 : HasR w w.heap.size vs s) (H5 : HasI w w.heap.size vc ns) :
    Calls Try.prog 6 #[va, vb, vr, vs, vc] w (fun e w' => e = .returned (.bool true) ∧ Below w.heap.size w w') := by
  have k0 : K5 w va vb vr vs vc a b r s ns w := ⟨⟨H1, H2, H3, H4, H5⟩, Below.refl _ _⟩
  clear H1 H2 H3 H4 H5
  go_enter Try.func6, Try.ntmps6
  go_wp2_with fail
  go_at_call 22
  refine (cFits_any _ _ a r w k0.1.1 k0.1.2.2.1).mono ?_
  rintro e w1 ⟨rfl, hb⟩
  have k1 := k0.step hb
  clear k0 hb
  cases hf : fitsC a r with
  | false =>
    have hbx := k1.2
    go_wp2_with fail
    go_at_call 9
    refine (live_any _).mono ?_
    rintro e w9 ⟨rfl, hb9⟩
    go_wp2_with fail
    go_returns
    exact ⟨rfl, bel_step hbx hb9⟩
  | true =>
    have HF := Kept.mk hf
    clear hf
    go_wp2_with fail
    go_at_call 14
    refine (cPick_any va vc a ns w1 k1.1.1 k1.1.2.2.2.2 (fun _ _ => trivial)).mono ?_
    rintro e w2 ⟨v2, rfl, hO, hb⟩
    have k2 := k1.step hb
    have HP := hO.has
    clear k1 hb hO
    obtain ⟨A2, c2, rfl, _⟩ := id HP
    have HPK : Kept ((pickC a ns).2 = 0 → (pickC a ns).1 ≠ [] → (pickR r ns).2 = 0 ∧ fitsC (pickC a ns).1 (pickR r ns).1 = true) := ⟨fun h1 h2 => fits_pick HF.out h1 h2⟩
    generalize pickC a ns = q at HP HPK ⊢
    obtain ⟨p, ec⟩ := q
    simp only at HP HPK ⊢
    have HQ := Kept.mk HP
    clear HP
    by_cases he : ec = 0
    · subst he
      by_cases hp : p = []
      · have hl : ¬ (0 < (p.length : Int)) := by rw [hp]; simp
        clear hp
        go_wp2_with fail
        go_at_call 12
        refine (cJoin_any va vb a b _ k2.1.1 k2.1.2.1 (fun _ _ => trivial) (fun _ _ => trivial)).mono ?_
        rintro e w5 ⟨v5, rfl, hO, hb⟩
        have k5 := k2.step hb
        have HJ := hO.has
        clear k2 hb hO
        obtain ⟨A5, c5, rfl, _⟩ := id HJ
        have HJK : Kept (fitsC b s = true → (joinC a b).2 = 0 → (joinR r s).2 = 0 ∧ fitsC (joinC a b).1 (joinR r s).1 = true) := ⟨fun h1 h2 => fits_join HF.out h1 h2⟩
        generalize joinC a b = q5 at HJ HJK ⊢
        obtain ⟨x5, g5⟩ := q5
        simp only at HJ HJK ⊢
        go_wp2_with fail
        go_at_call 22
        refine (cFits_any _ _ b s w5 k5.1.2.1 k5.1.2.2.2.1).mono ?_
        rintro e w6 ⟨rfl, hb⟩
        have k6 := k5.step hb
        have HJ6 := HJ.step hb
        clear k5 hb HJ
        cases hf2 : fitsC b s with
        | false =>
          have hbx := k6.2
          go_wp2_with fail
          go_at_call 9
          refine (live_any _).mono ?_
          rintro e w9 ⟨rfl, hb9⟩
          go_wp2_with fail
          go_returns
          exact ⟨rfl, bel_step hbx hb9⟩
        | true =>
          by_cases hg : g5 = 0
          · have HE := HJK.out hf2 hg
            subst hg
            clear HJK hf2
            go_wp2_with fail
            go_at_call 27
            refine (Join_any vr vs r s w6 k6.1.2.2.1 k6.1.2.2.2.1).mono ?_
            rintro e w7 ⟨v7, rfl, hO, hb⟩
            have k7 := k6.step hb
            have HJ7 := HJ6.step hb
            have HR7 := hO.has
            clear k6 hb hO HJ6
            generalize joinR r s = q7 at HE HR7 ⊢
            obtain ⟨y7, h7⟩ := q7
            obtain ⟨he1, he2⟩ := HE
            simp only at he1 he2 HR7 ⊢
            subst he1
            go_wp2_with fail
            go_at_call 9
            refine (live_any w7).mono ?_
            rintro e w8 ⟨rfl, hb⟩
            have k8 := k7.step hb
            have HJ8 := HJ7.step hb
            have HR8 := HR7.step hb
            clear k7 hb HJ7 HR7
            go_wp2_with fail
            go_at_call 22
            refine (cFits_any _ _ x5 y7 w8 HJ8 HR8).mono ?_
            rintro e w9 ⟨rfl, hb⟩
            rewrite [he2]
            have hbx := bel_step k8.2 hb
            clear k8 hb HJ8 HR8
            go_wp2_with fail
            go_returns
            exact ⟨rfl, hbx⟩
          · have hg1 : (g5 == 0) = false := by rw [beq_eq_false_iff_ne]; exact hg
            have hg2 : (g5 != 0) = true := by simp [bne, hg1]
            clear hg HJK hf2
            have hbx := k6.2
            go_wp2_with fail
            go_at_call 9
            refine (live_any _).mono ?_
            rintro e w9 ⟨rfl, hb9⟩
            go_wp2_with fail
            go_returns
            exact ⟨rfl, bel_step hbx hb9⟩
      · have hl : 0 < (p.length : Int) := by
          have : p.length ≠ 0 := fun h => hp (List.eq_nil_of_length_eq_zero h)
          omega
        have HPQ := Kept.mk (HPK.out rfl hp)
        clear hp HPK
        go_wp2_with fail
        go_at_call 26
        refine (Pick_any vr vc r ns w2 k2.1.2.2.1 k2.1.2.2.2.2).mono ?_
        rintro e w3 ⟨v3, rfl, hO, hb⟩
        have k3 := k2.step hb
        have HP3 := HQ.out.step hb
        have HR3 := hO.has
        clear k2 hb hO HQ
        have hz := HPQ.out.1
        have hfit := HPQ.out.2
        clear HPQ
        generalize pickR r ns = q2 at HR3 hz hfit ⊢
        obtain ⟨q3, ez⟩ := q2
        simp only at HR3 hz hfit ⊢
        subst hz
        go_wp2_with fail
        go_at_call 22
        refine (cFits_any _ _ p q3 w3 HP3 HR3).mono ?_
        rintro e w4 ⟨rfl, hb⟩
        rewrite [hfit]
        have k2 := k3.step hb
        clear k3 hb HP3 HR3 hfit
        go_wp2_with fail
        go_at_call 12
        refine (cJoin_any va vb a b _ k2.1.1 k2.1.2.1 (fun _ _ => trivial) (fun _ _ => trivial)).mono ?_
        rintro e w5 ⟨v5, rfl, hO, hb⟩
        have k5 := k2.step hb
        have HJ := hO.has
        clear k2 hb hO
        obtain ⟨A5, c5, rfl, _⟩ := id HJ
        have HJK : Kept (fitsC b s = true → (joinC a b).2 = 0 → (joinR r s).2 = 0 ∧ fitsC (joinC a b).1 (joinR r s).1 = true) := ⟨fun h1 h2 => fits_join HF.out h1 h2⟩
        generalize joinC a b = q5 at HJ HJK ⊢
        obtain ⟨x5, g5⟩ := q5
        simp only at HJ HJK ⊢
        go_wp2_with fail
        go_at_call 22
        refine (cFits_any _ _ b s w5 k5.1.2.1 k5.1.2.2.2.1).mono ?_
        rintro e w6 ⟨rfl, hb⟩
        have k6 := k5.step hb
        have HJ6 := HJ.step hb
        clear k5 hb HJ
        cases hf2 : fitsC b s with
        | false =>
          have hbx := k6.2
          go_wp2_with fail
          go_at_call 9
          refine (live_any _).mono ?_
          rintro e w9 ⟨rfl, hb9⟩
          go_wp2_with fail
          go_returns
          exact ⟨rfl, bel_step hbx hb9⟩
        | true =>
          by_cases hg : g5 = 0
          · have HE := HJK.out hf2 hg
            subst hg
            clear HJK hf2
            go_wp2_with fail
            go_at_call 27
            refine (Join_any vr vs r s w6 k6.1.2.2.1 k6.1.2.2.2.1).mono ?_
            rintro e w7 ⟨v7, rfl, hO, hb⟩
            have k7 := k6.step hb
            have HJ7 := HJ6.step hb
            have HR7 := hO.has
            clear k6 hb hO HJ6
            generalize joinR r s = q7 at HE HR7 ⊢
            obtain ⟨y7, h7⟩ := q7
            obtain ⟨he1, he2⟩ := HE
            simp only at he1 he2 HR7 ⊢
            subst he1
            go_wp2_with fail
            go_at_call 9
            refine (live_any w7).mono ?_
            rintro e w8 ⟨rfl, hb⟩
            have k8 := k7.step hb
            have HJ8 := HJ7.step hb
            have HR8 := HR7.step hb
            clear k7 hb HJ7 HR7
            go_wp2_with fail
            go_at_call 22
            refine (cFits_any _ _ x5 y7 w8 HJ8 HR8).mono ?_
            rintro e w9 ⟨rfl, hb⟩
            rewrite [he2]
            have hbx := bel_step k8.2 hb
            clear k8 hb HJ8 HR8
            go_wp2_with fail
            go_returns
            exact ⟨rfl, hbx⟩
          · have hg1 : (g5 == 0) = false := by rw [beq_eq_false_iff_ne]; exact hg
            have hg2 : (g5 != 0) = true := by simp [bne, hg1]
            clear hg HJK hf2
            have hbx := k6.2
            go_wp2_with fail
            go_at_call 9
            refine (live_any _).mono ?_
            rintro e w9 ⟨rfl, hb9⟩
            go_wp2_with fail
            go_returns
            exact ⟨rfl, bel_step hbx hb9⟩
    · have he1 : (ec == 0) = false := by rw [beq_eq_false_iff_ne]; exact he
      clear he HPK
      go_wp2_with fail
      go_at_call 12
      refine (cJoin_any va vb a b _ k2.1.1 k2.1.2.1 (fun _ _ => trivial) (fun _ _ => trivial)).mono ?_
      rintro e w5 ⟨v5, rfl, hO, hb⟩
      have k5 := k2.step hb
      have HJ := hO.has
      clear k2 hb hO
      obtain ⟨A5, c5, rfl, _⟩ := id HJ
      have HJK : Kept (fitsC b s = true → (joinC a b).2 = 0 → (joinR r s).2 = 0 ∧ fitsC (joinC a b).1 (joinR r s).1 = true) := ⟨fun h1 h2 => fits_join HF.out h1 h2⟩
      generalize joinC a b = q5 at HJ HJK ⊢
      obtain ⟨x5, g5⟩ := q5
      simp only at HJ HJK ⊢
      go_wp2_with fail
      go_at_call 22
      refine (cFits_any _ _ b s w5 k5.1.2.1 k5.1.2.2.2.1).mono ?_
      rintro e w6 ⟨rfl, hb⟩
      have k6 := k5.step hb
      have HJ6 := HJ.step hb
      clear k5 hb HJ
      cases hf2 : fitsC b s with
      | false =>
        have hbx := k6.2
        go_wp2_with fail
        go_at_call 9
        refine (live_any _).mono ?_
        rintro e w9 ⟨rfl, hb9⟩
        go_wp2_with fail
        go_returns
        exact ⟨rfl, bel_step hbx hb9⟩
      | true =>
        by_cases hg : g5 = 0
        · have HE := HJK.out hf2 hg
          subst hg
          clear HJK hf2
          go_wp2_with fail
          go_at_call 27
          refine (Join_any vr vs r s w6 k6.1.2.2.1 k6.1.2.2.2.1).mono ?_
          rintro e w7 ⟨v7, rfl, hO, hb⟩
          have k7 := k6.step hb
          have HJ7 := HJ6.step hb
          have HR7 := hO.has
          clear k6 hb hO HJ6
          generalize joinR r s = q7 at HE HR7 ⊢
          obtain ⟨y7, h7⟩ := q7
          obtain ⟨he1, he2⟩ := HE
          simp only at he1 he2 HR7 ⊢
          subst he1
          go_wp2_with fail
          go_at_call 9
          refine (live_any w7).mono ?_
          rintro e w8 ⟨rfl, hb⟩
          have k8 := k7.step hb
          have HJ8 := HJ7.step hb
          have HR8 := HR7.step hb
          clear k7 hb HJ7 HR7
          go_wp2_with fail
          go_at_call 22
          refine (cFits_any _ _ x5 y7 w8 HJ8 HR8).mono ?_
          rintro e w9 ⟨rfl, hb⟩
          rewrite [he2]
          have hbx := bel_step k8.2 hb
          clear k8 hb HJ8 HR8
          go_wp2_with fail
          go_returns
          exact ⟨rfl, hbx⟩
        · have hg1 : (g5 == 0) = false := by rw [beq_eq_false_iff_ne]; exact hg
          have hg2 : (g5 != 0) = true := by simp [bne, hg1]
          clear hg HJK hf2
          have hbx := k6.2
          go_wp2_with fail
          go_at_call 9
          refine (live_any _).mono ?_
          rintro e w9 ⟨rfl, hb9⟩
          go_wp2_with fail
          go_returns
          exact ⟨rfl, bel_step hbx hb9⟩
end Go.Proofs.Ythcgdlhmmgpbgaa
