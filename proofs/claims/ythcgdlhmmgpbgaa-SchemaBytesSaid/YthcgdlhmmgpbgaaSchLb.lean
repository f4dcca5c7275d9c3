/- SchemaMay: the walk. -/
import Derived.Test.YthcgdlhmmgpbgaaSchB
import Derived.Deep.RegionWith
import Derived.Deep.DeepCutAuto
namespace Go.Proofs.Ythcgdlhmmgpbgaa
open Go.RowKit Go.Shelf
set_option linter.unusedVariables false
set_option linter.unusedSimpArgs false

theorem HasC.step {w w' : World} {v : Value} {xs : List Cl} (h : HasC w w.heap.size v xs) (hb : Below w.heap.size w w') : HasC w' w'.heap.size v xs := (h.below hb).up hb.size
theorem HasR.step {w w' : World} {v : Value} {xs : List Vr} (h : HasR w w.heap.size v xs) (hb : Below w.heap.size w w') : HasR w' w'.heap.size v xs := (h.below hb).up hb.size
theorem bel_step {w0 w w' : World} (h : Below w0.heap.size w0 w) (hb : Below w.heap.size w w') : Below w0.heap.size w0 w' := h.trans (hb.mono h.size)
/-- What the law's walk keeps. -/
def K3 (w : World) (v u t : Value) (xs ys : List Cl) (rs : List Vr) (w' : World) : Prop := (HasC w' w'.heap.size v xs ∧ HasC w' w'.heap.size u ys ∧ HasR w' w'.heap.size t rs) ∧ Below w.heap.size w w'
theorem K3.step {w : World} {v u t : Value} {xs ys : List Cl} {rs : List Vr} {w' w2 : World} (h : K3 w v u t xs ys rs w') (hb : Below w'.heap.size w' w2) : K3 w v u t xs ys rs w2 :=
  ⟨⟨h.1.1.step hb, h.1.2.1.step hb, h.1.2.2.step hb⟩, bel_step h.2 hb⟩
def SmJ (ys : List Cl) (w : World) (v7 : Value) (wr : World) : Prop := ∃ (i : Nat) (r : Array Obj) (d : Nat), v7 = .int .i64 (i : Int) ∧ wr = xw w r d ∧ Kept (i ≤ ys.length)
set_option maxRecDepth 100000 in
set_option maxHeartbeats 4000000 in
theorem SchemaMay_any (v u t : Value) (xs ys : List Cl) (rs : List Vr) (w : World) (H1 : HasC w w.heap.size v xs) (H2 : HasC w w.heap.size u ys) (H3 : HasR w w.heap.size t rs) (hN1 : xs.length ≤ 140737488351232) (hN2 : ys.length ≤ 140737488351232) (hN3 : rs.length ≤ 140737488351232) :
    Calls Try.prog 5 #[v, u, t] w (fun e w' => e = .returned (.bool true) ∧ Below w.heap.size w w') := by
  obtain ⟨A, c, rfl, _⟩ := id H1
  obtain ⟨B, d, rfl, _⟩ := id H2
  have k0 : K3 w (.slice A xs.length c) (.slice B ys.length d) t xs ys rs w := ⟨⟨H1, H2, H3⟩, Below.refl _ _⟩
  clear H1 H2 H3
  have HN := Kept.mk (And.intro hN1 (And.intro hN2 hN3))
  clear hN1 hN2 hN3
  go_enter Try.func5, Try.ntmps5
  go_wp2_with fail
  go_at_call 17
  refine (cMay_any A xs.length c xs w k0.1.1 (fun _ _ => trivial)).mono ?_
  rintro e w1 ⟨rfl, hb⟩
  have k1 := k0.step hb
  clear k0 hb
  go_wp2_with fail
  go_at_call 18
  refine (rcMay_any A xs.length c xs w1 k1.1.1 (fun _ _ => trivial)).mono ?_
  rintro e w2 ⟨rfl, hb⟩
  have k2 := k1.step hb
  clear k1 hb
  generalize mayC xs = b1
  go_wp2_with fail
  go_at_call 19
  refine (cSame_any _ _ xs ys w2 k2.1.1 k2.1.2.1 (by have := HN.out; omega)).mono ?_
  rintro e w3 ⟨rfl, hb⟩
  have k3 := k2.step hb
  clear k2 hb
  go_wp2_with fail
  go_at_call 16
  refine (rcSame_any _ _ xs ys w3 k3.1.1 k3.1.2.1 (by have := HN.out; omega)).mono ?_
  rintro e w4 ⟨rfl, hb⟩
  have k4 := k3.step hb
  clear k3 hb
  generalize sameC xs ys = b2
  go_wp2_with fail
  go_at_call 20
  refine (cAlike_any _ _ xs ys w4 k4.1.1 k4.1.2.1 (by have := HN.out; omega)).mono ?_
  rintro e w5 ⟨rfl, hb⟩
  have k5 := k4.step hb
  clear k4 hb
  go_wp2_with fail
  go_at_call 21
  refine (rcAlike_any _ _ xs ys w5 k5.1.1 k5.1.2.1 (by have := HN.out; omega)).mono ?_
  rintro e w6 ⟨rfl, hb⟩
  have k6 := k5.step hb
  clear k5 hb
  generalize alikeC xs ys = b3
  go_wp2_with fail
  go_at_call 22
  refine (cFits_any _ _ xs rs w6 k6.1.1 k6.1.2.2).mono ?_
  rintro e w7 ⟨rfl, hb⟩
  have k7 := k6.step hb
  clear k6 hb
  go_wp2_with fail
  go_at_call 23
  refine (rcFits_any _ _ xs rs w7 k7.1.1 k7.1.2.2 (by have := HN.out; omega)).mono ?_
  rintro e w8 ⟨rfl, hb⟩
  have k8 := k7.step hb
  clear k7 hb
  generalize fitsC xs rs = b4
  have HK := Kept.mk k8
  clear k8
  go_wp2_with fail
  go_loopw [7] (fun v7 wr => SmJ ys w8 v7 wr) (fun v7 wr => ys.length - (intOf v7).toNat)
  case atStart => exact ⟨0, _, _, rfl, self_xw w8, ⟨Nat.zero_le _⟩⟩
  case round =>
    obtain ⟨i, r, dd, rfl, rfl, HI⟩ := hrel
    by_cases ci : i < ys.length
    · have ci' : (i : Int) < (ys.length : Int) := by omega
      have f0 : 0 ≤ (i : Int) := by omega
      have hw : wrap64 ((i : Int) + 1) = (i : Int) + 1 := by have := HN.out.2.1; simp only [wrap64]; omega
      have HCI := Kept.mk ci
      obtain ⟨b2', o2, rfl, hb2, hc2⟩ := HK.out.1.2.1.opn.2.2 (by rintro rfl; simp at ci)
      obtain ⟨g0, hgx⟩ := hc2 i ci
      clear hgx
      generalize ys[i].s = s at g0
      clear hc2 ci
      have KL : Kept (∀ r d, HasC (xw w8 r d) (xw w8 r d).heap.size (.slice A xs.length c) xs) := ⟨fun r d => HK.out.1.1.step (xw_below _ _ _)⟩
      have hNx : xs.length ≤ 140737488351232 := HN.out.1
      go_upto_region 6 with fail
      go_cut [60] (fun sx wx => sx = .bool false ∧ ∃ r d, wx = xw w8 r d)
      case first =>
        go_region_with (first
          | (go_at_call 24; refine (cIndex_any A xs.length c xs s _ (KL.out _ _) hNx).mono ?_; rintro e w9 ⟨rfl, hb9⟩; obtain ⟨r9, d9, rfl⟩ := xw_of hb9; clear hb9)
          | (go_at_call 25; refine (rcIndex_any _ xs s _ (KL.out _ _) (by omega)).mono ?_; rintro e w10 ⟨rfl, hb10⟩; obtain ⟨r10, d10, rfl⟩ := xw_of hb10; clear hb10))
        all_goals go_wp2_with fail
        all_goals
          go_meet
          exact ⟨rfl, _, _, rfl⟩
      case rest =>
        obtain ⟨rfl, r2, d2, rfl⟩ := hcut
        go_wp2_with fail
        exact ⟨⟨i + 1, _, _, by first | rfl | (rw [hw]; rfl), rfl, ⟨HCI.out⟩⟩, by first | exact less_step hw HCI.out | exact less_bare' HCI.out⟩
    · have ci' : ¬ ((i : Int) < (ys.length : Int)) := by omega
      clear ci
      have hbx := bel_step HK.out.2 (xw_below w8 r dd)
      go_wp2_with fail
      go_at_call 9
      refine (live_any _).mono ?_
      rintro e w9 ⟨rfl, hb9⟩
      go_wp2_with fail
      go_returns
      exact ⟨rfl, bel_step hbx hb9⟩
end Go.Proofs.Ythcgdlhmmgpbgaa
