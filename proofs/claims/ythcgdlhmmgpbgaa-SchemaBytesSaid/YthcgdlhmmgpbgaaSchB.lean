/- Layer 7 (schema): the reference's Alike, Fits, Index: walked. -/
import Derived.Test.YthcgdlhmmgpbgaaSchA
namespace Go.Proofs.Ythcgdlhmmgpbgaa
open Go.RowKit Go.Shelf
set_option linter.unusedVariables false
set_option linter.unusedSimpArgs false

set_option maxRecDepth 100000 in
set_option maxHeartbeats 2000000 in
theorem rcAlike_any (v u : Value) (xs ys : List Cl) (w0 : World) (H1 : HasC w0 w0.heap.size v xs) (H2 : HasC w0 w0.heap.size u ys) (hN : xs.length ≤ 140737488355328) :
    Calls Try.prog 21 #[v, u] w0 (fun e w' => e = .returned (.bool (alikeC xs ys)) ∧ Below w0.heap.size w0 w') := by
  obtain ⟨A, c, rfl, _, hA⟩ := H1
  obtain ⟨B, d, rfl, _, hB⟩ := H2
  have HA := Kept.mk hA
  have HB := Kept.mk hB
  have HN := Kept.mk hN
  have HG : Kept (alikeC xs ys = kEq (xs.map Cl.k) (ys.map Cl.k)) := ⟨rfl⟩
  have bel0 : ∀ {w1}, Below w0.heap.size w0 w1 → Below w0.heap.size w0 w1 := fun h => h
  clear hA hB hN
  by_cases cl : xs.length = ys.length
  · have HL := Kept.mk cl
    rw [← cl]
    clear cl
    go_enter Try.func21, Try.ntmps21
    go_wp2_with fail
    go_loopw [5] (fun v5 wr => KrI (xs.map Cl.k) (ys.map Cl.k) w0 v5 wr) (fun v5 wr => xs.length - (intOf v5).toNat)
    case atStart => exact ⟨0, 0, rfl, rfl, ⟨Nat.zero_le _, rfl⟩⟩
    case round =>
      obtain ⟨i, nd, rfl, rfl, HI⟩ := hrel
      by_cases ci : i < xs.length
      · have cj : i < ys.length := by rw [← HL.out]; exact ci
        have hne : xs ≠ [] := by rintro rfl; simp at ci
        have hne2 : ys ≠ [] := by rintro rfl; simp at cj
        obtain ⟨b1, o1, rfl, hb1, hc1⟩ := HA.out hne
        obtain ⟨b2, o2, rfl, hb2, hc2⟩ := HB.out hne2
        obtain ⟨e0, e1⟩ := hc1 i ci
        obtain ⟨g0, g1⟩ := hc2 i cj
        have hst := HI.out.2.trans (kEq_step (by simpa using ci) (by simpa using cj))
        rw [List.getElem_map, List.getElem_map] at hst
        have HST := Kept.mk hst
        clear hst
        generalize xs[i] = x at e0 e1 HST
        generalize ys[i] = y at g0 g1 HST
        have ci' : (i : Int) < (xs.length : Int) := by omega
        have f0 : 0 ≤ (i : Int) := by omega
        have hw : wrap64 ((i : Int) + 1) = (i : Int) + 1 := by have := HN.out; simp only [wrap64]; omega
        have HCI := Kept.mk ci
        have HC2 : Kept (i + 1 ≤ (xs.map Cl.k).length) := ⟨by rw [List.length_map]; exact ci⟩
        clear hc1 hc2 hne hne2 ci cj
        obtain ⟨xs', xk⟩ := x
        obtain ⟨ys', yk⟩ := y
        simp only at e0 e1 g0 g1 HST
        by_cases hk : xk = yk
        · have HE : Kept (decide (xk = yk) = true) := ⟨decide_eq_true hk⟩
          subst hk
          go_wp2_with fail
          go_quiet (fail)
          go_wp2_with fail
          refine ⟨⟨i + 1, _, by first | rfl | (rw [hw]; rfl), rfl, ⟨HC2.out, ?_⟩⟩, by first | exact less_step hw HCI.out | exact less_bare' HCI.out⟩
          rw [HST.out, HE.out, Bool.true_and]
        · have hv : Kept (kEq (xs.map Cl.k) (ys.map Cl.k) = false) := ⟨by rw [HST.out, decide_eq_false hk, Bool.false_and]⟩
          have h' : (xk == yk) = false := by rw [beq_eq_false_iff_ne]; exact hk
          have h'' : (xk != yk) = true := by simp [bne, h']
          clear hk HST
          go_wp2_with fail
          go_quiet (fail)
          go_wp2_with fail
          go_returns
          exact ⟨by rw [HG.out, hv.out]; rfl, bel0 (below_drewN (below_drewN (Below.refl _ _) _) _)⟩
      · have hst := HI.out.2
        have hi : i = xs.length := by have := HI.out.1; simp only [List.length_map] at this; omega
        have hv : Kept (kEq (xs.map Cl.k) (ys.map Cl.k) = true) := ⟨by
          rw [hst, hi]
          have h9 := kEq_end (xs := xs.map Cl.k) (ys := ys.map Cl.k) (by simpa using HL.out)
          rwa [List.length_map] at h9⟩
        have ci' : ¬ ((i : Int) < (xs.length : Int)) := by omega
        clear ci hst hi
        go_wp2_with fail
        go_returns
        exact ⟨by rw [HG.out, hv.out]; rfl, bel0 (below_drewN (Below.refl _ _) _)⟩
  · have hv : Kept (alikeC xs ys = false) := ⟨kEq_len (by simpa using cl)⟩
    have cl' : ((xs.length : Int) == (ys.length : Int)) = false := by rw [beq_eq_false_iff_ne]; omega
    have cl2 : ((xs.length : Int) != (ys.length : Int)) = true := by simp; omega
    clear cl
    go_enter Try.func21, Try.ntmps21
    go_wp2_with fail
    go_returns
    exact ⟨by rw [hv.out]; rfl, Below.refl _ _⟩
set_option maxRecDepth 100000 in
set_option maxHeartbeats 2000000 in
theorem rcFits_any (v u : Value) (xs : List Cl) (ys : List Vr) (w : World) (H1 : HasC w w.heap.size v xs) (H2 : HasR w w.heap.size u ys) (hNy : ys.length ≤ 140737488355328) :
    Calls Try.prog 23 #[v, u] w (fun e w' => e = .returned (.bool (fitsC xs ys)) ∧ Below w.heap.size w w') := by
  obtain ⟨A, c, rfl, _⟩ := id H1
  obtain ⟨B, d, rfl, _⟩ := id H2
  go_enter Try.func23, Try.ntmps23
  go_wp2_with fail
  go_at_call 18
  refine (rcMay_any A xs.length c xs w H1 (fun _ _ => trivial)).mono ?_
  rintro e w1 ⟨rfl, hb1⟩
  cases m1 : mayC xs with
  | false =>
    have hv : Kept (fitsC xs ys = false) := ⟨by simp [fitsC, m1]⟩
    go_wp2_with fail
    go_returns
    exact ⟨by rw [hv.out]; rfl, hb1⟩
  | true =>
    have L1 := Kept.mk (mayC_iff.1 m1).1
    have H3 := (H1.below hb1).up hb1.size
    have H4 := (H2.below hb1).up hb1.size
    go_wp2_with fail
    go_at_call 48
    refine (rMay_any _ ys w1 H4 hNy).mono ?_
    rintro e w0 ⟨rfl, hb2⟩
    have H5 := (H3.below hb2).up hb2.size
    have H6 := (H4.below hb2).up hb2.size
    have hbb := hb1.trans (hb2.mono hb1.size)
    clear H1 H2 H3 H4 hb1 hb2
    cases m2 : mayR ys with
    | false =>
      have hv : Kept (fitsC xs ys = false) := ⟨by simp [fitsC, m2]⟩
      go_wp2_with fail
      go_returns
      exact ⟨by rw [hv.out]; rfl, hbb⟩
    | true =>
      have HG : Kept (fitsC xs ys = kEq (xs.map Cl.k) (ys.map Vr.k)) := ⟨by simp [fitsC, m1, m2]⟩
      have bel0 : ∀ {w2}, Below w0.heap.size w0 w2 → Below w.heap.size w w2 := fun h => hbb.trans (h.mono hbb.size)
      obtain ⟨A', c', hv1, _, hA⟩ := H5
      obtain ⟨B', d', hv2, _, hB⟩ := H6
      injection hv1 with hv1
      injection hv2 with hv2
      subst hv1 hv2
      have HA := Kept.mk hA
      have HB := Kept.mk hB
      have HN : Kept (xs.length ≤ 140737488355328) := ⟨by have := L1.out; omega⟩
      clear hA hB m1 m2
      by_cases cl : xs.length = ys.length
      · have HL := Kept.mk cl
        have cl' : ((xs.length : Int) == (ys.length : Int)) = true := by rw [beq_iff_eq]; omega
        have cl2 : ((xs.length : Int) != (ys.length : Int)) = false := by simp [bne, cl']
        have cl3 : (ys.length : Int) = (xs.length : Int) := by omega
        clear cl
        go_wp2_with fail
        go_loopw [5] (fun v5 wr => KrI (xs.map Cl.k) (ys.map Vr.k) w0 v5 wr) (fun v5 wr => xs.length - (intOf v5).toNat)
        case atStart => exact ⟨0, 0, rfl, rfl, ⟨Nat.zero_le _, rfl⟩⟩
        case round =>
          obtain ⟨i, nd, rfl, rfl, HI⟩ := hrel
          by_cases ci : i < xs.length
          · have cj : i < ys.length := by rw [← HL.out]; exact ci
            have hne : xs ≠ [] := by rintro rfl; simp at ci
            have hne2 : ys ≠ [] := by rintro rfl; simp at cj
            obtain ⟨b1, o1, rfl, hb1, hc1⟩ := HA.out hne
            obtain ⟨b2, o2, rfl, hb2, hc2⟩ := HB.out hne2
            obtain ⟨e0, e1⟩ := hc1 i ci
            obtain ⟨g0, g1, g2⟩ := hc2 i cj
            have hst := HI.out.2.trans (kEq_step (by simpa using ci) (by simpa using cj))
            rw [List.getElem_map, List.getElem_map] at hst
            have HST := Kept.mk hst
            clear hst
            generalize xs[i] = x at e0 e1 HST
            generalize ys[i] = y at g0 g1 g2 HST
            have ci' : (i : Int) < (xs.length : Int) := by omega
            have cj' : (i : Int) < (ys.length : Int) := by omega
            have f0 : 0 ≤ (i : Int) := by omega
            have hw : wrap64 ((i : Int) + 1) = (i : Int) + 1 := by have := HN.out; simp only [wrap64]; omega
            have HCI := Kept.mk ci
            have HC2 : Kept (i + 1 ≤ (xs.map Cl.k).length) := ⟨by rw [List.length_map]; exact ci⟩
            clear hc1 hc2 hne hne2 ci cj
            obtain ⟨xs', xk⟩ := x
            obtain ⟨yk, yn, ys'⟩ := y
            simp only at e0 e1 g0 g1 g2 HST
            by_cases hk : xk = yk
            · have HE : Kept (decide (xk = yk) = true) := ⟨decide_eq_true hk⟩
              subst hk
              go_wp2_with fail
              go_quiet (fail)
              go_wp2_with fail
              refine ⟨⟨i + 1, _, by first | rfl | (rw [hw]; rfl), rfl, ⟨HC2.out, ?_⟩⟩, by first | exact less_step hw HCI.out | exact less_bare' HCI.out⟩
              rw [HST.out, HE.out, Bool.true_and]
            · have hv : Kept (kEq (xs.map Cl.k) (ys.map Vr.k) = false) := ⟨by rw [HST.out, decide_eq_false hk, Bool.false_and]⟩
              have h' : (xk == yk) = false := by rw [beq_eq_false_iff_ne]; exact hk
              have h'' : (xk != yk) = true := by simp [bne, h']
              clear hk HST
              go_wp2_with fail
              go_quiet (fail)
              go_wp2_with fail
              go_returns
              exact ⟨by rw [HG.out, hv.out]; rfl, bel0 (below_drewN (below_drewN (Below.refl _ _) _) _)⟩
          · have hst := HI.out.2
            have hi : i = xs.length := by have := HI.out.1; simp only [List.length_map] at this; omega
            have hv : Kept (kEq (xs.map Cl.k) (ys.map Vr.k) = true) := ⟨by
              rw [hst, hi]
              have h9 := kEq_end (xs := xs.map Cl.k) (ys := ys.map Vr.k) (by simpa using HL.out)
              rwa [List.length_map] at h9⟩
            have ci' : ¬ ((i : Int) < (xs.length : Int)) := by omega
            clear ci hst hi
            go_wp2_with fail
            go_returns
            exact ⟨by rw [HG.out, hv.out]; rfl, bel0 (below_drewN (Below.refl _ _) _)⟩
      · have hv : Kept (fitsC xs ys = false) := ⟨by rw [HG.out]; exact kEq_len (by simpa using cl)⟩
        have cl' : ((xs.length : Int) == (ys.length : Int)) = false := by rw [beq_eq_false_iff_ne]; omega
        have cl2 : ((xs.length : Int) != (ys.length : Int)) = true := by simp; omega
        clear cl
        go_wp2_with fail
        go_returns
        exact ⟨by rw [hv.out]; rfl, hbb⟩
def RiI (cs : List Cl) (s : ByteArray) (w : World) (v5 : Value) (wr : World) : Prop := ∃ i : Nat, v5 = .int .i64 (i : Int) ∧ wr = w ∧ Kept (i ≤ cs.length ∧ ∀ j, (hj : j < i) → (hl : j < cs.length) → cs[j].s ≠ s)
set_option maxRecDepth 100000 in
set_option maxHeartbeats 2000000 in
theorem rcIndex_any (v : Value) (cs : List Cl) (s : ByteArray) (w : World) (H : HasC w w.heap.size v cs) (hN : cs.length ≤ 140737488355328) :
    Calls Try.prog 25 #[v, .string s] w (fun e w' => e = .returned (.int .i64 (idx cs s)) ∧ Below w.heap.size w w') := by
  obtain ⟨A, c, rfl, _, hA⟩ := H
  have HA := Kept.mk hA
  have HN := Kept.mk hN
  clear hA hN
  go_enter Try.func25, Try.ntmps25
  go_wp2_with fail
  go_loopw [5] (fun v5 wr => RiI cs s w v5 wr) (fun v5 wr => cs.length - (intOf v5).toNat)
  case atStart => exact ⟨0, rfl, rfl, ⟨Nat.zero_le _, fun j hj => by omega⟩⟩
  case round =>
    obtain ⟨i, rfl, rfl, HI⟩ := hrel
    by_cases ci : i < cs.length
    · have hne : cs ≠ [] := by rintro rfl; simp at ci
      obtain ⟨b1, o1, rfl, hb1, hc1⟩ := HA.out hne
      obtain ⟨e0, e1⟩ := hc1 i ci
      have ci' : (i : Int) < (cs.length : Int) := by omega
      have f0 : 0 ≤ (i : Int) := by omega
      have hw : wrap64 ((i : Int) + 1) = (i : Int) + 1 := by have := HN.out; simp only [wrap64]; omega
      have HCI := Kept.mk ci
      by_cases hs : cs[i].s = s
      · have hv : Kept (idx cs s = (i : Int)) := ⟨idx_some i ci hs (fun j hj => HI.out.2 j hj (by omega))⟩
        rw [hs] at e0
        clear hs hc1 hne
        go_wp2_with fail
        go_returns
        exact ⟨by rw [hv.out]; rfl, Below.refl _ _⟩
      · have HNX : Kept (∀ j, (hj : j < i + 1) → (hl : j < cs.length) → cs[j].s ≠ s) := ⟨fun j hj hl => by
          by_cases hji : j < i
          · exact HI.out.2 j hji hl
          · obtain rfl : j = i := by omega
            exact hs⟩
        have hsb := sne hs
        generalize cs[i].s = t at e0 hsb
        clear hs hc1 hne
        go_wp2_with fail
        exact ⟨⟨i + 1, by first | rfl | (rw [hw]; rfl), rfl, ⟨HCI.out, HNX.out⟩⟩, by first | exact less_step hw HCI.out | exact less_bare' HCI.out⟩
    · have hv : Kept (idx cs s = -1) := ⟨idx_none (fun x hx e => by
        obtain ⟨j, hj, rfl⟩ := List.getElem_of_mem hx
        exact HI.out.2 j (by omega) hj e)⟩
      have ci' : ¬ ((i : Int) < (cs.length : Int)) := by omega
      clear ci
      go_wp2_with fail
      go_returns
      exact ⟨by rw [hv.out]; rfl, Below.refl _ _⟩
end Go.Proofs.Ythcgdlhmmgpbgaa
