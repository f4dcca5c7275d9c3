/- Layer 7 (schema): the same schemas, alike ones, rows that fit; the reference's Index: walked. -/
import Derived.Test.YtnidaahimofppaaGreatQpaj
import Derived.Test.YtnidaahimofppaaGreatRows
import Derived.Deep.Slices
import Derived.ChangeSlices
import Derived.SizedLaws
import Derived.WideShapes
namespace Go.Proofs.YtnidaahimofppaaGreat
open Go.RowKit Go.Shelf
set_option linter.unusedVariables false
set_option linter.unusedSimpArgs false

/-! ### kinds -/
def kEq : List Int → List Int → Bool
  | [], [] => true
  | x :: a, y :: b => decide (x = y) && kEq a b
  | _, _ => false
theorem kEq_len {xs ys : List Int} (h : xs.length ≠ ys.length) : kEq xs ys = false := by
  induction xs generalizing ys with
  | nil => cases ys with
    | nil => exact absurd rfl h
    | cons _ _ => rfl
  | cons x a ih => cases ys with
    | nil => rfl
    | cons y b => simp only [kEq, ih (ys := b) (fun e => h (by simp [e])), Bool.and_false]
theorem kEq_step {xs ys : List Int} {i : Nat} (hi : i < xs.length) (hj : i < ys.length) : kEq (xs.drop i) (ys.drop i) = (decide (xs[i] = ys[i]) && kEq (xs.drop (i + 1)) (ys.drop (i + 1))) := by
  rw [List.drop_eq_getElem_cons hi, List.drop_eq_getElem_cons hj]
  rfl
theorem kEq_end {xs ys : List Int} (h : xs.length = ys.length) : kEq (xs.drop xs.length) (ys.drop xs.length) = true := by
  rw [List.drop_length, h, List.drop_length]
  rfl
def alikeC (xs ys : List Cl) : Bool := kEq (xs.map Cl.k) (ys.map Cl.k)
def KqI (a b : List Int) (w : World) (v17 : Value) (wr : World) : Prop := ∃ (i : Nat) (r : Array Obj) (d : Nat), v17 = .int .i64 (i : Int) ∧ wr = xw w r d ∧ Kept (i ≤ a.length ∧ kEq a b = kEq (a.drop i) (b.drop i))
def KrI (a b : List Int) (w : World) (v5 : Value) (wr : World) : Prop := ∃ (i nd : Nat), v5 = .int .i64 (i : Int) ∧ wr = w.drewN nd ∧ Kept (i ≤ a.length ∧ kEq a b = kEq (a.drop i) (b.drop i))
theorem fitsf_any (s1 : ByteArray) (k1 k2 : Int) (n2 : Int) (s2 : ByteArray) (w : World) : Calls Tryz.prog 33 #[.agg #[.string s1, .int .i64 k1], .agg #[.int .i64 k2, .int .i64 n2, .string s2]] w (fun e w' => e = .returned (.bool (decide (k1 = k2))) ∧ Below w.heap.size w w') := by
  by_cases h : k1 = k2
  · subst h
    rw [decide_eq_true rfl]
    go_enter Tryz.func33, Tryz.ntmps33
    go_wp2_with fail
    go_returns
    exact ⟨rfl, ((Below.refl _ _).alloc (Nat.le_refl _) _).alloc (by simp) _⟩
  · have h' : (k1 == k2) = false := by rw [beq_eq_false_iff_ne]; exact h
    rw [decide_eq_false h]
    go_enter Tryz.func33, Tryz.ntmps33
    go_wp2_with fail
    go_returns
    exact ⟨rfl, ((Below.refl _ _).alloc (Nat.le_refl _) _).alloc (by simp) _⟩
set_option maxRecDepth 100000 in
set_option maxHeartbeats 2000000 in
theorem eqfits_any (v u : Value) (xs : List Cl) (ys : List Vr) (w : World) (H1 : HasC w w.heap.size v xs) (H2 : HasR w w.heap.size u ys) (hN : xs.length ≤ 140737488355328) :
    Calls Tryz.prog 32 #[v, u, .func (Fn.func 33) #[] #[]] w (fun e w' => e = .returned (.bool (kEq (xs.map Cl.k) (ys.map Vr.k))) ∧ Below w.heap.size w w') := by
  obtain ⟨A, c, rfl, _, hA⟩ := H1
  obtain ⟨B, d, rfl, _, hB⟩ := H2
  have HA := Kept.mk hA
  have HB := Kept.mk hB
  have HN := Kept.mk hN
  clear hA hB hN
  by_cases cl : xs.length = ys.length
  · have HL := Kept.mk cl
    rw [← cl]
    clear cl
    go_enter Tryz.func32, Tryz.ntmps32
    go_wp2_with fail
    go_loopw [17] (fun v17 wr => KqI (xs.map Cl.k) (ys.map Vr.k) w v17 wr) (fun v17 wr => xs.length - (intOf v17).toNat)
    case atStart => exact ⟨0, _, _, rfl, self_xw w, ⟨Nat.zero_le _, rfl⟩⟩
    case round =>
      obtain ⟨i, r, dd, rfl, rfl, HI⟩ := hrel
      by_cases ci : i < xs.length
      · have cj : i < ys.length := by rw [← HL.out]; exact ci
        have hne : xs ≠ [] := by rintro rfl; simp at ci
        have hne2 : ys ≠ [] := by rintro rfl; simp at cj
        obtain ⟨b1, o1, rfl, hb1, hc1⟩ := HA.out hne
        obtain ⟨b2, o2, rfl, hb2, hc2⟩ := HB.out hne2
        obtain ⟨e0, e1⟩ := hc1 i ci
        obtain ⟨g0, g1, g2⟩ := hc2 i cj
        have hst := HI.out.2.trans (kEq_step (by simpa using ci) (by simpa using cj))
        rw [List.getElem_map, List.getElem_map] at hst
        have HST := Kept.mk hst
        clear hst
        generalize xs[i] = x at e0 e1 HST
        generalize ys[i] = y at g0 g1 g2 HST
        have ci' : (i : Int) < (xs.length : Int) := by omega
        have f0 : 0 ≤ (i : Int) := by omega
        have hw : wrap64 ((i : Int) + 1) = (i : Int) + 1 := by have := HN.out; simp only [wrap64]; omega
        have HCI := Kept.mk ci
        have HC2 : Kept (i + 1 ≤ (xs.map Cl.k).length) := ⟨by rw [List.length_map]; exact ci⟩
        clear hc1 hc2 hne hne2 ci cj
        obtain ⟨xs', xk⟩ := x
        obtain ⟨yk, yn, ys'⟩ := y
        simp only at e0 e1 g0 g1 g2 HST
        by_cases hk : xk = yk
        · have HE : Kept (decide (xk = yk) = true) := ⟨decide_eq_true hk⟩
          clear hk
          go_wp2_with (first | (go_at_call 33; refine (fitsf_any xs' xk yk yn ys' _).mono ?_; rintro e w3 ⟨rfl, hb3⟩; obtain ⟨r3, d3, rfl⟩ := xw_of hb3; clear hb3; rewrite [HE.out]))
          refine ⟨⟨i + 1, _, _, by first | rfl | (rw [hw]; rfl), by rw [alloc_xw, xw_xw, alloc_xw, xw_xw, xw_xw], ⟨HC2.out, ?_⟩⟩, by first | exact less_step hw HCI.out | exact less_bare' HCI.out⟩
          rw [HST.out, HE.out, Bool.true_and]
        · have HE : Kept (decide (xk = yk) = false) := ⟨decide_eq_false hk⟩
          clear hk
          go_wp2_with (first | (go_at_call 33; refine (fitsf_any xs' xk yk yn ys' _).mono ?_; rintro e w3 ⟨rfl, hb3⟩; obtain ⟨r3, d3, rfl⟩ := xw_of hb3; clear hb3; rewrite [HE.out]))
          go_returns
          refine ⟨by rw [HST.out, HE.out, Bool.false_and]; rfl, below_xw (((xw_below w r dd).alloc (by rw [xw_size]; omega) _).alloc (by rw [World.size_alloc, xw_size]; omega) _) (by rw [World.size_alloc, World.size_alloc, xw_size]; omega) r3 d3⟩
      · have hst := HI.out.2
        have hi : i = xs.length := by have := HI.out.1; simp only [List.length_map] at this; omega
        have hv : Kept (kEq (xs.map Cl.k) (ys.map Vr.k) = true) := ⟨by
          rw [hst, hi]
          have h9 := kEq_end (xs := xs.map Cl.k) (ys := ys.map Vr.k) (by simpa using HL.out)
          rwa [List.length_map] at h9⟩
        have ci' : ¬ ((i : Int) < (xs.length : Int)) := by omega
        clear ci hst hi
        go_wp2_with fail
        go_returns
        exact ⟨by rw [hv.out]; rfl, xw_below _ _ _⟩
  · have hv : Kept (kEq (xs.map Cl.k) (ys.map Vr.k) = false) := ⟨kEq_len (by simpa using cl)⟩
    have cl' : ((xs.length : Int) == (ys.length : Int)) = false := by rw [beq_eq_false_iff_ne]; omega
    have cl2 : ((xs.length : Int) != (ys.length : Int)) = true := by simp; omega
    clear cl
    go_enter Tryz.func32, Tryz.ntmps32
    go_wp2_with fail
    go_returns
    exact ⟨by rw [hv.out]; rfl, Below.refl _ _⟩
def fitsC (xs : List Cl) (r : List Vr) : Bool := mayC xs && mayR r && kEq (xs.map Cl.k) (r.map Vr.k)
set_option maxRecDepth 100000 in
set_option maxHeartbeats 1000000 in
theorem cFits_any (v u : Value) (xs : List Cl) (ys : List Vr) (w : World) (H1 : HasC w w.heap.size v xs) (H2 : HasR w w.heap.size u ys) :
    Calls Tryz.prog 21 #[v, u] w (fun e w' => e = .returned (.bool (fitsC xs ys)) ∧ Below w.heap.size w w') := by
  obtain ⟨A, c, rfl, _⟩ := id H1
  cases m1 : mayC xs with
  | false =>
    have hv : Kept (fitsC xs ys = false) := ⟨by simp [fitsC, m1]⟩
    go_enter Tryz.func21, Tryz.ntmps21
    go_wp2_with fail
    go_at_call 25
    refine (cMay_any A xs.length c xs w H1 (fun _ _ => trivial)).mono ?_
    rintro e w1 ⟨rfl, hb1⟩
    rewrite [m1]
    go_wp2_with fail
    go_returns
    exact ⟨by rw [hv.out]; rfl, hb1⟩
  | true =>
    go_enter Tryz.func21, Tryz.ntmps21
    go_wp2_with fail
    go_at_call 25
    refine (cMay_any A xs.length c xs w H1 (fun _ _ => trivial)).mono ?_
    rintro e w1 ⟨rfl, hb1⟩
    have L1 := Kept.mk (mayC_iff.1 m1).1
    rewrite [m1]
    have H3 := (H1.below hb1).up hb1.size
    have H4 := (H2.below hb1).up hb1.size
    go_wp2_with fail
    go_at_call 31
    refine (May_any u ys w1 H4).mono ?_
    rintro e w2 ⟨rfl, hb2⟩
    have H5 := (H3.below hb2).up hb2.size
    have H6 := (H4.below hb2).up hb2.size
    have hbb := hb1.trans (hb2.mono hb1.size)
    clear H1 H2 H3 H4 hb1 hb2
    cases m2 : mayR ys with
    | false =>
      have hv : Kept (fitsC xs ys = false) := ⟨by simp [fitsC, m2]⟩
      go_wp2_with fail
      go_returns
      exact ⟨by rw [hv.out]; rfl, hbb⟩
    | true =>
      have hv : Kept (fitsC xs ys = kEq (xs.map Cl.k) (ys.map Vr.k)) := ⟨by simp [fitsC, m1, m2]⟩
      have hN : xs.length ≤ 140737488355328 := by have := L1.out; omega
      go_wp2_with (first | (go_at_call 32; refine (eqfits_any _ u xs ys _ H5 H6 hN).mono ?_; rintro e w3 ⟨rfl, hb3⟩))
      go_returns
      exact ⟨by rw [hv.out]; rfl, hbb.trans (hb3.mono hbb.size)⟩
end Go.Proofs.YtnidaahimofppaaGreat

/- Layer 7 (schema): the reference's Alike, Fits, Index: walked. -/
namespace Go.Proofs.YtnidaahimofppaaGreat
open Go.RowKit Go.Shelf
set_option linter.unusedVariables false
set_option linter.unusedSimpArgs false

set_option maxRecDepth 100000 in
set_option maxHeartbeats 2000000 in
theorem rcFits_any (v u : Value) (xs : List Cl) (ys : List Vr) (w : World) (H1 : HasC w w.heap.size v xs) (H2 : HasR w w.heap.size u ys) :
    Calls Tryz.prog 23 #[v, u] w (fun e w' => e = .returned (.bool (fitsC xs ys)) ∧ Below w.heap.size w w') := by
  obtain ⟨A, c, rfl, _⟩ := id H1
  obtain ⟨B, d, rfl, _⟩ := id H2
  go_enter Tryz.func23, Tryz.ntmps23
  go_wp2_with fail
  go_at_call 18
  refine (rcMay_any A xs.length c xs w H1 (fun _ _ => trivial)).mono ?_
  rintro e w1 ⟨rfl, hb1⟩
  cases m1 : mayC xs with
  | false =>
    have hv : Kept (fitsC xs ys = false) := ⟨by simp [fitsC, m1]⟩
    go_wp2_with fail
    go_returns
    exact ⟨by rw [hv.out]; rfl, hb1⟩
  | true =>
    have L1 := Kept.mk (mayC_iff.1 m1).1
    have H3 := (H1.below hb1).up hb1.size
    have H4 := (H2.below hb1).up hb1.size
    go_wp2_with fail
    go_at_call 35
    refine (rMay_any _ ys w1 H4).mono ?_
    rintro e w0 ⟨rfl, hb2⟩
    have H5 := (H3.below hb2).up hb2.size
    have H6 := (H4.below hb2).up hb2.size
    have hbb := hb1.trans (hb2.mono hb1.size)
    clear H1 H2 H3 H4 hb1 hb2
    cases m2 : mayR ys with
    | false =>
      have hv : Kept (fitsC xs ys = false) := ⟨by simp [fitsC, m2]⟩
      go_wp2_with fail
      go_returns
      exact ⟨by rw [hv.out]; rfl, hbb⟩
    | true =>
      have HG : Kept (fitsC xs ys = kEq (xs.map Cl.k) (ys.map Vr.k)) := ⟨by simp [fitsC, m1, m2]⟩
      have bel0 : ∀ {w2}, Below w0.heap.size w0 w2 → Below w.heap.size w w2 := fun h => hbb.trans (h.mono hbb.size)
      obtain ⟨A', c', hv1, _, hA⟩ := H5
      obtain ⟨B', d', hv2, _, hB⟩ := H6
      injection hv1 with hv1
      injection hv2 with hv2
      subst hv1 hv2
      have HA := Kept.mk hA
      have HB := Kept.mk hB
      have HN : Kept (xs.length ≤ 140737488355328) := ⟨by have := L1.out; omega⟩
      clear hA hB m1 m2
      by_cases cl : xs.length = ys.length
      · have HL := Kept.mk cl
        have cl' : ((xs.length : Int) == (ys.length : Int)) = true := by rw [beq_iff_eq]; omega
        have cl2 : ((xs.length : Int) != (ys.length : Int)) = false := by simp [bne, cl']
        have cl3 : (ys.length : Int) = (xs.length : Int) := by omega
        clear cl
        go_wp2_with fail
        go_loopw [5] (fun v5 wr => KrI (xs.map Cl.k) (ys.map Vr.k) w0 v5 wr) (fun v5 wr => xs.length - (intOf v5).toNat)
        case atStart => exact ⟨0, 0, rfl, rfl, ⟨Nat.zero_le _, rfl⟩⟩
        case round =>
          obtain ⟨i, nd, rfl, rfl, HI⟩ := hrel
          by_cases ci : i < xs.length
          · have cj : i < ys.length := by rw [← HL.out]; exact ci
            have hne : xs ≠ [] := by rintro rfl; simp at ci
            have hne2 : ys ≠ [] := by rintro rfl; simp at cj
            obtain ⟨b1, o1, rfl, hb1, hc1⟩ := HA.out hne
            obtain ⟨b2, o2, rfl, hb2, hc2⟩ := HB.out hne2
            obtain ⟨e0, e1⟩ := hc1 i ci
            obtain ⟨g0, g1, g2⟩ := hc2 i cj
            have hst := HI.out.2.trans (kEq_step (by simpa using ci) (by simpa using cj))
            rw [List.getElem_map, List.getElem_map] at hst
            have HST := Kept.mk hst
            clear hst
            generalize xs[i] = x at e0 e1 HST
            generalize ys[i] = y at g0 g1 g2 HST
            have ci' : (i : Int) < (xs.length : Int) := by omega
            have cj' : (i : Int) < (ys.length : Int) := by omega
            have f0 : 0 ≤ (i : Int) := by omega
            have hw : wrap64 ((i : Int) + 1) = (i : Int) + 1 := by have := HN.out; simp only [wrap64]; omega
            have HCI := Kept.mk ci
            have HC2 : Kept (i + 1 ≤ (xs.map Cl.k).length) := ⟨by rw [List.length_map]; exact ci⟩
            clear hc1 hc2 hne hne2 ci cj
            obtain ⟨xs', xk⟩ := x
            obtain ⟨yk, yn, ys'⟩ := y
            simp only at e0 e1 g0 g1 g2 HST
            by_cases hk : xk = yk
            · have HE : Kept (decide (xk = yk) = true) := ⟨decide_eq_true hk⟩
              subst hk
              go_wp2_with fail
              go_quiet (fail)
              go_wp2_with fail
              refine ⟨⟨i + 1, _, by first | rfl | (rw [hw]; rfl), rfl, ⟨HC2.out, ?_⟩⟩, by first | exact less_step hw HCI.out | exact less_bare' HCI.out⟩
              rw [HST.out, HE.out, Bool.true_and]
            · have hv : Kept (kEq (xs.map Cl.k) (ys.map Vr.k) = false) := ⟨by rw [HST.out, decide_eq_false hk, Bool.false_and]⟩
              have h' : (xk == yk) = false := by rw [beq_eq_false_iff_ne]; exact hk
              have h'' : (xk != yk) = true := by simp [bne, h']
              clear hk HST
              go_wp2_with fail
              go_quiet (fail)
              go_wp2_with fail
              go_returns
              exact ⟨by rw [HG.out, hv.out]; rfl, bel0 (below_drewN (below_drewN (Below.refl _ _) _) _)⟩
          · have hst := HI.out.2
            have hi : i = xs.length := by have := HI.out.1; simp only [List.length_map] at this; omega
            have hv : Kept (kEq (xs.map Cl.k) (ys.map Vr.k) = true) := ⟨by
              rw [hst, hi]
              have h9 := kEq_end (xs := xs.map Cl.k) (ys := ys.map Vr.k) (by simpa using HL.out)
              rwa [List.length_map] at h9⟩
            have ci' : ¬ ((i : Int) < (xs.length : Int)) := by omega
            clear ci hst hi
            go_wp2_with fail
            go_returns
            exact ⟨by rw [HG.out, hv.out]; rfl, bel0 (below_drewN (Below.refl _ _) _)⟩
      · have hv : Kept (fitsC xs ys = false) := ⟨by rw [HG.out]; exact kEq_len (by simpa using cl)⟩
        have cl' : ((xs.length : Int) == (ys.length : Int)) = false := by rw [beq_eq_false_iff_ne]; omega
        have cl2 : ((xs.length : Int) != (ys.length : Int)) = true := by simp; omega
        clear cl
        go_wp2_with fail
        go_returns
        exact ⟨by rw [hv.out]; rfl, hbb⟩
def RiI (cs : List Cl) (s : ByteArray) (w : World) (v5 : Value) (wr : World) : Prop := ∃ i : Nat, v5 = .int .i64 (i : Int) ∧ wr = w ∧ Kept (i ≤ cs.length ∧ ∀ j, (hj : j < i) → (hl : j < cs.length) → cs[j].s ≠ s)
set_option maxRecDepth 100000 in
set_option maxHeartbeats 2000000 in
theorem rcIndex_any (v : Value) (cs : List Cl) (s : ByteArray) (w : World) (H : HasC w w.heap.size v cs) (hN : cs.length ≤ 140737488355328) :
    Calls Tryz.prog 20 #[v, .string s] w (fun e w' => e = .returned (.int .i64 (idx cs s)) ∧ Below w.heap.size w w') := by
  obtain ⟨A, c, rfl, _, hA⟩ := H
  have HA := Kept.mk hA
  have HN := Kept.mk hN
  clear hA hN
  go_enter Tryz.func20, Tryz.ntmps20
  go_wp2_with fail
  go_loopw [5] (fun v5 wr => RiI cs s w v5 wr) (fun v5 wr => cs.length - (intOf v5).toNat)
  case atStart => exact ⟨0, rfl, rfl, ⟨Nat.zero_le _, fun j hj => by omega⟩⟩
  case round =>
    obtain ⟨i, rfl, rfl, HI⟩ := hrel
    by_cases ci : i < cs.length
    · have hne : cs ≠ [] := by rintro rfl; simp at ci
      obtain ⟨b1, o1, rfl, hb1, hc1⟩ := HA.out hne
      obtain ⟨e0, e1⟩ := hc1 i ci
      have ci' : (i : Int) < (cs.length : Int) := by omega
      have f0 : 0 ≤ (i : Int) := by omega
      have hw : wrap64 ((i : Int) + 1) = (i : Int) + 1 := by have := HN.out; simp only [wrap64]; omega
      have HCI := Kept.mk ci
      by_cases hs : cs[i].s = s
      · have hv : Kept (idx cs s = (i : Int)) := ⟨idx_some i ci hs (fun j hj => HI.out.2 j hj (by omega))⟩
        rw [hs] at e0
        clear hs hc1 hne
        go_wp2_with fail
        go_returns
        exact ⟨by rw [hv.out]; rfl, Below.refl _ _⟩
      · have HNX : Kept (∀ j, (hj : j < i + 1) → (hl : j < cs.length) → cs[j].s ≠ s) := ⟨fun j hj hl => by
          by_cases hji : j < i
          · exact HI.out.2 j hji hl
          · obtain rfl : j = i := by omega
            exact hs⟩
        have hsb := sne hs
        generalize cs[i].s = t at e0 hsb
        clear hs hc1 hne
        go_wp2_with fail
        exact ⟨⟨i + 1, by first | rfl | (rw [hw]; rfl), rfl, ⟨HCI.out, HNX.out⟩⟩, by first | exact less_step hw HCI.out | exact less_bare' HCI.out⟩
    · have hv : Kept (idx cs s = -1) := ⟨idx_none (fun x hx e => by
        obtain ⟨j, hj, rfl⟩ := List.getElem_of_mem hx
        exact HI.out.2 j (by omega) hj e)⟩
      have ci' : ¬ ((i : Int) < (cs.length : Int)) := by omega
      clear ci
      go_wp2_with fail
      go_returns
      exact ⟨by rw [hv.out]; rfl, Below.refl _ _⟩
end Go.Proofs.YtnidaahimofppaaGreat

/- Layer 7 (schema): schemas and numbers that came in, opened. -/
namespace Go.Proofs.YtnidaahimofppaaGreat
open Go.RowKit
set_option linter.unusedVariables false
set_option linter.unusedSimpArgs false
instance : Inhabited Cl := ⟨⟨⟨#[]⟩, 0⟩⟩
section
open Go.ChangeShapes Go.WideShapes Go.Deep
variable {H : Type} {enc : TypeId × Value → H}
theorem cellsC : Tryz.prog.cellsOf 52 = 2 := by kernel_rfl
theorem cellsK : Tryz.prog.cellsOf 50 = 1 := by kernel_rfl
theorem cellsN : Tryz.prog.cellsOf 3 = 1 := by kernel_rfl
theorem cellsS : Tryz.prog.cellsOf 9 = 1 := by kernel_rfl
set_option maxRecDepth 100000 in
theorem open_col {W : World} {n : Nat} {cs : List Value} {x : DataW H × List MemPlace} (h : DataW.trod enc Tryz.prog W 0 (fun _ => true) true n 52 cs = some x) : ∃ q : Cl, cs = colV q := by
  obtain ⟨ys, m, _, _, hl, hyl, hf⟩ := DataW.trod_struct Tryz.underlying52 h
  rw [cellsC] at hl
  match cs, hl with
  | [c0, c1], _ =>
    have f0 := hf 0 _ rfl
    have f1 := hf 1 _ rfl
    match ys, hyl with
    | [y0, y1], _ =>
      have t0 : DataW.trod enc Tryz.prog W 0 (fun _ => true) true m 9 (([c0, c1].drop 0).take (Tryz.prog.cellsOf 9)) = some y0 := f0
      have t1 : DataW.trod enc Tryz.prog W 0 (fun _ => true) true m 50 (([c0, c1].drop 1).take (Tryz.prog.cellsOf 50)) = some y1 := f1
      rw [cellsS] at t0
      rw [cellsK] at t1
      obtain ⟨a0, z0, _, _⟩ := DataW.trod_string Tryz.underlying9 t0
      obtain ⟨a1, z1, _, _⟩ := DataW.trod_int Tryz.underlying50 t1
      simp at z0 z1
      subst z0 z1
      exact ⟨⟨a0, a1⟩, rfl⟩
set_option maxRecDepth 100000 in
theorem open_cols {W : World} {base : Nat} {v : Value} {d : DataW H} {p : List MemPlace} (hval : Value.okWide Tryz.prog W .any base 23 v) (h : DataW.Trod enc Tryz.prog W 0 (fun _ => true) true 23 v d p) (hlt : ∀ x ∈ p, x.block < W.heap.size)
    (hsz : ∀ elems spare, d = .slice elems spare → (elems.length + spare.length) * 24 ≤ 140737488351232) :
    ∃ xs : List Cl, HasC W W.heap.size v xs ∧ xs.length * 24 ≤ 140737488351232 := by
  obtain ⟨a1, len, cap, rfl⟩ := okWide_slice Tryz.underlying23 hval
  obtain ⟨fuel, hf⟩ := h
  rcases open_slice Tryz.underlying23 hf with ⟨hcs, hx⟩ | ⟨a, len', cap', m, n, D, Pl, hcs, _, hl, hm, hmm, hx, hcell⟩
  · simp [Value.cells] at hcs
    obtain ⟨rfl, rfl, rfl⟩ := hcs
    exact ⟨[], HasC.nil W _, by simp⟩
  · simp [Value.cells] at hcs
    obtain ⟨rfl, rfl, rfl⟩ := hcs
    simp only [Prod.mk.injEq] at hx
    obtain ⟨rfl, rfl⟩ := hx
    simp only [if_true] at hmm
    subst hmm
    have h1 := hsz _ _ rfl
    simp only [List.length_map, List.length_range] at h1
    have each : ∀ i, i < len → ∃ q : Cl, W.cell? (a.add (i * 2)) = some (.string q.s) ∧ W.cell? (a.add (i * 2 + 1)) = some (.int .i64 q.k) := by
      intro i hi
      obtain ⟨cs', hc, ht⟩ := hcell i (by omega)
      rw [cellsC] at hc
      obtain ⟨q, rfl⟩ := open_col ht
      obtain ⟨_, _, hat⟩ := World.cells?_some hc
      refine ⟨q, ?_, ?_⟩
      · have := hat 0 (by omega)
        rw [Go.Deep.add_add] at this
        exact this
      · have := hat 1 (by omega)
        rw [Go.Deep.add_add] at this
        exact this
    obtain ⟨q, hq⟩ := choose_lt each
    refine ⟨(List.range len).map q, ⟨some a, m, by simp, by simpa using hl, fun hne => ?_⟩, ?_⟩
    · obtain ⟨b, off, spot⟩ := a
      have h0 : 0 < len := by
        rcases Nat.eq_zero_or_pos len with h0 | h0
        · subst h0; exact absurd rfl hne
        · exact h0
      have hspot : spot = none := by simpa [Addr.add] using World.cell?_spot (hq 0 h0).1
      subst hspot
      refine ⟨b, off, rfl, hlt (.cell b off) (List.mem_append_left _ (MemPlace.mem_row.2 ⟨0, by rw [cellsC]; omega, by simp⟩)), fun j hj => ?_⟩
      simp only [List.length_map, List.length_range] at hj
      obtain ⟨e0, e1⟩ := hq j hj
      rw [Addr.add_lit] at e0 e1
      rw [← Nat.add_assoc] at e1
      simp only [List.getElem_map, List.getElem_range]
      exact ⟨e0, e1⟩
    · simp only [List.length_map, List.length_range]
      omega
end
end Go.Proofs.YtnidaahimofppaaGreat

/- Layer 7 (schema): rows that came in, opened. -/
namespace Go.Proofs.YtnidaahimofppaaGreat
open Go.RowKit
set_option linter.unusedVariables false
set_option linter.unusedSimpArgs false
def RngR (xs : List Vr) : Prop := ∀ x ∈ xs, -9223372036854775808 ≤ x.n ∧ x.n ≤ 9223372036854775807
instance : Inhabited Vr := ⟨⟨0, 0, ⟨#[]⟩⟩⟩
section
open Go.ChangeShapes Go.WideShapes Go.Deep
variable {H : Type} {enc : TypeId × Value → H}
theorem cellsV : Tryz.prog.cellsOf 68 = 3 := by kernel_rfl
set_option maxRecDepth 100000 in
theorem open_value {W : World} {n : Nat} {cs : List Value} {x : DataW H × List MemPlace} (h : DataW.trod enc Tryz.prog W 0 (fun _ => true) true n 68 cs = some x) : ∃ q : Vr, cs = valC q ∧ -9223372036854775808 ≤ q.n ∧ q.n ≤ 9223372036854775807 := by
  obtain ⟨ys, m, _, _, hl, hyl, hf⟩ := DataW.trod_struct Tryz.underlying68 h
  rw [cellsV] at hl
  match cs, hl with
  | [c0, c1, c2], _ =>
    have f0 := hf 0 _ rfl
    have f1 := hf 1 _ rfl
    have f2 := hf 2 _ rfl
    match ys, hyl with
    | [y0, y1, y2], _ =>
      have t0 : DataW.trod enc Tryz.prog W 0 (fun _ => true) true m 50 (([c0, c1, c2].drop 0).take (Tryz.prog.cellsOf 50)) = some y0 := f0
      have t1 : DataW.trod enc Tryz.prog W 0 (fun _ => true) true m 3 (([c0, c1, c2].drop 1).take (Tryz.prog.cellsOf 3)) = some y1 := f1
      have t2 : DataW.trod enc Tryz.prog W 0 (fun _ => true) true m 9 (([c0, c1, c2].drop 2).take (Tryz.prog.cellsOf 9)) = some y2 := f2
      rw [cellsK] at t0
      rw [cellsN] at t1
      rw [cellsS] at t2
      obtain ⟨a0, z0, _, _⟩ := DataW.trod_int Tryz.underlying50 t0
      obtain ⟨a1, z1, _, w1⟩ := DataW.trod_int Tryz.underlying3 t1
      obtain ⟨a2, z2, _, _⟩ := DataW.trod_string Tryz.underlying9 t2
      simp at z0 z1 z2
      subst z0 z1 z2
      have hw : -9223372036854775808 ≤ a1 ∧ a1 ≤ 9223372036854775807 := by simpa [Lit.wf, IntKind.min, IntKind.max, IntKind.signed, IntKind.bits] using w1
      exact ⟨⟨a0, a1, a2⟩, rfl, hw.1, hw.2⟩
set_option maxRecDepth 100000 in
theorem open_rows {W : World} {base : Nat} {v : Value} {d : DataW H} {p : List MemPlace} (hval : Value.okWide Tryz.prog W .any base 36 v) (h : DataW.Trod enc Tryz.prog W 0 (fun _ => true) true 36 v d p) (hlt : ∀ x ∈ p, x.block < W.heap.size)
    (hsz : ∀ elems spare, d = .slice elems spare → (elems.length + spare.length) * 32 ≤ 140737488351232) :
    ∃ xs : List Vr, HasR W W.heap.size v xs ∧ RngR xs ∧ xs.length * 32 ≤ 140737488351232 := by
  obtain ⟨a1, len, cap, rfl⟩ := okWide_slice Tryz.underlying36 hval
  obtain ⟨fuel, hf⟩ := h
  rcases open_slice Tryz.underlying36 hf with ⟨hcs, hx⟩ | ⟨a, len', cap', m, n, D, Pl, hcs, _, hl, hm, hmm, hx, hcell⟩
  · simp [Value.cells] at hcs
    obtain ⟨rfl, rfl, rfl⟩ := hcs
    exact ⟨[], HasR.nil W _, by intro x hx; simp at hx, by simp⟩
  · simp [Value.cells] at hcs
    obtain ⟨rfl, rfl, rfl⟩ := hcs
    simp only [Prod.mk.injEq] at hx
    obtain ⟨rfl, rfl⟩ := hx
    simp only [if_true] at hmm
    subst hmm
    have h1 := hsz _ _ rfl
    simp only [List.length_map, List.length_range] at h1
    have each : ∀ i, i < len → ∃ q : Vr, (W.cell? (a.add (i * 3)) = some (.int .i64 q.k) ∧ W.cell? (a.add (i * 3 + 1)) = some (.int .i64 q.n) ∧ W.cell? (a.add (i * 3 + 2)) = some (.string q.s)) ∧ -9223372036854775808 ≤ q.n ∧ q.n ≤ 9223372036854775807 := by
      intro i hi
      obtain ⟨cs', hc, ht⟩ := hcell i (by omega)
      rw [cellsV] at hc
      obtain ⟨q, rfl, r0, r1⟩ := open_value ht
      obtain ⟨_, _, hat⟩ := World.cells?_some hc
      refine ⟨q, ⟨?_, ?_, ?_⟩, r0, r1⟩
      · have := hat 0 (by omega)
        rw [Go.Deep.add_add] at this
        exact this
      · have := hat 1 (by omega)
        rw [Go.Deep.add_add] at this
        exact this
      · have := hat 2 (by omega)
        rw [Go.Deep.add_add] at this
        exact this
    obtain ⟨q, hq⟩ := choose_lt each
    refine ⟨(List.range len).map q, ⟨some a, m, by simp, by simpa using hl, fun hne => ?_⟩, ?_, ?_⟩
    · obtain ⟨b, off, spot⟩ := a
      have h0 : 0 < len := by
        rcases Nat.eq_zero_or_pos len with h0 | h0
        · subst h0; exact absurd rfl hne
        · exact h0
      have hspot : spot = none := by simpa [Addr.add] using World.cell?_spot (hq 0 h0).1.1
      subst hspot
      refine ⟨b, off, rfl, hlt (.cell b off) (List.mem_append_left _ (MemPlace.mem_row.2 ⟨0, by rw [cellsV]; omega, by simp⟩)), fun j hj => ?_⟩
      simp only [List.length_map, List.length_range] at hj
      obtain ⟨⟨e0, e1, e2⟩, _⟩ := hq j hj
      rw [Addr.add_lit] at e0 e1 e2
      rw [← Nat.add_assoc] at e1 e2
      simp only [List.getElem_map, List.getElem_range]
      exact ⟨e0, e1, e2⟩
    · intro x hx
      simp only [List.mem_map, List.mem_range] at hx
      obtain ⟨i, hi, rfl⟩ := hx
      exact (hq i hi).2
    · simp only [List.length_map, List.length_range]
      omega
end
end Go.Proofs.YtnidaahimofppaaGreat

/- Layer 26 (tally): lists of aggregates that came in, opened. -/
namespace Go.Proofs.YtnidaahimofppaaGreat
open Go.RowKit
set_option linter.unusedVariables false
set_option linter.unusedSimpArgs false
section
open Go.ChangeShapes Go.WideShapes Go.Deep
variable {H : Type} {enc : TypeId × Value → H}
theorem cellsGK : Tryz.prog.cellsOf 54 = 1 := by kernel_rfl
theorem cellsG : Tryz.prog.cellsOf 56 = 3 := by kernel_rfl
set_option maxRecDepth 100000 in
theorem open_agg {W : World} {n : Nat} {cs : List Value} {x : DataW H × List MemPlace} (h : DataW.trod enc Tryz.prog W 0 (fun _ => true) true n 56 cs = some x) : ∃ q : Vr, cs = valC q ∧ -9223372036854775808 ≤ q.n ∧ q.n ≤ 9223372036854775807 := by
  obtain ⟨ys, m, _, _, hl, hyl, hf⟩ := DataW.trod_struct Tryz.underlying56 h
  rw [cellsG] at hl
  match cs, hl with
  | [c0, c1, c2], _ =>
    have f0 := hf 0 _ rfl
    have f1 := hf 1 _ rfl
    have f2 := hf 2 _ rfl
    match ys, hyl with
    | [y0, y1, y2], _ =>
      have t0 : DataW.trod enc Tryz.prog W 0 (fun _ => true) true m 54 (([c0, c1, c2].drop 0).take (Tryz.prog.cellsOf 54)) = some y0 := f0
      have t1 : DataW.trod enc Tryz.prog W 0 (fun _ => true) true m 3 (([c0, c1, c2].drop 1).take (Tryz.prog.cellsOf 3)) = some y1 := f1
      have t2 : DataW.trod enc Tryz.prog W 0 (fun _ => true) true m 9 (([c0, c1, c2].drop 2).take (Tryz.prog.cellsOf 9)) = some y2 := f2
      rw [cellsGK] at t0
      rw [cellsN] at t1
      rw [cellsS] at t2
      obtain ⟨a0, z0, _, _⟩ := DataW.trod_int Tryz.underlying54 t0
      obtain ⟨a1, z1, _, w1⟩ := DataW.trod_int Tryz.underlying3 t1
      obtain ⟨a2, z2, _, _⟩ := DataW.trod_string Tryz.underlying9 t2
      simp at z0 z1 z2
      subst z0 z1 z2
      have hw : -9223372036854775808 ≤ a1 ∧ a1 ≤ 9223372036854775807 := by simpa [Lit.wf, IntKind.min, IntKind.max, IntKind.signed, IntKind.bits] using w1
      exact ⟨⟨a0, a1, a2⟩, rfl, hw.1, hw.2⟩
set_option maxRecDepth 100000 in
theorem open_aggs {W : World} {base : Nat} {v : Value} {d : DataW H} {p : List MemPlace} (hval : Value.okWide Tryz.prog W .any base 24 v) (h : DataW.Trod enc Tryz.prog W 0 (fun _ => true) true 24 v d p) (hlt : ∀ x ∈ p, x.block < W.heap.size)
    (hsz : ∀ elems spare, d = .slice elems spare → (elems.length + spare.length) * 32 ≤ 140737488351232) :
    ∃ xs : List Vr, HasR W W.heap.size v xs ∧ RngR xs ∧ xs.length * 32 ≤ 140737488351232 := by
  obtain ⟨a1, len, cap, rfl⟩ := okWide_slice Tryz.underlying24 hval
  obtain ⟨fuel, hf⟩ := h
  rcases open_slice Tryz.underlying24 hf with ⟨hcs, hx⟩ | ⟨a, len', cap', m, n, D, Pl, hcs, _, hl, hm, hmm, hx, hcell⟩
  · simp [Value.cells] at hcs
    obtain ⟨rfl, rfl, rfl⟩ := hcs
    exact ⟨[], HasR.nil W _, by intro x hx; simp at hx, by simp⟩
  · simp [Value.cells] at hcs
    obtain ⟨rfl, rfl, rfl⟩ := hcs
    simp only [Prod.mk.injEq] at hx
    obtain ⟨rfl, rfl⟩ := hx
    simp only [if_true] at hmm
    subst hmm
    have h1 := hsz _ _ rfl
    simp only [List.length_map, List.length_range] at h1
    have each : ∀ i, i < len → ∃ q : Vr, (W.cell? (a.add (i * 3)) = some (.int .i64 q.k) ∧ W.cell? (a.add (i * 3 + 1)) = some (.int .i64 q.n) ∧ W.cell? (a.add (i * 3 + 2)) = some (.string q.s)) ∧ -9223372036854775808 ≤ q.n ∧ q.n ≤ 9223372036854775807 := by
      intro i hi
      obtain ⟨cs', hc, ht⟩ := hcell i (by omega)
      rw [cellsG] at hc
      obtain ⟨q, rfl, r0, r1⟩ := open_agg ht
      obtain ⟨_, _, hat⟩ := World.cells?_some hc
      refine ⟨q, ⟨?_, ?_, ?_⟩, r0, r1⟩
      · have := hat 0 (by omega)
        rw [Go.Deep.add_add] at this
        exact this
      · have := hat 1 (by omega)
        rw [Go.Deep.add_add] at this
        exact this
      · have := hat 2 (by omega)
        rw [Go.Deep.add_add] at this
        exact this
    obtain ⟨q, hq⟩ := choose_lt each
    refine ⟨(List.range len).map q, ⟨some a, m, by simp, by simpa using hl, fun hne => ?_⟩, ?_, ?_⟩
    · obtain ⟨b, off, spot⟩ := a
      have h0 : 0 < len := by
        rcases Nat.eq_zero_or_pos len with h0 | h0
        · subst h0; exact absurd rfl hne
        · exact h0
      have hspot : spot = none := by simpa [Addr.add] using World.cell?_spot (hq 0 h0).1.1
      subst hspot
      refine ⟨b, off, rfl, hlt (.cell b off) (List.mem_append_left _ (MemPlace.mem_row.2 ⟨0, by rw [cellsG]; omega, by simp⟩)), fun j hj => ?_⟩
      simp only [List.length_map, List.length_range] at hj
      obtain ⟨⟨e0, e1, e2⟩, _⟩ := hq j hj
      rw [Addr.add_lit] at e0 e1 e2
      rw [← Nat.add_assoc] at e1 e2
      simp only [List.getElem_map, List.getElem_range]
      exact ⟨e0, e1, e2⟩
    · intro x hx
      simp only [List.mem_map, List.mem_range] at hx
      obtain ⟨i, hi, rfl⟩ := hx
      exact (hq i hi).2
    · simp only [List.length_map, List.length_range]
      omega
end
end Go.Proofs.YtnidaahimofppaaGreat

/- Layer 26 (tally), plain words (no program in sight): aggregates, and their columns. -/
namespace Go.Proofs.YtnidaahimofppaaGreat
set_option linter.unusedVariables false
set_option linter.unusedSimpArgs false

/-- The kind of the column at n (an aggregate is a Vr: its kind k, its column n, its name s). -/
def kAt (cs : List Cl) (n : Int) : Int := if h : n.toNat < cs.length then (cs[n.toNat]'h).k else 0
def colB (k : Int) : Bool := k != 1 && k != 7
def chkT (cs : List Cl) (a : Vr) : Int :=
  if a.k < 1 ∨ 7 < a.k ∨ nameN (tx a.s) = false then 2
  else if colB a.k = false then (if a.n = 0 then 0 else 2)
  else if a.n < 0 ∨ (cs.length : Int) ≤ a.n then 3
  else if a.k ≠ 3 ∧ a.k ≠ 4 ∧ kAt cs a.n ≠ 1 then 12 else 0
def colT (cs : List Cl) (a : Vr) : Cl := ⟨a.s, if a.k = 3 ∨ a.k = 4 then kAt cs a.n else 1⟩
def colsL (cs : List Cl) : List Cl → List Vr → List Cl × Int
  | out, [] => (out, 0)
  | out, a :: r => if chkT cs a ≠ 0 then ([], chkT cs a) else if 0 ≤ idx out a.s then ([], 9) else colsL cs (out ++ [colT cs a]) r
def colsV (cs : List Cl) (ags : List Vr) : List Cl × Int := if mayC cs = false then ([], 17) else if 8 < ags.length then ([], 6) else colsL cs [] ags
theorem colsV_no {cs : List Cl} {ags : List Vr} (h : mayC cs = false) : colsV cs ags = ([], 17) := if_pos h
theorem colsV_long {cs : List Cl} {ags : List Vr} (h : mayC cs = true) (h2 : 8 < ags.length) : colsV cs ags = ([], 6) := by
  unfold colsV
  rw [if_neg (by rw [h]; decide), if_pos h2]
theorem colsV_go {cs : List Cl} {ags : List Vr} (h : mayC cs = true) (h2 : ¬ 8 < ags.length) : colsV cs ags = colsL cs [] ags := by
  unfold colsV
  rw [if_neg (by rw [h]; decide), if_neg h2]
theorem colsL_at {cs : List Cl} {ags : List Vr} {out : List Cl} {i : Nat} (hi : i < ags.length) :
    colsL cs out (ags.drop i) = if chkT cs ags[i] ≠ 0 then ([], chkT cs ags[i]) else if 0 ≤ idx out ags[i].s then ([], 9) else colsL cs (out ++ [colT cs ags[i]]) (ags.drop (i + 1)) := by
  rw [List.drop_eq_getElem_cons hi]
  rfl
theorem colsL_end {cs : List Cl} {ags : List Vr} {out : List Cl} {i : Nat} (hi : ags.length ≤ i) : colsL cs out (ags.drop i) = (out, 0) := by
  rw [List.drop_eq_nil_of_le hi]
  rfl
/-- In a schema each column has one of two kinds. -/
theorem kAt_two {cs : List Cl} (h : mayC cs = true) {n : Int} (h0 : 0 ≤ n) (h1 : n < cs.length) : kAt cs n = 1 ∨ kAt cs n = 2 := by
  have hn : n.toNat < cs.length := by omega
  have ho := (mayC_iff.1 h).2 n.toNat hn
  unfold okAt at ho
  rw [dif_pos hn] at ho
  simp only [Bool.and_eq_true, kindB, Bool.or_eq_true, decide_eq_true_eq] at ho
  unfold kAt
  rw [dif_pos hn]
  exact ho.1.2
theorem chkT_bad {cs : List Cl} {a : Vr} (h : a.k < 1 ∨ 7 < a.k ∨ nameN (tx a.s) = false) : chkT cs a = 2 := if_pos h
theorem chkT_no {cs : List Cl} {a : Vr} (h1 : 1 ≤ a.k) (h2 : a.k ≤ 7) (h3 : nameN (tx a.s) = true) (h4 : colB a.k = false) : chkT cs a = if a.n = 0 then 0 else 2 := by
  unfold chkT
  rw [if_neg (by rw [h3]; simp; omega), if_pos h4]
theorem chkT_rng {cs : List Cl} {a : Vr} (h1 : 1 ≤ a.k) (h2 : a.k ≤ 7) (h3 : nameN (tx a.s) = true) (h4 : colB a.k = true) (h5 : a.n < 0 ∨ (cs.length : Int) ≤ a.n) : chkT cs a = 3 := by
  unfold chkT
  rw [if_neg (by rw [h3]; simp; omega), if_neg (by rw [h4]; decide), if_pos h5]
theorem chkT_kind {cs : List Cl} {a : Vr} (h1 : 1 ≤ a.k) (h2 : a.k ≤ 7) (h3 : nameN (tx a.s) = true) (h4 : colB a.k = true) (h5 : 0 ≤ a.n) (h6 : a.n < cs.length) : chkT cs a = if a.k ≠ 3 ∧ a.k ≠ 4 ∧ kAt cs a.n ≠ 1 then 12 else 0 := by
  unfold chkT
  rw [if_neg (by rw [h3]; simp; omega), if_neg (by rw [h4]; decide), if_neg (by omega)]
theorem colB_f {k : Int} : colB k = false ↔ k = 1 ∨ k = 7 := by simp only [colB, Bool.and_eq_false_iff, bne_eq_false_iff_eq]
theorem colB_t {k : Int} (h : colB k = true) : k ≠ 1 ∧ k ≠ 7 := by simpa only [colB, Bool.and_eq_true, bne_iff_ne] using h
theorem chkT_col {cs : List Cl} {a : Vr} (h : chkT cs a = 0) (hk : a.k = 3 ∨ a.k = 4) : 0 ≤ a.n ∧ a.n < cs.length := by
  unfold chkT at h
  split at h
  · simp at h
  · split at h
    · rename_i h2
      have := colB_f.1 h2
      omega
    · split at h
      · simp at h
      · omega
def TcI (cs : List Cl) (ags : List Vr) (i : Nat) (o : List Cl) : Prop := i ≤ ags.length ∧ o.length = i ∧ colsL cs [] ags = colsL cs o (ags.drop i)
theorem TcI.start (cs : List Cl) (ags : List Vr) : TcI cs ags 0 [] := ⟨Nat.zero_le _, rfl, rfl⟩
theorem TcI.bad {cs : List Cl} {ags : List Vr} {i : Nat} {o : List Cl} (h : TcI cs ags i o) (hi : i < ags.length) (hc : chkT cs ags[i] ≠ 0) : colsL cs [] ags = ([], chkT cs ags[i]) := by rw [h.2.2, colsL_at hi, if_pos hc]
theorem TcI.twice {cs : List Cl} {ags : List Vr} {i : Nat} {o : List Cl} (h : TcI cs ags i o) (hi : i < ags.length) (hc : chkT cs ags[i] = 0) (hx : 0 ≤ idx o ags[i].s) : colsL cs [] ags = ([], 9) := by rw [h.2.2, colsL_at hi, if_neg (by simp [hc]), if_pos hx]
theorem TcI.next {cs : List Cl} {ags : List Vr} {i : Nat} {o : List Cl} (h : TcI cs ags i o) (hi : i < ags.length) (hc : chkT cs ags[i] = 0) (hx : ¬ 0 ≤ idx o ags[i].s) : TcI cs ags (i + 1) (o ++ [colT cs ags[i]]) :=
  ⟨hi, by simp [h.2.1], by rw [h.2.2, colsL_at hi, if_neg (by simp [hc]), if_neg hx]⟩
theorem TcI.done {cs : List Cl} {ags : List Vr} {i : Nat} {o : List Cl} (h : TcI cs ags i o) (hi : ¬ i < ags.length) : colsL cs [] ags = (o, 0) := by rw [h.2.2, colsL_end (by omega)]
end Go.Proofs.YtnidaahimofppaaGreat
