/- Layer 7 (schema): the same schemas, alike ones, rows that fit; the reference's Index: walked. -/
import Derived.Test.YtnidaahimofppaaSchB
namespace Go.Proofs.Ytnidaahimofppaa
open Go.RowKit Go.Shelf
set_option linter.unusedVariables false
set_option linter.unusedSimpArgs false

/-! ### kinds -/
def kEq : List Int → List Int → Bool
  | [], [] => true
  | x :: a, y :: b => decide (x = y) && kEq a b
  | _, _ => false
theorem kEq_len {xs ys : List Int} (h : xs.length ≠ ys.length) : kEq xs ys = false := by
  induction xs generalizing ys with
  | nil => cases ys with
    | nil => exact absurd rfl h
    | cons _ _ => rfl
  | cons x a ih => cases ys with
    | nil => rfl
    | cons y b => simp only [kEq, ih (ys := b) (fun e => h (by simp [e])), Bool.and_false]
theorem kEq_step {xs ys : List Int} {i : Nat} (hi : i < xs.length) (hj : i < ys.length) : kEq (xs.drop i) (ys.drop i) = (decide (xs[i] = ys[i]) && kEq (xs.drop (i + 1)) (ys.drop (i + 1))) := by
  rw [List.drop_eq_getElem_cons hi, List.drop_eq_getElem_cons hj]
  rfl
theorem kEq_end {xs ys : List Int} (h : xs.length = ys.length) : kEq (xs.drop xs.length) (ys.drop xs.length) = true := by
  rw [List.drop_length, h, List.drop_length]
  rfl
def alikeC (xs ys : List Cl) : Bool := kEq (xs.map Cl.k) (ys.map Cl.k)
def KqI (a b : List Int) (w : World) (v17 : Value) (wr : World) : Prop := ∃ (i : Nat) (r : Array Obj) (d : Nat), v17 = .int .i64 (i : Int) ∧ wr = xw w r d ∧ Kept (i ≤ a.length ∧ kEq a b = kEq (a.drop i) (b.drop i))
def KrI (a b : List Int) (w : World) (v5 : Value) (wr : World) : Prop := ∃ (i nd : Nat), v5 = .int .i64 (i : Int) ∧ wr = w.drewN nd ∧ Kept (i ≤ a.length ∧ kEq a b = kEq (a.drop i) (b.drop i))
theorem fitsf_any (s1 : ByteArray) (k1 k2 : Int) (n2 : Int) (s2 : ByteArray) (w : World) : Calls Try.prog 35 #[.agg #[.string s1, .int .i64 k1], .agg #[.int .i64 k2, .int .i64 n2, .string s2]] w (fun e w' => e = .returned (.bool (decide (k1 = k2))) ∧ Below w.heap.size w w') := by
  by_cases h : k1 = k2
  · subst h
    rw [decide_eq_true rfl]
    go_enter Try.func35, Try.ntmps35
    go_wp2_with fail
    go_returns
    exact ⟨rfl, ((Below.refl _ _).alloc (Nat.le_refl _) _).alloc (by simp) _⟩
  · have h' : (k1 == k2) = false := by rw [beq_eq_false_iff_ne]; exact h
    rw [decide_eq_false h]
    go_enter Try.func35, Try.ntmps35
    go_wp2_with fail
    go_returns
    exact ⟨rfl, ((Below.refl _ _).alloc (Nat.le_refl _) _).alloc (by simp) _⟩
set_option maxRecDepth 100000 in
set_option maxHeartbeats 2000000 in
theorem eqfits_any (v u : Value) (xs : List Cl) (ys : List Vr) (w : World) (H1 : HasC w w.heap.size v xs) (H2 : HasR w w.heap.size u ys) (hN : xs.length ≤ 140737488355328) :
    Calls Try.prog 34 #[v, u, .func (Fn.func 35) #[] #[]] w (fun e w' => e = .returned (.bool (kEq (xs.map Cl.k) (ys.map Vr.k))) ∧ Below w.heap.size w w') := by
  obtain ⟨A, c, rfl, _, hA⟩ := H1
  obtain ⟨B, d, rfl, _, hB⟩ := H2
  have HA := Kept.mk hA
  have HB := Kept.mk hB
  have HN := Kept.mk hN
  clear hA hB hN
  by_cases cl : xs.length = ys.length
  · have HL := Kept.mk cl
    rw [← cl]
    clear cl
    go_enter Try.func34, Try.ntmps34
    go_wp2_with fail
    go_loopw [17] (fun v17 wr => KqI (xs.map Cl.k) (ys.map Vr.k) w v17 wr) (fun v17 wr => xs.length - (intOf v17).toNat)
    case atStart => exact ⟨0, _, _, rfl, self_xw w, ⟨Nat.zero_le _, rfl⟩⟩
    case round =>
      obtain ⟨i, r, dd, rfl, rfl, HI⟩ := hrel
      by_cases ci : i < xs.length
      · have cj : i < ys.length := by rw [← HL.out]; exact ci
        have hne : xs ≠ [] := by rintro rfl; simp at ci
        have hne2 : ys ≠ [] := by rintro rfl; simp at cj
        obtain ⟨b1, o1, rfl, hb1, hc1⟩ := HA.out hne
        obtain ⟨b2, o2, rfl, hb2, hc2⟩ := HB.out hne2
        obtain ⟨e0, e1⟩ := hc1 i ci
        obtain ⟨g0, g1, g2⟩ := hc2 i cj
        have hst := HI.out.2.trans (kEq_step (by simpa using ci) (by simpa using cj))
        rw [List.getElem_map, List.getElem_map] at hst
        have HST := Kept.mk hst
        clear hst
        generalize xs[i] = x at e0 e1 HST
        generalize ys[i] = y at g0 g1 g2 HST
        have ci' : (i : Int) < (xs.length : Int) := by omega
        have f0 : 0 ≤ (i : Int) := by omega
        have hw : wrap64 ((i : Int) + 1) = (i : Int) + 1 := by have := HN.out; simp only [wrap64]; omega
        have HCI := Kept.mk ci
        have HC2 : Kept (i + 1 ≤ (xs.map Cl.k).length) := ⟨by rw [List.length_map]; exact ci⟩
        clear hc1 hc2 hne hne2 ci cj
        obtain ⟨xs', xk⟩ := x
        obtain ⟨yk, yn, ys'⟩ := y
        simp only at e0 e1 g0 g1 g2 HST
        by_cases hk : xk = yk
        · have HE : Kept (decide (xk = yk) = true) := ⟨decide_eq_true hk⟩
          clear hk
          go_wp2_with (first | (go_at_call 35; refine (fitsf_any xs' xk yk yn ys' _).mono ?_; rintro e w3 ⟨rfl, hb3⟩; obtain ⟨r3, d3, rfl⟩ := xw_of hb3; clear hb3; rewrite [HE.out]))
          refine ⟨⟨i + 1, _, _, by first | rfl | (rw [hw]; rfl), by rw [alloc_xw, xw_xw, alloc_xw, xw_xw, xw_xw], ⟨HC2.out, ?_⟩⟩, by first | exact less_step hw HCI.out | exact less_bare' HCI.out⟩
          rw [HST.out, HE.out, Bool.true_and]
        · have HE : Kept (decide (xk = yk) = false) := ⟨decide_eq_false hk⟩
          clear hk
          go_wp2_with (first | (go_at_call 35; refine (fitsf_any xs' xk yk yn ys' _).mono ?_; rintro e w3 ⟨rfl, hb3⟩; obtain ⟨r3, d3, rfl⟩ := xw_of hb3; clear hb3; rewrite [HE.out]))
          go_returns
          refine ⟨by rw [HST.out, HE.out, Bool.false_and]; rfl, below_xw (((xw_below w r dd).alloc (by rw [xw_size]; omega) _).alloc (by rw [World.size_alloc, xw_size]; omega) _) (by rw [World.size_alloc, World.size_alloc, xw_size]; omega) r3 d3⟩
      · have hst := HI.out.2
        have hi : i = xs.length := by have := HI.out.1; simp only [List.length_map] at this; omega
        have hv : Kept (kEq (xs.map Cl.k) (ys.map Vr.k) = true) := ⟨by
          rw [hst, hi]
          have h9 := kEq_end (xs := xs.map Cl.k) (ys := ys.map Vr.k) (by simpa using HL.out)
          rwa [List.length_map] at h9⟩
        have ci' : ¬ ((i : Int) < (xs.length : Int)) := by omega
        clear ci hst hi
        go_wp2_with fail
        go_returns
        exact ⟨by rw [hv.out]; rfl, xw_below _ _ _⟩
  · have hv : Kept (kEq (xs.map Cl.k) (ys.map Vr.k) = false) := ⟨kEq_len (by simpa using cl)⟩
    have cl' : ((xs.length : Int) == (ys.length : Int)) = false := by rw [beq_eq_false_iff_ne]; omega
    have cl2 : ((xs.length : Int) != (ys.length : Int)) = true := by simp; omega
    clear cl
    go_enter Try.func34, Try.ntmps34
    go_wp2_with fail
    go_returns
    exact ⟨by rw [hv.out]; rfl, Below.refl _ _⟩
def fitsC (xs : List Cl) (r : List Vr) : Bool := mayC xs && mayR r && kEq (xs.map Cl.k) (r.map Vr.k)
set_option maxRecDepth 100000 in
set_option maxHeartbeats 1000000 in
theorem cFits_any (v u : Value) (xs : List Cl) (ys : List Vr) (w : World) (H1 : HasC w w.heap.size v xs) (H2 : HasR w w.heap.size u ys) :
    Calls Try.prog 24 #[v, u] w (fun e w' => e = .returned (.bool (fitsC xs ys)) ∧ Below w.heap.size w w') := by
  obtain ⟨A, c, rfl, _⟩ := id H1
  cases m1 : mayC xs with
  | false =>
    have hv : Kept (fitsC xs ys = false) := ⟨by simp [fitsC, m1]⟩
    go_enter Try.func24, Try.ntmps24
    go_wp2_with fail
    go_at_call 15
    refine (cMay_any A xs.length c xs w H1 (fun _ _ => trivial)).mono ?_
    rintro e w1 ⟨rfl, hb1⟩
    rewrite [m1]
    go_wp2_with fail
    go_returns
    exact ⟨by rw [hv.out]; rfl, hb1⟩
  | true =>
    go_enter Try.func24, Try.ntmps24
    go_wp2_with fail
    go_at_call 15
    refine (cMay_any A xs.length c xs w H1 (fun _ _ => trivial)).mono ?_
    rintro e w1 ⟨rfl, hb1⟩
    have L1 := Kept.mk (mayC_iff.1 m1).1
    rewrite [m1]
    have H3 := (H1.below hb1).up hb1.size
    have H4 := (H2.below hb1).up hb1.size
    go_wp2_with fail
    go_at_call 33
    refine (May_any u ys w1 H4).mono ?_
    rintro e w2 ⟨rfl, hb2⟩
    have H5 := (H3.below hb2).up hb2.size
    have H6 := (H4.below hb2).up hb2.size
    have hbb := hb1.trans (hb2.mono hb1.size)
    clear H1 H2 H3 H4 hb1 hb2
    cases m2 : mayR ys with
    | false =>
      have hv : Kept (fitsC xs ys = false) := ⟨by simp [fitsC, m2]⟩
      go_wp2_with fail
      go_returns
      exact ⟨by rw [hv.out]; rfl, hbb⟩
    | true =>
      have hv : Kept (fitsC xs ys = kEq (xs.map Cl.k) (ys.map Vr.k)) := ⟨by simp [fitsC, m1, m2]⟩
      have hN : xs.length ≤ 140737488355328 := by have := L1.out; omega
      go_wp2_with (first | (go_at_call 34; refine (eqfits_any _ u xs ys _ H5 H6 hN).mono ?_; rintro e w3 ⟨rfl, hb3⟩))
      go_returns
      exact ⟨by rw [hv.out]; rfl, hbb.trans (hb3.mono hbb.size)⟩
end Go.Proofs.Ytnidaahimofppaa
