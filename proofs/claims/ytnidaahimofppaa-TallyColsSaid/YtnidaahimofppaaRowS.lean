/- Layer 6 (row): the same rows, copies, walked; the program's and the reference's. -/
import Derived.Test.YtnidaahimofppaaRowM
namespace Go.Proofs.Ytnidaahimofppaa
open Go.RowKit
set_option linter.unusedVariables false
set_option linter.unusedSimpArgs false

def SmI (xs ys : List Vr) (w : World) (v13 : Value) (wr : World) : Prop := ∃ (i nd : Nat), v13 = .int .i64 (i : Int) ∧ wr = w.drewN nd ∧ Kept (i ≤ xs.length ∧ sameR xs ys = sameR (xs.drop i) (ys.drop i))
theorem same_len {xs ys : List Vr} (h : xs.length ≠ ys.length) : sameR xs ys = false := by
  cases hs : sameR xs ys with
  | false => rfl
  | true => exact absurd (congrArg List.length (sameR_iff.1 hs)) h
theorem same_step {xs ys : List Vr} {i : Nat} (hi : i < xs.length) (hj : i < ys.length) : sameR (xs.drop i) (ys.drop i) = (xs[i].eqb ys[i] && sameR (xs.drop (i + 1)) (ys.drop (i + 1))) := by
  rw [List.drop_eq_getElem_cons hi, List.drop_eq_getElem_cons hj]
  rfl
theorem eqb_cases (x y : Vr) : x = y ∨ (x.eqb y = false ∧ (x.k ≠ y.k ∨ (x.k = y.k ∧ x.n ≠ y.n) ∨ (x.k = y.k ∧ x.n = y.n ∧ x.s ≠ y.s))) := by
  by_cases h1 : x.k = y.k
  · by_cases h2 : x.n = y.n
    · by_cases h3 : x.s = y.s
      · exact .inl (Vr.ext' h1 h2 h3)
      · exact .inr ⟨by simp [Vr.eqb, h3], .inr (.inr ⟨h1, h2, h3⟩)⟩
    · exact .inr ⟨by simp [Vr.eqb, h2], .inr (.inl ⟨h1, h2⟩)⟩
  · exact .inr ⟨by simp [Vr.eqb, h1], .inl h1⟩
theorem str_ne {s u : ByteArray} (h : s ≠ u) : (s.toList == u.toList) = false := by
  rw [beq_eq_false_iff_ne]
  intro e
  rw [tx_toList, tx_toList] at e
  exact h (tx_inj e)
set_option maxRecDepth 100000 in
set_option maxHeartbeats 2000000 in
theorem rSame_any (v u : Value) (xs ys : List Vr) (w : World) (H1 : HasR w w.heap.size v xs) (H2 : HasR w w.heap.size u ys) (hN : xs.length ≤ 140737488355328) :
    Calls Try.prog 14 #[v, u] w (fun e w' => e = .returned (.bool (sameR xs ys)) ∧ Below w.heap.size w w') := by
  obtain ⟨A, c, rfl, _, hA⟩ := H1
  obtain ⟨B, d, rfl, _, hB⟩ := H2
  have HA := Kept.mk hA
  have HB := Kept.mk hB
  have HN := Kept.mk hN
  clear hA hB hN
  by_cases cl : xs.length = ys.length
  · have HL := Kept.mk cl
    rw [← cl]
    clear cl
    go_enter Try.func14, Try.ntmps14
    go_wp2_with fail
    go_loopw [5] (fun v5 wr => SmI xs ys w v5 wr) (fun v5 wr => xs.length - (intOf v5).toNat)
    case atStart => exact ⟨0, 0, rfl, rfl, ⟨Nat.zero_le _, rfl⟩⟩
    case round =>
      obtain ⟨i, nd, rfl, rfl, HI⟩ := hrel
      by_cases ci : i < xs.length
      · have cj : i < ys.length := by rw [← HL.out]; exact ci
        have hne : xs ≠ [] := by rintro rfl; simp at ci
        have hne2 : ys ≠ [] := by rintro rfl; simp at cj
        obtain ⟨b1, o1, rfl, _, hc1⟩ := HA.out hne
        obtain ⟨b2, o2, rfl, _, hc2⟩ := HB.out hne2
        obtain ⟨e0, e1, e2⟩ := hc1 i ci
        obtain ⟨g0, g1, g2⟩ := hc2 i cj
        have hst := HI.out.2.trans (same_step ci cj)
        have HST := Kept.mk hst
        clear hst
        generalize xs[i] = x at e0 e1 e2 HST
        generalize ys[i] = y at g0 g1 g2 HST
        have ci' : (i : Int) < (xs.length : Int) := by omega
        have f0 : 0 ≤ (i : Int) := by omega
        have hw : wrap64 ((i : Int) + 1) = (i : Int) + 1 := by have := HN.out; simp only [wrap64]; omega
        have HCI := Kept.mk ci
        clear hc1 hc2 hne hne2 ci cj
        rcases eqb_cases x y with rfl | ⟨he, hd⟩
        · have HE := Kept.mk (Vr.eqb_refl x)
          go_wp2_with fail
          go_quiet (fail)
          go_wp2_with fail
          refine ⟨⟨i + 1, _, by rw [hw]; rfl, rfl, ⟨HCI.out, ?_⟩⟩, less_step hw HCI.out⟩
          rw [HST.out, HE.out, Bool.true_and]
        · have hv : Kept (sameR xs ys = false) := ⟨by rw [HST.out, he, Bool.false_and]⟩
          clear he
          obtain ⟨xk, xn, xs'⟩ := x
          obtain ⟨yk, yn, ys'⟩ := y
          simp only at e0 e1 e2 g0 g1 g2 hd
          clear HST
          rcases hd with h | ⟨h1, h⟩ | ⟨h1, h2, h⟩
          · have h' : (xk == yk) = false := by rw [beq_eq_false_iff_ne]; exact h
            clear h
            go_wp2_with fail
            go_quiet (fail)
            go_wp2_with fail
            go_returns
            exact ⟨by rw [hv.out]; rfl, below_drewN (below_drewN (Below.refl _ _) _) _⟩
          · have h' : (xn == yn) = false := by rw [beq_eq_false_iff_ne]; exact h
            subst h1
            clear h
            go_wp2_with fail
            go_quiet (fail)
            go_wp2_with fail
            go_returns
            exact ⟨by rw [hv.out]; rfl, below_drewN (below_drewN (Below.refl _ _) _) _⟩
          · have h' : (xs'.toList == ys'.toList) = false := str_ne h
            subst h1 h2
            clear h
            go_wp2_with fail
            go_quiet (fail)
            go_wp2_with fail
            go_returns
            exact ⟨by rw [hv.out]; rfl, below_drewN (below_drewN (Below.refl _ _) _) _⟩
      · have ci' : ¬ ((i : Int) < (xs.length : Int)) := by omega
        have hv : Kept (sameR xs ys = true) := ⟨by
          have e : i = xs.length := by have := HI.out.1; omega
          rw [HI.out.2, e, List.drop_length, HL.out, List.drop_length]; rfl⟩
        clear ci
        go_wp2_with fail
        go_returns
        exact ⟨by rw [hv.out]; rfl, below_drewN (Below.refl _ _) _⟩
  · have hv : Kept (sameR xs ys = false) := ⟨same_len cl⟩
    have cl' : ((xs.length : Int) == (ys.length : Int)) = false := by rw [beq_eq_false_iff_ne]; omega
    have cl2 : ((xs.length : Int) != (ys.length : Int)) = true := by simp; omega
    clear cl
    go_enter Try.func14, Try.ntmps14
    go_wp2_with fail
    go_returns
    exact ⟨by rw [hv.out]; rfl, Below.refl _ _⟩
end Go.Proofs.Ytnidaahimofppaa
