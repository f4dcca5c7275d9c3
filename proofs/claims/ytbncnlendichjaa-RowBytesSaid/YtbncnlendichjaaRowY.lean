/- Layer 6 (row): how rows stand, walked; the program's and the reference's. -/
import Derived.Test.YtbncnlendichjaaRowX
import Derived.Deep.DeepCutAuto
namespace Go.Proofs.Ytbncnlendichjaa
open Go.RowKit
set_option linter.unusedVariables false
set_option linter.unusedSimpArgs false

theorem HasR.take {w : World} {B : Nat} {A : Option Addr} {n c : Nat} {xs : List Vr} (h : HasR w B (.slice A n c) xs) (m : Nat) (hm : m ≤ xs.length) : HasR w B (.slice A m c) (xs.take m) := by
  obtain ⟨hn, hc, hA⟩ := h.opn
  have hl : (xs.take m).length = m := by rw [List.length_take]; omega
  refine ⟨A, c, by rw [hl], by rw [hl]; omega, fun hne => ?_⟩
  obtain ⟨b, off, h1, h2, h3⟩ := hA (by rintro rfl; simp at hne)
  refine ⟨b, off, h1, h2, fun i hi => ?_⟩
  rw [hl] at hi
  have := h3 i (by omega)
  simpa [List.getElem_take] using this
theorem idx2_take (a b : List Vr) (i : Nat) : idx2 (a.take (min a.length b.length)) b i = idx2 a b i := by
  induction a generalizing b i with
  | nil => simp [idx2]
  | cons x a ih =>
    cases b with
    | nil => simp [idx2]
    | cons y b =>
      rw [show min (x :: a).length (y :: b).length = min a.length b.length + 1 by simp]
      simp only [List.take_succ_cons, idx2, ih]
theorem idx2_spec (a b : List Vr) (i : Nat) : (idx2 a b i = -1 ∧ cmpL a b = Lib.compareInt a.length b.length) ∨ ∃ m, ∃ (ha : m < a.length) (hb : m < b.length), idx2 a b i = ((i + m : Nat) : Int) ∧ a[m].eqb b[m] = false ∧ cmpL a b = cmpV a[m].va b[m].va := by
  induction a generalizing b i with
  | nil =>
    left
    cases b with
    | nil => simp [idx2, cmpL, Lib.compareInt]
    | cons y b =>
      simp only [idx2, cmpL, Lib.compareInt, List.length_nil, List.length_cons, true_and]
      rw [if_pos (by omega)]
  | cons x a ih =>
    cases b with
    | nil =>
      left
      simp only [idx2, cmpL, Lib.compareInt, List.length_nil, List.length_cons, true_and]
      rw [if_neg (by omega), if_pos (by omega)]
    | cons y b =>
      by_cases h : x.eqb y = true
      · rcases ih b (i + 1) with ⟨h1, h2⟩ | ⟨m, ha, hb, h1, h2, h3⟩
        · left
          refine ⟨by simp [idx2, h, h1], ?_⟩
          simp only [cmpL, h, if_true, h2, Lib.compareInt, List.length_cons]
          split <;> split <;> (try split) <;> omega
        · right
          refine ⟨m + 1, by simp; omega, by simp; omega, ?_, by simpa using h2, by simp only [cmpL, h, if_true, h3]; simp⟩
          simp only [idx2, h, if_true, h1]
          omega
      · right
        refine ⟨0, by simp, by simp, by simp [idx2, h], by simpa using h, by simp [cmpL, h]⟩
theorem mul_min {a b n : Nat} (h : n = min a b) : min (a : Int) (b : Int) = (n : Int) := by omega
set_option maxRecDepth 100000 in
set_option maxHeartbeats 2000000 in
theorem Compare_any (v u : Value) (xs ys : List Vr) (w : World) (H1 : HasR w w.heap.size v xs) (H2 : HasR w w.heap.size u ys) :
    Calls Try.prog 9 #[v, u] w (fun e w' => e = .returned (.int .i64 (cmpR xs ys)) ∧ Below w.heap.size w w') := by
  have h1 := Kept.mk H1
  have h2 := Kept.mk H2
  obtain ⟨A, c, rfl, hlc1, _⟩ := H1
  obtain ⟨B, d, rfl, hlc2, _⟩ := H2
  cases m1 : mayR xs with
  | false =>
    have hv : Kept (cmpR xs ys = 0) := ⟨by simp [cmpR, m1]⟩
    have M1 := Kept.mk m1
    clear m1
    go_enter Try.func9, Try.ntmps9
    go_wp2_with fail
    go_at_call 11
    refine (May_any _ xs _ ((h1.out.below ((Below.refl _ _).alloc (Nat.le_refl _) _)).up (by rw [World.size_alloc]; omega))).mono ?_
    rintro e w1 ⟨rfl, hb1⟩
    obtain ⟨r1, d1, rfl⟩ := xw_of hb1
    clear hb1
    rewrite [M1.out]
    go_wp2_with fail
    go_returns
    exact ⟨by rw [hv.out]; rfl, below_xw ((Below.refl _ _).alloc (Nat.le_refl _) _) (by simp) _ _⟩
  | true =>
    have M1 := Kept.mk m1
    have L1 := (mayR_iff.1 m1).1
    cases m2 : mayR ys with
    | false =>
      have hv : Kept (cmpR xs ys = 0) := ⟨by simp [cmpR, m2]⟩
      have M2 := Kept.mk m2
      clear m1 m2
      go_enter Try.func9, Try.ntmps9
      go_wp2_with fail
      go_at_call 11
      refine (May_any _ xs _ ((h1.out.below ((Below.refl _ _).alloc (Nat.le_refl _) _)).up (by rw [World.size_alloc]; omega))).mono ?_
      rintro e w1 ⟨rfl, hb1⟩
      obtain ⟨r1, d1, rfl⟩ := xw_of hb1
      clear hb1
      rewrite [M1.out]
      go_wp2_with fail
      go_at_call 11
      refine (May_any _ ys _ ((h2.out.below (below_xw ((Below.refl _ _).alloc (Nat.le_refl _) _) (by simp) r1 d1)).up (by rw [xw_size, World.size_alloc]; omega))).mono ?_
      rintro e w1 ⟨rfl, hb1⟩
      obtain ⟨r2, d2, rfl⟩ := xw_of hb1
      clear hb1
      rewrite [M2.out]
      go_wp2_with fail
      go_returns
      exact ⟨by rw [hv.out]; rfl, below_xw ((Below.refl _ _).alloc (Nat.le_refl _) _) (by simp) _ _⟩
    | true =>
      have M2 := Kept.mk m2
      have L2 := (mayR_iff.1 m2).1
      have hv : Kept (cmpR xs ys = cmpL xs ys) := ⟨by simp [cmpR, m1, m2]⟩
      clear m1 m2
      obtain ⟨n, hn⟩ : ∃ n, n = min xs.length ys.length := ⟨_, rfl⟩
      have hmin := mul_min hn
      have hnl : n ≤ xs.length := by omega
      have hnl2 : n ≤ ys.length := by omega
      have hn0 : 0 ≤ (n : Int) := by omega
      have hnc : (n : Int) ≤ (c : Int) := by omega
      have hnx : (n : Int) ≤ (xs.length : Int) := by omega
      have HSP := idx2_spec xs ys 0
      rw [← idx2_take xs ys 0, ← hn] at HSP
      have HSPK := Kept.mk HSP
      have HNL := Kept.mk (And.intro hnl hnl2)
      have HTL : Kept ((xs.take n).length = n) := ⟨by rw [List.length_take]; omega⟩
      have HL12 := Kept.mk (And.intro L1 L2)
      clear HSP hn hnl hnl2 L1 L2
      generalize hz : idx2 (xs.take n) ys 0 = z at HSPK
      have HZ := Kept.mk hz
      clear hz
      go_enter Try.func9, Try.ntmps9
      go_wp2_with fail
      go_at_call 11
      have HBW : Kept (Below w.heap.size w (w.alloc (.cells #[.slice B ys.length d] 23))) := ⟨(Below.refl _ _).alloc (Nat.le_refl _) _⟩
      have HSZ : Kept (w.heap.size < (w.alloc (.cells #[.slice B ys.length d] 23)).heap.size) := ⟨by rw [World.size_alloc]; omega⟩
      have x0 : (w.alloc (.cells #[.slice B ys.length d] 23)).cell? ⟨w.heap.size, 0, none⟩ = some (.slice B ys.length d) := by simp [go_sem]
      have hzz := HSZ.out
      generalize w.alloc (.cells #[.slice B ys.length d] 23) = wa at HBW HSZ x0 hzz ⊢
      refine (May_any _ xs _ ((h1.out.below HBW.out).up (by omega))).mono ?_
      rintro e w1 ⟨rfl, hb1⟩
      obtain ⟨r1, d1, rfl⟩ := xw_of hb1
      clear hb1
      rewrite [M1.out]
      go_wp2_with fail
      go_at_call 11
      refine (May_any _ ys _ ((h2.out.below (below_xw HBW.out HBW.out.size r1 d1)).up (by rw [xw_size]; omega))).mono ?_
      rintro e w1 ⟨rfl, hb1⟩
      obtain ⟨r2, d2, rfl⟩ := xw_of hb1
      clear hb1
      rewrite [M2.out]
      go_wp2_with fail
      go_cut [6] (fun sz wx => sz = .int .i64 z ∧ ∃ r d, wx = xw wa r d)
      case first =>
        have KX : Kept (∀ r d', HasR ((xw wa r d').alloc (.cells #[.int .i64 (-1)] 3)) (xw wa r d').heap.size (.slice A (xs.take n).length c) (xs.take n) ∧ HasR ((xw wa r d').alloc (.cells #[.int .i64 (-1)] 3)) (xw wa r d').heap.size (.slice B ys.length d) ys ∧ Ctr ((xw wa r d').alloc (.cells #[.int .i64 (-1)] 3)) (xw wa r d').heap.size (-1) ∧ w.heap.size < (xw wa r d').heap.size ∧ ((xw wa r d').alloc (.cells #[.int .i64 (-1)] 3)).cell? ⟨w.heap.size, 0, none⟩ = some (.slice B ys.length d)) := ⟨fun r d' => by
          have hb := (below_xw HBW.out HBW.out.size r d').alloc (by rw [xw_size]; omega) (.cells #[.int .i64 (-1)] 3)
          refine ⟨?_, (h2.out.below hb).up (by rw [xw_size]; omega), heap_alloc_new _ _, by rw [xw_size]; omega, ?_⟩
          · have := ((h1.out.below hb).take n HNL.out.1).up (show w.heap.size ≤ (xw wa r d').heap.size by rw [xw_size]; omega)
            rw [HTL.out]
            exact this
          · rw [World.cell?_alloc_lt _ _ _ (by rw [xw_size]; simp only; omega), xw_cell _ _ _ _ _ hzz]
            exact x0⟩
        have KI : Kept (∀ r d', Calls Try.prog 30 #[.slice A n c, .func (Fn.func 32) #[] #[.pointer (some ⟨(xw wa r d').heap.size, 0, none⟩), .pointer (some ⟨w.heap.size, 0, none⟩)]] ((xw wa r d').alloc (.cells #[.int .i64 (-1)] 3)) (fun e w' => e = .returned (.int .i64 z) ∧ ∃ r2 d2, w' = xw wa r2 d2)) := ⟨fun r d' => by
          obtain ⟨k1, k2, k3, k4, k5⟩ := KX.out r d'
          have h := idxcmp_any A c (xs.take n) B d ys (xw wa r d').heap.size w.heap.size _ (by rw [HTL.out]; have := HNL.out; have := HL12.out; omega) (by rw [HTL.out]; exact HNL.out.2) k1 k2 k3 k4 k5
          rw [HTL.out, HZ.out] at h
          refine h.mono ?_
          rintro e w' ⟨rfl, hb⟩
          exact ⟨rfl, xw_of (hb.below ((below_xw (Below.refl _ _) (Nat.le_refl _) r d').alloc (by rw [xw_size]; omega) _) (by rw [xw_size]; omega) (by rw [World.size_alloc, xw_size]; omega))⟩⟩
        clear KX
        go_region_with (first
          | (go_at_call 31; refine (mkf_any _ _).mono ?_; rintro e w3 ⟨rfl, rfl⟩)
          | (go_at_call 30; refine (KI.out _ _).mono ?_; rintro e w5 ⟨rfl, r5, d5, rfl⟩))
        all_goals go_wp2_with fail
        all_goals
          go_meet
          exact ⟨rfl, _, _, rfl⟩
      case rest =>
        obtain ⟨rfl, r, d', rfl⟩ := hcut
        have hbx := Kept.mk (below_xw HBW.out HBW.out.size r d')
        rcases HSPK.out with ⟨hz1, hz2⟩ | ⟨m, ha, hb, hz1, hnq, hz2⟩
        · subst hz1
          have HV : Kept (cmpR xs ys = Lib.compareInt xs.length ys.length) := ⟨hv.out.trans hz2⟩
          clear hz2 HSPK HZ
          go_wp2_with (first
            | (go_at_call 33; refine (Try.cmp_Compare_int _ _ _).mono ?_; rintro e w5 ⟨rfl, rfl⟩))
          go_returns
          exact ⟨by rw [HV.out]; rfl, hbx.out⟩
        · rw [Nat.zero_add] at hz1
          subst hz1
          have HV : Kept (cmpR xs ys = cmpV xs[m].va ys[m].va) := ⟨hv.out.trans hz2⟩
          have g1 := (h1.out.below hbx.out).opn
          have g2 := (h2.out.below hbx.out).opn
          have hne1 : xs ≠ [] := by rintro rfl; simp at ha
          have hne2 : ys ≠ [] := by rintro rfl; simp at hb
          obtain ⟨b1, o1, rfl, _, hc1⟩ := g1.2.2 hne1
          obtain ⟨b2, o2, rfl, _, hc2⟩ := g2.2.2 hne2
          obtain ⟨e0, e1, e2⟩ := hc1 m ha
          obtain ⟨f0, f1, f2⟩ := hc2 m hb
          have x0' : (xw wa r d').cell? ⟨w.heap.size, 0, none⟩ = some (.slice (some ⟨b2, o2, none⟩) ys.length d) := by rw [xw_cell _ _ _ _ _ hzz]; exact x0
          have hma : (m : Int) < (xs.length : Int) := by omega
          have hmb : (m : Int) < (ys.length : Int) := by omega
          have hm0 : 0 ≤ (m : Int) := by omega
          generalize xs[m] = x at e0 e1 e2 HV
          generalize ys[m] = y at f0 f1 f2 HV
          obtain ⟨xk, xn, xs'⟩ := x
          obtain ⟨yk, yn, ys'⟩ := y
          simp only at e0 e1 e2 f0 f1 f2
          clear hz2 HSPK HZ hc1 hc2 g1 g2 hne1 hne2 hnq ha hb x0
          go_wp2_with fail
          generalize xw wa r d' = wz at hbx e0 e1 e2 f0 f1 f2 x0' ⊢
          go_region_with (first
            | (go_at_call 34; refine (comp_any xk xn yk yn xs' ys' _).mono ?_; rintro e w5 ⟨rfl, hb5⟩; obtain ⟨r5, d5, rfl⟩ := xw_of hb5; clear hb5))
          all_goals go_wp2_with fail
          all_goals go_returns
          all_goals exact ⟨by rw [HV.out]; rfl, below_xw hbx.out hbx.out.size _ _⟩
/-! ### the reference -/
def RcR (xs ys : List Vr) (w : World) (v5 : Value) (wr : World) : Prop := ∃ (i : Nat) (r : Array Obj) (d : Nat), v5 = .int .i64 (i : Int) ∧ wr = xw w r d ∧ Kept (i ≤ xs.length ∧ i ≤ ys.length ∧ cmpL xs ys = cmpL (xs.drop i) (ys.drop i))
theorem cmpL_step {xs ys : List Vr} {i : Nat} (hi : i < xs.length) (hj : i < ys.length) : cmpL (xs.drop i) (ys.drop i) = if xs[i].eqb ys[i] = true then cmpL (xs.drop (i + 1)) (ys.drop (i + 1)) else cmpV xs[i].va ys[i].va := by
  rw [List.drop_eq_getElem_cons hi, List.drop_eq_getElem_cons hj]
  rfl
theorem cmpL_end {xs ys : List Vr} {i : Nat} (hi : i ≤ xs.length) (hj : i ≤ ys.length) (h : i = xs.length ∨ i = ys.length) : cmpL (xs.drop i) (ys.drop i) = Lib.compareInt xs.length ys.length := by
  have e1 : (xs.drop i).length = xs.length - i := List.length_drop
  have e2 : (ys.drop i).length = ys.length - i := List.length_drop
  generalize xs.drop i = a at e1
  generalize ys.drop i = b at e2
  cases a with
  | nil =>
    cases b with
    | nil =>
      simp only [List.length_nil] at e1 e2
      simp only [cmpL, Lib.compareInt]
      rw [if_neg (by omega), if_neg (by omega)]
    | cons y b =>
      simp only [List.length_nil, List.length_cons] at e1 e2
      simp only [cmpL, Lib.compareInt]
      rw [if_pos (by omega)]
  | cons x a =>
    cases b with
    | nil =>
      simp only [List.length_nil, List.length_cons] at e1 e2
      simp only [cmpL, Lib.compareInt]
      rw [if_neg (by omega), if_pos (by omega)]
    | cons y b =>
      simp only [List.length_cons] at e1 e2
      omega
set_option maxRecDepth 100000 in
set_option maxHeartbeats 4000000 in
theorem rCompare_any (v u : Value) (xs ys : List Vr) (w : World) (H1 : HasR w w.heap.size v xs) (H2 : HasR w w.heap.size u ys) (hN1 : xs.length ≤ 140737488355328) (hN2 : ys.length ≤ 140737488355328) :
    Calls Try.prog 10 #[v, u] w (fun e w' => e = .returned (.int .i64 (cmpR xs ys)) ∧ Below w.heap.size w w') := by
  have h1 := Kept.mk H1
  have h2 := Kept.mk H2
  have HN1 := Kept.mk hN1
  have HN2 := Kept.mk hN2
  clear hN1 hN2
  obtain ⟨A, c, rfl, _, hA⟩ := H1
  obtain ⟨B, d, rfl, _, hB⟩ := H2
  have HA := Kept.mk hA
  have HB := Kept.mk hB
  clear hA hB
  cases m1 : mayR xs with
  | false =>
    have hv : Kept (cmpR xs ys = 0) := ⟨by simp [cmpR, m1]⟩
    have M1 := Kept.mk m1
    clear m1
    go_enter Try.func10, Try.ntmps10
    go_wp2_with fail
    go_at_call 12
    refine (rMay_any _ xs _ h1.out HN1.out).mono ?_
    rintro e w1 ⟨rfl, hb1⟩
    obtain ⟨r1, d1, rfl⟩ := xw_of hb1
    clear hb1
    rewrite [M1.out]
    go_wp2_with fail
    go_returns
    exact ⟨by rw [hv.out]; rfl, xw_below _ _ _⟩
  | true =>
    have M1 := Kept.mk m1
    cases m2 : mayR ys with
    | false =>
      have hv : Kept (cmpR xs ys = 0) := ⟨by simp [cmpR, m2]⟩
      have M2 := Kept.mk m2
      clear m1 m2
      go_enter Try.func10, Try.ntmps10
      go_wp2_with fail
      go_at_call 12
      refine (rMay_any _ xs _ h1.out HN1.out).mono ?_
      rintro e w1 ⟨rfl, hb1⟩
      obtain ⟨r1, d1, rfl⟩ := xw_of hb1
      clear hb1
      rewrite [M1.out]
      go_wp2_with fail
      go_at_call 12
      refine (rMay_any _ ys _ ((h2.out.below (xw_below _ r1 d1)).up (by rw [xw_size]; omega)) HN2.out).mono ?_
      rintro e w1 ⟨rfl, hb1⟩
      obtain ⟨r2, d2, rfl⟩ := xw_of hb1
      clear hb1
      rewrite [M2.out]
      go_wp2_with fail
      go_returns
      exact ⟨by rw [hv.out]; rfl, xw_below _ _ _⟩
    | true =>
      have M2 := Kept.mk m2
      have hv : Kept (cmpR xs ys = cmpL xs ys) := ⟨by simp [cmpR, m1, m2]⟩
      have HM1 := Kept.mk (mayR_iff.1 m1)
      have HM2 := Kept.mk (mayR_iff.1 m2)
      clear m1 m2
      go_enter Try.func10, Try.ntmps10
      go_wp2_with fail
      go_at_call 12
      refine (rMay_any _ xs _ h1.out HN1.out).mono ?_
      rintro e w1 ⟨rfl, hb1⟩
      obtain ⟨r1, d1, rfl⟩ := xw_of hb1
      clear hb1
      rewrite [M1.out]
      go_wp2_with fail
      go_at_call 12
      refine (rMay_any _ ys _ ((h2.out.below (xw_below _ r1 d1)).up (by rw [xw_size]; omega)) HN2.out).mono ?_
      rintro e w1 ⟨rfl, hb1⟩
      obtain ⟨r2, d2, rfl⟩ := xw_of hb1
      clear hb1
      rewrite [M2.out]
      go_wp2_with fail
      go_loopw [5] (fun v5 wr => RcR xs ys w v5 wr) (fun v5 wr => xs.length - (intOf v5).toNat)
      case atStart => exact ⟨0, _, _, rfl, rfl, ⟨Nat.zero_le _, Nat.zero_le _, rfl⟩⟩
      case round =>
        obtain ⟨i, r, d', rfl, rfl, HI⟩ := hrel
        have f00 : 0 ≤ (i : Int) := by omega
        by_cases ci : i < xs.length
        · have ci' : (i : Int) < (xs.length : Int) := by omega
          by_cases cj : i < ys.length
          · have cj' : (i : Int) < (ys.length : Int) := by omega
            have hne1 : xs ≠ [] := by rintro rfl; simp at ci
            have hne2 : ys ≠ [] := by rintro rfl; simp at cj
            obtain ⟨b1, o1, rfl, hb1, hc1⟩ := HA.out hne1
            obtain ⟨b2, o2, rfl, hb2, hc2⟩ := HB.out hne2
            obtain ⟨e0, e1, e2⟩ := hc1 i ci
            obtain ⟨f0, f1, f2⟩ := hc2 i cj
            have hst := HI.out.2.2.trans (cmpL_step ci cj)
            have HST := Kept.mk hst
            have HC0 := Kept.mk (cmpV_0 (HM1.out.2 _ (List.getElem_mem ci)) (HM2.out.2 _ (List.getElem_mem cj)))
            have hw : wrap64 ((i : Int) + 1) = (i : Int) + 1 := by have := HM1.out.1; simp only [wrap64]; omega
            have HCI := Kept.mk (And.intro ci cj)
            generalize xs[i] = x at e0 e1 e2 HST HC0
            generalize ys[i] = y at f0 f1 f2 HST HC0
            obtain ⟨xk, xn, xs'⟩ := x
            obtain ⟨yk, yn, ys'⟩ := y
            simp only [Vr.va] at e0 e1 e2 f0 f1 f2 HC0 HST
            clear hc1 hc2 hne1 hne2 hst ci cj
            go_wp2_with fail
            go_cut [6] (fun sz wx => sz = .int .i64 (cmpV ⟨xk, xn, tx xs'⟩ ⟨yk, yn, tx ys'⟩) ∧ ∃ r d, wx = xw w r d)
            case first =>
              go_region_with (first
                | (go_at_call 35; refine (rcomp_any xk xn yk yn xs' ys' _).mono ?_; rintro e w5 ⟨rfl, hb5⟩; obtain ⟨r5, d5, rfl⟩ := xw_of hb5; clear hb5))
              all_goals go_wp2_with fail
              all_goals
                go_meet
                exact ⟨rfl, _, _, rfl⟩
            case rest =>
              obtain ⟨rfl, r6, d6, rfl⟩ := hcut
              by_cases cz : cmpV ⟨xk, xn, tx xs'⟩ ⟨yk, yn, tx ys'⟩ = 0
              · have he := HC0.out.1 cz
                injection he with q1 q2 q3
                subst q1 q2 q3
                have hst := HST.out
                rw [if_pos (Vr.eqb_refl _)] at hst
                have HST2 := Kept.mk hst
                rewrite [cz]
                clear cz hst HST
                go_wp2_with fail
                refine ⟨⟨i + 1, _, _, by first | rfl | (rw [hw]; rfl), rfl, ⟨HCI.out.1, HCI.out.2, HST2.out⟩⟩, by first | exact less_step hw HCI.out.1 | exact less_bare HCI.out.1⟩
              · have hst := HST.out
                rw [if_neg (fun h => cz (HC0.out.2 (Vr.eqb_iff.1 h)))] at hst
                have HV : Kept (cmpR xs ys = cmpV ⟨xk, xn, tx xs'⟩ ⟨yk, yn, tx ys'⟩) := ⟨hv.out.trans hst⟩
                have cz' : (cmpV ⟨xk, xn, tx xs'⟩ ⟨yk, yn, tx ys'⟩ != 0) = true := by simp [cz]
                clear cz hst HST HC0
                generalize cmpV ⟨xk, xn, tx xs'⟩ ⟨yk, yn, tx ys'⟩ = zz at HV cz' ⊢
                go_wp2_with fail
                go_returns
                exact ⟨by rw [HV.out]; rfl, xw_below _ _ _⟩
          · have HV : Kept (cmpR xs ys = 1) := ⟨by
              rw [hv.out, HI.out.2.2, cmpL_end HI.out.1 HI.out.2.1 (by have := HI.out; omega)]
              have := HI.out
              simp only [Lib.compareInt]
              rw [if_neg (by omega), if_pos (by omega)]⟩
            have cj' : ¬ ((i : Int) < (ys.length : Int)) := by omega
            have cl1 : ¬ ((xs.length : Int) < (ys.length : Int)) := by have := HI.out; omega
            have cl2 : (ys.length : Int) < (xs.length : Int) := by have := HI.out; omega
            clear ci cj
            go_wp2_with fail
            go_returns
            exact ⟨by rw [HV.out]; rfl, xw_below _ _ _⟩
        · have ci' : ¬ ((i : Int) < (xs.length : Int)) := by omega
          have he := HI.out.2.2.trans (cmpL_end HI.out.1 HI.out.2.1 (by have := HI.out; omega))
          have HV0 := Kept.mk (hv.out.trans he)
          have hxy : xs.length ≤ ys.length := by have := HI.out; omega
          clear he
          by_cases cl : xs.length < ys.length
          · have HV : Kept (cmpR xs ys = -1) := ⟨by rw [HV0.out]; simp only [Lib.compareInt]; rw [if_pos (by omega)]⟩
            have cl1 : (xs.length : Int) < (ys.length : Int) := by omega
            clear ci cl hxy
            go_wp2_with fail
            go_returns
            exact ⟨by rw [HV.out]; rfl, xw_below _ _ _⟩
          · have HV : Kept (cmpR xs ys = 0) := ⟨by rw [HV0.out]; simp only [Lib.compareInt]; rw [if_neg (by omega), if_neg (by omega)]⟩
            have cl1 : ¬ ((xs.length : Int) < (ys.length : Int)) := by omega
            have cl2 : ¬ ((ys.length : Int) < (xs.length : Int)) := by omega
            clear ci cl hxy
            go_wp2_with fail
            go_returns
            exact ⟨by rw [HV.out]; rfl, xw_below _ _ _⟩
end Go.Proofs.Ytbncnlendichjaa
