/- Layer 6 (row): which are rows, walked; the program's and the reference's. -/
import Derived.Test.YtnidaahimofppaaGreatQpab
import Derived.Deep.RegionWith
namespace Go.Proofs.YtnidaahimofppaaGreat
open Go.RowKit
set_option linter.unusedVariables false
set_option linter.unusedSimpArgs false

/-- The first place at which p holds, or -1. -/
def idxF (p : Vr → Bool) : List Vr → Nat → Int
  | [], _ => -1
  | x :: r, i => if p x = true then (i : Int) else idxF p r (i + 1)
set_option maxRecDepth 100000 in
set_option maxHeartbeats 1000000 in
theorem mayf_any (k n : Int) (s : ByteArray) (w : World) :
    Calls Tryz.prog 48 #[va k n s] w (fun e w' => e = .returned (.bool (!mayV ⟨k, n, tx s⟩)) ∧ Below w.heap.size w w') := by
  go_enter Tryz.func48, Tryz.ntmps48
  go_wp2_with (first | (go_at_call 49; refine (may_any k n s _).mono ?_; rintro e w1 ⟨rfl, hb1⟩; obtain ⟨r1, d1, rfl⟩ := xw_of hb1; clear hb1))
  go_returns
  exact ⟨rfl, below_xw ((Below.refl _ _).alloc (Nat.le_refl _) _) (by simp) _ _⟩
def IxI (p : Vr → Bool) (xs : List Vr) (w : World) (v8 : Value) (wr : World) : Prop := ∃ (i : Nat) (r : Array Obj) (d : Nat), v8 = .int .i64 (i : Int) ∧ wr = xw w r d ∧ Kept (i ≤ xs.length ∧ idxF p xs 0 = idxF p (xs.drop i) i)
theorem idx_step {p : Vr → Bool} {xs : List Vr} {i : Nat} (hi : i < xs.length) : idxF p (xs.drop i) i = if p xs[i] = true then (i : Int) else idxF p (xs.drop (i + 1)) (i + 1) := by
  rw [List.drop_eq_getElem_cons hi]
  rfl
theorem idx_end {p : Vr → Bool} {xs : List Vr} {i : Nat} (hi : xs.length ≤ i) : idxF p (xs.drop i) i = -1 := by
  rw [List.drop_of_length_le hi]
  rfl
set_option maxRecDepth 100000 in
set_option maxHeartbeats 2000000 in
theorem idxmay_any (A : Option Addr) (c : Nat) (xs : List Vr) (h8 : xs.length ≤ 8) (w : World) (H : HasR w w.heap.size (.slice A xs.length c) xs) :
    Calls Tryz.prog 60 #[.slice A xs.length c, .func (Fn.func 48) #[] #[]] w (fun e w' => e = .returned (.int .i64 (idxF (fun x => !mayV x.va) xs 0)) ∧ Below w.heap.size w w') := by
  obtain ⟨_, hlc, hA⟩ := H.opn
  have HA := Kept.mk hA
  have H8 := Kept.mk h8
  clear hA h8
  go_enter Tryz.func60, Tryz.ntmps60
  go_wp2_with fail
  go_loopw [8] (fun v8 wr => IxI (fun x => !mayV x.va) xs w v8 wr) (fun v8 wr => xs.length - (intOf v8).toNat)
  case atStart => exact ⟨0, _, _, rfl, self_xw w, ⟨Nat.zero_le _, rfl⟩⟩
  case round =>
    obtain ⟨i, r, d, rfl, rfl, HI⟩ := hrel
    by_cases ci : i < xs.length
    · have hne : xs ≠ [] := by rintro rfl; simp at ci
      obtain ⟨b1, o1, rfl, hb1, hc1⟩ := HA.out hne
      obtain ⟨e0, e1, e2⟩ := hc1 i ci
      have hst := HI.out.2.trans (idx_step ci)
      have HST := Kept.mk hst
      clear hst
      have ci' : (i : Int) < (xs.length : Int) := by omega
      have f0 : 0 ≤ (i : Int) := by omega
      have hw : wrap64 ((i : Int) + 1) = (i : Int) + 1 := by have := H8.out; simp only [wrap64]; omega
      have HCI := Kept.mk ci
      generalize xs[i] = x at e0 e1 e2 HST
      obtain ⟨xk, xn, xs'⟩ := x
      simp only at e0 e1 e2 HST
      clear hc1 hne
      cases hm : mayV ⟨xk, xn, tx xs'⟩ with
      | true =>
        have HM := Kept.mk hm
        clear hm
        go_wp2_with (first | (go_at_call 48; refine (mayf_any xk xn xs' _).mono ?_; rintro e w1 ⟨rfl, hb1⟩; obtain ⟨r1, d1, rfl⟩ := xw_of hb1; clear hb1; rewrite [HM.out]))
        refine ⟨⟨i + 1, _, _, by rw [hw]; rfl, rfl, ⟨HCI.out, ?_⟩⟩, less_step hw HCI.out⟩
        rw [HST.out, if_neg (by simp [Vr.va, HM.out])]
      | false =>
        have HM := Kept.mk hm
        clear hm
        go_wp2_with (first | (go_at_call 48; refine (mayf_any xk xn xs' _).mono ?_; rintro e w1 ⟨rfl, hb1⟩; obtain ⟨r1, d1, rfl⟩ := xw_of hb1; clear hb1; rewrite [HM.out]))
        have HV := HST.out
        rw [if_pos (by simp [Vr.va, HM.out])] at HV
        go_returns
        exact ⟨by rw [HV]; rfl, xw_below _ _ _⟩
    · have hst := HI.out.2.trans (idx_end (by omega))
      have ci' : ¬ ((i : Int) < (xs.length : Int)) := by omega
      have HST := Kept.mk hst
      clear ci hst
      go_wp2_with fail
      go_returns
      exact ⟨by rw [HST.out]; rfl, xw_below _ _ _⟩
theorem idx_pos (p : Vr → Bool) (xs : List Vr) (i : Nat) : decide (0 ≤ idxF p xs i) = xs.any p := by
  induction xs generalizing i with
  | nil => simp [idxF]
  | cons x r ih =>
    have e : idxF p (x :: r) i = if p x = true then (i : Int) else idxF p r (i + 1) := rfl
    by_cases h : p x = true
    · rw [if_pos h] at e
      simp [e, h]
    · rw [if_neg h] at e
      have h' : p x = false := by simpa using h
      simp only [e, ih, h', List.any_cons, Bool.false_or]
theorem any_not (xs : List Vr) : xs.any (fun x => !mayV x.va) = !allM xs := by
  induction xs with
  | nil => rfl
  | cons x r ih => simp only [List.any_cons, ih, allM, List.all_cons]; cases mayV x.va <;> simp
set_option maxRecDepth 100000 in
set_option maxHeartbeats 1000000 in
theorem contmay_any (A : Option Addr) (c : Nat) (xs : List Vr) (h8 : xs.length ≤ 8) (w : World) (H : HasR w w.heap.size (.slice A xs.length c) xs) :
    Calls Tryz.prog 47 #[.slice A xs.length c, .func (Fn.func 48) #[] #[]] w (fun e w' => e = .returned (.bool (!allM xs)) ∧ Below w.heap.size w w') := by
  have HH := Kept.mk H
  have HV : Kept (decide (0 ≤ idxF (fun x => !mayV x.va) xs 0) = !allM xs) := ⟨by rw [idx_pos, any_not]⟩
  clear H
  go_enter Tryz.func47, Tryz.ntmps47
  go_wp2_with (first | (go_at_call 60; refine (idxmay_any A c xs h8 _ HH.out).mono ?_; rintro e w1 ⟨rfl, hb1⟩))
  go_returns
  refine ⟨?_, hb1⟩
  rw [← HV.out]
  rfl
set_option maxRecDepth 100000 in
set_option maxHeartbeats 1000000 in
theorem May_any (v : Value) (xs : List Vr) (w : World) (H : HasR w w.heap.size v xs) :
    Calls Tryz.prog 31 #[v] w (fun e w' => e = .returned (.bool (mayR xs)) ∧ Below w.heap.size w w') := by
  obtain ⟨A, c, rfl, hlc, hA⟩ := H
  by_cases c8 : 8 < xs.length
  · have c8' : 8 < (xs.length : Int) := by omega
    have hv : Kept (mayR xs = false) := ⟨by simp [mayR]; omega⟩
    clear c8 hA
    go_enter Tryz.func31, Tryz.ntmps31
    go_wp2_with fail
    go_returns
    exact ⟨by rw [hv.out]; rfl, Below.refl _ _⟩
  · have c8' : ¬ (8 < (xs.length : Int)) := by omega
    have HA := Kept.mk hA
    clear c8 hA
    go_enter Tryz.func31, Tryz.ntmps31
    have H8 : Kept (xs.length ≤ 8) := ⟨by omega⟩
    have HV : Kept (mayR xs = allM xs) := ⟨by simp [mayR, H8.out]⟩
    go_wp2_with (first | (go_at_call 47; refine (contmay_any A c xs H8.out _ ⟨A, c, rfl, hlc, HA.out⟩).mono ?_; rintro e w1 ⟨rfl, hb1⟩))
    go_returns
    exact ⟨by rw [HV.out]; rfl, hb1⟩
def RmI (xs : List Vr) (w : World) (v3 : Value) (wr : World) : Prop := ∃ (i : Nat) (r : Array Obj) (d : Nat), v3 = .int .i64 (i : Int) ∧ wr = xw w r d ∧ Kept (i ≤ xs.length ∧ i ≤ 9 ∧ allM (xs.take i) = true)
theorem allM_take {xs : List Vr} {i : Nat} (hi : i < xs.length) : allM (xs.take (i + 1)) = (allM (xs.take i) && mayV (xs[i]).va) := by
  unfold allM
  rw [List.take_succ_eq_append_getElem hi, List.all_append]
  simp
set_option maxRecDepth 100000 in
set_option maxHeartbeats 2000000 in
theorem rMay_any (v : Value) (xs : List Vr) (w : World) (H : HasR w w.heap.size v xs) :
    Calls Tryz.prog 35 #[v] w (fun e w' => e = .returned (.bool (mayR xs)) ∧ Below w.heap.size w w') := by
  obtain ⟨A, c, rfl, hlc, hA⟩ := H
  have HA := Kept.mk hA
  clear hA
  go_enter Tryz.func35, Tryz.ntmps35
  go_wp2_with fail
  go_loopw [3] (fun v3 wr => RmI xs w v3 wr) (fun v3 wr => xs.length - (intOf v3).toNat)
  case atStart => exact ⟨0, _, _, rfl, self_xw w, ⟨Nat.zero_le _, by omega, by simp [allM]⟩⟩
  case round =>
    obtain ⟨i, r, d, rfl, rfl, HI⟩ := hrel
    by_cases ci : i < xs.length
    · have ci' : (i : Int) < (xs.length : Int) := by omega
      have HCI := Kept.mk ci
      have f0 : 0 ≤ (i : Int) := by omega
      by_cases c9 : i < 9
      · have c9' : (i : Int) < 9 := by omega
        have hne : xs ≠ [] := by rintro rfl; simp at ci
        obtain ⟨b1, o1, rfl, hb1, hc1⟩ := HA.out hne
        obtain ⟨e0, e1, e2⟩ := hc1 i ci
        have HT := Kept.mk (allM_take ci)
        have hmem : xs[i] ∈ xs := List.getElem_mem ci
        have HNM : Kept (mayV (xs[i]).va = false → mayR xs = false) := ⟨fun h => by
          cases hmr : mayR xs with
          | false => rfl
          | true => rw [(mayR_iff.1 hmr).2 _ hmem] at h; cases h⟩
        have hw : wrap64 ((i : Int) + 1) = (i : Int) + 1 := by simp only [wrap64]; omega
        have HC9 := Kept.mk c9
        generalize xs[i] = x at e0 e1 e2 HT HNM
        obtain ⟨xk, xn, xs'⟩ := x
        simp only at e0 e1 e2
        clear hc1 hne hmem c9 ci
        cases hm : mayV ⟨xk, xn, tx xs'⟩ with
        | true =>
          have HM := Kept.mk hm
          clear hm
          go_wp2_with (first | (go_at_call 51; refine (rmay_any xk xn xs' _).mono ?_; rintro e w1 ⟨rfl, hb1⟩; obtain ⟨r1, d1, rfl⟩ := xw_of hb1; clear hb1; rewrite [HM.out]))
          refine ⟨⟨i + 1, _, _, rfl, rfl, ⟨HCI.out, HC9.out, ?_⟩⟩, by have := HCI.out; simp [intOf]; omega⟩
          rw [HT.out, HI.out.2.2]
          simp [Vr.va, HM.out]
        | false =>
          have HV := Kept.mk (HNM.out hm)
          have HM := Kept.mk hm
          clear hm
          go_wp2_with (first | (go_at_call 51; refine (rmay_any xk xn xs' _).mono ?_; rintro e w1 ⟨rfl, hb1⟩; obtain ⟨r1, d1, rfl⟩ := xw_of hb1; clear hb1; rewrite [HM.out]))
          go_returns
          exact ⟨by rw [HV.out]; rfl, xw_below _ _ _⟩
      · have c9' : ¬ ((i : Int) < 9) := by omega
        have hv : Kept (mayR xs = false) := ⟨by simp [mayR]; omega⟩
        have c8 : ¬ ((xs.length : Int) ≤ 8) := by omega
        clear c9 ci
        go_wp2_with fail
        go_returns
        exact ⟨by rw [hv.out]; rfl, xw_below _ _ _⟩
    · have ci' : ¬ ((i : Int) < (xs.length : Int)) := by omega
      have hv : Kept (mayR xs = decide ((xs.length : Int) ≤ 8)) := ⟨by
        have h := HI.out
        have e : i = xs.length := by omega
        have h3 := h.2.2
        rw [e, List.take_length] at h3
        unfold mayR
        rw [h3, Bool.and_true]
        exact decide_eq_decide.2 (by omega)⟩
      clear ci
      go_wp2_with fail
      go_returns
      exact ⟨by rw [hv.out]; rfl, xw_below _ _ _⟩
end Go.Proofs.YtnidaahimofppaaGreat
