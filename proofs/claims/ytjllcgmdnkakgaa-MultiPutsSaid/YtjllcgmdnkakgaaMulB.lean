/- Layer 24 (multi): where a thing stands: the comparison, the search, walked. -/
import Derived.Test.YtjllcgmdnkakgaaMulD
import Derived.Deep.RegionWith
namespace Go.Proofs.Ytjllcgmdnkakgaa
open Go.RowKit
set_option linter.unusedVariables false
set_option linter.unusedSimpArgs false

def cmpI (a b : Int) : Int := if a < b then -1 else if b < a then 1 else 0
theorem cmpI_lt {a b : Int} : cmpI a b < 0 ↔ a < b := by unfold cmpI; split <;> (try split) <;> omega
theorem cmpI_eq {a b : Int} : cmpI a b = 0 ↔ a = b := by unfold cmpI; split <;> (try split) <;> omega
theorem compare_any (a b : Int) (w : World) : Calls Try.prog 8 #[.int .i64 a, .int .i64 b] w (fun e w' => e = .returned (.int .i64 (cmpI a b)) ∧ w = w') := by
  by_cases c1 : a < b
  · have hv : Kept (cmpI a b = -1) := ⟨if_pos c1⟩
    go_enter Try.func8, Try.ntmps8
    go_wp2_with fail
    go_returns
    exact ⟨by rw [hv.out]; rfl, rfl⟩
  · by_cases c2 : b < a
    · have hv : Kept (cmpI a b = 1) := ⟨by unfold cmpI; rw [if_neg c1, if_pos c2]⟩
      go_enter Try.func8, Try.ntmps8
      go_wp2_with fail
      go_returns
      exact ⟨by rw [hv.out]; rfl, rfl⟩
    · have hv : Kept (cmpI a b = 0) := ⟨by unfold cmpI; rw [if_neg c1, if_neg c2]⟩
      go_enter Try.func8, Try.ntmps8
      go_wp2_with fail
      go_returns
      exact ⟨by rw [hv.out]; rfl, rfl⟩
abbrev fnCmp : Value := .func (.func 8) #[] #[]
theorem plc1_any (w : World) (bx g : Nat) (k n t : Int) (h0 : w.cell? ⟨bx, 0, none⟩ = some (.pointer (some ⟨g, 0, none⟩))) (h1 : w.cell? ⟨g, 1, none⟩ = some fnCmp) (hb : bx < w.heap.size) (hg : g < w.heap.size) :
    Calls Try.prog 25 #[.agg #[.int .i64 k, .int .i64 n], .int .i64 t, .pointer (some ⟨bx, 0, none⟩)] w (fun e w' => e = .returned (.int .i64 (cmpI k t)) ∧ Below w.heap.size w w') := by
  go_enter Try.func25, Try.ntmps25
  go_wp2_with fail
  go_region_with (first | (go_at_call 8; refine (compare_any _ _ _).mono ?_; rintro e w1 ⟨rfl, rfl⟩))
  all_goals go_wp2_with fail
  all_goals go_returns
  all_goals
    refine ⟨rfl, ?_⟩
    repeat' (first | (with_reducible exact Below.refl _ _) | (with_reducible assumption) | (with_reducible refine below_xw ?_ ?_ _ _) | (with_reducible refine below_drewN ?_ _) | (with_reducible refine Below.drew ?_) | (with_reducible refine Below.setCell ?_ ?_ _) | (with_reducible refine Below.alloc ?_ ?_ _) | (simp [xw_size]; done) | (simp [xw_size]; omega) | (dsimp only; omega))
theorem posE_of (es : List En) (t : Int) (i : Nat) (hi : i ≤ es.length) (h1 : ∀ j, (hj : j < i) → (es[j]'(by omega)).k < t) (h2 : ∀ j, i ≤ j → (hj : j < es.length) → t ≤ es[j].k) : posE es t = i := by
  have hA : ∀ e ∈ es.take i, e.k < t := by
    intro e he
    obtain ⟨j, hj, rfl⟩ := List.getElem_of_mem he
    rw [List.length_take] at hj
    rw [List.getElem_take]
    exact h1 j (by omega)
  have hC : ∀ e ∈ es.drop i, t ≤ e.k := by
    intro e he
    obtain ⟨j, hj, rfl⟩ := List.getElem_of_mem he
    rw [List.length_drop] at hj
    rw [List.getElem_drop]
    exact h2 (i + j) (by omega) (by omega)
  have h := posE_split (es.take i) (es.drop i) t hA hC
  rw [List.take_append_drop, List.length_take, Nat.min_eq_left hi] at h
  exact h
def BsI (es : List En) (t : Int) (w : World) (v9 v10 : Value) (wr : World) : Prop := ∃ (lo hi : Nat) (r : Array Obj) (d : Nat), v9 = .int .i64 (lo : Int) ∧ v10 = .int .i64 (hi : Int) ∧ wr = xw w r d ∧ Kept (lo ≤ hi ∧ hi ≤ es.length ∧ (∀ j, (hj : j < es.length) → j < lo → es[j].k < t) ∧ (∀ j, (hj : j < es.length) → hi ≤ j → t ≤ es[j].k))
theorem inc_mono {es : List En} (h : es.Pairwise fun a b => a.k < b.k) {i j : Nat} (hij : i ≤ j) (hj : j < es.length) : (es[i]'(by omega)).k ≤ es[j].k := by
  rcases Nat.lt_or_ge i j with h1 | h1
  · have := List.pairwise_iff_getElem.1 h i j (by omega) hj h1
    omega
  · have : i = j := by omega
    subst this
    exact Int.le_refl _
set_option maxRecDepth 100000 in
set_option maxHeartbeats 2000000 in
theorem bsf_any (v : Value) (es : List En) (t : Int) (w : World) (bx g : Nat) (H : HasE w w.heap.size v es) (hin : es.Pairwise fun a b => a.k < b.k) (hl : es.length ≤ 2000000)
    (h0 : w.cell? ⟨bx, 0, none⟩ = some (.pointer (some ⟨g, 0, none⟩))) (h1 : w.cell? ⟨g, 1, none⟩ = some fnCmp) (hb : bx < w.heap.size) (hg : g < w.heap.size) :
    Calls Try.prog 24 #[v, .int .i64 t, .func (.func 25) #[] #[.pointer (some ⟨bx, 0, none⟩)]] w (fun e w' =>
      e = .returned (.tuple #[.int .i64 (posE es t : Nat), .bool (isE es t)]) ∧ Below w.heap.size w w') := by
  obtain ⟨A, c, rfl, _, hA⟩ := H
  have HA := Kept.mk hA
  have HIN := Kept.mk hin
  have HL := Kept.mk hl
  have KC : Kept (∀ (k n : Int) r d, Calls Try.prog 25 #[.agg #[.int .i64 k, .int .i64 n], .int .i64 t, .pointer (some ⟨bx, 0, none⟩)] (xw w r d) (fun e w' => e = .returned (.int .i64 (cmpI k t)) ∧ Below (xw w r d).heap.size (xw w r d) w')) := ⟨fun k n r d => plc1_any (xw w r d) bx g k n t (by rw [xw_cell _ _ _ _ _ hb]; exact h0) (by rw [xw_cell _ _ _ _ _ hg]; exact h1) (by rw [xw_size]; omega) (by rw [xw_size]; omega)⟩
  clear hA hin hl h0 h1 hb hg
  go_enter Try.func24, Try.ntmps24
  go_wp2_with fail
  go_loopw [9, 10] (fun v9 v10 wr => BsI es t w v9 v10 wr) (fun v9 v10 wr => (intOf v10).toNat - (intOf v9).toNat)
  case atStart => exact ⟨0, es.length, #[], w.drawn, rfl, rfl, self_xw w, ⟨Nat.zero_le _, Nat.le_refl _, fun j hj h => absurd h (Nat.not_lt_zero _), fun j hj h => absurd h (by omega)⟩⟩
  case round =>
    obtain ⟨lo, hi, r, d, rfl, rfl, rfl, HI⟩ := hrel
    by_cases cl : lo < hi
    · have cl' : (lo : Int) < (hi : Int) := by omega
      have hhi := HI.out.2.1
      have hl := HL.out
      obtain ⟨m, hmm⟩ : ∃ m, m = (lo + hi) / 2 := ⟨_, rfl⟩
      have hmid : ((lo : Int) + (hi : Int)) / 2 = (m : Int) := by omega
      have hm1 : lo ≤ m ∧ m < hi := by omega
      have hml : m < es.length := by omega
      have hne : es ≠ [] := by rintro rfl; simp at hml
      obtain ⟨b1, o1, rfl, hb1, hc1⟩ := HA.out hne
      obtain ⟨e0, e1⟩ := hc1 m hml
      have f0 : 0 ≤ (m : Int) := by omega
      have f1 : (m : Int) < (es.length : Int) := by omega
      have hw : wrap64 ((m : Int) + 1) = (m : Int) + 1 := by simp only [wrap64]; omega
      have HM := Kept.mk (And.intro hm1 hml)
      by_cases ck : es[m].k < t
      · have hc : cmpI es[m].k t < 0 := cmpI_lt.2 ck
        have HCK : Kept (∀ j, (hj : j < es.length) → j < m + 1 → es[j].k < t) := ⟨fun j hj h => by
          have := inc_mono HIN.out (i := j) (j := m) (by omega) hml
          omega⟩
        generalize es[m].k = ek at e0 ck hc
        generalize es[m].n = en at e1
        clear ck hc1 hne hmm hm1 hml
        go_wp2_with (first | (go_at_call 25; refine (KC.out _ _ _ _).mono ?_; rintro e w2 ⟨rfl, hb2⟩; obtain ⟨r2, d2, rfl⟩ := xw_of hb2; clear hb2; rewrite [xw_xw]))
        refine ⟨⟨m + 1, hi, _, _, by first | rfl | (rw [hw]; rfl), rfl, rfl, ⟨by have := HM.out; omega, HI.out.2.1, HCK.out, HI.out.2.2.2⟩⟩, ?_⟩
        have := HM.out
        show (intOf (.int .i64 (hi : Int))).toNat - _ < (intOf (.int .i64 (hi : Int))).toNat - (intOf (.int .i64 (lo : Int))).toNat
        simp [intOf]
        omega
      · have hc : ¬ cmpI es[m].k t < 0 := fun h => ck (cmpI_lt.1 h)
        have HCK : Kept (∀ j, (hj : j < es.length) → m ≤ j → t ≤ es[j].k) := ⟨fun j hj h => by
          have := inc_mono HIN.out (i := m) (j := j) h hj
          omega⟩
        generalize es[m].k = ek at e0 ck hc
        generalize es[m].n = en at e1
        clear ck hc1 hne hmm hm1 hml
        go_wp2_with (first | (go_at_call 25; refine (KC.out _ _ _ _).mono ?_; rintro e w2 ⟨rfl, hb2⟩; obtain ⟨r2, d2, rfl⟩ := xw_of hb2; clear hb2; rewrite [xw_xw]))
        refine ⟨⟨lo, m, _, _, rfl, by first | rfl | (rw [hmid]), rfl, ⟨by have := HM.out; omega, by have := HM.out; omega, HI.out.2.2.1, HCK.out⟩⟩, ?_⟩
        have := HM.out
        show _ - _ < (intOf (.int .i64 (hi : Int))).toNat - (intOf (.int .i64 (lo : Int))).toNat
        simp [intOf]
        omega
    · have hlh : lo = hi := by have := HI.out.1; omega
      subst hlh
      have hp : posE es t = lo := posE_of es t lo HI.out.2.1 (fun j hj => HI.out.2.2.1 j (by have := HI.out.2.1; omega) hj) (fun j h1 h2 => HI.out.2.2.2 j h2 h1)
      have HP := Kept.mk hp
      have cl' : ¬ ((lo : Int) < (lo : Int)) := by omega
      clear cl hp
      by_cases ce : lo < es.length
      · have ce' : (lo : Int) < (es.length : Int) := by omega
        have f0 : 0 ≤ (lo : Int) := by omega
        have hne : es ≠ [] := by rintro rfl; simp at ce
        obtain ⟨b1, o1, rfl, hb1, hc1⟩ := HA.out hne
        obtain ⟨e0, e1⟩ := hc1 lo ce
        by_cases ck : es[lo].k = t
        · have hv : Kept (isE es t = true) := ⟨by unfold isE; rw [HP.out, dif_pos ce, ck]; simp⟩
          have hc : cmpI es[lo].k t = 0 := cmpI_eq.2 ck
          have hcb : (cmpI es[lo].k t == 0) = true := by simp [hc]
          generalize es[lo].k = ek at e0 ck hc hcb
          generalize es[lo].n = en at e1
          clear ck hc1 hne ce hc
          go_wp2_with (first | (go_at_call 25; refine (KC.out _ _ _ _).mono ?_; rintro e w2 ⟨rfl, hb2⟩; obtain ⟨r2, d2, rfl⟩ := xw_of hb2; clear hb2; rewrite [xw_xw]))
          go_returns
          exact ⟨by rw [HP.out, hv.out]; rfl, xw_below _ _ _⟩
        · have hv : Kept (isE es t = false) := ⟨by unfold isE; rw [HP.out, dif_pos ce]; simp [ck]⟩
          have hcb : (cmpI es[lo].k t == 0) = false := by simp; exact fun h => ck (cmpI_eq.1 h)
          generalize es[lo].k = ek at e0 ck hcb
          generalize es[lo].n = en at e1
          clear ck hc1 hne ce
          go_wp2_with (first | (go_at_call 25; refine (KC.out _ _ _ _).mono ?_; rintro e w2 ⟨rfl, hb2⟩; obtain ⟨r2, d2, rfl⟩ := xw_of hb2; clear hb2; rewrite [xw_xw]))
          go_returns
          exact ⟨by rw [HP.out, hv.out]; rfl, xw_below _ _ _⟩
      · have ce' : ¬ ((lo : Int) < (es.length : Int)) := by omega
        have hv : Kept (isE es t = false) := ⟨by unfold isE; rw [HP.out, dif_neg ce]⟩
        clear ce
        go_wp2_with fail
        go_returns
        exact ⟨by rw [HP.out, hv.out]; rfl, xw_below _ _ _⟩
end Go.Proofs.Ytjllcgmdnkakgaa
