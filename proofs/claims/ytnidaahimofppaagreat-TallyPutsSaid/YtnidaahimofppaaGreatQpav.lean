/- Layer 26 (tally): where a value stands among entries: the comparison, the search, walked. -/
import Derived.Test.YtnidaahimofppaaGreatQpau
import Derived.Deep.RegionWith
namespace Go.Proofs.YtnidaahimofppaaGreat
open Go.RowKit
set_option linter.unusedVariables false
set_option linter.unusedSimpArgs false

theorem posE_of (es : List En) (t : Vr) (i : Nat) (hi : i ≤ es.length) (h1 : ∀ j, (hj : j < i) → (es[j]'(by omega)).k < vcode t) (h2 : ∀ j, i ≤ j → (hj : j < es.length) → vcode t ≤ es[j].k) : posE es t = i := by
  have hA : ∀ e ∈ es.take i, e.k < vcode t := by
    intro e he
    obtain ⟨j, hj, rfl⟩ := List.getElem_of_mem he
    rw [List.length_take] at hj
    rw [List.getElem_take]
    exact h1 j (by omega)
  have hC : ∀ e ∈ es.drop i, vcode t ≤ e.k := by
    intro e he
    obtain ⟨j, hj, rfl⟩ := List.getElem_of_mem he
    rw [List.length_drop] at hj
    rw [List.getElem_drop]
    exact h2 (i + j) (by omega) (by omega)
  have h := posE_split (es.take i) (es.drop i) t hA hC
  rw [List.take_append_drop, List.length_take, Nat.min_eq_left hi] at h
  exact h
def BsI (es : List En) (t : Vr) (w : World) (v9 v10 : Value) (wr : World) : Prop := ∃ (lo hi : Nat) (r : Array Obj) (d : Nat), v9 = .int .i64 (lo : Int) ∧ v10 = .int .i64 (hi : Int) ∧ wr = xw w r d ∧ Kept (lo ≤ hi ∧ hi ≤ es.length ∧ (∀ j, (hj : j < es.length) → j < lo → es[j].k < vcode t) ∧ (∀ j, (hj : j < es.length) → hi ≤ j → vcode t ≤ es[j].k))
theorem inc_mono {es : List En} (h : es.Pairwise fun a b => a.k < b.k) {i j : Nat} (hij : i ≤ j) (hj : j < es.length) : (es[i]'(by omega)).k ≤ es[j].k := by
  rcases Nat.lt_or_ge i j with h1 | h1
  · have := List.pairwise_iff_getElem.1 h i j (by omega) hj h1
    omega
  · have : i = j := by omega
    subst this
    exact Int.le_refl _
set_option maxRecDepth 100000 in
set_option maxHeartbeats 2000000 in
theorem bsf_any (v : Value) (es : List En) (t : Vr) (w : World) (bx g : Nat) (H : HasE w w.heap.size v es) (hin : es.Pairwise fun a b => a.k < b.k) (hl : es.length ≤ 2000000) (hok : ∀ e ∈ es, okV e.v) (ht : okV t)
    (h0 : w.cell? ⟨bx, 0, none⟩ = some (.pointer (some ⟨g, 0, none⟩))) (h1 : w.cell? ⟨g, 1, none⟩ = some fnCmp) (hb : bx < w.heap.size) (hg : g < w.heap.size) :
    Calls Tryz.prog 108 #[v, va t.k t.n t.s, .func (.func 109) #[] #[.pointer (some ⟨bx, 0, none⟩)]] w (fun e w' =>
      e = .returned (.tuple #[.int .i64 (posE es t : Nat), .bool (isE es t)]) ∧ Below w.heap.size w w') := by
  have hb0 : Below w.heap.size w (w.alloc (.cells #[.int .i64 t.k, .int .i64 t.n, .string t.s] 68)) := (Below.refl _ _).alloc (Nat.le_refl _) _
  obtain ⟨w0, hw0⟩ : ∃ w0, w0 = w.alloc (.cells #[.int .i64 t.k, .int .i64 t.n, .string t.s] 68) := ⟨_, rfl⟩
  have hS : w.heap.size < w0.heap.size := by rw [hw0, World.size_alloc]; omega
  have t0 : w0.cell? ⟨w.heap.size, 0, none⟩ = some (.int .i64 t.k) := by rw [hw0]; simp [go_sem]
  have t1 : w0.cell? ⟨w.heap.size, 1, none⟩ = some (.int .i64 t.n) := by rw [hw0]; simp [go_sem]
  have t2 : w0.cell? ⟨w.heap.size, 2, none⟩ = some (.string t.s) := by rw [hw0]; simp [go_sem]
  rw [← hw0] at hb0
  replace H := H.below hb0
  replace h0 := (World.cell?_of_block (hb0.block bx hb)).trans h0
  replace h1 := (World.cell?_of_block (hb0.block g hg)).trans h1
  obtain ⟨A, c, rfl, _, hA⟩ := H
  have HA := Kept.mk hA
  have HB0 := Kept.mk hb0
  have HIN := Kept.mk hin
  have HL := Kept.mk hl
  have HV : Kept (∀ (i : Nat) (hi : i < es.length), cmpV (es[i]).v.va t.va = cmpI (es[i]).k (vcode t)) := ⟨fun i hi => vcode_cmp _ _ (hok _ (List.getElem_mem hi)).1 ht.1 (hok _ (List.getElem_mem hi)).2 ht.2⟩
  have KC : Kept (∀ (x : Vr) (n : Int) r d, Calls Tryz.prog 109 #[.agg #[.int .i64 x.k, .int .i64 x.n, .string x.s, .int .i64 n], va t.k t.n t.s, .pointer (some ⟨bx, 0, none⟩)] (xw w0 r d) (fun e w' => e = .returned (.int .i64 (cmpV x.va t.va)) ∧ Below (xw w0 r d).heap.size (xw w0 r d) w')) := ⟨fun x n r d => plc1_any (xw w0 r d) bx g x n t (by rw [xw_cell _ _ _ _ _ (by omega)]; exact h0) (by rw [xw_cell _ _ _ _ _ (by omega)]; exact h1) (by rw [xw_size]; omega) (by rw [xw_size]; omega)⟩
  clear hA hin hl h0 h1 hb hg hok ht hb0
  go_enter Tryz.func108, Tryz.ntmps108
  go_wp2_with fail
  rw [← hw0]
  clear hw0
  go_loopw [9, 10] (fun v9 v10 wr => BsI es t w0 v9 v10 wr) (fun v9 v10 wr => (intOf v10).toNat - (intOf v9).toNat)
  case atStart => exact ⟨0, es.length, #[], w0.drawn, rfl, rfl, self_xw w0, ⟨Nat.zero_le _, Nat.le_refl _, fun j hj h => absurd h (Nat.not_lt_zero _), fun j hj h => absurd h (by omega)⟩⟩
  case round =>
    obtain ⟨lo, hi, r, d, rfl, rfl, rfl, HI⟩ := hrel
    by_cases cl : lo < hi
    · have cl' : (lo : Int) < (hi : Int) := by omega
      have hhi := HI.out.2.1
      have hl := HL.out
      obtain ⟨m, hmm⟩ : ∃ m, m = (lo + hi) / 2 := ⟨_, rfl⟩
      have hmid : ((lo : Int) + (hi : Int)) / 2 = (m : Int) := by omega
      have hm1 : lo ≤ m ∧ m < hi := by omega
      have hml : m < es.length := by omega
      have hne : es ≠ [] := by rintro rfl; simp at hml
      obtain ⟨b1, o1, rfl, hb1, hc1⟩ := HA.out hne
      have hb1' : b1 < w0.heap.size := by omega
      obtain ⟨e0, e1, e2, e3⟩ := hc1 m hml
      have f0 : 0 ≤ (m : Int) := by omega
      have f1 : (m : Int) < (es.length : Int) := by omega
      have hw : wrap64 ((m : Int) + 1) = (m : Int) + 1 := by simp only [wrap64]; omega
      have HM := Kept.mk (And.intro hm1 hml)
      by_cases ck : es[m].k < vcode t
      · have hc : cmpV es[m].v.va t.va < 0 := by rw [HV.out m hml]; exact cmpI_lt.2 ck
        have HCK : Kept (∀ j, (hj : j < es.length) → j < m + 1 → es[j].k < vcode t) := ⟨fun j hj h => by
          exact Int.lt_of_le_of_lt (inc_mono HIN.out (i := j) (j := m) (Nat.le_of_lt_succ h) hml) ck⟩
        generalize es[m].v = ev at e0 e1 e2 hc
        generalize es[m].n = en at e3
        clear ck hc1 hne hmm hm1 hml
        go_upto_region 5 with fail
        go_region_with (first | (go_at_call 109; refine (KC.out ev _ _ _).mono ?_; rintro e w2 ⟨rfl, hb2⟩; obtain ⟨r2, d2, rfl⟩ := xw_of hb2; clear hb2; rewrite [xw_xw]))
        all_goals go_wp2_with fail
        all_goals
          refine ⟨⟨m + 1, hi, _, _, by first | rfl | (rw [hw]; rfl), rfl, rfl, ⟨by have := HM.out; omega, HI.out.2.1, HCK.out, HI.out.2.2.2⟩⟩, ?_⟩
          have := HM.out
          show (intOf (.int .i64 (hi : Int))).toNat - _ < (intOf (.int .i64 (hi : Int))).toNat - (intOf (.int .i64 (lo : Int))).toNat
          simp [intOf]
          omega
      · have hc : ¬ cmpV es[m].v.va t.va < 0 := fun h => ck (by rw [HV.out m hml] at h; exact cmpI_lt.1 h)
        have HCK : Kept (∀ j, (hj : j < es.length) → m ≤ j → vcode t ≤ es[j].k) := ⟨fun j hj h => by
          exact Int.le_trans (Int.not_lt.1 ck) (inc_mono HIN.out (i := m) (j := j) h hj)⟩
        generalize es[m].v = ev at e0 e1 e2 hc
        generalize es[m].n = en at e3
        clear ck hc1 hne hmm hm1 hml
        go_upto_region 5 with fail
        go_region_with (first | (go_at_call 109; refine (KC.out ev _ _ _).mono ?_; rintro e w2 ⟨rfl, hb2⟩; obtain ⟨r2, d2, rfl⟩ := xw_of hb2; clear hb2; rewrite [xw_xw]))
        all_goals go_wp2_with fail
        all_goals
          refine ⟨⟨lo, m, _, _, rfl, by first | rfl | (rw [hmid]), rfl, ⟨by have := HM.out; omega, by have := HM.out; omega, HI.out.2.2.1, HCK.out⟩⟩, ?_⟩
          have := HM.out
          show _ - _ < (intOf (.int .i64 (hi : Int))).toNat - (intOf (.int .i64 (lo : Int))).toNat
          simp [intOf]
          omega
    · have hlh : lo = hi := by have := HI.out.1; omega
      subst hlh
      have hp : posE es t = lo := posE_of es t lo HI.out.2.1 (fun j hj => HI.out.2.2.1 j (by have := HI.out.2.1; omega) hj) (fun j h1 h2 => HI.out.2.2.2 j h2 h1)
      have HP := Kept.mk hp
      have cl' : ¬ ((lo : Int) < (lo : Int)) := by omega
      clear cl hp
      by_cases ce : lo < es.length
      · have ce' : (lo : Int) < (es.length : Int) := by omega
        have f0 : 0 ≤ (lo : Int) := by omega
        have hne : es ≠ [] := by rintro rfl; simp at ce
        obtain ⟨b1, o1, rfl, hb1, hc1⟩ := HA.out hne
        have hb1' : b1 < w0.heap.size := by omega
        obtain ⟨e0, e1, e2, e3⟩ := hc1 lo ce
        by_cases ck : es[lo].k = vcode t
        · have hv : Kept (isE es t = true) := ⟨by unfold isE; rw [HP.out, dif_pos ce, ck]; simp⟩
          have hc : cmpV es[lo].v.va t.va = 0 := by rw [HV.out lo ce]; exact cmpI_eq.2 ck
          have hcb : (cmpV es[lo].v.va t.va == 0) = true := by simp [hc]
          generalize es[lo].v = ev at e0 e1 e2 hc hcb
          generalize es[lo].n = en at e3
          clear ck hc1 hne ce hc
          obtain ⟨w9, hw9⟩ : ∃ w9, w9 = xw w0 r d := ⟨_, rfl⟩
          have u0 : w9.cell? ⟨w.heap.size, 0, none⟩ = some (.int .i64 t.k) := by rw [hw9, xw_cell _ _ _ _ _ hS]; exact t0
          have u1 : w9.cell? ⟨w.heap.size, 1, none⟩ = some (.int .i64 t.n) := by rw [hw9, xw_cell _ _ _ _ _ hS]; exact t1
          have u2 : w9.cell? ⟨w.heap.size, 2, none⟩ = some (.string t.s) := by rw [hw9, xw_cell _ _ _ _ _ hS]; exact t2
          replace e0 : w9.cell? ⟨b1, o1 + lo * 4, none⟩ = some (.int .i64 ev.k) := by rw [hw9, xw_cell _ _ _ _ _ hb1']; exact e0
          replace e1 : w9.cell? ⟨b1, o1 + lo * 4 + 1, none⟩ = some (.int .i64 ev.n) := by rw [hw9, xw_cell _ _ _ _ _ hb1']; exact e1
          replace e2 : w9.cell? ⟨b1, o1 + lo * 4 + 2, none⟩ = some (.string ev.s) := by rw [hw9, xw_cell _ _ _ _ _ hb1']; exact e2
          replace e3 : w9.cell? ⟨b1, o1 + lo * 4 + 3, none⟩ = some (.int .i64 en) := by rw [hw9, xw_cell _ _ _ _ _ hb1']; exact e3
          have v0 : w.heap.size < w9.heap.size := by rw [hw9, xw_size]; omega
          have v1 : b1 < w9.heap.size := by rw [hw9, xw_size]; omega
          have KC9 : Kept (Calls Tryz.prog 109 #[.agg #[.int .i64 ev.k, .int .i64 ev.n, .string ev.s, .int .i64 en], va t.k t.n t.s, .pointer (some ⟨bx, 0, none⟩)] w9.drew (fun e w' => e = .returned (.int .i64 (cmpV ev.va t.va)) ∧ Below w.heap.size w w')) := ⟨by
            have h9 : w9.drew = xw w0 r (d + 1) := by rw [hw9]; rfl
            rw [h9]
            refine (KC.out ev en r (d + 1)).mono ?_
            rintro e w2 ⟨rfl, hb2⟩
            exact ⟨rfl, (below_xw HB0.out (Nat.le_of_lt hS) _ _).trans (hb2.mono (by rw [xw_size]; omega))⟩⟩
          clear t0 t1 t2 KC HB0 HV HIN HL HA HI
          rw [← hw9]
          clear hw9 hS hb1 hb1'
          go_upto_region 8 with fail
          refine wp_region_any (by kernel_rfl) ?_
          try (change wpAny _ _ _ _ _ _ _ (World.drew _))
          refine wpAny_take (i := 0) (v := ?_) rfl (by kernel_rfl) (by kernel_rfl) (by kernel_rfl) (fun _ _ _ h => h) (Or.inl ⟨by kernel_rfl, ?_⟩) ?_
          rotate_left
          · ((intro wq; go_simp); (try with_reducible rfl))
          simp only [List.getElem_toArray, List.getElem_cons_zero, List.getElem_cons_succ, Act.put, List.setIfInBounds_toArray, List.set_cons_zero, List.set_cons_succ]
          refine wpAny_take (i := 1) (v := ?_) rfl (by kernel_rfl) (by kernel_rfl) (by kernel_rfl) (fun _ _ _ h => h) (Or.inl ⟨by kernel_rfl, ?_⟩) ?_
          rotate_left
          · ((intro wq; go_simp); (try with_reducible rfl))
          simp only [List.getElem_toArray, List.getElem_cons_zero, List.getElem_cons_succ, Act.put, List.setIfInBounds_toArray, List.set_cons_zero, List.set_cons_succ]
          refine wpAny_take (i := 2) (v := ?_) rfl (by kernel_rfl) (by kernel_rfl) (by kernel_rfl) (fun _ _ _ h => h) (Or.inl ⟨by kernel_rfl, ?_⟩) ?_
          rotate_left
          · ((intro wq; go_simp); (try with_reducible rfl))
          simp only [List.getElem_toArray, List.getElem_cons_zero, List.getElem_cons_succ, Act.put, List.setIfInBounds_toArray, List.set_cons_zero, List.set_cons_succ]
          refine wpAny_take (i := 3) (v := ?_) rfl (by kernel_rfl) (by kernel_rfl) (by kernel_rfl) (fun _ _ _ h => h) (Or.inl ⟨by kernel_rfl, ?_⟩) ?_
          rotate_left
          · ((intro wq; go_simp); (try with_reducible rfl))
          simp only [List.getElem_toArray, List.getElem_cons_zero, List.getElem_cons_succ, Act.put, List.setIfInBounds_toArray, List.set_cons_zero, List.set_cons_succ]
          refine wpAny_take (i := 4) (v := ?_) rfl (by kernel_rfl) (by kernel_rfl) (by kernel_rfl) (fun _ _ _ h => h) (Or.inl ⟨by kernel_rfl, ?_⟩) ?_
          rotate_left
          · ((intro wq; go_simp); (try with_reducible rfl))
          simp only [List.getElem_toArray, List.getElem_cons_zero, List.getElem_cons_succ, Act.put, List.setIfInBounds_toArray, List.set_cons_zero, List.set_cons_succ]
          refine wpAny_take (i := 5) (v := ?_) rfl (by kernel_rfl) (by kernel_rfl) (by kernel_rfl) (fun _ _ _ h => h) (Or.inl ⟨by kernel_rfl, ?_⟩) ?_
          rotate_left
          · ((intro wq; go_simp); (try with_reducible rfl))
          simp only [List.getElem_toArray, List.getElem_cons_zero, List.getElem_cons_succ, Act.put, List.setIfInBounds_toArray, List.set_cons_zero, List.set_cons_succ]
          refine wpAny_take (i := 6) (v := ?_) rfl (by kernel_rfl) (by kernel_rfl) (by kernel_rfl) (fun _ _ _ h => h) (Or.inl ⟨by kernel_rfl, ?_⟩) ?_
          rotate_left
          · ((intro wq; go_simp); (try with_reducible rfl))
          simp only [List.getElem_toArray, List.getElem_cons_zero, List.getElem_cons_succ, Act.put, List.setIfInBounds_toArray, List.set_cons_zero, List.set_cons_succ]
          refine wpAny_take (i := 7) (v := ?_) rfl (by kernel_rfl) (by kernel_rfl) (by kernel_rfl) (fun _ _ _ h => h) (Or.inl ⟨by kernel_rfl, ?_⟩) ?_
          rotate_left
          · ((intro wq; go_simp); (try with_reducible rfl))
          simp only [List.getElem_toArray, List.getElem_cons_zero, List.getElem_cons_succ, Act.put, List.setIfInBounds_toArray, List.set_cons_zero, List.set_cons_succ]
          refine wpAny_take (i := 8) (v := ?_) rfl (by kernel_rfl) (by kernel_rfl) (by kernel_rfl) (fun _ _ _ h => h) (Or.inl ⟨by kernel_rfl, ?_⟩) ?_
          rotate_left
          · ((intro wq; go_simp); (try with_reducible rfl))
          simp only [List.getElem_toArray, List.getElem_cons_zero, List.getElem_cons_succ, Act.put, List.setIfInBounds_toArray, List.set_cons_zero, List.set_cons_succ]
          refine wpAny_ready (rs := [9, 10]) (by kernel_rfl) (by simp) ?_
          refine AllReady.cons rfl (fun K hK => ?_) ?_
          · go_simp
            refine hK _ _ ?_; clear hK K
            refine wpAny_ready (rs := [10]) (by kernel_rfl) (by simp) ?_
            refine AllReady.cons rfl (fun K hK => ?_) AllReady.nil
            go_simp
            refine hK _ _ ?_; clear hK K
            refine wpAny_ready (rs := [11]) (by kernel_rfl) (by simp) ?_
            refine AllReady.cons rfl (fun K hK => ?_) AllReady.nil
            go_simp
            go_wp2_with (first | (go_at_call 109; refine KC9.out.mono ?_; rintro e w2 ⟨rfl, hb2⟩; have HB2 := Kept.mk hb2; clear hb2))
            refine wpAny_take (i := 12) (v := ?_) rfl (by kernel_rfl) (by kernel_rfl) (by kernel_rfl) (fun _ _ _ h => h) (Or.inl ⟨by kernel_rfl, ?_⟩) ?_
            rotate_left
            · ((intro wq; go_simp); (try with_reducible rfl))
            simp only [List.getElem_toArray, List.getElem_cons_zero, List.getElem_cons_succ, Act.put, List.setIfInBounds_toArray, List.set_cons_zero, List.set_cons_succ]
            refine wpAny_take (i := 13) (v := ?_) rfl (by kernel_rfl) (by kernel_rfl) (by kernel_rfl) (fun _ _ _ h => h) (Or.inl ⟨by kernel_rfl, ?_⟩) ?_
            rotate_left
            · ((intro wq; go_simp); (try with_reducible rfl))
            simp only [List.getElem_toArray, List.getElem_cons_zero, List.getElem_cons_succ, Act.put, List.setIfInBounds_toArray, List.set_cons_zero, List.set_cons_succ]
            refine wpAny_take (i := 14) (v := ?_) rfl (by kernel_rfl) (by kernel_rfl) (by kernel_rfl) (fun _ _ _ h => h) (Or.inl ⟨by kernel_rfl, ?_⟩) ?_
            rotate_left
            · ((intro wq; go_simp); (try with_reducible rfl))
            simp only [List.getElem_toArray, List.getElem_cons_zero, List.getElem_cons_succ, Act.put, List.setIfInBounds_toArray, List.set_cons_zero, List.set_cons_succ]
            refine wpAny_take (i := 15) (v := ?_) rfl (by kernel_rfl) (by kernel_rfl) (by kernel_rfl) (fun _ _ _ h => h) (Or.inl ⟨by kernel_rfl, ?_⟩) ?_
            rotate_left
            · ((intro wq; go_simp); (try with_reducible rfl))
            simp only [List.getElem_toArray, List.getElem_cons_zero, List.getElem_cons_succ, Act.put, List.setIfInBounds_toArray, List.set_cons_zero, List.set_cons_succ]
            refine wpAny_done (by kernel_rfl) ?_ _
            go_wp2_with fail
            go_returns
            exact ⟨by rw [HP.out, hv.out]; rfl, HB2.out⟩
          · refine AllReady.cons rfl (fun K hK => ?_) AllReady.nil
            go_simp
            refine hK _ _ ?_; clear hK K
            refine wpAny_ready (rs := [9]) (by kernel_rfl) (by simp) ?_
            refine AllReady.cons rfl (fun K hK => ?_) AllReady.nil
            go_simp
            refine hK _ _ ?_; clear hK K
            refine wpAny_ready (rs := [11]) (by kernel_rfl) (by simp) ?_
            refine AllReady.cons rfl (fun K hK => ?_) AllReady.nil
            go_simp
            go_wp2_with (first | (go_at_call 109; refine KC9.out.mono ?_; rintro e w2 ⟨rfl, hb2⟩; have HB2 := Kept.mk hb2; clear hb2))
            refine wpAny_take (i := 12) (v := ?_) rfl (by kernel_rfl) (by kernel_rfl) (by kernel_rfl) (fun _ _ _ h => h) (Or.inl ⟨by kernel_rfl, ?_⟩) ?_
            rotate_left
            · ((intro wq; go_simp); (try with_reducible rfl))
            simp only [List.getElem_toArray, List.getElem_cons_zero, List.getElem_cons_succ, Act.put, List.setIfInBounds_toArray, List.set_cons_zero, List.set_cons_succ]
            refine wpAny_take (i := 13) (v := ?_) rfl (by kernel_rfl) (by kernel_rfl) (by kernel_rfl) (fun _ _ _ h => h) (Or.inl ⟨by kernel_rfl, ?_⟩) ?_
            rotate_left
            · ((intro wq; go_simp); (try with_reducible rfl))
            simp only [List.getElem_toArray, List.getElem_cons_zero, List.getElem_cons_succ, Act.put, List.setIfInBounds_toArray, List.set_cons_zero, List.set_cons_succ]
            refine wpAny_take (i := 14) (v := ?_) rfl (by kernel_rfl) (by kernel_rfl) (by kernel_rfl) (fun _ _ _ h => h) (Or.inl ⟨by kernel_rfl, ?_⟩) ?_
            rotate_left
            · ((intro wq; go_simp); (try with_reducible rfl))
            simp only [List.getElem_toArray, List.getElem_cons_zero, List.getElem_cons_succ, Act.put, List.setIfInBounds_toArray, List.set_cons_zero, List.set_cons_succ]
            refine wpAny_take (i := 15) (v := ?_) rfl (by kernel_rfl) (by kernel_rfl) (by kernel_rfl) (fun _ _ _ h => h) (Or.inl ⟨by kernel_rfl, ?_⟩) ?_
            rotate_left
            · ((intro wq; go_simp); (try with_reducible rfl))
            simp only [List.getElem_toArray, List.getElem_cons_zero, List.getElem_cons_succ, Act.put, List.setIfInBounds_toArray, List.set_cons_zero, List.set_cons_succ]
            refine wpAny_done (by kernel_rfl) ?_ _
            go_wp2_with fail
            go_returns
            exact ⟨by rw [HP.out, hv.out]; rfl, HB2.out⟩
        · have hv : Kept (isE es t = false) := ⟨by unfold isE; rw [HP.out, dif_pos ce]; simp [ck]⟩
          have hcb : (cmpV es[lo].v.va t.va == 0) = false := by simp; intro h; rw [HV.out lo ce] at h; exact ck (cmpI_eq.1 h)
          generalize es[lo].v = ev at e0 e1 e2 hcb
          generalize es[lo].n = en at e3
          clear ck hc1 hne ce
          obtain ⟨w9, hw9⟩ : ∃ w9, w9 = xw w0 r d := ⟨_, rfl⟩
          have u0 : w9.cell? ⟨w.heap.size, 0, none⟩ = some (.int .i64 t.k) := by rw [hw9, xw_cell _ _ _ _ _ hS]; exact t0
          have u1 : w9.cell? ⟨w.heap.size, 1, none⟩ = some (.int .i64 t.n) := by rw [hw9, xw_cell _ _ _ _ _ hS]; exact t1
          have u2 : w9.cell? ⟨w.heap.size, 2, none⟩ = some (.string t.s) := by rw [hw9, xw_cell _ _ _ _ _ hS]; exact t2
          replace e0 : w9.cell? ⟨b1, o1 + lo * 4, none⟩ = some (.int .i64 ev.k) := by rw [hw9, xw_cell _ _ _ _ _ hb1']; exact e0
          replace e1 : w9.cell? ⟨b1, o1 + lo * 4 + 1, none⟩ = some (.int .i64 ev.n) := by rw [hw9, xw_cell _ _ _ _ _ hb1']; exact e1
          replace e2 : w9.cell? ⟨b1, o1 + lo * 4 + 2, none⟩ = some (.string ev.s) := by rw [hw9, xw_cell _ _ _ _ _ hb1']; exact e2
          replace e3 : w9.cell? ⟨b1, o1 + lo * 4 + 3, none⟩ = some (.int .i64 en) := by rw [hw9, xw_cell _ _ _ _ _ hb1']; exact e3
          have v0 : w.heap.size < w9.heap.size := by rw [hw9, xw_size]; omega
          have v1 : b1 < w9.heap.size := by rw [hw9, xw_size]; omega
          have KC9 : Kept (Calls Tryz.prog 109 #[.agg #[.int .i64 ev.k, .int .i64 ev.n, .string ev.s, .int .i64 en], va t.k t.n t.s, .pointer (some ⟨bx, 0, none⟩)] w9.drew (fun e w' => e = .returned (.int .i64 (cmpV ev.va t.va)) ∧ Below w.heap.size w w')) := ⟨by
            have h9 : w9.drew = xw w0 r (d + 1) := by rw [hw9]; rfl
            rw [h9]
            refine (KC.out ev en r (d + 1)).mono ?_
            rintro e w2 ⟨rfl, hb2⟩
            exact ⟨rfl, (below_xw HB0.out (Nat.le_of_lt hS) _ _).trans (hb2.mono (by rw [xw_size]; omega))⟩⟩
          clear t0 t1 t2 KC HB0 HV HIN HL HA HI
          rw [← hw9]
          clear hw9 hS hb1 hb1'
          go_upto_region 8 with fail
          refine wp_region_any (by kernel_rfl) ?_
          try (change wpAny _ _ _ _ _ _ _ (World.drew _))
          refine wpAny_take (i := 0) (v := ?_) rfl (by kernel_rfl) (by kernel_rfl) (by kernel_rfl) (fun _ _ _ h => h) (Or.inl ⟨by kernel_rfl, ?_⟩) ?_
          rotate_left
          · ((intro wq; go_simp); (try with_reducible rfl))
          simp only [List.getElem_toArray, List.getElem_cons_zero, List.getElem_cons_succ, Act.put, List.setIfInBounds_toArray, List.set_cons_zero, List.set_cons_succ]
          refine wpAny_take (i := 1) (v := ?_) rfl (by kernel_rfl) (by kernel_rfl) (by kernel_rfl) (fun _ _ _ h => h) (Or.inl ⟨by kernel_rfl, ?_⟩) ?_
          rotate_left
          · ((intro wq; go_simp); (try with_reducible rfl))
          simp only [List.getElem_toArray, List.getElem_cons_zero, List.getElem_cons_succ, Act.put, List.setIfInBounds_toArray, List.set_cons_zero, List.set_cons_succ]
          refine wpAny_take (i := 2) (v := ?_) rfl (by kernel_rfl) (by kernel_rfl) (by kernel_rfl) (fun _ _ _ h => h) (Or.inl ⟨by kernel_rfl, ?_⟩) ?_
          rotate_left
          · ((intro wq; go_simp); (try with_reducible rfl))
          simp only [List.getElem_toArray, List.getElem_cons_zero, List.getElem_cons_succ, Act.put, List.setIfInBounds_toArray, List.set_cons_zero, List.set_cons_succ]
          refine wpAny_take (i := 3) (v := ?_) rfl (by kernel_rfl) (by kernel_rfl) (by kernel_rfl) (fun _ _ _ h => h) (Or.inl ⟨by kernel_rfl, ?_⟩) ?_
          rotate_left
          · ((intro wq; go_simp); (try with_reducible rfl))
          simp only [List.getElem_toArray, List.getElem_cons_zero, List.getElem_cons_succ, Act.put, List.setIfInBounds_toArray, List.set_cons_zero, List.set_cons_succ]
          refine wpAny_take (i := 4) (v := ?_) rfl (by kernel_rfl) (by kernel_rfl) (by kernel_rfl) (fun _ _ _ h => h) (Or.inl ⟨by kernel_rfl, ?_⟩) ?_
          rotate_left
          · ((intro wq; go_simp); (try with_reducible rfl))
          simp only [List.getElem_toArray, List.getElem_cons_zero, List.getElem_cons_succ, Act.put, List.setIfInBounds_toArray, List.set_cons_zero, List.set_cons_succ]
          refine wpAny_take (i := 5) (v := ?_) rfl (by kernel_rfl) (by kernel_rfl) (by kernel_rfl) (fun _ _ _ h => h) (Or.inl ⟨by kernel_rfl, ?_⟩) ?_
          rotate_left
          · ((intro wq; go_simp); (try with_reducible rfl))
          simp only [List.getElem_toArray, List.getElem_cons_zero, List.getElem_cons_succ, Act.put, List.setIfInBounds_toArray, List.set_cons_zero, List.set_cons_succ]
          refine wpAny_take (i := 6) (v := ?_) rfl (by kernel_rfl) (by kernel_rfl) (by kernel_rfl) (fun _ _ _ h => h) (Or.inl ⟨by kernel_rfl, ?_⟩) ?_
          rotate_left
          · ((intro wq; go_simp); (try with_reducible rfl))
          simp only [List.getElem_toArray, List.getElem_cons_zero, List.getElem_cons_succ, Act.put, List.setIfInBounds_toArray, List.set_cons_zero, List.set_cons_succ]
          refine wpAny_take (i := 7) (v := ?_) rfl (by kernel_rfl) (by kernel_rfl) (by kernel_rfl) (fun _ _ _ h => h) (Or.inl ⟨by kernel_rfl, ?_⟩) ?_
          rotate_left
          · ((intro wq; go_simp); (try with_reducible rfl))
          simp only [List.getElem_toArray, List.getElem_cons_zero, List.getElem_cons_succ, Act.put, List.setIfInBounds_toArray, List.set_cons_zero, List.set_cons_succ]
          refine wpAny_take (i := 8) (v := ?_) rfl (by kernel_rfl) (by kernel_rfl) (by kernel_rfl) (fun _ _ _ h => h) (Or.inl ⟨by kernel_rfl, ?_⟩) ?_
          rotate_left
          · ((intro wq; go_simp); (try with_reducible rfl))
          simp only [List.getElem_toArray, List.getElem_cons_zero, List.getElem_cons_succ, Act.put, List.setIfInBounds_toArray, List.set_cons_zero, List.set_cons_succ]
          refine wpAny_ready (rs := [9, 10]) (by kernel_rfl) (by simp) ?_
          refine AllReady.cons rfl (fun K hK => ?_) ?_
          · go_simp
            refine hK _ _ ?_; clear hK K
            refine wpAny_ready (rs := [10]) (by kernel_rfl) (by simp) ?_
            refine AllReady.cons rfl (fun K hK => ?_) AllReady.nil
            go_simp
            refine hK _ _ ?_; clear hK K
            refine wpAny_ready (rs := [11]) (by kernel_rfl) (by simp) ?_
            refine AllReady.cons rfl (fun K hK => ?_) AllReady.nil
            go_simp
            go_wp2_with (first | (go_at_call 109; refine KC9.out.mono ?_; rintro e w2 ⟨rfl, hb2⟩; have HB2 := Kept.mk hb2; clear hb2))
            refine wpAny_take (i := 12) (v := ?_) rfl (by kernel_rfl) (by kernel_rfl) (by kernel_rfl) (fun _ _ _ h => h) (Or.inl ⟨by kernel_rfl, ?_⟩) ?_
            rotate_left
            · ((intro wq; go_simp); (try with_reducible rfl))
            simp only [List.getElem_toArray, List.getElem_cons_zero, List.getElem_cons_succ, Act.put, List.setIfInBounds_toArray, List.set_cons_zero, List.set_cons_succ]
            refine wpAny_take (i := 13) (v := ?_) rfl (by kernel_rfl) (by kernel_rfl) (by kernel_rfl) (fun _ _ _ h => h) (Or.inl ⟨by kernel_rfl, ?_⟩) ?_
            rotate_left
            · ((intro wq; go_simp); (try with_reducible rfl))
            simp only [List.getElem_toArray, List.getElem_cons_zero, List.getElem_cons_succ, Act.put, List.setIfInBounds_toArray, List.set_cons_zero, List.set_cons_succ]
            refine wpAny_take (i := 14) (v := ?_) rfl (by kernel_rfl) (by kernel_rfl) (by kernel_rfl) (fun _ _ _ h => h) (Or.inl ⟨by kernel_rfl, ?_⟩) ?_
            rotate_left
            · ((intro wq; go_simp); (try with_reducible rfl))
            simp only [List.getElem_toArray, List.getElem_cons_zero, List.getElem_cons_succ, Act.put, List.setIfInBounds_toArray, List.set_cons_zero, List.set_cons_succ]
            refine wpAny_take (i := 15) (v := ?_) rfl (by kernel_rfl) (by kernel_rfl) (by kernel_rfl) (fun _ _ _ h => h) (Or.inl ⟨by kernel_rfl, ?_⟩) ?_
            rotate_left
            · ((intro wq; go_simp); (try with_reducible rfl))
            simp only [List.getElem_toArray, List.getElem_cons_zero, List.getElem_cons_succ, Act.put, List.setIfInBounds_toArray, List.set_cons_zero, List.set_cons_succ]
            refine wpAny_done (by kernel_rfl) ?_ _
            go_wp2_with fail
            go_returns
            exact ⟨by rw [HP.out, hv.out]; rfl, HB2.out⟩
          · refine AllReady.cons rfl (fun K hK => ?_) AllReady.nil
            go_simp
            refine hK _ _ ?_; clear hK K
            refine wpAny_ready (rs := [9]) (by kernel_rfl) (by simp) ?_
            refine AllReady.cons rfl (fun K hK => ?_) AllReady.nil
            go_simp
            refine hK _ _ ?_; clear hK K
            refine wpAny_ready (rs := [11]) (by kernel_rfl) (by simp) ?_
            refine AllReady.cons rfl (fun K hK => ?_) AllReady.nil
            go_simp
            go_wp2_with (first | (go_at_call 109; refine KC9.out.mono ?_; rintro e w2 ⟨rfl, hb2⟩; have HB2 := Kept.mk hb2; clear hb2))
            refine wpAny_take (i := 12) (v := ?_) rfl (by kernel_rfl) (by kernel_rfl) (by kernel_rfl) (fun _ _ _ h => h) (Or.inl ⟨by kernel_rfl, ?_⟩) ?_
            rotate_left
            · ((intro wq; go_simp); (try with_reducible rfl))
            simp only [List.getElem_toArray, List.getElem_cons_zero, List.getElem_cons_succ, Act.put, List.setIfInBounds_toArray, List.set_cons_zero, List.set_cons_succ]
            refine wpAny_take (i := 13) (v := ?_) rfl (by kernel_rfl) (by kernel_rfl) (by kernel_rfl) (fun _ _ _ h => h) (Or.inl ⟨by kernel_rfl, ?_⟩) ?_
            rotate_left
            · ((intro wq; go_simp); (try with_reducible rfl))
            simp only [List.getElem_toArray, List.getElem_cons_zero, List.getElem_cons_succ, Act.put, List.setIfInBounds_toArray, List.set_cons_zero, List.set_cons_succ]
            refine wpAny_take (i := 14) (v := ?_) rfl (by kernel_rfl) (by kernel_rfl) (by kernel_rfl) (fun _ _ _ h => h) (Or.inl ⟨by kernel_rfl, ?_⟩) ?_
            rotate_left
            · ((intro wq; go_simp); (try with_reducible rfl))
            simp only [List.getElem_toArray, List.getElem_cons_zero, List.getElem_cons_succ, Act.put, List.setIfInBounds_toArray, List.set_cons_zero, List.set_cons_succ]
            refine wpAny_take (i := 15) (v := ?_) rfl (by kernel_rfl) (by kernel_rfl) (by kernel_rfl) (fun _ _ _ h => h) (Or.inl ⟨by kernel_rfl, ?_⟩) ?_
            rotate_left
            · ((intro wq; go_simp); (try with_reducible rfl))
            simp only [List.getElem_toArray, List.getElem_cons_zero, List.getElem_cons_succ, Act.put, List.setIfInBounds_toArray, List.set_cons_zero, List.set_cons_succ]
            refine wpAny_done (by kernel_rfl) ?_ _
            go_wp2_with fail
            go_returns
            exact ⟨by rw [HP.out, hv.out]; rfl, HB2.out⟩
      · have ce' : ¬ ((lo : Int) < (es.length : Int)) := by omega
        have hv : Kept (isE es t = false) := ⟨by unfold isE; rw [HP.out, dif_neg ce]⟩
        clear ce
        go_upto_region 8 with fail
        go_quiet (fail)
        go_wp2_with fail
        go_returns
        exact ⟨by rw [HP.out, hv.out]; rfl, below_xw HB0.out (Nat.le_of_lt hS) _ _⟩
end Go.Proofs.YtnidaahimofppaaGreat
