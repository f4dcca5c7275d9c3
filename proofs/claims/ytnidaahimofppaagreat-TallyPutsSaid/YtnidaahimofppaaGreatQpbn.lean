/- Layer 26 (tally): the reference's leans and totals, walked. -/
import Derived.Test.YtnidaahimofppaaGreatQpbk
import Derived.Test.YtnidaahimofppaaGreatQpbm
import Derived.Deep.RegionWith
namespace Go.Proofs.YtnidaahimofppaaGreat
open Go.RowKit
set_option linter.unusedVariables false
set_option linter.unusedSimpArgs false

theorem rem4 (v : Int) : Int.tmod (wrap64 (Int.tmod v 4 + 4)) 4 = v % 4 := by
  have h1 := Int.tmod_def v 4
  have h2 := Int.lt_tmod_of_pos v (b := 4) (by omega)
  have h3 := Int.tmod_lt_of_pos v (b := 4) (by omega)
  have hw : wrap64 (Int.tmod v 4 + 4) = Int.tmod v 4 + 4 := by simp only [wrap64]; omega
  rw [hw, Int.tmod_eq_emod_of_nonneg (by omega)]
  omega
theorem spE_0 {v : Int} (h : v % 4 = 0) : spE v = (1, 0) := by unfold spE; rw [h]; rfl
theorem spE_1 {v : Int} (h : v % 4 = 1) : spE v = (0, 1) := by unfold spE; rw [h]; rfl
theorem spE_2 {v : Int} (h : v % 4 = 2) : spE v = (-1, 0) := by unfold spE; rw [h]; rfl
theorem spE_3 {v : Int} (h : v % 4 = 3) : spE v = (0, -1) := by unfold spE; rw [h]; rfl
set_option maxHeartbeats 1000000 in
theorem rUnit_any (v : Int) (h0 : -9223372036854775808 ≤ v) (h1 : v ≤ 9223372036854775807) (w : World) : Calls Tryz.prog 55 #[.int .i64 v] w (fun e w' => e = .returned (.tuple #[.int .i64 (spE v).1, .int .i64 (spE v).2]) ∧ w = w') := by
  have hr := rem4 v
  have h4 : v % 4 = 0 ∨ v % 4 = 1 ∨ v % 4 = 2 ∨ v % 4 = 3 := by omega
  rcases h4 with h | h | h | h
  · rw [spE_0 h]
    rw [h] at hr
    clear h
    go_enter Tryz.func55, Tryz.ntmps55
    go_wp2_with fail
    go_returns
    exact ⟨rfl, rfl⟩
  · rw [spE_1 h]
    rw [h] at hr
    clear h
    go_enter Tryz.func55, Tryz.ntmps55
    go_wp2_with fail
    go_returns
    exact ⟨rfl, rfl⟩
  · rw [spE_2 h]
    rw [h] at hr
    clear h
    go_enter Tryz.func55, Tryz.ntmps55
    go_wp2_with fail
    go_returns
    exact ⟨rfl, rfl⟩
  · rw [spE_3 h]
    rw [h] at hr
    clear h
    go_enter Tryz.func55, Tryz.ntmps55
    go_wp2_with fail
    go_returns
    exact ⟨rfl, rfl⟩
theorem rFar_any (x y : Int) (hx : -1125899906842624 ≤ x ∧ x ≤ 1125899906842624) (hy : -1125899906842624 ≤ y ∧ y ≤ 1125899906842624) (w : World) : Calls Tryz.prog 56 #[.int .i64 x, .int .i64 y] w (fun e w' => e = .returned (.bool false) ∧ w = w') := by
  have a1 : ¬ 1125899906842624 < x := by omega
  have a2 : ¬ x < -1125899906842624 := by omega
  have a3 : ¬ 1125899906842624 < y := by omega
  have a4 : ¬ y < -1125899906842624 := by omega
  clear hx hy
  go_enter Tryz.func56, Tryz.ntmps56
  go_wp2_with fail
  go_returns
  exact ⟨rfl, rfl⟩
theorem spE_cases (v : Int) : spE v = (1, 0) ∨ spE v = (0, 1) ∨ spE v = (-1, 0) ∨ spE v = (0, -1) := by
  have h4 : v % 4 = 0 ∨ v % 4 = 1 ∨ v % 4 = 2 ∨ v % 4 = 3 := by omega
  rcases h4 with h | h | h | h
  · exact .inl (spE_0 h)
  · exact .inr (.inl (spE_1 h))
  · exact .inr (.inr (.inl (spE_2 h)))
  · exact .inr (.inr (.inr (spE_3 h)))
theorem spE_mul {n : Int} (h0 : -1048576 ≤ n) (h1 : n ≤ 1048576) (v : Int) : (-1048576 ≤ n * (spE v).1 ∧ n * (spE v).1 ≤ 1048576) ∧ (-1048576 ≤ n * (spE v).2 ∧ n * (spE v).2 ≤ 1048576) := by
  rcases spE_cases v with h | h | h | h <;> rw [h] <;> simp only <;> omega
theorem rl_fin {w : World} {g : Nat} {u v : Value} {t : TypeId} (hb : w.heap[g]? = some (.cells #[u, v] t (0, 0))) (u1 v1 : Value) :
    ((w.setCell ⟨g, 0, none⟩ u1).setCell ⟨g, 1, none⟩ v1).heap[g]? = some (.cells #[u1, v1] t (0, 0)) ∧ ∀ k, k ≠ g → ((w.setCell ⟨g, 0, none⟩ u1).setCell ⟨g, 1, none⟩ v1).heap[k]? = w.heap[k]? := by
  have h1 := heap_setCell_same w g 0 _ _ u1 hb
  have h2 := heap_setCell_same _ g 1 _ _ v1 h1
  refine ⟨h2, fun k hk => ?_⟩
  rw [heap_setCell_other _ _ _ _ hk, heap_setCell_other _ _ _ _ hk]
set_option maxRecDepth 100000 in
set_option maxHeartbeats 2000000 in
theorem rlPut_any (g : Nat) (a b v n : Int) (w : World) (hb : w.heap[g]? = some (.cells #[.int .i64 a, .int .i64 b] 108 (0, 0))) (h0 : -1048576 ≤ n) (h1 : n ≤ 1048576) (v0 : -9223372036854775808 ≤ v) (v1 : v ≤ 9223372036854775807)
    (ha : -1073741824 ≤ a ∧ a ≤ 1073741824) (hbb : -1073741824 ≤ b ∧ b ≤ 1073741824) :
    Calls Tryz.prog 38 #[.pointer (some ⟨g, 0, none⟩), .int .i64 v, .int .i64 n] w (fun e w' => e = .returned (.int .i64 0) ∧ w'.heap[g]? = some (.cells #[.int .i64 (a + n * (spE v).1), .int .i64 (b + n * (spE v).2)] 108 (0, 0)) ∧ Chg [g] w w') := by
  have hm := spE_mul h0 h1 v
  have HV := Kept.mk (And.intro v0 v1)
  obtain ⟨e0, e1, f0, f1⟩ := box2 hb
  have hlt : g < w.heap.size := (Array.getElem?_eq_some_iff.1 hb).1
  have HB := Kept.mk hb
  have c1 : ¬ 1048576 < n := by omega
  have c2 : ¬ n < -1048576 := by omega
  generalize hs : spE v = s at hm
  have HS := Kept.mk hs
  obtain ⟨x, y⟩ := s
  simp only at hm ⊢
  have w1 : wrap64 (n * x) = n * x := by simp only [wrap64]; omega
  have w2 : wrap64 (n * y) = n * y := by simp only [wrap64]; omega
  have w3 : wrap64 (a + n * x) = a + n * x := by simp only [wrap64]; omega
  have w4 : wrap64 (b + n * y) = b + n * y := by simp only [wrap64]; omega
  have HFA : Kept ((-1125899906842624 ≤ a + n * x ∧ a + n * x ≤ 1125899906842624) ∧ (-1125899906842624 ≤ b + n * y ∧ b + n * y ≤ 1125899906842624)) := ⟨by omega⟩
  have Q1 : Kept (IntKind.i64.wrap (n * x) = n * x) := ⟨by rw [IntKind.wrap_i64]; omega⟩
  have Q2 : Kept (IntKind.i64.wrap (n * y) = n * y) := ⟨by rw [IntKind.wrap_i64]; omega⟩
  have Q3 : Kept (IntKind.i64.wrap (a + n * x) = a + n * x) := ⟨by rw [IntKind.wrap_i64]; omega⟩
  have Q4 : Kept (IntKind.i64.wrap (b + n * y) = b + n * y) := ⟨by rw [IntKind.wrap_i64]; omega⟩
  have W1 := Kept.mk w1
  have W2 := Kept.mk w2
  have W3 := Kept.mk w3
  have W4 := Kept.mk w4
  clear hm hs hb ha hbb h0 h1 v0 v1 w1 w2 w3 w4
  go_enter Tryz.func38, Tryz.ntmps38
  go_wp2_with (first | (go_at_call 55; refine (rUnit_any v HV.out.1 HV.out.2 _).mono ?_; rintro e w5 ⟨rfl, rfl⟩; rewrite [HS.out]))
  go_upto_region 4 with fail
  refine wp_region_any (by kernel_rfl) ?_
  try (change wpAny _ _ _ _ _ _ _ (World.drew _))
  refine wpAny_take (i := 0) (v := ?_) rfl (by kernel_rfl) (by kernel_rfl) (by kernel_rfl) (fun _ _ _ h => h) (Or.inl ⟨by kernel_rfl, ?_⟩) ?_
  rotate_left
  · ((intro wq; go_simp); (try with_reducible rfl))
  simp only [List.getElem_toArray, List.getElem_cons_zero, List.getElem_cons_succ, Act.put, List.setIfInBounds_toArray, List.set_cons_zero, List.set_cons_succ]
  refine wpAny_take (i := 1) (v := ?_) rfl (by kernel_rfl) (by kernel_rfl) (by kernel_rfl) (fun _ _ _ h => h) (Or.inl ⟨by kernel_rfl, ?_⟩) ?_
  rotate_left
  · ((intro wq; go_simp); (try with_reducible rfl))
  simp only [List.getElem_toArray, List.getElem_cons_zero, List.getElem_cons_succ, Act.put, List.setIfInBounds_toArray, List.set_cons_zero, List.set_cons_succ]
  refine wpAny_take (i := 2) (v := ?_) rfl (by kernel_rfl) (by kernel_rfl) (by kernel_rfl) (fun _ _ _ h => h) (Or.inl ⟨by kernel_rfl, ?_⟩) ?_
  rotate_left
  · ((intro wq; go_simp); (try with_reducible rfl))
  simp only [List.getElem_toArray, List.getElem_cons_zero, List.getElem_cons_succ, Act.put, List.setIfInBounds_toArray, List.set_cons_zero, List.set_cons_succ]
  refine wpAny_take (i := 8) (v := ?_) rfl (by kernel_rfl) (by kernel_rfl) (by kernel_rfl) (fun _ _ _ h => h) (Or.inl ⟨by kernel_rfl, ?_⟩) ?_
  rotate_left
  · ((intro wq; go_simp); (try with_reducible rfl))
  simp only [List.getElem_toArray, List.getElem_cons_zero, List.getElem_cons_succ, Act.put, List.setIfInBounds_toArray, List.set_cons_zero, List.set_cons_succ]
  refine wpAny_take (i := 9) (v := ?_) rfl (by kernel_rfl) (by kernel_rfl) (by kernel_rfl) (fun _ _ _ h => h) (Or.inl ⟨by kernel_rfl, ?_⟩) ?_
  rotate_left
  · ((intro wq; go_simp); (try with_reducible rfl))
  simp only [List.getElem_toArray, List.getElem_cons_zero, List.getElem_cons_succ, Act.put, List.setIfInBounds_toArray, List.set_cons_zero, List.set_cons_succ]
  refine wpAny_take (i := 10) (v := ?_) rfl (by kernel_rfl) (by kernel_rfl) (by kernel_rfl) (fun _ _ _ h => h) (Or.inl ⟨by kernel_rfl, ?_⟩) ?_
  rotate_left
  · ((intro wq; go_simp); (try with_reducible rfl))
  simp only [List.getElem_toArray, List.getElem_cons_zero, List.getElem_cons_succ, Act.put, List.setIfInBounds_toArray, List.set_cons_zero, List.set_cons_succ]
  refine wpAny_take (i := 4) (v := ?_) rfl (by kernel_rfl) (by kernel_rfl) (by kernel_rfl) (fun _ _ _ h => h) (Or.inl ⟨by kernel_rfl, ?_⟩) ?_
  rotate_left
  · ((intro wq; go_simp); (try with_reducible rfl))
  simp only [List.getElem_toArray, List.getElem_cons_zero, List.getElem_cons_succ, Act.put, List.setIfInBounds_toArray, List.set_cons_zero, List.set_cons_succ]
  refine wpAny_take (i := 5) (v := ?_) rfl (by kernel_rfl) (by kernel_rfl) (by kernel_rfl) (fun _ _ _ h => h) (Or.inl ⟨by kernel_rfl, ?_⟩) ?_
  rotate_left
  · ((intro wq; go_simp); (try with_reducible rfl))
  simp only [List.getElem_toArray, List.getElem_cons_zero, List.getElem_cons_succ, Act.put, List.setIfInBounds_toArray, List.set_cons_zero, List.set_cons_succ]
  refine wpAny_take (i := 6) (v := ?_) rfl (by kernel_rfl) (by kernel_rfl) (by kernel_rfl) (fun _ _ _ h => h) (Or.inl ⟨by kernel_rfl, ?_⟩) ?_
  rotate_left
  · ((intro wq; go_simp); (try with_reducible rfl))
  simp only [List.getElem_toArray, List.getElem_cons_zero, List.getElem_cons_succ, Act.put, List.setIfInBounds_toArray, List.set_cons_zero, List.set_cons_succ]
  refine wpAny_take (i := 12) (v := ?_) rfl (by kernel_rfl) (by kernel_rfl) (by kernel_rfl) (fun _ _ _ h => h) (Or.inl ⟨by kernel_rfl, ?_⟩) ?_
  rotate_left
  · ((intro wq; go_simp); (try with_reducible rfl))
  simp only [List.getElem_toArray, List.getElem_cons_zero, List.getElem_cons_succ, Act.put, List.setIfInBounds_toArray, List.set_cons_zero, List.set_cons_succ]
  refine wpAny_take (i := 13) (v := ?_) rfl (by kernel_rfl) (by kernel_rfl) (by kernel_rfl) (fun _ _ _ h => h) (Or.inl ⟨by kernel_rfl, ?_⟩) ?_
  rotate_left
  · ((intro wq; go_simp); (try with_reducible rfl))
  simp only [List.getElem_toArray, List.getElem_cons_zero, List.getElem_cons_succ, Act.put, List.setIfInBounds_toArray, List.set_cons_zero, List.set_cons_succ]
  refine wpAny_take (i := 14) (v := ?_) rfl (by kernel_rfl) (by kernel_rfl) (by kernel_rfl) (fun _ _ _ h => h) (Or.inl ⟨by kernel_rfl, ?_⟩) ?_
  rotate_left
  · ((intro wq; go_simp); (try with_reducible rfl))
  simp only [List.getElem_toArray, List.getElem_cons_zero, List.getElem_cons_succ, Act.put, List.setIfInBounds_toArray, List.set_cons_zero, List.set_cons_succ]
  refine wpAny_ready (rs := [3, 11]) (by kernel_rfl) (by simp) ?_
  refine AllReady.cons rfl (fun K hK => ?_) ?_
  · go_simp
    refine hK _ _ ?_; clear hK K
    refine wpAny_take (i := 7) (v := ?_) rfl (by kernel_rfl) (by kernel_rfl) (by kernel_rfl) (fun _ _ _ h => h) (Or.inl ⟨by kernel_rfl, ?_⟩) ?_
    rotate_left
    · ((intro wq; go_simp); (try with_reducible rfl))
    simp only [List.getElem_toArray, List.getElem_cons_zero, List.getElem_cons_succ, Act.put, List.setIfInBounds_toArray, List.set_cons_zero, List.set_cons_succ]
    refine wpAny_ready (rs := [11]) (by kernel_rfl) (by simp) ?_
    refine AllReady.cons rfl (fun K hK => ?_) AllReady.nil
    go_simp
    refine hK _ _ ?_; clear hK K
    refine wpAny_take (i := 15) (v := ?_) rfl (by kernel_rfl) (by kernel_rfl) (by kernel_rfl) (fun _ _ _ h => h) (Or.inl ⟨by kernel_rfl, ?_⟩) ?_
    rotate_left
    · ((intro wq; go_simp); (try with_reducible rfl))
    simp only [List.getElem_toArray, List.getElem_cons_zero, List.getElem_cons_succ, Act.put, List.setIfInBounds_toArray, List.set_cons_zero, List.set_cons_succ]
    refine wpAny_ready (rs := [16]) (by kernel_rfl) (by simp) ?_
    refine AllReady.cons rfl (fun K hK => ?_) AllReady.nil
    go_simp
    simp only [Q1.out, Q2.out, Q3.out, Q4.out]
    go_wp2_with (first | (go_at_call 56; refine (rFar_any _ _ HFA.out.1 HFA.out.2 _).mono ?_; rintro e w6 ⟨rfl, rfl⟩))
    refine wpAny_done (by kernel_rfl) ?_ _
    have w1 := W1.out
    have w2 := W2.out
    have w3 := W3.out
    have w4 := W4.out
    go_wp2_with fail
    go_returns
    obtain ⟨q1, q2⟩ := rl_fin HB.out (.int .i64 (a + n * x)) (.int .i64 (b + n * y))
    exact ⟨rfl, q1, rfl, rfl, rfl, by simp, fun k hk hf => q2 k (by simpa using hf)⟩
  · refine AllReady.cons rfl (fun K hK => ?_) AllReady.nil
    go_simp
    refine hK _ _ ?_; clear hK K
    refine wpAny_take (i := 15) (v := ?_) rfl (by kernel_rfl) (by kernel_rfl) (by kernel_rfl) (fun _ _ _ h => h) (Or.inl ⟨by kernel_rfl, ?_⟩) ?_
    rotate_left
    · ((intro wq; go_simp); (try with_reducible rfl))
    simp only [List.getElem_toArray, List.getElem_cons_zero, List.getElem_cons_succ, Act.put, List.setIfInBounds_toArray, List.set_cons_zero, List.set_cons_succ]
    refine wpAny_ready (rs := [3]) (by kernel_rfl) (by simp) ?_
    refine AllReady.cons rfl (fun K hK => ?_) AllReady.nil
    go_simp
    refine hK _ _ ?_; clear hK K
    refine wpAny_take (i := 7) (v := ?_) rfl (by kernel_rfl) (by kernel_rfl) (by kernel_rfl) (fun _ _ _ h => h) (Or.inl ⟨by kernel_rfl, ?_⟩) ?_
    rotate_left
    · ((intro wq; go_simp); (try with_reducible rfl))
    simp only [List.getElem_toArray, List.getElem_cons_zero, List.getElem_cons_succ, Act.put, List.setIfInBounds_toArray, List.set_cons_zero, List.set_cons_succ]
    refine wpAny_ready (rs := [16]) (by kernel_rfl) (by simp) ?_
    refine AllReady.cons rfl (fun K hK => ?_) AllReady.nil
    go_simp
    simp only [Q1.out, Q2.out, Q3.out, Q4.out]
    go_wp2_with (first | (go_at_call 56; refine (rFar_any _ _ HFA.out.1 HFA.out.2 _).mono ?_; rintro e w6 ⟨rfl, rfl⟩))
    refine wpAny_done (by kernel_rfl) ?_ _
    have w1 := W1.out
    have w2 := W2.out
    have w3 := W3.out
    have w4 := W4.out
    go_wp2_with fail
    go_returns
    obtain ⟨q1, q2⟩ := rl_fin HB.out (.int .i64 (a + n * x)) (.int .i64 (b + n * y))
    exact ⟨rfl, q1, rfl, rfl, rfl, by simp, fun k hk hf => q2 k (by simpa using hf)⟩
--NEXT
theorem sum_bd {L : Cps} (hp : ∀ c ∈ L, 1 ≤ c.2) (f : List Vr → Int) (hf : ∀ c ∈ L, -9223372036854775808 ≤ f c.1 ∧ f c.1 ≤ 9223372036854775807) : -(9223372036854775808 * cntC L) ≤ sumC L f ∧ sumC L f ≤ 9223372036854775808 * cntC L := by
  induction L with
  | nil => simp [cntC, sumC]
  | cons c L ih =>
    have h1 := ih (fun x hx => hp x (by simp [hx])) (fun x hx => hf x (by simp [hx]))
    have h2 := hp c (by simp)
    have h3 := hf c (by simp)
    have h4 : cntC (c :: L) = c.2 * 1 + cntC L := sumC_cons c L _
    have h5 : c.2 * f c.1 ≤ c.2 * 9223372036854775808 := Int.mul_le_mul_of_nonneg_left (by omega) (by omega)
    have h6 : c.2 * (-9223372036854775808) ≤ c.2 * f c.1 := Int.mul_le_mul_of_nonneg_left (by omega) (by omega)
    rw [sumC_cons, h4]
    omega
def colF (c : Int) (r : List Vr) : Int := (valAt r c).n
theorem sumC_take (Ks : List Pv) (f : List Vr → Int) (i : Nat) (hi : i < Ks.length) : sumC (toC (Ks.take (i + 1))) f = sumC (toC (Ks.take i)) f + Ks[i].n * f Ks[i].r := by
  rw [toC_take Ks i hi, sumC_app]
  simp only [sumC_cons, sumC_nil, Int.add_zero]
theorem toC_mem {Ks : List Pv} {c : List Vr × Int} (h : c ∈ toC Ks) : ∃ p ∈ Ks, c = (p.r, p.n) := by
  obtain ⟨p, hp, rfl⟩ := List.mem_map.1 h
  exact ⟨p, hp, rfl⟩
/-- The copies are rows with such a column. -/
structure ColOk (Ks : List Pv) (c : Int) : Prop where
  ok : KsOk Ks
  pv : ∀ p ∈ Ks, RngR p.r
  col : ∀ p ∈ Ks, 0 ≤ c ∧ c < p.r.length
theorem colF_bd {r : List Vr} {c : Int} (hr : RngR r) (h0 : 0 ≤ c) (h1 : c < r.length) : -9223372036854775808 ≤ colF c r ∧ colF c r ≤ 9223372036854775807 := hr _ (valAt_mem h0 h1)
theorem part_bd2 {Ks : List Pv} {c : Int} (h : ColOk Ks c) (i : Nat) : -9671406556917033397649408 ≤ sumC (toC (Ks.take i)) (colF c) ∧ sumC (toC (Ks.take i)) (colF c) ≤ 9671406556917033397649408 := by
  have h1 := part_cnt h.ok.pos i
  have h2 := h.ok.full
  rw [← toC_take'] at h1
  have h3 := sum_bd (L := toC (Ks.take i)) (fun x hx => by rw [toC_take'] at hx; exact h.ok.pos x (List.mem_of_mem_take hx)) (colF c) (fun x hx => by
    obtain ⟨p, hp, rfl⟩ := toC_mem hx
    have hp2 := List.mem_of_mem_take hp
    exact colF_bd (h.pv p hp2) (h.col p hp2).1 (h.col p hp2).2)
  omega
theorem inW_of {x : Int} (h : -9671406556917033397649408 ≤ x ∧ x ≤ 9671406556917033397649408) : inW x := by unfold inW; omega
/-- One of the copies, read. -/
theorem HasP.at {w : World} {B : Nat} {b off c : Nat} {n : Nat} {Ks : List Pv} (h : HasP w B (.slice (some ⟨b, off, none⟩) n c) Ks) {i : Nat} (hi : i < Ks.length) {col : Int} (h0 : 0 ≤ col) (h1 : col < (Ks[i]).r.length) :
    ∃ (b2 o2 n2 c2 j : Nat), w.cell? ⟨b, off + i * 2, none⟩ = some (.slice (some ⟨b2, o2, none⟩) n2 c2) ∧ w.cell? ⟨b, off + i * 2 + 1, none⟩ = some (.int .i64 (Ks[i]).n) ∧ col = (j : Int) ∧ j < n2 ∧ b < B ∧ b2 < B ∧
      w.cell? ⟨b2, o2 + j * 3, none⟩ = some (.int .i64 (valAt (Ks[i]).r col).k) ∧ w.cell? ⟨b2, o2 + j * 3 + 1, none⟩ = some (.int .i64 (valAt (Ks[i]).r col).n) ∧ w.cell? ⟨b2, o2 + j * 3 + 2, none⟩ = some (.string (valAt (Ks[i]).r col).s) := by
  obtain ⟨A, c', hv, _, hpo, hc⟩ := h
  injection hv with hv1 hv2 hv3
  obtain ⟨b', off', hbo, hbl, hcell⟩ := hc (by rintro rfl; simp at hi)
  rw [← hv1] at hbo
  injection hbo with hbo
  injection hbo with e1 e2 _
  subst e1 e2
  obtain ⟨e0, e1⟩ := hcell i hi
  obtain ⟨hR, hr, hn⟩ := hpo _ (List.getElem_mem hi)
  obtain ⟨j, rfl⟩ := Int.eq_ofNat_of_zero_le h0
  have hjl : j < (Ks[i]).r.length := by omega
  obtain ⟨A2, c2, hv2', _, hc2⟩ := hR
  obtain ⟨b2, o2, rfl, hb2, hcell2⟩ := hc2 (by intro e; rw [e] at hjl; simp at hjl)
  obtain ⟨q0, q1, q2⟩ := hcell2 j hjl
  have hva : valAt (Ks[i]).r ((j : Nat) : Int) = (Ks[i]).r[j] := by simp [valAt, hjl]
  rw [hva]
  rw [hv2'] at e0
  exact ⟨b2, o2, _, c2, j, e0, e1, rfl, hjl, hbl, hb2, q0, q1, q2⟩
end Go.Proofs.YtnidaahimofppaaGreat
