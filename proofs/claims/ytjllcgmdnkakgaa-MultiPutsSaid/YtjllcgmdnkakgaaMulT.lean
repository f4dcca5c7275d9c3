/- Layer 24 (multi): the thing of a copy, walked (a range over a function). -/
import Derived.Test.YtjllcgmdnkakgaaMulN
namespace Go.Proofs.Ytjllcgmdnkakgaa
open Go.RowKit Go.Shelf
set_option linter.unusedVariables false
set_option linter.unusedSimpArgs false

/-- Copy number i is in none of these. -/
def passL : List En → Int → Prop
  | [], _ => True
  | e :: r, i => ¬ i < e.n ∧ passL r (i - e.n)
theorem passL_snoc (L : List En) (e : En) (i : Int) : passL (L ++ [e]) i ↔ passL L i ∧ ¬ i - cntE L < e.n := by
  induction L generalizing i with
  | nil => simp [passL, cntE]
  | cons a r ih =>
    rw [List.cons_append, passL, passL, ih, cntE_cons]
    have : i - a.n - cntE r = i - (a.n + cntE r) := by omega
    rw [this, and_assoc]
theorem passL_nonneg (L : List En) (i : Int) (h0 : 0 ≤ i) (h : passL L i) : 0 ≤ i - cntE L := by
  induction L generalizing i with
  | nil => simp [cntE]; exact h0
  | cons a r ih =>
    have h1 := h.1
    have := ih (i - a.n) (by omega) h.2
    rw [cntE_cons]
    omega
theorem nthL_pass (L R : List En) (i : Int) (h : passL L i) : nthL (L ++ R) i = nthL R (i - cntE L) := by
  induction L generalizing i with
  | nil => simp [cntE]
  | cons a r ih =>
    rw [List.cons_append, nthL, if_neg h.1, ih _ h.2, cntE_cons]
    congr 1
    omega
abbrev gone (es : List En) (pre : List (Fin es.length)) : List En := pre.map fun x => es[x.1]'x.2
theorem gone_upto (es : List En) (k : Nat) (hk : k ≤ es.length) : gone es (uptoF es.length k) = es.take k := by
  unfold gone uptoF
  apply List.ext_getElem
  · simp
  · intro i h1 h2
    simp
section
attribute [local go_sem] Oper.semAt_some
set_option maxRecDepth 100000 in
set_option maxHeartbeats 4000000 in
theorem Nth_any (w : World) (B g : Nat) (v : Value) (es : List En) (i : Int) (h : MulAt w B g v es) (hmin : -9223372036854775808 ≤ i) (hmax : i ≤ 9223372036854775807) :
    Calls Try.prog 12 #[.pointer (some ⟨g, 0, none⟩), .int .i64 i] w fun e w' => e = .returned (.tuple #[.int .i64 (nthE es i).1, .bool (nthE es i).2]) ∧ Below w.heap.size w w' := by
  refine (callsIn_wide (n := 3)).1 ?_
  refine callsIn_of_wp_marks Try.func12 rfl trivial ?_ rfl
  simp only [Try.ntmps12, List.size_toArray, List.length_cons, List.length_nil, Nat.reduceAdd, Nat.reduceSub, Array.replicate_succ, Array.replicate_zero, List.push_toArray, List.append_toArray, List.nil_append, List.cons_append]
  by_cases hneg : i < 0
  · have hv : nthE es i = (0, false) := if_pos hneg
    rw [hv]
    gi_wp2
    refine ⟨.tuple #[.int .i64 0, .bool false], ?_, rfl, (((Below.refl _ w).alloc (Nat.le_refl _) _).alloc (by simp) _).alloc (by simp; omega) _⟩
    simp [results, Try.f12, go_sem]
  · have hi0 : 0 ≤ i := by omega
    have hv : nthE es i = nthL es i := if_neg hneg
    rw [hv]
    have hlen := h.good.len
    gi_wp2_with (first | (refine ⟨trivial, ?_⟩; gi_at_call 19; refine (All_in Fence.wide _ trivial rfl _ _).mono ?_; rintro e w' ⟨rfl, rfl⟩))
    have b0 := Boxed.new w 3 (.int .i64 i)
    have b1 := Boxed.new (w.alloc (.cells #[.int .i64 i] 3)) 3 (.int .i64 0)
    have b2 := Boxed.new ((w.alloc (.cells #[.int .i64 i] 3)).alloc (.cells #[.int .i64 0] 3)) 4 (.bool false)
    have b3 := Boxed.new (((w.alloc (.cells #[.int .i64 i] 3)).alloc (.cells #[.int .i64 0] 3)).alloc (.cells #[.bool false] 4)) 24 (.pointer (some ⟨g, 0, none⟩))
    rw [World.size_alloc] at b1
    rw [World.size_alloc, World.size_alloc] at b2
    rw [World.size_alloc, World.size_alloc, World.size_alloc] at b3
    have hB4 : Below w.heap.size w ((((w.alloc (.cells #[.int .i64 i] 3)).alloc (.cells #[.int .i64 0] 3)).alloc (.cells #[.bool false] 4)).alloc (.cells #[.pointer (some ⟨g, 0, none⟩)] 24)) := ((((Below.refl _ w).alloc (Nat.le_refl _) _).alloc (by simp) _).alloc (by simp; omega) _).alloc (by simp; omega) _
    have hs4 : ((((w.alloc (.cells #[.int .i64 i] 3)).alloc (.cells #[.int .i64 0] 3)).alloc (.cells #[.bool false] 4)).alloc (.cells #[.pointer (some ⟨g, 0, none⟩)] 24)).heap.size = w.heap.size + 4 := by simp
    have c0 := ((b0.alloc (.cells #[.int .i64 0] 3)).alloc (.cells #[.bool false] 4)).alloc (.cells #[.pointer (some ⟨g, 0, none⟩)] 24)
    have c1 := (b1.alloc (.cells #[.bool false] 4)).alloc (.cells #[.pointer (some ⟨g, 0, none⟩)] 24)
    have c2 := b2.alloc (.cells #[.pointer (some ⟨g, 0, none⟩)] 24)
    clear b0 b1 b2
    generalize ((((w.alloc (.cells #[.int .i64 i] 3)).alloc (.cells #[.int .i64 0] 3)).alloc (.cells #[.bool false] 4)).alloc (.cells #[.pointer (some ⟨g, 0, none⟩)] 24)) = w4 at b3 hB4 hs4 c0 c1 c2 ⊢
    have hgl := h.lt
    have hH4 : HasE w4 w.heap.size v es := h.own.has.below hB4
    have hg4 : w4.cell? ⟨g, 0, none⟩ = some v := (hB4.cell (p := ⟨g, 0, none⟩) hgl).trans h.cells.1
    have hpos := h.good.pos
    clear h hv hneg
    refine wpIn_rangeFunc_ownG rfl (by omega) (gf := 23) (lb := #[.pointer (some ⟨w.heap.size + 1 + 1 + 1, 0, none⟩)]) rfl trivial (enters_of Try.func23 (by kernel_rfl) rfl)
      (all_stops Fence.wide (3 - 1) trivial rfl (by omega) (w.heap.size + 1 + 1 + 1) g w.heap.size v es (by omega) w4 (by omega) (by omega) (by omega) b3.cell hg4 hH4) belowK_t (belowK_b (by omega)) (Below.refl _ _) (fun _ => rfl)
      (fun pre W => (passL (gone es pre) i ∧ W.cell? ⟨w.heap.size, 0, none⟩ = some (.int .i64 (i - cntE (gone es pre))) ∧ W.frozen? ⟨w.heap.size, 0, none⟩ = false ∧ W.cell? ⟨w.heap.size + 1, 0, none⟩ = some (.int .i64 0) ∧ W.frozen? ⟨w.heap.size + 1, 0, none⟩ = false ∧ W.cell? ⟨w.heap.size + 1 + 1, 0, none⟩ = some (.bool false) ∧ W.frozen? ⟨w.heap.size + 1 + 1, 0, none⟩ = false) ∧ Below w.heap.size w W)
      (fun c pre W => (c = .ret ∧ ∃ ini last, pre = ini ++ [last] ∧ passL (gone es ini) i ∧ i - cntE (gone es ini) < (es[last.1]'last.2).n ∧ W.cell? ⟨w.heap.size + 1, 0, none⟩ = some (.int .i64 (es[last.1]'last.2).k) ∧ W.cell? ⟨w.heap.size + 1 + 1, 0, none⟩ = some (.bool true)) ∧ Below w.heap.size w W)
      (OwnFrom.and (Own.from (fun s A B row hs hg hr => ⟨hs.1, cell_kept hs.2.1 hg hr, (frozen_kept hs.2.1 hg hr).trans hs.2.2.1, cell_kept hs.2.2.2.1 hg hr, (frozen_kept hs.2.2.2.1 hg hr).trans hs.2.2.2.2.1, cell_kept hs.2.2.2.2.2.1 hg hr, (frozen_kept hs.2.2.2.2.2.1 hg hr).trans hs.2.2.2.2.2.2⟩) _) (ownFrom_below (Nat.le_refl _) (by omega)))
      (fun c => OwnFrom.and (Own.from (fun s A B row hs hg hr => by obtain ⟨hc, ini, last, e1, e2, e3, e4, e5⟩ := hs; exact ⟨hc, ini, last, e1, e2, e3, cell_kept e4 hg hr, cell_kept e5 hg hr⟩) _) (ownFrom_below (Nat.le_refl _) (by omega)))
      ⟨⟨trivial, by simpa [cntE] using c0.cell, c0.frozen, c1.cell, c1.frozen, c2.cell, c2.frozen⟩, hB4⟩
      (fun x => { tmps := #[.pointer (some ⟨g, 0, none⟩), .int .i64 i, undef, .pointer (some ⟨w.heap.size, 0, none⟩), .pointer (some ⟨w.heap.size + 1, 0, none⟩), .pointer (some ⟨w.heap.size + 1 + 1, 0, none⟩), .int .i64 0, .int .i64 (es[x.1]'x.2).k, .int .i64 (es[x.1]'x.2).n, .int .i64 i, .bool false, undef, .pointer (some ⟨g, 0, none⟩), .func (.func 23) #[] #[.pointer (some ⟨w.heap.size + 1 + 1 + 1, 0, none⟩)], .int .i64 (es[x.1]'x.2).k, .int .i64 (es[x.1]'x.2).n, undef, undef, undef, undef, undef, undef, undef, undef], defers := [] }) ?assign ?body ?done ?stop
    case assign =>
      intro l x W K hK
      gi_wp2
      exact hK
    case body =>
      rintro l pre x W ⟨⟨hp, hci, hfi, hc1, hf1, hc2, hf2⟩, hB⟩ _
      have hnn := passL_nonneg _ i hi0 hp
      have hps := hpos (es[x.1]'x.2) (List.getElem_mem x.2)
      have hcn : 0 ≤ cntE (gone es pre) := by
        have := len_le_cnt (gone es pre) (fun e he => by
          obtain ⟨y, _, rfl⟩ := List.mem_map.1 he
          exact hpos _ (List.getElem_mem y.2))
        omega
      by_cases hx : i - cntE (gone es pre) < (es[x.1]'x.2).n
      · gi_wp2
        refine ⟨((KeepsOthers.setCell _ _ _).trans (KeepsOthers.setCell _ _ _)).from _, ⟨rfl, pre, x, rfl, hp, hx, ?_, ?_⟩, (hB.setCell (p := ⟨w.heap.size + 1, 0, none⟩) (Nat.le_succ _) _).setCell (p := ⟨w.heap.size + 1 + 1, 0, none⟩) (by show w.heap.size ≤ w.heap.size + 1 + 1; omega) _⟩
        · rw [World.cell?_setCell_other _ _ _ _ (by simp)]
          exact World.cell?_setCell_same' _ _ _ (by rw [hc1]; rfl)
        · exact World.cell?_setCell_same' _ _ _ (by rw [World.cell?_setCell_other _ _ _ _ (by simp), hc2]; rfl)
      · have hw : wrap64 (i - cntE (gone es pre) - (es[x.1]'x.2).n) = i - cntE (gone es pre) - (es[x.1]'x.2).n := by simp only [wrap64]; omega
        have hsn : passL (gone es (pre ++ [x])) i ∧ i - cntE (gone es (pre ++ [x])) = i - cntE (gone es pre) - (es[x.1]'x.2).n := by
          unfold gone at *
          rw [List.map_append, List.map_cons, List.map_nil, passL_snoc, cntE_app, cntE_cons, cntE_nil]
          exact ⟨⟨hp, hx⟩, by omega⟩
        gi_wp2
        refine ⟨(KeepsOthers.setCell _ _ _).from _, (Below.refl _ _).setCell (p := ⟨w.heap.size, 0, none⟩) (Nat.le_refl _) _, ⟨hsn.1, ?_, ?_, ?_, ?_, ?_, ?_⟩, hB.setCell (p := ⟨w.heap.size, 0, none⟩) (Nat.le_refl _) _⟩
        · rw [hsn.2]
          exact World.cell?_setCell_same' _ _ _ (by rw [hci]; rfl)
        · rw [World.frozen?_setCell]; exact hfi
        · rw [World.cell?_setCell_other _ _ _ _ (by simp)]; exact hc1
        · rw [World.frozen?_setCell]; exact hf1
        · rw [World.cell?_setCell_other _ _ _ _ (by simp <;> omega)]; exact hc2
        · rw [World.frozen?_setCell]; exact hf2
    case done =>
      rintro D ys W hD rfl ⟨⟨hp, hci, hfi, hc1, hf1, hc2, hf2⟩, hB⟩ hK
      have hfin : nthL es i = (0, false) := by
        have h := nthL_pass (gone es (uptoF es.length es.length)) [] i hp
        rw [gone_upto es es.length (Nat.le_refl _), List.take_length, List.append_nil] at h
        rw [h]
        rfl
      gi_wp2
      have hK' := ((KeepsOthers.setCell W ⟨w.heap.size + 1, 0, none⟩ (.int .i64 0)).trans (KeepsOthers.setCell _ ⟨w.heap.size + 1 + 1, 0, none⟩ (.bool false))).same D _ hK rfl
      refine ⟨by simp, .inl ⟨_, _, rfl, run_takeDeferred hK', ?_⟩⟩
      have q1 := World.cell?_setCell_same' W ⟨w.heap.size + 1, 0, none⟩ (.int .i64 0) (by rw [hc1]; rfl)
      have q1' : ((W.setCell ⟨w.heap.size + 1, 0, none⟩ (.int .i64 0)).setCell ⟨w.heap.size + 1 + 1, 0, none⟩ (.bool false)).cell? ⟨w.heap.size + 1, 0, none⟩ = some (.int .i64 0) := by rw [World.cell?_setCell_other _ _ _ _ (by simp)]; exact q1
      have q2' := World.cell?_setCell_same' (W.setCell ⟨w.heap.size + 1, 0, none⟩ (.int .i64 0)) ⟨w.heap.size + 1 + 1, 0, none⟩ (.bool false) (by rw [World.cell?_setCell_other _ _ _ _ (by simp), hc2]; rfl)
      have r1 := cell_kept q1' (grownBy_putObj' _ D (.deferred none)) (fun r e => by cases e; exact ⟨_, hK', rfl⟩)
      have r2 := cell_kept q2' (grownBy_putObj' _ D (.deferred none)) (fun r e => by cases e; exact ⟨_, hK', rfl⟩)
      try rw [hfin]
      refine ⟨.tuple #[.int .i64 0, .bool false], ?_, rfl, ((hB.setCell (p := ⟨w.heap.size + 1, 0, none⟩) (Nat.le_succ _) _).setCell (p := ⟨w.heap.size + 1 + 1, 0, none⟩) (by show w.heap.size ≤ w.heap.size + 1 + 1; omega) _).trans (belowK_b (w := w) (Nat.le_refl _) _ D _ _ (by omega) hK' rfl rfl)⟩
      simp [results, Try.f12, go_sem, r1, r2]
    case stop =>
      rintro D c pre W hD ⟨k, hk, rfl⟩ ⟨⟨rfl, ini, last, e1, e2, e3, hca, hcb⟩, hB⟩ hK
      obtain ⟨k', rfl⟩ : ∃ k', k = k' + 1 := by
        cases k with
        | zero => simp [uptoF] at e1
        | succ k' => exact ⟨k', rfl⟩
      have hk' : k' < es.length := hk
      rw [uptoF_succ hk'] at e1
      obtain ⟨rfl, e5⟩ := List.append_inj' e1 rfl
      obtain rfl : (⟨k', hk'⟩ : Fin es.length) = last := by simpa using e5
      have hfin : nthL es i = (es[k'].k, true) := by
        rw [gone_upto es k' (by omega)] at e2 e3
        have h := nthL_pass (es.take k') (es.drop k') i e2
        rw [List.take_append_drop, List.drop_eq_getElem_cons hk', nthL, if_pos e3] at h
        exact h
      gi_wp2
      refine ⟨by simp, .inl ⟨_, _, rfl, run_takeDeferred hK, ?_⟩⟩
      have r1 := cell_kept hca (grownBy_putObj' _ D (.deferred none)) (fun r e => by cases e; exact ⟨_, hK, rfl⟩)
      have r2 := cell_kept hcb (grownBy_putObj' _ D (.deferred none)) (fun r e => by cases e; exact ⟨_, hK, rfl⟩)
      try rw [hfin]
      refine ⟨.tuple #[.int .i64 es[k'].k, .bool true], ?_, rfl, hB.trans (belowK_b (w := w) (Nat.le_refl _) W D _ _ (by omega) hK rfl rfl)⟩
      simp [results, Try.f12, go_sem, r1, r2]
end
end Go.Proofs.Ytjllcgmdnkakgaa
