/- Layer 26 (tally): Put at a multi of values, walked. -/
import Derived.Test.YtnidaahimofppaaGreatQpaw
namespace Go.Proofs.YtnidaahimofppaaGreat
open Go.RowKit
set_option linter.unusedVariables false
set_option linter.unusedSimpArgs false

/-- Only the multi's own blocks have changed, and none below B. -/
structure PutW (B g : Nat) (v : Value) (w w' : World) : Prop where
  bel : Below B w w'
  size : w.heap.size ≤ w'.heap.size
  oth : ∀ (k : Nat) (arr : Array Value) (ty : TypeId) (fr : Nat × Nat), w.heap[k]? = some (.cells arr ty fr) → ty ≠ 117 → ty ≠ 183 → w'.heap[k]? = some (.cells arr ty fr)
  fr : ∀ k, k < w.heap.size → k ≠ g → some k ≠ v.ownBlock → w'.heap[k]? = w.heap[k]?
theorem PutW.refl (B g : Nat) (v : Value) (w : World) : PutW B g v w w := ⟨Below.refl _ _, Nat.le_refl _, fun _ _ _ _ h _ _ => h, fun _ _ _ _ => rfl⟩
theorem PutW.trans {B g : Nat} {v : Value} {w w1 w2 : World} (h : PutW B g v w w1) (h2 : PutW B g v w1 w2) : PutW B g v w w2 :=
  ⟨h.bel.trans h2.bel, Nat.le_trans h.size h2.size, fun k a t f hk h1 h3 => h2.oth k a t f (h.oth k a t f hk h1 h3) h1 h3, fun k hk h1 h3 => (h2.fr k (Nat.lt_of_lt_of_le hk h.size) h1 h3).trans (h.fr k hk h1 h3)⟩
theorem PutW.ofBelow {B g : Nat} {v : Value} {w w1 : World} (hb : Below w.heap.size w w1) (hB : B ≤ w.heap.size) : PutW B g v w w1 :=
  ⟨hb.mono hB, hb.size, fun k a t f hk _ _ => by rw [hb.block k (Array.getElem?_eq_some_iff.1 hk).1]; exact hk, fun k hk _ _ => hb.block k hk⟩
/-- A store into a block of the multi's own. -/
theorem PutW.ofRow {B g0 : Nat} {v : Value} {w : World} {g : Nat} {cur : Array Value} {ty : TypeId} {fr : Nat × Nat} (hg : w.heap[g]? = some (.cells cur ty fr)) (ht : ty = 117 ∨ ty = 183) (hB : B ≤ g) (hq : g = g0 ∨ some g = v.ownBlock) (c2 : Array Value) : PutW B g0 v w (w.setRow g c2) := by
  refine ⟨⟨rfl, rfl, rfl, by rw [setRow_size]; exact Nat.le_refl _, fun k hk => setRow_other _ _ _ _ (by omega)⟩, by rw [setRow_size]; exact Nat.le_refl _, ?_, fun k _ h1 h2 => setRow_other _ _ _ _ (fun e => hq.elim (fun h => h1 (e.trans h)) (fun h => h2 (by rw [e]; exact h)))⟩
  intro k a t f hk h1 h2
  rw [setRow_other _ _ _ _ ?_]
  · exact hk
  · rintro rfl
    rw [hg] at hk
    injection hk with hk
    injection hk with _ h3 _
    subst h3
    rcases ht with h | h
    · exact h1 h
    · exact h2 h
theorem OwnE.typ {w : World} {B k : Nat} {v : Value} {es : List En} (h : OwnE w B v es) (hk : v.ownBlock = some k) : ∃ arr, w.heap[k]? = some (.cells arr 183 (0, 0)) := by
  rcases h.2 with ⟨rfl, _⟩ | ⟨g, cap, cur, rfl, _, h3, _⟩
  · simp [Value.ownBlock] at hk
  · have : g = k := by simpa [Value.ownBlock] using hk
    subst this
    exact ⟨cur, h3⟩
theorem PutW.ofGrown {B g : Nat} {w w1 : World} {v : Value} {es : List En} (hO : OwnE w B v es) (hg : w.grownBy w1 v.ownBlock) (hB : B ≤ w.heap.size) : PutW B g v w w1 := by
  refine ⟨⟨hg.os, hg.tape, hg.output, hg.size, fun k hk => hg.block k (by omega) (fun e => by have := hO.base k e.symm; omega)⟩, hg.size, ?_, fun k hk _ h2 => hg.block k hk h2⟩
  intro k a t f hk h1 h2
  rw [hg.block k (Array.getElem?_eq_some_iff.1 hk).1 ?_]
  · exact hk
  · intro e
    obtain ⟨arr, h3⟩ := hO.typ e.symm
    rw [hk] at h3
    injection h3 with h3
    injection h3 with _ h4 _
    exact h2 h4
/-- The number of an entry is written. -/
theorem own_set {w : World} {B b c i : Nat} {es : List En} (hO : OwnE w B (.slice (some ⟨b, 0, none⟩) es.length c) es) (hi : i < es.length) (m : Int) :
    ∃ cur c2, w.heap[b]? = some (.cells cur 183 (0, 0)) ∧ w.setCell ⟨b, i * 4 + 3, none⟩ (.int .i64 m) = w.setRow b c2 ∧ OwnE (w.setRow b c2) B (.slice (some ⟨b, 0, none⟩) es.length c) (es.take i ++ [⟨es[i].v, m⟩] ++ es.drop (i + 1)) := by
  rcases hO.2 with ⟨h, _⟩ | ⟨g, cap, cur, hv, hb, hg, hc, hm, hs, ht⟩
  · cases h
  · injection hv with h1 h2 h3
    injection h1 with h1
    injection h1 with h1
    subst h1 h3
    refine ⟨cur, cur.setIfInBounds (i * 4 + 3) (.int .i64 m), hg, setCell_eq_setRow w b (i * 4 + 3) cur _ _ _ hg, ?_⟩
    have hln : (es.take i ++ [(⟨es[i].v, m⟩ : En)] ++ es.drop (i + 1)).length = es.length := by simp; omega
    refine ⟨by rw [hln, enC_len, hln], .inr ⟨b, c, _, by rw [hln], hb, setRow_heap w b cur _ _ _ hg, by rw [hln]; exact hc, hm, by simpa using hs, ?_⟩⟩
    rw [hln, Array.toList_setIfInBounds]
    apply List.ext_getElem?
    intro j
    have hcj : ∀ j, j < es.length * 4 → cur.toList[j]? = (enC es)[j]? := fun j hj => by rw [← ht, List.getElem?_take_of_lt hj]
    have h3 : enC (es.take i ++ [(⟨es[i].v, m⟩ : En)] ++ es.drop (i + 1)) = (enC es).take (i * 4) ++ [Value.int .i64 es[i].v.k, Value.int .i64 es[i].v.n, Value.string es[i].v.s, Value.int .i64 m] ++ (enC es).drop ((i + 1) * 4) := by
      rw [enC_app, enC_app, enC_take, enC_drop, enC_one]
      rfl
    rw [h3]
    have hel : (enC es).length = es.length * 4 := enC_len es
    obtain ⟨q0, q1, q2, q3⟩ := enC_at es i hi
    have htl : ((enC es).take (i * 4)).length = i * 4 := by rw [List.length_take, hel]; omega
    rcases Nat.lt_or_ge j (es.length * 4) with hj | hj
    · rw [List.getElem?_take_of_lt hj, List.getElem?_set]
      by_cases e1 : i * 4 + 3 = j
      · subst e1
        rw [if_pos rfl, if_pos (by rw [Array.length_toList]; omega), List.append_assoc, List.getElem?_append_right (by omega), htl, show i * 4 + 3 - i * 4 = 3 by omega]
        rfl
      · rw [if_neg e1, hcj j hj]
        rcases Nat.lt_or_ge j (i * 4) with h5 | h5
        · rw [List.append_assoc, List.getElem?_append_left (by omega), List.getElem?_take_of_lt h5]
        · by_cases e2 : j = i * 4
          · subst e2
            rw [q0, List.append_assoc, List.getElem?_append_right (by omega), htl, Nat.sub_self]
            rfl
          · by_cases e3 : j = i * 4 + 1
            · subst e3
              rw [q1, List.append_assoc, List.getElem?_append_right (by omega), htl, show i * 4 + 1 - i * 4 = 1 by omega]
              rfl
            · by_cases e4 : j = i * 4 + 2
              · subst e4
                rw [q2, List.append_assoc, List.getElem?_append_right (by omega), htl, show i * 4 + 2 - i * 4 = 2 by omega]
                rfl
              · rw [List.getElem?_append_right (by rw [List.length_append, htl]; simp; omega), List.length_append, htl, List.getElem?_drop]
                congr 1
                simp
                omega
    · rw [← h3]
      exact (List.getElem?_eq_none (by rw [List.length_take]; omega)).trans (List.getElem?_eq_none (by rw [enC_len, hln]; omega)).symm
/-- The new entries are stored. -/
theorem fin_store {w w5 : World} {B g : Nat} {v v5 : Value} {es' : List En} {c : Int} (hbx : w5.heap[g]? = some (.cells #[v, fnCmp, .int .i64 c] 117 (0, 0))) (hO : OwnE w5 B v5 es') (hG : GoodE es') (hc : c = cntE es') (hB : B ≤ g) (hP : PutW B g v w w5) :
    MulAt (w5.setCell ⟨g, 0, none⟩ v5) B g v5 es' ∧ PutW B g v w (w5.setCell ⟨g, 0, none⟩ v5) := by
  have hrow : w5.setCell ⟨g, 0, none⟩ v5 = w5.setRow g #[v5, fnCmp, .int .i64 c] := setCell_eq_setRow w5 g 0 _ _ _ _ hbx
  have hne : some g ≠ v5.ownBlock := fun e => by
    obtain ⟨arr, h3⟩ := hO.typ e.symm
    rw [hbx] at h3
    injection h3 with h3
    injection h3 with _ h4 _
    exact absurd h4 (by decide)
  rw [hrow]
  refine ⟨⟨hB, by rw [← hc]; exact setRow_heap w5 g _ _ _ _ hbx, ?_, hne, hG⟩, hP.trans (PutW.ofRow hbx (.inl rfl) hB (.inl rfl) _)⟩
  refine ⟨hO.1, ?_⟩
  rcases hO.2 with h2 | ⟨g', cap, cur, h1, h2, h3, h4⟩
  · exact .inl h2
  · refine .inr ⟨g', cap, cur, h1, h2, ?_, h4⟩
    rw [setRow_other _ _ _ _ (fun e => hne (by rw [h1, e]; rfl))]
    exact h3
/-- What Put leaves. -/
def PutP (B g : Nat) (v : Value) (es : List En) (k : Vr) (n : Int) (w : World) (e : Ending) (w' : World) : Prop :=
  ∃ v', e = .returned (.int .i64 (putE es k n).1) ∧ MulAt w' B g v' (putE es k n).2 ∧ PutW B g v w w' ∧ SameB w v v'
set_option maxRecDepth 100000 in
set_option maxHeartbeats 2000000 in
theorem Put_any (w : World) (B g : Nat) (v : Value) (es : List En) (k : Vr) (n : Int) (hk : okV k) (h : MulAt w B g v es) :
    Calls Tryz.prog 99 #[.pointer (some ⟨g, 0, none⟩), va k.k k.n k.s, .int .i64 n] w (PutP B g v es k n w) := by
  obtain ⟨w0, hw0⟩ : ∃ w0, w0 = w.alloc (.cells #[.int .i64 k.k, .int .i64 k.n, .string k.s] 68) := ⟨_, rfl⟩
  have hb0 : Below w.heap.size w w0 := by rw [hw0]; exact (Below.refl _ _).alloc (Nat.le_refl _) _
  have hbox : w0.heap[w.heap.size]? = some (.cells #[.int .i64 k.k, .int .i64 k.n, .string k.s] 68 (0, 0)) := by rw [hw0]; exact Array.getElem?_push_size
  have hBw : B ≤ w.heap.size := by have := h.base; have := h.lt; omega
  have HP0 : Kept (PutW B g v w w0) := ⟨PutW.ofBelow hb0 hBw⟩
  have HM : Kept (MulAt w0 B g v es) := ⟨h.below hb0⟩
  have hB : Kept (B ≤ w0.heap.size) := ⟨Nat.le_trans hBw hb0.size⟩
  have HK : Kept (∀ w', PutW B g v w0 w' → w'.cell? ⟨w.heap.size, 0, none⟩ = some (.int .i64 k.k) ∧ w'.cell? ⟨w.heap.size, 1, none⟩ = some (.int .i64 k.n) ∧ w'.cell? ⟨w.heap.size, 2, none⟩ = some (.string k.s) ∧ w.heap.size < w'.heap.size) := ⟨fun w' hp => by
    have hx := hp.oth _ _ _ _ hbox (by decide) (by decide)
    exact ⟨by simp [World.cell?, hx], by simp [World.cell?, hx], by simp [World.cell?, hx], (Array.getElem?_eq_some_iff.1 hx).1⟩⟩
  obtain ⟨k0, k1, k2, ks⟩ := HK.out w0 (PutW.refl _ _ _ _)
  have ho0 := ofE_nonneg es k hk h.good
  have ho1 := ofE_le es k hk h.good
  have hc0 := cnt_nonneg es h.good
  have hc1 := h.good.cnt
  clear h hb0 hbox hBw
  by_cases cA : n > 1048576 ∨ n < -1048576
  · have hv : Kept (putE es k n = (2, es)) := ⟨if_pos cA⟩
    clear ho0 ho1 hc0 hc1
    by_cases cA1 : 1048576 < n
    · clear cA
      go_enter Tryz.func99, Tryz.ntmps99
      go_upto_region 1 with fail
      rw [← hw0]
      clear hw0
      go_wp2_with fail
      go_returns
      exact ⟨v, by rw [hv.out]; rfl, by rw [hv.out]; exact HM.out, HP0.out, .inl rfl⟩
    · have cA2 : n < -1048576 := by omega
      clear cA
      go_enter Tryz.func99, Tryz.ntmps99
      go_upto_region 1 with fail
      rw [← hw0]
      clear hw0
      go_wp2_with fail
      go_returns
      exact ⟨v, by rw [hv.out]; rfl, by rw [hv.out]; exact HM.out, HP0.out, .inl rfl⟩
  · have a1 : ¬ 1048576 < n := by omega
    have a2 : ¬ n < -1048576 := by omega
    have hw1 : wrap64 (ofE es k + n) = ofE es k + n := by simp only [wrap64]; omega
    have hw2 : wrap64 (cntE es + n) = cntE es + n := by simp only [wrap64]; omega
    by_cases cB : ofE es k + n < 0
    · have hv : Kept (putE es k n = (20, es)) := ⟨by unfold putE; rw [if_neg cA, if_pos cB]⟩
      clear cA ho0 ho1 hc0 hc1
      go_enter Tryz.func99, Tryz.ntmps99
      go_upto_region 1 with fail
      rw [← hw0]
      clear hw0
      go_wp2_with (first | (go_at_call 102; refine (Of_any w0 B g v es k hk HM.out).mono ?_; rintro e w1 ⟨rfl, hb1⟩; have HB1 := Kept.mk hb1; clear hb1))
      go_returns
      exact ⟨v, by rw [hv.out]; rfl, by rw [hv.out]; exact HM.out.below HB1.out, HP0.out.trans (PutW.ofBelow HB1.out hB.out), .inl rfl⟩
    · by_cases cC : cntE es + n > 1048576
      · have hv : Kept (putE es k n = (7, es)) := ⟨by unfold putE; rw [if_neg cA, if_neg cB, if_pos cC]⟩
        have cC' : 1048576 < cntE es + n := by omega
        clear cA ho0 ho1 hc0 hc1 cC
        go_enter Tryz.func99, Tryz.ntmps99
        go_upto_region 1 with fail
        rw [← hw0]
        clear hw0
        go_wp2_with (first | (go_at_call 102; refine (Of_any w0 B g v es k hk HM.out).mono ?_; rintro e w1 ⟨rfl, hb1⟩; have HB1 := Kept.mk hb1; obtain ⟨_, _, q2, _, _⟩ := (HM.out.below hb1).cells; clear hb1))
        go_returns
        exact ⟨v, by rw [hv.out]; rfl, by rw [hv.out]; exact HM.out.below HB1.out, HP0.out.trans (PutW.ofBelow HB1.out hB.out), .inl rfl⟩
      · have hv : Kept (putE es k n = (0, putL es k n)) := ⟨by unfold putE; rw [if_neg cA, if_neg cB, if_neg cC]⟩
        have HG : Kept (GoodE (putL es k n) ∧ cntE (putL es k n) = cntE es + n) := ⟨putL_good es k hk n HM.out.good (by omega) (by omega)⟩
        have cC' : ¬ 1048576 < cntE es + n := by omega
        clear cA cC
        go_enter Tryz.func99, Tryz.ntmps99
        go_upto_region 1 with fail
        rw [← hw0]
        clear hw0
        go_wp2_with (first | (go_at_call 102; refine (Of_any w0 B g v es k hk HM.out).mono ?_; rintro e w1 ⟨rfl, hb1⟩; have HB1 := Kept.mk hb1; have HM1 := Kept.mk (HM.out.below hb1); obtain ⟨_, _, q2, _, _⟩ := (HM.out.below hb1).cells; obtain ⟨k0', k1', k2', ks'⟩ := HK.out _ (PutW.ofBelow hb1 hB.out); clear hb1))
        go_at_call 103
        refine (place_any w1 B g v es k hk HM1.out).mono ?_
        rintro e w2 ⟨rfl, hb2⟩
        have HM2 := Kept.mk (HM1.out.below hb2)
        have HP2 := Kept.mk ((PutW.ofBelow (g := g) (v := v) HB1.out hB.out).trans (PutW.ofBelow hb2 (by have := HM1.out.base; have := HM1.out.lt; omega)))
        obtain ⟨p0, _, p2, pf0, pf2⟩ := HM2.out.cells
        clear hb2 HM1 HB1 q2
        go_upto_region 12 with fail
        have hrow : w2.setCell ⟨g, 2, none⟩ (.int .i64 (cntE es + n)) = w2.setRow g #[v, fnCmp, .int .i64 (cntE es + n)] := setCell_eq_setRow w2 g 2 _ _ _ _ HM2.out.box
        obtain ⟨w3, hw3⟩ : ∃ w3, w3 = w2.setCell ⟨g, 2, none⟩ (.int .i64 (cntE es + n)) := ⟨_, rfl⟩
        rewrite [← hw3]
        rw [hrow] at hw3
        have hb3 : w3.heap[g]? = some (.cells #[v, fnCmp, .int .i64 (cntE es + n)] 117 (0, 0)) := by rw [hw3]; exact setRow_heap w2 g _ _ _ _ HM2.out.box
        have hP3 : PutW B g v w0 w3 := by rw [hw3]; exact HP2.out.trans (PutW.ofRow HM2.out.box (.inl rfl) HM2.out.base (.inl rfl) _)
        have hO3 : OwnE w3 B v es := by
          rw [hw3]
          refine ⟨HM2.out.own.1, ?_⟩
          rcases HM2.out.own.2 with h2 | ⟨g', cap, cur, h1, h2, h3, h4⟩
          · exact .inl h2
          · refine .inr ⟨g', cap, cur, h1, h2, ?_, h4⟩
            rw [setRow_other _ _ _ _ (fun e => HM2.out.ne (by rw [h1, e]; rfl))]
            exact h3
        have HWW : Kept (w.heap.size ≤ w3.heap.size) := ⟨Nat.le_trans HP0.out.size hP3.size⟩
        have HB3 := Kept.mk hb3
        have HP3 := Kept.mk hP3
        have HO3 := Kept.mk hO3
        obtain ⟨k0'', k1'', k2'', ks''⟩ := HK.out _ hP3
        have s0 : w3.cell? ⟨g, 0, none⟩ = some v := by simp [World.cell?, hb3]
        have sf : w3.frozen? ⟨g, 0, none⟩ = false := by simp [World.frozen?, hb3]
        have HLT : Kept (g < w3.heap.size) := ⟨(Array.getElem?_eq_some_iff.1 hb3).1⟩
        have HNE := Kept.mk HM.out.ne
        have HBG := Kept.mk HM.out.base
        have HLN := Kept.mk HM.out.good.len
        clear hw3 hrow hb3 hP3 hO3 p0 p2 pf0 pf2 HP2 HM2 ho0 ho1 hc0 hc1
        by_cases cn : n = 0
        · subst cn
          have hp : Kept (putL es k 0 = es) := ⟨by unfold putL; rw [if_pos rfl]⟩
          go_wp2_with fail
          go_returns
          refine ⟨v, by rw [hv.out]; rfl, ?_, HP0.out.trans HP3.out, .inl rfl⟩
          rw [hv.out]
          show MulAt w3 B g v (putL es k 0)
          rw [hp.out]
          refine ⟨HBG.out, ?_, HO3.out, HNE.out, HM.out.good⟩
          have h := HB3.out
          rw [Int.add_zero] at h
          exact h
        · have cn' : (n == 0) = false := by simp [cn]
          have HN0 := Kept.mk cn
          clear cn
          cases hi : isE es k with
          | false =>
            have hp : Kept (putL es k n = es.take (posE es k) ++ [(⟨k, n⟩ : En)] ++ es.drop (posE es k)) := ⟨by unfold putL; rw [if_neg HN0.out, hi, if_neg (by simp)]; unfold midE; rw [Nat.add_zero]⟩
            have HI := Kept.mk hi
            clear hi
            obtain ⟨A, c, rfl, _, _⟩ := HO3.out.has
            have KI : Kept (Calls Tryz.prog 104 #[.slice A es.length c, .int .i64 (posE es k : Nat), .slice (some ⟨w3.heap.size, 0, none⟩) 1 1] (w3.drew.alloc (.cells #[.int .i64 k.k, .int .i64 k.n, .string k.s, .int .i64 n] 183)) (fun e w5 => ∃ A5 c5, e = .returned (.slice A5 (putL es k n).length c5) ∧ w5.cell? ⟨g, 0, none⟩ = some (.slice A es.length c) ∧ w5.frozen? ⟨g, 0, none⟩ = false ∧ Kept (MulAt (w5.setCell ⟨g, 0, none⟩ (.slice A5 (putL es k n).length c5)) B g (.slice A5 (putL es k n).length c5) (putL es k n) ∧ PutW B g (.slice A es.length c) w0 (w5.setCell ⟨g, 0, none⟩ (.slice A5 (putL es k n).length c5)) ∧ SameB w (.slice A es.length c) (.slice A5 (putL es k n).length c5)))) := ⟨by
              have hbd : Below w3.heap.size w3 (w3.drew.alloc (.cells #[.int .i64 k.k, .int .i64 k.n, .string k.s, .int .i64 n] 183)) := ((Below.refl _ _).drew).alloc (Nat.le_refl _) _
              have hsz : (w3.drew.alloc (.cells #[.int .i64 k.k, .int .i64 k.n, .string k.s, .int .i64 n] 183)).heap.size = w3.heap.size + 1 := World.size_alloc _ _
              refine (ins_any es (⟨k, n⟩ : En) _ (posE es k) w3.heap.size B (posE_le es k) (by have := HLN.out; omega) _ (HO3.out.below hbd) (by rw [hsz]; have := HBG.out; have := HLT.out; omega) Array.getElem?_push_size (fun e => by
                obtain ⟨arr, h3⟩ := HO3.out.typ e.symm
                have := (Array.getElem?_eq_some_iff.1 h3).1
                omega)).mono ?_
              rintro e w5 ⟨v5, rfl, hO5, hG5, hSB⟩
              have hb5 : w5.heap[g]? = some (.cells #[.slice A es.length c, fnCmp, .int .i64 (cntE es + n)] 117 (0, 0)) := by
                rw [hG5.block g (by rw [hsz]; have := HLT.out; omega) HNE.out, hbd.block g HLT.out]
                exact HB3.out
              have hPW : PutW B g (.slice A es.length c) w0 w5 := HP3.out.trans ((PutW.ofBelow hbd (by have := HBG.out; have := HLT.out; omega)).trans (PutW.ofGrown (HO3.out.below hbd) hG5 (by rw [hsz]; have := HBG.out; have := HLT.out; omega)))
              rw [← hp.out] at hO5
              obtain ⟨A5, c5, rfl, _, _⟩ := hO5.has
              exact ⟨A5, c5, rfl, by simp [World.cell?, hb5], by simp [World.frozen?, hb5], ⟨by obtain ⟨q1, q2⟩ := fin_store hb5 hO5 HG.out.1 HG.out.2.symm HBG.out hPW; exact ⟨q1, q2, hSB.imp id (fun h k hk => by have := h k hk; rw [hsz] at this; have := HWW.out; omega)⟩⟩⟩⟩
            have hgl3 := HLT.out
            go_upto_region 14 with fail
            go_region_with (first | (go_at_call 104; refine KI.out.mono ?_; rintro e w5 ⟨A5, c5, rfl, t0, tf, HFIN⟩; clear s0 sf))
            all_goals go_wp2_with fail
            all_goals go_returns
            all_goals
              refine ⟨.slice A5 (putL es k n).length c5, by rw [hv.out]; rfl, ?_, HP0.out.trans HFIN.out.2.1, HFIN.out.2.2⟩
              rw [hv.out]
              exact HFIN.out.1
          | true =>
            obtain ⟨hpl, hke, ho⟩ := isE_at hi
            have hkv : es[posE es k].v = k := vcode_inj _ _ (HM.out.good.ok _ (List.getElem_mem hpl)).1 hk.1 (HM.out.good.ok _ (List.getElem_mem hpl)).2 hk.2 hke
            have HI := Kept.mk hi
            have hown := HO3.out
            rcases hown.2 with ⟨_, h0⟩ | ⟨b, cap, cur, rfl, hbB, hbh, hbc, hbm, hbs, hbt⟩
            · omega
            · have hcell : w3.cell? ⟨b, posE es k * 4 + 3, none⟩ = some (.int .i64 (ofE es k)) := by
                rw [ho, row_cell hbh, ← (enC_at es _ hpl).2.2.2, ← hbt, List.getElem?_take_of_lt (by omega)]
              have hfro : w3.frozen? ⟨b, posE es k * 4 + 3, none⟩ = false := by simp [World.frozen?, hbh]
              have f0 : 0 ≤ ((posE es k : Nat) : Int) := by omega
              have f1 : ((posE es k : Nat) : Int) < (es.length : Int) := by omega
              have fw : wrap64 (((posE es k : Nat) : Int) + 1) = ((posE es k : Nat) : Int) + 1 := by have := HLN.out; simp only [wrap64]; omega
              have HPL := Kept.mk hpl
              by_cases cz : ofE es k + n = 0
              · have hp : Kept (putL es k n = es.take (posE es k) ++ es.drop (posE es k + 1)) := ⟨by unfold putL; rw [if_neg HN0.out, HI.out, if_pos rfl, if_pos cz]; unfold midE; rw [List.append_nil]⟩
                have cz' : (ofE es k + n == 0) = true := by rw [beq_iff_eq]; exact cz
                clear hi hke hkv ho hbh hbm hbs hbt hbc hbB hown hpl
                go_wp2_with fail
                go_at_call 105
                refine (del_any es _ (posE es k) B HPL.out (by have := HLN.out; omega) w3 HO3.out).mono ?_
                rintro e w5 ⟨v5, rfl, hO5, hG5, hSB⟩
                have hb5 : w5.heap[g]? = some (.cells #[.slice (some ⟨b, 0, none⟩) es.length cap, fnCmp, .int .i64 (cntE es + n)] 117 (0, 0)) := by
                  rw [hG5.block g HLT.out HNE.out]
                  exact HB3.out
                have hPW : PutW B g (.slice (some ⟨b, 0, none⟩) es.length cap) w0 w5 := HP3.out.trans (PutW.ofGrown HO3.out hG5 (by have := HBG.out; have := HLT.out; omega))
                rw [← hp.out] at hO5
                obtain ⟨A5, c5, rfl, _, _⟩ := hO5.has
                have HFIN := Kept.mk (fin_store hb5 hO5 HG.out.1 HG.out.2.symm HBG.out hPW)
                have HSB : Kept (SameB w (.slice (some ⟨b, 0, none⟩) es.length cap) (.slice A5 (putL es k n).length c5)) := ⟨hSB.imp id (fun h k hk => by have := h k hk; have := HWW.out; omega)⟩
                have t0 : w5.cell? ⟨g, 0, none⟩ = some (.slice (some ⟨b, 0, none⟩) es.length cap) := by simp [World.cell?, hb5]
                have tf : w5.frozen? ⟨g, 0, none⟩ = false := by simp [World.frozen?, hb5]
                clear hb5 hO5 hG5 hPW hSB s0 sf hcell hfro
                go_wp2_with fail
                go_returns
                refine ⟨.slice A5 (putL es k n).length c5, by rw [hv.out]; rfl, ?_, HP0.out.trans HFIN.out.2, HSB.out⟩
                rw [hv.out]
                exact HFIN.out.1
              · have hp : Kept (putL es k n = es.take (posE es k) ++ [(⟨k, ofE es k + n⟩ : En)] ++ es.drop (posE es k + 1)) := ⟨by unfold putL; rw [if_neg HN0.out, HI.out, if_pos rfl, if_neg cz]; unfold midE; exact Eq.refl _⟩
                have cz' : (ofE es k + n == 0) = false := by rw [beq_eq_false_iff_ne]; exact cz
                obtain ⟨cur', c2, hq1, hq2, hq3⟩ := own_set hown hpl (ofE es k + n)
                have hgb : g ≠ b := fun e => HNE.out (by rw [e]; rfl)
                rw [hkv] at hq3
                rw [← hp.out] at hq3
                have HFIN : Kept (MulAt (w3.setCell ⟨b, posE es k * 4 + 3, none⟩ (.int .i64 (ofE es k + n))) B g (.slice (some ⟨b, 0, none⟩) es.length cap) (putL es k n) ∧ PutW B g (.slice (some ⟨b, 0, none⟩) es.length cap) w0 (w3.setCell ⟨b, posE es k * 4 + 3, none⟩ (.int .i64 (ofE es k + n)))) := ⟨by
                  rw [hq2]
                  refine ⟨⟨HBG.out, ?_, hq3, HNE.out, HG.out.1⟩, HP3.out.trans (PutW.ofRow hq1 (.inr rfl) hbB (.inr rfl) _)⟩
                  rw [setRow_other _ _ _ _ hgb, HG.out.2]
                  exact HB3.out⟩
                clear hi hke hkv ho hbh hbm hbs hbt hbc hbB hown hq1 hq2 hq3 cz
                go_wp2_with fail
                go_returns
                refine ⟨.slice (some ⟨b, 0, none⟩) es.length cap, by rw [hv.out]; rfl, ?_, HP0.out.trans HFIN.out.2, .inl rfl⟩
                rw [hv.out]
                exact HFIN.out.1
end Go.Proofs.YtnidaahimofppaaGreat
