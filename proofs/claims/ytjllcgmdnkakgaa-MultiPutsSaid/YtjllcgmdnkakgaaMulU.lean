/- Layer 24 (multi): Put, walked. -/
import Derived.Test.YtjllcgmdnkakgaaMulM
namespace Go.Proofs.Ytjllcgmdnkakgaa
open Go.RowKit
set_option linter.unusedVariables false
set_option linter.unusedSimpArgs false

/-- Only blocks of a multi's own kinds have changed, and none below B. -/
structure PutW (B : Nat) (w w' : World) : Prop where
  bel : Below B w w'
  size : w.heap.size ≤ w'.heap.size
  oth : ∀ (k : Nat) (arr : Array Value) (ty : TypeId) (fr : Nat × Nat), w.heap[k]? = some (.cells arr ty fr) → ty ≠ 49 → ty ≠ 52 → w'.heap[k]? = some (.cells arr ty fr)
theorem PutW.refl (B : Nat) (w : World) : PutW B w w := ⟨Below.refl _ _, Nat.le_refl _, fun _ _ _ _ h _ _ => h⟩
theorem PutW.trans {B : Nat} {w w1 w2 : World} (h : PutW B w w1) (h2 : PutW B w1 w2) : PutW B w w2 :=
  ⟨h.bel.trans h2.bel, Nat.le_trans h.size h2.size, fun k a t f hk h1 h3 => h2.oth k a t f (h.oth k a t f hk h1 h3) h1 h3⟩
theorem PutW.ofBelow {B : Nat} {w w1 : World} (hb : Below w.heap.size w w1) (hB : B ≤ w.heap.size) : PutW B w w1 :=
  ⟨hb.mono hB, hb.size, fun k a t f hk _ _ => by rw [hb.block k (Array.getElem?_eq_some_iff.1 hk).1]; exact hk⟩
/-- A store into a block of the multi's own. -/
theorem PutW.ofRow {B : Nat} {w : World} {g : Nat} {cur : Array Value} {ty : TypeId} {fr : Nat × Nat} (hg : w.heap[g]? = some (.cells cur ty fr)) (ht : ty = 49 ∨ ty = 52) (hB : B ≤ g) (c2 : Array Value) : PutW B w (w.setRow g c2) := by
  refine ⟨⟨rfl, rfl, rfl, by rw [setRow_size]; exact Nat.le_refl _, fun k hk => setRow_other _ _ _ _ (by omega)⟩, by rw [setRow_size]; exact Nat.le_refl _, ?_⟩
  intro k a t f hk h1 h2
  rw [setRow_other _ _ _ _ ?_]
  · exact hk
  · rintro rfl
    rw [hg] at hk
    injection hk with hk
    injection hk with _ h3 _
    subst h3
    rcases ht with h | h
    · exact h1 h
    · exact h2 h
theorem OwnE.typ {w : World} {B k : Nat} {v : Value} {es : List En} (h : OwnE w B v es) (hk : v.ownBlock = some k) : ∃ arr, w.heap[k]? = some (.cells arr 52 (0, 0)) := by
  rcases h.2 with ⟨rfl, _⟩ | ⟨g, cap, cur, rfl, _, h3, _⟩
  · simp [Value.ownBlock] at hk
  · have : g = k := by simpa [Value.ownBlock] using hk
    subst this
    exact ⟨cur, h3⟩
theorem PutW.ofGrown {B : Nat} {w w1 : World} {v : Value} {es : List En} (hO : OwnE w B v es) (hg : w.grownBy w1 v.ownBlock) (hB : B ≤ w.heap.size) : PutW B w w1 := by
  refine ⟨⟨hg.os, hg.tape, hg.output, hg.size, fun k hk => hg.block k (by omega) (fun e => by have := hO.base k e.symm; omega)⟩, hg.size, ?_⟩
  intro k a t f hk h1 h2
  rw [hg.block k (Array.getElem?_eq_some_iff.1 hk).1 ?_]
  · exact hk
  · intro e
    obtain ⟨arr, h3⟩ := hO.typ e.symm
    rw [hk] at h3
    injection h3 with h3
    injection h3 with _ h4 _
    exact h2 h4
/-- One number of an entry is written. -/
theorem own_set {w : World} {B b c i : Nat} {es : List En} (hO : OwnE w B (.slice (some ⟨b, 0, none⟩) es.length c) es) (hi : i < es.length) (m : Int) :
    ∃ cur c2, w.heap[b]? = some (.cells cur 52 (0, 0)) ∧ w.setCell ⟨b, i * 2 + 1, none⟩ (.int .i64 m) = w.setRow b c2 ∧ OwnE (w.setRow b c2) B (.slice (some ⟨b, 0, none⟩) es.length c) (es.take i ++ [⟨es[i].k, m⟩] ++ es.drop (i + 1)) := by
  rcases hO.2 with ⟨h, _⟩ | ⟨g, cap, cur, hv, hb, hg, hc, hm, hs, ht⟩
  · cases h
  · injection hv with h1 h2 h3
    injection h1 with h1
    injection h1 with h1
    subst h1 h3
    refine ⟨cur, cur.setIfInBounds (i * 2 + 1) (.int .i64 m), hg, setCell_eq_setRow w b (i * 2 + 1) cur _ _ _ hg, ?_⟩
    have hln : (es.take i ++ [(⟨es[i].k, m⟩ : En)] ++ es.drop (i + 1)).length = es.length := by simp; omega
    refine ⟨by rw [hln, enC_len, hln], .inr ⟨b, c, _, by rw [hln], hb, setRow_heap w b cur _ _ _ hg, by rw [hln]; exact hc, hm, by simpa using hs, ?_⟩⟩
    rw [hln, Array.toList_setIfInBounds]
    apply List.ext_getElem?
    intro j
    have hcj : ∀ j, j < es.length * 2 → cur.toList[j]? = (enC es)[j]? := fun j hj => by rw [← ht, List.getElem?_take_of_lt hj]
    have h3 : enC (es.take i ++ [(⟨es[i].k, m⟩ : En)] ++ es.drop (i + 1)) = (enC es).take (i * 2) ++ [Value.int .i64 es[i].k, Value.int .i64 m] ++ (enC es).drop ((i + 1) * 2) := by
      rw [enC_app, enC_app, enC_take, enC_drop, enC_one]
      rfl
    rw [h3]
    have hel : (enC es).length = es.length * 2 := enC_len es
    obtain ⟨q0, q1⟩ := enC_at es i hi
    have htl : ((enC es).take (i * 2)).length = i * 2 := by rw [List.length_take, hel]; omega
    rcases Nat.lt_or_ge j (es.length * 2) with hj | hj
    · rw [List.getElem?_take_of_lt hj, List.getElem?_set]
      by_cases e1 : i * 2 + 1 = j
      · subst e1
        rw [if_pos rfl, if_pos (by rw [Array.length_toList]; omega), List.append_assoc, List.getElem?_append_right (by omega), htl, show i * 2 + 1 - i * 2 = 1 by omega]
        rfl
      · rw [if_neg e1, hcj j hj]
        rcases Nat.lt_or_ge j (i * 2) with h5 | h5
        · rw [List.append_assoc, List.getElem?_append_left (by omega), List.getElem?_take_of_lt h5]
        · by_cases e2 : j = i * 2
          · subst e2
            rw [q0, List.append_assoc, List.getElem?_append_right (by omega), htl, Nat.sub_self]
            rfl
          · rw [List.getElem?_append_right (by rw [List.length_append, htl]; simp; omega), List.length_append, htl, List.getElem?_drop]
            congr 1
            simp
            omega
    · rw [← h3]
      exact (List.getElem?_eq_none (by rw [List.length_take]; omega)).trans (List.getElem?_eq_none (by rw [enC_len, hln]; omega)).symm
/-- The new entries are stored. -/
theorem fin_store {w w5 : World} {B g : Nat} {v v5 : Value} {es' : List En} {c : Int} (hbx : w5.heap[g]? = some (.cells #[v, fnCmp, .int .i64 c] 49 (0, 0))) (hO : OwnE w5 B v5 es') (hG : GoodE es') (hc : c = cntE es') (hB : B ≤ g) (hP : PutW B w w5) :
    MulAt (w5.setCell ⟨g, 0, none⟩ v5) B g v5 es' ∧ PutW B w (w5.setCell ⟨g, 0, none⟩ v5) := by
  have hrow : w5.setCell ⟨g, 0, none⟩ v5 = w5.setRow g #[v5, fnCmp, .int .i64 c] := setCell_eq_setRow w5 g 0 _ _ _ _ hbx
  have hne : some g ≠ v5.ownBlock := fun e => by
    obtain ⟨arr, h3⟩ := hO.typ e.symm
    rw [hbx] at h3
    injection h3 with h3
    injection h3 with _ h4 _
    exact absurd h4 (by decide)
  rw [hrow]
  refine ⟨⟨hB, by rw [← hc]; exact setRow_heap w5 g _ _ _ _ hbx, ?_, hne, hG⟩, hP.trans (PutW.ofRow hbx (.inl rfl) hB _)⟩
  refine ⟨hO.1, ?_⟩
  rcases hO.2 with h2 | ⟨g', cap, cur, h1, h2, h3, h4⟩
  · exact .inl h2
  · refine .inr ⟨g', cap, cur, h1, h2, ?_, h4⟩
    rw [setRow_other _ _ _ _ (fun e => hne (by rw [h1, e]; rfl))]
    exact h3
/-- What Put leaves. -/
def PutP (B g : Nat) (es : List En) (k n : Int) (w : World) (e : Ending) (w' : World) : Prop :=
  ∃ v', e = .returned (.int .i64 (putE es k n).1) ∧ MulAt w' B g v' (putE es k n).2 ∧ PutW B w w'
set_option maxRecDepth 100000 in
set_option maxHeartbeats 2000000 in
theorem Put_any (w : World) (B g : Nat) (v : Value) (es : List En) (k n : Int) (h : MulAt w B g v es) :
    Calls Try.prog 10 #[.pointer (some ⟨g, 0, none⟩), .int .i64 k, .int .i64 n] w (PutP B g es k n w) := by
  have HM := Kept.mk h
  have hB : Kept (B ≤ w.heap.size) := ⟨by have := h.base; have := h.lt; omega⟩
  have ho0 := ofE_nonneg es k h.good
  have ho1 := ofE_le es k h.good
  have hc0 := cnt_nonneg es h.good
  have hc1 := h.good.cnt
  clear h
  by_cases cA : n > 1048576 ∨ n < -1048576
  · have hv : Kept (putE es k n = (2, es)) := ⟨if_pos cA⟩
    clear ho0 ho1 hc0 hc1
    by_cases cA1 : 1048576 < n
    · clear cA
      go_enter Try.func10, Try.ntmps10
      go_wp2_with fail
      go_returns
      exact ⟨v, by rw [hv.out]; rfl, by rw [hv.out]; exact HM.out, PutW.refl _ _⟩
    · have cA2 : n < -1048576 := by omega
      clear cA
      go_enter Try.func10, Try.ntmps10
      go_wp2_with fail
      go_returns
      exact ⟨v, by rw [hv.out]; rfl, by rw [hv.out]; exact HM.out, PutW.refl _ _⟩
  · have a1 : ¬ 1048576 < n := by omega
    have a2 : ¬ n < -1048576 := by omega
    have hw1 : wrap64 (ofE es k + n) = ofE es k + n := by simp only [wrap64]; omega
    have hw2 : wrap64 (cntE es + n) = cntE es + n := by simp only [wrap64]; omega
    by_cases cB : ofE es k + n < 0
    · have hv : Kept (putE es k n = (20, es)) := ⟨by unfold putE; rw [if_neg cA, if_pos cB]⟩
      clear cA ho0 ho1 hc0 hc1
      go_enter Try.func10, Try.ntmps10
      go_wp2_with (first | (go_at_call 15; refine (Of_any w B g v es k HM.out).mono ?_; rintro e w1 ⟨rfl, hb1⟩; have HB1 := Kept.mk hb1; clear hb1))
      go_returns
      exact ⟨v, by rw [hv.out]; rfl, by rw [hv.out]; exact HM.out.below HB1.out, PutW.ofBelow HB1.out hB.out⟩
    · by_cases cC : cntE es + n > 1048576
      · have hv : Kept (putE es k n = (7, es)) := ⟨by unfold putE; rw [if_neg cA, if_neg cB, if_pos cC]⟩
        have cC' : 1048576 < cntE es + n := by omega
        clear cA ho0 ho1 hc0 hc1 cC
        go_enter Try.func10, Try.ntmps10
        go_wp2_with (first | (go_at_call 15; refine (Of_any w B g v es k HM.out).mono ?_; rintro e w1 ⟨rfl, hb1⟩; have HB1 := Kept.mk hb1; obtain ⟨_, _, q2, _, _⟩ := (HM.out.below hb1).cells; clear hb1))
        go_returns
        exact ⟨v, by rw [hv.out]; rfl, by rw [hv.out]; exact HM.out.below HB1.out, PutW.ofBelow HB1.out hB.out⟩
      · have hv : Kept (putE es k n = (0, putL es k n)) := ⟨by unfold putE; rw [if_neg cA, if_neg cB, if_neg cC]⟩
        have HG : Kept (GoodE (putL es k n) ∧ cntE (putL es k n) = cntE es + n) := ⟨putL_good es k n HM.out.good (by omega) (by omega)⟩
        have cC' : ¬ 1048576 < cntE es + n := by omega
        clear cA cC
        go_enter Try.func10, Try.ntmps10
        go_wp2_with (first | (go_at_call 15; refine (Of_any w B g v es k HM.out).mono ?_; rintro e w1 ⟨rfl, hb1⟩; have HB1 := Kept.mk hb1; have HM1 := Kept.mk (HM.out.below hb1); obtain ⟨_, _, q2, _, _⟩ := (HM.out.below hb1).cells; clear hb1))
        go_at_call 20
        refine (place_any w1 B g v es k HM1.out).mono ?_
        rintro e w2 ⟨rfl, hb2⟩
        have HM2 := Kept.mk (HM1.out.below hb2)
        have HP2 := Kept.mk ((PutW.ofBelow HB1.out hB.out).trans (PutW.ofBelow hb2 (by have := HM1.out.base; have := HM1.out.lt; omega)))
        obtain ⟨p0, _, p2, pf0, pf2⟩ := HM2.out.cells
        clear hb2 HM1 HB1 q2
        go_upto_region 12 with fail
        have hrow : w2.setCell ⟨g, 2, none⟩ (.int .i64 (cntE es + n)) = w2.setRow g #[v, fnCmp, .int .i64 (cntE es + n)] := setCell_eq_setRow w2 g 2 _ _ _ _ HM2.out.box
        obtain ⟨w3, hw3⟩ : ∃ w3, w3 = w2.setCell ⟨g, 2, none⟩ (.int .i64 (cntE es + n)) := ⟨_, rfl⟩
        rewrite [← hw3]
        rw [hrow] at hw3
        have hb3 : w3.heap[g]? = some (.cells #[v, fnCmp, .int .i64 (cntE es + n)] 49 (0, 0)) := by rw [hw3]; exact setRow_heap w2 g _ _ _ _ HM2.out.box
        have hP3 : PutW B w w3 := by rw [hw3]; exact HP2.out.trans (PutW.ofRow HM2.out.box (.inl rfl) HM2.out.base _)
        have hO3 : OwnE w3 B v es := by
          rw [hw3]
          refine ⟨HM2.out.own.1, ?_⟩
          rcases HM2.out.own.2 with h2 | ⟨g', cap, cur, h1, h2, h3, h4⟩
          · exact .inl h2
          · refine .inr ⟨g', cap, cur, h1, h2, ?_, h4⟩
            rw [setRow_other _ _ _ _ (fun e => HM2.out.ne (by rw [h1, e]; rfl))]
            exact h3
        have HB3 := Kept.mk hb3
        have HP3 := Kept.mk hP3
        have HO3 := Kept.mk hO3
        have s0 : w3.cell? ⟨g, 0, none⟩ = some v := by simp [World.cell?, hb3]
        have sf : w3.frozen? ⟨g, 0, none⟩ = false := by simp [World.frozen?, hb3]
        have HLT : Kept (g < w3.heap.size) := ⟨(Array.getElem?_eq_some_iff.1 hb3).1⟩
        have HNE := Kept.mk HM.out.ne
        have HBG := Kept.mk HM.out.base
        have HLN := Kept.mk HM.out.good.len
        clear hw3 hrow hb3 hP3 hO3 p0 p2 pf0 pf2 HP2 HM2 ho0 ho1 hc0 hc1
        by_cases cn : n = 0
        · subst cn
          have hp : Kept (putL es k 0 = es) := ⟨by unfold putL; rw [if_pos rfl]⟩
          go_wp2_with fail
          go_returns
          refine ⟨v, by rw [hv.out]; rfl, ?_, HP3.out⟩
          rw [hv.out]
          show MulAt w3 B g v (putL es k 0)
          rw [hp.out]
          refine ⟨HBG.out, ?_, HO3.out, HNE.out, HM.out.good⟩
          have h := HB3.out
          rw [Int.add_zero] at h
          exact h
        · have cn' : (n == 0) = false := by simp [cn]
          have HN0 := Kept.mk cn
          clear cn
          cases hi : isE es k with
          | false =>
            have hp : Kept (putL es k n = es.take (posE es k) ++ [⟨k, n⟩] ++ es.drop (posE es k)) := ⟨by unfold putL; rw [if_neg HN0.out, hi, if_neg (by simp)]; unfold midE; rw [Nat.add_zero]⟩
            have HI := Kept.mk hi
            clear hi
            go_wp2_with fail
            go_at_call 21
            refine (ins_any es ⟨k, n⟩ v (posE es k) w3.heap.size B (posE_le es k) (by have := HLN.out; omega) _ (HO3.out.below ((Below.refl _ _).alloc (Nat.le_refl _) _)) (by rw [World.size_alloc]; have := HBG.out; have := HLT.out; omega) Array.getElem?_push_size (fun e => by
              obtain ⟨arr, h3⟩ := HO3.out.typ e.symm
              have := (Array.getElem?_eq_some_iff.1 h3).1
              omega)).mono ?_
            rintro e w5 ⟨v5, rfl, hO5, hG5⟩
            have hb5 : w5.heap[g]? = some (.cells #[v, fnCmp, .int .i64 (cntE es + n)] 49 (0, 0)) := by
              rw [hG5.block g (by rw [World.size_alloc]; have := HLT.out; omega) HNE.out]
              show (w3.heap.push _)[g]? = _
              rw [Array.getElem?_push, if_neg (by have := HLT.out; omega)]
              exact HB3.out
            have hPW : PutW B w w5 := HP3.out.trans ((PutW.ofBelow ((Below.refl _ _).alloc (Nat.le_refl _) _) (by have := HBG.out; have := HLT.out; omega)).trans (PutW.ofGrown (HO3.out.below ((Below.refl _ _).alloc (Nat.le_refl _) _)) hG5 (by rw [World.size_alloc]; have := HBG.out; have := HLT.out; omega)))
            rw [← hp.out] at hO5
            obtain ⟨A5, c5, rfl, _, _⟩ := hO5.has
            have HFIN := Kept.mk (fin_store hb5 hO5 HG.out.1 HG.out.2.symm HBG.out hPW)
            have t0 : w5.cell? ⟨g, 0, none⟩ = some v := by simp [World.cell?, hb5]
            have tf : w5.frozen? ⟨g, 0, none⟩ = false := by simp [World.frozen?, hb5]
            clear hb5 hO5 hG5 hPW s0 sf
            go_wp2_with fail
            go_returns
            refine ⟨.slice A5 (putL es k n).length c5, by rw [hv.out]; rfl, ?_, HFIN.out.2⟩
            rw [hv.out]
            exact HFIN.out.1
          | true =>
            obtain ⟨hpl, hk, ho⟩ := isE_at hi
            have HI := Kept.mk hi
            have hown := HO3.out
            rcases hown.2 with ⟨_, h0⟩ | ⟨b, cap, cur, rfl, hbB, hbh, hbc, hbm, hbs, hbt⟩
            · omega
            · have hcell : w3.cell? ⟨b, posE es k * 2 + 1, none⟩ = some (.int .i64 (ofE es k)) := by
                rw [ho, row_cell hbh, ← (enC_at es _ hpl).2, ← hbt, List.getElem?_take_of_lt (by omega)]
              have hfro : w3.frozen? ⟨b, posE es k * 2 + 1, none⟩ = false := by simp [World.frozen?, hbh]
              have f0 : 0 ≤ ((posE es k : Nat) : Int) := by omega
              have f1 : ((posE es k : Nat) : Int) < (es.length : Int) := by omega
              have fw : wrap64 (((posE es k : Nat) : Int) + 1) = ((posE es k : Nat) : Int) + 1 := by have := HLN.out; simp only [wrap64]; omega
              have HPL := Kept.mk hpl
              by_cases cz : ofE es k + n = 0
              · have hp : Kept (putL es k n = es.take (posE es k) ++ es.drop (posE es k + 1)) := ⟨by unfold putL; rw [if_neg HN0.out, HI.out, if_pos rfl, if_pos cz]; unfold midE; rw [List.append_nil]⟩
                have cz' : (ofE es k + n == 0) = true := by rw [beq_iff_eq]; exact cz
                clear hi hk ho hbh hbm hbs hbt hbc hbB hown hpl
                go_wp2_with fail
                go_at_call 22
                refine (del_any es _ (posE es k) B HPL.out (by have := HLN.out; omega) w3 HO3.out).mono ?_
                rintro e w5 ⟨v5, rfl, hO5, hG5⟩
                have hb5 : w5.heap[g]? = some (.cells #[.slice (some ⟨b, 0, none⟩) es.length cap, fnCmp, .int .i64 (cntE es + n)] 49 (0, 0)) := by
                  rw [hG5.block g HLT.out HNE.out]
                  exact HB3.out
                have hPW : PutW B w w5 := HP3.out.trans (PutW.ofGrown HO3.out hG5 (by have := HBG.out; have := HLT.out; omega))
                rw [← hp.out] at hO5
                obtain ⟨A5, c5, rfl, _, _⟩ := hO5.has
                have HFIN := Kept.mk (fin_store hb5 hO5 HG.out.1 HG.out.2.symm HBG.out hPW)
                have t0 : w5.cell? ⟨g, 0, none⟩ = some (.slice (some ⟨b, 0, none⟩) es.length cap) := by simp [World.cell?, hb5]
                have tf : w5.frozen? ⟨g, 0, none⟩ = false := by simp [World.frozen?, hb5]
                clear hb5 hO5 hG5 hPW s0 sf hcell hfro
                go_wp2_with fail
                go_returns
                refine ⟨.slice A5 (putL es k n).length c5, by rw [hv.out]; rfl, ?_, HFIN.out.2⟩
                rw [hv.out]
                exact HFIN.out.1
              · have hp : Kept (putL es k n = es.take (posE es k) ++ [⟨k, ofE es k + n⟩] ++ es.drop (posE es k + 1)) := ⟨by unfold putL; rw [if_neg HN0.out, HI.out, if_pos rfl, if_neg cz]; unfold midE; exact Eq.refl _⟩
                have cz' : (ofE es k + n == 0) = false := by rw [beq_eq_false_iff_ne]; exact cz
                obtain ⟨cur', c2, hq1, hq2, hq3⟩ := own_set hown hpl (ofE es k + n)
                have hgb : g ≠ b := fun e => HNE.out (by rw [e]; rfl)
                rw [hk] at hq3
                rw [← hp.out] at hq3
                have HFIN : Kept (MulAt (w3.setCell ⟨b, posE es k * 2 + 1, none⟩ (.int .i64 (ofE es k + n))) B g (.slice (some ⟨b, 0, none⟩) es.length cap) (putL es k n) ∧ PutW B w (w3.setCell ⟨b, posE es k * 2 + 1, none⟩ (.int .i64 (ofE es k + n)))) := ⟨by
                  rw [hq2]
                  refine ⟨⟨HBG.out, ?_, hq3, HNE.out, HG.out.1⟩, HP3.out.trans (PutW.ofRow hq1 (.inr rfl) hbB _)⟩
                  rw [setRow_other _ _ _ _ hgb, HG.out.2]
                  exact HB3.out⟩
                clear hi hk ho hbh hbm hbs hbt hbc hbB hown hq1 hq2 hq3 cz
                go_wp2_with fail
                go_returns
                refine ⟨.slice (some ⟨b, 0, none⟩) es.length cap, by rw [hv.out]; rfl, ?_, HFIN.out.2⟩
                rw [hv.out]
                exact HFIN.out.1
end Go.Proofs.Ytjllcgmdnkakgaa
