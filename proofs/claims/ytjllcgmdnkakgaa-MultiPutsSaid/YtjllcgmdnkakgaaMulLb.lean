/- MultiAll: the walk. -/
import Derived.Test.YtjllcgmdnkakgaaMulLa
import Derived.Deep.RegionHeld3
namespace Go.Proofs.Ytjllcgmdnkakgaa
open Go.RowKit Go.Shelf
set_option linter.unusedVariables false
set_option linter.unusedSimpArgs false

theorem MulAt.belowN {w w' : World} {B g n : Nat} {v : Value} {es : List En} (h : MulAt w B g v es) (hb : Below n w w') (hg : g < n) (hv : ∀ k, v.ownBlock = some k → k < n) : MulAt w' B g v es := by
  refine ⟨h.base, by rw [hb.block g hg]; exact h.box, ⟨h.own.1, ?_⟩, h.ne, h.good⟩
  rcases h.own.2 with h2 | ⟨b, cap, cur, h1, h2, h3, h4⟩
  · exact .inl h2
  · exact .inr ⟨b, cap, cur, h1, h2, by rw [hb.block b (hv b (by rw [h1]; rfl))]; exact h3, h4⟩
theorem OwnE.lt {w : World} {B : Nat} {v : Value} {es : List En} (h : OwnE w B v es) (k : Nat) (hk : v.ownBlock = some k) : k < w.heap.size := by
  obtain ⟨arr, h3⟩ := h.typ hk
  exact (Array.getElem?_eq_some_iff.1 h3).1
theorem of_at (es : List En) (h : GoodE es) (x : Nat) (hx : x < es.length) : ofE es es[x].k = es[x].n := by
  have he : es = es.take x ++ es[x] :: es.drop (x + 1) := by rw [← List.drop_eq_getElem_cons hx, List.take_append_drop]
  have hp := List.pairwise_iff_getElem.1 h.inc
  have hA : ∀ e ∈ es.take x, e.k < es[x].k := by
    intro e he
    obtain ⟨j, hj, rfl⟩ := List.getElem_of_mem he
    rw [List.length_take] at hj
    rw [List.getElem_take]
    exact hp j x (by omega) hx (by omega)
  have hC : ∀ e ∈ es.drop (x + 1), es[x].k < e.k := by
    intro e he
    obtain ⟨j, hj, rfl⟩ := List.getElem_of_mem he
    rw [List.length_drop] at hj
    rw [List.getElem_drop]
    exact hp x (x + 1 + j) hx (by omega) (by omega)
  have h2 := (of_yes hA es[x].n (es.drop (x + 1)) hC).2
  have h3 : es.take x ++ (⟨es[x].k, es[x].n⟩ : En) :: es.drop (x + 1) = es := he.symm
  rw [h3] at h2
  exact h2
theorem n_le (es : List En) (h : GoodE es) (x : Nat) (hx : x < es.length) : es[x].n ≤ 1048576 := by
  rw [← of_at es h x hx]
  exact ofE_le es _ h
theorem cnt_gone (es : List En) (h : GoodE es) (pre : List (Fin es.length)) : 0 ≤ cntE (gone es pre) ∧ cntE (gone es pre) ≤ 1048576 * (pre.length : Int) := by
  induction pre with
  | nil => simp [gone, cntE]
  | cons x r ih =>
    have h1 := n_le es h x.1 x.2
    have h2 := h.pos (es[x.1]'x.2) (List.getElem_mem x.2)
    have h3 : cntE (gone es (x :: r)) = (es[x.1]'x.2).n + cntE (gone es r) := by simp [gone, cntE]
    rw [h3, List.length_cons]
    omega
/-- The last thing that was told. -/
def lastK (es : List En) (pre : List (Fin es.length)) : Int := match pre.getLast? with
  | none => 0
  | some x => (es[x.1]'x.2).k
def begun (es : List En) (pre : List (Fin es.length)) : Bool := !pre.isEmpty
theorem lastK_snoc (es : List En) (pre : List (Fin es.length)) (x : Fin es.length) : lastK es (pre ++ [x]) = (es[x.1]'x.2).k := by simp [lastK]
theorem begun_snoc (es : List En) (pre : List (Fin es.length)) (x : Fin es.length) : begun es (pre ++ [x]) = true := by simp [begun]
theorem keepsFrom_below {B : Nat} {W W' : World} (h : Below W.heap.size W W') : KeepsFrom B W W' := ⟨h.size, fun k o _ hk _ => (h.block k (Array.getElem?_eq_some_iff.1 hk).1).trans hk⟩
theorem blk_cell {w : World} {n : Nat} {v : Value} {t : TypeId} (h : w.heap[n]? = some (.cells #[v] t (0, 0))) : w.cell? ⟨n, 0, none⟩ = some v ∧ w.frozen? ⟨n, 0, none⟩ = false := by simp [World.cell?, World.frozen?, h]
def PuJ (xs : List En) (w0 : World) (B g : Nat) (v4 : Value) (wr : World) : Prop := ∃ j : Nat, v4 = .int .i64 (j : Int) ∧ Kept (j ≤ xs.length ∧ (∃ v es, MulAt wr B g v es) ∧ PutW B w0 wr)
section
attribute [local go_sem] Oper.semAt_some
set_option maxRecDepth 100000 in
set_option maxHeartbeats 4000000 in
theorem MultiAll_any (v : Value) (xs : List En) (w : World) (H : HasE w w.heap.size v xs) (hlen : xs.length ≤ 140737488355328) :
    Calls Try.prog 4 #[v] w (fun e w' => e = .returned (.bool true) ∧ Below w.heap.size w w') := by
  obtain ⟨A, c, rfl, _, hA⟩ := H
  have HA := Kept.mk hA
  clear hA
  refine (callsIn_wide (n := 3)).1 ?_
  refine callsIn_of_wp_marks Try.func4 rfl trivial ?_ rfl
  simp only [Try.ntmps4, List.size_toArray, List.length_cons, List.length_nil, Nat.reduceAdd, Nat.reduceSub, Array.replicate_succ, Array.replicate_zero, List.push_toArray, List.append_toArray, List.nil_append, List.cons_append]
  refine wpIn_wide.2 ?_
  have hbw : Below w.heap.size w (w.alloc (.cells #[.bool false] 4)) := (Below.refl _ _).alloc (Nat.le_refl _) _
  have hr0 : (w.alloc (.cells #[.bool false] 4)).heap[w.heap.size]? = some (.cells #[.bool false] 4 (0, 0)) := Array.getElem?_push_size
  have hs0 : (w.alloc (.cells #[.bool false] 4)).heap.size = w.heap.size + 1 := World.size_alloc _ _
  have hc0 : (w.alloc (.cells #[.bool false] 4)).cell? ⟨w.heap.size, 0, none⟩ = some (.bool false) := by simp [go_sem]
  have hf0 : (w.alloc (.cells #[.bool false] 4)).frozen? ⟨w.heap.size, 0, none⟩ = false := by simp [go_sem]
  by_cases c60 : 60 < xs.length
  · have c60' : 60 < (xs.length : Int) := by omega
    clear c60
    go_wp2_with fail
    go_at_call 6
    generalize w.alloc (.cells #[.bool false] 4) = w1 at hbw hr0 hs0 hc0 hf0 ⊢
    go_wp2_with (first | (go_at_call 6; refine (live_any _).mono ?_; rintro e w2 ⟨rfl, hb2⟩; have hc2 := (hb2.cell (p := ⟨w.heap.size, 0, none⟩) (show w.heap.size < w1.heap.size by omega)).trans hc0; have hf2 : w2.frozen? ⟨w.heap.size, 0, none⟩ = false := (World.frozen?_of_block (hb2.block w.heap.size (by omega))).trans hf0; have HB2 := Kept.mk hb2; clear hb2))
    have q := World.cell?_setCell_same' w2 ⟨w.heap.size, 0, none⟩ (.bool true) (by rw [hc2]; rfl)
    refine ⟨.bool true, ?_, rfl, (hbw.trans (HB2.out.mono hbw.size)).setCell (p := ⟨w.heap.size, 0, none⟩) (Nat.le_refl _) _⟩
    simp [results, Try.f4, go_sem, q]
  · have c60' : ¬ 60 < (xs.length : Int) := by omega
    have HC := Kept.mk c60
    clear c60
    go_wp2_with fail
    go_at_call 7
    generalize w.alloc (.cells #[.bool false] 4) = w1 at hbw hr0 hs0 hc0 hf0 ⊢
    refine (New_any w1).mono ?_
    rintro e w2 ⟨rfl, HM2, HB2⟩
    obtain ⟨B, hBe⟩ : ∃ B, B = w1.heap.size := ⟨_, rfl⟩
    rewrite [← hBe]
    rewrite [← hBe] at HM2 HB2
    have hm3 : (w2.alloc (.cells #[.pointer (some ⟨B, 0, none⟩)] 24)).heap[w2.heap.size]? = some (.cells #[.pointer (some ⟨B, 0, none⟩)] 24 (0, 0)) := Array.getElem?_push_size
    have hr3 : (w2.alloc (.cells #[.pointer (some ⟨B, 0, none⟩)] 24)).heap[w.heap.size]? = some (.cells #[.bool false] 4 (0, 0)) := by
      have hlt := HM2.lt
      show (w2.heap.push _)[w.heap.size]? = _
      rw [Array.getElem?_push, if_neg (by omega), HB2.block w.heap.size (by omega)]
      exact hr0
    have HM3 := Kept.mk (HM2.below ((Below.refl _ w2).alloc (Nat.le_refl _) (.cells #[.pointer (some ⟨B, 0, none⟩)] 24)))
    have HB3 : Kept (Below w.heap.size w (w2.alloc (.cells #[.pointer (some ⟨B, 0, none⟩)] 24))) := ⟨(hbw.trans (HB2.mono (by omega))).alloc (by have := HM2.lt; omega) _⟩
    have HWB : Kept (w.heap.size < B) := ⟨by omega⟩
    obtain ⟨m, hm⟩ : ∃ m, m = w2.heap.size := ⟨_, rfl⟩
    clear HM2 HB2 hBe hbw hr0 hs0 hc0 hf0
    go_upto_region 6 with fail
    generalize w2.alloc (.cells #[.pointer (some ⟨B, 0, none⟩)] 24) = w3 at hm3 hr3 HM3 HB3 ⊢
    rewrite [← hm]
    rewrite [← hm] at hm3
    have HO : Kept (∀ wr, PutW B w3 wr → wr.heap[m]? = some (.cells #[.pointer (some ⟨B, 0, none⟩)] 24 (0, 0)) ∧ wr.heap[w.heap.size]? = some (.cells #[.bool false] 4 (0, 0)) ∧ Below w.heap.size w wr) := ⟨fun wr h =>
      ⟨h.oth m _ _ _ hm3 (by decide) (by decide), h.oth w.heap.size _ _ _ hr3 (by decide) (by decide), HB3.out.trans (h.bel.mono (by have := HWB.out; omega))⟩⟩
    clear hm3 hr3 HB3 hm
    go_wp2_with fail
    go_loopw [4] (fun v4 wr => PuJ xs w3 B B v4 wr) (fun v4 wr => xs.length - (intOf v4).toNat)
    case atStart => exact ⟨0, rfl, ⟨Nat.zero_le _, ⟨_, _, HM3.out⟩, PutW.refl _ _⟩⟩
    case round =>
      obtain ⟨j, rfl, HJ⟩ := hrel
      obtain ⟨hj, ⟨v2, es, hM⟩, hPj⟩ := HJ.out
      obtain ⟨hbm, hbr, hbl⟩ := HO.out wr hPj
      have HMj := Kept.mk hM
      have HPj := Kept.mk hPj
      have HBR := Kept.mk hbr
      have hc60 := HC.out
      have cm : wr.cell? ⟨m, 0, none⟩ = some (.pointer (some ⟨B, 0, none⟩)) := by simp [World.cell?, hbm]
      have hml : m < wr.heap.size := (Array.getElem?_eq_some_iff.1 hbm).1
      have HBM := Kept.mk hbm
      have HBL := Kept.mk hbl
      clear HJ hM hPj hbm hbr hbl
      by_cases cj : j < xs.length
      · have hne : xs ≠ [] := by rintro rfl; simp at cj
        obtain ⟨b1, o1, rfl, hb1, hc1⟩ := HA.out hne
        obtain ⟨e0, e1⟩ := hc1 j cj
        have hk := HBL.out.block b1 hb1
        have e0' : wr.cell? ⟨b1, o1 + j * 2, none⟩ = some (.int .i64 (xs[j]).k) := (World.cell?_of_block hk).trans e0
        have e1' : wr.cell? ⟨b1, o1 + j * 2 + 1, none⟩ = some (.int .i64 (xs[j]).n) := (World.cell?_of_block hk).trans e1
        have cj' : (j : Int) < (xs.length : Int) := by omega
        have f0 : 0 ≤ (j : Int) := by omega
        have hw : wrap64 ((j : Int) + 1) = (j : Int) + 1 := by simp only [wrap64]; omega
        have HCJ := Kept.mk cj
        generalize xs[j] = x at e0' e1'
        clear e0 e1 hc1 hne hk cj hb1
        go_upto_region 9 with fail
        refine wp_region_noPanic ?_
        go_region_with (first | (go_at_call 10; refine (Put_any _ B B v2 es x.k x.n (HMj.out.below (Below.refl _ _).drew)).mono ?_; rintro e w4 ⟨v4, rfl, hM4, hP4⟩; have HM4 := Kept.mk hM4; have HP4 := Kept.mk hP4; clear hM4 hP4))
        all_goals refine NoPanic.normal ?_
        all_goals go_wp2_with fail
        all_goals
          refine ⟨⟨j + 1, by first | rfl | (rw [hw]; rfl), ⟨HCJ.out, ⟨v4, _, HM4.out⟩, HPj.out.trans ((PutW.ofBelow (Below.refl _ _).drew (by have := HMj.out.base; have := HMj.out.lt; omega)).trans HP4.out)⟩⟩, by first | exact less_step hw HCJ.out | (have := HCJ.out; simp only [intOf]; omega)⟩
      · have cj' : ¬ ((j : Int) < (xs.length : Int)) := by omega
        clear cj
        have hnf : ∀ (caps : Array Value) (W : World), Sem.run Try.prog (binOp BinOp.eql 43 (Value.func (Fn.func 23) #[] caps) Value.nilFunc) W = .ok (.bool false) W := fun caps W => by kernel_rfl
        go_wp2_with (first | (go_at_call 19; refine (callsIn_wide (n := 3)).1 ?_; refine (All_in Fence.wide _ trivial rfl _ _).mono ?_; rintro e w4 ⟨rfl, rfl⟩))
        refine (wpIn_wide (n := 3)).1 ?_
        have b0 := Boxed.new wr 24 (.pointer (some ⟨B, 0, none⟩))
        have b1 := Boxed.new (wr.alloc (.cells #[.pointer (some ⟨B, 0, none⟩)] 24)) 3 (.int .i64 0)
        have b2 := Boxed.new ((wr.alloc (.cells #[.pointer (some ⟨B, 0, none⟩)] 24)).alloc (.cells #[.int .i64 0] 3)) 3 (.int .i64 0)
        have b3 := Boxed.new (((wr.alloc (.cells #[.pointer (some ⟨B, 0, none⟩)] 24)).alloc (.cells #[.int .i64 0] 3)).alloc (.cells #[.int .i64 0] 3)) 4 (.bool false)
        rw [World.size_alloc] at b1
        rw [World.size_alloc, World.size_alloc] at b2
        rw [World.size_alloc, World.size_alloc, World.size_alloc] at b3
        have hB4 : Below wr.heap.size wr ((((wr.alloc (.cells #[.pointer (some ⟨B, 0, none⟩)] 24)).alloc (.cells #[.int .i64 0] 3)).alloc (.cells #[.int .i64 0] 3)).alloc (.cells #[.bool false] 4)) := ((((Below.refl _ wr).alloc (Nat.le_refl _) _).alloc (by simp) _).alloc (by simp; omega) _).alloc (by simp; omega) _
        have hs4 : ((((wr.alloc (.cells #[.pointer (some ⟨B, 0, none⟩)] 24)).alloc (.cells #[.int .i64 0] 3)).alloc (.cells #[.int .i64 0] 3)).alloc (.cells #[.bool false] 4)).heap.size = wr.heap.size + 4 := by simp
        have c0 := ((b0.alloc (.cells #[.int .i64 0] 3)).alloc (.cells #[.int .i64 0] 3)).alloc (.cells #[.bool false] 4)
        have c1 := (b1.alloc (.cells #[.int .i64 0] 3)).alloc (.cells #[.bool false] 4)
        have c2 := b2.alloc (.cells #[.bool false] 4)
        clear b0 b1 b2
        generalize ((((wr.alloc (.cells #[.pointer (some ⟨B, 0, none⟩)] 24)).alloc (.cells #[.int .i64 0] 3)).alloc (.cells #[.int .i64 0] 3)).alloc (.cells #[.bool false] 4)) = w4 at b3 hB4 hs4 c0 c1 c2 ⊢
        have hM4 : MulAt w4 B B v2 es := HMj.out.below hB4
        have hgl := HMj.out.lt
        have hvl : ∀ k, v2.ownBlock = some k → k < wr.heap.size := HMj.out.own.lt
        have hH4 : HasE w4 wr.heap.size v2 es := HMj.out.own.has.below hB4
        have hg4 : w4.cell? ⟨B, 0, none⟩ = some v2 := hM4.cells.1
        have hgood := HMj.out.good
        have hbm4 := (hB4.block m hml).trans HBM.out
        have hrl : w.heap.size < wr.heap.size := (Array.getElem?_eq_some_iff.1 HBR.out).1
        have hbr4 := (hB4.block w.heap.size hrl).trans HBR.out
        have hBL4 : Below w.heap.size w w4 := HBL.out.trans (hB4.mono (by omega))
        have hlen2 := hgood.len
        clear HMj HPj HBM HBR HBL cm
        refine wpIn_rangeFunc_ownG rfl (by omega) (gf := 23) (lb := #[.pointer (some ⟨wr.heap.size, 0, none⟩)]) rfl trivial (enters_of Try.func23 (by kernel_rfl) rfl)
          (all_stops Fence.wide (3 - 1) trivial rfl (by omega) wr.heap.size B wr.heap.size v2 es (by omega) w4 (by omega) (by omega) (by omega) c0.cell hg4 hH4) belowK_t (belowK_b (by omega)) (Below.refl _ _) (fun _ => rfl)
          (fun pre W => (W.cell? ⟨wr.heap.size + 1, 0, none⟩ = some (.int .i64 (cntE (gone es pre))) ∧ W.frozen? ⟨wr.heap.size + 1, 0, none⟩ = false ∧ W.cell? ⟨wr.heap.size + 1 + 1, 0, none⟩ = some (.int .i64 (lastK es pre)) ∧ W.frozen? ⟨wr.heap.size + 1 + 1, 0, none⟩ = false ∧ W.cell? ⟨wr.heap.size + 1 + 1 + 1, 0, none⟩ = some (.bool (begun es pre)) ∧ W.frozen? ⟨wr.heap.size + 1 + 1 + 1, 0, none⟩ = false) ∧ Below wr.heap.size w4 W)
          (fun c pre W => ∃ ini last, pre = ini ++ [last] ∧ ini ≠ [] ∧ (es[last.1]'last.2).k ≤ lastK es ini)
          (OwnFrom.and (Own.from (fun s A B row hs hg hr => ⟨cell_kept hs.1 hg hr, (frozen_kept hs.1 hg hr).trans hs.2.1, cell_kept hs.2.2.1 hg hr, (frozen_kept hs.2.2.1 hg hr).trans hs.2.2.2.1, cell_kept hs.2.2.2.2.1 hg hr, (frozen_kept hs.2.2.2.2.1 hg hr).trans hs.2.2.2.2.2⟩) _) (ownFrom_below (by omega) (by omega)))
          (fun c => Own.from (fun s A B row hs hg hr => hs) _)
          ⟨⟨by simpa [cntE] using c1.cell, c1.frozen, by simpa [lastK] using c2.cell, c2.frozen, by simpa [begun] using b3.cell, b3.frozen⟩, Below.refl _ _⟩
          ?fr ?assign ?body ?done ?stop
        case assign =>
          intro l x W K hK
          gi_wp2
          exact hK
        case body =>
          rintro l pre x W ⟨⟨hs1, hf1, hs2, hf2, hs3, hf3⟩, hB⟩ hpl
          have hbmW := (hB.block m hml).trans hbm4
          have cm : W.cell? ⟨m, 0, none⟩ = some (.pointer (some ⟨B, 0, none⟩)) := by simp [World.cell?, hbmW]
          have hbrW := (hB.block w.heap.size hrl).trans hbr4
          have cr : W.cell? ⟨w.heap.size, 0, none⟩ = some (.bool false) := by simp [World.cell?, hbrW]
          have fr : W.frozen? ⟨w.heap.size, 0, none⟩ = false := by simp [World.frozen?, hbrW]
          have hMW : MulAt W B B v2 es := hM4.belowN hB hgl hvl
          have hn1 := hgood.pos (es[x.1]'x.2) (List.getElem_mem x.2)
          have hn2 := n_le es hgood x.1 x.2
          have hof := of_at es hgood x.1 x.2
          have hcg := cnt_gone es hgood pre
          have hwn : wrap64 (cntE (gone es pre) + (es[x.1]'x.2).n) = cntE (gone es pre) + (es[x.1]'x.2).n := by simp only [wrap64]; omega
          have hq1 : cntE (gone es (pre ++ [x])) = cntE (gone es pre) + (es[x.1]'x.2).n := by
            unfold gone
            rw [List.map_append, List.map_cons, List.map_nil, cntE_app, cntE_cons, cntE_nil]
            omega
          have hn1' : ¬ (es[x.1]'x.2).n < 1 := by omega
          have hM5 := Kept.mk hMW
          have HB5 := Kept.mk hB
          have HQ1 := Kept.mk hq1
          have HOF := Kept.mk hof
          have HPL := Kept.mk hpl
          clear hbmW hbrW hMW hn1 hn2 hof hcg hB hq1 hpl
          by_cases hbad : begun es pre = true ∧ (es[x.1]'x.2).k ≤ lastK es pre
          · obtain ⟨hb1, hb2⟩ := hbad
            have hne : pre ≠ [] := by rintro rfl; simp [begun] at hb1
            have HX : Kept (∃ ini last, pre ++ [x] = ini ++ [last] ∧ ini ≠ [] ∧ (es[last.1]'last.2).k ≤ lastK es ini) := ⟨pre, x, rfl, hne, hb2⟩
            rw [hb1] at hs3
            clear hne hb1
            gi_wp2_with (first | (refine ⟨(trivial : Fence.wide.fn 15), ?_⟩))
            exact ⟨(KeepsOthers.setCell _ _ _).from _, HX.out⟩
          · have HGO : Kept (∀ P : Prop, (begun es pre = false → P) → (begun es pre = true → ¬ (es[x.1]'x.2).k ≤ lastK es pre → P) → P) := ⟨fun P f g => by
              cases hb : begun es pre with
              | false => exact f hb
              | true => exact g hb (fun h => hbad ⟨hb, h⟩)⟩
            clear hbad
            refine HGO.out _ (fun hb => ?_) (fun hb hlt => ?_)
            all_goals
              rw [hb] at hs3
              clear HGO hb
              gi_wp2_with (first | (refine ⟨trivial, ?_⟩; gi_at_call 15; refine (CallsIn.inRound l (callsIn_wide.2 (Of_any W B B v2 es _ hM5.out))).mono ?_; rintro e w5 ⟨rfl, hb5⟩; rewrite [HOF.out]; have hz := HB5.out.size; have u1 := (hb5.cell (p := ⟨wr.heap.size + 1, 0, none⟩) (show wr.heap.size + 1 < W.heap.size by omega)).trans hs1; have u2 := (hb5.cell (p := ⟨wr.heap.size + 1 + 1, 0, none⟩) (show wr.heap.size + 1 + 1 < W.heap.size by omega)).trans hs2; have u3 := (hb5.cell (p := ⟨wr.heap.size + 1 + 1 + 1, 0, none⟩) (show wr.heap.size + 1 + 1 + 1 < W.heap.size by omega)).trans hs3; have g1 : w5.frozen? ⟨wr.heap.size + 1, 0, none⟩ = false := (World.frozen?_of_block (hb5.block (wr.heap.size + 1) (by omega))).trans hf1; have g2 : w5.frozen? ⟨wr.heap.size + 1 + 1, 0, none⟩ = false := (World.frozen?_of_block (hb5.block (wr.heap.size + 1 + 1) (by omega))).trans hf2; have g3 : w5.frozen? ⟨wr.heap.size + 1 + 1 + 1, 0, none⟩ = false := (World.frozen?_of_block (hb5.block (wr.heap.size + 1 + 1 + 1) (by omega))).trans hf3; have HB6 := Kept.mk hb5; clear hb5))
              have hle : wr.heap.size ≤ W.heap.size := by omega
              refine ⟨(keepsFrom_below HB6.out).trans ((((KeepsOthers.setCell _ _ _).trans (KeepsOthers.setCell _ _ _)).trans (KeepsOthers.setCell _ _ _)).from _), (((HB6.out.mono hle).setCell (p := ⟨wr.heap.size + 1, 0, none⟩) (show wr.heap.size ≤ wr.heap.size + 1 by omega) _).setCell (p := ⟨wr.heap.size + 1 + 1, 0, none⟩) (show wr.heap.size ≤ wr.heap.size + 1 + 1 by omega) _).setCell (p := ⟨wr.heap.size + 1 + 1 + 1, 0, none⟩) (show wr.heap.size ≤ wr.heap.size + 1 + 1 + 1 by omega) _, ⟨?_, ?_, ?_, ?_, ?_, ?_⟩, HB5.out.trans ((((HB6.out.mono hle).setCell (p := ⟨wr.heap.size + 1, 0, none⟩) (show wr.heap.size ≤ wr.heap.size + 1 by omega) _).setCell (p := ⟨wr.heap.size + 1 + 1, 0, none⟩) (show wr.heap.size ≤ wr.heap.size + 1 + 1 by omega) _).setCell (p := ⟨wr.heap.size + 1 + 1 + 1, 0, none⟩) (show wr.heap.size ≤ wr.heap.size + 1 + 1 + 1 by omega) _)⟩
              · rw [HQ1.out, World.cell?_setCell_other _ _ _ _ (by simp), World.cell?_setCell_other _ _ _ _ (by simp)]
                exact World.cell?_setCell_same' _ _ _ (by rw [u1]; rfl)
              · rw [World.frozen?_setCell, World.frozen?_setCell, World.frozen?_setCell]; exact g1
              · rw [lastK_snoc, World.cell?_setCell_other _ _ _ _ (by simp)]
                exact World.cell?_setCell_same' _ _ _ (by rw [World.cell?_setCell_other _ _ _ _ (by simp), u2]; rfl)
              · rw [World.frozen?_setCell, World.frozen?_setCell, World.frozen?_setCell]; exact g2
              · rw [begun_snoc]
                exact World.cell?_setCell_same' _ _ _ (by rw [World.cell?_setCell_other _ _ _ _ (by simp), World.cell?_setCell_other _ _ _ _ (by simp), u3]; rfl)
              · rw [World.frozen?_setCell, World.frozen?_setCell, World.frozen?_setCell]; exact g3
        case done =>
          rintro D ys W hD rfl ⟨⟨hs1, hf1, hs2, hf2, hs3, hf3⟩, hB⟩ hK
          have hsum : gone es (uptoF es.length es.length) = es := by rw [gone_upto es _ (Nat.le_refl _), List.take_length]
          rw [hsum] at hs1
          have hbmW := (hB.block m hml).trans hbm4
          have hbrW := (hB.block w.heap.size hrl).trans hbr4
          have hMW := Kept.mk (hM4.belowN hB hgl hvl)
          have hz := hB.size
          have HBW : Kept (Below w.heap.size w W) := ⟨hBL4.trans (hB.mono (by omega))⟩
          have HKD := Kept.mk hK
          have HBM := Kept.mk hbmW
          have HBR := Kept.mk hbrW
          have HS1 := Kept.mk hs1
          have hDl : D < W.heap.size := (Array.getElem?_eq_some_iff.1 hK).1
          clear hK hbmW hbrW hs1 hf1 hs2 hf2 hs3 hf3 hB hsum
          go_upto_region 24 with fail
          refine wp_region_noPanic ?_
          go_region_with (first
            | (go_at_call 6; refine (live_any _).mono ?_; rintro e w5 ⟨rfl, hb5⟩; have hb6 : Below W.heap.size W w5 := (Below.refl W.heap.size W).drew.trans hb5; have HB6 := Kept.mk hb6; have y1 := (hb6.cell (p := ⟨wr.heap.size + 1, 0, none⟩) (show wr.heap.size + 1 < W.heap.size by omega)).trans HS1.out; have y2 : w5.cell? ⟨m, 0, none⟩ = some (.pointer (some ⟨B, 0, none⟩)) := (blk_cell ((hb6.block m (by omega)).trans HBM.out)).1; have y3 : w5.cell? ⟨w.heap.size, 0, none⟩ = some (.bool false) := (blk_cell ((hb6.block w.heap.size (by omega)).trans HBR.out)).1; have y4 : w5.frozen? ⟨w.heap.size, 0, none⟩ = false := (blk_cell ((hb6.block w.heap.size (by omega)).trans HBR.out)).2; clear hb5 hb6)
            | (go_at_call 14; refine (Count_any _ B B v2 es (hMW.out.below HB6.out)).mono ?_; rintro e w7 ⟨rfl, rfl⟩))
          all_goals refine NoPanic.normal ?_
          all_goals go_wp2_with fail
          all_goals
            have hK5 := (HB6.out.block D hDl).trans HKD.out
            have hK' := (KeepsOthers.setCell w5 ⟨w.heap.size, 0, none⟩ (.bool true)).same D _ hK5 rfl
            refine ⟨by simp, .inl ⟨_, _, rfl, run_takeDeferred hK', ?_⟩⟩
            have q1 := World.cell?_setCell_same' w5 ⟨w.heap.size, 0, none⟩ (.bool true) (by rw [y3]; rfl)
            have r1 := cell_kept q1 (grownBy_putObj' _ D (.deferred none)) (fun r e => by cases e; exact ⟨_, hK', rfl⟩)
            refine ⟨.bool true, ?_, rfl, ((HBW.out.trans (HB6.out.mono (by omega))).setCell (p := ⟨w.heap.size, 0, none⟩) (Nat.le_refl _) _).trans (belowK_b (w := w) (Nat.le_refl _) _ D _ _ (by omega) hK' rfl rfl)⟩
            simp [results, Try.f4, go_sem, r1]
        case stop =>
          rintro D c pre W hD ⟨k, hk, rfl⟩ ⟨ini, last, e1, e2, e3⟩ hK
          exfalso
          obtain ⟨k', rfl⟩ : ∃ k', k = k' + 1 := by
            cases k with
            | zero => simp [uptoF] at e1
            | succ k' => exact ⟨k', rfl⟩
          have hk' : k' < es.length := hk
          rw [uptoF_succ hk'] at e1
          obtain ⟨rfl, e5⟩ := List.append_inj' e1 rfl
          obtain rfl : (⟨k', hk'⟩ : Fin es.length) = last := by simpa using e5
          obtain ⟨k2, rfl⟩ : ∃ k2, k' = k2 + 1 := by
            cases k' with
            | zero => exact absurd (by simp [uptoF]) e2
            | succ k2 => exact ⟨k2, rfl⟩
          rw [uptoF_succ (show k2 < es.length by omega), lastK_snoc] at e3
          have := List.pairwise_iff_getElem.1 hgood.inc k2 (k2 + 1) (by omega) hk' (by omega)
          simp only at e3
          omega
end
end Go.Proofs.Ytjllcgmdnkakgaa
