/- MultiPuts: the walk. -/
import Derived.Test.YtjllcgmdnkakgaaMulRp
import Derived.Test.YtjllcgmdnkakgaaMulLb
namespace Go.Proofs.Ytjllcgmdnkakgaa
open Go.RowKit
set_option linter.unusedVariables false
set_option linter.unusedSimpArgs false

theorem RefAt.put {w w' : World} {B B' g : Nat} {u : Value} {l : List Int} (h : RefAt w B g u l) (hp : PutW B' w w') : RefAt w' B g u l := by
  refine ⟨h.base, hp.oth g _ _ _ h.box (by decide) (by decide), ⟨h.own.1, ?_⟩, h.len⟩
  rcases h.own.2 with h2 | ⟨b, cap, cur, h1, h2, h3, h4⟩
  · exact .inl h2
  · exact .inr ⟨b, cap, cur, h1, h2, hp.oth b _ _ _ h3 (by decide) (by decide), h4⟩
theorem MulAt.butR {w w' : World} {B gm g : Nat} {v u : Value} {es : List En} (h : MulAt w B gm v es) (hb : w.heap[g]? = some (.cells #[u] 30 (0, 0))) (hp : ButR g w w') : MulAt w' B gm v es := by
  have k1 : gm ≠ g := by
    rintro rfl
    have h1 := h.box
    rw [hb] at h1
    injection h1 with h1
    injection h1 with _ h2 _
    exact absurd h2 (by decide)
  refine ⟨h.base, by rw [hp.block gm h.lt k1]; exact h.box, ⟨h.own.1, ?_⟩, h.ne, h.good⟩
  rcases h.own.2 with h2 | ⟨b, cap, cur, h1, h2, h3, h4⟩
  · exact .inl h2
  · refine .inr ⟨b, cap, cur, h1, h2, ?_, h4⟩
    have k2 : b ≠ g := by
      rintro rfl
      rw [hb] at h3
      injection h3 with h3
      injection h3 with _ h5 _
      exact absurd h5 (by decide)
    rw [hp.block b (Array.getElem?_eq_some_iff.1 h3).1 k2]
    exact h3
theorem ButR.below {g B : Nat} {w w' : World} (h : ButR g w w') (hB : B ≤ g) (hs : g < w.heap.size) : Below B w w' :=
  ⟨h.os, h.tape, h.output, h.size, fun k hk => h.block k (by omega) (by omega)⟩
theorem chk_put (es : List En) (k n : Int) (h : GoodE es) : chkR (cps es) k n = (putE es k n).1 := by
  unfold chkR putE
  rw [cps_of es k h, cps_len es h.pos]
  split
  · rfl
  · split
    · rfl
    · split
      · rfl
      · rfl
/-- The two put alike. -/
theorem put_two (es : List En) (k n : Int) (h : GoodE es) (h2 : GoodE (putE es k n).2) (hp : (putE es k n).1 = 0) : ∃ left : Nat, ((cntK (cps es) k : Nat) : Int) + n = (left : Int) ∧ left ≤ 2000000 ∧ putC k left false (cps es) = cps (putE es k n).2 ∧ (putC k left false (cps es)).length ≤ 2000000 := by
  have hr := putE_rng es k n hp
  have ho := ofE_le es k h
  unfold putE at hp h2 ⊢
  split at hp
  · simp at hp
  · rename_i c1
    split at hp
    · simp at hp
    · rename_i c2
      split at hp
      · simp at hp
      · rename_i c3
        rw [if_neg c1, if_neg c2, if_neg c3] at h2 ⊢
        have hc := cps_put es k n h (by omega)
        have hl := cps_len _ h2.pos
        have hcc := h2.cnt
        simp only at hl hcc h2
        have hq := cntK_le (cps es) k
        have hq1 := cps_of es k h
        have hq2 := cps_len es h.pos
        refine ⟨(ofE es k + n).toNat, by rw [cps_of es k h]; omega, by omega, hc, by rw [hc]; omega⟩
theorem first_drew {B : Nat} {w w1 : World} (h : Below B w w1) : Below B w w1.drew := h.drew
/-- Puts in both, one after another. -/
def PuR (xs : List En) (w : World) (gr : Nat) (v9 : Value) (wr : World) : Prop := ∃ j : Nat, v9 = .int .i64 (j : Int) ∧ Kept (j ≤ xs.length ∧ (∃ v u es, MulAt wr w.heap.size w.heap.size v es ∧ RefAt wr w.heap.size gr u (cps es)) ∧ Below w.heap.size w wr)
def CutR (w : World) (gr : Nat) (wx : World) : Prop := ∃ va ua ea, MulAt wx w.heap.size w.heap.size va ea ∧ RefAt wx w.heap.size gr ua (cps ea) ∧ Below w.heap.size w wx
set_option maxRecDepth 100000 in
set_option maxHeartbeats 4000000 in
theorem MultiPuts_any (v : Value) (xs : List En) (k i : Int) (hi0 : -9223372036854775808 ≤ i) (hi1 : i ≤ 9223372036854775807) (w : World) (H : HasE w w.heap.size v xs) (hlen : xs.length ≤ 140737488355328) :
    Calls Try.prog 3 #[v, .int .i64 k, .int .i64 i] w (fun e w' => e = .returned (.bool true) ∧ Below w.heap.size w w') := by
  obtain ⟨A, c, rfl, _, hA⟩ := H
  have HA := Kept.mk hA
  have HI := Kept.mk (And.intro hi0 hi1)
  clear hA hi0 hi1
  by_cases c60 : 60 < xs.length
  · have c60' : 60 < (xs.length : Int) := by omega
    clear c60
    go_enter Try.func3, Try.ntmps3
    go_wp2_with (first | (go_at_call 6; refine (live_any _).mono ?_; rintro e w1 ⟨rfl, hb1⟩; have HB := Kept.mk hb1; clear hb1))
    go_returns
    exact ⟨rfl, HB.out⟩
  · have c60' : ¬ 60 < (xs.length : Int) := by omega
    have HC := Kept.mk c60
    clear c60
    go_enter Try.func3, Try.ntmps3
    go_wp2_with fail
    go_at_call 7
    refine (New_any w).mono ?_
    rintro e w2 ⟨rfl, HM2, HB2⟩
    have HM3 := Kept.mk (HM2.below ((Below.refl _ w2).alloc (Nat.le_refl _) (.cells #[.slice none 0 0] 30)))
    have HB3 : Kept (Below w.heap.size w (w2.alloc (.cells #[.slice none 0 0] 30))) := ⟨HB2.alloc HB2.size _⟩
    have HR3 : Kept (RefAt (w2.alloc (.cells #[.slice none 0 0] 30)) w.heap.size w2.heap.size (.slice none 0 0) (cps [])) := ⟨⟨HB2.size, Array.getElem?_push_size, Own.nil _ _ _, by simp [cps]⟩⟩
    clear HM2 HB2
    go_upto_region 7 with fail
    generalize w2.heap.size = gr at HR3 ⊢
    generalize w2.alloc (.cells #[.slice none 0 0] 30) = w3 at HM3 HB3 HR3 ⊢
    go_wp2_with fail
    go_loopw [9] (fun v9 wr => PuR xs w gr v9 wr) (fun v9 wr => xs.length - (intOf v9).toNat)
    case atStart => exact ⟨0, rfl, ⟨Nat.zero_le _, ⟨_, _, _, HM3.out, HR3.out⟩, HB3.out⟩⟩
    case round =>
      obtain ⟨j, rfl, HJ⟩ := hrel
      obtain ⟨hj, ⟨v2, u2, es, hM, hR⟩, hBj⟩ := HJ.out
      have HMj := Kept.mk hM
      have HRj := Kept.mk hR
      have HBj := Kept.mk hBj
      have hc60 := HC.out
      clear HJ hM hBj hR
      by_cases cj : j < xs.length
      · have hne : xs ≠ [] := by rintro rfl; simp at cj
        obtain ⟨b1, o1, rfl, hb1, hc1⟩ := HA.out hne
        obtain ⟨e0, e1⟩ := hc1 j cj
        have hk := HBj.out.block b1 hb1
        have e0' : wr.cell? ⟨b1, o1 + j * 2, none⟩ = some (.int .i64 (xs[j]).k) := (World.cell?_of_block hk).trans e0
        have e1' : wr.cell? ⟨b1, o1 + j * 2 + 1, none⟩ = some (.int .i64 (xs[j]).n) := (World.cell?_of_block hk).trans e1
        have cj' : (j : Int) < (xs.length : Int) := by omega
        have f0 : 0 ≤ (j : Int) := by omega
        have hw : wrap64 ((j : Int) + 1) = (j : Int) + 1 := by simp only [wrap64]; omega
        have HCJ := Kept.mk cj
        have e0k := fun (wx : World) (h : Below w.heap.size w wx) => (World.cell?_of_block (a := ⟨b1, o1 + j * 2, none⟩) (h.block b1 hb1)).trans e0
        have HEK := Kept.mk e0k
        generalize xs[j] = x at e0' e1' HEK
        clear e0 e1 hc1 hne hk cj hb1 e0k
        have hCP := chk_put es x.k x.n HMj.out.good
        have HCP := Kept.mk hCP
        clear hCP
        by_cases cl : 20 < x.n ∧ (putE es x.k x.n).1 ≠ 2
        · obtain ⟨ca, cb⟩ := cl
          have cb' : ((putE es x.k x.n).1 != 2) = true := by simpa using cb
          go_wp2_with (first
            | (go_at_call 9; refine (rCheck_any wr w.heap.size gr u2 _ x.k x.n HRj.out).mono ?_; rintro e w4 ⟨rfl, rfl⟩; rewrite [HCP.out])
            | (go_at_call 6; refine (live_any _).mono ?_; rintro e w5 ⟨rfl, hb5⟩; have HB5 := Kept.mk (HBj.out.trans (hb5.mono HBj.out.size)); clear hb5))
          go_returns
          exact ⟨rfl, HB5.out⟩
        · have HNC := Kept.mk cl
          clear cl
          obtain ⟨ec, hec⟩ : ∃ ec : Int, ec = (putE es x.k x.n).1 := ⟨_, rfl⟩
          have HEC := Kept.mk hec
          rw [← hec] at HNC HCP
          clear hec
          go_upto_region 12 with (first
            | (go_at_call 9; refine (rCheck_any wr w.heap.size gr u2 _ x.k x.n HRj.out).mono ?_; rintro e w4 ⟨rfl, rfl⟩; rewrite [HCP.out]))
          go_cut [49] (fun sx wx => sx = .bool false ∧ wr = wx)
          case first =>
            by_cases ca : 20 < x.n
            · have cb : (ec != 2) = false := by
                have h := HNC.out
                simp only [bne_eq_false_iff_eq]
                exact Decidable.byContradiction fun h2 => h ⟨ca, h2⟩
              go_wp2_with fail
              go_meet
              exact ⟨rfl, rfl⟩
            · go_wp2_with fail
              go_meet
              exact ⟨rfl, rfl⟩
          case rest =>
            obtain ⟨rfl, rfl⟩ := hcut
            go_upto_if 62 with (first
              | (go_at_call 10; refine (Put_any wr w.heap.size w.heap.size v2 es x.k x.n HMj.out).mono ?_; rintro e w6 ⟨va, rfl, hM6, hP6⟩; rewrite [← HEC.out]; have HM6 := Kept.mk hM6; have HR6 := Kept.mk (HRj.out.put hP6); have HB6 := Kept.mk (HBj.out.trans hP6.bel); have e6 := HEK.out _ HB6.out; clear hM6 hP6))
            have hok := HMj.out.good
            have HOK := Kept.mk hok
            clear HMj HRj HBj e0' e1' hok
            go_cut [70] (fun sx wx => CutR w gr wx)
            case first =>
              by_cases cz : ec = 0
              · have HCZ := Kept.mk cz
                subst cz
                obtain ⟨left, hl1, hl2, hl3, hl4⟩ := put_two es x.k x.n HOK.out HM6.out.good HEC.out.symm
                have HLL := Kept.mk (And.intro hl1 (And.intro hl2 (And.intro hl3 hl4)))
                clear hl1 hl2 hl3 hl4
                go_wp2_with (first
                  | (go_at_call 11; refine (rPut_any w6 w.heap.size gr u2 _ x.k x.n left HR6.out HLL.out.1 HLL.out.2.1 HLL.out.2.2.2).mono ?_; rintro e wa ⟨rfl, ua, hR7, hP7⟩; rewrite [HLL.out.2.2.1] at hR7; have HRF := Kept.mk hR7; have HMA := Kept.mk (HM6.out.butR HR6.out.box hP7); have HBA := Kept.mk (HB6.out.trans (hP7.below HR6.out.base HR6.out.lt)); clear hR7 hP7))
                go_meet
                exact ⟨_, _, _, HMA.out, HRF.out, HBA.out⟩
              · have cz' : (ec == 0) = false := by simpa using cz
                have hsame := putE_err es x.k x.n (by rw [← HEC.out]; exact cz)
                rw [hsame] at HM6
                clear hsame cz
                go_wp2_with fail
                go_meet
                exact ⟨_, _, _, HM6.out, HR6.out, HB6.out⟩
            case rest =>
              obtain ⟨va, ua, ea, hMA, hRF, hBA⟩ := hcut
              obtain ⟨wa, rfl⟩ : ∃ wa, wa = wc := ⟨_, rfl⟩
              have HMA := Kept.mk hMA
              have HRF := Kept.mk hRF
              have HBA := Kept.mk hBA
              clear hMA hRF hBA HM6 HR6 HB6 HOK e6
              have HRA : Kept (∀ wx, Below wa.heap.size wa wx → MulAt wx w.heap.size w.heap.size va ea ∧ RefAt wx w.heap.size gr ua (cps ea) ∧ Below w.heap.size w wx) := ⟨fun wx h =>
                ⟨HMA.out.below h, HRF.out.below h, HBA.out.trans (h.mono HBA.out.size)⟩⟩
              have HNT := Kept.mk (fun i => cps_nth ea HMA.out.good i)
              have HOF := Kept.mk (cps_of ea k HMA.out.good)
              have hcl := cps_len ea HMA.out.good.pos
              have hcc := HMA.out.good.cnt
              have hwl : wrap64 (((cps ea).length : Int) - 1) = cntE ea - 1 := by rw [hcl]; simp only [wrap64]; have := cnt_nonneg ea HMA.out.good; omega
              have HCL0 := Kept.mk hcl
              clear HMA HRF HBA hcl hcc
              obtain ⟨oc, hoc⟩ : ∃ oc : Int, oc = ofE ea k := ⟨_, rfl⟩
              have HO1 := Kept.mk hoc.symm
              have HO2 : Kept (((cntK (cps ea) k : Nat) : Int) = oc) := ⟨by rw [hoc]; exact HOF.out⟩
              obtain ⟨L, hL⟩ : ∃ L : Nat, L = (cps ea).length := ⟨_, rfl⟩
              have HLL := Kept.mk hL.symm
              have HCL : Kept (cntE ea = (L : Int)) := ⟨by rw [hL]; exact HCL0.out.symm⟩
              rw [← hL] at hwl
              clear hoc hL HOF HCL0
              go_wp2_with (first
                | (go_at_call 12; refine (Nth_any wa w.heap.size w.heap.size va ea i (HRA.out _ (Below.refl _ _)).1 HI.out.1 HI.out.2).mono ?_; rintro e wb ⟨rfl, hbb⟩; have HBB := Kept.mk hbb; clear hbb)
                | (go_at_call 13; refine (rNth_any wb w.heap.size gr ua _ i (HRA.out _ HBB.out).2.1).mono ?_; rintro e wc ⟨rfl, rfl⟩; rewrite [HNT.out]))
              obtain ⟨A2, c2, hua2, -⟩ := own_ints (HRA.out _ HBB.out).2.1.own
              rw [HLL.out] at hua2
              subst hua2
              have cw := (blk_cell (HRA.out _ HBB.out).2.1.box).1
              go_upto_region 20 with fail
              go_cut [109] (fun sx wx => sx = .bool false ∧ Below wa.heap.size wa wx)
              case first =>
                refine wp_region_any (by kernel_rfl) ?_
                try (change wpAny _ _ _ _ _ _ _ (World.drew _))
                refine wpAny_take (i := 0) (v := ?_) rfl (by kernel_rfl) (by kernel_rfl) (by kernel_rfl) (fun _ _ _ h => h) (Or.inl ⟨by kernel_rfl, ?_⟩) ?_
                rotate_left
                · ((intro wq; go_simp); (try with_reducible rfl))
                simp only [List.getElem_toArray, List.getElem_cons_zero, List.getElem_cons_succ, Act.put, List.setIfInBounds_toArray, List.set_cons_zero, List.set_cons_succ]
                refine wpAny_take (i := 2) (v := ?_) rfl (by kernel_rfl) (by kernel_rfl) (by kernel_rfl) (fun _ _ _ h => h) (Or.inl ⟨by kernel_rfl, ?_⟩) ?_
                rotate_left
                · ((intro wq; go_simp); (try with_reducible rfl))
                simp only [List.getElem_toArray, List.getElem_cons_zero, List.getElem_cons_succ, Act.put, List.setIfInBounds_toArray, List.set_cons_zero, List.set_cons_succ]
                refine wpAny_take (i := 3) (v := ?_) rfl (by kernel_rfl) (by kernel_rfl) (by kernel_rfl) (fun _ _ _ h => h) (Or.inl ⟨by kernel_rfl, ?_⟩) ?_
                rotate_left
                · ((intro wq; go_simp); (try with_reducible rfl))
                simp only [List.getElem_toArray, List.getElem_cons_zero, List.getElem_cons_succ, Act.put, List.setIfInBounds_toArray, List.set_cons_zero, List.set_cons_succ]
                refine wpAny_take (i := 4) (v := ?_) rfl (by kernel_rfl) (by kernel_rfl) (by kernel_rfl) (fun _ _ _ h => h) (Or.inl ⟨by kernel_rfl, ?_⟩) ?_
                rotate_left
                · ((intro wq; go_simp); (try with_reducible rfl))
                simp only [List.getElem_toArray, List.getElem_cons_zero, List.getElem_cons_succ, Act.put, List.setIfInBounds_toArray, List.set_cons_zero, List.set_cons_succ]
                refine wpAny_ready (rs := [1, 5]) (by kernel_rfl) (by simp) ?_
                refine AllReady.cons rfl (fun K hK => ?_) ?_
                · go_simp
                  go_wp2_with (first | (go_at_call 14; refine (Count_any _ _ _ _ ea (HRA.out _ ?q).1).mono ?_; (case q => first | exact HBB.out.drew | exact below_drewN HBB.out _ | exact HBB.out); rintro e wx ⟨rfl, rfl⟩; rewrite [HCL.out]))
                  refine wpAny_ready (rs := [5]) (by kernel_rfl) (by simp) ?_
                  refine AllReady.cons rfl (fun K hK => ?_) AllReady.nil
                  go_simp
                  refine hK _ _ ?_; clear hK K
                  refine wpAny_take (i := 6) (v := ?_) rfl (by kernel_rfl) (by kernel_rfl) (by kernel_rfl) (fun _ _ _ h => h) (Or.inl ⟨by kernel_rfl, ?_⟩) ?_
                  rotate_left
                  · ((intro wq; go_simp); (try with_reducible rfl))
                  simp only [List.getElem_toArray, List.getElem_cons_zero, List.getElem_cons_succ, Act.put, List.setIfInBounds_toArray, List.set_cons_zero, List.set_cons_succ]
                  refine wpAny_take (i := 7) (v := ?_) rfl (by kernel_rfl) (by kernel_rfl) (by kernel_rfl) (fun _ _ _ h => h) (Or.inl ⟨by kernel_rfl, ?_⟩) ?_
                  rotate_left
                  · ((intro wq; go_simp); (try with_reducible rfl))
                  simp only [List.getElem_toArray, List.getElem_cons_zero, List.getElem_cons_succ, Act.put, List.setIfInBounds_toArray, List.set_cons_zero, List.set_cons_succ]
                  refine wpAny_take (i := 8) (v := ?_) rfl (by kernel_rfl) (by kernel_rfl) (by kernel_rfl) (fun _ _ _ h => h) (Or.inl ⟨by kernel_rfl, ?_⟩) ?_
                  rotate_left
                  · ((intro wq; go_simp); (try with_reducible rfl))
                  simp only [List.getElem_toArray, List.getElem_cons_zero, List.getElem_cons_succ, Act.put, List.setIfInBounds_toArray, List.set_cons_zero, List.set_cons_succ]
                  refine wpAny_take (i := 9) (v := ?_) rfl (by kernel_rfl) (by kernel_rfl) (by kernel_rfl) (fun _ _ _ h => h) (Or.inl ⟨by kernel_rfl, ?_⟩) ?_
                  rotate_left
                  · ((intro wq; go_simp); (try with_reducible rfl))
                  simp only [List.getElem_toArray, List.getElem_cons_zero, List.getElem_cons_succ, Act.put, List.setIfInBounds_toArray, List.set_cons_zero, List.set_cons_succ]
                  refine wpAny_take (i := 10) (v := ?_) rfl (by kernel_rfl) (by kernel_rfl) (by kernel_rfl) (fun _ _ _ h => h) (Or.inl ⟨by kernel_rfl, ?_⟩) ?_
                  rotate_left
                  · ((intro wq; go_simp); (try with_reducible rfl))
                  simp only [List.getElem_toArray, List.getElem_cons_zero, List.getElem_cons_succ, Act.put, List.setIfInBounds_toArray, List.set_cons_zero, List.set_cons_succ]
                  refine wpAny_take (i := 12) (v := ?_) rfl (by kernel_rfl) (by kernel_rfl) (by kernel_rfl) (fun _ _ _ h => h) (Or.inl ⟨by kernel_rfl, ?_⟩) ?_
                  rotate_left
                  · ((intro wq; go_simp); (try with_reducible rfl))
                  simp only [List.getElem_toArray, List.getElem_cons_zero, List.getElem_cons_succ, Act.put, List.setIfInBounds_toArray, List.set_cons_zero, List.set_cons_succ]
                  refine wpAny_take (i := 13) (v := ?_) rfl (by kernel_rfl) (by kernel_rfl) (by kernel_rfl) (fun _ _ _ h => h) (Or.inl ⟨by kernel_rfl, ?_⟩) ?_
                  rotate_left
                  · ((intro wq; go_simp); (try with_reducible rfl))
                  simp only [List.getElem_toArray, List.getElem_cons_zero, List.getElem_cons_succ, Act.put, List.setIfInBounds_toArray, List.set_cons_zero, List.set_cons_succ]
                  refine wpAny_ready (rs := [11]) (by kernel_rfl) (by simp) ?_
                  refine AllReady.cons rfl (fun K hK => ?_) AllReady.nil
                  go_simp
                  go_wp2_with (first | (go_at_call 15; refine (Of_any _ _ _ _ ea k (HRA.out _ ?q).1).mono ?_; (case q => first | exact HBB.out.drew | exact below_drewN HBB.out _ | exact HBB.out); rintro e w9 ⟨rfl, hb9⟩; have HB9 : Kept (Below wa.heap.size wa w9) := ⟨Below.trans (first_drew HBB.out) (hb9.mono HBB.out.size)⟩; rewrite [HO1.out]; clear hb9))
                  refine wpAny_ready (rs := [14]) (by kernel_rfl) (by simp) ?_
                  refine AllReady.cons rfl (fun K hK => ?_) AllReady.nil
                  go_simp
                  go_wp2_with (first | (go_at_call 16; refine (rOf_any _ _ _ _ _ k (HRA.out _ ?q).2.1).mono ?_; (case q => first | exact HB9.out); rintro e wx ⟨rfl, rfl⟩; rewrite [HO2.out]))
                  refine wpAny_take (i := 15) (v := ?_) rfl (by kernel_rfl) (by kernel_rfl) (by kernel_rfl) (fun _ _ _ h => h) (Or.inl ⟨by kernel_rfl, ?_⟩) ?_
                  rotate_left
                  · ((intro wq; go_simp); (try with_reducible rfl))
                  simp only [List.getElem_toArray, List.getElem_cons_zero, List.getElem_cons_succ, Act.put, List.setIfInBounds_toArray, List.set_cons_zero, List.set_cons_succ]
                  refine wpAny_take (i := 16) (v := ?_) rfl (by kernel_rfl) (by kernel_rfl) (by kernel_rfl) (fun _ _ _ h => h) (Or.inl ⟨by kernel_rfl, ?_⟩) ?_
                  rotate_left
                  · ((intro wq; go_simp); (try with_reducible rfl))
                  simp only [List.getElem_toArray, List.getElem_cons_zero, List.getElem_cons_succ, Act.put, List.setIfInBounds_toArray, List.set_cons_zero, List.set_cons_succ]
                  refine wpAny_take (i := 17) (v := ?_) rfl (by kernel_rfl) (by kernel_rfl) (by kernel_rfl) (fun _ _ _ h => h) (Or.inl ⟨by kernel_rfl, ?_⟩) ?_
                  rotate_left
                  · ((intro wq; go_simp); (try with_reducible rfl))
                  simp only [List.getElem_toArray, List.getElem_cons_zero, List.getElem_cons_succ, Act.put, List.setIfInBounds_toArray, List.set_cons_zero, List.set_cons_succ]
                  refine wpAny_take (i := 18) (v := ?_) rfl (by kernel_rfl) (by kernel_rfl) (by kernel_rfl) (fun _ _ _ h => h) (Or.inl ⟨by kernel_rfl, ?_⟩) ?_
                  rotate_left
                  · ((intro wq; go_simp); (try with_reducible rfl))
                  simp only [List.getElem_toArray, List.getElem_cons_zero, List.getElem_cons_succ, Act.put, List.setIfInBounds_toArray, List.set_cons_zero, List.set_cons_succ]
                  refine wpAny_take (i := 19) (v := ?_) rfl (by kernel_rfl) (by kernel_rfl) (by kernel_rfl) (fun _ _ _ h => h) (Or.inl ⟨by kernel_rfl, ?_⟩) ?_
                  rotate_left
                  · ((intro wq; go_simp); (try with_reducible rfl))
                  simp only [List.getElem_toArray, List.getElem_cons_zero, List.getElem_cons_succ, Act.put, List.setIfInBounds_toArray, List.set_cons_zero, List.set_cons_succ]
                  refine wpAny_take (i := 20) (v := ?_) rfl (by kernel_rfl) (by kernel_rfl) (by kernel_rfl) (fun _ _ _ h => h) (Or.inl ⟨by kernel_rfl, ?_⟩) ?_
                  rotate_left
                  · ((intro wq; go_simp); (try with_reducible rfl))
                  simp only [List.getElem_toArray, List.getElem_cons_zero, List.getElem_cons_succ, Act.put, List.setIfInBounds_toArray, List.set_cons_zero, List.set_cons_succ]
                  refine wpAny_take (i := 21) (v := ?_) rfl (by kernel_rfl) (by kernel_rfl) (by kernel_rfl) (fun _ _ _ h => h) (Or.inl ⟨by kernel_rfl, ?_⟩) ?_
                  rotate_left
                  · ((intro wq; go_simp); (try with_reducible rfl))
                  simp only [List.getElem_toArray, List.getElem_cons_zero, List.getElem_cons_succ, Act.put, List.setIfInBounds_toArray, List.set_cons_zero, List.set_cons_succ]
                  refine wpAny_take (i := 22) (v := ?_) rfl (by kernel_rfl) (by kernel_rfl) (by kernel_rfl) (fun _ _ _ h => h) (Or.inl ⟨by kernel_rfl, ?_⟩) ?_
                  rotate_left
                  · ((intro wq; go_simp); (try with_reducible rfl))
                  simp only [List.getElem_toArray, List.getElem_cons_zero, List.getElem_cons_succ, Act.put, List.setIfInBounds_toArray, List.set_cons_zero, List.set_cons_succ]
                  refine wpAny_take (i := 23) (v := ?_) rfl (by kernel_rfl) (by kernel_rfl) (by kernel_rfl) (fun _ _ _ h => h) (Or.inl ⟨by kernel_rfl, ?_⟩) ?_
                  rotate_left
                  · ((intro wq; go_simp); (try with_reducible rfl))
                  simp only [List.getElem_toArray, List.getElem_cons_zero, List.getElem_cons_succ, Act.put, List.setIfInBounds_toArray, List.set_cons_zero, List.set_cons_succ]
                  refine wpAny_take (i := 24) (v := ?_) rfl (by kernel_rfl) (by kernel_rfl) (by kernel_rfl) (fun _ _ _ h => h) (Or.inl ⟨by kernel_rfl, ?_⟩) ?_
                  rotate_left
                  · ((intro wq; go_simp); (try with_reducible rfl))
                  simp only [List.getElem_toArray, List.getElem_cons_zero, List.getElem_cons_succ, Act.put, List.setIfInBounds_toArray, List.set_cons_zero, List.set_cons_succ]
                  refine wpAny_take (i := 25) (v := ?_) rfl (by kernel_rfl) (by kernel_rfl) (by kernel_rfl) (fun _ _ _ h => h) (Or.inl ⟨by kernel_rfl, ?_⟩) ?_
                  rotate_left
                  · ((intro wq; go_simp); (try with_reducible rfl))
                  simp only [List.getElem_toArray, List.getElem_cons_zero, List.getElem_cons_succ, Act.put, List.setIfInBounds_toArray, List.set_cons_zero, List.set_cons_succ]
                  refine wpAny_take (i := 26) (v := ?_) rfl (by kernel_rfl) (by kernel_rfl) (by kernel_rfl) (fun _ _ _ h => h) (Or.inl ⟨by kernel_rfl, ?_⟩) ?_
                  rotate_left
                  · ((intro wq; go_simp); (try with_reducible rfl))
                  simp only [List.getElem_toArray, List.getElem_cons_zero, List.getElem_cons_succ, Act.put, List.setIfInBounds_toArray, List.set_cons_zero, List.set_cons_succ]
                  refine wpAny_done (by kernel_rfl) ?_ _
                  go_wp2_with fail
                  go_meet
                  exact ⟨rfl, HB9.out⟩
                · refine AllReady.cons rfl (fun K hK => ?_) AllReady.nil
                  go_simp
                  refine hK _ _ ?_; clear hK K
                  refine wpAny_take (i := 6) (v := ?_) rfl (by kernel_rfl) (by kernel_rfl) (by kernel_rfl) (fun _ _ _ h => h) (Or.inl ⟨by kernel_rfl, ?_⟩) ?_
                  rotate_left
                  · ((intro wq; go_simp); (try with_reducible rfl))
                  simp only [List.getElem_toArray, List.getElem_cons_zero, List.getElem_cons_succ, Act.put, List.setIfInBounds_toArray, List.set_cons_zero, List.set_cons_succ]
                  refine wpAny_ready (rs := [1]) (by kernel_rfl) (by simp) ?_
                  refine AllReady.cons rfl (fun K hK => ?_) AllReady.nil
                  go_simp
                  go_wp2_with (first | (go_at_call 14; refine (Count_any _ _ _ _ ea (HRA.out _ ?q).1).mono ?_; (case q => first | exact HBB.out.drew | exact below_drewN HBB.out _ | exact HBB.out); rintro e wx ⟨rfl, rfl⟩; rewrite [HCL.out]))
                  refine wpAny_take (i := 7) (v := ?_) rfl (by kernel_rfl) (by kernel_rfl) (by kernel_rfl) (fun _ _ _ h => h) (Or.inl ⟨by kernel_rfl, ?_⟩) ?_
                  rotate_left
                  · ((intro wq; go_simp); (try with_reducible rfl))
                  simp only [List.getElem_toArray, List.getElem_cons_zero, List.getElem_cons_succ, Act.put, List.setIfInBounds_toArray, List.set_cons_zero, List.set_cons_succ]
                  refine wpAny_take (i := 8) (v := ?_) rfl (by kernel_rfl) (by kernel_rfl) (by kernel_rfl) (fun _ _ _ h => h) (Or.inl ⟨by kernel_rfl, ?_⟩) ?_
                  rotate_left
                  · ((intro wq; go_simp); (try with_reducible rfl))
                  simp only [List.getElem_toArray, List.getElem_cons_zero, List.getElem_cons_succ, Act.put, List.setIfInBounds_toArray, List.set_cons_zero, List.set_cons_succ]
                  refine wpAny_take (i := 9) (v := ?_) rfl (by kernel_rfl) (by kernel_rfl) (by kernel_rfl) (fun _ _ _ h => h) (Or.inl ⟨by kernel_rfl, ?_⟩) ?_
                  rotate_left
                  · ((intro wq; go_simp); (try with_reducible rfl))
                  simp only [List.getElem_toArray, List.getElem_cons_zero, List.getElem_cons_succ, Act.put, List.setIfInBounds_toArray, List.set_cons_zero, List.set_cons_succ]
                  refine wpAny_take (i := 10) (v := ?_) rfl (by kernel_rfl) (by kernel_rfl) (by kernel_rfl) (fun _ _ _ h => h) (Or.inl ⟨by kernel_rfl, ?_⟩) ?_
                  rotate_left
                  · ((intro wq; go_simp); (try with_reducible rfl))
                  simp only [List.getElem_toArray, List.getElem_cons_zero, List.getElem_cons_succ, Act.put, List.setIfInBounds_toArray, List.set_cons_zero, List.set_cons_succ]
                  refine wpAny_take (i := 12) (v := ?_) rfl (by kernel_rfl) (by kernel_rfl) (by kernel_rfl) (fun _ _ _ h => h) (Or.inl ⟨by kernel_rfl, ?_⟩) ?_
                  rotate_left
                  · ((intro wq; go_simp); (try with_reducible rfl))
                  simp only [List.getElem_toArray, List.getElem_cons_zero, List.getElem_cons_succ, Act.put, List.setIfInBounds_toArray, List.set_cons_zero, List.set_cons_succ]
                  refine wpAny_take (i := 13) (v := ?_) rfl (by kernel_rfl) (by kernel_rfl) (by kernel_rfl) (fun _ _ _ h => h) (Or.inl ⟨by kernel_rfl, ?_⟩) ?_
                  rotate_left
                  · ((intro wq; go_simp); (try with_reducible rfl))
                  simp only [List.getElem_toArray, List.getElem_cons_zero, List.getElem_cons_succ, Act.put, List.setIfInBounds_toArray, List.set_cons_zero, List.set_cons_succ]
                  refine wpAny_ready (rs := [11]) (by kernel_rfl) (by simp) ?_
                  refine AllReady.cons rfl (fun K hK => ?_) AllReady.nil
                  go_simp
                  go_wp2_with (first | (go_at_call 15; refine (Of_any _ _ _ _ ea k (HRA.out _ ?q).1).mono ?_; (case q => first | exact HBB.out.drew | exact below_drewN HBB.out _ | exact HBB.out); rintro e w9 ⟨rfl, hb9⟩; have HB9 : Kept (Below wa.heap.size wa w9) := ⟨Below.trans (first_drew HBB.out) (hb9.mono HBB.out.size)⟩; rewrite [HO1.out]; clear hb9))
                  refine wpAny_ready (rs := [14]) (by kernel_rfl) (by simp) ?_
                  refine AllReady.cons rfl (fun K hK => ?_) AllReady.nil
                  go_simp
                  go_wp2_with (first | (go_at_call 16; refine (rOf_any _ _ _ _ _ k (HRA.out _ ?q).2.1).mono ?_; (case q => first | exact HB9.out); rintro e wx ⟨rfl, rfl⟩; rewrite [HO2.out]))
                  refine wpAny_take (i := 15) (v := ?_) rfl (by kernel_rfl) (by kernel_rfl) (by kernel_rfl) (fun _ _ _ h => h) (Or.inl ⟨by kernel_rfl, ?_⟩) ?_
                  rotate_left
                  · ((intro wq; go_simp); (try with_reducible rfl))
                  simp only [List.getElem_toArray, List.getElem_cons_zero, List.getElem_cons_succ, Act.put, List.setIfInBounds_toArray, List.set_cons_zero, List.set_cons_succ]
                  refine wpAny_take (i := 16) (v := ?_) rfl (by kernel_rfl) (by kernel_rfl) (by kernel_rfl) (fun _ _ _ h => h) (Or.inl ⟨by kernel_rfl, ?_⟩) ?_
                  rotate_left
                  · ((intro wq; go_simp); (try with_reducible rfl))
                  simp only [List.getElem_toArray, List.getElem_cons_zero, List.getElem_cons_succ, Act.put, List.setIfInBounds_toArray, List.set_cons_zero, List.set_cons_succ]
                  refine wpAny_take (i := 17) (v := ?_) rfl (by kernel_rfl) (by kernel_rfl) (by kernel_rfl) (fun _ _ _ h => h) (Or.inl ⟨by kernel_rfl, ?_⟩) ?_
                  rotate_left
                  · ((intro wq; go_simp); (try with_reducible rfl))
                  simp only [List.getElem_toArray, List.getElem_cons_zero, List.getElem_cons_succ, Act.put, List.setIfInBounds_toArray, List.set_cons_zero, List.set_cons_succ]
                  refine wpAny_take (i := 18) (v := ?_) rfl (by kernel_rfl) (by kernel_rfl) (by kernel_rfl) (fun _ _ _ h => h) (Or.inl ⟨by kernel_rfl, ?_⟩) ?_
                  rotate_left
                  · ((intro wq; go_simp); (try with_reducible rfl))
                  simp only [List.getElem_toArray, List.getElem_cons_zero, List.getElem_cons_succ, Act.put, List.setIfInBounds_toArray, List.set_cons_zero, List.set_cons_succ]
                  refine wpAny_take (i := 19) (v := ?_) rfl (by kernel_rfl) (by kernel_rfl) (by kernel_rfl) (fun _ _ _ h => h) (Or.inl ⟨by kernel_rfl, ?_⟩) ?_
                  rotate_left
                  · ((intro wq; go_simp); (try with_reducible rfl))
                  simp only [List.getElem_toArray, List.getElem_cons_zero, List.getElem_cons_succ, Act.put, List.setIfInBounds_toArray, List.set_cons_zero, List.set_cons_succ]
                  refine wpAny_take (i := 20) (v := ?_) rfl (by kernel_rfl) (by kernel_rfl) (by kernel_rfl) (fun _ _ _ h => h) (Or.inl ⟨by kernel_rfl, ?_⟩) ?_
                  rotate_left
                  · ((intro wq; go_simp); (try with_reducible rfl))
                  simp only [List.getElem_toArray, List.getElem_cons_zero, List.getElem_cons_succ, Act.put, List.setIfInBounds_toArray, List.set_cons_zero, List.set_cons_succ]
                  refine wpAny_take (i := 21) (v := ?_) rfl (by kernel_rfl) (by kernel_rfl) (by kernel_rfl) (fun _ _ _ h => h) (Or.inl ⟨by kernel_rfl, ?_⟩) ?_
                  rotate_left
                  · ((intro wq; go_simp); (try with_reducible rfl))
                  simp only [List.getElem_toArray, List.getElem_cons_zero, List.getElem_cons_succ, Act.put, List.setIfInBounds_toArray, List.set_cons_zero, List.set_cons_succ]
                  refine wpAny_take (i := 22) (v := ?_) rfl (by kernel_rfl) (by kernel_rfl) (by kernel_rfl) (fun _ _ _ h => h) (Or.inl ⟨by kernel_rfl, ?_⟩) ?_
                  rotate_left
                  · ((intro wq; go_simp); (try with_reducible rfl))
                  simp only [List.getElem_toArray, List.getElem_cons_zero, List.getElem_cons_succ, Act.put, List.setIfInBounds_toArray, List.set_cons_zero, List.set_cons_succ]
                  refine wpAny_take (i := 23) (v := ?_) rfl (by kernel_rfl) (by kernel_rfl) (by kernel_rfl) (fun _ _ _ h => h) (Or.inl ⟨by kernel_rfl, ?_⟩) ?_
                  rotate_left
                  · ((intro wq; go_simp); (try with_reducible rfl))
                  simp only [List.getElem_toArray, List.getElem_cons_zero, List.getElem_cons_succ, Act.put, List.setIfInBounds_toArray, List.set_cons_zero, List.set_cons_succ]
                  refine wpAny_take (i := 24) (v := ?_) rfl (by kernel_rfl) (by kernel_rfl) (by kernel_rfl) (fun _ _ _ h => h) (Or.inl ⟨by kernel_rfl, ?_⟩) ?_
                  rotate_left
                  · ((intro wq; go_simp); (try with_reducible rfl))
                  simp only [List.getElem_toArray, List.getElem_cons_zero, List.getElem_cons_succ, Act.put, List.setIfInBounds_toArray, List.set_cons_zero, List.set_cons_succ]
                  refine wpAny_take (i := 25) (v := ?_) rfl (by kernel_rfl) (by kernel_rfl) (by kernel_rfl) (fun _ _ _ h => h) (Or.inl ⟨by kernel_rfl, ?_⟩) ?_
                  rotate_left
                  · ((intro wq; go_simp); (try with_reducible rfl))
                  simp only [List.getElem_toArray, List.getElem_cons_zero, List.getElem_cons_succ, Act.put, List.setIfInBounds_toArray, List.set_cons_zero, List.set_cons_succ]
                  refine wpAny_take (i := 26) (v := ?_) rfl (by kernel_rfl) (by kernel_rfl) (by kernel_rfl) (fun _ _ _ h => h) (Or.inl ⟨by kernel_rfl, ?_⟩) ?_
                  rotate_left
                  · ((intro wq; go_simp); (try with_reducible rfl))
                  simp only [List.getElem_toArray, List.getElem_cons_zero, List.getElem_cons_succ, Act.put, List.setIfInBounds_toArray, List.set_cons_zero, List.set_cons_succ]
                  refine wpAny_done (by kernel_rfl) ?_ _
                  go_wp2_with fail
                  go_meet
                  exact ⟨rfl, HB9.out⟩
              case rest =>
                obtain ⟨rfl, hbc⟩ := hcut
                have HBC := Kept.mk hbc
                clear hbc cw
                have HLZ := Kept.mk hwl
                go_wp2_with fail
                go_at_call 17
                refine (Least_any _ _ _ _ ea (HRA.out _ HBC.out).1).mono ?_
                rintro e wd ⟨rfl, hbd⟩
                have HBD := Kept.mk (HBC.out.trans (hbd.mono HBC.out.size))
                clear hbd
                go_wp2_with fail
                go_at_call 13
                refine (rNth_any wd _ _ _ _ 0 (HRA.out _ HBD.out).2.1).mono ?_
                rintro e wx ⟨rfl, rfl⟩
                rewrite [HNT.out]
                go_wp2_with fail
                go_at_call 18
                refine (Most_any wd _ _ _ ea (HRA.out _ HBD.out).1).mono ?_
                rintro e we ⟨rfl, hbe⟩
                have HBE := Kept.mk (HBD.out.trans (hbe.mono HBD.out.size))
                have ce := (blk_cell (HRA.out _ HBE.out).2.1.box).1
                clear hbe
                go_wp2_with fail
                go_at_call 13
                try rewrite [HLZ.out]
                refine (rNth_any we _ _ _ _ (cntE ea - 1) (HRA.out _ HBE.out).2.1).mono ?_
                rintro e wx ⟨rfl, rfl⟩
                rewrite [HNT.out]
                go_wp2_with fail
                refine ⟨⟨j + 1, by first | rfl | (rw [hw]; rfl), ⟨HCJ.out, ⟨_, _, _, (HRA.out _ HBE.out).1, (HRA.out _ HBE.out).2.1⟩, (HRA.out _ HBE.out).2.2⟩⟩, by first | exact less_step hw HCJ.out | (have := HCJ.out; simp only [intOf]; omega)⟩
      · have cj' : ¬ ((j : Int) < (xs.length : Int)) := by omega
        clear cj
        go_wp2_with (first | (go_at_call 6; refine (live_any _).mono ?_; rintro e w5 ⟨rfl, hb5⟩; have HB5 := Kept.mk (HBj.out.trans (hb5.mono HBj.out.size)); clear hb5))
        go_returns
        exact ⟨rfl, HB5.out⟩
end Go.Proofs.Ytjllcgmdnkakgaa
