/- Layer 7 (schema): the reference's Join and Pick: walked. -/
import Derived.Test.YthcgdlhmmgpbgaaSchS
namespace Go.Proofs.Ythcgdlhmmgpbgaa
open Go.RowKit Go.Shelf
set_option linter.unusedVariables false
set_option linter.unusedSimpArgs false

set_option maxRecDepth 100000 in
set_option maxHeartbeats 1000000 in
theorem rcJoin_any (v u : Value) (xs ys : List Cl) (w : World) (H1 : HasC w w.heap.size v xs) (H2 : HasC w w.heap.size u ys) (hN1 : ∀ x ∈ xs, SzB x.s) (hN2 : ∀ x ∈ ys, SzB x.s) :
    Calls Try.prog 13 #[v, u] w (RetC w (joinC xs ys)) := by
  have h1 := Kept.mk H1
  have h2 := Kept.mk H2
  have HN1 := Kept.mk hN1
  have HN2 := Kept.mk hN2
  clear hN1 hN2
  obtain ⟨A, c, rfl, _, _⟩ := H1
  obtain ⟨B, d, rfl, _, _⟩ := H2
  cases m1 : mayC xs with
  | false =>
    have hv : Kept (joinC xs ys = ([], 17)) := ⟨by simp [joinC, m1]⟩
    have M1 := Kept.mk m1
    clear m1
    go_enter Try.func13, Try.ntmps13
    go_wp2_with (first
      | (go_at_call 18; refine (rcMay_any A xs.length c xs _ h1.out HN1.out).mono ?_; rintro e w1 ⟨rfl, hb1⟩; obtain ⟨r1, d1, rfl⟩ := xw_of hb1; clear hb1; rewrite [M1.out]))
    go_returns
    rw [hv.out]
    exact ⟨_, rfl, OwnC.nil _ _, xw_below _ _ _⟩
  | true =>
    have M1 := Kept.mk m1
    cases m2 : mayC ys with
    | false =>
      have hv : Kept (joinC xs ys = ([], 17)) := ⟨by simp [joinC, m2]⟩
      have M2 := Kept.mk m2
      clear m1 m2
      go_enter Try.func13, Try.ntmps13
      go_wp2_with fail
      go_at_call 18
      refine (rcMay_any A xs.length c xs _ h1.out HN1.out).mono ?_
      rintro e w1 ⟨rfl, hb1⟩
      obtain ⟨r1, d1, rfl⟩ := xw_of hb1
      clear hb1
      rewrite [M1.out]
      go_wp2_with fail
      go_at_call 18
      refine (rcMay_any B ys.length d ys _ ((h2.out.below (xw_below _ r1 d1)).up (by rw [xw_size]; omega)) HN2.out).mono ?_
      rintro e w1 ⟨rfl, hb1⟩
      obtain ⟨r2, d2, rfl⟩ := xw_of hb1
      clear hb1
      rewrite [M2.out]
      go_wp2_with fail
      go_returns
      rw [hv.out]
      exact ⟨_, rfl, OwnC.nil _ _, xw_below _ _ _⟩
    | true =>
      have M2 := Kept.mk m2
      have l1 := (mayC_iff.1 m1).1
      have l2 := (mayC_iff.1 m2).1
      clear m1 m2
      by_cases c8 : 8 < xs.length + ys.length
      · have hv : Kept (joinC xs ys = ([], 6)) := ⟨by simp [joinC, M1.out, M2.out, c8]⟩
        have c8' : 8 < (xs.length : Int) + (ys.length : Int) := by omega
        clear c8
        go_enter Try.func13, Try.ntmps13
        go_wp2_with fail
        go_at_call 18
        refine (rcMay_any A xs.length c xs _ h1.out HN1.out).mono ?_
        rintro e w1 ⟨rfl, hb1⟩
        obtain ⟨r1, d1, rfl⟩ := xw_of hb1
        clear hb1
        rewrite [M1.out]
        go_wp2_with fail
        go_at_call 18
        refine (rcMay_any B ys.length d ys _ ((h2.out.below (xw_below _ r1 d1)).up (by rw [xw_size]; omega)) HN2.out).mono ?_
        rintro e w1 ⟨rfl, hb1⟩
        obtain ⟨r2, d2, rfl⟩ := xw_of hb1
        clear hb1
        rewrite [M2.out]
        go_wp2_with fail
        go_returns
        rw [hv.out]
        exact ⟨_, rfl, OwnC.nil _ _, xw_below _ _ _⟩
      · have HJ : Kept (joinC xs ys = if ∃ y ∈ ys, 0 ≤ idx xs y.s then ([], 9) else (xs ++ ys, 0)) := ⟨by simp only [joinC, M1.out, M2.out, and_self, if_true, if_neg c8]⟩
        have c8' : ¬ 8 < (xs.length : Int) + (ys.length : Int) := by omega
        have HL : Kept (xs.length + ys.length ≤ 8) := ⟨by omega⟩
        clear c8
        go_enter Try.func13, Try.ntmps13
        go_wp2_with fail
        go_at_call 18
        refine (rcMay_any A xs.length c xs _ h1.out HN1.out).mono ?_
        rintro e w1 ⟨rfl, hb1⟩
        obtain ⟨r1, d1, rfl⟩ := xw_of hb1
        clear hb1
        rewrite [M1.out]
        go_wp2_with fail
        go_at_call 18
        refine (rcMay_any B ys.length d ys _ ((h2.out.below (xw_below _ r1 d1)).up (by rw [xw_size]; omega)) HN2.out).mono ?_
        rintro e w1 ⟨rfl, hb1⟩
        obtain ⟨r2, d2, rfl⟩ := xw_of hb1
        clear hb1
        rewrite [M2.out]
        go_wp2_with (first
          | ((at_builtin); refine app_cols (w0 := w) (W := _) rfl (.tmp 21) (.tmp 22) 25 rfl Try.underlying25 (.slice (some ⟨(xw w (r1 ++ r2) d2).heap.size, 0, none⟩) 0 0) [] xs A c rfl rfl ?c1 ?c2 ?c3 ?c4 ?_; (case c1 => exact ((h1.out.below (xw_below w (r1 ++ r2) d2)).below ((Below.refl _ _).alloc (by rw [xw_size]; omega) _)).read); (case c2 => exact OwnC.lit _ _ [] (by rw [xw_size]; omega) (by simp)); (case c3 => exact (xw_below w (r1 ++ r2) d2).alloc (by rw [xw_size]; omega) _); (case c4 => have := HL.out; simp only [List.length_nil]; omega); intro v3 r3 d3 hO3; rewrite [List.nil_append] at hO3; have HO3 := Kept.mk hO3; clear hO3)
          | ((at_builtin); refine app_cols (w0 := w) (W := _) rfl (.tmp 24) (.tmp 25) 25 rfl Try.underlying25 v3 xs ys B d rfl rfl ?c2 HO3.out (xw_below _ _ _) ?c3 ?_; (case c2 => exact (h2.out.below (xw_below _ _ _)).read); (case c3 => have := HL.out; omega); intro v1 r4 d4 hO4))
        have HO4 := Kept.mk hO4
        have HL4 : Kept (HasC (xw w r4 d4) (xw w r4 d4).heap.size v1 (xs ++ ys)) := ⟨hO4.has⟩
        clear hO4
        obtain ⟨A4, c4, rfl, _⟩ := id HL4.out
        go_at_call 18
        refine (rcMay_any A4 _ c4 (xs ++ ys) _ HL4.out (fun x hx => (List.mem_append.1 hx).elim (HN1.out x) (HN2.out x))).mono ?_
        rintro e w5 ⟨rfl, hb5⟩
        obtain ⟨r5, d5, rfl⟩ := xw_of hb5
        have HO5 := Kept.mk (HO4.out.below hb5)
        clear hb5 HO4
        have hm := mayC_join M1.out M2.out HL.out
        by_cases he : ∃ y ∈ ys, 0 ≤ idx xs y.s
        · have hv : Kept (joinC xs ys = ([], 9)) := ⟨by rw [HJ.out, if_pos he]⟩
          have h5 : mayC (xs ++ ys) = false := Bool.eq_false_iff.2 (fun h => hm.1 h he)
          rewrite [h5]
          clear hm he
          go_wp2_with fail
          go_returns
          rw [hv.out]
          exact ⟨_, rfl, OwnC.nil _ _, xw_below _ _ _⟩
        · have hv : Kept (joinC xs ys = (xs ++ ys, 0)) := ⟨by rw [HJ.out, if_neg he]⟩
          have h5 : mayC (xs ++ ys) = true := hm.2 he
          rewrite [h5]
          clear hm he
          go_wp2_with fail
          go_returns
          rw [hv.out]
          refine ⟨_, rfl, ?_, xw_below _ _ _⟩
          have h9 := HO5.out
          rw [xw_xw] at h9
          simpa [List.length_append] using h9
def PrI (cs : List Cl) (ns : List Int) (w : World) (v7 v6 : Value) (wr : World) : Prop := ∃ (i : Nat) (r : Array Obj) (d : Nat), v7 = .int .i64 (i : Int) ∧ wr = xw w r d ∧ Kept (OwnC wr w.heap.size v6 ((ns.take i).map (getC cs))) ∧ Kept (i ≤ ns.length ∧ ∀ j, (hj : j < i) → (hl : j < ns.length) → ¬ (ns[j] < 0 ∨ (cs.length : Int) ≤ ns[j]))
set_option maxRecDepth 100000 in
set_option maxHeartbeats 2000000 in
theorem rcPick_any (v u : Value) (cs : List Cl) (ns : List Int) (w : World) (H1 : HasC w w.heap.size v cs) (H2 : HasI w w.heap.size u ns) (hz : ∀ x ∈ cs, SzB x.s) :
    Calls Try.prog 15 #[v, u] w (RetC w (pickC cs ns)) := by
  have h1 := Kept.mk H1
  have HZ := Kept.mk hz
  clear hz
  obtain ⟨A, c, rfl, _, hA⟩ := H1
  obtain ⟨B, d, rfl, hB⟩ := H2
  have HA := Kept.mk hA
  have HB := Kept.mk hB
  clear hA hB
  cases m1 : mayC cs with
  | false =>
    have hv : Kept (pickC cs ns = ([], 17)) := ⟨by simp [pickC, m1]⟩
    have M1 := Kept.mk m1
    clear m1
    go_enter Try.func15, Try.ntmps15
    go_wp2_with (first
      | (go_at_call 18; refine (rcMay_any A cs.length c cs _ h1.out HZ.out).mono ?_; rintro e w1 ⟨rfl, hb1⟩; obtain ⟨r1, d1, rfl⟩ := xw_of hb1; clear hb1; rewrite [M1.out]))
    go_returns
    rw [hv.out]
    exact ⟨_, rfl, OwnC.nil _ _, xw_below _ _ _⟩
  | true =>
    have M1 := Kept.mk m1
    have L1 := Kept.mk (mayC_iff.1 m1).1
    clear m1
    by_cases c8 : 8 < ns.length
    · have hv : Kept (pickC cs ns = ([], 6)) := ⟨by simp [pickC, M1.out, c8]⟩
      have c8' : 8 < (ns.length : Int) := by omega
      clear c8
      go_enter Try.func15, Try.ntmps15
      go_wp2_with (first
        | (go_at_call 18; refine (rcMay_any A cs.length c cs _ h1.out HZ.out).mono ?_; rintro e w1 ⟨rfl, hb1⟩; obtain ⟨r1, d1, rfl⟩ := xw_of hb1; clear hb1; rewrite [M1.out]))
      go_returns
      rw [hv.out]
      exact ⟨_, rfl, OwnC.nil _ _, xw_below _ _ _⟩
    · have HV : Kept (pickC cs ns = if badN cs.length ns then ([], 3) else if ns.Nodup then (ns.map (getC cs), 0) else ([], 9)) := ⟨by simp only [pickC, M1.out, if_true, if_neg c8]⟩
      have c8' : ¬ 8 < (ns.length : Int) := by omega
      have H8 : Kept (ns.length ≤ 8) := ⟨by omega⟩
      clear c8
      go_enter Try.func15, Try.ntmps15
      go_wp2_with (first
        | (go_at_call 18; refine (rcMay_any A cs.length c cs _ h1.out HZ.out).mono ?_; rintro e w1 ⟨rfl, hb1⟩; obtain ⟨r1, d1, rfl⟩ := xw_of hb1; clear hb1; rewrite [M1.out]))
      have HO : Kept (OwnC ((xw w r1 d1).alloc (.cells #[] 41)) w.heap.size (.slice (some ⟨(xw w r1 d1).heap.size, 0, none⟩) 0 0) []) := ⟨OwnC.lit _ _ [] (by rw [xw_size]; omega) (by simp)⟩
      rewrite [alloc_xw, xw_xw] at HO
      rewrite [alloc_xw, xw_xw]
      go_loopw [7, 6] (fun v7 v6 wr => PrI cs ns w v7 v6 wr) (fun v7 v6 wr => ns.length - (intOf v7).toNat)
      case atStart => exact ⟨0, _, _, rfl, rfl, HO, ⟨Nat.zero_le _, fun j hj => by omega⟩⟩
      case round =>
        obtain ⟨i, r, d', rfl, rfl, HOR, HI⟩ := hrel
        clear HO
        by_cases ci : i < ns.length
        · have hne : ns ≠ [] := by rintro rfl; simp at ci
          obtain ⟨b2, o2, rfl, hb2, hc2⟩ := HB.out hne
          have g0 := hc2 i ci
          have ci' : (i : Int) < (ns.length : Int) := by omega
          have f0 : 0 ≤ (i : Int) := by omega
          have hw : wrap64 ((i : Int) + 1) = (i : Int) + 1 := by have := H8.out; simp only [wrap64]; omega
          have HCI := Kept.mk ci
          by_cases cn : ns[i] < 0 ∨ (cs.length : Int) ≤ ns[i]
          · have hv : Kept (pickC cs ns = ([], 3)) := ⟨by rw [HV.out, if_pos ⟨_, List.getElem_mem ci, cn⟩]⟩
            clear hc2 hne
            generalize ns[i] = cc at g0 cn
            rcases cn with cn | cn
            · go_wp2_with fail
              go_returns
              rw [hv.out]
              exact ⟨_, rfl, OwnC.nil _ _, xw_below _ _ _⟩
            · have cn0 : ¬ cc < 0 := by omega
              go_wp2_with fail
              go_returns
              rw [hv.out]
              exact ⟨_, rfl, OwnC.nil _ _, xw_below _ _ _⟩
          · obtain ⟨m, hml, hm, hgcx⟩ := getC_in cn
            clear hgcx
            have HNX : Kept (∀ j, (hj : j < i + 1) → (hl : j < ns.length) → ¬ (ns[j] < 0 ∨ (cs.length : Int) ≤ ns[j])) := ⟨fun j hj hl => by
              by_cases hji : j < i
              · exact HI.out.2 j hji hl
              · obtain rfl : j = i := by omega
                exact cn⟩
            have hgc : Kept ((ns.take (i + 1)).map (getC cs) = (ns.take i).map (getC cs) ++ [cs[m]]) := ⟨by rw [List.take_succ_eq_append_getElem ci, List.map_append, List.map_cons, List.map_nil, hm, getC_at hml]⟩
            rw [hm] at g0
            have hml' : (m : Int) < (cs.length : Int) := by omega
            have hml2 : ¬ ((cs.length : Int) ≤ (m : Int)) := by omega
            have m0 : ¬ ((m : Int) < 0) := by omega
            have m1 : 0 ≤ (m : Int) := by omega
            have hne1 : cs ≠ [] := by rintro rfl; simp at hml
            obtain ⟨b1, o1, rfl, hb1, hc1⟩ := HA.out hne1
            obtain ⟨e0, e1⟩ := hc1 m hml
            generalize cs[m] = x at e0 e1 hgc
            obtain ⟨xs', xk⟩ := x
            simp only at e0 e1
            clear hc1 hc2 hne hne1 cn hm hml
            go_wp2_with (first
              | ((at_builtin); refine app_col (w0 := w) (W := xw w r d') rfl (.tmp 35) (.tmp 43) 25 rfl Try.underlying25 _ ((ns.take i).map (getC cs)) xs' xk rfl rfl HOR.out (xw_below _ _ _) ?c4 ?_; (case c4 => have := H8.out; simp only [List.length_map, List.length_take]; omega); intro v1 r3 d3 hO3 _; have HO3 := Kept.mk hO3; clear hO3))
            refine ⟨⟨i + 1, _, _, by first | rfl | (rw [hw]; rfl), rfl, ⟨by rw [hgc.out]; exact HO3.out⟩, ⟨HCI.out, HNX.out⟩⟩, by first | exact less_step hw HCI.out | exact less_bare' HCI.out⟩
        · have hi : i = ns.length := by have := HI.out.1; omega
          have hnb : ¬ badN cs.length ns := by
            rintro ⟨x, hx, hbad⟩
            obtain ⟨j, hj, rfl⟩ := List.getElem_of_mem hx
            exact HI.out.2 j (by omega) hj hbad
          have hoe := HOR.out
          rw [hi, List.take_length] at hoe
          have HOE := Kept.mk hoe
          have ci' : ¬ ((i : Int) < (ns.length : Int)) := by omega
          have HV2 : Kept (pickC cs ns = if ns.Nodup then (ns.map (getC cs), 0) else ([], 9)) := ⟨by rw [HV.out, if_neg hnb]⟩
          have hpk : Kept (ns ≠ [] → (mayC (ns.map (getC cs)) = true ↔ ns.Nodup)) := ⟨fun h0 => mayC_pick M1.out H8.out h0 hnb⟩
          have HL : Kept (HasC (xw w r d') (xw w r d').heap.size _ (ns.map (getC cs))) := ⟨hoe.has⟩
          have HZ2 : Kept (∀ x ∈ ns.map (getC cs), SzB x.s) := ⟨fun x hx => by
            obtain ⟨k, hk, rfl⟩ := List.mem_map.1 hx
            obtain ⟨m, hm, _, e⟩ := getC_in (fun h => hnb ⟨k, hk, h⟩)
            rw [e]
            exact HZ.out _ (List.getElem_mem hm)⟩
          clear hoe ci hi hnb HOR
          obtain ⟨A4, c4, rfl, _⟩ := id HL.out
          by_cases h0 : ns = []
          · have hv : Kept (pickC cs ns = (ns.map (getC cs), 0)) := ⟨by rw [HV2.out, if_pos (by rw [h0]; simp)]⟩
            have hl0 : ¬ (0 < ((ns.map (getC cs)).length : Int)) := by rw [h0]; simp
            have hl1 : ¬ (0 < (ns.length : Int)) := by rw [h0]; simp
            have HE := HOE.out
            rw [List.length_map] at HE
            have HE := Kept.mk HE
            clear h0
            go_wp2_with fail
            go_returns
            rw [hv.out]
            exact ⟨_, rfl, HE.out, xw_below _ _ _⟩
          · have hl0 : 0 < (ns.length : Int) := by
              have : ns.length ≠ 0 := fun h => h0 (List.eq_nil_of_length_eq_zero h)
              omega
            have hp := hpk.out h0
            have HLM := HL.out
            have HE := HOE.out
            rw [List.length_map] at HLM HE
            have HLM := Kept.mk HLM
            have HE := Kept.mk HE
            clear h0 hpk HL HOE
            by_cases hn : ns.Nodup
            · have hv : Kept (pickC cs ns = (ns.map (getC cs), 0)) := ⟨by rw [HV2.out, if_pos hn]⟩
              have HM := Kept.mk (hp.2 hn)
              clear hp hn
              go_wp2_with (first
                | (go_at_call 18; refine (rcMay_any A4 _ c4 (ns.map (getC cs)) _ HLM.out HZ2.out).mono ?_; rintro e w5 ⟨rfl, hb5⟩; have HE5 := Kept.mk (HE.out.below hb5); obtain ⟨r5, d5, rfl⟩ := xw_of hb5; clear hb5; rewrite [HM.out]))
              go_returns
              rw [hv.out]
              refine ⟨_, rfl, ?_, xw_below _ _ _⟩
              have h9 := HE5.out
              rw [xw_xw] at h9
              exact h9
            · have hv : Kept (pickC cs ns = ([], 9)) := ⟨by rw [HV2.out, if_neg hn]⟩
              have HM : Kept (mayC (ns.map (getC cs)) = false) := ⟨Bool.eq_false_iff.2 (fun h => hn (hp.1 h))⟩
              clear hp hn
              go_wp2_with (first
                | (go_at_call 18; refine (rcMay_any A4 _ c4 (ns.map (getC cs)) _ HLM.out HZ2.out).mono ?_; rintro e w5 ⟨rfl, hb5⟩; obtain ⟨r5, d5, rfl⟩ := xw_of hb5; clear hb5; rewrite [HM.out]))
              go_returns
              rw [hv.out]
              exact ⟨_, rfl, OwnC.nil _ _, xw_below _ _ _⟩
end Go.Proofs.Ythcgdlhmmgpbgaa
