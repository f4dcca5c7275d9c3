/- Layer 24's reference (multi): Put, walked. -/
import Derived.Test.YtjllcgmdnkakgaaMulR
namespace Go.Proofs.Ytjllcgmdnkakgaa
open Go.RowKit
set_option linter.unusedVariables false
set_option linter.unusedSimpArgs false

/-- Only the box's own block has changed. -/
structure ButR (g : Nat) (w w' : World) : Prop where
  os : w'.os = w.os
  tape : w'.tape = w.tape
  output : w'.output = w.output
  size : w.heap.size ≤ w'.heap.size
  block : ∀ b, b < w.heap.size → b ≠ g → w'.heap[b]? = w.heap[b]?
/-- What is still to come, at i. -/
def restC (k : Int) (left : Nat) (dn : Bool) (l : List Int) (i : Nat) : List Int := if i ≤ l.length then putC k left dn (l.drop i) else []
def RpI (k : Int) (left : Nat) (l : List Int) (w : World) (v9 v7 v8 : Value) (wr : World) : Prop := ∃ (i : Nat) (dn : Bool) (out : List Int) (r : Array Obj) (d : Nat), v9 = .int .i64 (i : Int) ∧ v8 = .bool dn ∧ wr = xw w r d ∧ Kept (i ≤ l.length + 1 ∧ Own wr w.heap.size 3 v7 (ints out) ∧ out ++ restC k left dn l i = putC k left false l)
def RiI (k : Int) (left : Nat) (out : List Int) (w : World) (v10 v7 : Value) (wr : World) : Prop := ∃ (j : Nat) (r : Array Obj) (d : Nat), v10 = .int .i64 (j : Int) ∧ wr = xw w r d ∧ Kept (j ≤ left ∧ Own wr w.heap.size 3 v7 (ints (out ++ List.replicate j k)))
theorem rest_at {k : Int} {left : Nat} {l : List Int} {i : Nat} (hi : i < l.length) (dn : Bool) : restC k left dn l i = putC k left dn (l[i] :: l.drop (i + 1)) ∧ restC k left dn l (i + 1) = putC k left dn (l.drop (i + 1)) := by
  unfold restC
  rw [if_pos (by omega), if_pos (by omega), List.drop_eq_getElem_cons hi]
  exact ⟨rfl, rfl⟩
theorem rest_end (k : Int) (left : Nat) (l : List Int) (dn : Bool) : restC k left dn l l.length = putC k left dn [] ∧ restC k left dn l (l.length + 1) = [] := by
  unfold restC
  rw [if_pos (Nat.le_refl _), if_neg (by omega), List.drop_length]
  exact ⟨rfl, rfl⟩
set_option maxRecDepth 100000 in
set_option maxHeartbeats 4000000 in
theorem rPut_any (w : World) (B g : Nat) (u : Value) (l : List Int) (k n : Int) (left : Nat) (h : RefAt w B g u l) (hleft : ((cntK l k : Nat) : Int) + n = (left : Int)) (hlf : left ≤ 2000000) (hT : (putC k left false l).length ≤ 2000000) :
    Calls Try.prog 11 #[.pointer (some ⟨g, 0, none⟩), .int .i64 k, .int .i64 n] w (fun e w' => e = .returned (.tuple #[]) ∧ ∃ u', RefAt w' B g u' (putC k left false l) ∧ ButR g w w') := by
  have HM := Kept.mk h
  have c0 := (blk_cell h.box).1
  have cf := (blk_cell h.box).2
  have hgl := h.lt
  have hll := h.len
  obtain ⟨A, c, rfl, hA⟩ := own_ints h.own
  have HA : Kept (l ≠ [] → ∃ b, A = some ⟨b, 0, none⟩ ∧ b < w.heap.size ∧ ∀ i, (hi : i < l.length) → w.cell? ⟨b, i, none⟩ = some (.int .i64 l[i])) := ⟨fun hn => by
    obtain ⟨b, h1, h2⟩ := hA hn
    exact ⟨b, h1, World.block_lt_of_cell? w _ (h2 0 (List.length_pos_iff.2 hn)), h2⟩⟩
  have hw1 : wrap64 (((cntK l k : Nat) : Int) + n) = (left : Int) := by rw [hleft]; simp only [wrap64]; omega
  have HLF := Kept.mk hlf
  have HTT := Kept.mk hT
  clear h hA hleft hlf hT
  go_enter Try.func11, Try.ntmps11
  go_wp2_with (first | (go_at_call 16; refine (rOf_any w B g _ l k HM.out).mono ?_; rintro e w1 ⟨rfl, rfl⟩))
  have HO0 : Kept (Own (w.alloc (.cells #[] 3)) w.heap.size 3 (.slice (some ⟨w.heap.size, 0, none⟩) 0 0) (ints [])) := ⟨Own.empty w _ _ (Nat.le_refl _)⟩
  rewrite [alloc_xw] at HO0
  rewrite [alloc_xw]
  try rewrite [hw1]
  go_loopw [9, 7, 8] (fun v9 v7 v8 wr => RpI k left l w v9 v7 v8 wr) (fun v9 v7 v8 wr => l.length + 1 - (intOf v9).toNat)
  case atStart => exact ⟨0, false, [], _, _, rfl, rfl, rfl, ⟨Nat.zero_le _, HO0.out, by simp [restC]⟩⟩
  case round =>
    obtain ⟨i, dn, out, r, d, rfl, rfl, rfl, HI⟩ := hrel
    obtain ⟨hi1, hO, hR⟩ := HI.out
    have HO := Kept.mk hO
    have HOL : Kept (out.length ≤ 2000000) := ⟨by have h := congrArg List.length hR; rw [List.length_append] at h; have := HTT.out; omega⟩
    clear HO0 HI hO
    by_cases ci : i ≤ l.length
    · have ci' : (i : Int) ≤ (l.length : Int) := by omega
      have f0 : 0 ≤ (i : Int) := by omega
      have hw : wrap64 ((i : Int) + 1) = (i : Int) + 1 := by simp only [wrap64]; omega
      have HIL := Kept.mk ci
      by_cases cl : i < l.length
      · have cl' : (i : Int) < (l.length : Int) := by omega
        have cl2 : ((i : Int) == (l.length : Int)) = false := by rw [beq_eq_false_iff_ne]; omega
        have hne : l ≠ [] := by rintro rfl; simp at cl
        obtain ⟨b, rfl, hb, hcell⟩ := HA.out hne
        have e0 := hcell i cl
        obtain ⟨q1, q2⟩ := rest_at (k := k) (left := left) cl dn
        obtain ⟨q0, q3⟩ := rest_at (k := k) (left := left) cl true
        rw [q1] at hR
        generalize l[i] = x at e0 hR q1
        clear hcell hne q0 q1 cl hi1 ci
        cases dn with
        | true =>
          rw [putC] at hR
          by_cases ck : x = k
          · have hk : (x != k) = false := by simp [ck]
            have HNX : Kept (out ++ restC k left true l (i + 1) = putC k left false l) := ⟨by rw [q2, ← hR, if_pos ck]; rfl⟩
            clear hR q2 q3 ck
            go_wp2_with fail
            refine ⟨⟨i + 1, true, out, _, _, by first | rfl | (rw [hw]; rfl), rfl, rfl, ⟨by have := HIL.out; omega, by have h := HO.out; simpa using h, HNX.out⟩⟩, by first | exact less_step hw (by have := HIL.out; omega) | (have := HIL.out; simp only [intOf]; omega)⟩
          · have hk : (x != k) = true := by simp [ck]
            have HNX : Kept (out ++ [x] ++ restC k left true l (i + 1) = putC k left false l) := ⟨by rw [q2, ← hR, if_neg ck]; simp⟩
            clear hR q2 q3 ck
            go_wp2_with (first | ((at_builtin); refine app_one (w0 := w) (W := xw w r d) rfl (.tmp 75) (.tmp 83) 28 3 (.int .i64 0) 8 rfl Try.underlying28 infoI rfl (by decide) _ (ints (out)) (.int .i64 x) rfl rfl rfl HO.out (xw_below _ _ _) ?c3 ?_; (case c3 => have := HOL.out; have := HLF.out; simp only [List.length_map, List.length_append, List.length_replicate]; omega); intro v1 r4 d4 hO4; have HO4 := Kept.mk hO4; clear hO4))
            refine ⟨⟨i + 1, true, out ++ [x], _, _, by first | rfl | (rw [hw]; rfl), rfl, rfl, ⟨by have := HIL.out; omega, by have h := HO4.out; simpa using h, HNX.out⟩⟩, by first | exact less_step hw (by have := HIL.out; omega) | (have := HIL.out; simp only [intOf]; omega)⟩
        | false =>
          rw [putC] at hR
          by_cases cg : k ≤ x
          · rw [if_pos cg] at hR
            by_cases ck : x = k
            · have hk : (x != k) = false := by simp [ck]
              have HNX : Kept (out ++ List.replicate left k ++ restC k left true l (i + 1) = putC k left false l) := ⟨by rw [q3, ← hR, if_pos ck]; simp⟩
              clear hR q2 q3 ck
              go_wp2_with fail
              go_loopw [10, 7] (fun v10 v7 wr2 => RiI k left out w v10 v7 wr2) (fun v10 v7 wr2 => left - (intOf v10).toNat)
              case atStart => exact ⟨0, r, d, rfl, rfl, ⟨Nat.zero_le _, by simpa using HO.out⟩⟩
              case round =>
                obtain ⟨j, r2, d2, rfl, rfl, HJ⟩ := hrel
                by_cases cj : j < left
                · have cj' : (j : Int) < (left : Int) := by omega
                  have hwj : wrap64 ((j : Int) + 1) = (j : Int) + 1 := by have := HLF.out; simp only [wrap64]; omega
                  have HCJ := Kept.mk cj
                  have HC3 : Kept (((ints (out ++ List.replicate j k)).length + 1) * 8 ≤ 140737488355328) := ⟨by
                    have := HOL.out; have := HLF.out; clear cl2 hw hwj; simp only [List.length_map, List.length_append, List.length_replicate]; omega⟩
                  clear cj
                  go_wp2_with (first | ((at_builtin); refine app_one (w0 := w) (W := xw w r2 d2) rfl (.tmp 53) (.tmp 55) 28 3 (.int .i64 0) 8 rfl Try.underlying28 infoI rfl (by decide) u7 (ints (out ++ List.replicate j k)) (.int .i64 k) rfl rfl rfl HJ.out.2 (xw_below _ _ _) HC3.out ?_; intro v1 r3 d3 hO3; have HO3 := Kept.mk hO3; clear hO3))
                  refine ⟨⟨j + 1, _, _, by first | rfl | (rw [hwj]; rfl), rfl, ⟨HCJ.out, ?_⟩⟩, by first | exact less_step hwj HCJ.out | (have := HCJ.out; simp only [intOf]; omega)⟩
                  have h := HO3.out
                  have e : ints (out ++ List.replicate (j + 1) k) = ints (out ++ List.replicate j k) ++ [.int .i64 k] := by simp [List.replicate_succ']
                  rw [e]
                  exact h
                · have cj' : ¬ ((j : Int) < (left : Int)) := by omega
                  have hje : j = left := by have := HJ.out.1; omega
                  have HO2 := HJ.out.2
                  rw [hje] at HO2
                  have HO2 := Kept.mk HO2
                  clear cj hje HJ
                  go_wp2_with fail
                  refine ⟨⟨i + 1, true, out ++ List.replicate left k, _, _, by first | rfl | (rw [hw]; rfl), rfl, rfl, ⟨by have := HIL.out; omega, by have h := HO2.out; simpa using h, HNX.out⟩⟩, by first | exact less_step hw (by have := HIL.out; omega) | (have := HIL.out; simp only [intOf]; omega)⟩
            · have hk : (x != k) = true := by simp [ck]
              have HNX : Kept (out ++ List.replicate left k ++ [x] ++ restC k left true l (i + 1) = putC k left false l) := ⟨by rw [q3, ← hR, if_neg ck]; simp⟩
              clear hR q2 q3 ck
              go_wp2_with fail
              go_loopw [10, 7] (fun v10 v7 wr2 => RiI k left out w v10 v7 wr2) (fun v10 v7 wr2 => left - (intOf v10).toNat)
              case atStart => exact ⟨0, r, d, rfl, rfl, ⟨Nat.zero_le _, by simpa using HO.out⟩⟩
              case round =>
                obtain ⟨j, r2, d2, rfl, rfl, HJ⟩ := hrel
                by_cases cj : j < left
                · have cj' : (j : Int) < (left : Int) := by omega
                  have hwj : wrap64 ((j : Int) + 1) = (j : Int) + 1 := by have := HLF.out; simp only [wrap64]; omega
                  have HCJ := Kept.mk cj
                  have HC3 : Kept (((ints (out ++ List.replicate j k)).length + 1) * 8 ≤ 140737488355328) := ⟨by
                    have := HOL.out; have := HLF.out; clear cl2 hw hwj; simp only [List.length_map, List.length_append, List.length_replicate]; omega⟩
                  clear cj
                  go_wp2_with (first | ((at_builtin); refine app_one (w0 := w) (W := xw w r2 d2) rfl (.tmp 53) (.tmp 55) 28 3 (.int .i64 0) 8 rfl Try.underlying28 infoI rfl (by decide) u7 (ints (out ++ List.replicate j k)) (.int .i64 k) rfl rfl rfl HJ.out.2 (xw_below _ _ _) HC3.out ?_; intro v1 r3 d3 hO3; have HO3 := Kept.mk hO3; clear hO3))
                  refine ⟨⟨j + 1, _, _, by first | rfl | (rw [hwj]; rfl), rfl, ⟨HCJ.out, ?_⟩⟩, by first | exact less_step hwj HCJ.out | (have := HCJ.out; simp only [intOf]; omega)⟩
                  have h := HO3.out
                  have e : ints (out ++ List.replicate (j + 1) k) = ints (out ++ List.replicate j k) ++ [.int .i64 k] := by simp [List.replicate_succ']
                  rw [e]
                  exact h
                · have cj' : ¬ ((j : Int) < (left : Int)) := by omega
                  have hje : j = left := by have := HJ.out.1; omega
                  have HO2 := HJ.out.2
                  rw [hje] at HO2
                  have HO2 := Kept.mk HO2
                  clear cj hje HJ
                  go_wp2_with (first | ((at_builtin); refine app_one (w0 := w) (W := xw w r2 d2) rfl (.tmp 75) (.tmp 83) 28 3 (.int .i64 0) 8 rfl Try.underlying28 infoI rfl (by decide) _ (ints (out ++ List.replicate left k)) (.int .i64 x) rfl rfl rfl HO2.out (xw_below _ _ _) ?c3 ?_; (case c3 => have := HOL.out; have := HLF.out; simp only [List.length_map, List.length_append, List.length_replicate]; omega); intro v1 r4 d4 hO4; have HO4 := Kept.mk hO4; clear hO4))
                  refine ⟨⟨i + 1, true, out ++ List.replicate left k ++ [x], _, _, by first | rfl | (rw [hw]; rfl), rfl, rfl, ⟨by have := HIL.out; omega, by have h := HO4.out; simpa using h, HNX.out⟩⟩, by first | exact less_step hw (by have := HIL.out; omega) | (have := HIL.out; simp only [intOf]; omega)⟩
          · rw [if_neg cg] at hR
            have hk : (x != k) = true := by simp; omega
            have HNX : Kept (out ++ [x] ++ restC k left false l (i + 1) = putC k left false l) := ⟨by rw [q2, ← hR]; simp⟩
            clear hR q2 q3
            go_wp2_with (first | ((at_builtin); refine app_one (w0 := w) (W := xw w r d) rfl (.tmp 75) (.tmp 83) 28 3 (.int .i64 0) 8 rfl Try.underlying28 infoI rfl (by decide) _ (ints (out)) (.int .i64 x) rfl rfl rfl HO.out (xw_below _ _ _) ?c3 ?_; (case c3 => have := HOL.out; have := HLF.out; simp only [List.length_map, List.length_append, List.length_replicate]; omega); intro v1 r4 d4 hO4; have HO4 := Kept.mk hO4; clear hO4))
            refine ⟨⟨i + 1, false, out ++ [x], _, _, by first | rfl | (rw [hw]; rfl), rfl, rfl, ⟨by have := HIL.out; omega, by have h := HO4.out; simpa using h, HNX.out⟩⟩, by first | exact less_step hw (by have := HIL.out; omega) | (have := HIL.out; simp only [intOf]; omega)⟩
      · have hil : i = l.length := by omega
        have cl' : ¬ ((i : Int) < (l.length : Int)) := by omega
        have cl2 : ((i : Int) == (l.length : Int)) = true := by rw [beq_iff_eq]; omega
        obtain ⟨q1, q2⟩ := rest_end k left l dn
        obtain ⟨_, q3⟩ := rest_end k left l true
        rw [← hil] at q1 q2 q3
        rw [q1] at hR
        clear q1 hi1 ci cl hil
        cases dn with
        | true =>
          rw [putC] at hR
          have HNX : Kept (out ++ restC k left true l (i + 1) = putC k left false l) := ⟨by rw [q2]; exact hR⟩
          clear hR q2 q3
          go_wp2_with fail
          refine ⟨⟨i + 1, true, out, _, _, by first | rfl | (rw [hw]; rfl), rfl, rfl, ⟨by have := HIL.out; omega, by have h := HO.out; simpa using h, HNX.out⟩⟩, by first | exact less_step hw (by have := HIL.out; omega) | (have := HIL.out; simp only [intOf]; omega)⟩
        | false =>
          rw [putC] at hR
          have HNX : Kept (out ++ List.replicate left k ++ restC k left true l (i + 1) = putC k left false l) := ⟨by rw [q3, ← hR]; simp⟩
          clear hR q2 q3
          go_wp2_with fail
          go_loopw [10, 7] (fun v10 v7 wr2 => RiI k left out w v10 v7 wr2) (fun v10 v7 wr2 => left - (intOf v10).toNat)
          case atStart => exact ⟨0, r, d, rfl, rfl, ⟨Nat.zero_le _, by simpa using HO.out⟩⟩
          case round =>
            obtain ⟨j, r2, d2, rfl, rfl, HJ⟩ := hrel
            by_cases cj : j < left
            · have cj' : (j : Int) < (left : Int) := by omega
              have hwj : wrap64 ((j : Int) + 1) = (j : Int) + 1 := by have := HLF.out; simp only [wrap64]; omega
              have HCJ := Kept.mk cj
              have HC3 : Kept (((ints (out ++ List.replicate j k)).length + 1) * 8 ≤ 140737488355328) := ⟨by
                have := HOL.out; have := HLF.out; clear cl2 hw hwj; simp only [List.length_map, List.length_append, List.length_replicate]; omega⟩
              clear cj
              go_wp2_with (first | ((at_builtin); refine app_one (w0 := w) (W := xw w r2 d2) rfl (.tmp 53) (.tmp 55) 28 3 (.int .i64 0) 8 rfl Try.underlying28 infoI rfl (by decide) u7 (ints (out ++ List.replicate j k)) (.int .i64 k) rfl rfl rfl HJ.out.2 (xw_below _ _ _) HC3.out ?_; intro v1 r3 d3 hO3; have HO3 := Kept.mk hO3; clear hO3))
              refine ⟨⟨j + 1, _, _, by first | rfl | (rw [hwj]; rfl), rfl, ⟨HCJ.out, ?_⟩⟩, by first | exact less_step hwj HCJ.out | (have := HCJ.out; simp only [intOf]; omega)⟩
              have h := HO3.out
              have e : ints (out ++ List.replicate (j + 1) k) = ints (out ++ List.replicate j k) ++ [.int .i64 k] := by simp [List.replicate_succ']
              rw [e]
              exact h
            · have cj' : ¬ ((j : Int) < (left : Int)) := by omega
              have hje : j = left := by have := HJ.out.1; omega
              have HO2 := HJ.out.2
              rw [hje] at HO2
              have HO2 := Kept.mk HO2
              clear cj hje HJ
              go_wp2_with fail
              refine ⟨⟨i + 1, true, out ++ List.replicate left k, _, _, by first | rfl | (rw [hw]; rfl), rfl, rfl, ⟨by have := HIL.out; omega, by have h := HO2.out; simpa using h, HNX.out⟩⟩, by first | exact less_step hw (by have := HIL.out; omega) | (have := HIL.out; simp only [intOf]; omega)⟩
    · have hie : i = l.length + 1 := by omega
      have ci' : ¬ ((i : Int) ≤ (l.length : Int)) := by omega
      obtain ⟨_, q2⟩ := rest_end k left l dn
      rw [hie, q2, List.append_nil] at hR
      have HR := Kept.mk hR
      obtain ⟨A2, c2, rfl⟩ := HO.out.slice
      clear hR q2 ci hie hi1
      go_wp2_with fail
      go_end0
      have hbx := HM.out.box
      have hrow : ∀ V : Value, w.setCell ⟨g, 0, none⟩ V = w.setRow g #[V] := fun V => setCell_eq_setRow w g 0 _ _ _ _ hbx
      have hO5 := HO.out.set g 0 (.slice A2 out.length c2) hgl
      rw [xw_set w r d g 0 _ hgl] at hO5
      rw [hrow] at hO5 ⊢
      have hsz : ∀ V, (w.setRow g V).heap.size = w.heap.size := fun V => setRow_size w g V
      refine ⟨rfl, ⟨.slice A2 out.length c2, ⟨HM.out.base, ?_, ?_, ?_⟩⟩, ⟨rfl, rfl, rfl, ?_, ?_⟩⟩
      · rw [xw_block _ _ _ _ (by rw [hsz]; exact hgl)]
        exact setRow_heap w g _ _ _ _ hbx
      · have h := hO5.mono (Nat.le_of_lt (Nat.lt_of_le_of_lt HM.out.base hgl))
        rw [← HR.out]
        simpa using h
      · have := HTT.out; omega
      · have h := (xw_below (w.setRow g #[.slice A2 out.length c2]) r d).size
        rw [hsz] at h
        exact h
      · intro b hb hne
        rw [xw_block _ _ _ _ (by rw [hsz]; exact hb)]
        exact setRow_other _ _ _ _ hne
end Go.Proofs.Ytjllcgmdnkakgaa
