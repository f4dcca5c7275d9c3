/- Layer 6 (row): what must be whatever is asked, walked. -/
import Derived.Test.YtbncnlendichjaaRowY
namespace Go.Proofs.Ytbncnlendichjaa
open Go.RowKit
set_option linter.unusedVariables false
set_option linter.unusedSimpArgs false

def lv1 : List Vr := [⟨1, 1, ⟨#[]⟩⟩, ⟨1, 2, ⟨#[]⟩⟩]
def lv2 : List Vr := [⟨1, 1, ⟨#[]⟩⟩, ⟨1, 2, ⟨#[]⟩⟩, ⟨1, 1, ⟨#[]⟩⟩]
def lv3 : List Vr := [⟨1, 2, ⟨#[]⟩⟩, ⟨1, 1, ⟨#[]⟩⟩]
theorem lv_join : joinR lv1 [⟨1, 1, ⟨#[]⟩⟩] = (lv2, 0) := by rfl
theorem lv_pick : pickR lv1 [1, 0] = (lv3, 0) := by rfl
theorem showN_1 : showN 1 = [49] := by simp [showN, digB_low, digC]
theorem showN_2 : showN 2 = [50] := by simp [showN, digB_low, digC]
theorem lv_show1 : showV (⟨1, 1, ⟨#[]⟩⟩ : Vr).va = [49] := showN_1
theorem lv_show2 : showV (⟨1, 2, ⟨#[]⟩⟩ : Vr).va = [50] := showN_2
theorem lv_s2 : showRow lv2 = [40, 49, 44, 32, 50, 44, 32, 49, 41] := by
  have h : mayR lv2 = true := by rfl
  unfold showRow
  rw [if_pos h]
  simp only [jn, lv2, List.map_cons, List.map_nil, lv_show1, lv_show2]
  rfl
theorem lv_s3 : showRow lv3 = [40, 50, 44, 32, 49, 41] := by
  have h : mayR lv3 = true := by rfl
  unfold showRow
  rw [if_pos h]
  simp only [jn, lv3, List.map_cons, List.map_nil, lv_show1, lv_show2]
  rfl
theorem lv_cmp : cmpR lv1 lv2 = -1 := by rfl
theorem rng_lv2 : RngR lv2 := by unfold RngR lv2; decide
theorem rng_lv3 : RngR lv3 := by unfold RngR lv3; decide
theorem make_one (W : World) : (Instr.makeSlice 23 (.int .i64 1) (.int .i64 1)).run Try.prog W = .ok (.slice (some ⟨W.heap.size, 0, none⟩) 1 1) (W.alloc (.cells #[.int .i64 0, .int .i64 0, .string ⟨#[]⟩] 39)) := by kernel_rfl
set_option maxRecDepth 100000 in
set_option maxHeartbeats 4000000 in
theorem live_any (w : World) : Calls Try.prog 13 #[] w (fun e w' => e = .returned (.bool true) ∧ Below w.heap.size w w') := by
  go_enter Try.func13, Try.ntmps13
  go_wp2_with fail
  go_at_call 40
  refine (num_any _ _).mono ?_
  rintro e w1 ⟨rfl, hb1⟩
  obtain ⟨r1, d1, rfl⟩ := xw_of hb1
  clear hb1
  go_wp2_with fail
  go_at_call 40
  refine (num_any _ _).mono ?_
  rintro e w1 ⟨rfl, hb1⟩
  obtain ⟨r2, d2, rfl⟩ := xw_of hb1
  clear hb1
  go_wp2_with fail
  have HO : Kept (OwnR ((xw w (r1 ++ r2) d2).alloc (.cells #[.int .i64 1, .int .i64 1, .string ⟨#[]⟩, .int .i64 1, .int .i64 2, .string ⟨#[]⟩] 39)) w.heap.size (.slice (some ⟨(xw w (r1 ++ r2) d2).heap.size, 0, none⟩) 2 2) lv1) := ⟨OwnR.lit _ _ lv1 (by rw [xw_size]; omega) (by decide)⟩
  have HB : Kept (Below w.heap.size w ((xw w (r1 ++ r2) d2).alloc (.cells #[.int .i64 1, .int .i64 1, .string ⟨#[]⟩, .int .i64 1, .int .i64 2, .string ⟨#[]⟩] 39))) := ⟨(xw_below _ _ _).alloc (by rw [xw_size]; omega) _⟩
  generalize (xw w (r1 ++ r2) d2).alloc (.cells #[.int .i64 1, .int .i64 1, .string ⟨#[]⟩, .int .i64 1, .int .i64 2, .string ⟨#[]⟩] 39) = wz at HO HB ⊢
  generalize (xw w (r1 ++ r2) d2).heap.size = g at HO ⊢
  have HR := Kept.mk HO.out.has
  have HR1 : Kept (HasR wz wz.heap.size (.slice (some ⟨g, 0, none⟩) 1 2) [⟨1, 1, ⟨#[]⟩⟩]) := ⟨HR.out.take 1 (by decide)⟩
  go_at_call 15
  refine (Join_any _ _ lv1 _ _ HR.out HR1.out).mono ?_
  rw [lv_join]
  rintro e w3 ⟨v3, rfl, hO3, hb3⟩
  obtain ⟨r3, d3, rfl⟩ := xw_of hb3
  have HS := Kept.mk hO3.has
  clear hb3 hO3
  go_wp2_with fail
  go_at_call 17
  have HP : Kept (Below wz.heap.size wz ((xw wz r3 d3).alloc (.cells #[.int .i64 1, .int .i64 0] 3))) := ⟨(xw_below _ _ _).alloc (by rw [xw_size]; omega) _⟩
  have HCI : Kept (HasI ((xw wz r3 d3).alloc (.cells #[.int .i64 1, .int .i64 0] 3)) ((xw wz r3 d3).alloc (.cells #[.int .i64 1, .int .i64 0] 3)).heap.size (.slice (some ⟨(xw wz r3 d3).heap.size, 0, none⟩) 2 2) [1, 0]) := ⟨⟨_, 2, rfl, fun _ => ⟨_, 0, rfl, by rw [World.size_alloc]; omega, fun i hi => by
    match i, hi with
    | 0, _ => simp [go_sem]
    | 1, _ => simp [go_sem]⟩⟩⟩
  have HS2 := Kept.mk ((HS.out.below ((Below.refl _ _).alloc (Nat.le_refl _) (.cells #[.int .i64 1, .int .i64 0] 3))).up (show (xw wz r3 d3).heap.size ≤ ((xw wz r3 d3).alloc (.cells #[.int .i64 1, .int .i64 0] 3)).heap.size by rw [World.size_alloc]; omega))
  have hz : wz.heap.size ≤ ((xw wz r3 d3).alloc (.cells #[.int .i64 1, .int .i64 0] 3)).heap.size := HP.out.size
  have HR4 := Kept.mk ((HR.out.below HP.out).up hz)
  have HB4 := Kept.mk (HB.out.trans (HP.out.mono HB.out.size))
  clear HS HR1 HR HP HB HO hz
  generalize (xw wz r3 d3).heap.size = g2 at HCI ⊢
  generalize (xw wz r3 d3).alloc (.cells #[.int .i64 1, .int .i64 0] 3) = wy at HCI HS2 HR4 HB4 ⊢
  refine (Pick_any _ _ lv1 [1, 0] _ HR4.out HCI.out).mono ?_
  rw [lv_pick]
  rintro e w5 ⟨v5, rfl, hO5, hb5⟩
  have HP5 := Kept.mk hO5.has
  have HS5 := Kept.mk ((HS2.out.below hb5).up hb5.size)
  have HR5 := Kept.mk ((HR4.out.below hb5).up hb5.size)
  have HB5 := Kept.mk (HB4.out.trans (hb5.mono HB4.out.size))
  clear hb5 hO5 HS2 HR4 HB4 HCI
  have KM : Kept (∀ r d, HasR ((xw w5 r d).alloc (.cells #[.int .i64 0, .int .i64 0, .string ⟨#[]⟩] 39)) ((xw w5 r d).alloc (.cells #[.int .i64 0, .int .i64 0, .string ⟨#[]⟩] 39)).heap.size (.slice (some ⟨(xw w5 r d).heap.size, 0, none⟩) 1 1) [⟨0, 0, ⟨#[]⟩⟩]) := ⟨fun r d => (OwnR.lit (xw w5 r d) (xw w5 r d).heap.size [⟨0, 0, ⟨#[]⟩⟩] (Nat.le_refl _) (by decide)).has⟩
  have KL : Kept (∀ (v : Value) xs r d, HasR w5 w5.heap.size v xs → HasR (xw w5 r d) (xw w5 r d).heap.size v xs) := ⟨fun v xs r d h => (h.below (xw_below _ _ _)).up (by rw [xw_size]; omega)⟩
  have e1 : bs (showRow lv2) = ⟨#[40, 49, 44, 32, 50, 44, 32, 49, 41]⟩ := by rw [lv_s2]; rfl
  have e2 : bs (showRow lv3) = ⟨#[40, 50, 44, 32, 49, 41]⟩ := by rw [lv_s3]; rfl
  have E1 := Kept.mk e1
  have E2 := Kept.mk e2
  clear e1 e2
  have hmk := make_one
  go_wp2_with fail
  go_at_call 28
  refine (rowShow_any _ lv2 rng_lv2 _ HS5.out).mono ?_
  rintro e w6 ⟨rfl, hb6⟩
  obtain ⟨r6, d6, rfl⟩ := xw_of hb6
  clear hb6
  rewrite [E1.out]
  go_wp2_with fail
  go_at_call 28
  refine (rowShow_any _ lv3 rng_lv3 _ (KL.out _ _ _ _ HP5.out)).mono ?_
  rintro e w6 ⟨rfl, hb6⟩
  obtain ⟨r7, d7, rfl⟩ := xw_of hb6
  clear hb6
  rewrite [E2.out]
  go_wp2_with fail
  go_at_call 9
  refine (Compare_any _ _ lv1 lv2 _ (KL.out _ _ _ _ HR5.out) (KL.out _ _ _ _ HS5.out)).mono ?_
  rintro e w6 ⟨rfl, hb6⟩
  obtain ⟨r8, d8, rfl⟩ := xw_of hb6
  clear hb6
  rewrite [lv_cmp]
  go_wp2_with fail
  go_at_call 11
  refine (May_any _ lv1 _ (KL.out _ _ _ _ HR5.out)).mono ?_
  rintro e w6 ⟨rfl, hb6⟩
  obtain ⟨r9, d9, rfl⟩ := xw_of hb6
  clear hb6
  rewrite [show mayR lv1 = true from rfl]
  go_wp2_with fail
  go_at_call 11
  refine (May_any _ [⟨0, 0, ⟨#[]⟩⟩] _ (KM.out _ _)).mono ?_
  rintro e w6 ⟨rfl, hb6⟩
  rewrite [show mayR [⟨0, 0, ⟨#[]⟩⟩] = false from rfl]
  have HB9 := Kept.mk (((below_xw HB5.out HB5.out.size _ _).alloc (by rw [xw_size]; have := HB5.out.size; omega) _).trans (hb6.mono (by rw [World.size_alloc, xw_size]; have := HB5.out.size; omega)))
  clear hb6 hmk
  go_wp2_with fail
  go_returns
  exact ⟨rfl, HB9.out⟩
end Go.Proofs.Ytbncnlendichjaa
