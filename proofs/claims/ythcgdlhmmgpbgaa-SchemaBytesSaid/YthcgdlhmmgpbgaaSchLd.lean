/- SchemaReads: the walk. -/
import Derived.Test.YthcgdlhmmgpbgaaSchE
namespace Go.Proofs.Ythcgdlhmmgpbgaa
open Go.RowKit Go.Shelf
set_option linter.unusedVariables false
set_option linter.unusedSimpArgs false

theorem u8s_getD (xs : List Int) (j : Nat) (hj : j < xs.length) : (u8s xs)[j]? = some (.int .u8 (xs.getD j 0)) := by
  simp [u8s, List.getElem?_eq_getElem hj, List.getD_eq_getElem?_getD]
theorem readCs_len (n : Nat) (s : St) (acc : List Cl) : (readCs n s acc).1.length ≤ acc.length + n := by
  induction n generalizing s acc with
  | zero => simp [readCs]
  | succ n ih =>
    rw [readCs]
    have := ih (byteS (textS 16 s).2).2 (acc ++ [⟨strOfNums (textS 16 s).1, (byteS (textS 16 s).2).1⟩])
    simp only [List.length_append, List.length_cons, List.length_nil] at this
    omega
theorem readC_len (s : St) : (readC s).1.1.length ≤ 8 := by
  unfold readC
  split
  · simp
  · split
    · simp
    · rename_i h8
      have := readCs_len (byteS s).1.toNat (byteS s).2 []
      simp only [List.length_nil] at this
      split
      · simp
      · split
        · simp only; omega
        · simp
set_option maxRecDepth 100000 in
set_option maxHeartbeats 4000000 in
theorem SchemaReads_any (xs : List Int) (hxs : ∀ b ∈ xs, 0 ≤ b ∧ b ≤ 255) (hl : xs.length ≤ 140737488351232) (A : Option Addr) (c : Nat) (w : World) (hA : ArgB w A xs) :
    Calls Try.prog 7 #[.slice A xs.length c] w (fun e w' => e = .returned (.bool true) ∧ Below w.heap.size w w') := by
  have HX := Kept.mk hxs
  have HA := Kept.mk hA
  have HL := Kept.mk hl
  clear hxs hA hl
  go_enter Try.func7, Try.ntmps7
  go_wp2_with fail
  go_at_call 28
  refine (New_arg xs (by have := HL.out; omega) A c _ HA.out.read).mono ?_
  rintro e w1 ⟨g1, rfl, hg1, HR, HB⟩
  have HB1 := Kept.mk HB
  have HG1 := Kept.mk hg1
  have HR1 := Kept.mk HR
  clear HB hg1 HR
  go_wp2_with (first | ((at_builtin); refine app_row2 (w0 := w1) (W := w1.alloc (.cells #[] 5)) rfl (.tmp 11) (.tmp 12) 47 5 (.int .u8 0) 1 rfl Try.underlying47 infoB rfl (by decide) _ [] (u8s xs) A c rfl ?c0 (u8s_one _) ?c1 ?c2 (Own.empty w1 _ _ (Nat.le_refl _)) ((Below.refl _ _).alloc (Nat.le_refl _) _) ?c3 ?_; (case c0 => rw [u8s_len]; rfl); (case c1 => intro hne; obtain ⟨ad, e, hc⟩ := (HA.out.below HB1.out).read hne; exact ⟨ad, e, fun j u hu => by rw [World.cell?_alloc_lt _ _ _ (World.block_lt_of_cell? w1 _ (hc j u hu))]; exact hc j u hu⟩); (case c2 => intro h; cases h); (case c3 => rw [u8s_len]; have := HL.out; simp; omega); intro v1 r d HO hnn; obtain ⟨k, c3, hv, hk, hk2, hc3, hm, hcell⟩ := (HO.cells.resolve_left (fun h => hnn h.1)); simp only [List.nil_append] at hv hcell hc3; rw [u8s_len] at hv hcell hc3; have HTY := Kept.mk (Own.typ HO hv); clear HO hnn; subst hv; have HC := Kept.mk hcell; clear hcell; have HK := Kept.mk (And.intro hk (And.intro hk2 (And.intro hc3 hm))); clear hk hk2 hc3 hm))
  obtain ⟨g2, hg2⟩ : ∃ g2, g2 = (xw w1 r d).heap.size := ⟨_, rfl⟩
  obtain ⟨wl, hwl⟩ : ∃ wl, wl = (xw w1 r d).alloc (.cells #[.slice (some ⟨k, 0, none⟩) xs.length c3, .int .i64 0] 52) := ⟨_, rfl⟩
  have HG2 := Kept.mk hg2
  have HWL := Kept.mk hwl
  have hs1 := HB1.out.size
  have hRL : Rd wl g1 xs 0 0 := by
    rw [hwl]
    exact HR1.out.below (((xw_below w1 r d)).alloc (by simp [xw_size]) _)
  have hne : g1 ≠ g2 := by
    have := HR1.out.lt
    rw [hg2, xw_size]; omega
  have hQL : Rq wl g2 (stOf xs 0 0) := by
    rw [hwl, hg2]
    have hk := HK.out
    refine ⟨⟨some ⟨k, 0, none⟩, c3, 52, ?_, hk.2.2.1, hk.2.2.2, fun hn => ⟨k, 0, rfl, by omega, by rw [World.size_alloc]; omega, fun j hj => ?_⟩⟩, fun h => absurd rfl h, by have := HL.out; simp [stOf]; omega⟩
    · rw [show stOf xs 0 0 = (0, xs) from rfl]
      exact Array.getElem?_push_size
    · simp only [stOf, if_true, List.drop_zero] at hj ⊢
      obtain ⟨arr, fr, hty⟩ := HTY.out
      refine BytAt.keep (w := xw w1 r d) ⟨?_, arr, fr, hty⟩ (Lib.alloc_old _ _ _ hk.2.1)
      rw [Nat.zero_add, HC.out j hj, u8s_getD xs j hj]
  have hBL : Below w.heap.size w wl := by
    rw [hwl]
    exact (below_xw HB1.out hs1 _ _).alloc (by simp [xw_size]; omega) _
  have HR := Kept.mk hRL
  have HQ := Kept.mk hQL
  have HBE := Kept.mk hBL
  have HS := Kept.mk (stOf_range xs HX.out 0 0)
  have HNE := Kept.mk hne
  have hg2w : w.heap.size ≤ g2 := by rw [hg2, xw_size]; omega
  have HGW := Kept.mk hg2w
  clear hRL hQL hBL hne hs1 hg2w
  rewrite [← HWL.out]
  rewrite [← HG2.out]
  clear HC HK HR1 HWL HG2 hg2 hwl HTY
  go_wp2_with fail
  go_at_call 29
  refine (cRead_any g1 xs HX.out 0 0 _ HR.out).mono ?_
  rintro e w1' ⟨a', y', v1, rfl, hO1, hR1, hB1, hs1⟩
  have HQ1 := Kept.mk (HQ.out.other HR.out HNE.out hB1)
  have HR1 := Kept.mk hR1
  have HO1 := Kept.mk hO1
  have HB1' := Kept.mk (hB1.below HBE.out HG1.out HBE.out.size)
  have HLN := Kept.mk (readC_len (stOf xs 0 0))
  obtain ⟨⟨⟨l5, e5⟩, s5⟩, hq5⟩ : ∃ q, q = readC (stOf xs 0 0) := ⟨_, rfl⟩
  have HV := Kept.mk hq5
  rewrite [← hq5] at HO1 hs1 HLN
  rewrite [← hq5]
  simp only at HO1 hs1 HLN ⊢
  have HS1 := Kept.mk hs1
  have HG2L := Kept.mk HQ.out.lt
  clear hR1 hB1 hs1 hq5 hO1
  go_wp2_with fail
  go_at_call 30
  refine (rcRead_any g2 _ HS.out _ HQ1.out).mono ?_
  rintro e w2 ⟨v2, rfl, hO2, hQ2, hB2⟩
  rewrite [← HV.out] at hO2 hQ2
  rewrite [← HV.out]
  simp only at hO2 hQ2 ⊢
  rewrite [← HS1.out] at hQ2
  have HR2 := Kept.mk (HR1.out.other HQ1.out HNE.out hB2)
  have HB2 := Kept.mk (hB2.below HB1'.out HGW.out HB1'.out.size)
  have HQ2 := Kept.mk hQ2
  have HO1' := Kept.mk (OwnC.but HO1.out hB2 HG2L.out).has
  have HO2' := Kept.mk hO2.has
  clear hQ2 hB2 HQ1 HR1 HB1' HS1 HR HQ HBE HO1 hO2
  go_wp2_with fail
  go_at_call 16
  refine (rcSame_any v1 v2 l5 l5 w2 HO1'.out HO2'.out (by have := HLN.out; omega)).mono ?_
  rintro e w3 ⟨rfl, hb3⟩
  rewrite [sameC_refl]
  have HR3 := Kept.mk (HR2.out.below hb3)
  have HQ3 := Kept.mk (HQ2.out.below hb3)
  have HB3 := Kept.mk (HB2.out.trans (hb3.mono HB2.out.size))
  clear hb3 HR2 HQ2 HB2 HO1' HO2'
  have hleft : leftS (stOf xs a' y') = (((stOf xs a' y').2.length : Nat) : Int) := by
    unfold leftS
    by_cases cy : (stOf xs a' y').1 = 0
    · rw [if_pos cy]
    · rw [if_neg cy, HQ3.out.err cy]; rfl
  have HLE := Kept.mk hleft
  clear hleft
  obtain ⟨A3, c3', q0, q1, _⟩ := HQ3.out.cells
  rewrite [show (stOf xs a' y').1 = y' from rfl] at q1
  have hg2l := HQ3.out.lt
  generalize (stOf xs a' y').2.length = L at q0 HLE
  have KL : Kept (∀ r d, Calls Try.prog 31 #[.pointer (some ⟨g1, 0, none⟩)] (xw w3 r d) (fun e w' => e = .returned (.int .i64 (L : Int)) ∧ ∃ n, w' = (xw w3 r d).drewN n)) := ⟨fun r d => by
    have h := Left_quiet g1 xs a' y' _ (HR3.out.xw r d)
    rw [HLE.out] at h
    exact h⟩
  by_cases ce : e5 = 0
  · subst ce
    go_upto_region 7 with fail
    go_cut [2] (fun sx wx => sx = .bool true ∧ ∃ r d, wx = xw w3 r d)
    case first =>
      go_region_with (first
        | (go_at_call 9; refine (live_any _).mono ?_; rintro e w9 ⟨rfl, hb9⟩; obtain ⟨r9, d9, rfl⟩ := xw_of hb9; clear hb9)
        | (go_at_call 31; refine (KL.out _ _).mono ?_; rintro e w10 ⟨rfl, n10, rfl⟩))
      all_goals go_wp2_with fail
      all_goals
        go_meet
        exact ⟨rfl, _, _, rfl⟩
    case rest =>
      obtain ⟨rfl, r9, d9, rfl⟩ := hcut
      go_wp2_with fail
      go_returns
      exact ⟨rfl, below_xw HB3.out HB3.out.size _ _⟩
  · have ce' : (e5 != 0) = true := by simp [ce]
    clear ce
    go_upto_region 7 with fail
    go_cut [2] (fun sx wx => sx = .bool true ∧ ∃ r d, wx = xw w3 r d)
    case first =>
      refine wp_region_any (by kernel_rfl) ?_
      try (change wpAny _ _ _ _ _ _ _ (World.drew _))
      refine wpAny_ready (rs := [0]) (by kernel_rfl) (by simp) ?_
      refine AllReady.cons rfl (fun K hK => ?_) AllReady.nil
      go_simp
      go_wp2_with (first | (go_at_call 9; refine (live_any _).mono ?_; rintro e w9 ⟨rfl, hb9⟩; obtain ⟨r9, d9, rfl⟩ := xw_of hb9; clear hb9))
      refine wpAny_take (i := 1) (v := .bool true) rfl (by kernel_rfl) (by kernel_rfl) (by kernel_rfl) (fun _ _ _ h => h) (Or.inl ⟨by kernel_rfl, ?_⟩) ?_
      · intro wq; go_simp
      simp only [List.getElem_toArray, List.getElem_cons_zero, List.getElem_cons_succ, Act.put, List.setIfInBounds_toArray, List.set_cons_zero, List.set_cons_succ]
      refine wpAny_take (i := 2) (v := .int .i64 e5) rfl (by kernel_rfl) (by kernel_rfl) (by kernel_rfl) (fun _ _ _ h => h) (Or.inl ⟨by kernel_rfl, ?_⟩) ?_
      · intro wq; go_simp
      simp only [List.getElem_toArray, List.getElem_cons_zero, List.getElem_cons_succ, Act.put, List.setIfInBounds_toArray, List.set_cons_zero, List.set_cons_succ]
      refine wpAny_take (i := 3) (v := .bool true) rfl (by kernel_rfl) (by kernel_rfl) (by kernel_rfl) (fun _ _ _ h => h) (Or.inl ⟨by kernel_rfl, ?_⟩) ?_
      · intro wq; go_simp
      simp only [List.getElem_toArray, List.getElem_cons_zero, List.getElem_cons_succ, Act.put, List.setIfInBounds_toArray, List.set_cons_zero, List.set_cons_succ]
      refine wpAny_take (i := 4) (v := .bool true) rfl (by kernel_rfl) (by kernel_rfl) (by kernel_rfl) (fun _ _ _ h => h) (Or.inl ⟨by kernel_rfl, ?_⟩) ?_
      · intro wq; go_simp
      simp only [List.getElem_toArray, List.getElem_cons_zero, List.getElem_cons_succ, Act.put, List.setIfInBounds_toArray, List.set_cons_zero, List.set_cons_succ]
      refine wpAny_take (i := 5) (v := undef) rfl (by kernel_rfl) (by kernel_rfl) (by kernel_rfl) (fun _ _ _ h => h) (Or.inr ⟨by kernel_rfl, rfl⟩) ?_
      simp only [List.getElem_toArray, List.getElem_cons_zero, List.getElem_cons_succ, Act.put, List.setIfInBounds_toArray, List.set_cons_zero, List.set_cons_succ]
      refine wpAny_take (i := 6) (v := undef) rfl (by kernel_rfl) (by kernel_rfl) (by kernel_rfl) (fun _ _ _ h => h) (Or.inr ⟨by kernel_rfl, rfl⟩) ?_
      simp only [List.getElem_toArray, List.getElem_cons_zero, List.getElem_cons_succ, Act.put, List.setIfInBounds_toArray, List.set_cons_zero, List.set_cons_succ]
      refine wpAny_take (i := 7) (v := undef) rfl (by kernel_rfl) (by kernel_rfl) (by kernel_rfl) (fun _ _ _ h => h) (Or.inr ⟨by kernel_rfl, rfl⟩) ?_
      simp only [List.getElem_toArray, List.getElem_cons_zero, List.getElem_cons_succ, Act.put, List.setIfInBounds_toArray, List.set_cons_zero, List.set_cons_succ]
      refine wpAny_take (i := 8) (v := undef) rfl (by kernel_rfl) (by kernel_rfl) (by kernel_rfl) (fun _ _ _ h => h) (Or.inr ⟨by kernel_rfl, rfl⟩) ?_
      simp only [List.getElem_toArray, List.getElem_cons_zero, List.getElem_cons_succ, Act.put, List.setIfInBounds_toArray, List.set_cons_zero, List.set_cons_succ]
      refine wpAny_take (i := 9) (v := undef) rfl (by kernel_rfl) (by kernel_rfl) (by kernel_rfl) (fun _ _ _ h => h) (Or.inr ⟨by kernel_rfl, rfl⟩) ?_
      simp only [List.getElem_toArray, List.getElem_cons_zero, List.getElem_cons_succ, Act.put, List.setIfInBounds_toArray, List.set_cons_zero, List.set_cons_succ]
      refine wpAny_take (i := 10) (v := undef) rfl (by kernel_rfl) (by kernel_rfl) (by kernel_rfl) (fun _ _ _ h => h) (Or.inr ⟨by kernel_rfl, rfl⟩) ?_
      simp only [List.getElem_toArray, List.getElem_cons_zero, List.getElem_cons_succ, Act.put, List.setIfInBounds_toArray, List.set_cons_zero, List.set_cons_succ]
      refine wpAny_take (i := 11) (v := undef) rfl (by kernel_rfl) (by kernel_rfl) (by kernel_rfl) (fun _ _ _ h => h) (Or.inr ⟨by kernel_rfl, rfl⟩) ?_
      simp only [List.getElem_toArray, List.getElem_cons_zero, List.getElem_cons_succ, Act.put, List.setIfInBounds_toArray, List.set_cons_zero, List.set_cons_succ]
      refine wpAny_take (i := 12) (v := undef) rfl (by kernel_rfl) (by kernel_rfl) (by kernel_rfl) (fun _ _ _ h => h) (Or.inr ⟨by kernel_rfl, rfl⟩) ?_
      simp only [List.getElem_toArray, List.getElem_cons_zero, List.getElem_cons_succ, Act.put, List.setIfInBounds_toArray, List.set_cons_zero, List.set_cons_succ]
      refine wpAny_take (i := 13) (v := .bool true) rfl (by kernel_rfl) (by kernel_rfl) (by kernel_rfl) (fun _ _ _ h => h) (Or.inl ⟨by kernel_rfl, ?_⟩) ?_
      · intro wq; go_simp
      simp only [List.getElem_toArray, List.getElem_cons_zero, List.getElem_cons_succ, Act.put, List.setIfInBounds_toArray, List.set_cons_zero, List.set_cons_succ]
      refine wpAny_take (i := 14) (v := .bool true) rfl (by kernel_rfl) (by kernel_rfl) (by kernel_rfl) (fun _ _ _ h => h) (Or.inl ⟨by kernel_rfl, ?_⟩) ?_
      · intro wq; go_simp
      simp only [List.getElem_toArray, List.getElem_cons_zero, List.getElem_cons_succ, Act.put, List.setIfInBounds_toArray, List.set_cons_zero, List.set_cons_succ]
      refine wpAny_take (i := 15) (v := .bool true) rfl (by kernel_rfl) (by kernel_rfl) (by kernel_rfl) (fun _ _ _ h => h) (Or.inl ⟨by kernel_rfl, ?_⟩) ?_
      · intro wq; go_simp
      simp only [List.getElem_toArray, List.getElem_cons_zero, List.getElem_cons_succ, Act.put, List.setIfInBounds_toArray, List.set_cons_zero, List.set_cons_succ]
      refine wpAny_done (by kernel_rfl) ?_ _
      go_wp2_with fail
      go_meet
      exact ⟨rfl, _, _, rfl⟩
    case rest =>
      obtain ⟨rfl, r9, d9, rfl⟩ := hcut
      go_wp2_with fail
      go_returns
      exact ⟨rfl, below_xw HB3.out HB3.out.size _ _⟩
end Go.Proofs.Ythcgdlhmmgpbgaa
