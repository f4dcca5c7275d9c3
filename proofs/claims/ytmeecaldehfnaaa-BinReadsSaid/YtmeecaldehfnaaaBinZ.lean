/- BinReads: the walk. -/
import Derived.Test.YtmeecaldehfnaaaBinD
namespace Go.Proofs.Ytmeecaldehfnaaa
open Go.RowKit
set_option linter.unusedVariables false
set_option linter.unusedSimpArgs false

/-- A slice of wants that came in: the kinds K, the lengths M. -/
def ArgW (w : World) (A : Option Addr) (n : Nat) (K M : Nat → Int) : Prop := n ≠ 0 → ∃ b off, A = some ⟨b, off, none⟩ ∧ b < w.heap.size ∧ ∀ i, i < n → w.cell? ⟨b, off + i * 2, none⟩ = some (.int .i64 (K i)) ∧ w.cell? ⟨b, off + i * 2 + 1, none⟩ = some (.int .i64 (M i))
theorem u8s_getD (xs : List Int) (j : Nat) (hj : j < xs.length) : (u8s xs)[j]? = some (.int .u8 (xs.getD j 0)) := by
  simp [u8s, List.getElem?_eq_getElem hj, List.getD_eq_getElem?_getD]
/-- Between two rounds: both readers are in one state. -/
def BR (xs : List Int) (w : World) (g1 g2 : Nat) (wr : World) : Prop :=
  ∃ (a : Nat) (y : Int), Rd wr g1 xs a y ∧ Rq wr g2 (stOf xs a y) ∧ Below w.heap.size w wr
def BRI (xs : List Int) (w : World) (g1 g2 n : Nat) (v7 : Value) (wr : World) : Prop :=
  ∃ i : Nat, v7 = .int .i64 (i : Int) ∧ Kept (i ≤ n) ∧ Kept (BR xs w g1 g2 wr)

set_option maxRecDepth 100000 in
set_option maxHeartbeats 1000000 in
theorem BinReads_any (xs : List Int) (hxs : ∀ b ∈ xs, 0 ≤ b ∧ b ≤ 255) (hl : xs.length ≤ 140737488351232) (A : Option Addr) (c : Nat) (A2 : Option Addr) (n c2 : Nat) (K M : Nat → Int) (hn : n ≤ 140737488351232) (w : World) (hA : ArgB w A xs) (hW : ArgW w A2 n K M) :
    Calls Try.prog 6 #[.slice A xs.length c, .slice A2 n c2] w (fun e w' => e = .returned (.bool true) ∧ Below w.heap.size w w') := by
  have HX := Kept.mk hxs
  have HA := Kept.mk hA
  have HL := Kept.mk hl
  have HW := Kept.mk hW
  have HN := Kept.mk hn
  clear hxs hA hl hW hn
  go_enter Try.func6, Try.ntmps6
  go_wp2_with fail
  go_at_call 7
  refine (New_arg xs (by have := HL.out; omega) A c _ HA.out.read).mono ?_
  rintro e w1 ⟨g1, rfl, hg1, HR, HB⟩
  have HB1 := Kept.mk HB
  have HG1 := Kept.mk hg1
  have HR1 := Kept.mk HR
  clear HB hg1 HR
  go_wp2_with (first | ((at_builtin); refine app_row2 (w0 := w1) (W := w1.alloc (.cells #[] 5)) rfl (.tmp 10) (.tmp 11) 22 5 (.int .u8 0) 1 rfl Try.underlying22 infoB rfl (by decide) _ [] (u8s xs) A c rfl ?c0 (u8s_one _) ?c1 ?c2 (Own.empty w1 _ _ (Nat.le_refl _)) ((Below.refl _ _).alloc (Nat.le_refl _) _) ?c3 ?_; (case c0 => rw [u8s_len]; rfl); (case c1 => intro hne; obtain ⟨ad, e, hc⟩ := (HA.out.below HB1.out).read hne; exact ⟨ad, e, fun j u hu => by rw [World.cell?_alloc_lt _ _ _ (World.block_lt_of_cell? w1 _ (hc j u hu))]; exact hc j u hu⟩); (case c2 => intro h; cases h); (case c3 => rw [u8s_len]; have := HL.out; simp; omega); intro v1 r d HO hnn; obtain ⟨k, c3, hv, hk, hk2, hc3, hm, hcell⟩ := (HO.cells.resolve_left (fun h => hnn h.1)); simp only [List.nil_append] at hv hcell hc3; rw [u8s_len] at hv hcell hc3; clear HO hnn; subst hv; have HC := Kept.mk hcell; clear hcell; have HK := Kept.mk (And.intro hk (And.intro hk2 (And.intro hc3 hm))); clear hk hk2 hc3 hm))
  obtain ⟨g2, hg2⟩ : ∃ g2, g2 = (xw w1 r d).heap.size := ⟨_, rfl⟩
  obtain ⟨wl, hwl⟩ : ∃ wl, wl = (xw w1 r d).alloc (.cells #[.slice (some ⟨k, 0, none⟩) xs.length c3, .int .i64 0] 38) := ⟨_, rfl⟩
  have HG2 := Kept.mk hg2
  have HWL := Kept.mk hwl
  have hs1 := HB1.out.size
  have hRL : Rd wl g1 xs 0 0 := by
    rw [hwl]
    exact HR1.out.below (((xw_below w1 r d)).alloc (by simp [xw_size]) _)
  have hne : g1 ≠ g2 := by
    have := HR1.out.lt
    rw [hg2, xw_size]; omega
  have hQL : Rq wl g2 (stOf xs 0 0) := by
    rw [hwl, hg2]
    have hk := HK.out
    refine ⟨⟨some ⟨k, 0, none⟩, c3, 38, ?_, hk.2.2.1, hk.2.2.2, fun hn => ⟨k, 0, rfl, by omega, by rw [World.size_alloc]; omega, fun j hj => ?_⟩⟩, fun h => absurd rfl h, by have := HL.out; simp [stOf]; omega⟩
    · rw [show stOf xs 0 0 = (0, xs) from rfl]
      exact Array.getElem?_push_size
    · simp only [stOf, if_true, List.drop_zero] at hj ⊢
      rw [Nat.zero_add, World.cell?_alloc_lt _ _ _ (by simp only; omega)]
      rw [HC.out j hj, u8s_getD xs j hj]
  have hBL : Below w.heap.size w wl := by
    rw [hwl]
    exact (below_xw HB1.out hs1 _ _).alloc (by simp [xw_size]; omega) _
  have HBRL : Kept (BR xs w g1 g2 wl) := ⟨⟨0, 0, hRL, hQL, hBL⟩⟩
  have HNE := Kept.mk hne
  have hg2w : w.heap.size ≤ g2 := by rw [hg2, xw_size]; omega
  have HGW := Kept.mk hg2w
  clear hRL hQL hBL hne hs1 hg2w
  rewrite [← HWL.out]
  rewrite [← HG2.out]
  clear HC HK HR1 HWL HG2 hg2 hwl
  go_loopw [7] (fun v7 wr => BRI xs w g1 g2 n v7 wr) (fun v7 wr => n - (intOf v7).toNat)
  case atStart => exact ⟨0, rfl, ⟨Nat.zero_le _⟩, HBRL⟩
  case round =>
    obtain ⟨i, rfl, HI, HB⟩ := hrel
    obtain ⟨a, y, hR, hQ, hBel⟩ := HB.out
    clear HB HBRL
    have HR := Kept.mk hR
    have HQ := Kept.mk hQ
    have HBE := Kept.mk hBel
    by_cases ci : i < n
    · obtain ⟨b, off, hA2, hb, hcell⟩ := HW.out (by omega)
      subst hA2
      obtain ⟨hc0, hc1⟩ := hcell i ci
      have HW1 := Kept.mk hc1
      have HW1 := Kept.mk hc1
      rw [← World.cell?_of_block (w' := wr) (hBel.block b hb)] at hc0 hc1
      have hci : (i : Int) < (n : Int) := by omega
      have hs := stOf_range xs HX.out a y
      have HS := Kept.mk hs
      have hw : wrap64 ((i : Int) + 1) = (i : Int) + 1 := by have := HN.out; simp only [wrap64]; omega
      have HCI := Kept.mk ci
      clear hcell hR hQ hBel ci hs
      by_cases k0 : K i = 0
      · rw [k0] at hc0
        clear k0
        go_wp2_with fail
        go_at_call 20
        refine (Byte_read g1 xs a y _ HR.out).mono ?_
        rintro e w1' ⟨bb, a', y', rfl, hR1, hB1, hs1⟩
        have HQ1 := Kept.mk (HQ.out.other HR.out HNE.out hB1)
        have HR1 := Kept.mk hR1
        have HB1' := Kept.mk (hB1.below HBE.out HG1.out HBE.out.size)
        have HS1 := Kept.mk hs1
        clear hR1 hB1 hs1
        go_wp2_with fail
        go_at_call 21
        refine (rByte_any g2 _ _ HQ1.out).mono ?_
        rintro e w2 ⟨rfl, hQ2, hB2⟩
        have hv := congrArg Prod.fst HS1.out
        have hss := congrArg Prod.snd HS1.out
        simp only at hv hss
        rewrite [← hv]
        rewrite [← hss] at hQ2
        have HR2 := Kept.mk (HR1.out.other HQ1.out HNE.out hB2)
        have HB2 := Kept.mk (hB2.below HB1'.out HGW.out HB1'.out.size)
        have HQ2 := Kept.mk hQ2
        clear hQ2 hB2 HQ1 HR1 HB1' HS1 hv hss HR HQ HBE
        have hleft : leftS (stOf xs a' y') = (((stOf xs a' y').2.length : Nat) : Int) := by
          unfold leftS
          by_cases cy : (stOf xs a' y').1 = 0
          · rw [if_pos cy]
          · rw [if_neg cy, HQ2.out.err cy]; rfl
        have HLE := Kept.mk hleft
        obtain ⟨A3, c3', q0, q1, _⟩ := HQ2.out.cells
        rewrite [show (stOf xs a' y').1 = y' from rfl] at q1
        generalize (stOf xs a' y').2.length = L at q0 HLE
        clear hleft
        have KL : Kept (∀ m, Calls Try.prog 10 #[.pointer (some ⟨g1, 0, none⟩)] (w2.drewN m) (fun e w' => e = .returned (.int .i64 (L : Int)) ∧ ∃ n, w' = (w2.drewN m).drewN n)) := ⟨fun m => by
          have h := Left_quiet g1 xs a' y' _ (HR2.out.drewN m)
          rw [HLE.out] at h
          exact h⟩
        go_wp2_with fail
        go_quiet (first
          | (go_at_call 10; exact Calls.quiet_of (KL.out _))
          | (go_at_call 9; refine Calls.quiet_of_same ((Err_read g1 xs a' y' _ (HR2.out.drewN _)).mono (fun e w' h => ⟨h.1, h.2.symm⟩))))
        go_wp2_with fail
        refine ⟨⟨i + 1, by rw [hw]; rfl, ⟨HCI.out⟩, ⟨⟨a', y', HR2.out.drewN _, HQ2.out.drewN _, below_drewN HB2.out _⟩⟩⟩, ?_⟩
        rw [hw]
        have := HCI.out
        simp [intOf]
        omega
      · by_cases k1 : K i = 1
        · rw [k1] at hc0
          clear k1 k0
          go_wp2_with fail
          go_at_call 8
          refine (Num_read g1 xs HX.out a y _ HR.out).mono ?_
          rintro e w1' ⟨bb, a', y', rfl, hR1, hB1, hs1⟩
          have HQ1 := Kept.mk (HQ.out.other HR.out HNE.out hB1)
          have HR1 := Kept.mk hR1
          have HB1' := Kept.mk (hB1.below HBE.out HG1.out HBE.out.size)
          have HS1 := Kept.mk hs1
          clear hR1 hB1 hs1
          go_wp2_with fail
          go_at_call 22
          refine (rNum_read g2 _ HS.out _ HQ1.out).mono ?_
          rintro e w2 ⟨rfl, hQ2, hB2⟩
          have hv := congrArg Prod.fst HS1.out
          have hss := congrArg Prod.snd HS1.out
          simp only at hv hss
          rewrite [← hv]
          rewrite [← hss] at hQ2
          have HR2 := Kept.mk (HR1.out.other HQ1.out HNE.out hB2)
          have HB2 := Kept.mk (hB2.below HB1'.out HGW.out HB1'.out.size)
          have HQ2 := Kept.mk hQ2
          clear hQ2 hB2 HQ1 HR1 HB1' HS1 hv hss HR HQ HBE
          have hleft : leftS (stOf xs a' y') = (((stOf xs a' y').2.length : Nat) : Int) := by
            unfold leftS
            by_cases cy : (stOf xs a' y').1 = 0
            · rw [if_pos cy]
            · rw [if_neg cy, HQ2.out.err cy]; rfl
          have HLE := Kept.mk hleft
          obtain ⟨A3, c3', q0, q1, _⟩ := HQ2.out.cells
          rewrite [show (stOf xs a' y').1 = y' from rfl] at q1
          generalize (stOf xs a' y').2.length = L at q0 HLE
          clear hleft
          have KL : Kept (∀ m, Calls Try.prog 10 #[.pointer (some ⟨g1, 0, none⟩)] (w2.drewN m) (fun e w' => e = .returned (.int .i64 (L : Int)) ∧ ∃ n, w' = (w2.drewN m).drewN n)) := ⟨fun m => by
            have h := Left_quiet g1 xs a' y' _ (HR2.out.drewN m)
            rw [HLE.out] at h
            exact h⟩
          go_wp2_with fail
          go_quiet (first
            | (go_at_call 10; exact Calls.quiet_of (KL.out _))
            | (go_at_call 9; refine Calls.quiet_of_same ((Err_read g1 xs a' y' _ (HR2.out.drewN _)).mono (fun e w' h => ⟨h.1, h.2.symm⟩))))
          go_wp2_with fail
          refine ⟨⟨i + 1, by rw [hw]; rfl, ⟨HCI.out⟩, ⟨⟨a', y', HR2.out.drewN _, HQ2.out.drewN _, below_drewN HB2.out _⟩⟩⟩, ?_⟩
          rw [hw]
          have := HCI.out
          simp [intOf]
          omega
        · by_cases k2 : K i = 2
          · rw [k2] at hc0
            clear k2 k1 k0
            go_wp2_with fail
            go_at_call 12
            refine (Int_read g1 xs HX.out a y _ HR.out).mono ?_
            rintro e w1' ⟨bb, a', y', rfl, hR1, hB1, hs1⟩
            have HQ1 := Kept.mk (HQ.out.other HR.out HNE.out hB1)
            have HR1 := Kept.mk hR1
            have HB1' := Kept.mk (hB1.below HBE.out HG1.out HBE.out.size)
            have HS1 := Kept.mk hs1
            clear hR1 hB1 hs1
            go_wp2_with fail
            go_at_call 23
            refine (rInt_read g2 _ HS.out _ HQ1.out).mono ?_
            rintro e w2 ⟨rfl, hQ2, hB2⟩
            have hv := congrArg Prod.fst HS1.out
            have hss := congrArg Prod.snd HS1.out
            simp only at hv hss
            rewrite [← hv]
            rewrite [← hss] at hQ2
            have HR2 := Kept.mk (HR1.out.other HQ1.out HNE.out hB2)
            have HB2 := Kept.mk (hB2.below HB1'.out HGW.out HB1'.out.size)
            have HQ2 := Kept.mk hQ2
            clear hQ2 hB2 HQ1 HR1 HB1' HS1 hv hss HR HQ HBE
            have hleft : leftS (stOf xs a' y') = (((stOf xs a' y').2.length : Nat) : Int) := by
              unfold leftS
              by_cases cy : (stOf xs a' y').1 = 0
              · rw [if_pos cy]
              · rw [if_neg cy, HQ2.out.err cy]; rfl
            have HLE := Kept.mk hleft
            obtain ⟨A3, c3', q0, q1, _⟩ := HQ2.out.cells
            rewrite [show (stOf xs a' y').1 = y' from rfl] at q1
            generalize (stOf xs a' y').2.length = L at q0 HLE
            clear hleft
            have KL : Kept (∀ m, Calls Try.prog 10 #[.pointer (some ⟨g1, 0, none⟩)] (w2.drewN m) (fun e w' => e = .returned (.int .i64 (L : Int)) ∧ ∃ n, w' = (w2.drewN m).drewN n)) := ⟨fun m => by
              have h := Left_quiet g1 xs a' y' _ (HR2.out.drewN m)
              rw [HLE.out] at h
              exact h⟩
            go_wp2_with fail
            go_quiet (first
              | (go_at_call 10; exact Calls.quiet_of (KL.out _))
              | (go_at_call 9; refine Calls.quiet_of_same ((Err_read g1 xs a' y' _ (HR2.out.drewN _)).mono (fun e w' h => ⟨h.1, h.2.symm⟩))))
            go_wp2_with fail
            refine ⟨⟨i + 1, by rw [hw]; rfl, ⟨HCI.out⟩, ⟨⟨a', y', HR2.out.drewN _, HQ2.out.drewN _, below_drewN HB2.out _⟩⟩⟩, ?_⟩
            rw [hw]
            have := HCI.out
            simp [intOf]
            omega
          · have d0 : (K i == 0) = false := by simp [k0]
            have d1 : (K i == 1) = false := by simp [k1]
            have d2 : (K i == 2) = false := by simp [k2]
            clear k0 k1 k2
            go_wp2_with fail
            go_region_with (first
              | (go_at_call 19; refine (Text_read g1 xs HX.out a y (M i) _ (by first | exact HR.out | exact HR.out.drew | exact HR.out.drewN _)).mono ?_; rintro e w1' ⟨a', y', rfl, hR1, hB1, hs1⟩; have HQ1 := Kept.mk ((by first | exact HQ.out.other HR.out HNE.out hB1 | exact HQ.out.drew.other HR.out.drew HNE.out hB1 | exact (HQ.out.drewN _).other (HR.out.drewN _) HNE.out hB1) : Rq w1' g2 (stOf xs a y)); have HR1 := Kept.mk hR1; have HB1' := Kept.mk ((by first | exact hB1.below HBE.out HG1.out HBE.out.size | exact hB1.below HBE.out.drew HG1.out HBE.out.drew.size | exact hB1.below (below_drewN HBE.out _) HG1.out (below_drewN HBE.out _).size) : Below w.heap.size w w1'); have HS1 := Kept.mk hs1; have hc1' := (World.cell?_of_block (w' := w1') (HB1'.out.block b hb)).trans HW1.out; clear hR1 hB1 hs1)
              | (go_at_call 24; refine (rText_read g2 _ HS.out (M i) _ (by first | exact HQ1.out | exact HQ1.out.drew | exact HQ1.out.drewN _)).mono ?_; rintro e w2 ⟨rfl, hQ2, hB2⟩; rewrite [← HS1.out] at hQ2; have HR2 := Kept.mk ((by first | exact HR1.out.other HQ1.out HNE.out hB2 | exact HR1.out.drew.other HQ1.out.drew HNE.out hB2 | exact (HR1.out.drewN _).other (HQ1.out.drewN _) HNE.out hB2) : Rd w2 g1 xs a' y'); have HB2 := Kept.mk ((by first | exact hB2.below HB1'.out HGW.out HB1'.out.size | exact hB2.below HB1'.out.drew HGW.out HB1'.out.drew.size | exact hB2.below (below_drewN HB1'.out _) HGW.out (below_drewN HB1'.out _).size) : Below w.heap.size w w2); have HQ2 := Kept.mk hQ2; clear hQ2 hB2 HQ1 HR1 HB1' HS1))
            all_goals
              have hleft : leftS (stOf xs a' y') = (((stOf xs a' y').2.length : Nat) : Int) := by
                unfold leftS
                by_cases cy : (stOf xs a' y').1 = 0
                · rw [if_pos cy]
                · rw [if_neg cy, HQ2.out.err cy]; rfl
              have HLE := Kept.mk hleft
              obtain ⟨A3, c3', q0, q1, _⟩ := HQ2.out.cells
              rewrite [show (stOf xs a' y').1 = y' from rfl] at q1
              generalize (stOf xs a' y').2.length = L at q0 HLE
              clear hleft
              have KL : Kept (∀ m, Calls Try.prog 10 #[.pointer (some ⟨g1, 0, none⟩)] (w2.drewN m) (fun e w' => e = .returned (.int .i64 (L : Int)) ∧ ∃ n, w' = (w2.drewN m).drewN n)) := ⟨fun m => by
                have h := Left_quiet g1 xs a' y' _ (HR2.out.drewN m)
                rw [HLE.out] at h
                exact h⟩
              go_wp2_with fail
              go_quiet (first
                | (go_at_call 10; exact Calls.quiet_of (KL.out _))
                | (go_at_call 9; refine Calls.quiet_of_same ((Err_read g1 xs a' y' _ (HR2.out.drewN _)).mono (fun e w' h => ⟨h.1, h.2.symm⟩))))
              go_wp2_with fail
              refine ⟨⟨i + 1, by rw [hw]; rfl, ⟨HCI.out⟩, ⟨⟨a', y', HR2.out.drewN _, HQ2.out.drewN _, below_drewN HB2.out _⟩⟩⟩, ?_⟩
              rw [hw]
              have := HCI.out
              simp [intOf]
              omega
    · have hi : i = n := by have := HI.out; omega
      subst hi
      go_wp2_with (first | (go_at_call 14; refine (live_any _).mono ?_; rintro e w9 ⟨rfl, hb9⟩))
      go_ret
      exact ⟨rfl, HBE.out.trans (hb9.mono HBE.out.size)⟩
end Go.Proofs.Ytmeecaldehfnaaa
