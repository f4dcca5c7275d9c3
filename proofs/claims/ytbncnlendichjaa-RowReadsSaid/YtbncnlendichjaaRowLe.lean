/- RowReads: the walk. -/
import Derived.Test.YtbncnlendichjaaRowQ
import Derived.Test.YtbncnlendichjaaRowLa
namespace Go.Proofs.Ytbncnlendichjaa
open Go.RowKit
set_option linter.unusedVariables false
set_option linter.unusedSimpArgs false

theorem u8s_getD (xs : List Int) (j : Nat) (hj : j < xs.length) : (u8s xs)[j]? = some (.int .u8 (xs.getD j 0)) := by
  simp [u8s, List.getElem?_eq_getElem hj, List.getD_eq_getElem?_getD]
theorem readN_len (n : Nat) (s : St) (acc : List Vr) : (readN n s acc).1.1.length ≤ acc.length + n := by
  induction n generalizing s acc with
  | zero => simp [readN]
  | succ n ih =>
    rw [readN]
    split
    · simp
    · have := ih (readV s).2 (acc ++ [⟨(readV s).1.k, (readV s).1.n, (readV s).1.t⟩])
      simp only [List.length_append, List.length_cons, List.length_nil] at this
      omega
theorem readR_len (s : St) : (readR s).1.1.length ≤ 8 := by
  unfold readR
  split
  · simp
  · split
    · simp
    · have := readN_len (byteS s).1.toNat (byteS s).2 []
      simp only [List.length_nil] at this
      omega
/-- Between two rounds: both readers are in one state. -/
def BR (xs : List Int) (w : World) (g1 g2 : Nat) (wr : World) : Prop :=
  ∃ (a : Nat) (y : Int), Rd wr g1 xs a y ∧ Rq wr g2 (stOf xs a y) ∧ Below w.heap.size w wr
def VRI (xs : List Int) (w : World) (g1 g2 : Nat) (v5 : Value) (wr : World) : Prop :=
  ∃ i : Nat, v5 = .int .i64 (i : Int) ∧ Kept (i ≤ xs.length + 1) ∧ Kept (BR xs w g1 g2 wr)
set_option maxRecDepth 100000 in
set_option maxHeartbeats 4000000 in
theorem RowReads_any (xs : List Int) (hxs : ∀ b ∈ xs, 0 ≤ b ∧ b ≤ 255) (hl : xs.length ≤ 140737488351232) (A : Option Addr) (c : Nat) (w : World) (hA : ArgB w A xs) :
    Calls Try.prog 7 #[.slice A xs.length c] w (fun e w' => e = .returned (.bool true) ∧ Below w.heap.size w w') := by
  have HX := Kept.mk hxs
  have HA := Kept.mk hA
  have HL := Kept.mk hl
  clear hxs hA hl
  go_enter Try.func7, Try.ntmps7
  go_wp2_with fail
  go_at_call 22
  refine (New_arg xs (by have := HL.out; omega) A c _ HA.out.read).mono ?_
  rintro e w1 ⟨g1, rfl, hg1, HR, HB⟩
  have HB1 := Kept.mk HB
  have HG1 := Kept.mk hg1
  have HR1 := Kept.mk HR
  clear HB hg1 HR
  go_wp2_with (first | ((at_builtin); refine app_row2 (w0 := w1) (W := w1.alloc (.cells #[] 5)) rfl (.tmp 12) (.tmp 13) 41 5 (.int .u8 0) 1 rfl Try.underlying41 infoB rfl (by decide) _ [] (u8s xs) A c rfl ?c0 (u8s_one _) ?c1 ?c2 (Own.empty w1 _ _ (Nat.le_refl _)) ((Below.refl _ _).alloc (Nat.le_refl _) _) ?c3 ?_; (case c0 => rw [u8s_len]; rfl); (case c1 => intro hne; obtain ⟨ad, e, hc⟩ := (HA.out.below HB1.out).read hne; exact ⟨ad, e, fun j u hu => by rw [World.cell?_alloc_lt _ _ _ (World.block_lt_of_cell? w1 _ (hc j u hu))]; exact hc j u hu⟩); (case c2 => intro h; cases h); (case c3 => rw [u8s_len]; have := HL.out; simp; omega); intro v1 r d HO hnn; obtain ⟨k, c3, hv, hk, hk2, hc3, hm, hcell⟩ := (HO.cells.resolve_left (fun h => hnn h.1)); simp only [List.nil_append] at hv hcell hc3; rw [u8s_len] at hv hcell hc3; have HTY := Kept.mk (Own.typ HO hv); clear HO hnn; subst hv; have HC := Kept.mk hcell; clear hcell; have HK := Kept.mk (And.intro hk (And.intro hk2 (And.intro hc3 hm))); clear hk hk2 hc3 hm))
  obtain ⟨g2, hg2⟩ : ∃ g2, g2 = (xw w1 r d).heap.size := ⟨_, rfl⟩
  obtain ⟨wl, hwl⟩ : ∃ wl, wl = (xw w1 r d).alloc (.cells #[.slice (some ⟨k, 0, none⟩) xs.length c3, .int .i64 0] 46) := ⟨_, rfl⟩
  have HG2 := Kept.mk hg2
  have HWL := Kept.mk hwl
  have hs1 := HB1.out.size
  have hRL : Rd wl g1 xs 0 0 := by
    rw [hwl]
    exact HR1.out.below (((xw_below w1 r d)).alloc (by simp [xw_size]) _)
  have hne : g1 ≠ g2 := by
    have := HR1.out.lt
    rw [hg2, xw_size]; omega
  have hQL : Rq wl g2 (stOf xs 0 0) := by
    rw [hwl, hg2]
    have hk := HK.out
    refine ⟨⟨some ⟨k, 0, none⟩, c3, 46, ?_, hk.2.2.1, hk.2.2.2, fun hn => ⟨k, 0, rfl, by omega, by rw [World.size_alloc]; omega, fun j hj => ?_⟩⟩, fun h => absurd rfl h, by have := HL.out; simp [stOf]; omega⟩
    · rw [show stOf xs 0 0 = (0, xs) from rfl]
      exact Array.getElem?_push_size
    · simp only [stOf, if_true, List.drop_zero] at hj ⊢
      obtain ⟨arr, fr, hty⟩ := HTY.out
      refine BytAt.keep (w := xw w1 r d) ⟨?_, arr, fr, hty⟩ (Lib.alloc_old _ _ _ hk.2.1)
      rw [Nat.zero_add, HC.out j hj, u8s_getD xs j hj]
  have hBL : Below w.heap.size w wl := by
    rw [hwl]
    exact (below_xw HB1.out hs1 _ _).alloc (by simp [xw_size]; omega) _
  have HBRL : Kept (BR xs w g1 g2 wl) := ⟨⟨0, 0, hRL, hQL, hBL⟩⟩
  have HNE := Kept.mk hne
  have hg2w : w.heap.size ≤ g2 := by rw [hg2, xw_size]; omega
  have HGW := Kept.mk hg2w
  clear hRL hQL hBL hne hs1 hg2w
  rewrite [← HWL.out]
  rewrite [← HG2.out]
  clear HC HK HR1 HWL HG2 hg2 hwl HTY
  go_loopw [5] (fun v5 wr => VRI xs w g1 g2 v5 wr) (fun v5 wr => xs.length + 1 - (intOf v5).toNat)
  case atStart => exact ⟨0, rfl, ⟨Nat.zero_le _⟩, HBRL⟩
  case round =>
    obtain ⟨i, rfl, HI, HB⟩ := hrel
    obtain ⟨a, y, hR, hQ, hBel⟩ := HB.out
    clear HB HBRL
    have HR := Kept.mk hR
    have HQ := Kept.mk hQ
    have HBE := Kept.mk hBel
    have hs := stOf_range xs HX.out a y
    have HS := Kept.mk hs
    clear hR hQ hBel hs
    by_cases ci : i ≤ xs.length
    · have hci : (i : Int) ≤ (xs.length : Int) := by omega
      have hw : wrap64 ((i : Int) + 1) = (i : Int) + 1 := by have := HL.out; simp only [wrap64]; omega
      have HCI := Kept.mk ci
      clear ci
      go_wp2_with fail
      go_at_call 23
      refine (rowRead_any g1 xs HX.out a y _ HR.out).mono ?_
      rintro e w1' ⟨a', y', v1, rfl, hO1, hR1, hB1, hs1⟩
      have HQ1 := Kept.mk (HQ.out.other HR.out HNE.out hB1)
      have HR1 := Kept.mk hR1
      have HO1 := Kept.mk hO1
      have HB1' := Kept.mk (hB1.below HBE.out HG1.out HBE.out.size)
      have HLN := Kept.mk (readR_len (stOf xs a y))
      obtain ⟨⟨⟨l5, e5⟩, s5⟩, hq5⟩ : ∃ q, q = readR (stOf xs a y) := ⟨_, rfl⟩
      have HV := Kept.mk hq5
      rewrite [← hq5] at HO1 hs1 HLN
      rewrite [← hq5]
      simp only at HO1 hs1 HLN ⊢
      have HS1 := Kept.mk hs1
      have HG2L := Kept.mk HQ.out.lt
      clear hR1 hB1 hs1 hq5 hO1
      go_wp2_with fail
      go_at_call 24
      refine (rrowRead_any g2 _ HS.out _ HQ1.out).mono ?_
      rintro e w2 ⟨v2, rfl, hO2, hQ2, hB2⟩
      rewrite [← HV.out] at hO2 hQ2
      rewrite [← HV.out]
      simp only at hO2 hQ2 ⊢
      rewrite [← HS1.out] at hQ2
      have HR2 := Kept.mk (HR1.out.other HQ1.out HNE.out hB2)
      have HB2 := Kept.mk (hB2.below HB1'.out HGW.out HB1'.out.size)
      have HQ2 := Kept.mk hQ2
      have HO1' := Kept.mk (HO1.out.but hB2 HG2L.out).has
      have HO2' := Kept.mk hO2.has
      clear hQ2 hB2 HQ1 HR1 HB1' HS1 HR HQ HBE HO1 hO2
      go_wp2_with fail
      go_at_call 14
      refine (rSame_any v1 v2 l5 l5 w2 HO1'.out HO2'.out (by have := HLN.out; omega)).mono ?_
      rintro e w3 ⟨rfl, hb3⟩
      rewrite [sameR_refl]
      have HR3 := Kept.mk (HR2.out.below hb3)
      have HQ3 := Kept.mk (HQ2.out.below hb3)
      have HB3 := Kept.mk (HB2.out.trans (hb3.mono HB2.out.size))
      clear hb3 HR2 HQ2 HB2 HO1' HO2'
      by_cases ce : e5 = 0
      · subst ce
        go_upto_region 12 with fail
        have hleft : leftS (stOf xs a' y') = (((stOf xs a' y').2.length : Nat) : Int) := by
          unfold leftS
          by_cases cy : (stOf xs a' y').1 = 0
          · rw [if_pos cy]
          · rw [if_neg cy, HQ3.out.err cy]; rfl
        have HLE := Kept.mk hleft
        obtain ⟨A3, c3', q0, q1, _⟩ := HQ3.out.cells
        rewrite [show (stOf xs a' y').1 = y' from rfl] at q1
        generalize (stOf xs a' y').2.length = L at q0 HLE
        clear hleft
        have KL : Kept (∀ m, Calls Try.prog 25 #[.pointer (some ⟨g1, 0, none⟩)] (w3.drewN m) (fun e w' => e = .returned (.int .i64 (L : Int)) ∧ ∃ n, w' = (w3.drewN m).drewN n)) := ⟨fun m => by
          have h := Left_quiet g1 xs a' y' _ (HR3.out.drewN m)
          rw [HLE.out] at h
          exact h⟩
        go_quiet (first | (go_at_call 25; exact Calls.quiet_of (KL.out _)))
        go_wp2_with fail
        refine ⟨⟨i + 1, by rw [hw]; rfl, ⟨by have := HCI.out; omega⟩, ⟨⟨a', y', HR3.out.drewN _, HQ3.out.drewN _, below_drewN HB3.out _⟩⟩⟩, ?_⟩
        rw [hw]
        have := HCI.out
        simp only [intOf]
        omega
      · have ce' : (e5 != 0) = true := by simp [ce]
        clear ce
        go_wp2_with (first | (go_at_call 13; refine (live_any _).mono ?_; rintro e w9 ⟨rfl, hb9⟩))
        go_returns
        exact ⟨rfl, HB3.out.trans (hb9.mono HB3.out.size)⟩
    · have ci' : (xs.length : Int) < (i : Int) := by omega
      clear ci
      go_wp2_with (first | (go_at_call 13; refine (live_any _).mono ?_; rintro e w9 ⟨rfl, hb9⟩))
      go_returns
      exact ⟨rfl, HBE.out.trans (hb9.mono HBE.out.size)⟩
end Go.Proofs.Ytbncnlendichjaa
