/- LexMay: the walk. -/
import Derived.Test.YtlckgloaknjcgaaLexK
import Derived.Deep.DeepCutAuto
import Derived.StillTailTactics
namespace Go.Proofs.Ytlckgloaknjcgaa
open Go.RowKit
set_option linter.unusedVariables false
set_option linter.unusedSimpArgs false

def MyI (ts : List Tok) (w : World) (i : Nat) (v3 : Value) (wr : World) : Prop :=
  i ≤ ts.length ∧ OwnT wr w.heap.size 37 v3 (ts.take i) ∧ Below w.heap.size w wr
def MyJ (ts : List Tok) (w : World) (v4 v3 : Value) (wr : World) : Prop := ∃ i : Nat, v4 = .int .i64 (i : Int) ∧ Kept (MyI ts w i v3 wr)

set_option maxRecDepth 100000 in
set_option maxHeartbeats 4000000 in
theorem LexMay_any (v : Value) (ts : List Tok) (w : World) (H : HasT w v ts) (hn : ts.length ≤ 2097152) (hj : jl (texts ts) ≤ 2097152) :
    Calls Try.prog 5 #[v] w (fun e w' => e = .returned (.bool true) ∧ Below w.heap.size w w') := by
  have HT := Kept.mk H
  obtain ⟨A, c, rfl, hA⟩ := H
  have HA := Kept.mk hA
  have HN := Kept.mk hn
  have HJ := Kept.mk hj
  clear hA hn hj
  go_enter Try.func5, Try.ntmps5
  go_wp2_with fail
  go_loopw [4, 3] (fun v4 v3 wr => MyJ ts w v4 v3 wr) (fun v4 v3 wr => ts.length - (intOf v4).toNat)
  case atStart => exact ⟨0, rfl, ⟨⟨Nat.zero_le _, by simpa using OwnT.empty w _ _ (Nat.le_refl _), (Below.refl _ _).alloc (Nat.le_refl _) _⟩⟩⟩
  case round =>
    obtain ⟨i, rfl, HI⟩ := hrel
    obtain ⟨hi, hO, hBe⟩ := HI.out
    have HO := Kept.mk hO
    have HBE := Kept.mk hBe
    clear HI hO
    by_cases ci : i < ts.length
    · have hne : ts ≠ [] := by rintro rfl; simp at ci
      obtain ⟨b1, o1, rfl, hb1, hc1⟩ := HA.out hne
      obtain ⟨e0, e1⟩ := hc1 i ci
      rw [← World.cell?_of_block (w' := wr) (hBe.block b1 hb1)] at e0 e1
      have hb1r : b1 < wr.heap.size := Nat.lt_of_lt_of_le hb1 hBe.size
      have a0 : ∀ o, (wr.alloc o).cell? ⟨b1, o1 + i * 2, none⟩ = wr.cell? ⟨b1, o1 + i * 2, none⟩ := fun o => World.cell?_alloc_lt _ _ _ hb1r
      have a1 : ∀ o, (wr.alloc o).cell? ⟨b1, o1 + i * 2 + 1, none⟩ = wr.cell? ⟨b1, o1 + i * 2 + 1, none⟩ := fun o => World.cell?_alloc_lt _ _ _ hb1r
      have htake : ts.take (i + 1) = ts.take i ++ [ts[i]] := by rw [List.take_add_one, List.getElem?_eq_getElem ci]; rfl
      have hjt := jl_take ts i ci
      have HTK := Kept.mk htake
      generalize ts[i] = t at e0 e1 HTK hjt
      obtain ⟨k, l⟩ := t
      simp only at e0 e1 hjt
      have hls : (bs l).size ≤ 4194304 := by rw [bs_size]; have := HJ.out; omega
      have HLS := Kept.mk hls
      have ci' : (i : Int) < (ts.length : Int) := by omega
      have f0 : 0 ≤ (i : Int) := by omega
      have hw : wrap64 ((i : Int) + 1) = (i : Int) + 1 := by have := HN.out; simp only [wrap64]; omega
      have HCI := Kept.mk ci
      clear hc1 hne hjt hi hBe htake hls
      go_wp2_with fail
      go_region
      go_wp2_with fail
      obtain ⟨wz, hwz⟩ : ∃ wz, wz = (wr.alloc (.cells #[.int .i64 k, .string (bs l)] 37)).drew := ⟨_, rfl⟩
      have z0 : wz.cell? ⟨wr.heap.size, 0, none⟩ = some (.int .i64 k) := by rw [hwz]; simp [go_sem]
      have z1 : wz.cell? ⟨wr.heap.size, 1, none⟩ = some (.string (bs l)) := by rw [hwz]; simp [go_sem]
      have z2 : wz.cell? ⟨b1, o1 + i * 2, none⟩ = some (.int .i64 k) := by rw [hwz]; exact (a0 _).trans e0
      have z3 : wz.cell? ⟨b1, o1 + i * 2 + 1, none⟩ = some (.string (bs l)) := by rw [hwz]; exact (a1 _).trans e1
      have hBz : Below wr.heap.size wr wz := by rw [hwz]; exact ((Below.refl _ _).alloc (Nat.le_refl _) _).drew
      have z4 : wr.heap.size < wz.heap.size := by rw [hwz]; show wr.heap.size < (wr.alloc _).heap.size; rw [World.size_alloc]; omega
      have z5 : b1 < wz.heap.size := by omega
      have HOz := Kept.mk (OwnT.below HO.out hBz)
      have HBz := Kept.mk (HBE.out.trans (hBz.mono HBE.out.size))
      rewrite [← hwz]
      clear hwz a0 a1 e0 e1 hBz hb1r
      go_region_with (first
        | (go_at_call 11; refine (pMay_any k (bs l) HLS.out _).mono ?_; rintro e w5 ⟨rfl, hb5⟩; obtain ⟨r5, d5, rfl⟩ := xw_of hb5; clear hb5)
        | (go_at_call 14; refine (rMay_any k (bs l) ?hz _).mono ?_; (case hz => have := HLS.out; omega); rintro e w6 ⟨rfl, hb6⟩; obtain ⟨r6, d6, rfl⟩ := xw_of hb6; clear hb6))
      all_goals
        go_wp2_with (first | ((at_builtin); refine app_tok (w0 := w) (W := xw wz (r5 ++ r6) d6) rfl (.tmp 32) (.tmp 34) 27 37 _ 24 rfl Try.underlying27 infoRTok rfl (by decide) _ (ts.take i) k (bs l) rfl rfl (OwnT.below HOz.out (xw_below wz _ _)) (below_xw HBz.out HBz.out.size _ _) ?c1 ?_; (case c1 => have := HN.out; rw [List.length_take]; omega); intro v1 r d HO2 HG2; have HO2 := Kept.mk HO2; clear HG2))
        go_roundw
        case rel =>
          refine ⟨i + 1, by rw [hw]; rfl, ⟨⟨HCI.out, ?_, xw_below _ _ _⟩⟩⟩
          have h := HO2.out
          rw [tx_bs, ← HTK.out] at h
          exact h
        case measure => exact less_step hw HCI.out
    · have hie : ts.take i = ts := List.take_of_length_le (by omega)
      rw [hie] at HO
      have ci' : ¬ ((i : Int) < (ts.length : Int)) := by omega
      have HTr := Kept.mk (HT.out.below HBE.out)
      clear ci hBe
      go_wp2_with fail
      go_at_call 7
      refine (live_any _).mono ?_
      rintro e w2 ⟨rfl, hb2⟩
      have HT2 := Kept.mk (HTr.out.below hb2)
      have HO2 := Kept.mk (OwnT.below HO.out hb2)
      have HB2 := Kept.mk (HBE.out.trans (hb2.mono HBE.out.size))
      clear hb2
      go_wp2_with fail
      go_at_call 13
      refine (join_any _ ts _ HT2.out (by have := HN.out; omega) (by have := HJ.out; omega)).mono ?_
      rintro e w3 ⟨rfl, hb3⟩
      have HT3 := Kept.mk (HT2.out.below hb3)
      have HO3 := Kept.mk (OwnT.has (OwnT.below HO2.out hb3))
      have HB3 := Kept.mk (HB2.out.trans (hb3.mono HB2.out.size))
      clear hb3
      go_wp2_with fail
      go_at_call 15
      refine (rjoin_any _ ts _ HO3.out (by have := HN.out; omega) (by have := HJ.out; omega)).mono ?_
      rintro e w4 ⟨rfl, rfl⟩
      go_wp2_with fail
      go_at_call 16
      refine (same_any _ _ ts (by have := HN.out; omega) _ HT3.out HT3.out).mono ?_
      rintro e w5 ⟨rfl, hb5⟩
      have HB5 := Kept.mk (HB3.out.trans (hb5.mono HB3.out.size))
      clear hb5
      go_wp2_with fail
      go_returns
      exact ⟨rfl, HB5.out⟩
end Go.Proofs.Ytlckgloaknjcgaa
