/- LexBack: the walk. -/
import Derived.Test.YtlckgloaknjcgaaLexG
import Derived.Test.YtlckgloaknjcgaaLexH
namespace Go.Proofs.Ytlckgloaknjcgaa
open Go.RowKit
set_option linter.unusedVariables false
set_option linter.unusedSimpArgs false

def BkI (ts : List Tok) (w : World) (i : Nat) (wr : World) : Prop :=
  i ≤ ts.length ∧ Below w.heap.size w wr ∧ ∀ t ∈ ts.take i, mayB t.1 t.2 = true
def BkJ (ts : List Tok) (w : World) (v3 : Value) (wr : World) : Prop := ∃ i : Nat, v3 = .int .i64 (i : Int) ∧ Kept (BkI ts w i wr)

set_option maxRecDepth 100000 in
set_option maxHeartbeats 2000000 in
theorem LexBack_any (v : Value) (ts : List Tok) (w : World) (H : HasT w v ts) (hj : jl (texts ts) + ts.length ≤ 2097152) :
    Calls Try.prog 6 #[v] w (fun e w' => e = .returned (.bool true) ∧ Below w.heap.size w w') := by
  have HT := Kept.mk H
  obtain ⟨A, c, rfl, hA⟩ := H
  have HA := Kept.mk hA
  have HJ := Kept.mk hj
  clear hA hj
  go_enter Try.func6, Try.ntmps6
  go_wp2_with fail
  go_loopw [3] (fun v3 wr => BkJ ts w v3 wr) (fun v3 wr => ts.length - (intOf v3).toNat)
  case atStart => exact ⟨0, rfl, ⟨⟨Nat.zero_le _, Below.refl _ _, by simp⟩⟩⟩
  case round =>
    obtain ⟨i, rfl, HI⟩ := hrel
    obtain ⟨hi, hBe, hAll⟩ := HI.out
    have HBE := Kept.mk hBe
    have HAL := Kept.mk hAll
    clear HI hAll
    by_cases ci : i < ts.length
    · have hne : ts ≠ [] := by rintro rfl; simp at ci
      obtain ⟨b1, o1, rfl, hb1, hc1⟩ := HA.out hne
      obtain ⟨e0, e1⟩ := hc1 i ci
      rw [← World.cell?_of_block (w' := wr) (hBe.block b1 hb1)] at e0 e1
      have htake : ts.take (i + 1) = ts.take i ++ [ts[i]] := by rw [List.take_add_one, List.getElem?_eq_getElem ci]; rfl
      have hjt := jl_take ts i ci
      have HTK := Kept.mk htake
      generalize ts[i] = t at e0 e1 HTK hjt
      obtain ⟨k, l⟩ := t
      simp only at e0 e1 hjt
      have hls : (bs l).size ≤ 4194304 := by rw [bs_size]; have := HJ.out; omega
      have HLS := Kept.mk hls
      have ci' : (i : Int) < (ts.length : Int) := by omega
      have f0 : 0 ≤ (i : Int) := by omega
      have hw : wrap64 ((i : Int) + 1) = (i : Int) + 1 := by have := HJ.out; simp only [wrap64]; omega
      have HCI := Kept.mk ci
      clear hc1 hne hjt hi hBe htake hls
      cases hm : mayB k l with
      | true =>
        have HM := Kept.mk hm
        go_wp2_with (first | (go_at_call 11; refine (pMay_any k (bs l) HLS.out _).mono ?_; rintro e w5 ⟨rfl, hb5⟩; rewrite [tx_bs]; rewrite [hm]; have HB5 := Kept.mk (HBE.out.trans (hb5.mono HBE.out.size)); clear hb5))
        go_roundw
        case rel =>
          refine ⟨i + 1, by rw [hw]; rfl, ⟨⟨HCI.out, HB5.out, ?_⟩⟩⟩
          rw [HTK.out]
          intro t ht
          simp only [List.mem_append, List.mem_singleton] at ht
          rcases ht with ht | rfl
          · exact HAL.out t ht
          · exact HM.out
        case measure => exact less_step hw HCI.out
      | false =>
        go_wp2_with (first | (go_at_call 11; refine (pMay_any k (bs l) HLS.out _).mono ?_; rintro e w5 ⟨rfl, hb5⟩; rewrite [tx_bs]; rewrite [hm]; have HB5 := Kept.mk (HBE.out.trans (hb5.mono HBE.out.size)); clear hb5) | (go_at_call 7; refine (live_any _).mono ?_; rintro e w6 ⟨rfl, hb6⟩; have HB6 := Kept.mk (HB5.out.trans (hb6.mono HB5.out.size)); clear hb6))
        go_returns
        exact ⟨rfl, HB6.out⟩
    · have hie : ts.take i = ts := List.take_of_length_le (by omega)
      have hal := HAL.out
      rw [hie] at hal
      have HS := Kept.mk (split_join ts hal)
      have ci' : ¬ ((i : Int) < (ts.length : Int)) := by omega
      have HTr := Kept.mk (HT.out.below HBE.out)
      clear ci hBe hal hie hi
      go_wp2_with fail
      go_at_call 13
      refine (join_any _ ts _ HTr.out (by have := HJ.out; omega) (by have := HJ.out; omega)).mono ?_
      rintro e w3 ⟨rfl, hb3⟩
      have HT3 := Kept.mk (HTr.out.below hb3)
      have HB3 := Kept.mk (HBE.out.trans (hb3.mono HBE.out.size))
      clear hb3
      go_wp2_with fail
      go_at_call 8
      refine (split_any _ (by rw [bs_size]; have := join_len (texts ts); have := HJ.out; omega) _).mono ?_
      rintro e w4 hS4
      obtain ⟨hb4, v4, rfl, hT4⟩ := hS4.ok (by rw [tx_bs]; exact HS.out)
      have HT4 := Kept.mk (HT3.out.below hb4)
      have HM4 := Kept.mk hT4
      have HB4 := Kept.mk (HB3.out.trans (hb4.mono HB3.out.size))
      obtain ⟨B, d, rfl, _⟩ := hT4
      clear hb4 hS4
      go_wp2_with fail
      go_at_call 7
      refine (live_any _).mono ?_
      rintro e w5 ⟨rfl, hb5⟩
      have HT5 := Kept.mk (HT4.out.below hb5)
      have HM5 := Kept.mk (HM4.out.below hb5)
      have HB5 := Kept.mk (HB4.out.trans (hb5.mono HB4.out.size))
      clear hb5
      go_wp2_with fail
      go_at_call 16
      refine (same_any _ _ ts (by have := HJ.out; omega) _ HT5.out HM5.out).mono ?_
      rintro e w6 ⟨rfl, hb6⟩
      have HB6 := Kept.mk (HB5.out.trans (hb6.mono HB5.out.size))
      clear hb6
      go_wp2_with fail
      go_returns
      exact ⟨rfl, HB6.out⟩
end Go.Proofs.Ytlckgloaknjcgaa
