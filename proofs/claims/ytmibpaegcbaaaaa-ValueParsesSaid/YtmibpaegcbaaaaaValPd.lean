/- Layer 5's reference (value): the byte that is written at a text's beginning: walked. -/
import Derived.Test.YtmibpaegcbaaaaaValPa
import Derived.Test.YtmibpaegcbaaaaaValSj
import Derived.BigQuiet
namespace Go.Proofs.Ytmibpaegcbaaaaa
open Go.RowKit
set_option linter.unusedVariables false
set_option linter.unusedSimpArgs false

abbrev codeV (q : UInt8 × Nat) : Value := .tuple #[.int .u8 (q.1.toNat : Int), .int .i64 (q.2 : Int)]
theorem codeB_hit (x y : UInt8) (r : Bs) (b : Nat) (hb : b < 256) (h1 : x = digN (b / 16)) (h2 : y = digN (b % 16)) : codeB (92 :: x :: y :: r) = (UInt8.ofNat b, 3) := by
  have e1 := hex_dig (b / 16) (by omega)
  have e2 := hex_dig (b % 16) (by omega)
  rw [← h1] at e1
  rw [← h2] at e2
  have hx : hexN x ≤ 15 := by omega
  have hy : hexN y ≤ 15 := by omega
  have : byteN (b / 16) (b % 16) = UInt8.ofNat b := by unfold byteN; rw [Nat.div_add_mod]
  simp only [codeB, ne_eq, not_true, if_false]
  rw [if_pos ⟨hx, hy⟩, e1, e2, this]
theorem codeB_miss (x y : UInt8) (r : Bs) (h : ∀ j, j < 256 → ¬ (x = digN (j / 16) ∧ y = digN (j % 16))) : codeB (92 :: x :: y :: r) = (0, 0) := by
  by_cases hx : hexN x ≤ 15
  · by_cases hy : hexN y ≤ 15
    · refine absurd ⟨?_, ?_⟩ (h (16 * hexN x + hexN y) (by omega))
      · rw [show (16 * hexN x + hexN y) / 16 = hexN x by omega, dig_hex x hx]
      · rw [show (16 * hexN x + hexN y) % 16 = hexN y by omega, dig_hex y hy]
    · simp [codeB, hy]
  · simp [codeB, hx]
def CdI (x y : UInt8) (w : World) (v4 : Value) (wr : World) : Prop := ∃ (i m : Nat), v4 = .int .i64 (i : Int) ∧ wr = w.drewN m ∧ Kept (i ≤ 256 ∧ ∀ j, j < i → ¬ (x = digN (j / 16) ∧ y = digN (j % 16)))
set_option maxRecDepth 100000 in
set_option maxHeartbeats 1000000 in
theorem code_any (s : ByteArray) (h0 : 0 < s.size) (w : World) :
    Calls Try.prog 35 #[.string s] w (fun e w' => e = .returned (codeV (codeB (tx s))) ∧ ∃ n, w' = w.drewN n) := by
  obtain ⟨t, ht, ht2⟩ := tx_cons s h0
  have q92 := u8_eq (b := s[0]) (c := 92)
  by_cases c : s[0] = 92
  · have q : ((s[0].toNat : Int) == 92) = true := by have h := q92; rw [decide_eq_true c] at h; exact h
    have q' : ((s[0].toNat : Int) != 92) = false := by rw [bne, q]; rfl
    have hl := tx_len s
    rw [ht, List.length_cons] at hl
    by_cases c3 : s.size < 3
    · have hv : Kept (codeB (tx s) = (0, 0)) := ⟨by
        rw [ht, c]
        match t, hl with
        | [], _ => rfl
        | [_], _ => rfl
        | _ :: _ :: _, hl => simp at hl; omega⟩
      have c3' : (s.size : Int) < 3 := by omega
      clear hl ht ht2 q92 c c3
      go_enter Try.func35, Try.ntmps35
      go_wp2_with fail
      go_returns
      exact ⟨by rw [hv.out]; rfl, 0, rfl⟩
    · have c3' : ¬ ((s.size : Int) < 3) := by omega
      have b1 : 1 < s.size := by omega
      have b2 : 2 < s.size := by omega
      have hT : tx s = (92 : UInt8) :: s[1] :: s[2] :: (tx s).drop 3 := by
        have e0 := tx_dropc s 0 h0
        have e1 := tx_dropc s 1 b1
        have e2 := tx_dropc s 2 b2
        rw [List.drop_zero] at e0
        rw [e0, c, e1, e2]
        simp
      have HIT : Kept (∀ b : Nat, b < 256 → s[1] = digN (b / 16) → s[2] = digN (b % 16) → codeB (tx s) = (UInt8.ofNat b, 3)) := ⟨fun b hb h1 h2 => by rw [hT]; exact codeB_hit _ _ _ b hb h1 h2⟩
      have MISS : Kept ((∀ j, j < 256 → ¬ (s[1] = digN (j / 16) ∧ s[2] = digN (j % 16))) → codeB (tx s) = (0, 0)) := ⟨fun h => by rw [hT]; exact codeB_miss _ _ _ h⟩
      have b1' : 1 < (s.size : Int) := by omega
      have b2' : 2 < (s.size : Int) := by omega
      clear hl ht ht2 q92 c c3 hT
      go_enter Try.func35, Try.ntmps35
      go_wp2_with fail
      go_loopw [4] (fun v4 wr => CdI s[1] s[2] w v4 wr) (fun v4 wr => 256 - (intOf v4).toNat)
      case atStart => exact ⟨0, 0, rfl, rfl, ⟨by omega, fun j hj => absurd hj (by omega)⟩⟩
      case round =>
        obtain ⟨i, m, rfl, rfl, HI⟩ := hrel
        by_cases ci : i < 256
        · have ci' : (i : Int) < 256 := by omega
          have f0 : 0 ≤ (i : Int) := by omega
          have hw : wrap64 ((i : Int) + 1) = (i : Int) + 1 := by simp only [wrap64]; omega
          have k3 := fun wx => index_hex .i64 (i / 16) (by omega) wx
          have k4 := fun wx => index_hex .i64 (i % 16) (by omega) wx
          have n1 : ((i / 16 : Nat) : Int) = (i : Int) / 16 := by omega
          have n2 : ((i % 16 : Nat) : Int) = (i : Int) % 16 := by omega
          rw [n1] at k3
          rw [n2] at k4
          have q1 := u8_eq (b := s[1]) (c := digN (i / 16))
          have q2 := u8_eq (b := s[2]) (c := digN (i % 16))
          have HCI := Kept.mk ci
          clear n1 n2 ci
          by_cases e1 : s[1] = digN (i / 16)
          · rw [decide_eq_true e1] at q1
            by_cases e2 : s[2] = digN (i % 16)
            · rw [decide_eq_true e2] at q2
              have hv : Kept (codeB (tx s) = (UInt8.ofNat i, 3)) := ⟨HIT.out i HCI.out e1 e2⟩
              have hu : IntKind.u8.wrap (i : Int) = (i : Int) := by have := HCI.out; simp only [IntKind.wrap, IntKind.bits, IntKind.signed]; simp; omega
              have HU := Kept.mk hu
              have hn : Kept (((UInt8.ofNat i).toNat : Int) = (i : Int)) := ⟨by have := HCI.out; rw [UInt8.toNat_ofNat']; omega⟩
              clear e1 e2
              go_upto_region 8 with fail
              go_quiet (fail)
              go_wp2_with fail
              go_returns
              refine ⟨?_, _, rfl⟩
              rw [hv.out]
              show _ = Ending.returned (.tuple #[.int .u8 ((UInt8.ofNat i).toNat : Int), .int .i64 3])
              rw [hn.out]
              first | rfl | (rw [← HU.out]; rfl)
            · rw [decide_eq_false e2] at q2
              have HE := Kept.mk e2
              clear e1 e2
              go_upto_region 8 with fail
              go_quiet (fail)
              go_wp2_with fail
              go_roundw
              case rel =>
                refine ⟨i + 1, _, by first | rfl | (rw [hw]; rfl), rfl, ⟨HCI.out, fun j hj => ?_⟩⟩
                rcases Nat.lt_or_ge j i with h | h
                · exact HI.out.2 j h
                · rw [show j = i by omega]; exact fun h => HE.out h.2
              case measure => first | exact less_step hw HCI.out | (have := HCI.out; simp only [intOf]; omega)
          · rw [decide_eq_false e1] at q1
            have HE := Kept.mk e1
            clear e1
            go_upto_region 8 with fail
            go_quiet (fail)
            go_wp2_with fail
            go_roundw
            case rel =>
              refine ⟨i + 1, _, by first | rfl | (rw [hw]; rfl), rfl, ⟨HCI.out, fun j hj => ?_⟩⟩
              rcases Nat.lt_or_ge j i with h | h
              · exact HI.out.2 j h
              · rw [show j = i by omega]; exact fun h => HE.out h.1
            case measure => first | exact less_step hw HCI.out | (have := HCI.out; simp only [intOf]; omega)
        · have ci' : ¬ ((i : Int) < 256) := by omega
          have hv : Kept (codeB (tx s) = (0, 0)) := ⟨MISS.out (fun j hj => HI.out.2 j (by omega))⟩
          clear ci
          go_wp2_with fail
          go_returns
          exact ⟨by rw [hv.out]; rfl, m, rfl⟩
  · have q : ((s[0].toNat : Int) == 92) = false := by have h := q92; rw [decide_eq_false c] at h; exact h
    have q' : ((s[0].toNat : Int) != 92) = true := by rw [bne, q]; rfl
    have hv : Kept (codeB (tx s) = (s[0], 1)) := ⟨by rw [ht]; simp [codeB, c]⟩
    clear ht ht2 q92 c
    go_enter Try.func35, Try.ntmps35
    go_wp2_with fail
    go_returns
    exact ⟨by rw [hv.out]; rfl, 0, rfl⟩
end Go.Proofs.Ytmibpaegcbaaaaa
