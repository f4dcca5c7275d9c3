/- Layer 19 (lex): the reference's tokens of the kinds 1, 2, 3, walked. -/
import Derived.Test.YtlckgloaknjcgaaLexM
namespace Go.Proofs.Ytlckgloaknjcgaa
open Go.RowKit
set_option linter.unusedVariables false
set_option linter.unusedSimpArgs false

def AllI (p : UInt8 → Bool) (l : Bs) (v5 : Value) (wr w : World) : Prop := ∃ i : Nat, v5 = .int .i64 (i : Int) ∧ wr = w ∧ Kept (i ≤ runB p l)

set_option maxRecDepth 100000 in
set_option maxHeartbeats 1000000 in
theorem rMay1 (s : ByteArray) (h0 : 0 < s.size) (hs : s.size ≤ 140737488355328) (w : World) :
    Calls Try.prog 14 #[.agg #[.int .i64 1, .string s]] w (fun e w' => e = .returned (.bool (mayB 1 (tx s))) ∧ Below w.heap.size w w') := by
  have hne := tx_ne s (by omega)
  have d0 : ((s.size : Int) == 0) = false := by rw [beq_eq_false_iff_ne]; omega
  have hr := run_le isA (tx s)
  rw [tx_len] at hr
  have HR := Kept.mk hr
  have HS := Kept.mk hs
  clear hr hs
  have hm : mayB 1 (tx s) = (isL s[0] && (tx s).all isA) := by
    obtain ⟨t, ht, _⟩ := tx_cons s h0
    unfold mayB
    rw [if_neg hne, if_neg (by decide), if_neg (by decide), if_pos rfl, ht]
  rw [all_run, tx_len] at hm
  have HM := Kept.mk hm
  clear hm hne
  go_enter Try.func14, Try.ntmps14
  cases hl : isL s[0] with
  | false =>
    have hv : Kept (mayB 1 (tx s) = false) := ⟨by rw [HM.out, hl]; rfl⟩
    go_wp2_with (first | (go_at_call 23; refine (rdigit_any _ _).mono ?_; rintro e w1 ⟨rfl, rfl⟩; rewrite [hl]) | (go_at_call 22; refine (rletter_any _ _).mono ?_; rintro e w1 ⟨rfl, rfl⟩; rewrite [hl]))
    go_ret
    exact ⟨by rw [hv.out]; rfl, (Below.refl _ _).alloc (Nat.le_refl _) _⟩
  | true =>
    have HV : Kept (mayB 1 (tx s) = decide (runB isA (tx s) = s.size)) := ⟨by rw [HM.out, hl]; simp⟩
    go_wp2_with (first | (go_at_call 23; refine (rdigit_any _ _).mono ?_; rintro e w1 ⟨rfl, rfl⟩; rewrite [hl]) | (go_at_call 22; refine (rletter_any _ _).mono ?_; rintro e w1 ⟨rfl, rfl⟩; rewrite [hl]))
    obtain ⟨wz, hwz⟩ : ∃ wz, wz = w.alloc (.cells #[.int .i64 1, .string s] 37) := ⟨_, rfl⟩
    have hB : Kept (Below w.heap.size w wz) := ⟨by rw [hwz]; exact (Below.refl _ _).alloc (Nat.le_refl _) _⟩
    have hc0 : wz.cell? ⟨w.heap.size, 0, none⟩ = some (.int .i64 1) := by rw [hwz]; simp [go_sem]
    rewrite [← hwz]
    clear hwz
    go_loopw [5] (fun v5 wr => AllI isA (tx s) v5 wr wz) (fun v5 wr => s.size - (intOf v5).toNat)
    case atStart => exact ⟨0, rfl, rfl, ⟨Nat.zero_le _⟩⟩
    case round =>
      obtain ⟨i, rfl, rfl, HI⟩ := hrel
      by_cases ci : i < s.size
      · have hb := run_at isA (tx s) i HI.out s[i] (tx_get s i ci)
        have ci' : (i : Int) < (s.size : Int) := by omega
        have hw : wrap64 ((i : Int) + 1) = (i : Int) + 1 := by have := HS.out; simp only [wrap64]; omega
        have f0 : 0 ≤ (i : Int) := by omega
        by_cases cr : i < runB isA (tx s)
        · have hb' : isA s[i] = true := hb.2 cr
          have HC := Kept.mk cr
          clear hb cr
          cases hd : isD s[i] with
          | true =>
            clear hb'
            go_wp2_with (first | (go_at_call 23; refine (rdigit_any _ _).mono ?_; rintro e w1 ⟨rfl, rfl⟩; rewrite [hd]) | (go_at_call 22; refine (rletter_any _ _).mono ?_; rintro e w1 ⟨rfl, rfl⟩; skip))
            go_roundw
            case rel => exact ⟨i + 1, by rw [hw]; rfl, rfl, ⟨HC.out⟩⟩
            case measure => exact less_step hw ci
          | false =>
            have hl2 : isL s[i] = true := by
              have h := hb'
              unfold isA at h
              rw [hd] at h
              simpa using h
            clear hb'
            go_wp2_with (first | (go_at_call 23; refine (rdigit_any _ _).mono ?_; rintro e w1 ⟨rfl, rfl⟩; rewrite [hd]) | (go_at_call 22; refine (rletter_any _ _).mono ?_; rintro e w1 ⟨rfl, rfl⟩; rewrite [hl2]))
            go_roundw
            case rel => exact ⟨i + 1, by rw [hw]; rfl, rfl, ⟨HC.out⟩⟩
            case measure => exact less_step hw ci
        · have hb' : isA s[i] = false := by cases e : isA s[i] with | false => rfl | true => exact absurd (hb.1 e) cr
          have he : Kept (mayB 1 (tx s) = false) := ⟨by rw [HV.out]; have := HI.out; simp; omega⟩
          clear hb cr
          have h3 : isL s[i] = false ∧ isD s[i] = false := by
            unfold isA at hb'
            simpa using hb'
          obtain ⟨hl2, hd⟩ := h3
          clear hb'
          go_wp2_with (first | (go_at_call 23; refine (rdigit_any _ _).mono ?_; rintro e w1 ⟨rfl, rfl⟩; rewrite [hd]) | (go_at_call 22; refine (rletter_any _ _).mono ?_; rintro e w1 ⟨rfl, rfl⟩; rewrite [hl2]))
          go_returns
          exact ⟨by rw [he.out]; rfl, hB.out⟩
      · have he : Kept (mayB 1 (tx s) = true) := ⟨by rw [HV.out]; have := HI.out; have := HR.out; simp; omega⟩
        have ci' : ¬ ((i : Int) < (s.size : Int)) := by omega
        clear ci
        go_wp2_with fail
        go_returns
        exact ⟨by rw [he.out]; rfl, hB.out⟩

set_option maxRecDepth 100000 in
set_option maxHeartbeats 1000000 in
theorem rMay2 (s : ByteArray) (h0 : 0 < s.size) (hs : s.size ≤ 140737488355328) (w : World) :
    Calls Try.prog 14 #[.agg #[.int .i64 2, .string s]] w (fun e w' => e = .returned (.bool (mayB 2 (tx s))) ∧ Below w.heap.size w w') := by
  have hne := tx_ne s (by omega)
  have d0 : ((s.size : Int) == 0) = false := by rw [beq_eq_false_iff_ne]; omega
  have hr := run_le isD (tx s)
  rw [tx_len] at hr
  have HR := Kept.mk hr
  have HS := Kept.mk hs
  clear hr hs
  have HV : Kept (mayB 2 (tx s) = decide (runB isD (tx s) = s.size)) := ⟨by
    unfold mayB
    rw [if_neg hne, if_neg (by decide), if_neg (by decide), if_neg (by decide), if_pos rfl, all_run, tx_len]⟩
  clear hne
  go_enter Try.func14, Try.ntmps14
  go_wp2_with fail
  obtain ⟨wz, hwz⟩ : ∃ wz, wz = w.alloc (.cells #[.int .i64 2, .string s] 37) := ⟨_, rfl⟩
  have hB : Kept (Below w.heap.size w wz) := ⟨by rw [hwz]; exact (Below.refl _ _).alloc (Nat.le_refl _) _⟩
  have hc0 : wz.cell? ⟨w.heap.size, 0, none⟩ = some (.int .i64 2) := by rw [hwz]; simp [go_sem]
  rewrite [← hwz]
  clear hwz
  go_loopw [5] (fun v5 wr => AllI isD (tx s) v5 wr wz) (fun v5 wr => s.size - (intOf v5).toNat)
  case atStart => exact ⟨0, rfl, rfl, ⟨Nat.zero_le _⟩⟩
  case round =>
    obtain ⟨i, rfl, rfl, HI⟩ := hrel
    by_cases ci : i < s.size
    · have hb := run_at isD (tx s) i HI.out s[i] (tx_get s i ci)
      have ci' : (i : Int) < (s.size : Int) := by omega
      have hw : wrap64 ((i : Int) + 1) = (i : Int) + 1 := by have := HS.out; simp only [wrap64]; omega
      have f0 : 0 ≤ (i : Int) := by omega
      by_cases cr : i < runB isD (tx s)
      · have hb' : isD s[i] = true := hb.2 cr
        have HC := Kept.mk cr
        clear hb cr
        go_wp2_with (first | (go_at_call 23; refine (rdigit_any _ _).mono ?_; rintro e w1 ⟨rfl, rfl⟩; rewrite [hb']) | (go_at_call 22; refine (rletter_any _ _).mono ?_; rintro e w1 ⟨rfl, rfl⟩; rewrite [hb']))
        go_roundw
        case rel => exact ⟨i + 1, by rw [hw]; rfl, rfl, ⟨HC.out⟩⟩
        case measure => exact less_step hw ci
      · have hb' : isD s[i] = false := by cases e : isD s[i] with | false => rfl | true => exact absurd (hb.1 e) cr
        have he : Kept (mayB 2 (tx s) = false) := ⟨by rw [HV.out]; have := HI.out; simp; omega⟩
        clear hb cr
        go_wp2_with (first | (go_at_call 23; refine (rdigit_any _ _).mono ?_; rintro e w1 ⟨rfl, rfl⟩; rewrite [hb']) | (go_at_call 22; refine (rletter_any _ _).mono ?_; rintro e w1 ⟨rfl, rfl⟩; rewrite [hb']))
        go_returns
        exact ⟨by rw [he.out]; rfl, hB.out⟩
    · have he : Kept (mayB 2 (tx s) = true) := ⟨by rw [HV.out]; have := HI.out; have := HR.out; simp; omega⟩
      have ci' : ¬ ((i : Int) < (s.size : Int)) := by omega
      clear ci
      go_wp2_with fail
      go_returns
      exact ⟨by rw [he.out]; rfl, hB.out⟩

def NQ (b : UInt8) : Bool := b != 39
def QI (t : Bs) (v4 : Value) (wr w : World) : Prop := ∃ i : Nat, v4 = .int .i64 (i : Int) ∧ wr = w ∧ Kept (1 ≤ i) ∧ Kept (i - 1 ≤ runB NQ t)
theorem may3' (t : Bs) : mayB 3 (39 :: t) = (decide (1 ≤ t.length) && (t[t.length - 1]? == some 39) && decide (t.length - 1 ≤ runB NQ t)) := by
  have h := may3 t.length t (Nat.le_refl _)
  rw [List.take_length] at h
  rw [h]
  congr 1
  have hr := run_le NQ t
  by_cases c : t.length - 1 ≤ runB NQ t
  · have h2 := run_all NQ t
    have h3 : (t.take (t.length - 1)).all NQ = true := by
      rw [List.all_eq_true] at h2 ⊢
      intro x hx
      refine h2 x ?_
      have e : t.take (t.length - 1) = (t.take (runB NQ t)).take (t.length - 1) := by rw [List.take_take, Nat.min_eq_left c]
      rw [e] at hx
      exact List.mem_of_mem_take hx
    show (t.take (t.length - 1)).all NQ = _
    rw [h3]; simp [c]
  · have h3 := run_stop NQ t (t.length - 1) (by omega) (by omega)
    show (t.take (t.length - 1)).all NQ = _
    rw [h3]; simp [c]
theorem u8_39 (b : UInt8) : ((b.toNat : Int) == 39) = decide (b = 39) := u8_eq (c := 39)


set_option maxRecDepth 100000 in
set_option maxHeartbeats 1000000 in
theorem rMay3 (s : ByteArray) (h0 : 0 < s.size) (hs : s.size ≤ 140737488355328) (w : World) :
    Calls Try.prog 14 #[.agg #[.int .i64 3, .string s]] w (fun e w' => e = .returned (.bool (mayB 3 (tx s))) ∧ Below w.heap.size w w') := by
  obtain ⟨t, ht, ht2⟩ := tx_cons s h0
  have d0 : ((s.size : Int) == 0) = false := by rw [beq_eq_false_iff_ne]; omega
  have hlen := tx_len s
  have hg : ∀ i, (hi : i < s.size) → 0 < i → t[i - 1]? = some s[i] := by
    intro i hi hp
    have h := tx_get s i hi
    rw [ht] at h
    obtain ⟨k, rfl⟩ : ∃ k, i = k + 1 := ⟨i - 1, by omega⟩
    simpa using h
  have HG := Kept.mk hg
  have HT := Kept.mk ht
  have HS := Kept.mk hs
  rw [ht, List.length_cons] at hlen
  have HL := Kept.mk hlen
  clear hg ht hs hlen ht2
  go_enter Try.func14, Try.ntmps14
  by_cases h2 : s.size < 2
  · have he : Kept (mayB 3 (tx s) = false) := ⟨by
      have h := tx_len s
      unfold mayB
      rw [if_neg (tx_ne s (by omega)), if_neg (by decide), if_pos rfl, h]
      simp; omega⟩
    have h2' : (s.size : Int) < 2 := by omega
    clear h2
    go_wp2_with fail
    go_ret
    exact ⟨by rw [he.out]; rfl, (Below.refl _ _).alloc (Nat.le_refl _) _⟩
  · have h2' : ¬ ((s.size : Int) < 2) := by omega
    have hw1 : wrap64 ((s.size : Int) - 1) = ((s.size - 1 : Nat) : Int) := by have := HS.out; simp only [wrap64]; omega
    have fw0 : 0 ≤ ((s.size - 1 : Nat) : Int) := by omega
    have fw1 : s.size - 1 < s.size := by omega
    have q0 := u8_39 s[0]
    have q1 := u8_39 (s[s.size - 1]'fw1)
    have HF := Kept.mk fw1
    by_cases c0 : s[0] = 39
    · rw [decide_eq_true c0] at q0
      have p0 := eq_of_beq q0
      have ht := HT.out
      rw [c0] at ht
      have HM : Kept (mayB 3 (tx s) = ((t[t.length - 1]? == some 39) && decide (t.length - 1 ≤ runB NQ t))) := ⟨by
        rw [ht, may3']
        have := HL.out
        rw [decide_eq_true (by omega : 1 ≤ t.length), Bool.true_and]⟩
      have hla := HG.out (s.size - 1) fw1 (by omega)
      rw [show s.size - 1 - 1 = t.length - 1 by have := HL.out; omega] at hla
      have HLA := Kept.mk hla
      clear ht hla c0
      by_cases c1 : (s[s.size - 1]'fw1) = 39
      · rw [decide_eq_true c1] at q1
        have p1 := eq_of_beq q1
        have HV : Kept (mayB 3 (tx s) = decide (t.length - 1 ≤ runB NQ t)) := ⟨by rw [HM.out, HLA.out, c1]; simp⟩
        clear c1 h2
        have HR := Kept.mk (run_le NQ t)
        go_wp2_with fail
        obtain ⟨wz, hwz⟩ : ∃ wz, wz = w.alloc (.cells #[.int .i64 3, .string s] 37) := ⟨_, rfl⟩
        have hB : Kept (Below w.heap.size w wz) := ⟨by rw [hwz]; exact (Below.refl _ _).alloc (Nat.le_refl _) _⟩
        rewrite [← hwz]
        clear hwz
        go_loopw [4] (fun v4 wr => QI t v4 wr wz) (fun v4 wr => s.size - (intOf v4).toNat)
        case atStart => exact ⟨1, rfl, rfl, ⟨Nat.le_refl _⟩, ⟨Nat.zero_le _⟩⟩
        case round =>
          obtain ⟨i, rfl, rfl, H1, HI⟩ := hrel
          by_cases ci : i < s.size - 1
          · have ci2 : i < s.size := by omega
            have hb := run_at NQ t (i - 1) HI.out s[i] (HG.out i ci2 H1.out)
            have qi := u8_39 s[i]
            have ci' : (i : Int) < ((s.size - 1 : Nat) : Int) := by omega
            have hw : wrap64 ((i : Int) + 1) = (i : Int) + 1 := by have := HS.out; simp only [wrap64]; omega
            have f0 : 0 ≤ (i : Int) := by omega
            have f1 : (i : Int) < (s.size : Int) := by omega
            by_cases cr : s[i] = 39
            · rw [decide_eq_true cr] at qi
              have he : Kept (mayB 3 (tx s) = false) := ⟨by
                rw [HV.out]
                have hn : ¬ (i - 1 < runB NQ t) := fun h => by have := hb.2 h; rw [cr] at this; exact absurd this (by decide)
                have := HI.out
                have := HL.out
                have := H1.out
                simp; omega⟩
              clear hb cr
              go_wp2_with fail
              go_returns
              exact ⟨by rw [he.out]; rfl, hB.out⟩
            · rw [decide_eq_false cr] at qi
              have hlt : i - 1 < runB NQ t := hb.1 (by simpa [NQ] using cr)
              have HLT := Kept.mk hlt
              clear hb cr hlt
              go_wp2_with fail
              go_roundw
              case rel => exact ⟨i + 1, by rw [hw]; rfl, rfl, ⟨by omega⟩, ⟨by have := HLT.out; have := H1.out; omega⟩⟩
              case measure => exact less_step hw ci2
          · have he : Kept (mayB 3 (tx s) = true) := ⟨by rw [HV.out]; have := HI.out; have := HL.out; simp; omega⟩
            have ci' : ¬ ((i : Int) < ((s.size - 1 : Nat) : Int)) := by omega
            clear ci
            go_wp2_with fail
            go_returns
            exact ⟨by rw [he.out]; rfl, hB.out⟩
      · rw [decide_eq_false c1] at q1
        have p1 := ne_of_beq_false q1
        have he : Kept (mayB 3 (tx s) = false) := ⟨by rw [HM.out, HLA.out]; simp [c1]⟩
        clear c1 h2
        go_wp2_with fail
        go_ret
        exact ⟨by rw [he.out]; rfl, (Below.refl _ _).alloc (Nat.le_refl _) _⟩
    · rw [decide_eq_false c0] at q0
      have p0 := ne_of_beq_false q0
      have he : Kept (mayB 3 (tx s) = false) := ⟨by
        cases h : mayB 3 (tx s) with
        | false => rfl
        | true =>
          rw [HT.out] at h
          have hk := may_kind h
          unfold headKind at hk
          split at hk
          · exact absurd hk (by decide)
          · split at hk
            · exact absurd hk (by decide)
            · exact absurd hk (by decide)⟩
      clear c0 h2
      go_wp2_with fail
      go_ret
      exact ⟨by rw [he.out]; rfl, (Below.refl _ _).alloc (Nat.le_refl _) _⟩
theorem rMay_any (k : Int) (s : ByteArray) (hs : s.size ≤ 140737488355328) (w : World) :
    Calls Try.prog 14 #[.agg #[.int .i64 k, .string s]] w (fun e w' => e = .returned (.bool (mayB k (tx s))) ∧ Below w.heap.size w w') := by
  rcases Nat.eq_zero_or_pos s.size with h0 | h0
  · exact rMay0 k s h0 w
  · by_cases h1 : k = 1
    · subst h1; exact rMay1 s h0 hs w
    · by_cases h2 : k = 2
      · subst h2; exact rMay2 s h0 hs w
      · by_cases h3 : k = 3
        · subst h3; exact rMay3 s h0 hs w
        · by_cases h4 : k = 4
          · subst h4; exact rMay4 s h0 hs w
          · exact rMayO s h0 hs k h1 h2 h3 h4 w
end Go.Proofs.Ytlckgloaknjcgaa
