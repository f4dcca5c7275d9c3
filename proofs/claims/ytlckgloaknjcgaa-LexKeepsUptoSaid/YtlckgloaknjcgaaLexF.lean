/- Layer 19 (lex): what a text begins with, walked. -/
import Derived.Test.YtlckgloaknjcgaaLexW
namespace Go.Proofs.Ytlckgloaknjcgaa
open Go.RowKit
set_option linter.unusedVariables false
set_option linter.unusedSimpArgs false

def firstR (s : ByteArray) : Value := match firstB (tx s) with
  | .ok (k, n) => .tuple #[.agg #[.int .i64 (k : Int), .string (s.extract 0 n)], .int .i64 0]
  | .error e => .tuple #[.agg #[.int .i64 0, .string ⟨#[]⟩], .int .i64 e]
theorem firstR_ok {s : ByteArray} {k n : Nat} (h : firstB (tx s) = .ok (k, n)) : firstR s = .tuple #[.agg #[.int .i64 (k : Int), .string (s.extract 0 n)], .int .i64 0] := by unfold firstR; rw [h]
theorem firstR_err {s : ByteArray} {e : Int} (h : firstB (tx s) = .error e) : firstR s = .tuple #[.agg #[.int .i64 0, .string ⟨#[]⟩], .int .i64 e] := by unfold firstR; rw [h]
theorem tx_cons (s : ByteArray) (h0 : 0 < s.size) : ∃ t, tx s = s[0] :: t ∧ tx (s.extract 1 s.size) = t := by
  have h := tx_len s
  cases hl : tx s with
  | nil => rw [hl] at h; simp at h; omega
  | cons b t =>
    have := tx_get s 0 h0
    rw [hl] at this
    simp at this
    subst this
    exact ⟨t, rfl, by rw [tx_drop, hl]; rfl⟩

set_option maxRecDepth 100000 in
set_option maxHeartbeats 1000000 in
theorem first_any (s : ByteArray) (h0 : 0 < s.size) (hs : s.size ≤ 140737488355328) (w : World) :
    Calls Try.prog 17 #[.string s] w (fun e w' => e = .returned (firstR s) ∧ Below w.heap.size w w') := by
  obtain ⟨t, ht, ht2⟩ := tx_cons s h0
  have HT := Kept.mk ht
  have HT2 := Kept.mk ht2
  have HS := Kept.mk hs
  have hlen := tx_len s
  rw [ht] at hlen
  have HLEN := Kept.mk hlen
  clear ht ht2 hs hlen
  go_enter Try.func17, Try.ntmps17
  by_cases hl : isL s[0] = true
  · have hf : firstB (tx s) = .ok (1, runB isA (tx s)) := by rw [HT.out]; unfold firstB; simp only [hl, if_true]
    have hr : runB isA (tx s) ≤ s.size := by rw [← tx_len]; exact run_le _ _
    have hp : runB isA (tx s) ≠ 0 := by rw [HT.out, run_pos (by simp [isA, hl])]; omega
    have HF := Kept.mk (firstR_ok hf)
    have d0 : (((runB isA (tx s) : Nat) : Int) == 0) = false := by simp; omega
    clear hf hp
    go_wp2_with (first
      | (go_at_call 25; refine (letter_any _ _).mono ?_; rintro e w1 ⟨rfl, rfl⟩; rewrite [hl])
      | (go_at_call 26; refine (runA_any s HS.out _).mono ?_; rintro e w1 ⟨rfl, rfl⟩))
    go_returns
    exact ⟨by first | (rw [HF.out]; done) | (rw [HF.out]; rfl), (Below.refl _ _).alloc (Nat.le_refl _) _⟩
  · have hl : isL s[0] = false := by simpa using hl
    by_cases hd : isD s[0] = true
    · have hf : firstB (tx s) = .ok (2, runB isD (tx s)) := by rw [HT.out]; unfold firstB; simp [hl, hd]
      have hr : runB isD (tx s) ≤ s.size := by rw [← tx_len]; exact run_le _ _
      have hp : runB isD (tx s) ≠ 0 := by rw [HT.out, run_pos hd]; omega
      have HF := Kept.mk (firstR_ok hf)
      have d0 : (((runB isD (tx s) : Nat) : Int) == 0) = false := by simp; omega
      clear hf hp
      go_wp2_with (first
        | (go_at_call 25; refine (letter_any _ _).mono ?_; rintro e w1 ⟨rfl, rfl⟩; rewrite [hl])
        | (go_at_call 28; refine (digit_any _ _).mono ?_; rintro e w1 ⟨rfl, rfl⟩; rewrite [hd])
        | (go_at_call 26; refine (runD_any s HS.out _).mono ?_; rintro e w1 ⟨rfl, rfl⟩)
        | (go_at_call 29; refine (Try.strings_IndexByte _ _ _).mono ?_; rintro e w1 ⟨rfl, rfl⟩; rewrite [HI.out])
        | (go_at_call 30; refine (sign_any s h0 _).mono ?_; rintro e w1 ⟨rfl, rfl⟩))
      go_returns
      exact ⟨by first | (rw [HF.out]; done) | (rw [HF.out]; rfl), (Below.refl _ _).alloc (Nat.le_refl _) _⟩
    · have hd : isD s[0] = false := by simpa using hd
      by_cases hq : s[0] = 39
      · have hq' : ((s[0].toNat : Int) == 39) = true := by rw [hq]; rfl
        cases hqq : quoteB t with
        | none =>
          have HI : Kept (Lib.indexByte (s.extract 1 s.size).data.toList ((39 : Int).toNat.toUInt8) = -1) := ⟨by
            have h := quote_ix t
            rw [hqq] at h
            rw [← HT2.out] at h
            exact h⟩
          have hf : firstB (tx s) = .error 5 := by rw [HT.out]; unfold firstB; simp only [hl, hd, Bool.false_eq_true, if_false, if_pos hq, hqq]
          have HF := Kept.mk (firstR_err hf)
          clear hf hq hqq
          go_wp2_with (first
            | (go_at_call 25; refine (letter_any _ _).mono ?_; rintro e w1 ⟨rfl, rfl⟩; rewrite [hl])
            | (go_at_call 28; refine (digit_any _ _).mono ?_; rintro e w1 ⟨rfl, rfl⟩; rewrite [hd])
            | (go_at_call 26; refine (runD_any s HS.out _).mono ?_; rintro e w1 ⟨rfl, rfl⟩)
            | (go_at_call 29; refine (Try.strings_IndexByte _ _ _).mono ?_; rintro e w1 ⟨rfl, rfl⟩; rewrite [HI.out])
            | (go_at_call 30; refine (sign_any s h0 _).mono ?_; rintro e w1 ⟨rfl, rfl⟩))
          go_returns
          exact ⟨by first | (rw [HF.out]; done) | (rw [HF.out]; rfl), (Below.refl _ _).alloc (Nat.le_refl _) _⟩
        | some q =>
          have HI : Kept (Lib.indexByte (s.extract 1 s.size).data.toList ((39 : Int).toNat.toUInt8) = (q : Int)) := ⟨by
            have h := quote_ix t
            rw [hqq] at h
            rw [← HT2.out] at h
            exact h⟩
          have hf : firstB (tx s) = .ok (3, q + 2) := by rw [HT.out]; unfold firstB; simp only [hl, hd, Bool.false_eq_true, if_false, if_pos hq, hqq]
          have HF := Kept.mk (firstR_ok hf)
          have hq2 := (quote_some hqq).1
          have hr : q + 2 ≤ s.size := by have h := HLEN.out; simp only [List.length_cons] at h; omega
          have hss := HS.out
          have f0 : 0 ≤ (q : Int) := by omega
          have f1 : ¬ ((q : Int) < 0) := by omega
          have f2 : wrap64 ((q : Int) + 2) = ((q + 2 : Nat) : Int) := by simp only [wrap64]; omega
          have f3 : ((((q + 2 : Nat) : Int)) == 0) = false := by simp; omega
          clear hf hq hqq hss hq2
          go_wp2_with (first
            | (go_at_call 25; refine (letter_any _ _).mono ?_; rintro e w1 ⟨rfl, rfl⟩; rewrite [hl])
            | (go_at_call 28; refine (digit_any _ _).mono ?_; rintro e w1 ⟨rfl, rfl⟩; rewrite [hd])
            | (go_at_call 26; refine (runD_any s HS.out _).mono ?_; rintro e w1 ⟨rfl, rfl⟩)
            | (go_at_call 29; refine (Try.strings_IndexByte _ _ _).mono ?_; rintro e w1 ⟨rfl, rfl⟩; rewrite [HI.out])
            | (go_at_call 30; refine (sign_any s h0 _).mono ?_; rintro e w1 ⟨rfl, rfl⟩))
          go_returns
          exact ⟨by first | (rw [HF.out]; done) | (rw [HF.out]; rfl), (Below.refl _ _).alloc (Nat.le_refl _) _⟩
      · have hq' : ((s[0].toNat : Int) == 39) = false := by
          cases e : ((s[0].toNat : Int) == 39) with
          | false => rfl
          | true =>
            exfalso
            apply hq
            have e2 : s[0].toNat = 39 := by have := eq_of_beq e; omega
            exact UInt8.toNat_inj.1 e2
        by_cases hs0 : signB (tx s) = 0
        · have hf : firstB (tx s) = .error 24 := by rw [HT.out] at hs0 ⊢; unfold firstB; simp only [hl, hd, Bool.false_eq_true, if_false, if_neg hq, hs0, if_true]
          have HF := Kept.mk (firstR_err hf)
          have d0 : (((signB (tx s) : Nat) : Int) == 0) = true := by simp [hs0]
          clear hf hq hs0
          go_wp2_with (first
            | (go_at_call 25; refine (letter_any _ _).mono ?_; rintro e w1 ⟨rfl, rfl⟩; rewrite [hl])
            | (go_at_call 28; refine (digit_any _ _).mono ?_; rintro e w1 ⟨rfl, rfl⟩; rewrite [hd])
            | (go_at_call 26; refine (runD_any s HS.out _).mono ?_; rintro e w1 ⟨rfl, rfl⟩)
            | (go_at_call 29; refine (Try.strings_IndexByte _ _ _).mono ?_; rintro e w1 ⟨rfl, rfl⟩; rewrite [HI.out])
            | (go_at_call 30; refine (sign_any s h0 _).mono ?_; rintro e w1 ⟨rfl, rfl⟩))
          go_returns
          exact ⟨by first | (rw [HF.out]; done) | (rw [HF.out]; rfl), (Below.refl _ _).alloc (Nat.le_refl _) _⟩
        · have hf : firstB (tx s) = .ok (4, signB (tx s)) := by rw [HT.out] at hs0 ⊢; unfold firstB; simp only [hl, hd, Bool.false_eq_true, if_false, if_neg hq, hs0]
          have HF := Kept.mk (firstR_ok hf)
          have hr : signB (tx s) ≤ s.size := by
            have h := long_first s[0] t
            rw [← HT.out, hf] at h
            rw [← tx_len]; exact h.2.1
          have d0 : (((signB (tx s) : Nat) : Int) == 0) = false := by simp [hs0]
          clear hf hq hs0
          go_wp2_with (first
            | (go_at_call 25; refine (letter_any _ _).mono ?_; rintro e w1 ⟨rfl, rfl⟩; rewrite [hl])
            | (go_at_call 28; refine (digit_any _ _).mono ?_; rintro e w1 ⟨rfl, rfl⟩; rewrite [hd])
            | (go_at_call 26; refine (runD_any s HS.out _).mono ?_; rintro e w1 ⟨rfl, rfl⟩)
            | (go_at_call 29; refine (Try.strings_IndexByte _ _ _).mono ?_; rintro e w1 ⟨rfl, rfl⟩; rewrite [HI.out])
            | (go_at_call 30; refine (sign_any s h0 _).mono ?_; rintro e w1 ⟨rfl, rfl⟩))
          go_returns
          exact ⟨by first | (rw [HF.out]; done) | (rw [HF.out]; rfl), (Below.refl _ _).alloc (Nat.le_refl _) _⟩
end Go.Proofs.Ytlckgloaknjcgaa
