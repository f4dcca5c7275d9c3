/- Layer 19 (lex): a text's tokens, as the reference has them, walked. -/
import Derived.Test.YtlckgloaknjcgaaLexS
namespace Go.Proofs.Ytlckgloaknjcgaa
open Go.RowKit
set_option linter.unusedVariables false
set_option linter.unusedSimpArgs false

theorem first_err2 {b : UInt8} {t : Bs} {e : Int} (h : firstB (b :: t) = .error e) : (b = 39 ∧ e = 5) ∨ (b ≠ 39 ∧ e = 24) := by
  unfold firstB at h
  simp only at h
  split at h
  · cases h
  · split at h
    · cases h
    · split at h
      · rename_i hb
        split at h
        · injection h with h; left; exact ⟨hb, h.symm⟩
        · cases h
      · rename_i hb
        split at h
        · injection h with h; right; exact ⟨hb, h.symm⟩
        · cases h
theorem tx_dropc (s : ByteArray) (i : Nat) (hi : i < s.size) : (tx s).drop i = s[i] :: (tx s).drop (i + 1) := by
  have hl : i < (tx s).length := by rw [tx_len]; exact hi
  rw [List.drop_eq_getElem_cons hl]
  have h1 := tx_get s i hi
  rw [List.getElem?_eq_getElem hl] at h1
  injection h1 with h1
  rw [h1]
theorem empty_isE : ((⟨#[]⟩ : ByteArray).toList.isEmpty) = true := by rw [tx_toList]; rfl
theorem notE (s : ByteArray) (h : 0 < s.size) : s.toList.isEmpty = false := by
  rw [tx_toList]
  have := tx_len s
  cases hl : tx s with
  | nil => rw [hl] at this; simp at this; omega
  | cons => rfl
/-- Between two rounds. -/
def SqI (s : ByteArray) (w : World) (i : Nat) (v : Value) (wr : World) : Prop :=
  ∃ acc : List Tok, OwnT wr w.heap.size 37 v acc ∧ Below w.heap.size w wr ∧ acc.length ≤ i ∧ i ≤ s.size ∧ behind acc (splitB ((tx s).drop i)) = splitB (tx s)
def SqJ (s : ByteArray) (w : World) (v5 v4 : Value) (wr : World) : Prop :=
  ∃ i : Nat, v5 = .int .i64 (i : Int) ∧ Kept (SqI s w i v4 wr)

set_option maxRecDepth 100000 in
set_option maxHeartbeats 1000000 in
theorem rsplit_any (s : ByteArray) (hs : s.size ≤ 4194304) (w : World) :
    Calls Try.prog 9 #[.string s] w (SpP 37 w (splitB (tx s))) := by
  have HS := Kept.mk hs
  clear hs
  go_enter Try.func9, Try.ntmps9
  go_wp2_with fail
  go_loopw [4, 5] (fun v4 v5 wr => SqJ s w v5 v4 wr) (fun v4 v5 wr => s.size - (intOf v5).toNat)
  case atStart => exact ⟨0, rfl, ⟨⟨[], OwnT.empty w _ _ (Nat.le_refl _), (Below.refl _ _).alloc (Nat.le_refl _) _, by simp, by simp, behind_nil _⟩⟩⟩
  case round =>
    obtain ⟨i, rfl, HJ⟩ := hrel
    obtain ⟨acc, hO, hB, hl, hi, he⟩ := HJ.out
    clear HJ
    have HO := Kept.mk hO
    have HB := Kept.mk hB
    have HL := Kept.mk hl
    have HI := Kept.mk hi
    have HE := Kept.mk he
    clear hO hB hl hi he
    by_cases ci : i < s.size
    · have ht := tx_dropc s i ci
      have HT := Kept.mk ht
      have q := u8_eq (b := s[i]) (c := 32)
      have q39 := u8_39 s[i]
      have ci' : (i : Int) < (s.size : Int) := by omega
      have f0 : 0 ≤ (i : Int) := by omega
      have hw1 : wrap64 ((i : Int) + 1) = ((i + 1 : Nat) : Int) := by have := HS.out; simp only [wrap64]; omega
      have hxs : (s.extract i s.size).size = s.size - i := by rw [ByteArray.size_extract]; omega
      have HXS := Kept.mk hxs
      have HTX : Kept (tx (s.extract i s.size) = s[i] :: (tx s).drop (i + 1)) := ⟨by rw [tx_drop]; exact ht⟩
      have HCI := Kept.mk ci
      clear ht hxs
      by_cases cb : s[i] = 32
      · have q2 : ((s[i].toNat : Int) == 32) = true := by have h := q; rw [decide_eq_true cb] at h; exact h
        have HC := Kept.mk cb
        clear q q39 cb
        go_wp2_with fail
        go_roundw
        case rel =>
          refine ⟨i + 1, by rw [hw1], ⟨⟨acc, HO.out, HB.out, by have := HL.out; omega, HCI.out, ?_⟩⟩⟩
          rw [← HE.out, HT.out, HC.out, splitB_blank]
        case measure =>
          have := HCI.out
          rw [hw1]
          simp only [intOf]
          omega
      · have q2 : ((s[i].toNat : Int) == 32) = false := by have h := q; rw [decide_eq_false cb] at h; exact h
        have HC := Kept.mk cb
        clear q cb
        go_wp2_with fail
        go_at_call 18
        refine (longest_any (s.extract i s.size) (by rw [HXS.out]; have := HCI.out; omega) (by rw [HXS.out]; have := HS.out; omega) wr).mono ?_
        rintro e w1 ⟨rfl, hb1⟩
        obtain ⟨r1, d1, rfl⟩ := xw_of hb1
        clear hb1
        have hBx := Kept.mk (below_xw HB.out HB.out.size r1 d1)
        cases hf : firstB (s[i] :: (tx s).drop (i + 1)) with
        | error er =>
          have hR : longR (s.extract i s.size) = .agg #[.int .i64 0, .string ⟨#[]⟩] := by unfold longR; rw [HTX.out, hf]
          have hne := first_err2 hf
          have HF := Kept.mk hf
          rewrite [hR]
          have hE := empty_isE
          clear hf hR
          by_cases c39 : s[i] = 39
          · rw [decide_eq_true c39] at q39
            have he5 : Kept (er = 5) := ⟨by rcases hne with ⟨_, h⟩ | ⟨h, _⟩; exact h; exact absurd c39 h⟩
            clear hne c39
            go_wp2_with fail
            go_returns
            refine ⟨hBx.out.alloc hBx.out.size _, _, 5, [], rfl, HasT.nil _, ?_, fun _ => rfl⟩
            rw [if_neg (by decide), ← HE.out, HT.out, splitB_err HC.out HF.out, he5.out]
            rfl
          · rw [decide_eq_false c39] at q39
            have he5 : Kept (er = 24) := ⟨by rcases hne with ⟨h, _⟩ | ⟨_, h⟩; exact absurd h c39; exact h⟩
            clear hne c39
            go_wp2_with fail
            go_returns
            refine ⟨hBx.out.alloc hBx.out.size _, _, 24, [], rfl, HasT.nil _, ?_, fun _ => rfl⟩
            rw [if_neg (by decide), ← HE.out, HT.out, splitB_err HC.out HF.out, he5.out]
            rfl
        | ok kn =>
          obtain ⟨k, n⟩ := kn
          have hR : longR (s.extract i s.size) = .agg #[.int .i64 (k : Int), .string ((s.extract i s.size).extract 0 n)] := by unfold longR; rw [HTX.out, hf]
          obtain ⟨hn1, hn2⟩ := first_len hf
          have hn : n ≤ (s.extract i s.size).size := by rw [← tx_len, HTX.out]; exact hn2
          have HF := Kept.mk hf
          have hOx := Kept.mk (OwnT.below HO.out (xw_below wr r1 d1))
          rewrite [hR]
          have hsz : ((s.extract i s.size).extract 0 n).size = n := by rw [← tx_len, tx_take, List.length_take, tx_len]; omega
          have hEE := notE ((s.extract i s.size).extract 0 n) (by rw [hsz]; exact hn1)
          have hn' : n ≤ s.size - i := by rw [← HXS.out]; exact hn
          have HNN := Kept.mk hn'
          have hmin : min n (s.size - i) = n := Nat.min_eq_left hn'
          have hwn : wrap64 ((i : Int) + (n : Int)) = ((i + n : Nat) : Int) := by have := HS.out; have := HCI.out; simp only [wrap64]; omega
          have HX := Kept.mk (tx_take (s.extract i s.size) n)
          have HXX := Kept.mk (And.intro hsz hmin)
          clear hf hR hn2 q39 hn hn'
          go_wp2_with (first | ((at_builtin); refine app_tok (w0 := w) (W := (xw wr r1 d1).alloc (.cells #[.int .i64 (k : Int), .string ((s.extract i s.size).extract 0 n)] 37)) rfl (.tmp 29) (.tmp 31) 27 37 _ 24 rfl Try.underlying27 infoRTok rfl (by decide) _ acc (k : Int) ((s.extract i s.size).extract 0 n) rfl ?hx (OwnT.below hOx.out ((Below.refl _ _).alloc (Nat.le_refl _) _)) (hBx.out.alloc hBx.out.size _) ?c1 ?_; (case hx => rw [World.size_alloc]; rfl); (case c1 => have := HL.out; have := HS.out; omega); intro v1 r d HO2 HG2; have hc5 := HG2.cell (a := ⟨(xw wr r1 d1).heap.size, 1, none⟩) (v := .string ((s.extract i s.size).extract 0 n)) (by simp [go_sem]) (OwnT.far hOx.out _ (Nat.le_refl _)); have HO2 := Kept.mk HO2; clear HG2))
          rw [hwn]
          refine ⟨⟨i + n, rfl, ⟨⟨_, HO2.out, xw_below _ _ _, ?_, ?_, ?_⟩⟩⟩, ?_⟩
          · have := HL.out
            simp only [List.length_append, List.length_cons, List.length_nil]
            omega
          · have := HNN.out; have := HI.out; omega
          · rw [← HE.out, HT.out, behind_tok HC.out HF.out, HX.out, HTX.out]
            rw [← HT.out, List.drop_drop]
          · have := HCI.out
            simp only [intOf]
            omega
    · have hi : i = s.size := by have := HI.out; omega
      have hd : (tx s).drop i = [] := by rw [hi, ← tx_len]; exact List.drop_length
      have HD := Kept.mk hd
      have ci' : ¬ ((i : Int) < (s.size : Int)) := by omega
      clear ci hi hd
      go_wp2_with fail
      go_returns
      refine ⟨HB.out, _, 0, acc, rfl, OwnT.has HO.out, ?_, fun h => absurd rfl h⟩
      rw [← HE.out, HD.out, splitB_nil]
      simp [behind]
end Go.Proofs.Ytlckgloaknjcgaa
