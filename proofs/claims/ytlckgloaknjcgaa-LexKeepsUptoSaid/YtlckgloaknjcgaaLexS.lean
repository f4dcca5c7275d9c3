/- Layer 19 (lex): a text's tokens, walked. -/
import Derived.Test.YtlckgloaknjcgaaLexO
import Derived.Test.YtlckgloaknjcgaaLexQ
namespace Go.Proofs.Ytlckgloaknjcgaa
open Go.RowKit
set_option linter.unusedVariables false
set_option linter.unusedSimpArgs false

/-- What a call of Split comes to. -/
def SpP (ty : TypeId) (w : World) (q : Except Int (List Tok)) (en : Ending) (w' : World) : Prop :=
  Below w.heap.size w w' ∧ ∃ v er ts, en = .returned (.tuple #[v, .int .i64 er]) ∧ HasT w' v ts ∧ q = (if er = 0 then .ok ts else .error er) ∧ (er ≠ 0 → ts = [])
theorem first_err {b : UInt8} {t : Bs} {e : Int} (h : firstB (b :: t) = .error e) : e = 5 ∨ e = 24 := by
  unfold firstB at h
  simp only at h
  split at h
  · cases h
  · split at h
    · cases h
    · split at h
      · split at h
        · injection h with h; left; exact h.symm
        · cases h
      · split at h
        · injection h with h; right; exact h.symm
        · cases h
theorem infoTok : (Try.prog.info? 34).map (fun i => (i.zero, i.size, i.bytes)) = some (some (.agg #[.int .i64 0, .string ⟨#[]⟩]), 2, 24) := by kernel_rfl
theorem infoRTok : (Try.prog.info? 37).map (fun i => (i.zero, i.size, i.bytes)) = some (some (.agg #[.int .i64 0, .string ⟨#[]⟩]), 2, 24) := by kernel_rfl
/-- Between two rounds: these tokens are split off, this is left. -/
def SpI (ty : TypeId) (s : ByteArray) (w : World) (x : ByteArray) (v : Value) (wr : World) : Prop :=
  ∃ acc : List Tok, OwnT wr w.heap.size ty v acc ∧ Below w.heap.size w wr ∧ acc.length + x.size ≤ s.size ∧ behind acc (splitB (tx x)) = splitB (tx s)
def SpJ (ty : TypeId) (s : ByteArray) (w : World) (v0 v4 : Value) (wr : World) : Prop :=
  ∃ x : ByteArray, v0 = .string x ∧ Kept (SpI ty s w x v4 wr)
def strLen : Value → Nat
  | .string x => x.size
  | _ => 0

set_option maxRecDepth 100000 in
set_option maxHeartbeats 1000000 in
theorem split_any (s : ByteArray) (hs : s.size ≤ 4194304) (w : World) :
    Calls Try.prog 8 #[.string s] w (SpP 34 w (splitB (tx s))) := by
  have HS := Kept.mk hs
  clear hs
  go_enter Try.func8, Try.ntmps8
  go_wp2_with fail
  go_step3
  go_wp2_with fail
  go_step3
  go_wp2_with fail
  go_loopw [0, 4] (fun v0 v4 wr => SpJ 34 s w v0 v4 wr) (fun v0 v4 wr => strLen v0)
  case atStart => exact ⟨s, rfl, ⟨⟨[], OwnT.empty w _ _ (Nat.le_refl _), (Below.refl _ _).alloc (Nat.le_refl _) _, by simp, behind_nil _⟩⟩⟩
  case round =>
    obtain ⟨x, rfl, HJ⟩ := hrel
    obtain ⟨acc, hO, hB, hl, he⟩ := HJ.out
    clear HJ
    have HO := Kept.mk hO
    have HB := Kept.mk hB
    have HL := Kept.mk hl
    have HE := Kept.mk he
    clear hO hB hl he
    rcases Nat.eq_zero_or_pos x.size with h0 | h0
    · have hx : tx x = [] := List.eq_nil_of_length_eq_zero (by rw [tx_len, h0])
      have h0' : ¬ (0 < (x.size : Int)) := by omega
      have HX := Kept.mk hx
      clear hx h0
      go_wp2_with fail
      go_returns
      refine ⟨HB.out, _, 0, acc, rfl, OwnT.has HO.out, ?_, fun h => absurd rfl h⟩
      rw [← HE.out, HX.out, splitB_nil]
      simp [behind]
    · obtain ⟨t, ht, ht2⟩ := tx_cons x h0
      have HT := Kept.mk ht
      have HT2 := Kept.mk ht2
      have q := u8_eq (b := x[0]) (c := 32)
      have h0' : 0 < (x.size : Int) := by omega
      have h1 : 1 ≤ x.size := h0
      have hss : x.size ≤ 4194304 := by have := HL.out; have := HS.out; omega
      have HSS := Kept.mk hss
      clear ht ht2 hss
      by_cases cb : x[0] = 32
      · have q2 : ((x[0].toNat : Int) == 32) = true := by have h := q; rw [decide_eq_true cb] at h; exact h
        have HC := Kept.mk cb
        clear q cb
        go_wp2_with fail
        refine ⟨⟨_, rfl, ⟨⟨acc, HO.out, HB.out, ?_, ?_⟩⟩⟩, ?_⟩
        · have := HL.out
          simp only [ByteArray.size_extract]
          omega
        · rw [← HE.out, HT.out, HC.out, splitB_blank, HT2.out]
        · simp only [strLen, ByteArray.size_extract]
          omega
      · have q2 : ((x[0].toNat : Int) == 32) = false := by have h := q; rw [decide_eq_false cb] at h; exact h
        have HC := Kept.mk cb
        have hlong := long_first x[0] t
        clear q cb
        go_wp2_with fail
        go_at_call 17
        refine (first_any x h0 (by have := HSS.out; omega) wr).mono ?_
        rintro e w1 ⟨rfl, hb1⟩
        obtain ⟨r1, d1, rfl⟩ := xw_of hb1
        clear hb1
        cases hf : firstB (x[0] :: t) with
        | error er =>
          have hR := firstR_err (s := x) (by rw [HT.out]; exact hf)
          have hne := first_err hf
          have HF := Kept.mk hf
          rewrite [hR]
          have d0 : (er != 0) = true := by rcases hne with rfl | rfl <;> rfl
          have d1' : ¬ (er = 0) := by rcases hne with rfl | rfl <;> decide
          clear hf hR hlong
          have hBx := Kept.mk (below_xw HB.out HB.out.size r1 d1)
          go_wp2_with fail
          go_returns
          refine ⟨hBx.out.alloc hBx.out.size _, _, er, [], rfl, HasT.nil _, ?_, fun _ => rfl⟩
          rw [if_neg d1', ← HE.out, HT.out, splitB_err HC.out HF.out]
          rfl
        | ok kn =>
          obtain ⟨k, n⟩ := kn
          have hR := firstR_ok (s := x) (by rw [HT.out]; exact hf)
          obtain ⟨hn1, hn2⟩ := first_len hf
          have hn : n ≤ x.size := by rw [← tx_len, HT.out]; exact hn2
          have HF := Kept.mk hf
          have hOx := Kept.mk (OwnT.below HO.out (xw_below wr r1 d1))
          have hBx := Kept.mk (below_xw HB.out HB.out.size r1 d1)
          rewrite [hR]
          have hn2' : (n : Int) ≤ (x.size : Int) := by omega
          clear hf hR hlong hn2
          have hsz : (x.extract 0 n).size = n := by rw [ByteArray.size_extract]; omega
          have hmin : min n x.size = n := Nat.min_eq_left hn
          go_wp2_with (first | ((at_builtin); refine app_tok (w0 := w) (W := (xw wr r1 d1).alloc (.cells #[.int .i64 (k : Int), .string (x.extract 0 n)] 34)) rfl (.tmp 24) (.tmp 26) 23 34 _ 24 rfl Try.underlying23 infoTok rfl (by decide) _ acc (k : Int) (x.extract 0 n) rfl ?hx (OwnT.below hOx.out ((Below.refl _ _).alloc (Nat.le_refl _) _)) (hBx.out.alloc hBx.out.size _) ?c1 ?_; (case hx => rw [World.size_alloc]; rfl); (case c1 => have := HL.out; have := HS.out; omega); intro v1 r d HO2 HG2; have hc5 := HG2.cell (a := ⟨(xw wr r1 d1).heap.size, 1, none⟩) (v := .string (x.extract 0 n)) (by simp [go_sem]) (OwnT.far hOx.out _ (Nat.le_refl _)); have HO2 := Kept.mk HO2; clear HG2))
          refine ⟨⟨_, rfl, ⟨⟨_, HO2.out, xw_below _ _ _, ?_, ?_⟩⟩⟩, ?_⟩
          · have := HL.out
            simp only [List.length_append, List.length_cons, List.length_nil, ByteArray.size_extract]
            omega
          · rw [← HE.out, HT.out, behind_tok HC.out HF.out, tx_drop, tx_take, HT.out]
          · simp only [strLen, ByteArray.size_extract]
            omega

/-! ### the reference -/
def longR (s : ByteArray) : Value := match firstB (tx s) with
  | .ok (k, n) => .agg #[.int .i64 (k : Int), .string (s.extract 0 n)]
  | .error _ => .agg #[.int .i64 0, .string ⟨#[]⟩]
/-- No token of n bytes or more is there. -/
def NoT (s : ByteArray) (n : Nat) : Prop := ∀ (n' : Nat) (k' : Int), n < n' → n' ≤ s.size → mayB k' ((tx s).take n') = false
def LoI (s : ByteArray) (w : World) (v3 : Value) (wr : World) : Prop := ∃ n : Nat, v3 = .int .i64 (n : Int) ∧ Kept (n ≤ s.size) ∧ Kept (NoT s n) ∧ ∃ r d, wr = xw (w.alloc (.cells #[.int .i64 0, .string ⟨#[]⟩] 37)) r d
def LoK (s : ByteArray) (n : Nat) (w : World) (v4 : Value) (wr : World) : Prop := ∃ k : Nat, v4 = .int .i64 (k : Int) ∧ Kept (1 ≤ k ∧ k ≤ 5) ∧ Kept (∀ k' : Nat, 1 ≤ k' → k' < k → mayB (k' : Int) ((tx s).take n) = false) ∧ ∃ r d, wr = xw (w.alloc (.cells #[.int .i64 0, .string ⟨#[]⟩] 37)) r d
/-- Found: it is what the text begins with. -/
theorem long_found {s : ByteArray} (hlong : match firstB (tx s) with
    | .ok (k, n) => 1 ≤ n ∧ n ≤ (tx s).length ∧ 1 ≤ k ∧ k ≤ 4 ∧ mayB (k : Int) ((tx s).take n) = true ∧ (∀ (n' : Nat) (k' : Int), n < n' → n' ≤ (tx s).length → mayB k' ((tx s).take n') = false) ∧ (∀ k' : Int, k' ≠ (k : Int) → mayB k' ((tx s).take n) = false)
    | .error e => ∀ (n' : Nat) (k' : Int), n' ≤ (tx s).length → mayB k' ((tx s).take n') = false) {n k : Nat} (hn : n ≤ s.size) (hno : NoT s n) (hm : mayB (k : Int) ((tx s).take n) = true) :
    longR s = .agg #[.int .i64 (k : Int), .string (s.extract 0 n)] := by
  unfold longR
  rw [tx_len] at hlong
  cases hf : firstB (tx s) with
  | error e => rw [hf] at hlong; rw [hlong n k hn] at hm; cases hm
  | ok q =>
    obtain ⟨k0, n0⟩ := q
    rw [hf] at hlong
    obtain ⟨h1, h2, h3, h4, h5, h6, h7⟩ := hlong
    have hnn : n = n0 := by
      rcases Nat.lt_trichotomy n n0 with h | h | h
      · rw [hno n0 k0 h h2] at h5; cases h5
      · exact h
      · rw [h6 n k h hn] at hm; cases hm
    subst hnn
    have hk : (k : Int) = (k0 : Int) := Decidable.byContradiction fun h => by rw [h7 k h] at hm; cases hm
    have hk2 : k = k0 := by omega
    subst hk2
    rfl
theorem long_none {s : ByteArray} (hlong : match firstB (tx s) with
    | .ok (k, n) => 1 ≤ n ∧ n ≤ (tx s).length ∧ 1 ≤ k ∧ k ≤ 4 ∧ mayB (k : Int) ((tx s).take n) = true ∧ (∀ (n' : Nat) (k' : Int), n < n' → n' ≤ (tx s).length → mayB k' ((tx s).take n') = false) ∧ (∀ k' : Int, k' ≠ (k : Int) → mayB k' ((tx s).take n) = false)
    | .error e => ∀ (n' : Nat) (k' : Int), n' ≤ (tx s).length → mayB k' ((tx s).take n') = false) (hno : NoT s 0) :
    longR s = .agg #[.int .i64 0, .string ⟨#[]⟩] := by
  unfold longR
  rw [tx_len] at hlong
  cases hf : firstB (tx s) with
  | error e => rfl
  | ok q =>
    obtain ⟨k0, n0⟩ := q
    rw [hf] at hlong
    obtain ⟨h1, h2, h3, h4, h5, _⟩ := hlong
    rw [hno n0 k0 (by omega) h2] at h5; cases h5
theorem may_range {k : Int} {l : Bs} (h : mayB k l = true) : 1 ≤ k ∧ k ≤ 4 := by
  cases l with
  | nil => rw [may_nil] at h; cases h
  | cons b t =>
    have := may_kind h
    unfold headKind at this
    split at this
    · omega
    · split at this
      · omega
      · split at this <;> omega

set_option maxRecDepth 100000 in
set_option maxHeartbeats 1000000 in
theorem longest_any (s : ByteArray) (h0 : 0 < s.size) (hs : s.size ≤ 4194304) (w : World) :
    Calls Try.prog 18 #[.string s] w (fun e w' => e = .returned (longR s) ∧ Below w.heap.size w w') := by
  obtain ⟨t, ht, _⟩ := tx_cons s h0
  have hlong := long_first s[0] t
  rw [← ht] at hlong
  have HLO := Kept.mk hlong
  have HS := Kept.mk hs
  clear hlong hs ht
  go_enter Try.func18, Try.ntmps18
  go_wp2_with fail
  go_loopw [3] (fun v3 wr => LoI s w v3 wr) (fun v3 wr => (intOf v3).toNat)
  case atStart => exact ⟨s.size, rfl, ⟨Nat.le_refl _⟩, ⟨fun n' k' h1 h2 => by omega⟩, _, _, self_xw _⟩
  case round =>
    obtain ⟨n, rfl, HN, HNO, r, d, rfl⟩ := hrel
    by_cases cn : 0 < n
    · have cn' : 0 < (n : Int) := by omega
      have hnn : (n : Int) ≤ (s.size : Int) := by have := HN.out; omega
      have hnn2 : n ≤ s.size := HN.out
      have hwn : wrap64 ((n : Int) - 1) = ((n - 1 : Nat) : Int) := by have := HN.out; have := HS.out; simp only [wrap64]; omega
      have HC := Kept.mk cn
      go_wp2_with fail
      go_loopw [4] (fun v4 wr => LoK s n w v4 wr) (fun v4 wr => 5 - (intOf v4).toNat)
      case atStart => exact ⟨1, rfl, ⟨by omega⟩, ⟨fun k' h1 h2 => by omega⟩, _, _, rfl⟩
      case round =>
        obtain ⟨k, rfl, HK, HKO, r2, d2, rfl⟩ := hrel
        by_cases ck : k ≤ 4
        · have ck' : (k : Int) ≤ 4 := by omega
          have hwk : wrap64 ((k : Int) + 1) = ((k + 1 : Nat) : Int) := by simp only [wrap64]; omega
          have HCK := Kept.mk ck
          cases hm : mayB (k : Int) ((tx s).take n) with
          | true =>
            have HF := Kept.mk (long_found HLO.out HN.out HNO.out hm)
            go_wp2_with (first | (go_at_call 14; refine (rMay_any _ _ ?hz _).mono ?_; (case hz => rw [ByteArray.size_extract]; have := HS.out; omega); rintro e w5 ⟨rfl, hb5⟩; obtain ⟨r5, d5, rfl⟩ := xw_of hb5; clear hb5; rewrite [tx_take]; rewrite [hm]))
            go_returns
            rw [HF.out]
            refine ⟨rfl, ?_⟩
            exact below_xw ((Below.refl _ _).alloc (Nat.le_refl _) _) (by simp) _ _
          | false =>
            have HM := Kept.mk hm
            go_wp2_with (first | (go_at_call 14; refine (rMay_any _ _ ?hz _).mono ?_; (case hz => rw [ByteArray.size_extract]; have := HS.out; omega); rintro e w5 ⟨rfl, hb5⟩; obtain ⟨r5, d5, rfl⟩ := xw_of hb5; clear hb5; rewrite [tx_take]; rewrite [hm]))
            go_roundw
            case rel =>
              refine ⟨k + 1, rfl, ⟨by have := HCK.out; omega⟩, ⟨fun k' h1 h2 => ?_⟩, _, _, rfl⟩
              by_cases hk : k' = k
              · rw [hk]; exact HM.out
              · exact HKO.out k' h1 (by omega)
            case measure =>
              have := HCK.out
              simp only [intOf]
              omega
        · have ck' : ¬ ((k : Int) ≤ 4) := by omega
          have hno : Kept (NoT s (n - 1)) := ⟨by
            intro n' k' h1 h2
            by_cases hn : n' = n
            · subst hn
              cases hm : mayB k' ((tx s).take n') with
              | false => rfl
              | true =>
                obtain ⟨g1, g2⟩ := may_range hm
                have := HKO.out k'.toNat (by omega) (by omega)
                rw [show ((k'.toNat : Nat) : Int) = k' by omega] at this
                rw [this] at hm; cases hm
            · exact HNO.out n' k' (by omega) h2⟩
          clear ck
          go_wp2_with fail
          go_roundw
          case rel => exact ⟨n - 1, by rw [hwn], ⟨by have := HN.out; omega⟩, hno, _, _, rfl⟩
          case measure =>
            have := HC.out
            simp only [intOf]
            omega
    · have hn0 : n = 0 := by omega
      subst hn0
      have HF := Kept.mk (long_none HLO.out HNO.out)
      go_wp2_with fail
      go_returns
      rw [HF.out]
      refine ⟨rfl, ?_⟩
      exact below_xw ((Below.refl _ _).alloc (Nat.le_refl _) _) (by simp) _ _
end Go.Proofs.Ytlckgloaknjcgaa
