/- Layer 19 (lex): which things are tokens, as the program has it; tokens compared and joined, walked. -/
import Derived.Test.YtlckgloaknjcgaaLexV
namespace Go.Proofs.Ytlckgloaknjcgaa
open Go.RowKit
set_option linter.unusedVariables false
set_option linter.unusedSimpArgs false

/-- What a text begins with, against what is a token. -/
theorem may_first_ok {k : Int} {b : UInt8} {t : Bs} {k0 n0 : Nat} (h : firstB (b :: t) = .ok (k0, n0)) : mayB k (b :: t) = (decide ((k0 : Int) = k) && decide (n0 = (b :: t).length)) := by
  have hl := long_first b t
  rw [h] at hl
  obtain ⟨h1, h2, _, _, h5, h6, h7⟩ := hl
  by_cases hn : n0 = (b :: t).length
  · rw [decide_eq_true hn, Bool.and_true]
    rw [hn, List.take_length] at h5 h7
    by_cases hk : (k0 : Int) = k
    · rw [decide_eq_true hk, ← hk]; exact h5
    · rw [decide_eq_false hk]; exact h7 k (fun e => hk e.symm)
  · rw [decide_eq_false hn, Bool.and_false]
    have := h6 (b :: t).length k (by omega) (Nat.le_refl _)
    rwa [List.take_length] at this
theorem may_first_err {k : Int} {b : UInt8} {t : Bs} {e : Int} (h : firstB (b :: t) = .error e) : mayB k (b :: t) = false := by
  have hl := long_first b t
  rw [h] at hl
  have := hl (b :: t).length k (Nat.le_refl _)
  rwa [List.take_length] at this

set_option maxRecDepth 100000 in
set_option maxHeartbeats 1000000 in
theorem pMay_any (k : Int) (s : ByteArray) (hs : s.size ≤ 4194304) (w : World) :
    Calls Try.prog 11 #[.agg #[.int .i64 k, .string s]] w (fun e w' => e = .returned (.bool (mayB k (tx s))) ∧ Below w.heap.size w w') := by
  have HS := Kept.mk hs
  clear hs
  go_enter Try.func11, Try.ntmps11
  rcases Nat.eq_zero_or_pos s.size with h0 | h0
  · have hx : tx s = [] := List.eq_nil_of_length_eq_zero (by rw [tx_len, h0])
    have hE : s.toList.isEmpty = true := by rw [tx_toList, hx]; rfl
    have HX := Kept.mk hx
    clear hx h0
    go_wp2_with fail
    go_returns
    refine ⟨?_, (Below.refl _ _).alloc (Nat.le_refl _) _⟩
    rw [HX.out, may_nil]
    rfl
  · have hE := notE s h0
    obtain ⟨t, ht, _⟩ := tx_cons s h0
    have HT := Kept.mk ht
    clear ht
    go_wp2_with fail
    go_at_call 17
    refine (first_any s h0 (by have := HS.out; omega) _).mono ?_
    rintro e w1 ⟨rfl, hb1⟩
    obtain ⟨r1, d1, rfl⟩ := xw_of hb1
    clear hb1
    cases hf : firstB (s[0] :: t) with
    | error er =>
      have hne := first_err hf
      have hR := firstR_err (s := s) (by rw [HT.out]; exact hf)
      have hm : Kept (mayB k (tx s) = false) := ⟨by rw [HT.out]; exact may_first_err hf⟩
      have d0 : (er == 0) = false := by rcases hne with rfl | rfl <;> rfl
      rewrite [hR]
      clear hf hR hne
      go_wp2_with fail
      go_returns
      exact ⟨by rw [hm.out]; rfl, (below_xw ((Below.refl _ _).alloc (Nat.le_refl _) _) (by simp) _ _).alloc (by simp [xw_size]; omega) _⟩
    | ok q =>
      obtain ⟨k0, n0⟩ := q
      obtain ⟨hn1, hn2⟩ := first_len hf
      have hR := firstR_ok (s := s) (by rw [HT.out]; exact hf)
      have hm : Kept (mayB k (tx s) = (decide ((k0 : Int) = k) && decide (n0 = (tx s).length))) := ⟨by rw [HT.out]; exact may_first_ok hf⟩
      rewrite [hR]
      clear hf hR
      by_cases hk : (k0 : Int) = k
      · subst hk
        by_cases hn : n0 = s.size
        · have hx : s.extract 0 n0 = s := tx_inj (by rw [tx_take, hn, ← tx_len, List.take_length])
          have hv : Kept (mayB (k0 : Int) (tx s) = true) := ⟨by rw [hm.out, tx_len]; simp [hn]⟩
          rewrite [hx]
          clear hn hx hn1 hn2
          go_wp2_with fail
          go_returns
          exact ⟨by rw [hv.out]; rfl, (below_xw ((Below.refl _ _).alloc (Nat.le_refl _) _) (by simp) _ _).alloc (by simp [xw_size]; omega) _⟩
        · have hx : ¬ ((s.extract 0 n0).toList = s.toList) := by
            rw [tx_toList, tx_toList, tx_take]
            intro e
            have h := congrArg List.length e
            rw [List.length_take, tx_len] at h
            have h3 : n0 ≤ s.size := by rw [← tx_len, HT.out]; exact hn2
            omega
          have hv : Kept (mayB (k0 : Int) (tx s) = false) := ⟨by rw [hm.out, tx_len]; simp [hn]⟩
          clear hn hn1 hn2
          go_wp2_with fail
          go_returns
          exact ⟨by rw [hv.out]; rfl, (below_xw ((Below.refl _ _).alloc (Nat.le_refl _) _) (by simp) _ _).alloc (by simp [xw_size]; omega) _⟩
      · have hv : Kept (mayB k (tx s) = false) := ⟨by rw [hm.out, decide_eq_false hk]; rfl⟩
        go_wp2_with fail
        go_returns
        exact ⟨by rw [hv.out]; rfl, (below_xw ((Below.refl _ _).alloc (Nat.le_refl _) _) (by simp) _ _).alloc (by simp [xw_size]; omega) _⟩

def EqI (n : Nat) (w : World) (v13 : Value) (wr : World) : Prop := ∃ (i nd : Nat), v13 = .int .i64 (i : Int) ∧ wr = w.drewN nd ∧ Kept (i ≤ n)
set_option maxRecDepth 100000 in
set_option maxHeartbeats 1000000 in
theorem equal_any (v u : Value) (ts : List Tok) (hn : ts.length ≤ 140737488355328) (w : World) (H1 : HasT w v ts) (H2 : HasT w u ts) :
    Calls Try.prog 24 #[v, u] w (fun e w' => e = .returned (.bool true) ∧ Below w.heap.size w w') := by
  obtain ⟨A, c, rfl, hA⟩ := H1
  obtain ⟨B, d, rfl, hB⟩ := H2
  have HA := Kept.mk hA
  have HB := Kept.mk hB
  have HN := Kept.mk hn
  clear hA hB hn
  go_enter Try.func24, Try.ntmps24
  go_wp2_with fail
  go_loopw [13] (fun v13 wr => EqI ts.length w v13 wr) (fun v13 wr => ts.length - (intOf v13).toNat)
  case atStart => exact ⟨0, 0, rfl, rfl, ⟨Nat.zero_le _⟩⟩
  case round =>
    obtain ⟨i, nd, rfl, rfl, HI⟩ := hrel
    by_cases ci : i < ts.length
    · have hne : ts ≠ [] := by rintro rfl; simp at ci
      obtain ⟨b1, o1, rfl, _, hc1⟩ := HA.out hne
      obtain ⟨b2, o2, rfl, _, hc2⟩ := HB.out hne
      obtain ⟨e0, e1⟩ := hc1 i ci
      obtain ⟨g0, g1⟩ := hc2 i ci
      generalize ts[i] = t at e0 e1 g0 g1
      obtain ⟨k, l⟩ := t
      simp only at e0 e1 g0 g1
      have ci' : (i : Int) < (ts.length : Int) := by omega
      have f0 : 0 ≤ (i : Int) := by omega
      have hw : wrap64 ((i : Int) + 1) = (i : Int) + 1 := by have := HN.out; simp only [wrap64]; omega
      have HCI := Kept.mk ci
      clear hc1 hc2 hne
      go_wp2_with fail
      go_quiet (fail)
      go_wp2_with fail
      go_roundw
      case rel => exact ⟨i + 1, _, by rw [hw]; rfl, rfl, ⟨HCI.out⟩⟩
      case measure => exact less_step hw HCI.out
    · have ci' : ¬ ((i : Int) < (ts.length : Int)) := by omega
      clear ci
      go_wp2_with fail
      go_returns
      exact ⟨rfl, below_drewN (Below.refl _ _) _⟩
theorem same_any (v u : Value) (ts : List Tok) (hn : ts.length ≤ 140737488355328) (w : World) (H1 : HasT w v ts) (H2 : HasT w u ts) :
    Calls Try.prog 16 #[v, u] w (fun e w' => e = .returned (.bool true) ∧ Below w.heap.size w w') := by
  go_enter Try.func16, Try.ntmps16
  go_wp2_with (first | (go_at_call 24; refine (equal_any v u ts hn _ H1 H2).mono ?_; rintro e w1 ⟨rfl, hb1⟩))
  go_returns
  exact ⟨rfl, hb1⟩

def RJ (ts : List Tok) (v4 v3 : Value) (wr w : World) : Prop := ∃ i : Nat, v4 = .int .i64 (i : Int) ∧ wr = w ∧ v3 = .string (bs (joinB (texts (ts.take i)))) ∧ Kept (i ≤ ts.length)
theorem bs_app (l m : Bs) : bs l ++ bs m = bs (l ++ m) := tx_inj (by simp [tx, bs])
theorem texts_snoc (ts : List Tok) (i : Nat) (ci : i < ts.length) (h0 : i ≠ 0) : joinB (texts (ts.take i)) ++ [32] ++ (ts[i]).2 = joinB (texts (ts.take (i + 1))) := by
  have htake : ts.take (i + 1) = ts.take i ++ [ts[i]] := by rw [List.take_add_one, List.getElem?_eq_getElem ci]; rfl
  have e2 : texts (ts.take i ++ [ts[i]]) = texts (ts.take i) ++ [(ts[i]).2] := by simp only [texts, List.map_append, List.map_cons, List.map_nil]
  rw [htake, e2, join_snoc _ _ (by
    intro e
    have h2 : (texts (ts.take i)).length = i := by simp only [texts, List.length_map, List.length_take]; omega
    rw [e] at h2
    exact h0 h2.symm)]
  simp only [List.append_assoc]
  rfl
theorem jl_take (ts : List Tok) (i : Nat) (ci : i < ts.length) : (joinB (texts (ts.take i))).length + (ts[i]).2.length + 1 ≤ jl (texts ts) := by
  have htake : ts.take (i + 1) = ts.take i ++ [ts[i]] := by rw [List.take_add_one, List.getElem?_eq_getElem ci]; rfl
  have e : texts ts = texts (ts.take (i + 1)) ++ texts (ts.drop (i + 1)) := by
    simp only [texts]
    rw [← List.map_append, List.take_append_drop]
  have e2 : texts (ts.take i ++ [ts[i]]) = texts (ts.take i) ++ [(ts[i]).2] := by simp only [texts, List.map_append, List.map_cons, List.map_nil]
  rw [e, htake, e2, jl_app, jl_app]
  have := join_len (texts (ts.take i))
  simp only [jl]
  omega
theorem texts_zero (ts : List Tok) (ci : 0 < ts.length) : (ts[0]).2 = joinB (texts (ts.take 1)) := by
  cases ts with
  | nil => simp at ci
  | cons t r => simp [texts, joinB]
set_option maxRecDepth 100000 in
set_option maxHeartbeats 1000000 in
theorem rjoin_any (v : Value) (ts : List Tok) (w : World) (H : HasT w v ts) (hn : ts.length ≤ 140737488355328) (hj : jl (texts ts) ≤ 140737488355328) :
    Calls Try.prog 15 #[v] w (fun e w' => e = .returned (.string (bs (joinB (texts ts)))) ∧ w' = w) := by
  obtain ⟨A, c, rfl, hA⟩ := H
  have HA := Kept.mk hA
  have HN := Kept.mk hn
  have HJ := Kept.mk hj
  clear hA hn hj
  go_enter Try.func15, Try.ntmps15
  go_wp2_with fail
  go_loopw [4, 3] (fun v4 v3 wr => RJ ts v4 v3 wr w) (fun v4 v3 wr => ts.length - (intOf v4).toNat)
  case atStart => exact ⟨0, rfl, rfl, rfl, ⟨Nat.zero_le _⟩⟩
  case round =>
    obtain ⟨i, rfl, rfl, rfl, HI⟩ := hrel
    by_cases ci : i < ts.length
    · have hne : ts ≠ [] := by rintro rfl; simp at ci
      obtain ⟨b1, o1, rfl, _, hc1⟩ := HA.out hne
      obtain ⟨e0, e1⟩ := hc1 i ci
      have ci' : (i : Int) < (ts.length : Int) := by omega
      have f0 : 0 ≤ (i : Int) := by omega
      have hw : wrap64 ((i : Int) + 1) = (i : Int) + 1 := by have := HN.out; simp only [wrap64]; omega
      have HCI := Kept.mk ci
      clear hc1 hne
      by_cases i0 : i = 0
      · subst i0
        simp only [Nat.zero_mul, Nat.add_zero] at e0 e1
        have hs := Kept.mk (texts_zero ts ci)
        have hz := jl_take ts 0 ci
        generalize ts[0] = t at e0 e1 hs hz
        obtain ⟨k, l⟩ := t
        simp only at e0 e1 hs hz
        have hb : ¬ (9223372036854775807 < (bs (joinB (texts []))).size + (bs l).size) := by
          rw [bs_size, bs_size]
          have := HJ.out
          have e : (joinB (texts [])).length = 0 := rfl
          rw [e]
          omega
        clear hz
        go_wp2_with fail
        go_roundw
        case rel =>
          refine ⟨1, rfl, rfl, ?_, ⟨HCI.out⟩⟩
          rw [bs_app, ← hs.out]
          rfl
        case measure => have := HCI.out; simp only [intOf]; omega
      · have hs := Kept.mk (texts_snoc ts i ci i0)
        have hz := jl_take ts i ci
        generalize ts[i] = t at e0 e1 hs hz
        obtain ⟨k, l⟩ := t
        simp only at e0 e1 hs hz
        have hb : ¬ (9223372036854775807 < (bs (joinB (texts (ts.take i)))).size + 1) := by
          rw [bs_size]
          have := HJ.out
          omega
        have hb2 : ¬ (9223372036854775807 < (bs (joinB (texts (ts.take i)))).size + 1 + (bs l).size) := by
          rw [bs_size, bs_size]
          have := HJ.out
          omega
        have i1 : 0 < i := by omega
        clear i0 hz
        go_wp2_with fail
        go_roundw
        case rel =>
          refine ⟨i + 1, by rw [hw]; rfl, rfl, ?_, ⟨HCI.out⟩⟩
          rw [show (⟨#[32]⟩ : ByteArray) = bs [32] from rfl, bs_app, bs_app, hs.out]
        case measure => exact less_step hw HCI.out
    · have hie : i = ts.length := by have := HI.out; omega
      subst hie
      go_wp2_with fail
      go_returns
      refine ⟨?_, rfl⟩
      rw [List.take_length]
      rfl
end Go.Proofs.Ytlckgloaknjcgaa
