/- Layer 1 (num): a number as it is written, read, walked. -/
import Derived.Test.YtmibpaegcbaaaaaValV
import Derived.Deep.DeepCutAuto
namespace Go.Proofs.Ytmibpaegcbaaaaa
open Go.RowKit
set_option linter.unusedVariables false
set_option linter.unusedSimpArgs false

def numN : Except Int Int → Int
  | .ok n => n
  | .error _ => 0
def numE : Except Int Int → Int
  | .ok _ => 0
  | .error e => e
abbrev numV (q : Except Int Int) : Value := .tuple #[.int .i64 (numN q), .int .i64 (numE q)]
def sgB (below : Bool) (x : Nat) : Except Int Int := if below = true then (if x ≤ 9223372036854775808 then .ok (-(x : Int)) else .error 10) else (if x ≤ 9223372036854775807 then .ok (x : Int) else .error 10)
theorem neg_wrap (x : Nat) (c : x ≤ 9223372036854775808) : wrap64 (IntKind.u64.wrap (-(x : Int))) = -(x : Int) := by
  simp only [wrap64, IntKind.wrap, IntKind.bits, IntKind.signed]
  simp
  omega
theorem signed_any (x : Nat) (hx : x < 18446744073709551616) (below : Bool) (w : World) : Calls Try.prog 50 #[.int .u64 (x : Int), .bool below] w (fun e w' => e = .returned (numV (sgB below x)) ∧ w = w') := by
  cases below with
  | true =>
    by_cases c : x ≤ 9223372036854775808
    · have hv : Kept (sgB true x = .ok (-(x : Int))) := ⟨by unfold sgB; rw [if_pos rfl, if_pos c]⟩
      have c' : (x : Int) ≤ 9223372036854775808 := by omega
      go_enter Try.func50, Try.ntmps50
      have hwr := neg_wrap x c
      have HW := Kept.mk hwr
      clear hwr
      go_wp2
      go_returns
      refine ⟨?_, rfl⟩
      rw [hv.out]
      show Ending.returned (.tuple #[.int .i64 (wrap64 (IntKind.u64.wrap (-(x : Int)))), .int .i64 0]) = _
      rw [HW.out]
      rfl
    · have hv : Kept (sgB true x = .error 10) := ⟨by unfold sgB; rw [if_pos rfl, if_neg c]⟩
      have c' : ¬ ((x : Int) ≤ 9223372036854775808) := by omega
      go_enter Try.func50, Try.ntmps50
      go_wp2
      go_returns
      exact ⟨by rw [hv.out]; rfl, rfl⟩
  | false =>
    by_cases c : x ≤ 9223372036854775807
    · have hv : Kept (sgB false x = .ok (x : Int)) := ⟨by unfold sgB; rw [if_neg (by decide), if_pos c]⟩
      have c' : (x : Int) ≤ 9223372036854775807 := by omega
      go_enter Try.func50, Try.ntmps50
      go_wp2
      go_returns
      exact ⟨by rw [hv.out]; rfl, rfl⟩
    · have hv : Kept (sgB false x = .error 10) := ⟨by unfold sgB; rw [if_neg (by decide), if_neg c]⟩
      have c' : ¬ ((x : Int) ≤ 9223372036854775807) := by omega
      go_enter Try.func50, Try.ntmps50
      go_wp2
      go_returns
      exact ⟨by rw [hv.out]; rfl, rfl⟩
def DgI (p : UInt8 → Bool) (d : Bs) (v39 : Value) (wr w : World) : Prop := ∃ i : Nat, v39 = .int .i64 (i : Int) ∧ wr = w ∧ Kept (i ≤ runB p d)
def DcI (d : Bs) (v58 v7 : Value) (wr w : World) : Prop := ∃ i x : Nat, v58 = .int .i64 (i : Int) ∧ v7 = .int .u64 (x : Int) ∧ wr = w ∧ Kept (i ≤ d.length ∧ x = decB (d.take i) ∧ x < 10 ^ i)
theorem ten_le {i : Nat} (h : i ≤ 19) : 10 ^ i ≤ 10000000000000000000 := by
  calc 10 ^ i ≤ 10 ^ 19 := Nat.pow_le_pow_right (by decide) h
    _ = 10000000000000000000 := by decide

set_option maxRecDepth 100000 in
set_option maxHeartbeats 4000000 in
theorem read_neg (s : ByteArray) (hs : s.size ≤ 140737488351232) (h0 : 0 < s.size) (hm : s[0] = 45) (w : World) :
    Calls Try.prog 32 #[.string s] w (fun e w' => e = .returned (numV (numR (tx s))) ∧ w = w') := by
  have q45 : ((s[0].toNat : Int) == 45) = true := by rw [hm]; rfl
  have HSD : Kept ((s.extract 1 s.size).size ≤ 140737488351232) := ⟨by rw [ByteArray.size_extract]; omega⟩
  have HR : Kept (numR (tx s) = numD true (tx (s.extract 1 s.size))) := ⟨by
    obtain ⟨t, ht, ht2⟩ := tx_cons s h0
    unfold numR
    rw [ht, hm, ht2]
    rfl⟩
  have h1s : 1 ≤ s.size := h0
  have h0' : 0 < (s.size : Int) := by omega
  clear hm hs
  go_enter Try.func32, Try.ntmps32
  go_upto_region 5 with fail
  generalize hds0 : s.extract 1 s.size = ds at HSD HR ⊢
  clear hds0
  have hds := tx_len ds
  by_cases c0 : (ds).size = 0
  · have hv : Kept (numR (tx s) = .error 4) := ⟨by rw [HR.out]; unfold numD; rw [if_pos (tx_nil c0)]⟩
    have c0' : (((ds).size : Int) == 0) = true := by simp [c0]
    have c0'' : ((ds).size : Int) = 0 := by omega
    clear hds
    go_wp2_with fail
    go_returns
    exact ⟨by rw [hv.out]; rfl, rfl⟩
  · have hp : 0 < (ds).size := by omega
    obtain ⟨t, ht, _⟩ := tx_cons ds hp
    have c0' : (((ds).size : Int) == 0) = false := by rw [beq_eq_false_iff_ne]; omega
    have hne : tx (ds) ≠ [] := by rw [ht]; simp
    have q48 := u8_eq (b := (ds)[0]) (c := 48)
    have hhd : (tx (ds)).head? = some (ds)[0] := by rw [ht]; rfl
    have h1 : 1 ≤ (ds).size := hp
    by_cases c48 : (ds)[0] = 48 ∧ True
    · have hv : Kept (numR (tx s) = .error 4) := ⟨by
        rw [HR.out]; unfold numD
        rw [if_neg hne, if_pos ⟨by rw [hhd, c48.1], .inr rfl⟩]⟩
      have q : (((ds)[0].toNat : Int) == 48) = true := by have h := q48; rw [decide_eq_true c48.1] at h; exact h
      skip
      clear c48 q48 hhd hne hds ht
      go_wp2_with fail
      all_goals go_returns
      all_goals exact ⟨by rw [hv.out]; rfl, rfl⟩
    · have HN : Kept (numR (tx s) = if runB isD (tx (ds)) ≠ (tx (ds)).length then .error 4 else if 19 < (tx (ds)).length then .error 10 else sgB true (decB (tx (ds)))) := ⟨by
        rw [HR.out]; unfold numD sgB
        rw [if_neg hne, if_neg]
        rw [hhd]
        rintro ⟨h, h2⟩
        injection h with h
        exact c48 ⟨h, trivial⟩⟩
      have HQ : Kept (∀ P : Prop, ((((ds)[0].toNat : Int) == 48) = false → P) → ((((ds)[0].toNat : Int) == 48) = true → (False) → P) → P) := ⟨fun P f g => by
        by_cases e : (ds)[0] = 48
        · exact g (by have h := q48; rw [decide_eq_true e] at h; exact h) (c48 ⟨e, trivial⟩)
        · exact f (by have h := q48; rw [decide_eq_false e] at h; exact h)⟩
      rw [tx_len] at HN
      clear c48 q48 hhd hne hds ht
      refine HQ.out _ (fun q => ?_) (fun q q2 => q2.elim)
      all_goals
        clear HQ
        go_wp2_with fail
        go_loopw [39] (fun v39 wr => DgI isD (tx (ds)) v39 wr w) (fun v39 wr => (ds).size - (intOf v39).toNat)
        case atStart => exact ⟨0, rfl, rfl, ⟨Nat.zero_le _⟩⟩
        case round =>
          obtain ⟨i, rfl, rfl, HI⟩ := hrel
          have hszz := HSD.out
          have hrl := run_le isD (tx (ds))
          rw [tx_len] at hrl
          by_cases ci : i < (ds).size
          · have hb := run_at isD (tx (ds)) i HI.out (ds)[i] (tx_get (ds) i ci)
            have ci' : (i : Int) < ((ds).size : Int) := by omega
            have f0 : 0 ≤ (i : Int) := by omega
            have hw : wrap64 ((i : Int) + 1) = (i : Int) + 1 := by simp only [wrap64]; omega
            by_cases cr : i < runB isD (tx (ds))
            · have hd := isD_iff.1 (hb.2 cr)
              have g1 : ¬ (((ds)[i].toNat : Int) < 48) := by omega
              have g2 : ¬ (57 < ((ds)[i].toNat : Int)) := by omega
              have HC := Kept.mk cr
              clear hb cr hd hszz hrl
              go_wp2_with fail
              go_roundw
              case rel => exact ⟨i + 1, by first | rfl | (rw [hw]; rfl), rfl, ⟨HC.out⟩⟩
              case measure => first | exact less_step hw ci | (simp only [intOf]; omega)
            · have hv : Kept (numR (tx s) = .error 4) := ⟨by rw [HN.out, if_pos (by have := HI.out; omega)]⟩
              have hnd : isD (ds)[i] = false := by cases e : isD (ds)[i] with | false => rfl | true => exact absurd (hb.1 e) cr
              by_cases g1 : ((ds)[i].toNat : Int) < 48
              · clear hb cr hnd hszz hrl
                go_wp2_with fail
                go_returns
                exact ⟨by rw [hv.out]; rfl, rfl⟩
              · have g2 : 57 < ((ds)[i].toNat : Int) := by
                  unfold isD at hnd
                  simp only [Bool.and_eq_false_iff, decide_eq_false_iff_not] at hnd
                  omega
                clear hb cr hnd hszz hrl
                go_wp2_with fail
                go_returns
                exact ⟨by rw [hv.out]; rfl, rfl⟩
          · have hrr : runB isD (tx (ds)) = (ds).size := by have := HI.out; omega
            have HN2 : Kept (numR (tx s) = if 19 < (ds).size then .error 10 else sgB true (decB (tx (ds)))) := ⟨by rw [HN.out, if_neg (by omega)]⟩
            have HAll : Kept (∀ i, (hi : i < (ds).size) → 48 ≤ (ds)[i].toNat ∧ (ds)[i].toNat ≤ 57) := ⟨fun i hi => isD_iff.1 ((run_at isD (tx (ds)) i (by omega) (ds)[i] (tx_get (ds) i hi)).2 (by omega))⟩
            have ci' : ¬ ((i : Int) < ((ds).size : Int)) := by omega
            clear hszz hrl hrr
            by_cases c19 : 19 < (ds).size
            · have hv : Kept (numR (tx s) = .error 10) := ⟨by rw [HN2.out, if_pos c19]⟩
              have c19' : 19 < ((ds).size : Int) := by omega
              clear ci
              go_wp2_with fail
              go_returns
              exact ⟨by rw [hv.out]; rfl, rfl⟩
            · have hv : Kept (numR (tx s) = sgB true (decB (tx (ds)))) := ⟨by rw [HN2.out, if_neg c19]⟩
              have c19' : ¬ (19 < ((ds).size : Int)) := by omega
              have C19 := Kept.mk c19
              clear ci c19
              go_wp2_with fail
              go_loopw [58, 7] (fun v58 v7 wr2 => DcI (tx (ds)) v58 v7 wr2 wr) (fun v58 v7 wr2 => (ds).size - (intOf v58).toNat)
              case atStart => exact ⟨0, 0, rfl, rfl, rfl, ⟨by simp, by simp [decB], by simp⟩⟩
              case round =>
                obtain ⟨n, x, rfl, rfl, rfl, HX⟩ := hrel
                by_cases cn : n < (ds).size
                · obtain ⟨hx1, hx2, hx3⟩ := HX.out
                  obtain ⟨g1, g2⟩ := HAll.out n cn
                  have c19x := C19.out
                  have h10 := ten_le (i := n) (by omega)
                  have h10' := ten_le (i := n + 1) (by omega)
                  have hst := decB_take (tx (ds)) n (ds)[n] (tx_get (ds) n cn)
                  rw [← hx2] at hst
                  rw [Nat.pow_succ] at h10'
                  have HST : Kept ((x : Int) * 10 + (((ds)[n].toNat : Int) - 48) = ((decB ((tx (ds)).take (n + 1)) : Nat) : Int) ∧ decB ((tx (ds)).take (n + 1)) < 10 ^ (n + 1)) := ⟨by omega, by rw [Nat.pow_succ]; omega⟩
                  have b1 : (x : Int) * 10 < 18446744073709551616 := by omega
                  have b2 : (x : Int) * 10 + (((ds)[n].toNat : Int) - 48) < 18446744073709551616 := by omega
                  have cn' : (n : Int) < ((ds).size : Int) := by omega
                  have f0n : 0 ≤ (n : Int) := by omega
                  have hwn : wrap64 ((n : Int) + 1) = (n : Int) + 1 := by simp only [wrap64]; omega
                  have g1' : 48 ≤ ((ds)[n].toNat : Int) := by omega
                  have g2' : ((ds)[n].toNat : Int) ≤ 57 := by omega
                  have HCN := Kept.mk cn
                  clear hx1 hx2 hx3 g1 g2 c19x h10 h10' hst
                  go_wp2_with fail
                  go_roundw
                  case rel => exact ⟨n + 1, decB ((tx (ds)).take (n + 1)), by first | rfl | (rw [hwn]; rfl), by rw [← HST.out.1], rfl, ⟨by rw [tx_len]; exact HCN.out, rfl, HST.out.2⟩⟩
                  case measure => first | exact less_step hwn HCN.out | (have := HCN.out; simp only [intOf]; omega)
                · obtain ⟨hx1, hx2, hx3⟩ := HX.out
                  rw [tx_len] at hx1
                  have hnn : n = (ds).size := by omega
                  have hxx : x = decB (tx (ds)) := by rw [hx2, hnn, ← tx_len, List.take_length]
                  have hx64 : x < 18446744073709551616 := by have := ten_le (i := n) (by have := C19.out; omega); omega
                  have HXX := Kept.mk hxx
                  have cn' : ¬ ((n : Int) < ((ds).size : Int)) := by omega
                  clear hx1 hx2 hx3 hnn hxx cn
                  go_wp2_with (first | (go_at_call 50; refine (signed_any x hx64 true _).mono ?_; rintro e w1 ⟨rfl, rfl⟩; rewrite [show sgB true x = numR (tx s) from by rw [hv.out, HXX.out]]))
                  go_returns
                  exact ⟨rfl, rfl⟩
set_option maxRecDepth 100000 in
set_option maxHeartbeats 4000000 in
theorem read_pos (s : ByteArray) (hs : s.size ≤ 140737488351232) (hm : (h0 : 0 < s.size) → s[0] ≠ 45) (w : World) :
    Calls Try.prog 32 #[.string s] w (fun e w' => e = .returned (numV (numR (tx s))) ∧ w = w') := by
  have HSD : Kept (s.size ≤ 140737488351232) := ⟨hs⟩
  have HR : Kept (numR (tx s) = numD false (tx s)) := ⟨by
    unfold numR
    rw [if_neg]
    intro h
    rcases Nat.eq_zero_or_pos s.size with h0 | h0
    · rw [tx_nil h0] at h; cases h
    · obtain ⟨t, ht, ht2⟩ := tx_cons s h0
      rw [ht] at h
      injection h with h
      exact hm h0 h⟩
  have h0' : s.size ≠ 0 → Kept (((0 : Int) < (s.size : Int)) ∧ True) := fun h => ⟨by omega, trivial⟩
  by_cases hz : s.size = 0
  · have hv : Kept (numR (tx s) = .error 4) := ⟨by rw [HR.out]; unfold numD; rw [if_pos (tx_nil hz)]⟩
    have c0 : ¬ (0 < (s.size : Int)) := by omega
    have c0' : ((s.size : Int) == 0) = true := by rw [beq_iff_eq]; omega
    clear hs hm h0'
    go_enter Try.func32, Try.ntmps32
    go_wp2_with fail
    go_returns
    exact ⟨by rw [hv.out]; rfl, rfl⟩
  · have h0 : 0 < s.size := by omega
    have q45 : ((s[0].toNat : Int) == 45) = false := by have h := u8_eq (b := s[0]) (c := 45); rw [decide_eq_false (hm h0)] at h; exact h
    have h0'' : 0 < (s.size : Int) := by omega
    clear hs hm h0'
    go_enter Try.func32, Try.ntmps32
    go_upto_region 5 with fail
    have hds := tx_len s
    by_cases c0 : (s).size = 0
    · have hv : Kept (numR (tx s) = .error 4) := ⟨by rw [HR.out]; unfold numD; rw [if_pos (tx_nil c0)]⟩
      have c0' : (((s).size : Int) == 0) = true := by simp [c0]
      have c0'' : ((s).size : Int) = 0 := by omega
      clear hds
      go_wp2_with fail
      go_returns
      exact ⟨by rw [hv.out]; rfl, rfl⟩
    · have hp : 0 < (s).size := by omega
      obtain ⟨t, ht, _⟩ := tx_cons s hp
      have c0' : (((s).size : Int) == 0) = false := by rw [beq_eq_false_iff_ne]; omega
      have hne : tx (s) ≠ [] := by rw [ht]; simp
      have q48 := u8_eq (b := (s)[0]) (c := 48)
      have hhd : (tx (s)).head? = some (s)[0] := by rw [ht]; rfl
      have h1 : 1 ≤ (s).size := hp
      by_cases c48 : (s)[0] = 48 ∧ 1 < (s).size
      · have hv : Kept (numR (tx s) = .error 4) := ⟨by
          rw [HR.out]; unfold numD
          rw [if_neg hne, if_pos ⟨by rw [hhd, c48.1], .inl (by rw [tx_len]; exact c48.2)⟩]⟩
        have q : (((s)[0].toNat : Int) == 48) = true := by have h := q48; rw [decide_eq_true c48.1] at h; exact h
        have c1' : 1 < ((s).size : Int) := by have := c48.2; omega
        clear c48 q48 hhd hne hds ht
        go_wp2_with fail
        all_goals go_returns
        all_goals exact ⟨by rw [hv.out]; rfl, rfl⟩
      · have HN : Kept (numR (tx s) = if runB isD (tx (s)) ≠ (tx (s)).length then .error 4 else if 19 < (tx (s)).length then .error 10 else sgB false (decB (tx (s)))) := ⟨by
          rw [HR.out]; unfold numD sgB
          rw [if_neg hne, if_neg]
          rw [hhd]
          rintro ⟨h, h2⟩
          injection h with h
          exact c48 ⟨h, by rcases h2 with h2 | h2; (rw [tx_len] at h2; exact h2); cases h2⟩⟩
        have HQ : Kept (∀ P : Prop, ((((s)[0].toNat : Int) == 48) = false → P) → ((((s)[0].toNat : Int) == 48) = true → (¬ (1 < ((s).size : Int))) → P) → P) := ⟨fun P f g => by
          by_cases e : (s)[0] = 48
          · exact g (by have h := q48; rw [decide_eq_true e] at h; exact h) (fun h => c48 ⟨e, by omega⟩)
          · exact f (by have h := q48; rw [decide_eq_false e] at h; exact h)⟩
        rw [tx_len] at HN
        clear c48 q48 hhd hne hds ht
        refine HQ.out _ (fun q => ?_) (fun q q2 => ?_)
        all_goals
          clear HQ
          go_wp2_with fail
          go_loopw [39] (fun v39 wr => DgI isD (tx (s)) v39 wr w) (fun v39 wr => (s).size - (intOf v39).toNat)
          case atStart => exact ⟨0, rfl, rfl, ⟨Nat.zero_le _⟩⟩
          case round =>
            obtain ⟨i, rfl, rfl, HI⟩ := hrel
            have hszz := HSD.out
            have hrl := run_le isD (tx (s))
            rw [tx_len] at hrl
            by_cases ci : i < (s).size
            · have hb := run_at isD (tx (s)) i HI.out (s)[i] (tx_get (s) i ci)
              have ci' : (i : Int) < ((s).size : Int) := by omega
              have f0 : 0 ≤ (i : Int) := by omega
              have hw : wrap64 ((i : Int) + 1) = (i : Int) + 1 := by simp only [wrap64]; omega
              by_cases cr : i < runB isD (tx (s))
              · have hd := isD_iff.1 (hb.2 cr)
                have g1 : ¬ (((s)[i].toNat : Int) < 48) := by omega
                have g2 : ¬ (57 < ((s)[i].toNat : Int)) := by omega
                have HC := Kept.mk cr
                clear hb cr hd hszz hrl
                go_wp2_with fail
                go_roundw
                case rel => exact ⟨i + 1, by first | rfl | (rw [hw]; rfl), rfl, ⟨HC.out⟩⟩
                case measure => first | exact less_step hw ci | (simp only [intOf]; omega)
              · have hv : Kept (numR (tx s) = .error 4) := ⟨by rw [HN.out, if_pos (by have := HI.out; omega)]⟩
                have hnd : isD (s)[i] = false := by cases e : isD (s)[i] with | false => rfl | true => exact absurd (hb.1 e) cr
                by_cases g1 : ((s)[i].toNat : Int) < 48
                · clear hb cr hnd hszz hrl
                  go_wp2_with fail
                  go_returns
                  exact ⟨by rw [hv.out]; rfl, rfl⟩
                · have g2 : 57 < ((s)[i].toNat : Int) := by
                    unfold isD at hnd
                    simp only [Bool.and_eq_false_iff, decide_eq_false_iff_not] at hnd
                    omega
                  clear hb cr hnd hszz hrl
                  go_wp2_with fail
                  go_returns
                  exact ⟨by rw [hv.out]; rfl, rfl⟩
            · have hrr : runB isD (tx (s)) = (s).size := by have := HI.out; omega
              have HN2 : Kept (numR (tx s) = if 19 < (s).size then .error 10 else sgB false (decB (tx (s)))) := ⟨by rw [HN.out, if_neg (by omega)]⟩
              have HAll : Kept (∀ i, (hi : i < (s).size) → 48 ≤ (s)[i].toNat ∧ (s)[i].toNat ≤ 57) := ⟨fun i hi => isD_iff.1 ((run_at isD (tx (s)) i (by omega) (s)[i] (tx_get (s) i hi)).2 (by omega))⟩
              have ci' : ¬ ((i : Int) < ((s).size : Int)) := by omega
              clear hszz hrl hrr
              by_cases c19 : 19 < (s).size
              · have hv : Kept (numR (tx s) = .error 10) := ⟨by rw [HN2.out, if_pos c19]⟩
                have c19' : 19 < ((s).size : Int) := by omega
                clear ci
                go_wp2_with fail
                go_returns
                exact ⟨by rw [hv.out]; rfl, rfl⟩
              · have hv : Kept (numR (tx s) = sgB false (decB (tx (s)))) := ⟨by rw [HN2.out, if_neg c19]⟩
                have c19' : ¬ (19 < ((s).size : Int)) := by omega
                have C19 := Kept.mk c19
                clear ci c19
                go_wp2_with fail
                go_loopw [58, 7] (fun v58 v7 wr2 => DcI (tx (s)) v58 v7 wr2 wr) (fun v58 v7 wr2 => (s).size - (intOf v58).toNat)
                case atStart => exact ⟨0, 0, rfl, rfl, rfl, ⟨by simp, by simp [decB], by simp⟩⟩
                case round =>
                  obtain ⟨n, x, rfl, rfl, rfl, HX⟩ := hrel
                  by_cases cn : n < (s).size
                  · obtain ⟨hx1, hx2, hx3⟩ := HX.out
                    obtain ⟨g1, g2⟩ := HAll.out n cn
                    have c19x := C19.out
                    have h10 := ten_le (i := n) (by omega)
                    have h10' := ten_le (i := n + 1) (by omega)
                    have hst := decB_take (tx (s)) n (s)[n] (tx_get (s) n cn)
                    rw [← hx2] at hst
                    rw [Nat.pow_succ] at h10'
                    have HST : Kept ((x : Int) * 10 + (((s)[n].toNat : Int) - 48) = ((decB ((tx (s)).take (n + 1)) : Nat) : Int) ∧ decB ((tx (s)).take (n + 1)) < 10 ^ (n + 1)) := ⟨by omega, by rw [Nat.pow_succ]; omega⟩
                    have b1 : (x : Int) * 10 < 18446744073709551616 := by omega
                    have b2 : (x : Int) * 10 + (((s)[n].toNat : Int) - 48) < 18446744073709551616 := by omega
                    have cn' : (n : Int) < ((s).size : Int) := by omega
                    have f0n : 0 ≤ (n : Int) := by omega
                    have hwn : wrap64 ((n : Int) + 1) = (n : Int) + 1 := by simp only [wrap64]; omega
                    have g1' : 48 ≤ ((s)[n].toNat : Int) := by omega
                    have g2' : ((s)[n].toNat : Int) ≤ 57 := by omega
                    have HCN := Kept.mk cn
                    clear hx1 hx2 hx3 g1 g2 c19x h10 h10' hst
                    go_wp2_with fail
                    go_roundw
                    case rel => exact ⟨n + 1, decB ((tx (s)).take (n + 1)), by first | rfl | (rw [hwn]; rfl), by rw [← HST.out.1], rfl, ⟨by rw [tx_len]; exact HCN.out, rfl, HST.out.2⟩⟩
                    case measure => first | exact less_step hwn HCN.out | (have := HCN.out; simp only [intOf]; omega)
                  · obtain ⟨hx1, hx2, hx3⟩ := HX.out
                    rw [tx_len] at hx1
                    have hnn : n = (s).size := by omega
                    have hxx : x = decB (tx (s)) := by rw [hx2, hnn, ← tx_len, List.take_length]
                    have hx64 : x < 18446744073709551616 := by have := ten_le (i := n) (by have := C19.out; omega); omega
                    have HXX := Kept.mk hxx
                    have cn' : ¬ ((n : Int) < ((s).size : Int)) := by omega
                    clear hx1 hx2 hx3 hnn hxx cn
                    go_wp2_with (first | (go_at_call 50; refine (signed_any x hx64 false _).mono ?_; rintro e w1 ⟨rfl, rfl⟩; rewrite [show sgB false x = numR (tx s) from by rw [hv.out, HXX.out]]))
                    go_returns
                    exact ⟨rfl, rfl⟩
theorem read_any (s : ByteArray) (hs : s.size ≤ 140737488351232) (w : World) :
    Calls Try.prog 32 #[.string s] w (fun e w' => e = .returned (numV (numR (tx s))) ∧ w = w') := by
  by_cases h : ∃ h0 : 0 < s.size, s[0] = 45
  · obtain ⟨h0, hm⟩ := h
    exact read_neg s hs h0 hm w
  · exact read_pos s hs (fun h0 hm => h ⟨h0, hm⟩) w
end Go.Proofs.Ytmibpaegcbaaaaa
