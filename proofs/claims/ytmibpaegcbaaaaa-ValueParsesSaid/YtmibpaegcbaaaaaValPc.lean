/- Layer 1's reference (num): a number as it is written, read: walked. -/
import Derived.Test.YtmibpaegcbaaaaaValPb
namespace Go.Proofs.Ytmibpaegcbaaaaa
open Go.RowKit
set_option linter.unusedVariables false
set_option linter.unusedSimpArgs false

theorem sgn_sub (x y : Nat) : sgn true x - (y : Int) = sgn true (x + y) := by simp [sgn]; omega
theorem sgn_add (x y : Nat) : sgn false x + (y : Int) = sgn false (x + y) := by simp [sgn]
theorem okI_in {x : Int} (h : inI x) : okI x = .tuple #[.int .i64 x, .int .i64 0] := if_pos h
theorem okI_out {x : Int} (h : ¬ inI x) : okI x = .tuple #[.int .i64 0, .int .i64 10] := if_neg h
set_option maxRecDepth 100000 in
set_option maxHeartbeats 4000000 in
theorem rread_neg (s : ByteArray) (hs : s.size ≤ 140737488351232) (h0s : 0 < s.size) (hm : s[0] = 45) (w : World) :
    Calls Try.prog 34 #[.string s] w (fun e w' => e = .returned (numV (numR (tx s))) ∧ w = w') := by
  obtain ⟨d, hd⟩ : ∃ d, d = s.extract 1 s.size := ⟨_, rfl⟩
  have q45 : ((s[0].toNat : Int) == 45) = true := by rw [hm]; rfl
  have HDS : Kept (d.size ≤ 140737488351232) := ⟨by rw [hd, ByteArray.size_extract]; omega⟩
  have HR : Kept (numR (tx s) = numD true (tx d)) := ⟨by
    obtain ⟨t, ht, ht2⟩ := tx_cons s h0s
    unfold numR
    rw [hd, ht2, ht, if_pos (by rw [hm]; rfl), List.tail_cons]⟩
  have HS0 : Kept (∀ h : 0 < d.size, d[0] = 48 → (tx s = [48] ↔ ¬ (1 < d.size ∨ true = true))) := ⟨fun h h48 => by
    obtain ⟨t, ht, ht2⟩ := tx_cons s h0s
    constructor
    · intro e
      rw [ht, hm] at e
      injection e with e
      exact absurd e (by decide)
    · intro e; exact absurd (.inr rfl) e⟩
  have h0' : 0 < (s.size : Int) := by omega
  have h1' : 1 ≤ s.size := h0s
  have HD := Kept.mk hd
  clear hs hm hd
  go_enter Try.func34, Try.ntmps34
  go_upto_region 6 with fail
  rewrite [← HD.out]
  clear HD h0' h1' q45
  have hds := tx_len d
  by_cases c0 : d.size = 0
  · have hv : Kept (numR (tx s) = .error 4) := ⟨by rw [HR.out]; unfold numD; rw [if_pos (tx_nil c0)]⟩
    have hE := isE_yes c0
    clear hds c0
    go_wp2_with fail
    go_returns
    exact ⟨by rw [hv.out]; rfl, rfl⟩
  · have hp : 0 < d.size := by omega
    have hE := isE_no hp
    obtain ⟨t, ht, _⟩ := tx_cons d hp
    have hne : tx d ≠ [] := by rw [ht]; simp
    have q48 := u8_eq (b := d[0]) (c := 48)
    have hhd : (tx d).head? = some d[0] := by rw [ht]; rfl
    have h1 : 1 ≤ d.size := hp
    by_cases c48 : d[0] = 48 ∧ (1 < d.size ∨ true = true)
    · have hv : Kept (numR (tx s) = .error 4) := ⟨by
        rw [HR.out]; unfold numD
        rw [if_neg hne, if_pos ⟨by rw [hhd, c48.1], by rw [tx_len]; exact c48.2⟩]⟩
      have q : ((d[0].toNat : Int) == 48) = true := by have h := q48; rw [decide_eq_true c48.1] at h; exact h
      have hz : (s.toList == [48]) = false := by rw [tx_eqb, decide_eq_false]; intro e; exact (HS0.out hp c48.1).1 e c48.2
      have hz2 : (s.toList != [48]) = true := by rw [bne, hz]; rfl
      clear c48 q48 hhd hne hds ht c0
      go_wp2_with fail
      all_goals go_returns
      all_goals exact ⟨by rw [hv.out]; rfl, rfl⟩
    · have HNZ : Kept (runB isD (tx d) = (tx d).length → decB (tx d) ≤ mxN true → d.size ≤ 19) := ⟨fun h1 h2 => by
        rcases Nat.lt_or_ge 19 d.size with h3 | h3
        · have h48 : d[0] ≠ 48 := fun e => c48 ⟨e, .inl (by omega)⟩
          have hg := decB_ge (d.size - 1) (tx d) (by rw [tx_len]; omega) ((run_alls _).1 h1) (by rw [hhd]; intro e; injection e with e; exact h48 e)
          have h10 : 10 ^ 19 ≤ 10 ^ (d.size - 1) := Nat.pow_le_pow_right (by decide) (by omega)
          have : (10 : Nat) ^ 19 = 10000000000000000000 := by decide
          unfold mxN at h2
          simp at h2
          omega
        · exact h3⟩
      have HN : Kept (numR (tx s) = if runB isD (tx d) ≠ (tx d).length then .error 4 else if 19 < (tx d).length then .error 10 else sgB true (decB (tx d))) := ⟨by
        rw [HR.out]; unfold numD sgB
        rw [if_neg hne, if_neg]
        rw [hhd]
        rintro ⟨h, h2⟩
        injection h with h
        exact c48 ⟨h, by rw [tx_len] at h2; exact h2⟩⟩
      have HQ : Kept (∀ P : Prop, ((((d[0].toNat : Int) == 48) = false) → P) → ((((d[0].toNat : Int) == 48) = true) → (s.toList == [48]) = true → (s.toList != [48]) = false → P) → P) := ⟨fun P f g => by
        by_cases e : d[0] = 48
        · have hz : (s.toList == [48]) = true := by rw [tx_eqb, decide_eq_true]; exact (HS0.out hp e).2 (fun h => c48 ⟨e, h⟩)
          exact g (by have h := q48; rw [decide_eq_true e] at h; exact h) hz (by rw [bne, hz]; rfl)
        · exact f (by have h := q48; rw [decide_eq_false e] at h; exact h)⟩
      rw [tx_len] at HN HNZ
      clear c48 q48 hhd hne hds ht c0
      refine HQ.out _ (fun q => ?_) (fun q q2 q3 => ?_)
      all_goals
        clear HQ
        go_wp2_with fail
        go_loopw [6] (fun v6 wr => DgI isD (tx d) v6 wr w) (fun v6 wr => d.size - (intOf v6).toNat)
        case atStart => exact ⟨0, rfl, rfl, ⟨Nat.zero_le _⟩⟩
        case round =>
          obtain ⟨i, rfl, rfl, HI⟩ := hrel
          have hszz := HDS.out
          have hrl := run_le isD (tx d)
          rw [tx_len] at hrl
          by_cases ci : i < d.size
          · have hb := run_at isD (tx d) i HI.out d[i] (tx_get d i ci)
            have ci' : (i : Int) < (d.size : Int) := by omega
            have f0 : 0 ≤ (i : Int) := by omega
            have hw : wrap64 ((i : Int) + 1) = (i : Int) + 1 := by simp only [wrap64]; omega
            by_cases cr : i < runB isD (tx d)
            · have hd := isD_iff.1 (hb.2 cr)
              have g1 : ¬ ((d[i].toNat : Int) < 48) := by omega
              have g2 : ¬ (57 < (d[i].toNat : Int)) := by omega
              have HC := Kept.mk cr
              clear hb cr hd hszz hrl
              go_wp2_with fail
              go_roundw
              case rel => exact ⟨i + 1, by first | rfl | (rw [hw]; rfl), rfl, ⟨HC.out⟩⟩
              case measure => first | exact less_step hw ci | (simp only [intOf]; omega)
            · have hv : Kept (numR (tx s) = .error 4) := ⟨by rw [HN.out, if_pos (by have := HI.out; omega)]⟩
              have hnd : isD d[i] = false := by cases e : isD d[i] with | false => rfl | true => exact absurd (hb.1 e) cr
              by_cases g1 : (d[i].toNat : Int) < 48
              · clear hb cr hnd hszz hrl
                go_wp2_with fail
                go_returns
                exact ⟨by rw [hv.out]; rfl, rfl⟩
              · have g2 : 57 < (d[i].toNat : Int) := by
                  unfold isD at hnd
                  simp only [Bool.and_eq_false_iff, decide_eq_false_iff_not] at hnd
                  omega
                clear hb cr hnd hszz hrl
                go_wp2_with fail
                go_returns
                exact ⟨by rw [hv.out]; rfl, rfl⟩
          · have hrr : runB isD (tx d) = d.size := by have := HI.out; omega
            have HN2 : Kept (numR (tx s) = if 19 < d.size then .error 10 else sgB true (decB (tx d))) := ⟨by rw [HN.out, if_neg (by omega)]⟩
            have HNZ2 : Kept (decB (tx d) ≤ mxN true → d.size ≤ 19) := ⟨HNZ.out hrr⟩
            have HOV : Kept (∀ i, ¬ decB ((tx d).take i) ≤ mxN true → numR (tx s) = .error 10) := ⟨fun i h => by
              rw [HN2.out]
              split
              · rfl
              · exact sgB_over (fun h2 => h (Nat.le_trans (decB_take_le _ _) h2))⟩
            have HAll : Kept (∀ i, (hi : i < d.size) → 48 ≤ d[i].toNat ∧ d[i].toNat ≤ 57) := ⟨fun i hi => isD_iff.1 ((run_at isD (tx d) i (by omega) d[i] (tx_get d i hi)).2 (by omega))⟩
            have ci' : ¬ ((i : Int) < (d.size : Int)) := by omega
            clear hszz hrl hrr ci HI
            go_wp2_with fail
            go_loopw [8, 7] (fun v8 v7 wr2 => RdD (tx d) true v8 v7 wr2 wr) (fun v8 v7 wr2 => d.size - (intOf v8).toNat)
            case atStart => exact ⟨0, rfl, by rfl, rfl, ⟨by simp, by simp [decB]⟩⟩
            case round =>
              obtain ⟨n, rfl, rfl, rfl, HX⟩ := hrel
              by_cases cn : n < d.size
              · obtain ⟨hx1, hx2⟩ := HX.out
                obtain ⟨g1, g2⟩ := HAll.out n cn
                have hst := decB_take (tx d) n d[n] (tx_get d n cn)
                have HOVn := HOV.out (n + 1)
                rw [hst] at HOVn
                have HSTE := Kept.mk hst
                have cn' : (n : Int) < (d.size : Int) := by omega
                have f0n : 0 ≤ (n : Int) := by omega
                have hwn : wrap64 ((n : Int) + 1) = (n : Int) + 1 := by have := HDS.out; simp only [wrap64]; omega
                have hdig : wrap64 ((d[n].toNat : Int) - 48) = (d[n].toNat : Int) - 48 := by simp only [wrap64]; omega
                have hdu : IntKind.u8.wrap ((d[n].toNat : Int) - 48) = (d[n].toNat : Int) - 48 := by simp only [IntKind.wrap, IntKind.bits, IntKind.signed]; simp; omega
                have HG := Kept.mk (And.intro g1 g2)
                have g1' : 48 ≤ (d[n].toNat : Int) := by omega
                have g2' : (d[n].toNat : Int) ≤ 57 := by omega
                have HCN := Kept.mk cn
                have HXX := Kept.mk hx2
                generalize decB ((tx d).take n) = x at hx2 HOVn HSTE HXX
                have hin : inI (sgn true x) := sgn_in.2 hx2
                clear hx1 hx2 g1 g2 hst
                by_cases cm : x * 10 ≤ mxN true
                · have HM : Kept (inI (sgn true (x * 10))) := ⟨sgn_in.2 cm⟩
                  by_cases cs : x * 10 + (d[n].toNat - 48) ≤ mxN true
                  · have HCS := Kept.mk cs
                    have HS1 : Kept (inI (sgn true (x * 10 + (d[n].toNat - 48)))) := ⟨sgn_in.2 cs⟩
                    have HIN := Kept.mk hin
                    clear cm cs hin HOVn
                    go_wp2_with (first
                      | (go_at_call 51; refine (rMul10 _ HIN.out _).mono ?_; rintro e w1 ⟨rfl, rfl⟩; rewrite [sgn_ten, okI_in HM.out])
                      | (go_at_call 52; refine (rSubD _ ((d[n].toNat : Int) - 48) HM.out ?hb _).mono ?_; (case hb => have := HG.out; omega); rintro e w1 ⟨rfl, rfl⟩; rewrite [show ((d[n].toNat : Int) - 48) = ((d[n].toNat - 48 : Nat) : Int) from by have := HG.out; omega, sgn_sub]; rewrite [okI_in HS1.out]))
                    go_roundw
                    case rel => exact ⟨n + 1, by first | rfl | (rw [hwn]; rfl), by rw [HSTE.out], rfl, ⟨by rw [tx_len]; exact HCN.out, by rw [HSTE.out]; exact HCS.out⟩⟩
                    case measure => first | exact less_step hwn HCN.out | (have := HCN.out; simp only [intOf]; omega)
                  · have hv : Kept (numR (tx s) = .error 10) := ⟨HOVn cs⟩
                    have HS1 : Kept (¬ inI (sgn true (x * 10 + (d[n].toNat - 48)))) := ⟨fun h => cs (sgn_in.1 h)⟩
                    have HIN := Kept.mk hin
                    clear cm cs hin HOVn
                    go_wp2_with (first
                      | (go_at_call 51; refine (rMul10 _ HIN.out _).mono ?_; rintro e w1 ⟨rfl, rfl⟩; rewrite [sgn_ten, okI_in HM.out])
                      | (go_at_call 52; refine (rSubD _ ((d[n].toNat : Int) - 48) HM.out ?hb _).mono ?_; (case hb => have := HG.out; omega); rintro e w1 ⟨rfl, rfl⟩; rewrite [show ((d[n].toNat : Int) - 48) = ((d[n].toNat - 48 : Nat) : Int) from by have := HG.out; omega, sgn_sub]; rewrite [okI_out HS1.out]))
                    go_returns
                    exact ⟨by rw [hv.out]; rfl, rfl⟩
                · have hv : Kept (numR (tx s) = .error 10) := ⟨HOVn (fun h => cm (by omega))⟩
                  have HM : Kept (¬ inI (sgn true (x * 10))) := ⟨fun h => cm (sgn_in.1 h)⟩
                  have HIN := Kept.mk hin
                  clear cm hin HOVn
                  go_wp2_with (first
                    | (go_at_call 51; refine (rMul10 _ HIN.out _).mono ?_; rintro e w1 ⟨rfl, rfl⟩; rewrite [sgn_ten, okI_out HM.out]))
                  go_returns
                  exact ⟨by rw [hv.out]; rfl, rfl⟩
              · obtain ⟨hx1, hx2⟩ := HX.out
                rw [tx_len] at hx1
                have hnn : n = d.size := by omega
                have hxx : (tx d).take n = tx d := by rw [hnn, ← tx_len, List.take_length]
                rw [hxx] at hx2
                have hv : Kept (numR (tx s) = .ok (sgn true (decB (tx d)))) := ⟨by rw [HN2.out, if_neg (by have := HNZ2.out hx2; omega)]; exact sgB_ok hx2⟩
                have HXX := Kept.mk hxx
                have cn' : ¬ ((n : Int) < (d.size : Int)) := by omega
                clear hx1 hx2 hnn hxx cn
                go_wp2_with fail
                go_returns
                exact ⟨by rw [hv.out, HXX.out]; rfl, rfl⟩
set_option maxRecDepth 100000 in
set_option maxHeartbeats 4000000 in
theorem rread_pos (s : ByteArray) (hs : s.size ≤ 140737488351232) (hm : (h0 : 0 < s.size) → s[0] ≠ 45) (w : World) :
    Calls Try.prog 34 #[.string s] w (fun e w' => e = .returned (numV (numR (tx s))) ∧ w = w') := by
  obtain ⟨d, hd⟩ : ∃ d, d = s := ⟨_, rfl⟩
  have HDS : Kept (d.size ≤ 140737488351232) := ⟨by rw [hd]; exact hs⟩
  have HR : Kept (numR (tx s) = numD false (tx d)) := ⟨by
    rw [hd]
    unfold numR
    rw [if_neg]
    intro h
    rcases Nat.eq_zero_or_pos s.size with h0 | h0
    · rw [tx_nil h0] at h; cases h
    · obtain ⟨t, ht, ht2⟩ := tx_cons s h0
      rw [ht] at h
      injection h with h
      exact hm h0 h⟩
  have HS0 : Kept (∀ h : 0 < d.size, d[0] = 48 → (tx s = [48] ↔ ¬ (1 < d.size ∨ false = true))) := ⟨fun h h48 => by
    subst hd
    obtain ⟨t, ht, ht2⟩ := tx_cons d h
    have hl := tx_len d
    rw [ht, h48] at hl ⊢
    rw [List.length_cons] at hl
    constructor
    · intro e
      injection e with _ e
      subst e
      simp at hl
      intro e2
      rcases e2 with e2 | e2
      · omega
      · cases e2
    · intro e
      have : t.length = 0 := by
        rcases Nat.lt_or_ge 1 d.size with h2 | h2
        · exact absurd (.inl h2) e
        · omega
      rw [List.length_eq_zero_iff.1 this]⟩
  have HQ0 : Kept (∀ P : Prop, (¬ (0 < (s.size : Int)) → P) → (0 < (s.size : Int) → 1 ≤ s.size → (∀ h : 0 < s.size, ((s[0].toNat : Int) == 45) = false) → P) → P) := ⟨fun P f g => by
    rcases Nat.eq_zero_or_pos s.size with h | h
    · exact f (by omega)
    · exact g (by omega) h (fun h0 => by have h := u8_eq (b := s[0]) (c := 45); rw [decide_eq_false (hm h0)] at h; exact h)⟩
  clear hs hm
  have HD := Kept.mk hd
  clear hd
  refine HQ0.out _ (fun k0 => ?_) (fun k0 k1 k2 => ?_)
  · clear HQ0
    obtain rfl := HD.out
    have c0 : d.size = 0 := by omega
    have hv : Kept (numR (tx d) = .error 4) := ⟨by rw [HR.out]; unfold numD; rw [if_pos (tx_nil c0)]⟩
    have hE := isE_yes c0
    clear c0 HD
    go_enter Try.func34, Try.ntmps34
    go_wp2_with fail
    go_returns
    exact ⟨by rw [hv.out]; rfl, rfl⟩
  · clear HQ0
    go_enter Try.func34, Try.ntmps34
    go_upto_region 6 with fail
    have hds := tx_len d
    obtain rfl := HD.out
    clear HD
    by_cases c0 : d.size = 0
    · have hv : Kept (numR (tx d) = .error 4) := ⟨by rw [HR.out]; unfold numD; rw [if_pos (tx_nil c0)]⟩
      have hE := isE_yes c0
      clear hds c0
      go_wp2_with fail
      go_returns
      exact ⟨by rw [hv.out]; rfl, rfl⟩
    · have hp : 0 < d.size := by omega
      have hE := isE_no hp
      obtain ⟨t, ht, _⟩ := tx_cons d hp
      have hne : tx d ≠ [] := by rw [ht]; simp
      have q48 := u8_eq (b := d[0]) (c := 48)
      have hhd : (tx d).head? = some d[0] := by rw [ht]; rfl
      have h1 : 1 ≤ d.size := hp
      by_cases c48 : d[0] = 48 ∧ (1 < d.size ∨ false = true)
      · have hv : Kept (numR (tx d) = .error 4) := ⟨by
          rw [HR.out]; unfold numD
          rw [if_neg hne, if_pos ⟨by rw [hhd, c48.1], by rw [tx_len]; exact c48.2⟩]⟩
        have q : ((d[0].toNat : Int) == 48) = true := by have h := q48; rw [decide_eq_true c48.1] at h; exact h
        have hz : (d.toList == [48]) = false := by rw [tx_eqb, decide_eq_false]; intro e; exact (HS0.out hp c48.1).1 e c48.2
        have hz2 : (d.toList != [48]) = true := by rw [bne, hz]; rfl
        clear c48 q48 hhd hne hds ht c0
        go_wp2_with fail
        all_goals go_returns
        all_goals exact ⟨by rw [hv.out]; rfl, rfl⟩
      · have HNZ : Kept (runB isD (tx d) = (tx d).length → decB (tx d) ≤ mxN false → d.size ≤ 19) := ⟨fun h1 h2 => by
          rcases Nat.lt_or_ge 19 d.size with h3 | h3
          · have h48 : d[0] ≠ 48 := fun e => c48 ⟨e, .inl (by omega)⟩
            have hg := decB_ge (d.size - 1) (tx d) (by rw [tx_len]; omega) ((run_alls _).1 h1) (by rw [hhd]; intro e; injection e with e; exact h48 e)
            have h10 : 10 ^ 19 ≤ 10 ^ (d.size - 1) := Nat.pow_le_pow_right (by decide) (by omega)
            have : (10 : Nat) ^ 19 = 10000000000000000000 := by decide
            unfold mxN at h2
            simp at h2
            omega
          · exact h3⟩
        have HN : Kept (numR (tx d) = if runB isD (tx d) ≠ (tx d).length then .error 4 else if 19 < (tx d).length then .error 10 else sgB false (decB (tx d))) := ⟨by
          rw [HR.out]; unfold numD sgB
          rw [if_neg hne, if_neg]
          rw [hhd]
          rintro ⟨h, h2⟩
          injection h with h
          exact c48 ⟨h, by rw [tx_len] at h2; exact h2⟩⟩
        have HQ : Kept (∀ P : Prop, ((((d[0].toNat : Int) == 48) = false) → P) → ((((d[0].toNat : Int) == 48) = true) → (d.toList == [48]) = true → (d.toList != [48]) = false → P) → P) := ⟨fun P f g => by
          by_cases e : d[0] = 48
          · have hz : (d.toList == [48]) = true := by rw [tx_eqb, decide_eq_true]; exact (HS0.out hp e).2 (fun h => c48 ⟨e, h⟩)
            exact g (by have h := q48; rw [decide_eq_true e] at h; exact h) hz (by rw [bne, hz]; rfl)
          · exact f (by have h := q48; rw [decide_eq_false e] at h; exact h)⟩
        rw [tx_len] at HN HNZ
        clear c48 q48 hhd hne hds ht c0
        refine HQ.out _ (fun q => ?_) (fun q q2 q3 => ?_)
        all_goals
          clear HQ
          go_wp2_with fail
          go_loopw [6] (fun v6 wr => DgI isD (tx d) v6 wr w) (fun v6 wr => d.size - (intOf v6).toNat)
          case atStart => exact ⟨0, rfl, rfl, ⟨Nat.zero_le _⟩⟩
          case round =>
            obtain ⟨i, rfl, rfl, HI⟩ := hrel
            have hszz := HDS.out
            have hrl := run_le isD (tx d)
            rw [tx_len] at hrl
            by_cases ci : i < d.size
            · have hb := run_at isD (tx d) i HI.out d[i] (tx_get d i ci)
              have ci' : (i : Int) < (d.size : Int) := by omega
              have f0 : 0 ≤ (i : Int) := by omega
              have hw : wrap64 ((i : Int) + 1) = (i : Int) + 1 := by simp only [wrap64]; omega
              by_cases cr : i < runB isD (tx d)
              · have hd := isD_iff.1 (hb.2 cr)
                have g1 : ¬ ((d[i].toNat : Int) < 48) := by omega
                have g2 : ¬ (57 < (d[i].toNat : Int)) := by omega
                have HC := Kept.mk cr
                clear hb cr hd hszz hrl
                go_wp2_with fail
                go_roundw
                case rel => exact ⟨i + 1, by first | rfl | (rw [hw]; rfl), rfl, ⟨HC.out⟩⟩
                case measure => first | exact less_step hw ci | (simp only [intOf]; omega)
              · have hv : Kept (numR (tx d) = .error 4) := ⟨by rw [HN.out, if_pos (by have := HI.out; omega)]⟩
                have hnd : isD d[i] = false := by cases e : isD d[i] with | false => rfl | true => exact absurd (hb.1 e) cr
                by_cases g1 : (d[i].toNat : Int) < 48
                · clear hb cr hnd hszz hrl
                  go_wp2_with fail
                  go_returns
                  exact ⟨by rw [hv.out]; rfl, rfl⟩
                · have g2 : 57 < (d[i].toNat : Int) := by
                    unfold isD at hnd
                    simp only [Bool.and_eq_false_iff, decide_eq_false_iff_not] at hnd
                    omega
                  clear hb cr hnd hszz hrl
                  go_wp2_with fail
                  go_returns
                  exact ⟨by rw [hv.out]; rfl, rfl⟩
            · have hrr : runB isD (tx d) = d.size := by have := HI.out; omega
              have HN2 : Kept (numR (tx d) = if 19 < d.size then .error 10 else sgB false (decB (tx d))) := ⟨by rw [HN.out, if_neg (by omega)]⟩
              have HNZ2 : Kept (decB (tx d) ≤ mxN false → d.size ≤ 19) := ⟨HNZ.out hrr⟩
              have HOV : Kept (∀ i, ¬ decB ((tx d).take i) ≤ mxN false → numR (tx d) = .error 10) := ⟨fun i h => by
                rw [HN2.out]
                split
                · rfl
                · exact sgB_over (fun h2 => h (Nat.le_trans (decB_take_le _ _) h2))⟩
              have HAll : Kept (∀ i, (hi : i < d.size) → 48 ≤ d[i].toNat ∧ d[i].toNat ≤ 57) := ⟨fun i hi => isD_iff.1 ((run_at isD (tx d) i (by omega) d[i] (tx_get d i hi)).2 (by omega))⟩
              have ci' : ¬ ((i : Int) < (d.size : Int)) := by omega
              clear hszz hrl hrr ci HI
              go_wp2_with fail
              go_loopw [8, 7] (fun v8 v7 wr2 => RdD (tx d) false v8 v7 wr2 wr) (fun v8 v7 wr2 => d.size - (intOf v8).toNat)
              case atStart => exact ⟨0, rfl, by rfl, rfl, ⟨by simp, by simp [decB]⟩⟩
              case round =>
                obtain ⟨n, rfl, rfl, rfl, HX⟩ := hrel
                by_cases cn : n < d.size
                · obtain ⟨hx1, hx2⟩ := HX.out
                  obtain ⟨g1, g2⟩ := HAll.out n cn
                  have hst := decB_take (tx d) n d[n] (tx_get d n cn)
                  have HOVn := HOV.out (n + 1)
                  rw [hst] at HOVn
                  have HSTE := Kept.mk hst
                  have cn' : (n : Int) < (d.size : Int) := by omega
                  have f0n : 0 ≤ (n : Int) := by omega
                  have hwn : wrap64 ((n : Int) + 1) = (n : Int) + 1 := by have := HDS.out; simp only [wrap64]; omega
                  have hdig : wrap64 ((d[n].toNat : Int) - 48) = (d[n].toNat : Int) - 48 := by simp only [wrap64]; omega
                  have hdu : IntKind.u8.wrap ((d[n].toNat : Int) - 48) = (d[n].toNat : Int) - 48 := by simp only [IntKind.wrap, IntKind.bits, IntKind.signed]; simp; omega
                  have HG := Kept.mk (And.intro g1 g2)
                  have g1' : 48 ≤ (d[n].toNat : Int) := by omega
                  have g2' : (d[n].toNat : Int) ≤ 57 := by omega
                  have HCN := Kept.mk cn
                  have HXX := Kept.mk hx2
                  generalize decB ((tx d).take n) = x at hx2 HOVn HSTE HXX
                  have hin : inI (sgn false x) := sgn_in.2 hx2
                  clear hx1 hx2 g1 g2 hst
                  by_cases cm : x * 10 ≤ mxN false
                  · have HM : Kept (inI (sgn false (x * 10))) := ⟨sgn_in.2 cm⟩
                    by_cases cs : x * 10 + (d[n].toNat - 48) ≤ mxN false
                    · have HCS := Kept.mk cs
                      have HS1 : Kept (inI (sgn false (x * 10 + (d[n].toNat - 48)))) := ⟨sgn_in.2 cs⟩
                      have HIN := Kept.mk hin
                      clear cm cs hin HOVn
                      go_wp2_with (first
                        | (go_at_call 51; refine (rMul10 _ HIN.out _).mono ?_; rintro e w1 ⟨rfl, rfl⟩; rewrite [sgn_ten, okI_in HM.out])
                        | (go_at_call 53; refine (rAddD _ ((d[n].toNat : Int) - 48) HM.out ?hb _).mono ?_; (case hb => have := HG.out; omega); rintro e w1 ⟨rfl, rfl⟩; rewrite [show ((d[n].toNat : Int) - 48) = ((d[n].toNat - 48 : Nat) : Int) from by have := HG.out; omega, sgn_add]; rewrite [okI_in HS1.out]))
                      go_roundw
                      case rel => exact ⟨n + 1, by first | rfl | (rw [hwn]; rfl), by rw [HSTE.out], rfl, ⟨by rw [tx_len]; exact HCN.out, by rw [HSTE.out]; exact HCS.out⟩⟩
                      case measure => first | exact less_step hwn HCN.out | (have := HCN.out; simp only [intOf]; omega)
                    · have hv : Kept (numR (tx d) = .error 10) := ⟨HOVn cs⟩
                      have HS1 : Kept (¬ inI (sgn false (x * 10 + (d[n].toNat - 48)))) := ⟨fun h => cs (sgn_in.1 h)⟩
                      have HIN := Kept.mk hin
                      clear cm cs hin HOVn
                      go_wp2_with (first
                        | (go_at_call 51; refine (rMul10 _ HIN.out _).mono ?_; rintro e w1 ⟨rfl, rfl⟩; rewrite [sgn_ten, okI_in HM.out])
                        | (go_at_call 53; refine (rAddD _ ((d[n].toNat : Int) - 48) HM.out ?hb _).mono ?_; (case hb => have := HG.out; omega); rintro e w1 ⟨rfl, rfl⟩; rewrite [show ((d[n].toNat : Int) - 48) = ((d[n].toNat - 48 : Nat) : Int) from by have := HG.out; omega, sgn_add]; rewrite [okI_out HS1.out]))
                      go_returns
                      exact ⟨by rw [hv.out]; rfl, rfl⟩
                  · have hv : Kept (numR (tx d) = .error 10) := ⟨HOVn (fun h => cm (by omega))⟩
                    have HM : Kept (¬ inI (sgn false (x * 10))) := ⟨fun h => cm (sgn_in.1 h)⟩
                    have HIN := Kept.mk hin
                    clear cm hin HOVn
                    go_wp2_with (first
                      | (go_at_call 51; refine (rMul10 _ HIN.out _).mono ?_; rintro e w1 ⟨rfl, rfl⟩; rewrite [sgn_ten, okI_out HM.out]))
                    go_returns
                    exact ⟨by rw [hv.out]; rfl, rfl⟩
                · obtain ⟨hx1, hx2⟩ := HX.out
                  rw [tx_len] at hx1
                  have hnn : n = d.size := by omega
                  have hxx : (tx d).take n = tx d := by rw [hnn, ← tx_len, List.take_length]
                  rw [hxx] at hx2
                  have hv : Kept (numR (tx d) = .ok (sgn false (decB (tx d)))) := ⟨by rw [HN2.out, if_neg (by have := HNZ2.out hx2; omega)]; exact sgB_ok hx2⟩
                  have HXX := Kept.mk hxx
                  have cn' : ¬ ((n : Int) < (d.size : Int)) := by omega
                  clear hx1 hx2 hnn hxx cn
                  go_wp2_with fail
                  go_returns
                  exact ⟨by rw [hv.out, HXX.out]; rfl, rfl⟩
theorem rread_any (s : ByteArray) (hs : s.size ≤ 140737488351232) (w : World) :
    Calls Try.prog 34 #[.string s] w (fun e w' => e = .returned (numV (numR (tx s))) ∧ w = w') := by
  by_cases h : ∃ h0 : 0 < s.size, s[0] = 45
  · obtain ⟨h0, hm⟩ := h
    exact rread_neg s hs h0 hm w
  · exact rread_pos s hs (fun h0 hm => h ⟨h0, hm⟩) w
end Go.Proofs.Ytmibpaegcbaaaaa
