/- A reader's groups put together. -/
import Derived.Test.YthcgdlhmmgpbgaaBinR
import Derived.Laws.BitsAllLaws
namespace Go.Proofs.Ythcgdlhmmgpbgaa
open Go.RowKit
set_option linter.unusedVariables false
set_option linter.unusedSimpArgs false

/-- What the groups from number i on come to, behind the number x that the earlier ones are. -/
def gl (m i x : Nat) (s : St) : Nat × St :=
  if s.1 ≠ 0 then (0, s) else match grp m i s.2 with
    | .ok (z, t) => (x + 2 ^ (7 * i) * z, (0, t))
    | .error e => (0, (e, []))
theorem gl_start (m : Nat) (s : St) : gl m 0 0 s = grpS m s := by
  unfold gl grpS
  by_cases c : s.1 = 0
  · simp only [ne_eq, c, not_true, if_false]
    cases grp m 0 s.2 with
    | ok p => simp
    | error e => rfl
  · simp [c]
def GI (g : Nat) (xs : List Int) (w : World) (s0 : St) (m : Nat) (v7 v12 : Value) (wr : World) : Prop :=
  ∃ (i x a' : Nat) (y' : Int), v12 = .int .i64 (i : Int) ∧ v7 = .int .u64 (x : Int) ∧ Kept (Rd wr g xs a' y') ∧ Kept (But g w wr) ∧ Kept (i ≤ m) ∧ Kept (x < 2 ^ (7 * i)) ∧ Kept (gl (m - i) i x (stOf xs a' y') = grpS m s0)

def GP (g : Nat) (xs : List Int) (s0 : St) (m : Nat) (w : World) (r : Ending) (w' : World) : Prop :=
  ∃ (x : Nat) (ok : Bool) (e : Int) (a' : Nat) (y' : Int), r = .returned (.tuple #[.int .u64 (x : Int), .bool ok, .int .i64 e]) ∧ Rd w' g xs a' y' ∧ But g w w' ∧ (ok = false → x = 0) ∧ (x, stOf xs a' (if e = 0 then y' else if y' = 0 then e else y')) = grpS m s0

theorem and127_small : ∀ z : Fin 256, bits .and .u8 ((z.val : Nat) : Int) 127 = ((z.val % 128 : Nat) : Int) := by decide +kernel
theorem and127 (b : Int) (h0 : 0 ≤ b) (h1 : b ≤ 255) : bits .and .u8 b 127 = b % 128 := by
  obtain ⟨n, rfl⟩ : ∃ n : Nat, b = (n : Int) := ⟨b.toNat, by omega⟩
  have h := and127_small ⟨n, by omega⟩
  simp only at h
  rw [h]; omega
theorem or_group (x i : Nat) (b : Int) (h0 : 0 ≤ b) (hx : x < 2 ^ (7 * i)) (hi : i ≤ 9) (h9 : i = 9 → b ≤ 1) :
    bits .or .u64 (x : Int) (IntKind.u64.wrap (b % 128 * 2 ^ (7 * i))) = ((x + 2 ^ (7 * i) * (b % 128).toNat : Nat) : Int) ∧ x + 2 ^ (7 * i) * (b % 128).toNat < 2 ^ (7 * (i + 1)) ∧ x + 2 ^ (7 * i) * (b % 128).toNat < 18446744073709551616 := by
  obtain ⟨n, rfl⟩ : ∃ n : Nat, b = (n : Int) := ⟨b.toNat, by omega⟩
  have e2 : (((n : Nat) : Int) % 128).toNat = n % 128 := by omega
  have e3 : ((n : Nat) : Int) % 128 * 2 ^ (7 * i) = ((n % 128 * 2 ^ (7 * i) : Nat) : Int) := by push_cast; rfl
  have hc : n % 128 * 2 ^ (7 * i) + 2 ^ (7 * i) ≤ 18446744073709551616 := by
    by_cases c : i = 9
    · subst c
      have : n ≤ 1 := by have := h9 rfl; omega
      have : n % 128 ≤ 1 := by omega
      omega
    · have : 2 ^ (7 * i) ≤ 2 ^ 56 := Nat.pow_le_pow_right (by decide) (by omega)
      have h2 : n % 128 * 2 ^ (7 * i) ≤ 127 * 2 ^ 56 := Nat.mul_le_mul (by omega) this
      omega
  have hpos : 0 < 2 ^ (7 * i) := Nat.pow_pos (by decide)
  rw [e2, e3]
  have e4 : IntKind.u64.wrap ((n % 128 * 2 ^ (7 * i) : Nat) : Int) = ((n % 128 * 2 ^ (7 * i) : Nat) : Int) := by rw [IntKind.wrap_u64]; omega
  rw [e4]
  refine ⟨?_, ?_, ?_⟩
  · rw [u64_or_nat _ _ (by omega) (by omega)]
    congr 1
    have := Nat.shiftLeft_add_eq_or_of_lt hx (n % 128)
    rw [Nat.shiftLeft_eq] at this
    rw [Nat.or_comm, ← this, Nat.mul_comm]; omega
  · rw [show 7 * (i + 1) = 7 * i + 7 by omega, Nat.pow_add]
    have : 2 ^ (7 * i) * (n % 128) ≤ 2 ^ (7 * i) * 127 := Nat.mul_le_mul_left _ (by omega)
    omega
  · rw [Nat.mul_comm]; omega

theorem gl_err9 (k i x : Nat) (b : Int) (t : List Int) (h : i = 9 ∧ 1 < b) : gl (k + 1) i x (0, b :: t) = (0, (4, [])) := by
  unfold gl; simp only [ne_eq, not_true, if_false, grp, if_pos h]
theorem gl_zero (k i x : Nat) (b : Int) (t : List Int) (h : ¬(i = 9 ∧ 1 < b)) (h0 : b = 0 ∧ 0 < i) : gl (k + 1) i x (0, b :: t) = (0, (4, [])) := by
  unfold gl; simp only [ne_eq, not_true, if_false, grp, if_neg h, if_pos h0, if_pos (show b < 128 by omega)]
theorem gl_done (k i x : Nat) (b : Int) (t : List Int) (hb : 0 ≤ b) (h : ¬(i = 9 ∧ 1 < b)) (h1 : b < 128) (h0 : ¬(b = 0 ∧ 0 < i)) : gl (k + 1) i x (0, b :: t) = (x + 2 ^ (7 * i) * (b % 128).toNat, (0, t)) := by
  unfold gl; simp only [ne_eq, not_true, if_false, grp, if_neg h, if_neg h0, if_pos h1]
  rw [show b % 128 = b by omega]
theorem gl_more (k i x : Nat) (b : Int) (t : List Int) (h : ¬(i = 9 ∧ 1 < b)) (h1 : ¬ b < 128) : gl (k + 1) i x (0, b :: t) = gl k (i + 1) (x + 2 ^ (7 * i) * (b % 128).toNat) (0, t) := by
  unfold gl; simp only [ne_eq, not_true, if_false, grp, if_neg h, if_neg h1]
  cases grp k (i + 1) t with
  | error e => rfl
  | ok p =>
    obtain ⟨z, t'⟩ := p
    simp only [Prod.mk.injEq, and_true]
    rw [show 7 * (i + 1) = 7 * i + 7 by omega, Nat.pow_add, Nat.mul_add, Nat.mul_assoc, show (2:Nat) ^ 7 * z = 128 * z from rfl]
    omega

set_option maxRecDepth 100000 in
set_option maxHeartbeats 1000000 in
theorem gather_any (g : Nat) (xs : List Int) (hxs : ∀ b ∈ xs, 0 ≤ b ∧ b ≤ 255) (a : Nat) (y : Int) (m : Nat) (hm : m ≤ 10) (w : World) (H : Rd w g xs a y) :
    Calls Try.prog 84 #[.func (.func 66) #[.pointer (some ⟨g, 0, none⟩)] #[], .int .i64 (m : Int)] w (GP g xs (stOf xs a y) m w) := by
  have HM := Kept.mk hm
  have HX := Kept.mk hxs
  have HR := Kept.mk H
  clear hm hxs H
  go_enter Try.func84, Try.ntmps84
  go_wp2
  go_loopw [7, 12] (fun v7 v12 wr => GI g xs w (stOf xs a y) m v7 v12 wr) (fun v7 v12 wr => m - (intOf v12).toNat)
  case atStart => exact ⟨0, 0, a, y, rfl, rfl, HR, ⟨But.refl _ _⟩, ⟨Nat.zero_le _⟩, ⟨by simp⟩, ⟨gl_start _ _⟩⟩
  case round =>
    obtain ⟨i, x, a', y', rfl, rfl, HR', HB, HI, HXX, HG⟩ := hrel
    by_cases ci : i < m
    · have HCI := Kept.mk ci
      have ci' : (i : Int) < (m : Int) := by omega
      clear ci
      by_cases cl : leftS (stOf xs a' y') = 0
      · have HL := Kept.mk cl
        clear cl
        go_wp2_with (first | (go_at_call 66; refine (pNext_any g xs a' y' wr HR'.out).mono ?_; rintro e w1 ⟨b, ok, a2, y2, rfl, H2, hB2, hst, hok⟩; (have : ok = false := by (cases ok with | false => rfl | true => exact absurd HL.out (hok.1 rfl))); subst this; clear hok; have HS := Kept.mk hst; have HR2 := Kept.mk H2; have HB2 := Kept.mk hB2; clear hst H2 hB2))
        go_returns
        refine ⟨0, false, 0, a2, y2, rfl, HR2.out, HB.out.trans HB2.out, fun _ => rfl, ?_⟩
        have := HCI.out
        rw [← HG.out, show m - i = (m - (i + 1)) + 1 by omega]
        have e1 := congrArg Prod.snd HS.out
        simp only at e1
        rw [if_pos rfl, e1]
        unfold gl byteS
        by_cases c : y' = 0
        · have hl := HL.out
          simp only [stOf, leftS, c, if_true] at hl ⊢
          have hn : xs.drop a' = [] := List.eq_nil_of_length_eq_zero (by omega)
          rw [hn]; simp [grp]
        · simp [stOf, c]
      · have hy : y' = 0 := Decidable.byContradiction fun c => cl (by unfold leftS stOf; rw [if_neg c])
        subst hy
        have hx : a' < xs.length := Decidable.byContradiction fun c => cl (by
          have : xs.length ≤ a' := by omega
          simp [leftS, stOf, List.drop_eq_nil_of_le this])
        obtain ⟨b, hb0⟩ : ∃ b, xs[a']? = some b := ⟨_, List.getElem?_eq_getElem hx⟩
        have hb := HX.out b (List.mem_of_getElem? hb0)
        obtain ⟨hb1, hb2⟩ := hb
        have hdrop : xs.drop a' = b :: xs.drop (a' + 1) := by
          rw [List.drop_eq_getElem_cons hx]
          have := List.getElem?_eq_getElem hx
          rw [hb0] at this
          injection this with this
          rw [← this]
        have HD := Kept.mk hdrop
        have HL := Kept.mk cl
        clear hdrop hb0 hx cl
        have hi9 : i ≤ 9 := by have := HM.out; have := HCI.out; omega
        have e7 : wrap64 (7 * (i : Int)) = 7 * (i : Int) := by simp only [wrap64]; omega
        have eand := and127 b hb1 hb2
        have HB0 := Kept.mk hb1
        by_cases c1 : i = 9 ∧ 1 < b
        · have HC1 := Kept.mk c1
          have d9 : ((i : Int) == 9) = true := by simp; omega
          obtain ⟨c9, c1⟩ := c1
          clear c9
          go_wp2_with (first | (go_at_call 66; refine (pNext_any g xs a' 0 wr HR'.out).mono ?_; rintro e w1 ⟨b', ok, a2, y2, rfl, H2, hB2, hst, hok⟩; (have : ok = true := hok.2 HL.out); subst this; clear hok; (have eb : b' = b := by (have := congrArg Prod.fst hst; simpa [byteS, stOf, HD.out] using this)); subst eb; (have es : stOf xs a2 y2 = (0, xs.drop (a' + 1)) := by (have := congrArg Prod.snd hst; simpa [byteS, stOf, HD.out] using this)); have HS := Kept.mk es; have HR2 := Kept.mk H2; have HB2 := Kept.mk hB2; clear hst H2 hB2 es))
          go_returns
          refine ⟨0, false, 4, a2, y2, rfl, HR2.out, HB.out.trans HB2.out, fun _ => rfl, ?_⟩
          have e2 : y2 = 0 := congrArg Prod.fst HS.out
          have e3 : stOf xs a' 0 = (0, b' :: xs.drop (a' + 1)) := by simp [stOf, HD.out]
          have := HCI.out
          rw [← HG.out, show m - i = (m - (i + 1)) + 1 by omega, e3, gl_err9 _ _ _ _ _ HC1.out]
          simp [e2, stOf]
        · obtain ⟨eor, hxn, hx64⟩ := or_group x i b hb1 HXX.out hi9 (fun e => Decidable.byContradiction fun c => c1 ⟨e, by omega⟩)
          have c1' : i = 9 → b ≤ 1 := fun e => Decidable.byContradiction fun c => c1 ⟨e, by omega⟩
          have HN := Kept.mk hxn
          have HC1 := Kept.mk c1
          generalize hxx : x + 2 ^ (7 * i) * (b % 128).toNat = xn at eor HN hx64
          have HXN := Kept.mk hxx
          clear hxn hxx c1
          by_cases c9 : i = 9
          · have c9' : b ≤ 1 := c1' c9
            have d9 : ((i : Int) == 9) = true := by simp; omega
            have c128 : b < 128 := by omega
            have HC8 := Kept.mk c128
            have ci0 : 0 < (i : Int) := by omega
            have ci0' : 0 < i := by omega
            clear c1' c9
            by_cases c0 : b = 0
            · have HC0 := Kept.mk (And.intro c0 ci0')
              have d0 : (b == 0) = true := by simp [c0]
              clear c0 ci0'
              go_wp2_with (first | (go_at_call 66; refine (pNext_any g xs a' 0 wr HR'.out).mono ?_; rintro e w1 ⟨b', ok, a2, y2, rfl, H2, hB2, hst, hok⟩; (have : ok = true := hok.2 HL.out); subst this; clear hok; (have eb : b' = b := by (have := congrArg Prod.fst hst; simpa [byteS, stOf, HD.out] using this)); subst eb; (have es : stOf xs a2 y2 = (0, xs.drop (a' + 1)) := by (have := congrArg Prod.snd hst; simpa [byteS, stOf, HD.out] using this)); have HS := Kept.mk es; have HR2 := Kept.mk H2; have HB2 := Kept.mk hB2; clear hst H2 hB2 es))
              go_returns
              refine ⟨0, false, 4, a2, y2, rfl, HR2.out, HB.out.trans HB2.out, fun _ => rfl, ?_⟩
              have e2 : y2 = 0 := congrArg Prod.fst HS.out
              have e3 : stOf xs a' 0 = (0, b' :: xs.drop (a' + 1)) := by simp [stOf, HD.out]
              have := HCI.out
              rw [← HG.out, show m - i = (m - (i + 1)) + 1 by omega, e3, gl_zero _ _ _ _ _ HC1.out HC0.out]
              simp [e2, stOf]
            · have HC0 : Kept (¬(b = 0 ∧ 0 < i)) := ⟨fun h => c0 h.1⟩
              have d0 : (b == 0) = false := by simp [c0]
              clear c0 ci0'
              go_wp2_with (first | (go_at_call 66; refine (pNext_any g xs a' 0 wr HR'.out).mono ?_; rintro e w1 ⟨b', ok, a2, y2, rfl, H2, hB2, hst, hok⟩; (have : ok = true := hok.2 HL.out); subst this; clear hok; (have eb : b' = b := by (have := congrArg Prod.fst hst; simpa [byteS, stOf, HD.out] using this)); subst eb; (have es : stOf xs a2 y2 = (0, xs.drop (a' + 1)) := by (have := congrArg Prod.snd hst; simpa [byteS, stOf, HD.out] using this)); have HS := Kept.mk es; have HR2 := Kept.mk H2; have HB2 := Kept.mk hB2; clear hst H2 hB2 es))
              go_returns
              refine ⟨xn, true, 0, a2, y2, rfl, HR2.out, HB.out.trans HB2.out, fun h => (Bool.noConfusion h), ?_⟩
              have e3 : stOf xs a' 0 = (0, b' :: xs.drop (a' + 1)) := by simp [stOf, HD.out]
              have := HCI.out
              rw [← HG.out, show m - i = (m - (i + 1)) + 1 by omega, e3, gl_done _ _ _ _ _ HB0.out HC1.out HC8.out HC0.out, HXN.out, if_pos rfl, HS.out]
          · have d9 : ((i : Int) == 9) = false := by simp; omega
            clear c1' c9
            by_cases c128 : b < 128
            · have HC8 := Kept.mk c128
              by_cases c0 : b = 0 ∧ 0 < i
              · have HC0 := Kept.mk c0
                obtain ⟨c0, ci0⟩ := c0
                have d0 : (b == 0) = true := by simp [c0]
                have ci0' : 0 < (i : Int) := by omega
                clear c0 ci0
                go_wp2_with (first | (go_at_call 66; refine (pNext_any g xs a' 0 wr HR'.out).mono ?_; rintro e w1 ⟨b', ok, a2, y2, rfl, H2, hB2, hst, hok⟩; (have : ok = true := hok.2 HL.out); subst this; clear hok; (have eb : b' = b := by (have := congrArg Prod.fst hst; simpa [byteS, stOf, HD.out] using this)); subst eb; (have es : stOf xs a2 y2 = (0, xs.drop (a' + 1)) := by (have := congrArg Prod.snd hst; simpa [byteS, stOf, HD.out] using this)); have HS := Kept.mk es; have HR2 := Kept.mk H2; have HB2 := Kept.mk hB2; clear hst H2 hB2 es))
                go_returns
                refine ⟨0, false, 4, a2, y2, rfl, HR2.out, HB.out.trans HB2.out, fun _ => rfl, ?_⟩
                have e2 : y2 = 0 := congrArg Prod.fst HS.out
                have e3 : stOf xs a' 0 = (0, b' :: xs.drop (a' + 1)) := by simp [stOf, HD.out]
                have := HCI.out
                rw [← HG.out, show m - i = (m - (i + 1)) + 1 by omega, e3, gl_zero _ _ _ _ _ HC1.out HC0.out]
                simp [e2, stOf]
              · have HC0 := Kept.mk c0
                by_cases c00 : b = 0
                · have ci0 : (i : Int) ≤ 0 := by omega
                  have d0 : (b == 0) = true := by simp [c00]
                  clear c0 c00
                  go_wp2_with (first | (go_at_call 66; refine (pNext_any g xs a' 0 wr HR'.out).mono ?_; rintro e w1 ⟨b', ok, a2, y2, rfl, H2, hB2, hst, hok⟩; (have : ok = true := hok.2 HL.out); subst this; clear hok; (have eb : b' = b := by (have := congrArg Prod.fst hst; simpa [byteS, stOf, HD.out] using this)); subst eb; (have es : stOf xs a2 y2 = (0, xs.drop (a' + 1)) := by (have := congrArg Prod.snd hst; simpa [byteS, stOf, HD.out] using this)); have HS := Kept.mk es; have HR2 := Kept.mk H2; have HB2 := Kept.mk hB2; clear hst H2 hB2 es))
                  go_returns
                  refine ⟨xn, true, 0, a2, y2, rfl, HR2.out, HB.out.trans HB2.out, fun h => (Bool.noConfusion h), ?_⟩
                  have e3 : stOf xs a' 0 = (0, b' :: xs.drop (a' + 1)) := by simp [stOf, HD.out]
                  have := HCI.out
                  rw [← HG.out, show m - i = (m - (i + 1)) + 1 by omega, e3, gl_done _ _ _ _ _ HB0.out HC1.out HC8.out HC0.out, HXN.out, if_pos rfl, HS.out]
                · have d0 : (b == 0) = false := by simp [c00]
                  clear c0 c00
                  go_wp2_with (first | (go_at_call 66; refine (pNext_any g xs a' 0 wr HR'.out).mono ?_; rintro e w1 ⟨b', ok, a2, y2, rfl, H2, hB2, hst, hok⟩; (have : ok = true := hok.2 HL.out); subst this; clear hok; (have eb : b' = b := by (have := congrArg Prod.fst hst; simpa [byteS, stOf, HD.out] using this)); subst eb; (have es : stOf xs a2 y2 = (0, xs.drop (a' + 1)) := by (have := congrArg Prod.snd hst; simpa [byteS, stOf, HD.out] using this)); have HS := Kept.mk es; have HR2 := Kept.mk H2; have HB2 := Kept.mk hB2; clear hst H2 hB2 es))
                  go_returns
                  refine ⟨xn, true, 0, a2, y2, rfl, HR2.out, HB.out.trans HB2.out, fun h => (Bool.noConfusion h), ?_⟩
                  have e3 : stOf xs a' 0 = (0, b' :: xs.drop (a' + 1)) := by simp [stOf, HD.out]
                  have := HCI.out
                  rw [← HG.out, show m - i = (m - (i + 1)) + 1 by omega, e3, gl_done _ _ _ _ _ HB0.out HC1.out HC8.out HC0.out, HXN.out, if_pos rfl, HS.out]
            · have HC8 := Kept.mk c128
              go_wp2_with (first | (go_at_call 66; refine (pNext_any g xs a' 0 wr HR'.out).mono ?_; rintro e w1 ⟨b', ok, a2, y2, rfl, H2, hB2, hst, hok⟩; (have : ok = true := hok.2 HL.out); subst this; clear hok; (have eb : b' = b := by (have := congrArg Prod.fst hst; simpa [byteS, stOf, HD.out] using this)); subst eb; (have es : stOf xs a2 y2 = (0, xs.drop (a' + 1)) := by (have := congrArg Prod.snd hst; simpa [byteS, stOf, HD.out] using this)); have HS := Kept.mk es; have HR2 := Kept.mk H2; have HB2 := Kept.mk hB2; clear hst H2 hB2 es))
              go_roundw
              case rel =>
                have e3 : stOf xs a' 0 = (0, b' :: xs.drop (a' + 1)) := by simp [stOf, HD.out]
                have hci := HCI.out
                refine ⟨i + 1, xn, a2, y2, by simp, rfl, HR2, ⟨HB.out.trans HB2.out⟩, ⟨by omega⟩, HN, ⟨?_⟩⟩
                rw [← HG.out, e3, HS.out, show m - i = (m - (i + 1)) + 1 by omega, gl_more _ _ _ _ _ HC1.out (by have := HC8.out; omega), HXN.out]
              case measure =>
                have hci := HCI.out
                first | (simp [intOf]; done) | (simp [intOf]; omega)
    · have ci' : ¬ ((i : Int) < (m : Int)) := by omega
      go_wp2
      go_returns
      refine ⟨0, false, 4, a', y', rfl, HR'.out, HB.out, fun _ => rfl, ?_⟩
      rw [← HG.out]
      have : m - i = 0 := by omega
      rw [this]
      unfold gl stOf
      by_cases c : y' = 0
      · simp [c, grp]
      · simp [c]
end Go.Proofs.Ythcgdlhmmgpbgaa
