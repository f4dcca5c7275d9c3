/- Layer 5 (value): a text as it is written, walked. -/
import Derived.Test.YtmibpaegcbaaaaaValR
import Derived.Deep.RegionLaw
import Derived.Deep.AppendLies
namespace Go.Proofs.Ytmibpaegcbaaaaa
open Go.RowKit
set_option linter.unusedVariables false
set_option linter.unusedSimpArgs false

section
variable {P : Program} {ops : Array Oper} {o : Oper} {a : Act} {K : Act → World → Prop} {Q : Exit → Act → World → Prop} {E : Prop}
/-- append(v, x, y, z) inside of a region that draws. -/
theorem step_three {w0 W : World} (hgd : o.guard = none) (s x : Operand) (t e : TypeId) (z : Value) (bytes : Nat)
    (ho : o.op = .call { callee := .builtin .append, args := #[s, x], argTypes := #[t, t] })
    (ht : P.underlying t = some (.slice e)) (hinfo : (P.info? e).map (fun i => (i.zero, i.size, i.bytes)) = some (some z, 1, bytes)) (hz : z.cells.size = 1) (hb0 : 0 < bytes)
    (v : Value) (xs : List Value) (y0 y1 y2 : Value) (hs : a.eval s = v) (hx : a.eval x = .slice (some ⟨W.heap.size, 0, none⟩) 3 3) (h0 : y0.oneCell' = true) (h1 : y1.oneCell' = true) (h2 : y2.oneCell' = true)
    (HO : Own W w0.heap.size e v xs) (HB : Below w0.heap.size w0 W) (hl : (xs.length + 3) * bytes ≤ 140737488355328)
    (h : ∀ v1 r d, Own (xw w0 r d) w0.heap.size e v1 (xs ++ [y0, y1, y2]) → K (a.put o.dst v1) (xw w0 r d)) :
    if Region.wanted o (yielded ops a.tmps) = true then Oper.wp P o a (W.alloc (.cells #[y0, y1, y2] e)) K Q else E := by
  obtain ⟨i0, hi, hzz⟩ := Option.map_eq_some_iff.1 hinfo
  simp only [Prod.mk.injEq] at hzz
  obtain ⟨hz0, hz1, hz2⟩ := hzz
  have hlen : xs.length + 3 ≤ 140737488355328 := Nat.le_trans (Nat.le_mul_of_pos_right _ hb0) hl
  have hw : Region.wanted o (yielded ops a.tmps) = true := by simp [Region.wanted, hgd]
  rw [if_pos hw]
  refine wp_append_own (W.alloc (.cells #[y0, y1, y2] e)) s x t ho w0.heap.size e i0 z 1 bytes ht hi hz0 hz1 hz2 hz (by omega) v xs.length xs hs (HO.alloc _) ⟨W.heap.size, 0, none⟩ 3 3 [y0, y1, y2] hx rfl
    (fun j u hj => ?_) (by simp; exact ⟨h0, h1, h2⟩) (by simp only [maxLen]; omega) hl (by have := HB.size; simp; omega) ?_
  · match j, hj with
    | 0, hj => simp at hj; subst hj; simp [Addr.add]
    | 1, hj => simp at hj; subst hj; simp [Addr.add]
    | 2, hj => simp at hj; subst hj; simp [Addr.add]
  · intro v1 w1 hown hg _
    obtain ⟨r, d, rfl⟩ := grown_xw (HB.alloc HB.size (.cells #[y0, y1, y2] e)) hg (HO.base)
    refine h v1 r d ?_
    unfold Own
    simpa using hown
end
theorem digit_i (z : Int) (h0 : 0 ≤ z) (h : z < 16) (w : World) : Calls Try.prog 90 #[.int .u8 z] w (fun e w' => e = .returned (.int .u8 ((digN z.toNat).toNat : Int)) ∧ w = w') := by
  obtain ⟨n, rfl⟩ : ∃ n : Nat, z = (n : Int) := ⟨z.toNat, by omega⟩
  exact digit_any n (by omega) w
theorem digit_hi (b : UInt8) (w : World) : Calls Try.prog 90 #[.int .u8 ((b.toNat : Int) / 16)] w (fun e w' => e = .returned (.int .u8 ((digN (b.toNat / 16)).toNat : Int)) ∧ w = w') := by
  have := b.toNat_lt
  have h := digit_i ((b.toNat : Int) / 16) (by omega) (by omega) w
  rw [show ((b.toNat : Int) / 16).toNat = b.toNat / 16 by omega] at h
  exact h
theorem digit_lo (b : UInt8) (w : World) : Calls Try.prog 90 #[.int .u8 ((b.toNat : Int) % 16)] w (fun e w' => e = .returned (.int .u8 ((digN (b.toNat % 16)).toNat : Int)) ∧ w = w') := by
  have h := digit_i ((b.toNat : Int) % 16) (by omega) (by omega) w
  rw [show ((b.toNat : Int) % 16).toNat = b.toNat % 16 by omega] at h
  exact h
theorem and15_all : ∀ z : Fin 256, bits .and .u8 ((z.val : Nat) : Int) 15 = ((z.val % 16 : Nat) : Int) := by decide +kernel
theorem and15 (b : UInt8) : bits .and .u8 (b.toNat : Int) 15 = (b.toNat : Int) % 16 := by
  have h := and15_all ⟨b.toNat, b.toNat_lt⟩
  simp only at h
  rw [h]; omega
def ShI (s : ByteArray) (w : World) (i : Nat) (v : Value) (wr : World) : Prop :=
  i ≤ s.size ∧ Below w.heap.size w wr ∧ ∃ out : Bs, out.length ≤ 1 + 3 * i ∧ Own wr w.heap.size 5 v (u8s (nums out)) ∧ out ++ (bodyB ((tx s).drop i) ++ [39]) = showT (tx s)
def ShJ (s : ByteArray) (w : World) (v8 v3 : Value) (wr : World) : Prop := ∃ i : Nat, v8 = .int .i64 (i : Int) ∧ Kept (ShI s w i v3 wr)
set_option maxRecDepth 100000 in
set_option maxHeartbeats 2000000 in
theorem wshow_any (s : ByteArray) (hs : s.size ≤ 64) (w : World) :
    Calls Try.prog 88 #[.string s] w (fun e w' => e = .returned (.string (bs (showT (tx s)))) ∧ Below w.heap.size w w') := by
  have HS := Kept.mk hs
  clear hs
  go_enter Try.func88, Try.ntmps88
  go_wp2_with fail
  go_loopw [8, 3] (fun v8 v3 wr => ShJ s w v8 v3 wr) (fun v8 v3 wr => s.size - (intOf v8).toNat)
  case atStart => exact ⟨0, rfl, ⟨⟨Nat.zero_le _, (Below.refl _ _).alloc (Nat.le_refl _) _, [39], by simp, by simpa [nums, u8s] using Own.lit w _ 5 [.int .u8 39] (Nat.le_refl _) (by decide), by simp [showT]⟩⟩⟩
  case round =>
    obtain ⟨i, rfl, HI⟩ := hrel
    obtain ⟨hi, hBe, out, hol, hO, hE⟩ := HI.out
    have HO := Kept.mk hO
    have HB := Kept.mk hBe
    have HE := Kept.mk hE
    have HOL := Kept.mk hol
    clear HI hO hBe hE hol
    by_cases ci : i < s.size
    · have HD := Kept.mk (tx_dropc s i ci)
      have ci' : (i : Int) < (s.size : Int) := by omega
      have f0 : 0 ≤ (i : Int) := by omega
      have hw : wrap64 ((i : Int) + 1) = (i : Int) + 1 := by have := HS.out; simp only [wrap64]; omega
      have HCI := Kept.mk ci
      cases hp : plainB s[i] with
      | true =>
        have HK : Kept (bodyB (s[i] :: (tx s).drop (i + 1)) = s[i] :: bodyB ((tx s).drop (i + 1))) := ⟨by simp only [bodyB, hp, if_true]⟩
        go_wp2_with (first | (go_at_call 49; refine (plain_any _ _).mono ?_; rintro e w1 ⟨rfl, rfl⟩; rewrite [hp]) | ((at_builtin); refine app_one (w0 := w) (W := wr) rfl (.tmp 15) (.tmp 19) 37 5 (.int .u8 0) 1 rfl Try.underlying37 infoB8 rfl (by decide) _ (u8s (nums out)) (.int .u8 (s[i].toNat : Int)) rfl rfl rfl HO.out HB.out ?c1 ?_; (case c1 => rw [u8s_len, nums, List.length_map]; have := HOL.out; have := HS.out; omega); intro v1 r d HO2; have HO2 := Kept.mk HO2))
        go_roundw
        case rel =>
          refine ⟨i + 1, by rw [hw]; rfl, ⟨⟨HCI.out, xw_below _ _ _, out ++ [s[i]], by have := HOL.out; simp; omega, ?_, ?_⟩⟩⟩
          · have h := HO2.out
            rw [nums_app, u8s_app]
            exact h
          · rw [← HE.out, HD.out, HK.out]
            simp
        case measure => exact less_step hw HCI.out
      | false =>
        have HK : Kept (bodyB (s[i] :: (tx s).drop (i + 1)) = 92 :: digN (s[i].toNat / 16) :: digN (s[i].toNat % 16) :: bodyB ((tx s).drop (i + 1))) := ⟨by simp only [bodyB, hp]; rfl⟩
        go_wp2_with (first | (go_at_call 49; refine (plain_any _ _).mono ?_; rintro e w1 ⟨rfl, rfl⟩; rewrite [hp]))
        have ha := and15 s[i]
        have hb256 : (s[i].toNat : Int) < 256 := by have := s[i].toNat_lt; omega
        have HLEN : Kept (((u8s (nums out)).length + 3) * 1 ≤ 140737488355328) := ⟨by rw [u8s_len, nums, List.length_map]; have := HOL.out; have := HS.out; omega⟩
        go_region_law (first | (go_simp; go_at_call 90; refine (digit_i _ ?h0 ?h1 _).mono ?_; (case h0 => omega); (case h1 => omega); rintro e w1 ⟨rfl, rfl⟩) | (refine step_three (w0 := w) (W := wr.drew) rfl (.tmp 21) (.tmp 32) 37 5 (.int .u8 0) 1 rfl Try.underlying37 infoB8 rfl (by decide) _ (u8s (nums out)) _ _ _ rfl rfl rfl rfl rfl HO.out.drew HB.out.drew HLEN.out ?_; intro v1 r d HO2; have HO2 := Kept.mk HO2))
        all_goals
          go_wp2_with fail
          go_roundw
          case rel =>
            refine ⟨i + 1, by rw [hw]; rfl, ⟨⟨HCI.out, xw_below _ _ _, out ++ [92, digN (s[i].toNat / 16), digN (s[i].toNat % 16)], by have := HOL.out; simp; omega, ?_, ?_⟩⟩⟩
            · have h := HO2.out
              rw [show ((s[i].toNat : Int) / 16).toNat = s[i].toNat / 16 by omega, show ((s[i].toNat : Int) % 16).toNat = s[i].toNat % 16 by omega] at h
              rw [nums_app, u8s_app]
              exact h
            · rw [← HE.out, HD.out, HK.out]
              simp
          case measure => exact less_step hw HCI.out
    · have hd : (tx s).drop i = [] := List.drop_of_length_le (by rw [tx_len]; omega)
      have hx : Kept (out ++ [39] = showT (tx s)) := ⟨by have h := HE.out; rw [hd] at h; exact h⟩
      have ci' : ¬ ((i : Int) < (s.size : Int)) := by omega
      clear ci hd
      go_wp2_with (first | ((at_builtin); refine app_one (w0 := w) (W := wr) rfl (.tmp 35) (.tmp 36) 37 5 (.int .u8 0) 1 rfl Try.underlying37 infoB8 rfl (by decide) _ (u8s (nums out)) (.int .u8 39) rfl rfl rfl HO.out HB.out ?c1 ?_; (case c1 => rw [u8s_len, nums, List.length_map]; have := HOL.out; have := HS.out; omega); intro v1 r d HO2; have hc := own_string (P := Try.prog) (dst := 9) Try.underlying37 Try.underlying5 Try.underlying9 (xs := nums (out ++ [39])) (by rw [nums_app, u8s_app]; exact HO2); rw [strOf_nums, hx.out] at hc; clear HO2))
      go_returns
      exact ⟨rfl, xw_below _ _ _⟩

set_option maxRecDepth 100000 in
set_option maxHeartbeats 1000000 in
theorem show_txt (s : ByteArray) (hs : s.size ≤ 64) (w : World) :
    Calls Try.prog 18 #[va 2 0 s] w (fun e w' => e = .returned (.string (bs (showT (tx s)))) ∧ Below w.heap.size w w') := by
  go_enter Try.func18, Try.ntmps18
  go_wp2_with fail
  go_at_call 28
  refine (of_txt s hs _).mono ?_
  rintro e w1 ⟨rfl, hb1⟩
  obtain ⟨r1, d1, rfl⟩ := xw_of hb1
  clear hb1
  go_wp2_with (first | (go_at_call 88; refine (wshow_any s hs _).mono ?_; rintro e w2 ⟨rfl, hb2⟩; obtain ⟨r2, d2, rfl⟩ := xw_of hb2; clear hb2))
  go_returns
  exact ⟨rfl, below_xw ((Below.refl _ _).alloc (Nat.le_refl _) _) (by simp) _ _⟩
end Go.Proofs.Ytmibpaegcbaaaaa
