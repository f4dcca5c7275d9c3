/- Layer 5 (value): what stands between quotes, walked. -/
import Derived.Test.YtmibpaegcbaaaaaValU
namespace Go.Proofs.Ytmibpaegcbaaaaa
open Go.RowKit
set_option linter.unusedVariables false
set_option linter.unusedSimpArgs false

theorem hex_q (b : UInt8) (w : World) (n : Nat) : Calls Try.prog 48 #[.int .u8 (b.toNat : Int)] (w.drewN n) (fun e w'' => e = .returned (.int .u8 (hexN b : Int)) ∧ ∃ m, w'' = w.drewN m) :=
  (hex_any b (w.drewN n)).mono (fun e w' h => ⟨h.1, n, h.2.symm⟩)
theorem infoB8 : (Try.prog.info? 5).map (fun i => (i.zero, i.size, i.bytes)) = some (some (.int .u8 0), 1, 1) := by kernel_rfl
def UqI (x : ByteArray) (w : World) (i : Nat) (v : Value) (wr : World) : Prop :=
  i ≤ x.size ∧ Below w.heap.size w wr ∧ ∃ out : Bs, out.length ≤ i ∧ Own wr w.heap.size 5 v (u8s (nums out)) ∧ (unqS .plain ((tx x).drop i)).map (out ++ ·) = unqS .plain (tx x)
def UqJ (x : ByteArray) (w : World) (v5 v4 : Value) (wr : World) : Prop := ∃ i : Nat, v5 = .int .i64 (i : Int) ∧ Kept (UqI x w i v4 wr)
/-- What the call says of what is read, or not. -/
def uqV : Option Bs → Value
  | none => .tuple #[.string ⟨#[]⟩, .bool false]
  | some t => .tuple #[.string (bs t), .bool true]
theorem inner (s : ByteArray) (h : 2 ≤ s.size) : tx (s.extract 1 (s.size - 1)) = (tx s).tail.dropLast := by
  rw [tx_cut, List.dropLast_eq_take, ← List.drop_one, List.length_drop, tx_len]
theorem lastB (s : ByteArray) (h : 2 ≤ s.size) : (tx s).getLast? = some (s[s.size - 1]'(by omega)) := by
  rw [List.getLast?_eq_getElem?, tx_len]
  exact tx_get s (s.size - 1) (by omega)
theorem us_short {t : Bs} (h : t.length < 2) : unqS .hi t = none := by
  match t, h with
  | [], _ => rfl
  | [a], _ => simp only [unqS]; split <;> rfl

set_option maxRecDepth 100000 in
set_option maxHeartbeats 2000000 in
theorem unquote_any (s : ByteArray) (hs : s.size ≤ 140737488351232) (w : World) :
    Calls Try.prog 31 #[.string s] w (fun e w' => Below w.heap.size w w' ∧ e = .returned (uqV (unqB (tx s)))) := by
  have HS0 := Kept.mk hs
  clear hs
  go_enter Try.func31, Try.ntmps31
  by_cases c2 : s.size < 2
  · have hv : Kept (unqB (tx s) = none) := ⟨by unfold unqB; rw [if_pos (.inl (by rw [tx_len]; exact c2))]⟩
    have c2' : (s.size : Int) < 2 := by omega
    clear c2
    go_wp2_with fail
    go_returns
    exact ⟨Below.refl _ _, by rw [hv.out]; rfl⟩
  · have h2 : 2 ≤ s.size := by omega
    have c2' : ¬ ((s.size : Int) < 2) := by omega
    have hw1 : wrap64 ((s.size : Int) - 1) = ((s.size - 1 : Nat) : Int) := by have := HS0.out; simp only [wrap64]; omega
    have fw0 : 0 ≤ ((s.size - 1 : Nat) : Int) := by omega
    have fw1 : s.size - 1 < s.size := by omega
    have fw2 : (1 : Int) ≤ ((s.size - 1 : Nat) : Int) := by omega
    have fw3 : ((s.size - 1 : Nat) : Int) ≤ (s.size : Int) := by omega
    have fw4 : 1 ≤ s.size - 1 := by omega
    have fw5 : s.size - 1 ≤ s.size := by omega
    by_cases cl : (s[s.size - 1]'fw1) = 39
    · have q1 : ((s[s.size - 1]'fw1).toNat : Int) = 39 := by rw [cl]; rfl
      have hv : Kept (unqB (tx s) = unqS .plain (tx (s.extract 1 (s.size - 1)))) := ⟨by
        unfold unqB
        rw [inner s h2, if_neg]
        rintro (h | h)
        · rw [tx_len] at h; omega
        · rw [lastB s h2, cl] at h; exact h rfl⟩
      have hxs : Kept ((s.extract 1 (s.size - 1)).size ≤ 140737488351232) := ⟨by rw [ByteArray.size_extract]; have := HS0.out; omega⟩
      clear cl c2
      go_wp2_with fail
      generalize s.extract 1 (s.size - 1) = x at hv hxs ⊢
      have HS := hxs
      have HV := hv
      clear q1 fw0 fw1 fw2 fw3 fw4 fw5 hw1 c2' h2 hv hxs
      go_loopw [5, 4] (fun v5 v4 wr => UqJ x w v5 v4 wr) (fun v5 v4 wr => x.size - (intOf v5).toNat)
      case atStart => exact ⟨0, rfl, ⟨⟨Nat.zero_le _, (Below.refl _ _).alloc (Nat.le_refl _) _, [], by simp, by simpa [nums, u8s] using Own.empty w _ _ (Nat.le_refl _), by simp⟩⟩⟩
      case round =>
        obtain ⟨i, rfl, HI⟩ := hrel
        obtain ⟨hi, hBe, out, hol, hO, hE⟩ := HI.out
        have HO := Kept.mk hO
        have HB := Kept.mk hBe
        have HE := Kept.mk hE
        have HOL := Kept.mk hol
        have HIL := Kept.mk hi
        clear HI hO hBe hE hol hi
        by_cases ci : i < x.size
        · have HD := Kept.mk (tx_dropc x i ci)
          have ci' : (i : Int) < (x.size : Int) := by omega
          have f0 : 0 ≤ (i : Int) := by omega
          obtain ⟨j, hj⟩ : ∃ j, j = i + 1 := ⟨_, rfl⟩
          obtain ⟨m, hm⟩ : ∃ m, m = i + 2 := ⟨_, rfl⟩
          obtain ⟨p, hpp⟩ : ∃ p, p = i + 3 := ⟨_, rfl⟩
          have hw1 : wrap64 ((i : Int) + 1) = (j : Int) := by have := HS.out; simp only [wrap64]; omega
          have hw2 : wrap64 ((i : Int) + 2) = (m : Int) := by have := HS.out; simp only [wrap64]; omega
          have hw3 : wrap64 ((m : Int) + 1) = (p : Int) := by have := HS.out; simp only [wrap64]; omega
          have hv1 : IntKind.i64.wrap ((i : Int) + 1) = (j : Int) := by rw [IntKind.wrap_i64]; have := HS.out; omega
          have hv2 : IntKind.i64.wrap ((i : Int) + 2) = (m : Int) := by rw [IntKind.wrap_i64]; have := HS.out; omega
          have f1 : 0 ≤ (j : Int) := by omega
          have f2 : 0 ≤ (m : Int) := by omega
          have HCI := Kept.mk ci
          have HJ := Kept.mk hj
          have HM := Kept.mk hm
          have HP := Kept.mk hpp
          clear hj hm hpp
          have q92 := u8_eq (b := x[i]) (c := 92)
          by_cases c92 : x[i] = 92
          · have q : ((x[i].toNat : Int) == 92) = true := by have h := q92; rw [decide_eq_true c92] at h; exact h
            have HC := Kept.mk c92
            clear c92 q92
            by_cases cm : m < x.size
            · have cm' : ¬ ((x.size : Int) ≤ (m : Int)) := by omega
              have cj : j < x.size := by have := HJ.out; have := HM.out; omega
              have cj' : (j : Int) < (x.size : Int) := by omega
              have HD1 : Kept ((tx x).drop i = 92 :: x[j] :: x[m] :: (tx x).drop p) := ⟨by
                have e1 := tx_dropc x j cj
                have e2 := tx_dropc x m cm
                have h1 := HJ.out
                have h2 := HM.out
                have h3 := HP.out
                rw [HD.out, HC.out, ← h1, e1, show j + 1 = m by omega, e2, show m + 1 = p by omega]⟩
              have HCM := Kept.mk cm
              by_cases k1 : hexN x[j] ≤ 15
              · have k1' : ¬ (15 < (hexN x[j] : Int)) := by omega
                by_cases k2 : hexN x[m] ≤ 15
                · have k2' : ¬ (15 < (hexN x[m] : Int)) := by omega
                  have hor := shl_or ⟨hexN x[j], by omega⟩ ⟨hexN x[m], by omega⟩
                  simp only at hor
                  rw [← byteN_nat k1 k2] at hor
                  have HK := Kept.mk (And.intro k1 k2)
                  clear k1 k2
                  cases hp : plainB (byteN (hexN x[j]) (hexN x[m])) with
                  | true =>
                    have HNO : Kept (unqB (tx s) = none) := ⟨by
                      rw [HV.out, ← HE.out, HD1.out]
                      simp only [unqS, if_true, HK.out.1, HK.out.2, hp, Option.map_none]⟩
                    go_wp2_with (first | (go_at_call 48; refine (hex_any _ _).mono ?_; rintro e w1 ⟨rfl, rfl⟩) | (go_at_call 49; refine (plain_any _ _).mono ?_; rintro e w1 ⟨rfl, rfl⟩; rewrite [hp]))
                    go_quiet ((go_at_call 48; exact hex_q _ _ _))
                    go_wp2_with (first | (go_at_call 48; refine (hex_any _ _).mono ?_; rintro e w1 ⟨rfl, rfl⟩) | (go_at_call 49; refine (plain_any _ _).mono ?_; rintro e w1 ⟨rfl, rfl⟩; rewrite [hp]))
                    go_returns
                    exact ⟨below_drewN HB.out _, by rw [HNO.out]; rfl⟩
                  | false =>
                    have HK2 : Kept (unqS .plain ((tx x).drop i) = (unqS .plain ((tx x).drop p)).map (byteN (hexN x[j]) (hexN x[m]) :: ·)) := ⟨by
                      rw [HD1.out]
                      simp only [unqS, if_true, HK.out.1, HK.out.2, hp]
                      rfl⟩
                    go_wp2_with (first | (go_at_call 48; refine (hex_any _ _).mono ?_; rintro e w1 ⟨rfl, rfl⟩) | (go_at_call 49; refine (plain_any _ _).mono ?_; rintro e w1 ⟨rfl, rfl⟩; rewrite [hp]))
                    go_quiet ((go_at_call 48; exact hex_q _ _ _))
                    generalize hwr : wr.drewN nq = wq
                    have HOq : Kept (Own wq w.heap.size 5 u4 (u8s (nums out))) := ⟨by rw [← hwr]; exact HO.out.drewN _⟩
                    have HBq : Kept (Below w.heap.size w wq) := ⟨by rw [← hwr]; exact below_drewN HB.out _⟩
                    clear hwr
                    generalize hbb : byteN (hexN x[j]) (hexN x[m]) = bb at hor hp HK2 ⊢
                    go_wp2_with (first | (go_at_call 48; refine (hex_any _ _).mono ?_; rintro e w1 ⟨rfl, rfl⟩) | (go_at_call 49; refine (plain_any _ _).mono ?_; rintro e w1 ⟨rfl, rfl⟩; rewrite [hp]) | ((at_builtin); refine app_one (w0 := w) (W := wq) rfl (.tmp 75) (.tmp 77) 37 5 (.int .u8 0) 1 rfl Try.underlying37 infoB8 rfl (by decide) _ (u8s (nums out)) (.int .u8 (bb.toNat : Int)) rfl rfl rfl HOq.out HBq.out ?c1 ?_; (case c1 => rw [u8s_len, nums, List.length_map]; have := HOL.out; have := HS.out; have := HIL.out; omega); intro v1 r d HO2; have HO2 := Kept.mk HO2))
                    go_roundw
                    case rel =>
                      refine ⟨p, by rw [hw3], ⟨⟨by have := HCM.out; have := HM.out; have := HP.out; omega, xw_below _ _ _, out ++ [bb], by have := HOL.out; have := HP.out; simp; omega, ?_, ?_⟩⟩⟩
                      · have h := HO2.out
                        rw [nums_app, u8s_app]
                        exact h
                      · rw [← HE.out, HK2.out, Option.map_map]
                        congr 1
                        funext z
                        simp
                    case measure =>
                      rw [hw3]
                      have := HCI.out
                      have := HP.out
                      simp only [intOf]
                      omega
                · have k2' : 15 < (hexN x[m] : Int) := by omega
                  have HNO : Kept (unqB (tx s) = none) := ⟨by
                    rw [HV.out, ← HE.out, HD1.out]
                    simp only [unqS, if_true, if_neg k2]
                    split <;> rfl⟩
                  clear k2
                  go_wp2_with (first | (go_at_call 48; refine (hex_any _ _).mono ?_; rintro e w1 ⟨rfl, rfl⟩))
                  go_returns
                  exact ⟨HB.out, by rw [HNO.out]; rfl⟩
              · have k1' : 15 < (hexN x[j] : Int) := by omega
                have HNO : Kept (unqB (tx s) = none) := ⟨by
                  rw [HV.out, ← HE.out, HD1.out]
                  simp only [unqS, if_true, if_neg k1, Option.map_none]⟩
                clear k1
                go_wp2_with (first | (go_at_call 48; refine (hex_any _ _).mono ?_; rintro e w1 ⟨rfl, rfl⟩))
                go_returns
                exact ⟨HB.out, by rw [HNO.out]; rfl⟩
            · have cm' : (x.size : Int) ≤ (m : Int) := by omega
              have HNO : Kept (unqB (tx s) = none) := ⟨by
                rw [HV.out, ← HE.out, HD.out, HC.out]
                simp only [unqS, if_true]
                rw [us_short (by rw [List.length_drop, tx_len]; have := HM.out; omega)]
                rfl⟩
              clear cm
              go_wp2_with (first | (go_at_call 48; refine (hex_any _ _).mono ?_; rintro e w1 ⟨rfl, rfl⟩))
              go_returns
              exact ⟨HB.out, by rw [HNO.out]; rfl⟩
          · have q : ((x[i].toNat : Int) == 92) = false := by have h := q92; rw [decide_eq_false c92] at h; exact h
            have HC := Kept.mk c92
            clear c92 q92
            cases hp : plainB x[i] with
            | true =>
              have HK2 : Kept (unqS .plain ((tx x).drop i) = (unqS .plain ((tx x).drop j)).map (x[i] :: ·)) := ⟨by
                rw [HD.out, HJ.out]
                simp only [unqS, if_neg HC.out, hp]
                rfl⟩
              go_wp2_with (first | (go_at_call 48; refine (hex_any _ _).mono ?_; rintro e w1 ⟨rfl, rfl⟩) | (go_at_call 49; refine (plain_any _ _).mono ?_; rintro e w1 ⟨rfl, rfl⟩; rewrite [hp]) | ((at_builtin); refine app_one (w0 := w) (W := wr) rfl (.tmp 75) (.tmp 77) 37 5 (.int .u8 0) 1 rfl Try.underlying37 infoB8 rfl (by decide) _ (u8s (nums out)) (.int .u8 (x[i].toNat : Int)) rfl rfl rfl HO.out HB.out ?c1 ?_; (case c1 => rw [u8s_len, nums, List.length_map]; have := HOL.out; have := HS.out; have := HIL.out; omega); intro v1 r d HO2; have HO2 := Kept.mk HO2))
              go_roundw
              case rel =>
                refine ⟨j, rfl, ⟨⟨by have := HCI.out; have := HJ.out; omega, xw_below _ _ _, out ++ [x[i]], by have := HOL.out; have := HJ.out; simp; omega, ?_, ?_⟩⟩⟩
                · have h := HO2.out
                  rw [nums_app, u8s_app]
                  exact h
                · rw [← HE.out, HK2.out, Option.map_map]
                  congr 1
                  funext z
                  simp
              case measure =>
                have := HCI.out
                have := HJ.out
                simp only [intOf]
                omega
            | false =>
              have HNO : Kept (unqB (tx s) = none) := ⟨by
                rw [HV.out, ← HE.out, HD.out]
                simp only [unqS, if_neg HC.out, hp]
                rfl⟩
              go_wp2_with (first | (go_at_call 49; refine (plain_any _ _).mono ?_; rintro e w1 ⟨rfl, rfl⟩; rewrite [hp]))
              go_returns
              exact ⟨HB.out, by rw [HNO.out]; rfl⟩
        · have hd : (tx x).drop i = [] := List.drop_of_length_le (by rw [tx_len]; omega)
          have hx : unqB (tx s) = some out := by rw [HV.out, ← HE.out, hd]; simp [unqS]
          have hc := own_string (dst := 9) Try.underlying37 Try.underlying5 Try.underlying9 HO.out
          rw [strOf_nums] at hc
          have HX := Kept.mk hx
          have ci' : ¬ ((i : Int) < (x.size : Int)) := by omega
          clear ci hd hx
          go_wp2_with fail
          go_returns
          exact ⟨HB.out, by rw [HX.out]; rfl⟩
    · have q1 : ¬ (((s[s.size - 1]'fw1).toNat : Int) = 39) := fun h => cl (UInt8.toNat_inj.1 (by have : (39 : UInt8).toNat = 39 := rfl; omega))
      have hv : Kept (unqB (tx s) = none) := ⟨by
        unfold unqB
        rw [if_pos]
        right
        rw [lastB s h2]
        intro h
        injection h with h
        exact cl h⟩
      clear cl c2
      go_wp2_with fail
      go_returns
      exact ⟨Below.refl _ _, by rw [hv.out]; rfl⟩
end Go.Proofs.Ytmibpaegcbaaaaa
