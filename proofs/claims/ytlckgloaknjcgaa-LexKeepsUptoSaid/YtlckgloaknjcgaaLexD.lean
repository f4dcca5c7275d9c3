/- LexKeeps: the walk. -/
import Derived.Test.YtlckgloaknjcgaaLexC
import Derived.Test.YtlckgloaknjcgaaLexE
namespace Go.Proofs.Ytlckgloaknjcgaa
open Go.RowKit
set_option linter.unusedVariables false
set_option linter.unusedSimpArgs false

theorem infoB8 : (Try.prog.info? 5).map (fun i => (i.zero, i.size, i.bytes)) = some (some (.int .u8 0), 1, 1) := by kernel_rfl
def nums (l : Bs) : List Int := l.map (fun b => (b.toNat : Int))
theorem nums_app (l m : Bs) : nums (l ++ m) = nums l ++ nums m := by simp [nums]
theorem strOf_nums (l : Bs) : strOfNums (nums l) = bs l := by
  have : ((nums l).map fun n => UInt8.ofNat n.toNat) = l := by
    simp only [nums, List.map_map]
    refine (List.map_congr_left (fun u _ => ?_)).trans (List.map_id _)
    simp
  simp only [strOfNums, this, bs]
def BaI (s : ByteArray) (w : World) (i : Nat) (j : Bool) (v : Value) (wr : World) : Prop :=
  i ≤ s.size ∧ Below w.heap.size w wr ∧ ∃ out : Bs, out.length ≤ i ∧ Own wr w.heap.size 5 v (u8s (nums out)) ∧ out ++ bareF j ((tx s).drop i) = bareF false (tx s)
def BaJ (s : ByteArray) (w : World) (v5 v4 v3 : Value) (wr : World) : Prop := ∃ (i : Nat) (j : Bool), v5 = .int .i64 (i : Int) ∧ v4 = .bool j ∧ Kept (BaI s w i j v3 wr)

set_option maxRecDepth 100000 in
set_option maxHeartbeats 2000000 in
theorem bare_any (s : ByteArray) (hs : s.size ≤ 4194304) (w : World) :
    Calls Try.prog 12 #[.string s] w (fun e w' => e = .returned (.string (bs (bareF false (tx s)))) ∧ Below w.heap.size w w') := by
  have HS := Kept.mk hs
  clear hs
  go_enter Try.func12, Try.ntmps12
  go_wp2_with fail
  go_loopw [5, 4, 3] (fun v5 v4 v3 wr => BaJ s w v5 v4 v3 wr) (fun v5 v4 v3 wr => s.size - (intOf v5).toNat)
  case atStart => exact ⟨0, false, rfl, rfl, ⟨⟨Nat.zero_le _, (Below.refl _ _).alloc (Nat.le_refl _) _, [], by simp, by simpa [nums, u8s] using Own.empty w _ _ (Nat.le_refl _), by simp⟩⟩⟩
  case round =>
    obtain ⟨i, j, rfl, rfl, HI⟩ := hrel
    obtain ⟨hi, hBe, out, hol, hO, hE⟩ := HI.out
    have HO := Kept.mk hO
    have HBE := Kept.mk hBe
    have HE := Kept.mk hE
    have HOL := Kept.mk hol
    have HII := Kept.mk hi
    clear HI hO hBe hE hol hi
    by_cases ci : i < s.size
    · have HD := Kept.mk (tx_dropc s i ci)
      have q39 := u8_39 s[i]
      have q32 := u8_eq (b := s[i]) (c := 32)
      have ci' : (i : Int) < (s.size : Int) := by omega
      have f0 : 0 ≤ (i : Int) := by omega
      have hw : wrap64 ((i : Int) + 1) = (i : Int) + 1 := by have := HS.out; simp only [wrap64]; omega
      have HCI := Kept.mk ci
      by_cases c39 : s[i] = 39
      · rw [decide_eq_true c39] at q39
        have p39 := eq_of_beq q39
        have p32 : ¬ ((s[i].toNat : Int) = 32) := by omega
        have b32 : ((s[i].toNat : Int) == 32) = false := by rw [beq_eq_false_iff_ne]; exact p32
        clear q32
        cases j with
        | true =>
          have HK : Kept (bareF true (s[i] :: (tx s).drop (i + 1)) = s[i] :: bareF false ((tx s).drop (i + 1))) := ⟨by
            rw [bare_keep (.inr (by rw [c39]; decide))]; rw [c39]; rfl⟩
          clear c39 p39
          go_wp2_with (first | ((at_builtin); refine app_one (w0 := w) (W := wr) rfl (.tmp 26) (.tmp 30) 45 5 (.int .u8 0) 1 rfl Try.underlying45 infoB8 rfl (by decide) _ (u8s (nums out)) (.int .u8 (s[i].toNat : Int)) rfl rfl rfl HO.out HBE.out ?c1 ?_; (case c1 => rw [u8s_len, nums, List.length_map]; have := HOL.out; have := HS.out; have := HII.out; omega); intro v1 r d HO2; have HO2 := Kept.mk HO2))
          go_roundw
          case rel =>
            refine ⟨i + 1, false, by rw [hw]; rfl, rfl, ⟨⟨HCI.out, xw_below _ _ _, out ++ [s[i]], by have := HOL.out; simp; omega, ?_, ?_⟩⟩⟩
            · have h := HO2.out
              rw [nums_app, u8s_app]
              exact h
            · rw [← HE.out, HD.out, HK.out]
              simp
          case measure => exact less_step hw HCI.out
        | false =>
          have HK : Kept (bareF false (s[i] :: (tx s).drop (i + 1)) = s[i] :: bareF true ((tx s).drop (i + 1))) := ⟨by
            rw [bare_keep (.inr (by rw [c39]; decide))]; rw [c39]; rfl⟩
          clear c39 p39
          go_wp2_with (first | ((at_builtin); refine app_one (w0 := w) (W := wr) rfl (.tmp 26) (.tmp 30) 45 5 (.int .u8 0) 1 rfl Try.underlying45 infoB8 rfl (by decide) _ (u8s (nums out)) (.int .u8 (s[i].toNat : Int)) rfl rfl rfl HO.out HBE.out ?c1 ?_; (case c1 => rw [u8s_len, nums, List.length_map]; have := HOL.out; have := HS.out; have := HII.out; omega); intro v1 r d HO2; have HO2 := Kept.mk HO2))
          go_roundw
          case rel =>
            refine ⟨i + 1, true, by rw [hw]; rfl, rfl, ⟨⟨HCI.out, xw_below _ _ _, out ++ [s[i]], by have := HOL.out; simp; omega, ?_, ?_⟩⟩⟩
            · have h := HO2.out
              rw [nums_app, u8s_app]
              exact h
            · rw [← HE.out, HD.out, HK.out]
              simp
          case measure => exact less_step hw HCI.out
      · rw [decide_eq_false c39] at q39
        have e39 : ∀ j, turn j s[i] = j := fun j => by simp [turn, c39]
        cases j with
        | true =>
          have HK : Kept (bareF true (s[i] :: (tx s).drop (i + 1)) = s[i] :: bareF true ((tx s).drop (i + 1))) := ⟨by
            rw [bare_keep (.inl (e39 true)), e39]⟩
          clear c39 q32 e39
          go_wp2_with (first | ((at_builtin); refine app_one (w0 := w) (W := wr) rfl (.tmp 26) (.tmp 30) 45 5 (.int .u8 0) 1 rfl Try.underlying45 infoB8 rfl (by decide) _ (u8s (nums out)) (.int .u8 (s[i].toNat : Int)) rfl rfl rfl HO.out HBE.out ?c1 ?_; (case c1 => rw [u8s_len, nums, List.length_map]; have := HOL.out; have := HS.out; have := HII.out; omega); intro v1 r d HO2; have HO2 := Kept.mk HO2))
          go_roundw
          case rel =>
            refine ⟨i + 1, true, by rw [hw]; rfl, rfl, ⟨⟨HCI.out, xw_below _ _ _, out ++ [s[i]], by have := HOL.out; simp; omega, ?_, ?_⟩⟩⟩
            · have h := HO2.out
              rw [nums_app, u8s_app]
              exact h
            · rw [← HE.out, HD.out, HK.out]
              simp
          case measure => exact less_step hw HCI.out
        | false =>
          by_cases c32 : s[i] = 32
          · rw [decide_eq_true c32] at q32
            have b32 : ((s[i].toNat : Int) == 32) = true := q32
            have p32 := eq_of_beq b32
            have HK : Kept (bareF false (s[i] :: (tx s).drop (i + 1)) = bareF false ((tx s).drop (i + 1))) := ⟨by rw [c32, bare_blank]⟩
            clear c39 c32 q32 e39
            go_wp2_with fail
            go_roundw
            case rel => exact ⟨i + 1, false, by rw [hw]; rfl, rfl, ⟨⟨HCI.out, HBE.out, out, by have := HOL.out; omega, HO.out, by rw [← HE.out, HD.out, HK.out]⟩⟩⟩
            case measure => exact less_step hw HCI.out
          · rw [decide_eq_false c32] at q32
            have b32 : ((s[i].toNat : Int) == 32) = false := q32
            have p32 := ne_of_beq_false b32
            have HK : Kept (bareF false (s[i] :: (tx s).drop (i + 1)) = s[i] :: bareF false ((tx s).drop (i + 1))) := ⟨by
              rw [bare_keep (.inr c32), e39]⟩
            clear c39 c32 q32 e39
            go_wp2_with (first | ((at_builtin); refine app_one (w0 := w) (W := wr) rfl (.tmp 26) (.tmp 30) 45 5 (.int .u8 0) 1 rfl Try.underlying45 infoB8 rfl (by decide) _ (u8s (nums out)) (.int .u8 (s[i].toNat : Int)) rfl rfl rfl HO.out HBE.out ?c1 ?_; (case c1 => rw [u8s_len, nums, List.length_map]; have := HOL.out; have := HS.out; have := HII.out; omega); intro v1 r d HO2; have HO2 := Kept.mk HO2))
            go_roundw
            case rel =>
              refine ⟨i + 1, false, by rw [hw]; rfl, rfl, ⟨⟨HCI.out, xw_below _ _ _, out ++ [s[i]], by have := HOL.out; simp; omega, ?_, ?_⟩⟩⟩
              · have h := HO2.out
                rw [nums_app, u8s_app]
                exact h
              · rw [← HE.out, HD.out, HK.out]
                simp
            case measure => exact less_step hw HCI.out
    · have hd : (tx s).drop i = [] := List.drop_of_length_le (by rw [tx_len]; omega)
      have hx : out = bareF false (tx s) := by have h := HE.out; rw [hd] at h; simpa [bareF] using h
      have hc := own_string (dst := 9) Try.underlying45 Try.underlying5 Try.underlying9 HO.out
      rw [strOf_nums, hx] at hc
      have ci' : ¬ ((i : Int) < (s.size : Int)) := by omega
      clear ci hd hx
      go_wp2_with fail
      go_returns
      exact ⟨rfl, HBE.out⟩

theorem split_sum (f : Nat) (l : Bs) (us : List Tok) (h : splitF f l = .ok us) : jl (texts us) ≤ 2 * l.length := by
  induction f generalizing l us with
  | zero => simp only [splitF, Except.ok.injEq] at h; subst h; simp [texts, jl]
  | succ f ih =>
    cases l with
    | nil => simp only [splitF, Except.ok.injEq] at h; subst h; simp [texts, jl]
    | cons b t =>
      simp only [splitF] at h
      split at h
      · have := ih t us h; simp; omega
      · split at h
        · cases h
        · rename_i k n hf
          obtain ⟨h1, h2⟩ := first_len hf
          split at h
          · cases h
          · rename_i r hr
            simp only [Except.ok.injEq] at h
            subst h
            have := ih _ _ hr
            simp only [texts, List.map_cons, jl, List.length_take, List.length_drop, List.length_cons] at this h2 ⊢
            omega
def KpI (ts : List Tok) (w : World) (i : Nat) (wr : World) : Prop := i ≤ ts.length ∧ Below w.heap.size w wr
def KpJ (ts : List Tok) (w w1 : World) (v5 : Value) (wr : World) : Prop := ∃ i : Nat, v5 = .int .i64 (i : Int) ∧ Kept (i ≤ ts.length ∧ Below w.heap.size w wr ∧ Below w1.heap.size w1 wr)
set_option maxRecDepth 100000 in
set_option maxHeartbeats 2000000 in
theorem LexKeeps_any (s : ByteArray) (hs : s.size ≤ 1048576) (w : World) :
    Calls Try.prog 4 #[.string s] w (fun e w' => e = .returned (.bool true) ∧ Below w.heap.size w w') := by
  have HS := Kept.mk hs
  clear hs
  go_enter Try.func4, Try.ntmps4
  go_wp2_with fail
  go_at_call 8
  refine (split_any s (by have := HS.out; omega) _).mono ?_
  rintro e w1 hS
  cases hq : splitB (tx s) with
  | error er =>
    obtain ⟨hb1, v, er', ts, rfl, hT, h2, h3⟩ := hS
    rw [hq] at h2
    have hne : er' ≠ 0 := by
      rintro rfl
      rw [if_pos rfl] at h2; cases h2
    have hts := h3 hne
    subst hts
    obtain ⟨A, c, rfl, _⟩ := hT
    have hE : s.toList.isEmpty = false := by
      refine notE s ?_
      rcases Nat.eq_zero_or_pos s.size with h0 | h0
      · have hx : tx s = [] := List.eq_nil_of_length_eq_zero (by rw [tx_len, h0])
        rw [hx] at hq; cases hq
      · exact h0
    have d0 : (er' != 0) = true := by simp [hne]
    have HB1 := Kept.mk hb1
    clear hq h2 h3 hb1
    go_wp2_with (first | (go_at_call 7; refine (live_any _).mono ?_; rintro e w2 ⟨rfl, hb2⟩; have HB2 := Kept.mk (HB1.out.trans (hb2.mono HB1.out.size)); clear hb2))
    go_returns
    exact ⟨rfl, HB2.out⟩
  | ok ts =>
    obtain ⟨hb1, v, rfl, hT⟩ := hS.ok hq
    obtain ⟨hbare, hmay⟩ := split_bare hq
    have hcnt := split_count _ _ _ hq
    rw [tx_len] at hcnt
    have HBa := Kept.mk hbare
    have HMay := Kept.mk hmay
    have HT := Kept.mk hT
    have HB1 := Kept.mk hb1
    obtain ⟨A, c, rfl, hA⟩ := hT
    have HA := Kept.mk hA
    have HC := Kept.mk hcnt
    have hsum := split_sum _ _ _ hq
    rw [tx_len] at hsum
    have HJ : Kept (jl (texts ts) + ts.length ≤ 4194304 ∧ ∀ i, (hi : i < ts.length) → (ts[i]).2.length ≤ 2097152) := ⟨by
      have := HS.out
      refine ⟨by omega, fun i hi => ?_⟩
      have := jl_take ts i hi
      omega⟩
    clear hbare hmay hcnt hb1 hA hS hq hsum
    go_wp2_with fail
    go_loopw [5] (fun v5 wr => KpJ ts w w1 v5 wr) (fun v5 wr => ts.length - (intOf v5).toNat)
    case atStart => exact ⟨0, rfl, ⟨⟨Nat.zero_le _, HB1.out, Below.refl _ _⟩⟩⟩
    case round =>
      obtain ⟨i, rfl, HI⟩ := hrel
      obtain ⟨hi, hBe, hB1e⟩ := HI.out
      have HBE := Kept.mk hBe
      have HBE1 := Kept.mk hB1e
      clear HI
      by_cases ci : i < ts.length
      · have hne : ts ≠ [] := by rintro rfl; simp at ci
        obtain ⟨b1, o1, rfl, hb1, hc1⟩ := HA.out hne
        obtain ⟨e0, e1⟩ := hc1 i ci
        rw [← World.cell?_of_block (w' := wr) (hB1e.block b1 hb1)] at e0 e1
        have hm := HMay.out ts[i] (List.getElem_mem ci)
        have hls : (bs (ts[i]).2).size ≤ 4194304 := by rw [bs_size]; have := HJ.out.2 i ci; omega
        generalize ts[i] = t at e0 e1 hm hls
        obtain ⟨k, l⟩ := t
        simp only at e0 e1 hm hls
        have HLS := Kept.mk hls
        have ci' : (i : Int) < (ts.length : Int) := by omega
        have f0 : 0 ≤ (i : Int) := by omega
        have hw : wrap64 ((i : Int) + 1) = (i : Int) + 1 := by have := HC.out; have := HS.out; simp only [wrap64]; omega
        have HCI := Kept.mk ci
        clear hc1 hne hi hBe hB1e hls
        go_wp2_with (first | (go_at_call 11; refine (pMay_any k (bs l) HLS.out _).mono ?_; rintro e w5 ⟨rfl, hb5⟩; rewrite [tx_bs]; rewrite [hm]; have HB5 := Kept.mk (HBE.out.trans (hb5.mono HBE.out.size)); have HB6 := Kept.mk (HBE1.out.trans (hb5.mono HBE1.out.size)); clear hb5))
        go_roundw
        case rel => exact ⟨i + 1, by rw [hw]; rfl, ⟨⟨HCI.out, HB5.out, HB6.out⟩⟩⟩
        case measure => exact less_step hw HCI.out
      · have ci' : ¬ ((i : Int) < (ts.length : Int)) := by omega
        have HTr := Kept.mk (HT.out.below HBE1.out)
        clear ci hBe hB1e hi
        go_wp2_with fail
        go_at_call 7
        refine (live_any _).mono ?_
        rintro e w2 ⟨rfl, hb2⟩
        have HT2 := Kept.mk (HTr.out.below hb2)
        have HB2 := Kept.mk (HBE.out.trans (hb2.mono HBE.out.size))
        clear hb2
        go_wp2_with fail
        go_at_call 13
        refine (join_any _ ts _ HT2.out (by have := HJ.out.1; omega) (by have := HJ.out.1; omega)).mono ?_
        rintro e w3 ⟨rfl, hb3⟩
        have HB3 := Kept.mk (HB2.out.trans (hb3.mono HB2.out.size))
        clear hb3
        go_wp2_with fail
        go_at_call 12
        refine (bare_any _ (by rw [bs_size]; have := join_len (texts ts); have := HJ.out.1; omega) _).mono ?_
        rintro e w4 ⟨rfl, hb4⟩
        have HB4 := Kept.mk (HB3.out.trans (hb4.mono HB3.out.size))
        clear hb4
        rewrite [tx_bs]
        rewrite [show bareF false (joinB (texts ts)) = bareF false (tx s) from HBa.out]
        go_wp2_with fail
        go_at_call 12
        refine (bare_any s (by have := HS.out; omega) _).mono ?_
        rintro e w5 ⟨rfl, hb5⟩
        have HB5 := Kept.mk (HB4.out.trans (hb5.mono HB4.out.size))
        clear hb5
        go_wp2_with fail
        go_returns
        exact ⟨rfl, HB5.out⟩
end Go.Proofs.Ytlckgloaknjcgaa
