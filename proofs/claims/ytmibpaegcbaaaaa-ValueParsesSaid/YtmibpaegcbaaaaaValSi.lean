/- Layer 5 (value): a value written; layer 1's reference: a number written; walked. -/
import Derived.Test.YtmibpaegcbaaaaaValS
import Derived.Test.YtmibpaegcbaaaaaValQs
namespace Go.Proofs.Ytmibpaegcbaaaaa
open Go.RowKit
set_option linter.unusedVariables false
set_option linter.unusedSimpArgs false

theorem showV_num (n : Int) (s : ByteArray) (h : tx s = []) : showV ⟨1, n, tx s⟩ = showN n := by
  unfold showV
  rw [if_pos (by simp [mayV, h]), if_pos rfl]
theorem showV_txt (s : ByteArray) (h : s.size ≤ 64) : showV ⟨2, 0, tx s⟩ = showT (tx s) := by
  unfold showV
  rw [if_pos (by simp [mayV, tx_len]; omega), if_neg (by simp)]
theorem showV_no (k n : Int) (s : ByteArray) (h : mayV ⟨k, n, tx s⟩ = false) : showV ⟨k, n, tx s⟩ = [] := by
  unfold showV
  rw [h]; rfl
set_option maxRecDepth 100000 in
theorem nnshow_any (n : Int) (h0 : -9223372036854775808 ≤ n) (hn : n ≤ 9223372036854775807) (w : World) :
    Calls Try.prog 82 #[.int .i64 n] w (fun e w' => e = .returned (.string (bs (showN n))) ∧ Below w.heap.size w w') := by
  go_enter Try.func82, Try.ntmps82
  go_wp2_with (first | (go_at_call 84; refine (nshow_any n h0 hn _).mono ?_; rintro e w1 ⟨rfl, hb1⟩))
  go_returns
  exact ⟨rfl, hb1⟩
set_option maxRecDepth 100000 in
set_option maxHeartbeats 1000000 in
theorem show_any (k n : Int) (h0 : -9223372036854775808 ≤ n) (hn : n ≤ 9223372036854775807) (s : ByteArray) (w : World) :
    Calls Try.prog 18 #[va k n s] w (fun e w' => e = .returned (.string (bs (showV ⟨k, n, tx s⟩))) ∧ Below w.heap.size w w') := by
  cases hm : mayV ⟨k, n, tx s⟩ with
  | true =>
    rcases mayV_cases hm with ⟨rfl, h⟩ | ⟨rfl, rfl, h⟩
    · rw [showV_num n s h]
      have HT := Kept.mk h
      have H0 := Kept.mk h0
      have HN := Kept.mk hn
      clear hm h h0 hn
      go_enter Try.func18, Try.ntmps18
      go_wp2_with fail
      go_at_call 28
      refine (of_num n s HT.out _).mono ?_
      rintro e w1 ⟨rfl, hb1⟩
      obtain ⟨r1, d1, rfl⟩ := xw_of hb1
      clear hb1
      go_wp2_with (first | (go_at_call 82; refine (nnshow_any n H0.out HN.out _).mono ?_; rintro e w2 ⟨rfl, hb2⟩; obtain ⟨r2, d2, rfl⟩ := xw_of hb2; clear hb2))
      go_returns
      exact ⟨rfl, below_xw ((Below.refl _ _).alloc (Nat.le_refl _) _) (by simp) _ _⟩
    · rw [showV_txt s h]
      exact show_txt s h w
  | false =>
    rw [showV_no _ _ _ hm]
    clear h0 hn
    have HM := Kept.mk hm
    clear hm
    go_enter Try.func18, Try.ntmps18
    go_wp2_with (first | (go_at_call 28; refine (of_no k n s HM.out _).mono ?_; rintro e w1 ⟨rfl, hb1⟩))
    go_returns
    exact ⟨rfl, ((Below.refl _ _).alloc (Nat.le_refl _) _).trans (hb1.mono (by simp))⟩

/-! ### the reference -/
def preB (x : Nat) : Bs := if x < 10 then [] else digB (x / 10)
theorem preB_dig (x : Nat) : digB x = preB x ++ [digC x] := by
  unfold preB
  by_cases h : x < 10
  · rw [if_pos h, digB_low h]; rfl
  · rw [if_neg h, digB_high h]
theorem conv_bytes (wx : World) (l : Bs) : (convert 37 9 (.slice (some ⟨wx.heap.size, 0, none⟩) l.length l.length)).run Try.prog (wx.alloc (.cells (u8s (nums l)).toArray 5)) = .ok (.string (bs l)) (wx.alloc (.cells (u8s (nums l)).toArray 5)) := by
  have e : l.length = (nums l).length := by rw [nums, List.length_map]
  rw [e, ← strOf_nums]
  refine run_convert_bytes_arg _ 37 5 Try.underlying37 Try.underlying5 wx.heap.size 0 (nums l).length (nums l).length (nums l) rfl (fun i hi => ?_) 9 Try.underlying9
  rw [Nat.zero_add, Lib.cell_of_heap (heap_alloc_new wx _), List.getElem?_toArray, u8s, List.getElem?_map, List.getElem?_eq_getElem hi, List.getD_eq_getElem?_getD, List.getElem?_eq_getElem hi]
  rfl
theorem conv_one (b : UInt8) (wx : World) : (convert 37 9 (.slice (some ⟨wx.heap.size, 0, none⟩) 1 1)).run Try.prog (wx.alloc (.cells #[.int .u8 (b.toNat : Int)] 5)) = .ok (.string (bs [b])) (wx.alloc (.cells #[.int .u8 (b.toNat : Int)] 5)) := conv_bytes wx [b]
theorem conv_dig (x : Nat) (wx : World) : (convert 37 9 (.slice (some ⟨wx.heap.size, 0, none⟩) 1 1)).run Try.prog (wx.alloc (.cells #[.int .u8 (48 + (x : Int) % 10)] 5)) = .ok (.string (bs [digC x])) (wx.alloc (.cells #[.int .u8 (48 + (x : Int) % 10)] 5)) := by
  have h := conv_one (digC x) wx
  have e : (((digC x).toNat : Nat) : Int) = 48 + (x : Int) % 10 := by rw [digC_nat]; omega
  rw [e] at h
  exact h
def RsI (n : Nat) (w : World) (v0 v3 : Value) (wr : World) : Prop :=
  ∃ (x : Nat) (sfx : Bs) (r : Array Obj) (d : Nat), v0 = .int .i64 (x : Int) ∧ v3 = .string (bs (digC x :: sfx)) ∧ wr = xw w r d ∧ Kept (digB n = preB x ++ (digC x :: sfx) ∧ x ≤ 9223372036854775807)
set_option maxRecDepth 100000 in
set_option maxHeartbeats 1000000 in
theorem rshow_pos (n : Nat) (hn : n ≤ 9223372036854775807) (w : World) :
    Calls Try.prog 33 #[.int .i64 (n : Int)] w (fun e w' => e = .returned (.string (bs (digB n))) ∧ Below w.heap.size w w') := by
  have HN := Kept.mk hn
  have b1 : ((n : Int) == -9223372036854775808) = false := by rw [beq_eq_false_iff_ne]; omega
  have k1 := conv_dig n
  clear hn
  go_enter Try.func33, Try.ntmps33
  go_wp2_with fail
  have HP := Kept.mk (preB_dig n)
  have H19 : Kept ((digB n).length ≤ 19) := ⟨by have h := digB_19 (n : Int) (by omega) (by have := HN.out; omega); rwa [Int.natAbs_natCast] at h⟩
  rewrite [alloc_xw]
  clear k1 b1
  go_loopw [0, 3] (fun v0 v3 wr => RsI n w v0 v3 wr) (fun v0 v3 wr => (intOf v0).toNat)
  case atStart => exact ⟨n, [], _, _, rfl, rfl, rfl, ⟨HP.out, HN.out⟩⟩
  case round =>
    obtain ⟨x, sfx, r, d, rfl, rfl, rfl, HD⟩ := hrel
    clear HP
    by_cases cx : x < 10
    · have HE : Kept (digB n = digC x :: sfx) := ⟨by rw [HD.out.1]; unfold preB; rw [if_pos cx]; rfl⟩
      go_wp2_with fail
      go_returns
      exact ⟨by rw [HE.out]; rfl, xw_below _ _ _⟩
    · have HE : Kept (digB n = preB (x / 10) ++ (digC (x / 10) :: (digC x :: sfx)) ∧ x / 10 ≤ 9223372036854775807) := ⟨by
        have h := HD.out
        refine ⟨?_, by omega⟩
        rw [h.1]
        unfold preB
        rw [if_neg cx, preB_dig (x / 10), List.append_assoc]
        rfl⟩
      have hq : wrap64 ((x : Int) / 10) = (x : Int) / 10 := by
        have h := HD.out.2
        simp only [wrap64]; omega
      have k1 := conv_dig (x / 10)
      have e10 : ((x / 10 : Nat) : Int) = (x : Int) / 10 := by omega
      rw [e10] at k1
      have hz1 : (bs (digC x :: sfx)).size ≤ 19 := by
        have h := H19.out
        rw [HD.out.1] at h
        rw [bs_size]
        simp only [List.length_append] at h
        omega
      have hz2 : (bs [digC (x / 10)]).size ≤ 1 := by rw [bs_size]; simp
      clear HD e10
      go_wp2_with fail
      refine ⟨⟨x / 10, digC x :: sfx, _, _, by rw [hq]; rfl, congrArg Value.string (bs_app _ _), (alloc_xw _ _).trans (xw_xw _ _ _ _ _), HE⟩, ?_⟩
      rw [hq]
      simp [intOf]
      omega
set_option maxRecDepth 100000 in
set_option maxHeartbeats 1000000 in
theorem rshow_any (n : Int) (h0 : -9223372036854775808 ≤ n) (hn : n ≤ 9223372036854775807) (w : World) :
    Calls Try.prog 33 #[.int .i64 n] w (fun e w' => e = .returned (.string (bs (showN n))) ∧ Below w.heap.size w w') := by
  by_cases c : n < 0
  · by_cases cl : n = -9223372036854775808
    · subst cl
      have hv : Kept (bs (showN (-9223372036854775808)) = ⟨#[45, 57, 50, 50, 51, 51, 55, 50, 48, 51, 54, 56, 53, 52, 55, 55, 53, 56, 48, 56]⟩) := ⟨by
        simp [showN, digB_high, digB_low, digC, bs]⟩
      go_enter Try.func33, Try.ntmps33
      go_wp2_with fail
      go_returns
      exact ⟨by rw [hv.out]; rfl, Below.refl _ _⟩
    · have b1 : (n == -9223372036854775808) = false := by rw [beq_eq_false_iff_ne]; exact cl
      have hm : wrap64 (-n) = ((n.natAbs : Nat) : Int) := by simp only [wrap64]; omega
      have hv : Kept (showN n = 45 :: digB n.natAbs) := ⟨by unfold showN; rw [if_pos c]⟩
      have HA : Kept (n.natAbs ≤ 9223372036854775807) := ⟨by omega⟩
      have c' : decide (n < 0) = true := by simp [c]
      have hz : (bs (digB n.natAbs)).size ≤ 19 := by rw [bs_size]; exact digB_19 n h0 hn
      clear cl h0 hn
      go_enter Try.func33, Try.ntmps33
      go_wp2_with (first | (go_at_call 33; refine (rshow_pos n.natAbs HA.out _).mono ?_; rintro e w1 ⟨rfl, hb1⟩))
      go_returns
      refine ⟨?_, hb1⟩
      rw [hv.out]
      exact congrArg (fun b => Ending.returned (Value.string b)) (bs_app [45] (digB n.natAbs))
  · obtain ⟨m, rfl⟩ : ∃ m : Nat, n = (m : Int) := ⟨n.toNat, by omega⟩
    have e : showN (m : Int) = digB m := by unfold showN; rw [if_neg c, Int.natAbs_natCast]
    rw [e]
    exact rshow_pos m (by omega) w
end Go.Proofs.Ytmibpaegcbaaaaa
