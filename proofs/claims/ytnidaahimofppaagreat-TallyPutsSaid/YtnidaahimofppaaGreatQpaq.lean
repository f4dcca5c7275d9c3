/- Layer 5 (value): a value's bytes, walked; the program's and the reference's. -/
import Derived.Test.YtnidaahimofppaaGreatQpab
import Derived.Test.YtnidaahimofppaaGreatQpaa
import Derived.Deep.RegionWith
namespace Go.Proofs.YtnidaahimofppaaGreat
open Go.RowKit
set_option linter.unusedVariables false
set_option linter.unusedSimpArgs false

/-- What is written of a value. -/
def bytesV (k n : Int) (s : ByteArray) : List Int := if mayV ⟨k, n, tx s⟩ = true then (if k = 1 then 1 :: intB n else 2 :: textB s) else []
theorem bytesV_num (n : Int) (s : ByteArray) (h : tx s = []) : bytesV 1 n s = 1 :: intB n := by
  unfold bytesV
  rw [if_pos (by simp [mayV, h]), if_pos rfl]
theorem bytesV_txt (s : ByteArray) (h : s.size ≤ 64) : bytesV 2 0 s = 2 :: textB s := by
  unfold bytesV
  rw [if_pos (by simp [mayV, tx_len]; omega), if_neg (by decide)]
theorem bytesV_no (k n : Int) (s : ByteArray) (h : mayV ⟨k, n, tx s⟩ = false) : bytesV k n s = [] := by
  unfold bytesV
  rw [h]; rfl
theorem bytesV_len (k n : Int) (h0 : -9223372036854775808 ≤ n) (hn : n ≤ 9223372036854775807) (s : ByteArray) : (bytesV k n s).length ≤ 75 := by
  cases hm : mayV ⟨k, n, tx s⟩ with
  | false => rw [bytesV_no _ _ _ hm]; simp
  | true =>
    rcases mayV_cases hm with ⟨rfl, h⟩ | ⟨rfl, rfl, h⟩
    · rw [bytesV_num n s h]
      have := enc_len10 (zig n) (zig_lt n h0 hn)
      simp only [intB, List.length_cons]; omega
    · rw [bytesV_txt s h]
      have := enc_len10 s.size (by omega)
      simp only [textB, List.length_cons, List.length_append, bytesOf_len]; omega
theorem bytesV_range (k n : Int) (s : ByteArray) : ∀ b ∈ bytesV k n s, 0 ≤ b ∧ b ≤ 255 := by
  intro b hb
  unfold bytesV at hb
  split at hb
  · split at hb
    · simp only [List.mem_cons] at hb
      rcases hb with rfl | hb
      · omega
      · exact enc_bytes _ b hb
    · simp only [List.mem_cons, textB, List.mem_append] at hb
      rcases hb with rfl | hb | hb
      · omega
      · exact enc_bytes _ b hb
      · exact bytesOf_range s b hb
  · simp at hb

set_option maxRecDepth 100000 in
set_option maxHeartbeats 1000000 in
theorem nbytes_any (n : Int) (h0 : -9223372036854775808 ≤ n) (hn : n ≤ 9223372036854775807) (w : World) :
    Calls Tryz.prog 125 #[.int .i64 n] w (RetB w (1 :: intB n)) := by
  have H0 := Kept.mk h0
  have HN := Kept.mk hn
  have L2 : Kept ((intB n).length ≤ 10) := ⟨enc_len10 _ (zig_lt n h0 hn)⟩
  clear h0 hn
  go_enter Tryz.func125, Tryz.ntmps125
  go_wp2_with (first
      | (go_at_call 127; refine (Int_any n H0.out HN.out _).mono ?_; rintro e w1 ⟨v1, rfl, hO, hb⟩; obtain ⟨r1, d1, rfl⟩ := xw_of hb; have hO1 := Kept.mk hO; clear hO hb)
      | ((at_builtin); refine app_own (w0 := w) (W := xw (w.alloc _) r1 d1) rfl (.tmp 3) (.tmp 5) 102 5 (.int .u8 0) 1 rfl Tryz.underlying102 infoB rfl (by decide) _ [.int .u8 1] (w.heap.size + 1) v1 (u8s (intB n)) rfl rfl (u8s_one _) ?c1 ?c2 ?c3 ?c4 ?_; (case c1 => exact (Own.lit w _ _ [_] (Nat.le_refl _) (by simp [maxLen])).xw r1 d1); (case c2 => simpa using hO1.out); (case c3 => exact below_xw ((Below.refl _ _).alloc (Nat.le_refl _) _) (by simp) r1 d1); (case c4 => have := L2.out; simp only [u8s_len, List.length_cons, List.length_nil]; omega); intro v2 r2 d2 HO2))
  go_ret
  exact ⟨_, rfl, HO2, xw_below _ _ _⟩
set_option maxRecDepth 100000 in
set_option maxHeartbeats 1000000 in
theorem wbytes_any (s : ByteArray) (hs : s.size ≤ 64) (w : World) :
    Calls Tryz.prog 129 #[.string s] w (RetB w (2 :: textB s)) := by
  have HS := Kept.mk hs
  have L2 : Kept ((textB s).length ≤ 74) := ⟨by have := enc_len10 s.size (by omega); simp only [textB, List.length_append, bytesOf_len]; omega⟩
  clear hs
  go_enter Tryz.func129, Tryz.ntmps129
  go_wp2_with (first
      | (go_at_call 131; refine (Text_any s (by have := HS.out; omega) _).mono ?_; rintro e w1 ⟨v1, rfl, hO, hb⟩; obtain ⟨r1, d1, rfl⟩ := xw_of hb; have hO1 := Kept.mk hO; clear hO hb)
      | ((at_builtin); refine app_own (w0 := w) (W := xw (w.alloc _) r1 d1) rfl (.tmp 3) (.tmp 5) 102 5 (.int .u8 0) 1 rfl Tryz.underlying102 infoB rfl (by decide) _ [.int .u8 2] (w.heap.size + 1) v1 (u8s (textB s)) rfl rfl (u8s_one _) ?c1 ?c2 ?c3 ?c4 ?_; (case c1 => exact (Own.lit w _ _ [_] (Nat.le_refl _) (by simp [maxLen])).xw r1 d1); (case c2 => simpa using hO1.out); (case c3 => exact below_xw ((Below.refl _ _).alloc (Nat.le_refl _) _) (by simp) r1 d1); (case c4 => have := L2.out; simp only [u8s_len, List.length_cons, List.length_nil]; omega); intro v2 r2 d2 HO2))
  go_ret
  exact ⟨_, rfl, HO2, xw_below _ _ _⟩
theorem RetB.up {w0 w : World} {xs : List Int} {v : Value} {w' : World} (hO : Own w' w.heap.size 5 v (u8s xs)) (hb : Below w0.heap.size w0 w) (hb2 : Below w.heap.size w w') : RetB w0 xs (.returned v) w' :=
  ⟨v, rfl, hO.mono hb.size, hb.trans (hb2.mono hb.size)⟩
set_option maxRecDepth 100000 in
set_option maxHeartbeats 1000000 in
theorem bytes_any (k n : Int) (h0 : -9223372036854775808 ≤ n) (hn : n ≤ 9223372036854775807) (s : ByteArray) (w : World) :
    Calls Tryz.prog 50 #[va k n s] w (RetB w (bytesV k n s)) := by
  cases hm : mayV ⟨k, n, tx s⟩ with
  | true =>
    rcases mayV_cases hm with ⟨rfl, h⟩ | ⟨rfl, rfl, h⟩
    · rw [bytesV_num n s h]
      have HT := Kept.mk h
      have H0 := Kept.mk h0
      have HN := Kept.mk hn
      clear hm h h0 hn
      go_enter Tryz.func50, Tryz.ntmps50
      go_wp2_with fail
      go_at_call 44
      refine (of_num n s HT.out _).mono ?_
      rintro e w1 ⟨rfl, hb1⟩
      have HB1 := Kept.mk (((Below.refl _ _).alloc (Nat.le_refl _) _).trans (hb1.mono (by simp)))
      clear hb1
      go_wp2_with (first
      | (go_at_call 125; refine (nbytes_any n H0.out HN.out _).mono ?_; rintro e w2 ⟨v2, rfl, hO, hb2⟩; have HO := Kept.mk hO; have HB2 := Kept.mk hb2; clear hO hb2))
      go_ret
      exact RetB.up HO.out HB1.out HB2.out
    · rw [bytesV_txt s h]
      have HT := Kept.mk h
      clear hm h h0 hn
      go_enter Tryz.func50, Tryz.ntmps50
      go_wp2_with fail
      go_at_call 44
      refine (of_txt s HT.out _).mono ?_
      rintro e w1 ⟨rfl, hb1⟩
      have HB1 := Kept.mk (((Below.refl _ _).alloc (Nat.le_refl _) _).trans (hb1.mono (by simp)))
      clear hb1
      go_wp2_with (first
      | (go_at_call 129; refine (wbytes_any s HT.out _).mono ?_; rintro e w2 ⟨v2, rfl, hO, hb2⟩; have HO := Kept.mk hO; have HB2 := Kept.mk hb2; clear hO hb2))
      go_ret
      exact RetB.up HO.out HB1.out HB2.out
  | false =>
    rw [bytesV_no _ _ _ hm]
    clear h0 hn
    have HM := Kept.mk hm
    clear hm
    go_enter Tryz.func50, Tryz.ntmps50
    go_wp2_with (first
      | (go_at_call 44; refine (of_no k n s HM.out _).mono ?_; rintro e w1 ⟨rfl, hb1⟩))
    go_ret
    exact ⟨_, rfl, Own.nil _ _ _, ((Below.refl _ _).alloc (Nat.le_refl _) _).trans (hb1.mono (by simp))⟩
end Go.Proofs.YtnidaahimofppaaGreat
