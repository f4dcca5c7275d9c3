/- The functions that write numbers and texts (layer 3). -/
import Derived.Test.YthcgdlhmmgpbgaaBinW
import Derived.Test.YthcgdlhmmgpbgaaOwnS
import Derived.Lib.Zigzag
import Derived.Laws.Bits64
namespace Go.Proofs.Ythcgdlhmmgpbgaa
open Go.RowKit
set_option linter.unusedVariables false
set_option linter.unusedSimpArgs false

/-- What Num, Int, Text write. -/
def numB (n : Int) : List Int := if n < 0 then [] else enc n.toNat
def intB (n : Int) : List Int := enc (zig n)
def textB (s : ByteArray) : List Int := enc s.size ++ bytesOf s

set_option maxRecDepth 100000 in
set_option maxHeartbeats 1000000 in
theorem Num_any (n : Int) (hn : n ≤ 9223372036854775807) (w : World) : Calls Try.prog 71 #[.int .i64 n] w (RetB w (numB n)) := by
  go_enter Try.func71, Try.ntmps71
  unfold numB
  by_cases c : n < 0
  · rw [if_pos c]
    go_wp2
    go_ret
    exact ⟨_, rfl, Own.nil _ _ _, Below.refl _ _⟩
  · rw [if_neg c]
    obtain ⟨m, rfl⟩ : ∃ m : Nat, n = (m : Int) := ⟨n.toNat, by omega⟩
    have e : ((m : Int) % 18446744073709551616) = (m : Int) := by omega
    go_wp2_with (first | (go_at_call 80; refine (groups_any m (by omega) _).mono ?_; rintro e w' ⟨v, rfl, HO, HB⟩))
    go_ret
    exact ⟨_, rfl, HO, HB⟩

theorem zig_bits (n : Int) (h0 : -9223372036854775808 ≤ n) (hn : n ≤ 9223372036854775807) :
    bits .xor .u64 (IntKind.u64.wrap (IntKind.u64.wrap n * 2)) (IntKind.u64.wrap (n / 9223372036854775808)) = ((zig n : Nat) : Int) := by
  by_cases c : n < 0
  · have e1 : IntKind.u64.wrap (IntKind.u64.wrap n * 2) = (((2 * n + 18446744073709551616).toNat : Nat) : Int) := by
      rw [IntKind.wrap_u64, IntKind.wrap_u64]; omega
    have e2 : IntKind.u64.wrap (n / 9223372036854775808) = ((2 ^ 64 - 1 : Nat) : Int) := by
      rw [IntKind.wrap_u64]; omega
    rw [e1, e2, bits_xor_u64_nat _ _ (by omega) (by decide), Nat.xor_comm, Go.Lib.xor_ones64 _ (by omega)]
    unfold zig
    rw [if_pos c]
    omega
  · have e1 : IntKind.u64.wrap (IntKind.u64.wrap n * 2) = (((2 * n).toNat : Nat) : Int) := by
      rw [IntKind.wrap_u64, IntKind.wrap_u64]; omega
    have e2 : IntKind.u64.wrap (n / 9223372036854775808) = ((0 : Nat) : Int) := by
      rw [IntKind.wrap_u64]; omega
    rw [e1, e2, bits_xor_u64_nat _ _ (by omega) (by decide), Nat.xor_zero]
    unfold zig
    rw [if_neg c]
theorem zig_lt (n : Int) (h0 : -9223372036854775808 ≤ n) (hn : n ≤ 9223372036854775807) : zig n < 18446744073709551616 := by
  unfold zig; split <;> omega

theorem numB_len (n : Int) (hn : n ≤ 9223372036854775807) : (numB n).length ≤ 10 := by
  unfold numB; split
  · simp
  · exact enc_len10 _ (by omega)
theorem numB_nat (n : Nat) : numB (n : Int) = enc n := by
  unfold numB; rw [if_neg (by omega), Int.toNat_natCast]

set_option maxRecDepth 100000 in
set_option maxHeartbeats 1000000 in
theorem Text_any (s : ByteArray) (hs : s.size ≤ 140737488355328 - 4096) (w : World) : Calls Try.prog 56 #[.string s] w (RetB w (textB s)) := by
  go_enter Try.func56, Try.ntmps56
  have hl := enc_len10 s.size (by omega)
  go_wp2_with (first | (go_at_call 71; refine (Num_any _ (by omega) _).mono ?_; rintro e w' ⟨v, rfl, HO, HB⟩; rw [numB_nat] at HO; obtain ⟨r, d, rfl⟩ := xw_of HB; have HO := HO; have HB := HB) | ((at_builtin); refine app_str (w0 := w) (W := xw w r d) rfl (.tmp 5) (.tmp 6) 47 9 5 rfl Try.underlying47 Try.underlying9 infoB _ (u8s (enc s.size)) s rfl rfl HO HB ?c1 ?_; (case c1 => rw [u8s_len]; omega); intro v1 r1 d1 HO1))
  go_ret
  exact ⟨_, rfl, by unfold textB; rw [u8s_app]; exact HO1, xw_below _ _ _⟩

/-! ### the reference -/
set_option maxRecDepth 100000 in
set_option maxHeartbeats 1000000 in
theorem rGroups_any (x : Nat) (hx : x < 18446744073709551616) : ∀ (w : World), Calls Try.prog 81 #[.int .u64 x] w (RetB w (enc x)) := by
  induction x using Nat.strongRecOn with
  | ind x ih =>
    intro w
    have hl := enc_len10 (x / 128) (by omega)
    go_enter Try.func81, Try.ntmps81
    by_cases c : x < 128
    · rw [enc_low c]
      have e : (x : Int) % 256 = x := by omega
      go_wp2
      go_ret
      exact ⟨_, rfl, Own.lit w _ _ [.int .u8 (x : Int)] (Nat.le_refl _) (by simp [maxLen]), (Below.refl _ _).alloc (Nat.le_refl _) _⟩
    · rw [enc_high c]
      have e : IntKind.u8.wrap (((x : Int) % 128) + 128) = ((x % 128 + 128 : Nat) : Int) := by rw [IntKind.wrap_u8]; omega
      have hx2 : x / 128 < x := by omega
      go_wp2_with (first | (go_at_call 81; refine (ih (x / 128) hx2 (by omega) _).mono ?_; rintro e w' ⟨v, rfl, HO, HB⟩; obtain ⟨r, d, rfl⟩ := xw_of HB) | ((at_builtin); refine app_own (w0 := w) (W := xw (w.alloc _) r d) rfl (.tmp 12) (.tmp 15) 47 5 (.int .u8 0) 1 rfl Try.underlying47 infoB rfl (by decide) _ [.int .u8 ((x : Int) % 128 + 128)] (w.heap.size + 1) v (u8s (enc (x / 128))) rfl rfl (u8s_one _) ?c1 ?c2 ?c3 ?c4 ?_; (case c1 => exact (Own.lit w _ _ [_] (Nat.le_refl _) (by simp [maxLen])).xw r d); (case c2 => simpa using HO); (case c3 => exact below_xw ((Below.refl _ _).alloc (Nat.le_refl _) _) (by simp) r d); (case c4 => simp only [u8s_len, List.length_cons, List.length_nil]; omega); intro v1 r1 d1 HO1))
      go_ret
      refine ⟨_, rfl, ?_, xw_below _ _ _⟩
      have e2 : ((x % 128 + 128 : Nat) : Int) = (x : Int) % 128 + 128 := by omega
      show Own _ _ _ _ (.int .u8 ((x % 128 + 128 : Nat) : Int) :: u8s (enc (x / 128)))
      rw [e2]
      exact HO1
set_option maxRecDepth 100000 in
set_option maxHeartbeats 1000000 in
theorem rNum_any (n : Int) (hn : n ≤ 9223372036854775807) (w : World) : Calls Try.prog 72 #[.int .i64 n] w (RetB w (numB n)) := by
  go_enter Try.func72, Try.ntmps72
  unfold numB
  by_cases c : n < 0
  · rw [if_pos c]
    go_wp2
    go_ret
    exact ⟨_, rfl, Own.nil _ _ _, Below.refl _ _⟩
  · rw [if_neg c]
    obtain ⟨m, rfl⟩ : ∃ m : Nat, n = (m : Int) := ⟨n.toNat, by omega⟩
    have e : ((m : Int) % 18446744073709551616) = (m : Int) := by omega
    go_wp2_with (first | (go_at_call 81; refine (rGroups_any m (by omega) _).mono ?_; rintro e w' ⟨v, rfl, HO, HB⟩))
    go_ret
    exact ⟨_, rfl, HO, HB⟩
set_option maxRecDepth 100000 in
set_option maxHeartbeats 1000000 in
theorem rText_any (s : ByteArray) (hs : s.size ≤ 140737488355328 - 4096) (w : World) : Calls Try.prog 57 #[.string s] w (RetB w (textB s)) := by
  go_enter Try.func57, Try.ntmps57
  have hl := enc_len10 s.size (by omega)
  go_wp2_with (first | (go_at_call 72; refine (rNum_any _ (by omega) _).mono ?_; rintro e w' ⟨v, rfl, HO, HB⟩; rw [numB_nat] at HO; obtain ⟨r, d, rfl⟩ := xw_of HB) | (refine conv_str (w0 := w) (W := xw w r d) rfl (.tmp 6) 9 47 5 rfl Try.underlying9 Try.underlying47 Try.underlying5 s rfl HB ?_; intro g c r1 d1 hc hB1 hg1) | ((at_builtin); refine app_row (w0 := w) (W := xw w r1 d1) rfl (.tmp 5) (.tmp 7) 47 5 (.int .u8 0) 1 rfl Try.underlying47 infoB rfl (by decide) _ (u8s (enc s.size)) (u8s (bytesOf s)) (some ⟨g, 0, none⟩) c rfl ?c0 (u8s_one _) ?c1 (HO.below hB1) (xw_below _ _ _) ?c2 ?_; (case c0 => rw [u8s_len]; rfl); (case c1 => intro _; exact ⟨_, rfl, fun j u hu => by rw [add_lit0]; exact hc j u hu⟩); (case c2 => rw [u8s_len, u8s_len, bytesOf_len]; omega); intro v1 r2 d2 HO1))
  go_ret
  exact ⟨_, rfl, by unfold textB; rw [u8s_app]; exact HO1, xw_below _ _ _⟩
end Go.Proofs.Ythcgdlhmmgpbgaa
