/- The functions that write numbers and texts (layer 3). -/
import Derived.Test.YtnidaahimofppaaBinW
import Derived.Test.YtnidaahimofppaaOwnS
import Derived.Lib.Zigzag
import Derived.Laws.Bits64
namespace Go.Proofs.Ytnidaahimofppaa
open Go.RowKit
set_option linter.unusedVariables false
set_option linter.unusedSimpArgs false

/-- What Num, Int, Text write. -/
def numB (n : Int) : List Int := if n < 0 then [] else enc n.toNat
def intB (n : Int) : List Int := enc (zig n)
def textB (s : ByteArray) : List Int := enc s.size ++ bytesOf s

set_option maxRecDepth 100000 in
set_option maxHeartbeats 1000000 in
theorem Num_any (n : Int) (hn : n ≤ 9223372036854775807) (w : World) : Calls Try.prog 113 #[.int .i64 n] w (RetB w (numB n)) := by
  go_enter Try.func113, Try.ntmps113
  unfold numB
  by_cases c : n < 0
  · rw [if_pos c]
    go_wp2
    go_ret
    exact ⟨_, rfl, Own.nil _ _ _, Below.refl _ _⟩
  · rw [if_neg c]
    obtain ⟨m, rfl⟩ : ∃ m : Nat, n = (m : Int) := ⟨n.toNat, by omega⟩
    have e : ((m : Int) % 18446744073709551616) = (m : Int) := by omega
    go_wp2_with (first | (go_at_call 109; refine (groups_any m (by omega) _).mono ?_; rintro e w' ⟨v, rfl, HO, HB⟩))
    go_ret
    exact ⟨_, rfl, HO, HB⟩

theorem zig_bits (n : Int) (h0 : -9223372036854775808 ≤ n) (hn : n ≤ 9223372036854775807) :
    bits .xor .u64 (IntKind.u64.wrap (IntKind.u64.wrap n * 2)) (IntKind.u64.wrap (n / 9223372036854775808)) = ((zig n : Nat) : Int) := by
  by_cases c : n < 0
  · have e1 : IntKind.u64.wrap (IntKind.u64.wrap n * 2) = (((2 * n + 18446744073709551616).toNat : Nat) : Int) := by
      rw [IntKind.wrap_u64, IntKind.wrap_u64]; omega
    have e2 : IntKind.u64.wrap (n / 9223372036854775808) = ((2 ^ 64 - 1 : Nat) : Int) := by
      rw [IntKind.wrap_u64]; omega
    rw [e1, e2, bits_xor_u64_nat _ _ (by omega) (by decide), Nat.xor_comm, Go.Lib.xor_ones64 _ (by omega)]
    unfold zig
    rw [if_pos c]
    omega
  · have e1 : IntKind.u64.wrap (IntKind.u64.wrap n * 2) = (((2 * n).toNat : Nat) : Int) := by
      rw [IntKind.wrap_u64, IntKind.wrap_u64]; omega
    have e2 : IntKind.u64.wrap (n / 9223372036854775808) = ((0 : Nat) : Int) := by
      rw [IntKind.wrap_u64]; omega
    rw [e1, e2, bits_xor_u64_nat _ _ (by omega) (by decide), Nat.xor_zero]
    unfold zig
    rw [if_neg c]
theorem zig_lt (n : Int) (h0 : -9223372036854775808 ≤ n) (hn : n ≤ 9223372036854775807) : zig n < 18446744073709551616 := by
  unfold zig; split <;> omega

set_option maxRecDepth 100000 in
set_option maxHeartbeats 1000000 in
theorem Int_any (n : Int) (h0 : -9223372036854775808 ≤ n) (hn : n ≤ 9223372036854775807) (w : World) : Calls Try.prog 108 #[.int .i64 n] w (RetB w (intB n)) := by
  go_enter Try.func108, Try.ntmps108
  have e := zig_bits n h0 hn
  have hz := zig_lt n h0 hn
  go_wp2_with (first | (go_at_call 109; refine (groups_any (zig n) hz w).mono ?_; rintro e w' ⟨v, rfl, HO, HB⟩))
  go_ret
  exact ⟨_, rfl, HO, HB⟩

theorem numB_len (n : Int) (hn : n ≤ 9223372036854775807) : (numB n).length ≤ 10 := by
  unfold numB; split
  · simp
  · exact enc_len10 _ (by omega)
theorem numB_nat (n : Nat) : numB (n : Int) = enc n := by
  unfold numB; rw [if_neg (by omega), Int.toNat_natCast]

set_option maxRecDepth 100000 in
set_option maxHeartbeats 1000000 in
theorem Text_any (s : ByteArray) (hs : s.size ≤ 140737488355328 - 4096) (w : World) : Calls Try.prog 112 #[.string s] w (RetB w (textB s)) := by
  go_enter Try.func112, Try.ntmps112
  have hl := enc_len10 s.size (by omega)
  go_wp2_with (first | (go_at_call 113; refine (Num_any _ (by omega) _).mono ?_; rintro e w' ⟨v, rfl, HO, HB⟩; rw [numB_nat] at HO; obtain ⟨r, d, rfl⟩ := xw_of HB; have HO := HO; have HB := HB) | ((at_builtin); refine app_str (w0 := w) (W := xw w r d) rfl (.tmp 5) (.tmp 6) 104 9 5 rfl Try.underlying104 Try.underlying9 infoB _ (u8s (enc s.size)) s rfl rfl HO HB ?c1 ?_; (case c1 => rw [u8s_len]; omega); intro v1 r1 d1 HO1))
  go_ret
  exact ⟨_, rfl, by unfold textB; rw [u8s_app]; exact HO1, xw_below _ _ _⟩

/-! ### the reference -/
end Go.Proofs.Ytnidaahimofppaa
