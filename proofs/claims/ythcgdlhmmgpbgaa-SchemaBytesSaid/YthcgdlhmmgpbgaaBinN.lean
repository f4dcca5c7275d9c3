/- A reader's numbers, texts and bytes. -/
import Derived.Test.YthcgdlhmmgpbgaaBinG
namespace Go.Proofs.Ythcgdlhmmgpbgaa
open Go.RowKit
set_option linter.unusedVariables false
set_option linter.unusedSimpArgs false

def RP (g : Nat) (xs : List Int) (w : World) (q : Nat × St) (f : Nat → Value) (r : Ending) (w' : World) : Prop :=
  ∃ (x : Nat) (a' : Nat) (y' : Int), r = .returned (f x) ∧ Rd w' g xs a' y' ∧ But g w w' ∧ (x, stOf xs a' y') = q
theorem grpS_lt (m : Nat) (hm : m ≤ 10) (s : St) (hs : ∀ b ∈ s.2, 0 ≤ b ∧ b ≤ 255) : (grpS m s).1 < 18446744073709551616 ∧ (m ≤ 9 → (grpS m s).1 < 9223372036854775808) := by
  unfold grpS
  split
  · simp
  · cases h : grp m 0 s.2 with
    | error e => simp
    | ok p =>
      obtain ⟨x, t⟩ := p
      obtain ⟨h1, h2⟩ := grp_bound m 0 s.2 x t hs (by omega) h
      simp only
      by_cases c : m = 10
      · subst c
        have := h2 rfl
        exact ⟨by omega, fun h => by omega⟩
      · have h3 : 128 ^ m ≤ 128 ^ 9 := Nat.pow_le_pow_right (by decide) (by omega)
        exact ⟨by omega, fun _ => by omega⟩
theorem stOf_range (xs : List Int) (hxs : ∀ b ∈ xs, 0 ≤ b ∧ b ≤ 255) (a : Nat) (y : Int) : ∀ b ∈ (stOf xs a y).2, 0 ≤ b ∧ b ≤ 255 := by
  unfold stOf
  intro b hb
  simp only at hb
  split at hb
  · exact hxs b (List.mem_of_mem_drop hb)
  · simp at hb

set_option maxRecDepth 100000 in
set_option maxHeartbeats 1000000 in
theorem rdr_any (g : Nat) (xs : List Int) (hxs : ∀ b ∈ xs, 0 ≤ b ∧ b ≤ 255) (a : Nat) (y : Int) (m : Nat) (hm : m ≤ 10) (w : World) (H : Rd w g xs a y) :
    Calls Try.prog 78 #[.pointer (some ⟨g, 0, none⟩), .int .i64 (m : Int)] w (RP g xs w (grpS m (stOf xs a y)) (fun x => .int .u64 (x : Int))) := by
  go_enter Try.func78, Try.ntmps78
  go_wp2_with fail
  go_at_call 84
  refine (gather_any g xs hxs a y m hm _ H).mono ?_
  rintro e w1 ⟨x, ok, er, a2, y2, rfl, H2, hB2, hx0, hst⟩
  have HS := Kept.mk hst
  have HX0 := Kept.mk hx0
  clear hst hx0
  by_cases ce : er = 0
  · have d0 : (er == 0) = true := by simp [ce]
    cases ok with
    | false =>
      go_wp2
      go_returns
      refine ⟨0, a2, y2, rfl, H2, hB2, ?_⟩
      rw [← HS.out, if_pos ce, HX0.out trivial]
    | true =>
      go_wp2
      go_returns
      refine ⟨x, a2, y2, rfl, H2, hB2, ?_⟩
      rw [← HS.out, if_pos ce]
  · have d0 : (er == 0) = false := by simp [ce]
    cases ok with
    | false =>
      go_wp2_with (first | (go_at_call 68; refine (pFail_any g xs a2 y2 er _ H2).mono ?_; rintro r w2 ⟨⟨v, rfl⟩, H3, hB3⟩))
      go_returns
      refine ⟨0, a2, _, rfl, H3, hB2.trans hB3, ?_⟩
      rw [← HS.out, if_neg ce, HX0.out trivial]
    | true =>
      go_wp2_with (first | (go_at_call 68; refine (pFail_any g xs a2 y2 er _ H2).mono ?_; rintro r w2 ⟨⟨v, rfl⟩, H3, hB3⟩))
      go_returns
      refine ⟨x, a2, _, rfl, H3, hB2.trans hB3, ?_⟩
      rw [← HS.out, if_neg ce]

set_option maxRecDepth 100000 in
set_option maxHeartbeats 1000000 in
theorem Num_read (g : Nat) (xs : List Int) (hxs : ∀ b ∈ xs, 0 ≤ b ∧ b ≤ 255) (a : Nat) (y : Int) (w : World) (H : Rd w g xs a y) :
    Calls Try.prog 67 #[.pointer (some ⟨g, 0, none⟩)] w (RP g xs w (grpS 9 (stOf xs a y)) (fun x => .int .i64 (x : Int))) := by
  have hb := (grpS_lt 9 (by decide) (stOf xs a y) (stOf_range xs hxs a y)).2 (by decide)
  go_enter Try.func67, Try.ntmps67
  go_wp2_with fail
  go_at_call 78
  refine (rdr_any g xs hxs a y 9 (by decide) _ H).mono ?_
  rintro e w1 ⟨x, a2, y2, rfl, H2, hB2, hst⟩
  have hx : x < 9223372036854775808 := by rw [← hst] at hb; exact hb
  clear hb
  go_wp2
  go_ret
  exact ⟨x, a2, y2, rfl, H2, hB2, hst⟩

theorem xor_sign (k : Nat) (hk : k < 9223372036854775808) : bits .xor .i64 (k : Int) (-1) = -1 - (k : Int) := by
  have h1 : (BitVec.ofInt 64 (-1)).toNat = 2 ^ 64 - 1 := by decide
  have h2 : (BitVec.ofInt 64 (k : Int)).toNat = k := by
    rw [BitVec.ofInt_natCast, BitVec.toNat_ofNat]; exact Nat.mod_eq_of_lt (by omega)
  show IntKind.i64.wrap ((BitVec.ofInt 64 (k : Int) ^^^ BitVec.ofInt 64 (-1)).toNat : Int) = _
  rw [BitVec.toNat_xor, h1, h2, Nat.xor_comm, Go.Lib.xor_ones64 k (by omega), IntKind.wrap_i64]
  omega
theorem xor_zero64 (k : Nat) (hk : k < 9223372036854775808) : bits .xor .i64 (k : Int) 0 = (k : Int) := by
  have h2 : (BitVec.ofInt 64 (k : Int)).toNat = k := by
    rw [BitVec.ofInt_natCast, BitVec.toNat_ofNat]; exact Nat.mod_eq_of_lt (by omega)
  have h3 : (BitVec.ofInt 64 0).toNat = 0 := by decide
  show IntKind.i64.wrap ((BitVec.ofInt 64 (k : Int) ^^^ BitVec.ofInt 64 0).toNat : Int) = _
  rw [BitVec.toNat_xor, h3, h2, Nat.xor_zero, IntKind.wrap_i64]
  omega

set_option maxRecDepth 100000 in
set_option maxHeartbeats 1000000 in
theorem Err_read (g : Nat) (xs : List Int) (a : Nat) (y : Int) (w : World) (H : Rd w g xs a y) :
    Calls Try.prog 51 #[.pointer (some ⟨g, 0, none⟩)] w (fun e w' => e = .returned (.int .i64 y) ∧ w = w') := by
  obtain ⟨k, c, h0, h1, h2, hf1, hf2, hk, hk2, hc, hd⟩ := H.cells
  go_enter Try.func51, Try.ntmps51
  go_wp2
  go_ret
  exact ⟨rfl, rfl⟩

set_option maxRecDepth 100000 in
set_option maxHeartbeats 1000000 in
theorem Left_read (g : Nat) (xs : List Int) (a : Nat) (y : Int) (w : World) (H : Rd w g xs a y) :
    Calls Try.prog 31 #[.pointer (some ⟨g, 0, none⟩)] w (fun e w' => e = .returned (.int .i64 (leftS (stOf xs a y))) ∧ Below w.heap.size w w') := by
  go_enter Try.func31, Try.ntmps31
  go_wp2_with fail
  go_at_call 55
  refine (pLeft_any g xs a y _ H).mono ?_
  rintro e w1 ⟨rfl, hb⟩
  go_wp2
  go_ret
  exact ⟨rfl, hb⟩

set_option maxRecDepth 100000 in
set_option maxHeartbeats 1000000 in
theorem Byte_read (g : Nat) (xs : List Int) (a : Nat) (y : Int) (w : World) (H : Rd w g xs a y) :
    Calls Try.prog 50 #[.pointer (some ⟨g, 0, none⟩)] w (fun r w' => ∃ b a' y', r = .returned (.int .u8 b) ∧ Rd w' g xs a' y' ∧ But g w w' ∧ (b, stOf xs a' y') = byteS (stOf xs a y)) := by
  go_enter Try.func50, Try.ntmps50
  go_wp2_with fail
  go_at_call 66
  refine (pNext_any g xs a y _ H).mono ?_
  rintro e w1 ⟨b, ok, a2, y2, rfl, H2, hB2, hst, _⟩
  go_wp2
  go_ret
  exact ⟨b, a2, y2, rfl, H2, hB2, hst⟩
end Go.Proofs.Ythcgdlhmmgpbgaa
