/- Layer 5 (value): Compare, walked. -/
import Derived.Test.YtnidaahimofppaaGreatQpab
import Derived.Deep.RegionWith
namespace Go.Proofs.YtnidaahimofppaaGreat
open Go.RowKit
set_option linter.unusedVariables false
set_option linter.unusedSimpArgs false

theorem ta_nn (n : Int) (w : World) : (Instr.typeAssert (.iface 122 (.int .i64 n)) 119 122 true).run Tryz.prog w = .ok (.tuple #[.int .i64 n, .bool true]) w := by kernel_rfl
theorem ta_tn (s : ByteArray) (w : World) : (Instr.typeAssert (.iface 126 (.string s)) 119 122 true).run Tryz.prog w = .ok (.tuple #[.int .i64 0, .bool false]) w := by kernel_rfl
theorem ta_tt (s : ByteArray) (w : World) : (Instr.typeAssert (.iface 126 (.string s)) 119 126 false).run Tryz.prog w = .ok (.string s) w := by kernel_rfl

set_option maxRecDepth 100000 in
set_option maxHeartbeats 1000000 in
theorem comp_nn (n m : Int) (s u : ByteArray) (hs : tx s = []) (hu : tx u = []) (w : World) :
    Calls Tryz.prog 29 #[va 1 n s, va 1 m u] w (fun e w' => e = .returned (.int .i64 (cmpI n m)) ∧ Below w.heap.size w w') := by
  have t1 := ta_nn
  have t2 := ta_tn
  have t3 := ta_tt
  go_enter Tryz.func29, Tryz.ntmps29
  go_wp2_with fail
  go_at_call 44
  refine (of_num n s hs _).mono ?_
  rintro e w1 ⟨rfl, hb1⟩
  obtain ⟨r1, d1, rfl⟩ := xw_of hb1
  clear hb1
  go_wp2_with fail
  go_at_call 44
  refine (of_num m u hu _).mono ?_
  rintro e w2 ⟨rfl, hb2⟩
  obtain ⟨r2, d2, rfl⟩ := xw_of hb2
  clear hb2
  go_wp2_with (first | (go_at_call 45; refine (cmpI_any _ _ _).mono ?_; rintro e w3 ⟨rfl, rfl⟩))
  go_returns
  exact ⟨rfl, below_xw (((Below.refl _ _).alloc (Nat.le_refl _) _).alloc (by simp) _) (by simp; omega) _ _⟩

set_option maxRecDepth 100000 in
set_option maxHeartbeats 1000000 in
theorem comp_nt (n : Int) (s u : ByteArray) (hs : tx s = []) (hu : u.size ≤ 64) (w : World) :
    Calls Tryz.prog 29 #[va 1 n s, va 2 0 u] w (fun e w' => e = .returned (.int .i64 (-1)) ∧ Below w.heap.size w w') := by
  have t1 := ta_nn
  have t2 := ta_tn
  have t3 := ta_tt
  go_enter Tryz.func29, Tryz.ntmps29
  go_wp2_with fail
  go_at_call 44
  refine (of_num n s hs _).mono ?_
  rintro e w1 ⟨rfl, hb1⟩
  obtain ⟨r1, d1, rfl⟩ := xw_of hb1
  clear hb1
  go_wp2_with fail
  go_at_call 44
  refine (of_txt u hu _).mono ?_
  rintro e w2 ⟨rfl, hb2⟩
  obtain ⟨r2, d2, rfl⟩ := xw_of hb2
  clear hb2
  go_wp2_with fail
  go_returns
  exact ⟨rfl, below_xw (((Below.refl _ _).alloc (Nat.le_refl _) _).alloc (by simp) _) (by simp; omega) _ _⟩

set_option maxRecDepth 100000 in
set_option maxHeartbeats 1000000 in
theorem comp_tn (m : Int) (s u : ByteArray) (hs : s.size ≤ 64) (hu : tx u = []) (w : World) :
    Calls Tryz.prog 29 #[va 2 0 s, va 1 m u] w (fun e w' => e = .returned (.int .i64 1) ∧ Below w.heap.size w w') := by
  have t1 := ta_nn
  have t2 := ta_tn
  have t3 := ta_tt
  go_enter Tryz.func29, Tryz.ntmps29
  go_wp2_with fail
  go_at_call 44
  refine (of_txt s hs _).mono ?_
  rintro e w1 ⟨rfl, hb1⟩
  obtain ⟨r1, d1, rfl⟩ := xw_of hb1
  clear hb1
  go_wp2_with fail
  go_at_call 44
  refine (of_num m u hu _).mono ?_
  rintro e w2 ⟨rfl, hb2⟩
  obtain ⟨r2, d2, rfl⟩ := xw_of hb2
  clear hb2
  go_wp2_with fail
  go_returns
  exact ⟨rfl, below_xw (((Below.refl _ _).alloc (Nat.le_refl _) _).alloc (by simp) _) (by simp; omega) _ _⟩

set_option maxRecDepth 100000 in
set_option maxHeartbeats 1000000 in
theorem comp_tt (s u : ByteArray) (hs : s.size ≤ 64) (hu : u.size ≤ 64) (w : World) :
    Calls Tryz.prog 29 #[va 2 0 s, va 2 0 u] w (fun e w' => e = .returned (.int .i64 (Lib.compareBytes (tx s) (tx u))) ∧ Below w.heap.size w w') := by
  have t1 := ta_nn
  have t2 := ta_tn
  have t3 := ta_tt
  go_enter Tryz.func29, Tryz.ntmps29
  go_wp2_with fail
  go_at_call 44
  refine (of_txt s hs _).mono ?_
  rintro e w1 ⟨rfl, hb1⟩
  obtain ⟨r1, d1, rfl⟩ := xw_of hb1
  clear hb1
  go_wp2_with fail
  go_at_call 44
  refine (of_txt u hu _).mono ?_
  rintro e w2 ⟨rfl, hb2⟩
  obtain ⟨r2, d2, rfl⟩ := xw_of hb2
  clear hb2
  go_wp2_with fail
  go_region_with (first | (go_at_call 46; refine (Tryz.strings_Compare _ _ _).mono ?_; rintro e w3 ⟨rfl, rfl⟩))
  all_goals go_wp2_with fail
  all_goals go_returns
  all_goals first | exact ⟨rfl, below_xw (((Below.refl _ _).alloc (Nat.le_refl _) _).alloc (by simp) _) (by simp; omega) _ _⟩ | exact ⟨rfl, (below_xw (((Below.refl _ _).alloc (Nat.le_refl _) _).alloc (by simp) _) (by simp; omega) _ _).drew⟩

theorem of_some (k n : Int) (s : ByteArray) (w : World) : ∃ v : Value, ∃ ok : Bool, Calls Tryz.prog 44 #[va k n s] w (fun e w' => e = .returned (.tuple #[v, .bool ok]) ∧ Below w.heap.size w w') := by
  cases hm : mayV ⟨k, n, tx s⟩ with
  | false => exact ⟨_, _, of_no k n s hm w⟩
  | true =>
    rcases mayV_cases hm with ⟨rfl, h⟩ | ⟨rfl, rfl, h⟩
    · exact ⟨_, _, of_num n s h w⟩
    · exact ⟨_, _, of_txt s h w⟩
set_option maxRecDepth 100000 in
set_option maxHeartbeats 1000000 in
theorem comp_0 (k n j m : Int) (s u : ByteArray) (h : mayV ⟨k, n, tx s⟩ = false) (w : World) :
    Calls Tryz.prog 29 #[va k n s, va j m u] w (fun e w' => e = .returned (.int .i64 0) ∧ Below w.heap.size w w') := by
  have t1 := ta_nn
  have t2 := ta_tn
  have t3 := ta_tt
  go_enter Tryz.func29, Tryz.ntmps29
  go_wp2_with fail
  go_at_call 44
  refine (of_no k n s h _).mono ?_
  rintro e w1 ⟨rfl, hb1⟩
  obtain ⟨r1, d1, rfl⟩ := xw_of hb1
  clear hb1
  have hx : ∃ v : Value, ∃ ok : Bool, Calls Tryz.prog 44 #[va j m u] (xw ((w.alloc (.cells #[.int .i64 k, .int .i64 n, .string s] 68)).alloc (.cells #[.int .i64 j, .int .i64 m, .string u] 68)) r1 d1) (fun e w' => e = .returned (.tuple #[v, .bool ok]) ∧ Below (xw ((w.alloc (.cells #[.int .i64 k, .int .i64 n, .string s] 68)).alloc (.cells #[.int .i64 j, .int .i64 m, .string u] 68)) r1 d1).heap.size (xw ((w.alloc (.cells #[.int .i64 k, .int .i64 n, .string s] 68)).alloc (.cells #[.int .i64 j, .int .i64 m, .string u] 68)) r1 d1) w') := of_some j m u _
  obtain ⟨v, ok, hC⟩ := hx
  have HC := Kept.mk hC
  clear hC
  go_wp2_with fail
  go_at_call 44
  refine (HC.out).mono ?_
  rintro e w2 ⟨rfl, hb2⟩
  obtain ⟨r2, d2, rfl⟩ := xw_of hb2
  clear hb2
  go_wp2_with fail
  go_returns
  exact ⟨rfl, below_xw (((Below.refl _ _).alloc (Nat.le_refl _) _).alloc (by simp) _) (by simp; omega) _ _⟩

set_option maxRecDepth 100000 in
set_option maxHeartbeats 1000000 in
theorem comp_n0 (n j m : Int) (s u : ByteArray) (hs : tx s = []) (h : mayV ⟨j, m, tx u⟩ = false) (w : World) :
    Calls Tryz.prog 29 #[va 1 n s, va j m u] w (fun e w' => e = .returned (.int .i64 0) ∧ Below w.heap.size w w') := by
  have t1 := ta_nn
  have t2 := ta_tn
  have t3 := ta_tt
  go_enter Tryz.func29, Tryz.ntmps29
  go_wp2_with fail
  go_at_call 44
  refine (of_num n s hs _).mono ?_
  rintro e w1 ⟨rfl, hb1⟩
  obtain ⟨r1, d1, rfl⟩ := xw_of hb1
  clear hb1
  go_wp2_with fail
  go_at_call 44
  refine (of_no j m u h _).mono ?_
  rintro e w2 ⟨rfl, hb2⟩
  obtain ⟨r2, d2, rfl⟩ := xw_of hb2
  clear hb2
  go_wp2_with fail
  go_returns
  exact ⟨rfl, below_xw (((Below.refl _ _).alloc (Nat.le_refl _) _).alloc (by simp) _) (by simp; omega) _ _⟩

set_option maxRecDepth 100000 in
set_option maxHeartbeats 1000000 in
theorem comp_t0 (j m : Int) (s u : ByteArray) (hs : s.size ≤ 64) (h : mayV ⟨j, m, tx u⟩ = false) (w : World) :
    Calls Tryz.prog 29 #[va 2 0 s, va j m u] w (fun e w' => e = .returned (.int .i64 0) ∧ Below w.heap.size w w') := by
  have t1 := ta_nn
  have t2 := ta_tn
  have t3 := ta_tt
  go_enter Tryz.func29, Tryz.ntmps29
  go_wp2_with fail
  go_at_call 44
  refine (of_txt s hs _).mono ?_
  rintro e w1 ⟨rfl, hb1⟩
  obtain ⟨r1, d1, rfl⟩ := xw_of hb1
  clear hb1
  go_wp2_with fail
  go_at_call 44
  refine (of_no j m u h _).mono ?_
  rintro e w2 ⟨rfl, hb2⟩
  obtain ⟨r2, d2, rfl⟩ := xw_of hb2
  clear hb2
  go_wp2_with fail
  go_returns
  exact ⟨rfl, below_xw (((Below.refl _ _).alloc (Nat.le_refl _) _).alloc (by simp) _) (by simp; omega) _ _⟩

theorem comp_any (k n j m : Int) (s u : ByteArray) (w : World) :
    Calls Tryz.prog 29 #[va k n s, va j m u] w (fun e w' => e = .returned (.int .i64 (cmpV ⟨k, n, tx s⟩ ⟨j, m, tx u⟩)) ∧ Below w.heap.size w w') := by
  cases h1 : mayV ⟨k, n, tx s⟩ with
  | false =>
    have e : cmpV ⟨k, n, tx s⟩ ⟨j, m, tx u⟩ = 0 := by unfold cmpV; rw [h1]; simp
    rw [e]
    exact comp_0 k n j m s u h1 w
  | true =>
    cases h2 : mayV ⟨j, m, tx u⟩ with
    | false =>
      have e : cmpV ⟨k, n, tx s⟩ ⟨j, m, tx u⟩ = 0 := by unfold cmpV; rw [h2]; simp
      rw [e]
      rcases mayV_cases h1 with ⟨rfl, h⟩ | ⟨rfl, rfl, h⟩
      · exact comp_n0 n j m s u h h2 w
      · exact comp_t0 j m s u h h2 w
    | true =>
      have hb : (mayV ⟨k, n, tx s⟩ && mayV ⟨j, m, tx u⟩) = true := by rw [h1, h2]; rfl
      unfold cmpV
      rw [if_pos hb]
      rcases mayV_cases h1 with ⟨rfl, g1⟩ | ⟨rfl, rfl, g1⟩ <;> rcases mayV_cases h2 with ⟨rfl, g2⟩ | ⟨rfl, rfl, g2⟩
      · exact comp_nn n m s u g1 g2 w
      · exact comp_nt n s u g1 g2 w
      · exact comp_tn m s u g1 g2 w
      · exact comp_tt s u g1 g2 w
end Go.Proofs.YtnidaahimofppaaGreat
