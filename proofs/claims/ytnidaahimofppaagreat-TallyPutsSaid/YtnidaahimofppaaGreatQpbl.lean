/- Layer 26 (tally): wide numbers, the reference's functions. -/
import Derived.Test.YtnidaahimofppaaGreatQpaz
import Derived.Test.YtnidaahimofppaaGreatQpaa
import Derived.Deep.DeepCutAuto
import Derived.Handy
namespace Go.Proofs.YtnidaahimofppaaGreat
open Go.RowKit
set_option linter.unusedVariables false
set_option linter.unusedSimpArgs false

set_option maxHeartbeats 1000000 in
theorem w_parts_any (h l : Int) (L : okL l) (w : World) :
    Calls Tryz.prog 62 #[.agg #[.int .i64 h, .int .u64 l]] w fun e w' => e = .returned (.agg #[.int .u64 (l % 4294967296), .int .u64 (l / 4294967296), .int .u64 (IntKind.u64.wrap h % 4294967296), .int .u64 (IntKind.u64.wrap h / 4294967296), .int .i64 (sgn h)]) ∧ Below w.heap.size w w' := by
  have hu := (u64_bd h).1
  have h0 := L.1
  have h1 := L.2
  unfold sgn
  by_cases c : h < 0
  · rw [if_pos c]
    go_enter Tryz.func62, Tryz.ntmps62
    go_wp2
    go_returns
    exact ⟨rfl, by go_grown⟩
  · rw [if_neg c]
    go_enter Tryz.func62, Tryz.ntmps62
    go_wp2
    go_returns
    exact ⟨rfl, by go_grown⟩

set_option maxHeartbeats 2000000 in
theorem w_sum_any (p0 p1 p2 p3 s q0 q1 q2 q3 t : Int) (h0 : 0 ≤ p0) (h1 : p0 ≤ 4294967295) (h2 : 0 ≤ p1) (h3 : p1 ≤ 4294967295) (h4 : 0 ≤ p2) (h5 : p2 ≤ 4294967295) (h6 : 0 ≤ p3) (h7 : p3 ≤ 4294967295)
    (g0 : 0 ≤ q0) (g1 : q0 ≤ 4294967295) (g2 : 0 ≤ q1) (g3 : q1 ≤ 4294967295) (g4 : 0 ≤ q2) (g5 : q2 ≤ 4294967295) (g6 : 0 ≤ q3) (g7 : q3 ≤ 4294967295) (s0 : -1 ≤ s) (s1 : s ≤ 0) (t0 : -1 ≤ t) (t1 : t ≤ 0) (w : World) :
    Calls Tryz.prog 61 #[.agg #[.int .u64 p0, .int .u64 p1, .int .u64 p2, .int .u64 p3, .int .i64 s], .agg #[.int .u64 q0, .int .u64 q1, .int .u64 q2, .int .u64 q3, .int .i64 t]] w fun e w' => 
      e = .returned (.agg #[.int .u64 (r0 p0 q0), .int .u64 (r1 p0 q0 p1 q1), .int .u64 (r2 p0 q0 p1 q1 p2 q2), .int .u64 (r3 p0 q0 p1 q1 p2 q2 p3 q3), .int .i64 (rs p0 q0 p1 q1 p2 q2 p3 q3 s t)]) ∧ Below w.heap.size w w' := by
  unfold r0 r1 r2 r3 rs
  go_enter Tryz.func61, Tryz.ntmps61
  go_wp2
  refine wp_loop_rounds 5 ?_
  iterate 4
    rw [rounds_succ]
    go_wp2
    go_quiet (fail)
    go_wp2
  rw [rounds_succ]
  go_wp2
  go_returns
  refine ⟨rfl, ?_⟩
  iterate 4
    go_grown
    refine below_drewN ?_ _
  go_grown

set_option maxHeartbeats 1000000 in
theorem w_fits_any (p0 p1 p2 p3 s : Int) (h0 : 0 ≤ p3) (h1 : p3 ≤ 4294967295) (w : World) :
    Calls Tryz.prog 63 #[.agg #[.int .u64 p0, .int .u64 p1, .int .u64 p2, .int .u64 p3, .int .i64 s]] w fun e w' => e = .returned (.bool (if 2147483648 ≤ p3 then s == -1 else s == 0)) ∧ Below w.heap.size w w' := by
  by_cases c : 2147483648 ≤ p3
  · rw [if_pos c]
    go_enter Tryz.func63, Tryz.ntmps63
    go_wp2
    go_returns
    exact ⟨rfl, by go_grown⟩
  · rw [if_neg c]
    go_enter Tryz.func63, Tryz.ntmps63
    go_wp2
    go_returns
    exact ⟨rfl, by go_grown⟩

set_option maxHeartbeats 1000000 in
theorem w_back_any (p0 p1 p2 p3 s : Int) (h0 : 0 ≤ p0) (h1 : p0 ≤ 4294967295) (h2 : 0 ≤ p1) (h3 : p1 ≤ 4294967295) (h4 : 0 ≤ p2) (h5 : p2 ≤ 4294967295) (h6 : 0 ≤ p3) (h7 : p3 ≤ 4294967295) (w : World) :
    Calls Tryz.prog 64 #[.agg #[.int .u64 p0, .int .u64 p1, .int .u64 p2, .int .u64 p3, .int .i64 s]] w fun e w' => e = .returned (.agg #[.int .i64 (wrap64 (p3 * 4294967296 + p2)), .int .u64 (p1 * 4294967296 + p0)]) ∧ Below w.heap.size w w' := by
  rw [← or_parts p3 p2 h6 h7 h4 h5, ← or_parts p1 p0 h2 h3 h0 h1]
  go_enter Tryz.func64, Tryz.ntmps64
  go_wp2
  go_returns
  exact ⟨rfl, by go_grown⟩
theorem w_sgn_bd (h : Int) : -1 ≤ sgn h ∧ sgn h ≤ 0 := by unfold sgn; split <;> omega
theorem w_div_bd {l : Int} (h0 : 0 ≤ l) (h1 : l ≤ 18446744073709551615) : 0 ≤ l / 4294967296 ∧ l / 4294967296 ≤ 4294967295 := by omega
theorem w_r_bd (p0 q0 p1 q1 p2 q2 p3 q3 : Int) : (0 ≤ r0 p0 q0 ∧ r0 p0 q0 ≤ 4294967295) ∧ (0 ≤ r1 p0 q0 p1 q1 ∧ r1 p0 q0 p1 q1 ≤ 4294967295) ∧ (0 ≤ r2 p0 q0 p1 q1 p2 q2 ∧ r2 p0 q0 p1 q1 p2 q2 ≤ 4294967295) ∧ (0 ≤ r3 p0 q0 p1 q1 p2 q2 p3 q3 ∧ r3 p0 q0 p1 q1 p2 q2 p3 q3 ≤ 4294967295) := by
  unfold r0 r1 r2 r3
  exact ⟨part_bd _, part_bd _, part_bd _, part_bd _⟩


theorem w_fits_to (B : Bool) (p0 p1 p2 p3 s : Int) (h0 : 0 ≤ p3) (h1 : p3 ≤ 4294967295) (h : (if 2147483648 ≤ p3 then s == -1 else s == 0) = B) (w : World) :
    Calls Tryz.prog 63 #[.agg #[.int .u64 p0, .int .u64 p1, .int .u64 p2, .int .u64 p3, .int .i64 s]] w fun e w' => e = .returned (.bool B) ∧ Below w.heap.size w w' := by
  subst h
  exact w_fits_any p0 p1 p2 p3 s h0 h1 w

def w_SumAt (w : World) (a b c d : Int) (s6 : Value) (wx : World) : Prop :=
  ∃ g : Nat, s6 = .pointer (some ⟨g, 0, none⟩) ∧ w.heap.size ≤ g ∧ g < wx.heap.size ∧
    wx.cell? ⟨g, 0, none⟩ = some (.int .u64 (r0 (b % 4294967296) (d % 4294967296))) ∧
    wx.cell? ⟨g, 1, none⟩ = some (.int .u64 (r1 (b % 4294967296) (d % 4294967296) (b / 4294967296) (d / 4294967296))) ∧
    wx.cell? ⟨g, 2, none⟩ = some (.int .u64 (r2 (b % 4294967296) (d % 4294967296) (b / 4294967296) (d / 4294967296) (IntKind.u64.wrap a % 4294967296) (IntKind.u64.wrap c % 4294967296))) ∧
    wx.cell? ⟨g, 3, none⟩ = some (.int .u64 (r3 (b % 4294967296) (d % 4294967296) (b / 4294967296) (d / 4294967296) (IntKind.u64.wrap a % 4294967296) (IntKind.u64.wrap c % 4294967296) (IntKind.u64.wrap a / 4294967296) (IntKind.u64.wrap c / 4294967296))) ∧
    wx.cell? ⟨g, 4, none⟩ = some (.int .i64 (rs (b % 4294967296) (d % 4294967296) (b / 4294967296) (d / 4294967296) (IntKind.u64.wrap a % 4294967296) (IntKind.u64.wrap c % 4294967296) (IntKind.u64.wrap a / 4294967296) (IntKind.u64.wrap c / 4294967296) (sgn a) (sgn c))) ∧
    wx.cell? ⟨w.heap.size + 1 + 1, 0, none⟩ = some (.int .i64 0) ∧ wx.cell? ⟨w.heap.size + 1 + 1, 1, none⟩ = some (.int .u64 0) ∧
    wx.frozen? ⟨w.heap.size + 1 + 1, 0, none⟩ = false ∧ wx.frozen? ⟨w.heap.size + 1 + 1, 1, none⟩ = false ∧ Below w.heap.size w wx

set_option maxHeartbeats 1000000 in
theorem w_rAdd_any (a b c d : Int) (ha : okH a) (hb : okL b) (hc : okH c) (hd : okL d) (w : World) :
    Calls Tryz.prog 52 #[.agg #[.int .i64 a, .int .u64 b], .agg #[.int .i64 c, .int .u64 d]] w fun e w' => e = .returned (.tuple #[.agg #[.int .i64 (addH (vW a b + vW c d)), .int .u64 (addL (vW a b + vW c d))], .int .i64 (addE (vW a b + vW c d))]) ∧ Below w.heap.size w w' := by
  go_enter Tryz.func52, Tryz.ntmps52
  go_upto_region 1 with fail
  go_cut [6] (fun s6 wx => w_SumAt w a b c d s6 wx)
  case first =>
    go_region_held3 (fun w' => w'.cell? ⟨w.heap.size, 0, none⟩ = some (.int .i64 a) ∧ w'.cell? ⟨w.heap.size, 1, none⟩ = some (.int .u64 b) ∧ w'.cell? ⟨w.heap.size + 1, 0, none⟩ = some (.int .i64 c) ∧ w'.cell? ⟨w.heap.size + 1, 1, none⟩ = some (.int .u64 d))
      (simp [go_sem])
      (first | (go_at_call 62; refine (w_parts_any _ _ (by assumption) _).mono ?_; rintro e w' ⟨rfl, hb1⟩; obtain ⟨r, dr, rfl⟩ := xw_of hb1; clear hb1) | (go_at_call 61; refine (w_sum_any _ _ _ _ _ _ _ _ _ _ (part_bd _).1 (part_bd _).2 (w_div_bd hb.1 hb.2).1 (w_div_bd hb.1 hb.2).2 (part_bd _).1 (part_bd _).2 (w_div_bd (u64_bd _).1 (u64_bd _).2).1 (w_div_bd (u64_bd _).1 (u64_bd _).2).2 (part_bd _).1 (part_bd _).2 (w_div_bd hd.1 hd.2).1 (w_div_bd hd.1 hd.2).2 (part_bd _).1 (part_bd _).2 (w_div_bd (u64_bd _).1 (u64_bd _).2).1 (w_div_bd (u64_bd _).1 (u64_bd _).2).2 (w_sgn_bd _).1 (w_sgn_bd _).2 (w_sgn_bd _).1 (w_sgn_bd _).2 _).mono ?_; rintro e w' ⟨rfl, hb1⟩; obtain ⟨r, dr, rfl⟩ := xw_of hb1; clear hb1))
    all_goals go_wp2_with fail
    all_goals
      go_meet
      refine ⟨_, rfl, ?_, ?_, ?_, ?_, ?_, ?_, ?_, ?_, ?_, ?_, ?_, ?_⟩ <;> try first | (simp [go_sem]; done) | (simp [go_sem, xw_size]; omega)
      repeat' (first | (with_reducible exact Below.refl _ _) | (with_reducible assumption) | (with_reducible refine below_xw ?_ ?_ _ _) | (with_reducible refine below_drewN ?_ _) | (with_reducible refine Below.drew ?_) | (with_reducible refine Below.setCell ?_ ?_ _) | (with_reducible refine Below.alloc ?_ ?_ _) | (simp [xw_size]; done) | (simp [xw_size]; omega) | (dsimp only; omega))
  case rest =>
    obtain ⟨g, rfl, hg0, hg1, c0, c1, c2, c3, c4, z0, z1, f0, f1, hB⟩ := hcut
    have hz : w.heap.size + 1 + 1 < wc.heap.size := World.block_lt_of_cell? wc ⟨w.heap.size + 1 + 1, 0, none⟩ z0
    have rb := w_r_bd (b % 4294967296) (d % 4294967296) (b / 4294967296) (d / 4294967296) (IntKind.u64.wrap a % 4294967296) (IntKind.u64.wrap c % 4294967296) (IntKind.u64.wrap a / 4294967296) (IntKind.u64.wrap c / 4294967296)
    have m := num_back (V := vW a b + vW c d) rb.1.1 rb.1.2 rb.2.1.1 rb.2.1.2 rb.2.2.1.1 rb.2.2.1.2 rb.2.2.2.1 rb.2.2.2.2 (s := rs (b % 4294967296) (d % 4294967296) (b / 4294967296) (d / 4294967296) (IntKind.u64.wrap a % 4294967296) (IntKind.u64.wrap c % 4294967296) (IntKind.u64.wrap a / 4294967296) (IntKind.u64.wrap c / 4294967296) (sgn a) (sgn c)) (by rw [num_sum, parts_num ha hb, parts_num hc hd])
    by_cases h : inW (vW a b + vW c d)
    · have hG := Lib.hid (m.2 h)
      have hF := Lib.hid (m.1.2 h)
      have RB := Lib.hid rb
      clear m rb
      go_wp2_with (first | (go_at_call 63; refine (w_fits_to true _ _ _ _ _ RB.out.2.2.2.1 RB.out.2.2.2.2 hF.out _).mono ?_; rintro e w' ⟨rfl, hb1⟩; obtain ⟨r, dr, rfl⟩ := xw_of hb1; clear hb1) | (go_at_call 64; refine (w_back_any _ _ _ _ _ RB.out.1.1 RB.out.1.2 RB.out.2.1.1 RB.out.2.1.2 RB.out.2.2.1.1 RB.out.2.2.1.2 RB.out.2.2.2.1 RB.out.2.2.2.2 _).mono ?_; rintro e w' ⟨rfl, hb1⟩; obtain ⟨r, dr, rfl⟩ := xw_of hb1; clear hb1))
      refine bodyPost_ret (by simp [results, Tryz.results52, go_sem, hz, z0, z1]; try rfl) rfl ?_
      refine ⟨by rw [addH_in h, addL_in h, addE_in h, ← hG.out.1, ← hG.out.2], ?_⟩
      repeat' (first | (with_reducible exact Below.refl _ _) | (with_reducible assumption) | (with_reducible refine below_xw ?_ ?_ _ _) | (with_reducible refine below_drewN ?_ _) | (with_reducible refine Below.drew ?_) | (with_reducible refine Below.setCell ?_ ?_ _) | (with_reducible refine Below.alloc ?_ ?_ _) | (simp [xw_size]; done) | (simp [xw_size]; omega) | (dsimp only; omega))
    · have hF := Lib.hid (Bool.eq_false_iff.2 fun z => h (m.1.1 z))
      have RB := Lib.hid rb
      clear m rb
      go_wp2_with (first | (go_at_call 63; refine (w_fits_to false _ _ _ _ _ RB.out.2.2.2.1 RB.out.2.2.2.2 hF.out _).mono ?_; rintro e w' ⟨rfl, hb1⟩; obtain ⟨r, dr, rfl⟩ := xw_of hb1; clear hb1))
      refine bodyPost_ret (by simp [results, Tryz.results52, go_sem, hz, z0, z1]; try rfl) rfl ?_
      refine ⟨by rw [addH_out h, addL_out h, addE_out h], ?_⟩
      repeat' (first | (with_reducible exact Below.refl _ _) | (with_reducible assumption) | (with_reducible refine below_xw ?_ ?_ _ _) | (with_reducible refine below_drewN ?_ _) | (with_reducible refine Below.drew ?_) | (with_reducible refine Below.setCell ?_ ?_ _) | (with_reducible refine Below.alloc ?_ ?_ _) | (simp [xw_size]; done) | (simp [xw_size]; omega) | (dsimp only; omega))
end Go.Proofs.YtnidaahimofppaaGreat
