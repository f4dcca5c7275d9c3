/- What each function on wide numbers comes to, as a contract of its call: the reference's (2). -/
import Derived.Test.YtlpaeoclcjhbhaaWideD
namespace Go.Proofs.Ytlpaeoclcjhbhaa
open Go.RowKit
set_option linter.unusedVariables false
set_option linter.unusedSimpArgs false

theorem fits_to (B : Bool) (p0 p1 p2 p3 s : Int) (h0 : 0 ≤ p3) (h1 : p3 ≤ 4294967295) (h : (if 2147483648 ≤ p3 then s == -1 else s == 0) = B) (w : World) :
    Calls Try.prog 32 #[.agg #[.int .u64 p0, .int .u64 p1, .int .u64 p2, .int .u64 p3, .int .i64 s]] w fun e w' => e = .returned (.bool B) ∧ Below w.heap.size w w' := by
  subst h
  exact fits_any p0 p1 p2 p3 s h0 h1 w

def SumAt (w : World) (a b c d : Int) (s6 : Value) (wx : World) : Prop :=
  ∃ g : Nat, s6 = .pointer (some ⟨g, 0, none⟩) ∧ w.heap.size ≤ g ∧ g < wx.heap.size ∧
    wx.cell? ⟨g, 0, none⟩ = some (.int .u64 (r0 (b % 4294967296) (d % 4294967296))) ∧
    wx.cell? ⟨g, 1, none⟩ = some (.int .u64 (r1 (b % 4294967296) (d % 4294967296) (b / 4294967296) (d / 4294967296))) ∧
    wx.cell? ⟨g, 2, none⟩ = some (.int .u64 (r2 (b % 4294967296) (d % 4294967296) (b / 4294967296) (d / 4294967296) (IntKind.u64.wrap a % 4294967296) (IntKind.u64.wrap c % 4294967296))) ∧
    wx.cell? ⟨g, 3, none⟩ = some (.int .u64 (r3 (b % 4294967296) (d % 4294967296) (b / 4294967296) (d / 4294967296) (IntKind.u64.wrap a % 4294967296) (IntKind.u64.wrap c % 4294967296) (IntKind.u64.wrap a / 4294967296) (IntKind.u64.wrap c / 4294967296))) ∧
    wx.cell? ⟨g, 4, none⟩ = some (.int .i64 (rs (b % 4294967296) (d % 4294967296) (b / 4294967296) (d / 4294967296) (IntKind.u64.wrap a % 4294967296) (IntKind.u64.wrap c % 4294967296) (IntKind.u64.wrap a / 4294967296) (IntKind.u64.wrap c / 4294967296) (sgn a) (sgn c))) ∧
    wx.cell? ⟨w.heap.size + 1 + 1, 0, none⟩ = some (.int .i64 0) ∧ wx.cell? ⟨w.heap.size + 1 + 1, 1, none⟩ = some (.int .u64 0) ∧
    wx.frozen? ⟨w.heap.size + 1 + 1, 0, none⟩ = false ∧ wx.frozen? ⟨w.heap.size + 1 + 1, 1, none⟩ = false ∧ Below w.heap.size w wx

set_option maxHeartbeats 1000000 in
theorem rAdd_any (a b c d : Int) (ha : okH a) (hb : okL b) (hc : okH c) (hd : okL d) (w : World) :
    Calls Try.prog 20 #[.agg #[.int .i64 a, .int .u64 b], .agg #[.int .i64 c, .int .u64 d]] w fun e w' => e = .returned (.tuple #[.agg #[.int .i64 (addH (val a b + val c d)), .int .u64 (addL (val a b + val c d))], .int .i64 (addE (val a b + val c d))]) ∧ Below w.heap.size w w' := by
  go_enter Try.func20, Try.ntmps20
  go_upto_region 1 with fail
  go_cut [6] (fun s6 wx => SumAt w a b c d s6 wx)
  case first =>
    go_region_held3 (fun w' => w'.cell? ⟨w.heap.size, 0, none⟩ = some (.int .i64 a) ∧ w'.cell? ⟨w.heap.size, 1, none⟩ = some (.int .u64 b) ∧ w'.cell? ⟨w.heap.size + 1, 0, none⟩ = some (.int .i64 c) ∧ w'.cell? ⟨w.heap.size + 1, 1, none⟩ = some (.int .u64 d))
      (simp [go_sem])
      (first | (go_at_call 31; refine (parts_any _ _ (by assumption) _).mono ?_; rintro e w' ⟨rfl, hb1⟩; obtain ⟨r, dr, rfl⟩ := xw_of hb1; clear hb1) | (go_at_call 30; refine (sum_any _ _ _ _ _ _ _ _ _ _ (part_bd _).1 (part_bd _).2 (div_bd hb.1 hb.2).1 (div_bd hb.1 hb.2).2 (part_bd _).1 (part_bd _).2 (div_bd (u64_bd _).1 (u64_bd _).2).1 (div_bd (u64_bd _).1 (u64_bd _).2).2 (part_bd _).1 (part_bd _).2 (div_bd hd.1 hd.2).1 (div_bd hd.1 hd.2).2 (part_bd _).1 (part_bd _).2 (div_bd (u64_bd _).1 (u64_bd _).2).1 (div_bd (u64_bd _).1 (u64_bd _).2).2 (sgn_bd _).1 (sgn_bd _).2 (sgn_bd _).1 (sgn_bd _).2 _).mono ?_; rintro e w' ⟨rfl, hb1⟩; obtain ⟨r, dr, rfl⟩ := xw_of hb1; clear hb1))
    all_goals go_wp2_with fail
    all_goals
      go_meet
      refine ⟨_, rfl, ?_, ?_, ?_, ?_, ?_, ?_, ?_, ?_, ?_, ?_, ?_, ?_⟩ <;> try first | (simp [go_sem]; done) | (simp [go_sem, xw_size]; omega)
      repeat' (first | (with_reducible exact Below.refl _ _) | (with_reducible assumption) | (with_reducible refine below_xw ?_ ?_ _ _) | (with_reducible refine below_drewN ?_ _) | (with_reducible refine Below.drew ?_) | (with_reducible refine Below.setCell ?_ ?_ _) | (with_reducible refine Below.alloc ?_ ?_ _) | (simp [xw_size]; done) | (simp [xw_size]; omega) | (dsimp only; omega))
  case rest =>
    obtain ⟨g, rfl, hg0, hg1, c0, c1, c2, c3, c4, z0, z1, f0, f1, hB⟩ := hcut
    have hz : w.heap.size + 1 + 1 < wc.heap.size := World.block_lt_of_cell? wc ⟨w.heap.size + 1 + 1, 0, none⟩ z0
    have rb := r_bd (b % 4294967296) (d % 4294967296) (b / 4294967296) (d / 4294967296) (IntKind.u64.wrap a % 4294967296) (IntKind.u64.wrap c % 4294967296) (IntKind.u64.wrap a / 4294967296) (IntKind.u64.wrap c / 4294967296)
    have m := num_back (V := val a b + val c d) rb.1.1 rb.1.2 rb.2.1.1 rb.2.1.2 rb.2.2.1.1 rb.2.2.1.2 rb.2.2.2.1 rb.2.2.2.2 (s := rs (b % 4294967296) (d % 4294967296) (b / 4294967296) (d / 4294967296) (IntKind.u64.wrap a % 4294967296) (IntKind.u64.wrap c % 4294967296) (IntKind.u64.wrap a / 4294967296) (IntKind.u64.wrap c / 4294967296) (sgn a) (sgn c)) (by rw [num_sum, parts_num ha hb, parts_num hc hd])
    by_cases h : inW (val a b + val c d)
    · have hG := Lib.hid (m.2 h)
      have hF := Lib.hid (m.1.2 h)
      have RB := Lib.hid rb
      clear m rb
      go_wp2_with (first | (go_at_call 32; refine (fits_to true _ _ _ _ _ RB.out.2.2.2.1 RB.out.2.2.2.2 hF.out _).mono ?_; rintro e w' ⟨rfl, hb1⟩; obtain ⟨r, dr, rfl⟩ := xw_of hb1; clear hb1) | (go_at_call 33; refine (back_any _ _ _ _ _ RB.out.1.1 RB.out.1.2 RB.out.2.1.1 RB.out.2.1.2 RB.out.2.2.1.1 RB.out.2.2.1.2 RB.out.2.2.2.1 RB.out.2.2.2.2 _).mono ?_; rintro e w' ⟨rfl, hb1⟩; obtain ⟨r, dr, rfl⟩ := xw_of hb1; clear hb1))
      refine bodyPost_ret (by simp [results, Try.results20, go_sem, hz, z0, z1]; try rfl) rfl ?_
      refine ⟨by rw [addH_in h, addL_in h, addE_in h, ← hG.out.1, ← hG.out.2], ?_⟩
      repeat' (first | (with_reducible exact Below.refl _ _) | (with_reducible assumption) | (with_reducible refine below_xw ?_ ?_ _ _) | (with_reducible refine below_drewN ?_ _) | (with_reducible refine Below.drew ?_) | (with_reducible refine Below.setCell ?_ ?_ _) | (with_reducible refine Below.alloc ?_ ?_ _) | (simp [xw_size]; done) | (simp [xw_size]; omega) | (dsimp only; omega))
    · have hF := Lib.hid (Bool.eq_false_iff.2 fun z => h (m.1.1 z))
      have RB := Lib.hid rb
      clear m rb
      go_wp2_with (first | (go_at_call 32; refine (fits_to false _ _ _ _ _ RB.out.2.2.2.1 RB.out.2.2.2.2 hF.out _).mono ?_; rintro e w' ⟨rfl, hb1⟩; obtain ⟨r, dr, rfl⟩ := xw_of hb1; clear hb1))
      refine bodyPost_ret (by simp [results, Try.results20, go_sem, hz, z0, z1]; try rfl) rfl ?_
      refine ⟨by rw [addH_out h, addL_out h, addE_out h], ?_⟩
      repeat' (first | (with_reducible exact Below.refl _ _) | (with_reducible assumption) | (with_reducible refine below_xw ?_ ?_ _ _) | (with_reducible refine below_drewN ?_ _) | (with_reducible refine Below.drew ?_) | (with_reducible refine Below.setCell ?_ ?_ _) | (with_reducible refine Below.alloc ?_ ?_ _) | (simp [xw_size]; done) | (simp [xw_size]; omega) | (dsimp only; omega))
end Go.Proofs.Ytlpaeoclcjhbhaa
