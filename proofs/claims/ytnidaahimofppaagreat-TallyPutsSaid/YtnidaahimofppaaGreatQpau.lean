/- Layer 26 (tally): where a value stands among entries: the comparison, the search, walked. -/
import Derived.Test.YtnidaahimofppaaGreatQpap
import Derived.Test.YtnidaahimofppaaGreatQpab
import Derived.Test.YtnidaahimofppaaGreatQpas
import Derived.Deep.RegionWith
namespace Go.Proofs.YtnidaahimofppaaGreat
open Go.RowKit
set_option linter.unusedVariables false
set_option linter.unusedSimpArgs false

theorem cmpI_lt {a b : Int} : cmpI a b < 0 ↔ a < b := by unfold cmpI; split <;> (try split) <;> omega
theorem cmpI_eq {a b : Int} : cmpI a b = 0 ↔ a = b := by unfold cmpI; split <;> (try split) <;> omega
abbrev fnCmp : Value := .func (.func 29) #[] #[]
set_option maxHeartbeats 8000000 in
theorem plc1_any (w : World) (bx g : Nat) (x : Vr) (n : Int) (t : Vr) (h0 : w.cell? ⟨bx, 0, none⟩ = some (.pointer (some ⟨g, 0, none⟩))) (h1 : w.cell? ⟨g, 1, none⟩ = some fnCmp) (hb : bx < w.heap.size) (hg : g < w.heap.size) :
    Calls Tryz.prog 109 #[.agg #[.int .i64 x.k, .int .i64 x.n, .string x.s, .int .i64 n], va t.k t.n t.s, .pointer (some ⟨bx, 0, none⟩)] w (fun e w' => e = .returned (.int .i64 (cmpV x.va t.va)) ∧ Below w.heap.size w w') := by
  go_enter Tryz.func109, Tryz.ntmps109
  go_wp2_with fail
  go_region_with (first | (go_at_call 29; refine (comp_any _ _ _ _ _ _ _).mono ?_; rintro e w1 ⟨rfl, hb1⟩; obtain ⟨r1, d1, rfl⟩ := xw_of hb1; clear hb1))
  all_goals go_wp2_with fail
  all_goals go_returns
  all_goals
    refine ⟨rfl, ?_⟩
    repeat' (first | (with_reducible exact Below.refl _ _) | (with_reducible assumption) | (with_reducible refine below_xw ?_ ?_ _ _) | (with_reducible refine below_drewN ?_ _) | (with_reducible refine Below.drew ?_) | (with_reducible refine Below.setCell ?_ ?_ _) | (with_reducible refine Below.alloc ?_ ?_ _) | (simp [xw_size]; done) | (simp [xw_size]; omega) | (dsimp only; omega))
end Go.Proofs.YtnidaahimofppaaGreat
