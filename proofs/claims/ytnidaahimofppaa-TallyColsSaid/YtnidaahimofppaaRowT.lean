/- Layer 6 (row): rows copied and joined, walked; the program's and the reference's. -/
import Derived.Test.YtnidaahimofppaaRowS
import Derived.Laws.MakeOwn
namespace Go.Proofs.Ytnidaahimofppaa
open Go.RowKit
set_option linter.unusedVariables false
set_option linter.unusedSimpArgs false

theorem make_vals (t : TypeId) (ht : Try.prog.underlying t = some (.slice 68)) (W : World) (n : Nat) (hn : n * 32 ≤ 281474976710656) : ∃ r d, (Instr.makeSlice t (.int .i64 0) (.int .i64 (n : Int))).run Try.prog W = .ok (.slice (some ⟨W.heap.size, 0, none⟩) 0 n) (xw W r d) ∧ OwnR (xw W r d) W.heap.size (.slice (some ⟨W.heap.size, 0, none⟩) 0 n) [] := by
  obtain ⟨i0, hi, hzz⟩ := Option.map_eq_some_iff.1 infoV
  simp only [Prod.mk.injEq] at hzz
  obtain ⟨hz0, hz1, hz2⟩ := hzz
  obtain ⟨w', hr, ho, hg⟩ := run_make_own (P := Try.prog) W W.heap.size t 68 i0 _ 3 ht hi hz0 hz1 .i64 .i64 n (by rw [hz2]; omega) (by simp only [maxLen]; omega) (Nat.le_refl _)
  obtain ⟨r, d, rfl⟩ := xw_of ((Below.refl W.heap.size W).grown hg (Nat.le_refl _) (fun k hk => by cases hk))
  exact ⟨r, d, hr, ho⟩
section
variable {ops : Array Oper} {rest : List Oper} {o : Oper} {a : Act} {Q : Exit → Act → World → Prop}
/-- make(T, 0, n). -/
theorem mk_vals {W : World} (hgd : o.guard = none) (x : Operand) (t : TypeId) (l : Operand)
    (ho : o.op = .makeSlice t l x) (ht : Try.prog.underlying t = some (.slice 68)) (n : Nat) (hl : a.eval l = .int .i64 0) (hx : a.eval x = .int .i64 (n : Int)) (hn : n * 32 ≤ 281474976710656)
    (h : ∀ r d, OwnR (xw W r d) W.heap.size (.slice (some ⟨W.heap.size, 0, none⟩) 0 n) [] → wpList Try.prog ops Q rest (a.put o.dst (.slice (some ⟨W.heap.size, 0, none⟩) 0 n)) (xw W r d)) :
    wpList Try.prog ops Q (o :: rest) a W := by
  obtain ⟨r, d, hr, hO⟩ := make_vals t ht W n hn
  refine wpList_plain hgd fun K hK => ?_
  unfold Oper.wp execOp
  simp only [ho, hl, hx, Sem.run_bind, Sem.run_pure, Result.andThen_ok, hr]
  exact hK _ _ (h r d hO)
end
/-- It returns a new row. -/
def RetR1 (w : World) (xs : List Vr) (e : Ending) (w' : World) : Prop := ∃ v, e = .returned v ∧ OwnR w' w.heap.size v xs ∧ Below w.heap.size w w'
def RetR (w : World) (q : List Vr × Int) (e : Ending) (w' : World) : Prop := ∃ v, e = .returned (.tuple #[v, .int .i64 q.2]) ∧ OwnR w' w.heap.size v q.1 ∧ Below w.heap.size w w'
def joinR (a b : List Vr) : List Vr × Int := if mayR a = true ∧ mayR b = true then (if 8 < a.length + b.length then ([], 6) else (a ++ b, 0)) else ([], 2)
end Go.Proofs.Ytnidaahimofppaa
