/- Layer 5 (value): what stands between quotes, walked. -/
import Derived.Test.YtbncnlendichjaaValU
namespace Go.Proofs.Ytbncnlendichjaa
open Go.RowKit
set_option linter.unusedVariables false
set_option linter.unusedSimpArgs false

theorem infoB8 : (Try.prog.info? 5).map (fun i => (i.zero, i.size, i.bytes)) = some (some (.int .u8 0), 1, 1) := by kernel_rfl
def UqI (x : ByteArray) (w : World) (i : Nat) (v : Value) (wr : World) : Prop :=
  i ≤ x.size ∧ Below w.heap.size w wr ∧ ∃ out : Bs, out.length ≤ i ∧ Own wr w.heap.size 5 v (u8s (nums out)) ∧ (unqS .plain ((tx x).drop i)).map (out ++ ·) = unqS .plain (tx x)
def UqJ (x : ByteArray) (w : World) (v5 v4 : Value) (wr : World) : Prop := ∃ i : Nat, v5 = .int .i64 (i : Int) ∧ Kept (UqI x w i v4 wr)
/-- What the call says of what is read, or not. -/
def uqV : Option Bs → Value
  | none => .tuple #[.string ⟨#[]⟩, .bool false]
  | some t => .tuple #[.string (bs t), .bool true]
theorem inner (s : ByteArray) (h : 2 ≤ s.size) : tx (s.extract 1 (s.size - 1)) = (tx s).tail.dropLast := by
  rw [tx_cut, List.dropLast_eq_take, ← List.drop_one, List.length_drop, tx_len]
theorem lastB (s : ByteArray) (h : 2 ≤ s.size) : (tx s).getLast? = some (s[s.size - 1]'(by omega)) := by
  rw [List.getLast?_eq_getElem?, tx_len]
  exact tx_get s (s.size - 1) (by omega)
theorem us_short {t : Bs} (h : t.length < 2) : unqS .hi t = none := by
  match t, h with
  | [], _ => rfl
  | [a], _ => simp only [unqS]; split <;> rfl

end Go.Proofs.Ytbncnlendichjaa
