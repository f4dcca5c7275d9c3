/-
  No cell of these rows narrows 'for every input' (looked for: loops, veiled, ifaces, maps, wideKeys, modest, calm, conditions, laid).
  DERIVED. THE GIVEN ROWS OF THIS SEAT. 3 by the template 'for every input the law returns true; each argument reads behind the call as it read before'; 0 by the template 'total and deterministic' (their statements: YtnidaahimofppaaTotals.lean).
  GIVEN WITH THE SEED: the statements are not yours to turn. If you find one false, say at which input.
  Laid BY PROGRAM, IN A SANDBOX (cutbox-rows.mjs): the forced cells as the released guide's own fill.sh prints them over the translation f14e8ca2e7d7c3cf… (all of the seat's roots in one cut). By AI agents, Wed Nov 11 2026. No macro, syntax, notation, axiom, sorry.
-/
import Derived.Test.YtnidaahimofppaaChecked
import GoSem.Claim
import GoSem.ClaimJoined
import GoSem.ClaimMapViews
import Derived.JoinedTies
import Derived.KernelRfl
namespace Go.Proofs.Ytnidaahimofppaa
/- THE CELL 'sum', in the pinned program and in every row, IS THE sha256 OF THE DUMP (.gsa) THAT YtnidaahimofppaaProg.lean LOADS. Nothing in Lean hashes anything: it is a label: what it is worth is what the hold of that sum in a sandbox is worth. -/
noncomputable def Try.pinned : Pinned := { name := "ytnidaahimofppaa", sum := "f14e8ca2e7d7c3cf686c8571d7cbd536a51a4c14ee593a480231b5413ca5191c", checked := Try.checked }
namespace Rows
def none {H : Type} : Left H := { results := [], args := [] }

/-- 'rescindlaw26.TallyCols': WHATEVER THE INPUT: true; the input reads as it did. -/
def tallyColsSpec : ChangeSpec := { name := "tallyCols", fn := fun _ => fun
  | [d1, d2] => { results := [.lit (.bool true)], args := [d1, d2] }
  | _ => none }
def tallyColsRow : OpenClaim := { program := "ytnidaahimofppaa", sum := "f14e8ca2e7d7c3cf686c8571d7cbd536a51a4c14ee593a480231b5413ca5191c", func := "rescind/rescindlaw26.TallyCols", spec := "tallyCols", inPlace := ["internal/bytealg.abigen_runtime_cmpstring"], unfollowed := true, recurses := true, apart := false }
def TallyColsSaid : Prop := tallyColsRow.holds Try.pinned (OpenSpec.ofChange tallyColsSpec)

/-- ITS FALSE NEIGHBOUR: 'it returns false'. Refute it at one input. -/
def tallyColsWrong : ChangeSpec := { name := "tallyCols", fn := fun _ => fun
  | [d1, d2] => { results := [.lit (.bool false)], args := [d1, d2] }
  | _ => none }
def TallyColsWrongFalsely : Prop := tallyColsRow.holds Try.pinned (OpenSpec.ofChange tallyColsWrong)

/-- 'rescindlaw26.TallyUndo': WHATEVER THE INPUT: true; the input reads as it did. -/
def tallyUndoSpec : ChangeSpec := { name := "tallyUndo", fn := fun _ => fun
  | [d1, d2, d3] => { results := [.lit (.bool true)], args := [d1, d2, d3] }
  | _ => none }
def tallyUndoRow : OpenClaim := { program := "ytnidaahimofppaa", sum := "f14e8ca2e7d7c3cf686c8571d7cbd536a51a4c14ee593a480231b5413ca5191c", func := "rescind/rescindlaw26.TallyUndo", spec := "tallyUndo", inPlace := ["internal/bytealg.abigen_runtime_cmpstring"], unfollowed := true, recurses := true, apart := false }
def TallyUndoSaid : Prop := tallyUndoRow.holds Try.pinned (OpenSpec.ofChange tallyUndoSpec)

/-- ITS FALSE NEIGHBOUR: 'it returns false'. Refute it at one input. -/
def tallyUndoWrong : ChangeSpec := { name := "tallyUndo", fn := fun _ => fun
  | [d1, d2, d3] => { results := [.lit (.bool false)], args := [d1, d2, d3] }
  | _ => none }
def TallyUndoWrongFalsely : Prop := tallyUndoRow.holds Try.pinned (OpenSpec.ofChange tallyUndoWrong)

/-- 'rescindlaw26.TallyOrder': WHATEVER THE INPUT: true; the input reads as it did. -/
def tallyOrderSpec : ChangeSpec := { name := "tallyOrder", fn := fun _ => fun
  | [d1, d2, d3] => { results := [.lit (.bool true)], args := [d1, d2, d3] }
  | _ => none }
def tallyOrderRow : OpenClaim := { program := "ytnidaahimofppaa", sum := "f14e8ca2e7d7c3cf686c8571d7cbd536a51a4c14ee593a480231b5413ca5191c", func := "rescind/rescindlaw26.TallyOrder", spec := "tallyOrder", inPlace := ["internal/bytealg.abigen_runtime_cmpstring"], unfollowed := true, recurses := true, apart := false }
def TallyOrderSaid : Prop := tallyOrderRow.holds Try.pinned (OpenSpec.ofChange tallyOrderSpec)

/-- ITS FALSE NEIGHBOUR: 'it returns false'. Refute it at one input. -/
def tallyOrderWrong : ChangeSpec := { name := "tallyOrder", fn := fun _ => fun
  | [d1, d2, d3] => { results := [.lit (.bool false)], args := [d1, d2, d3] }
  | _ => none }
def TallyOrderWrongFalsely : Prop := tallyOrderRow.holds Try.pinned (OpenSpec.ofChange tallyOrderWrong)

/- THE SECOND FORM. 'bulk': how many values and letters a reading holds, each counted each time it is reached (what is shared counts as often as it is met; a slice's spare places count too). A statement '..UptoSaid' is the law's where the arguments, and the package variables that the reading takes, are together of bulk at most 1048576: NARROWER than '..Said'. Prove '..Said' where nothing that the law and all that it calls make is longer than what came in: it says more and counts as full. Else prove '..UptoSaid'. A law counts once. -/
mutual
def uptoBulk {H : Type} : DataW H → Nat
  | .lit (.string bytes) => bytes.length + 1
  | .lit _ => 1
  | .nil => 1
  | .ptr d => uptoBulk d + 1
  | .slice elems spare => uptoBulkAll elems + uptoBulkAll spare + 1
  | .agg parts => uptoBulkAll parts + 1
  | .iface _ d => uptoBulk d + 1
  | .map entries => uptoBulkEntries entries + 1
  | .held _ => 1
def uptoBulkAll {H : Type} : List (DataW H) → Nat
  | [] => 0
  | d :: r => uptoBulk d + uptoBulkAll r
def uptoBulkEntries {H : Type} : List (Lit × DataW H) → Nat
  | [] => 0
  | x :: r => uptoBulkEntry x + uptoBulkEntries r
def uptoBulkEntry {H : Type} : Lit × DataW H → Nat
  | (.string bytes, d) => bytes.length + uptoBulk d + 1
  | (_, d) => uptoBulk d + 1
 end
def uptoSmall : (H : Type) → List (DataW H) → Bool := fun _ ds => decide (uptoBulkAll ds ≤ 1048576)
def OpenSpec.upto (s : _root_.Go.ChangeSpec) : _root_.Go.OpenSpec := { _root_.Go.OpenSpec.ofChange s with cond := some uptoSmall }

/-- 'rescindlaw26.TallyCols', WHERE WHAT IT READS IS OF BULK AT MOST 1048576: true; the input reads as it did. -/
def tallyColsUptoRow : OpenClaim := { program := "ytnidaahimofppaa", sum := "f14e8ca2e7d7c3cf686c8571d7cbd536a51a4c14ee593a480231b5413ca5191c", func := "rescind/rescindlaw26.TallyCols", spec := "tallyCols", inPlace := ["internal/bytealg.abigen_runtime_cmpstring"], unfollowed := true, recurses := true, apart := false, narrowed := true }
def TallyColsUptoSaid : Prop := tallyColsUptoRow.holds Try.pinned (OpenSpec.upto tallyColsSpec)

/-- 'rescindlaw26.TallyUndo', WHERE WHAT IT READS IS OF BULK AT MOST 1048576: true; the input reads as it did. -/
def tallyUndoUptoRow : OpenClaim := { program := "ytnidaahimofppaa", sum := "f14e8ca2e7d7c3cf686c8571d7cbd536a51a4c14ee593a480231b5413ca5191c", func := "rescind/rescindlaw26.TallyUndo", spec := "tallyUndo", inPlace := ["internal/bytealg.abigen_runtime_cmpstring"], unfollowed := true, recurses := true, apart := false, narrowed := true }
def TallyUndoUptoSaid : Prop := tallyUndoUptoRow.holds Try.pinned (OpenSpec.upto tallyUndoSpec)

/-- 'rescindlaw26.TallyOrder', WHERE WHAT IT READS IS OF BULK AT MOST 1048576: true; the input reads as it did. -/
def tallyOrderUptoRow : OpenClaim := { program := "ytnidaahimofppaa", sum := "f14e8ca2e7d7c3cf686c8571d7cbd536a51a4c14ee593a480231b5413ca5191c", func := "rescind/rescindlaw26.TallyOrder", spec := "tallyOrder", inPlace := ["internal/bytealg.abigen_runtime_cmpstring"], unfollowed := true, recurses := true, apart := false, narrowed := true }
def TallyOrderUptoSaid : Prop := tallyOrderUptoRow.holds Try.pinned (OpenSpec.upto tallyOrderSpec)

end Rows
end Go.Proofs.Ytnidaahimofppaa
