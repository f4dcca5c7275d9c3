/-
  No cell of these rows narrows 'for every input' (looked for: loops, veiled, ifaces, maps, wideKeys, modest, calm, conditions, laid).
  DERIVED. THE GIVEN ROWS OF THIS SEAT. 6 by the template 'for every input the law returns true; each argument reads behind the call as it read before'; 0 by the template 'total and deterministic' (their statements: YtbncnlendichjaaTotals.lean).
  GIVEN WITH THE SEED: the statements are not yours to turn. If you find one false, say at which input.
  Laid BY PROGRAM, IN A SANDBOX (cutbox-rows.mjs): the forced cells as the released guide's own fill.sh prints them over the translation d102a07606016c1c… (all of the seat's roots in one cut). By AI agents, Wed Nov 11 2026. No macro, syntax, notation, axiom, sorry.
-/
import Derived.Test.YtbncnlendichjaaChecked
import GoSem.Claim
import GoSem.ClaimJoined
import GoSem.ClaimMapViews
import Derived.JoinedTies
import Derived.KernelRfl
namespace Go.Proofs.Ytbncnlendichjaa
/- THE CELL 'sum', in the pinned program and in every row, IS THE sha256 OF THE DUMP (.gsa) THAT YtbncnlendichjaaProg.lean LOADS. Nothing in Lean hashes anything: it is a label: what it is worth is what the hold of that sum in a sandbox is worth. -/
noncomputable def Try.pinned : Pinned := { name := "ytbncnlendichjaa", sum := "d102a07606016c1cd4a774e02d15cd84c09ba1ceee90826785866633569afe82", checked := Try.checked }
namespace Rows
def none {H : Type} : Left H := { results := [], args := [] }

/-- 'rescindlaw06.RowOrder': WHATEVER THE INPUT: true; the input reads as it did. -/
def rowOrderSpec : ChangeSpec := { name := "rowOrder", fn := fun _ => fun
  | [d1, d2, d3] => { results := [.lit (.bool true)], args := [d1, d2, d3] }
  | _ => none }
def rowOrderRow : OpenClaim := { program := "ytbncnlendichjaa", sum := "d102a07606016c1cd4a774e02d15cd84c09ba1ceee90826785866633569afe82", func := "rescind/rescindlaw06.RowOrder", spec := "rowOrder", inPlace := ["internal/bytealg.abigen_runtime_cmpstring", "internal/abi.NoEscape", "internal/bytealg.MakeNoZero"], unfollowed := true, recurses := true, apart := false }
def RowOrderSaid : Prop := rowOrderRow.holds Try.pinned (OpenSpec.ofChange rowOrderSpec)

/-- ITS FALSE NEIGHBOUR: 'it returns false'. Refute it at one input. -/
def rowOrderWrong : ChangeSpec := { name := "rowOrder", fn := fun _ => fun
  | [d1, d2, d3] => { results := [.lit (.bool false)], args := [d1, d2, d3] }
  | _ => none }
def RowOrderWrongFalsely : Prop := rowOrderRow.holds Try.pinned (OpenSpec.ofChange rowOrderWrong)

/-- 'rescindlaw06.RowParts': WHATEVER THE INPUT: true; the input reads as it did. -/
def rowPartsSpec : ChangeSpec := { name := "rowParts", fn := fun _ => fun
  | [d1, d2, d3] => { results := [.lit (.bool true)], args := [d1, d2, d3] }
  | _ => none }
def rowPartsRow : OpenClaim := { program := "ytbncnlendichjaa", sum := "d102a07606016c1cd4a774e02d15cd84c09ba1ceee90826785866633569afe82", func := "rescind/rescindlaw06.RowParts", spec := "rowParts", inPlace := ["internal/abi.NoEscape", "internal/bytealg.MakeNoZero", "internal/bytealg.abigen_runtime_cmpstring"], unfollowed := true, recurses := true, apart := false }
def RowPartsSaid : Prop := rowPartsRow.holds Try.pinned (OpenSpec.ofChange rowPartsSpec)

/-- ITS FALSE NEIGHBOUR: 'it returns false'. Refute it at one input. -/
def rowPartsWrong : ChangeSpec := { name := "rowParts", fn := fun _ => fun
  | [d1, d2, d3] => { results := [.lit (.bool false)], args := [d1, d2, d3] }
  | _ => none }
def RowPartsWrongFalsely : Prop := rowPartsRow.holds Try.pinned (OpenSpec.ofChange rowPartsWrong)

/-- 'rescindlaw06.RowSame': WHATEVER THE INPUT: true; the input reads as it did. -/
def rowSameSpec : ChangeSpec := { name := "rowSame", fn := fun _ => fun
  | [d1, d2] => { results := [.lit (.bool true)], args := [d1, d2] }
  | _ => none }
def rowSameRow : OpenClaim := { program := "ytbncnlendichjaa", sum := "d102a07606016c1cd4a774e02d15cd84c09ba1ceee90826785866633569afe82", func := "rescind/rescindlaw06.RowSame", spec := "rowSame", inPlace := ["internal/abi.NoEscape", "internal/bytealg.MakeNoZero", "internal/bytealg.abigen_runtime_cmpstring"], unfollowed := true, recurses := true, apart := false }
def RowSameSaid : Prop := rowSameRow.holds Try.pinned (OpenSpec.ofChange rowSameSpec)

/-- ITS FALSE NEIGHBOUR: 'it returns false'. Refute it at one input. -/
def rowSameWrong : ChangeSpec := { name := "rowSame", fn := fun _ => fun
  | [d1, d2] => { results := [.lit (.bool false)], args := [d1, d2] }
  | _ => none }
def RowSameWrongFalsely : Prop := rowSameRow.holds Try.pinned (OpenSpec.ofChange rowSameWrong)

/-- 'rescindlaw06.RowKeys': WHATEVER THE INPUT: true; the input reads as it did. -/
def rowKeysSpec : ChangeSpec := { name := "rowKeys", fn := fun _ => fun
  | [d1, d2] => { results := [.lit (.bool true)], args := [d1, d2] }
  | _ => none }
def rowKeysRow : OpenClaim := { program := "ytbncnlendichjaa", sum := "d102a07606016c1cd4a774e02d15cd84c09ba1ceee90826785866633569afe82", func := "rescind/rescindlaw06.RowKeys", spec := "rowKeys", inPlace := ["internal/abi.NoEscape", "internal/bytealg.MakeNoZero", "internal/bytealg.abigen_runtime_cmpstring"], unfollowed := true, recurses := true, apart := false }
def RowKeysSaid : Prop := rowKeysRow.holds Try.pinned (OpenSpec.ofChange rowKeysSpec)

/-- ITS FALSE NEIGHBOUR: 'it returns false'. Refute it at one input. -/
def rowKeysWrong : ChangeSpec := { name := "rowKeys", fn := fun _ => fun
  | [d1, d2] => { results := [.lit (.bool false)], args := [d1, d2] }
  | _ => none }
def RowKeysWrongFalsely : Prop := rowKeysRow.holds Try.pinned (OpenSpec.ofChange rowKeysWrong)

/-- 'rescindlaw06.RowReads': WHATEVER THE INPUT: true; the input reads as it did. -/
def rowReadsSpec : ChangeSpec := { name := "rowReads", fn := fun _ => fun
  | [d] => { results := [.lit (.bool true)], args := [d] }
  | _ => none }
def rowReadsRow : OpenClaim := { program := "ytbncnlendichjaa", sum := "d102a07606016c1cd4a774e02d15cd84c09ba1ceee90826785866633569afe82", func := "rescind/rescindlaw06.RowReads", spec := "rowReads", inPlace := ["internal/abi.NoEscape", "internal/bytealg.MakeNoZero", "internal/bytealg.abigen_runtime_cmpstring"], unfollowed := true, recurses := true, apart := false }
def RowReadsSaid : Prop := rowReadsRow.holds Try.pinned (OpenSpec.ofChange rowReadsSpec)

/-- ITS FALSE NEIGHBOUR: 'it returns false'. Refute it at one input. -/
def rowReadsWrong : ChangeSpec := { name := "rowReads", fn := fun _ => fun
  | [d] => { results := [.lit (.bool false)], args := [d] }
  | _ => none }
def RowReadsWrongFalsely : Prop := rowReadsRow.holds Try.pinned (OpenSpec.ofChange rowReadsWrong)

/-- 'rescindlaw06.RowBytes': WHATEVER THE INPUT: true; the input reads as it did. -/
def rowBytesSpec : ChangeSpec := { name := "rowBytes", fn := fun _ => fun
  | [d1, d2] => { results := [.lit (.bool true)], args := [d1, d2] }
  | _ => none }
def rowBytesRow : OpenClaim := { program := "ytbncnlendichjaa", sum := "d102a07606016c1cd4a774e02d15cd84c09ba1ceee90826785866633569afe82", func := "rescind/rescindlaw06.RowBytes", spec := "rowBytes", inPlace := ["internal/abi.NoEscape", "internal/bytealg.MakeNoZero", "internal/bytealg.abigen_runtime_cmpstring"], unfollowed := true, recurses := true, apart := false }
def RowBytesSaid : Prop := rowBytesRow.holds Try.pinned (OpenSpec.ofChange rowBytesSpec)

/-- ITS FALSE NEIGHBOUR: 'it returns false'. Refute it at one input. -/
def rowBytesWrong : ChangeSpec := { name := "rowBytes", fn := fun _ => fun
  | [d1, d2] => { results := [.lit (.bool false)], args := [d1, d2] }
  | _ => none }
def RowBytesWrongFalsely : Prop := rowBytesRow.holds Try.pinned (OpenSpec.ofChange rowBytesWrong)

/- THE SECOND FORM. 'bulk': how many values and letters a reading holds, each counted each time it is reached (what is shared counts as often as it is met; a slice's spare places count too). A statement '..UptoSaid' is the law's where the arguments, and the package variables that the reading takes, are together of bulk at most 1048576: NARROWER than '..Said'. Prove '..Said' where nothing that the law and all that it calls make is longer than what came in: it says more and counts as full. Else prove '..UptoSaid'. A law counts once. -/
mutual
def uptoBulk {H : Type} : DataW H → Nat
  | .lit (.string bytes) => bytes.length + 1
  | .lit _ => 1
  | .nil => 1
  | .ptr d => uptoBulk d + 1
  | .slice elems spare => uptoBulkAll elems + uptoBulkAll spare + 1
  | .agg parts => uptoBulkAll parts + 1
  | .iface _ d => uptoBulk d + 1
  | .map entries => uptoBulkEntries entries + 1
  | .held _ => 1
def uptoBulkAll {H : Type} : List (DataW H) → Nat
  | [] => 0
  | d :: r => uptoBulk d + uptoBulkAll r
def uptoBulkEntries {H : Type} : List (Lit × DataW H) → Nat
  | [] => 0
  | x :: r => uptoBulkEntry x + uptoBulkEntries r
def uptoBulkEntry {H : Type} : Lit × DataW H → Nat
  | (.string bytes, d) => bytes.length + uptoBulk d + 1
  | (_, d) => uptoBulk d + 1
 end
def uptoSmall : (H : Type) → List (DataW H) → Bool := fun _ ds => decide (uptoBulkAll ds ≤ 1048576)
def OpenSpec.upto (s : _root_.Go.ChangeSpec) : _root_.Go.OpenSpec := { _root_.Go.OpenSpec.ofChange s with cond := some uptoSmall }

/-- 'rescindlaw06.RowOrder', WHERE WHAT IT READS IS OF BULK AT MOST 1048576: true; the input reads as it did. -/
def rowOrderUptoRow : OpenClaim := { program := "ytbncnlendichjaa", sum := "d102a07606016c1cd4a774e02d15cd84c09ba1ceee90826785866633569afe82", func := "rescind/rescindlaw06.RowOrder", spec := "rowOrder", inPlace := ["internal/bytealg.abigen_runtime_cmpstring", "internal/abi.NoEscape", "internal/bytealg.MakeNoZero"], unfollowed := true, recurses := true, apart := false, narrowed := true }
def RowOrderUptoSaid : Prop := rowOrderUptoRow.holds Try.pinned (OpenSpec.upto rowOrderSpec)

/-- 'rescindlaw06.RowParts', WHERE WHAT IT READS IS OF BULK AT MOST 1048576: true; the input reads as it did. -/
def rowPartsUptoRow : OpenClaim := { program := "ytbncnlendichjaa", sum := "d102a07606016c1cd4a774e02d15cd84c09ba1ceee90826785866633569afe82", func := "rescind/rescindlaw06.RowParts", spec := "rowParts", inPlace := ["internal/abi.NoEscape", "internal/bytealg.MakeNoZero", "internal/bytealg.abigen_runtime_cmpstring"], unfollowed := true, recurses := true, apart := false, narrowed := true }
def RowPartsUptoSaid : Prop := rowPartsUptoRow.holds Try.pinned (OpenSpec.upto rowPartsSpec)

/-- 'rescindlaw06.RowSame', WHERE WHAT IT READS IS OF BULK AT MOST 1048576: true; the input reads as it did. -/
def rowSameUptoRow : OpenClaim := { program := "ytbncnlendichjaa", sum := "d102a07606016c1cd4a774e02d15cd84c09ba1ceee90826785866633569afe82", func := "rescind/rescindlaw06.RowSame", spec := "rowSame", inPlace := ["internal/abi.NoEscape", "internal/bytealg.MakeNoZero", "internal/bytealg.abigen_runtime_cmpstring"], unfollowed := true, recurses := true, apart := false, narrowed := true }
def RowSameUptoSaid : Prop := rowSameUptoRow.holds Try.pinned (OpenSpec.upto rowSameSpec)

/-- 'rescindlaw06.RowKeys', WHERE WHAT IT READS IS OF BULK AT MOST 1048576: true; the input reads as it did. -/
def rowKeysUptoRow : OpenClaim := { program := "ytbncnlendichjaa", sum := "d102a07606016c1cd4a774e02d15cd84c09ba1ceee90826785866633569afe82", func := "rescind/rescindlaw06.RowKeys", spec := "rowKeys", inPlace := ["internal/abi.NoEscape", "internal/bytealg.MakeNoZero", "internal/bytealg.abigen_runtime_cmpstring"], unfollowed := true, recurses := true, apart := false, narrowed := true }
def RowKeysUptoSaid : Prop := rowKeysUptoRow.holds Try.pinned (OpenSpec.upto rowKeysSpec)

/-- 'rescindlaw06.RowReads', WHERE WHAT IT READS IS OF BULK AT MOST 1048576: true; the input reads as it did. -/
def rowReadsUptoRow : OpenClaim := { program := "ytbncnlendichjaa", sum := "d102a07606016c1cd4a774e02d15cd84c09ba1ceee90826785866633569afe82", func := "rescind/rescindlaw06.RowReads", spec := "rowReads", inPlace := ["internal/abi.NoEscape", "internal/bytealg.MakeNoZero", "internal/bytealg.abigen_runtime_cmpstring"], unfollowed := true, recurses := true, apart := false, narrowed := true }
def RowReadsUptoSaid : Prop := rowReadsUptoRow.holds Try.pinned (OpenSpec.upto rowReadsSpec)

/-- 'rescindlaw06.RowBytes', WHERE WHAT IT READS IS OF BULK AT MOST 1048576: true; the input reads as it did. -/
def rowBytesUptoRow : OpenClaim := { program := "ytbncnlendichjaa", sum := "d102a07606016c1cd4a774e02d15cd84c09ba1ceee90826785866633569afe82", func := "rescind/rescindlaw06.RowBytes", spec := "rowBytes", inPlace := ["internal/abi.NoEscape", "internal/bytealg.MakeNoZero", "internal/bytealg.abigen_runtime_cmpstring"], unfollowed := true, recurses := true, apart := false, narrowed := true }
def RowBytesUptoSaid : Prop := rowBytesUptoRow.holds Try.pinned (OpenSpec.upto rowBytesSpec)

end Rows
end Go.Proofs.Ytbncnlendichjaa
