/-
  No cell of these rows narrows 'for every input' (looked for: loops, veiled, ifaces, maps, wideKeys, modest, calm, conditions, laid).
  DERIVED. THE GIVEN ROWS OF THIS SEAT. 3 by the template 'for every input the law returns true; each argument reads behind the call as it read before'; 0 by the template 'total and deterministic' (their statements: YtjllcgmdnkakgaaTotals.lean).
  GIVEN WITH THE SEED: the statements are not yours to turn. If you find one false, say at which input.
  Laid BY PROGRAM, IN A SANDBOX (cutbox-rows.mjs): the forced cells as the released guide's own fill.sh prints them over the translation ecb302d81382043d… (all of the seat's roots in one cut). By AI agents, Wed Nov 11 2026. No macro, syntax, notation, axiom, sorry.
-/
import Derived.Test.YtjllcgmdnkakgaaChecked
import GoSem.Claim
import GoSem.ClaimJoined
import GoSem.ClaimMapViews
import Derived.JoinedTies
import Derived.KernelRfl
namespace Go.Proofs.Ytjllcgmdnkakgaa
/- THE CELL 'sum', in the pinned program and in every row, IS THE sha256 OF THE DUMP (.gsa) THAT YtjllcgmdnkakgaaProg.lean LOADS. Nothing in Lean hashes anything: it is a label: what it is worth is what the hold of that sum in a sandbox is worth. -/
noncomputable def Try.pinned : Pinned := { name := "ytjllcgmdnkakgaa", sum := "ecb302d81382043d897c209d84b7c6461557dd4ba1b445d9b4502df04149821d", checked := Try.checked }
namespace Rows
def none {H : Type} : Left H := { results := [], args := [] }

/-- 'rescindlaw24.MultiPuts': WHATEVER THE INPUT: true; the input reads as it did. -/
def multiPutsSpec : ChangeSpec := { name := "multiPuts", fn := fun _ => fun
  | [d1, d2, d3] => { results := [.lit (.bool true)], args := [d1, d2, d3] }
  | _ => none }
def multiPutsRow : OpenClaim := { program := "ytjllcgmdnkakgaa", sum := "ecb302d81382043d897c209d84b7c6461557dd4ba1b445d9b4502df04149821d", func := "rescind/rescindlaw24.MultiPuts", spec := "multiPuts", inPlace := ["slices.overlaps[rescind/multi.entry[int]]"], unfollowed := true, recurses := true, apart := false }
def MultiPutsSaid : Prop := multiPutsRow.holds Try.pinned (OpenSpec.ofChange multiPutsSpec)

/-- ITS FALSE NEIGHBOUR: 'it returns false'. Refute it at one input. -/
def multiPutsWrong : ChangeSpec := { name := "multiPuts", fn := fun _ => fun
  | [d1, d2, d3] => { results := [.lit (.bool false)], args := [d1, d2, d3] }
  | _ => none }
def MultiPutsWrongFalsely : Prop := multiPutsRow.holds Try.pinned (OpenSpec.ofChange multiPutsWrong)

/-- 'rescindlaw24.MultiAll': WHATEVER THE INPUT: true; the input reads as it did. -/
def multiAllSpec : ChangeSpec := { name := "multiAll", fn := fun _ => fun
  | [d] => { results := [.lit (.bool true)], args := [d] }
  | _ => none }
def multiAllRow : OpenClaim := { program := "ytjllcgmdnkakgaa", sum := "ecb302d81382043d897c209d84b7c6461557dd4ba1b445d9b4502df04149821d", func := "rescind/rescindlaw24.MultiAll", spec := "multiAll", inPlace := ["slices.overlaps[rescind/multi.entry[int]]"], unfollowed := true, recurses := true, apart := false }
def MultiAllSaid : Prop := multiAllRow.holds Try.pinned (OpenSpec.ofChange multiAllSpec)

/-- ITS FALSE NEIGHBOUR: 'it returns false'. Refute it at one input. -/
def multiAllWrong : ChangeSpec := { name := "multiAll", fn := fun _ => fun
  | [d] => { results := [.lit (.bool false)], args := [d] }
  | _ => none }
def MultiAllWrongFalsely : Prop := multiAllRow.holds Try.pinned (OpenSpec.ofChange multiAllWrong)

/-- 'rescindlaw24.MultiUndo': WHATEVER THE INPUT: true; the input reads as it did. -/
def multiUndoSpec : ChangeSpec := { name := "multiUndo", fn := fun _ => fun
  | [d1, d2, d3, d4] => { results := [.lit (.bool true)], args := [d1, d2, d3, d4] }
  | _ => none }
def multiUndoRow : OpenClaim := { program := "ytjllcgmdnkakgaa", sum := "ecb302d81382043d897c209d84b7c6461557dd4ba1b445d9b4502df04149821d", func := "rescind/rescindlaw24.MultiUndo", spec := "multiUndo", inPlace := ["slices.overlaps[rescind/multi.entry[int]]"], unfollowed := true, recurses := true, apart := false }
def MultiUndoSaid : Prop := multiUndoRow.holds Try.pinned (OpenSpec.ofChange multiUndoSpec)

/-- ITS FALSE NEIGHBOUR: 'it returns false'. Refute it at one input. -/
def multiUndoWrong : ChangeSpec := { name := "multiUndo", fn := fun _ => fun
  | [d1, d2, d3, d4] => { results := [.lit (.bool false)], args := [d1, d2, d3, d4] }
  | _ => none }
def MultiUndoWrongFalsely : Prop := multiUndoRow.holds Try.pinned (OpenSpec.ofChange multiUndoWrong)

/- THE SECOND FORM. 'bulk': how many values and letters a reading holds, each counted each time it is reached (what is shared counts as often as it is met; a slice's spare places count too). A statement '..UptoSaid' is the law's where the arguments, and the package variables that the reading takes, are together of bulk at most 1048576: NARROWER than '..Said'. Prove '..Said' where nothing that the law and all that it calls make is longer than what came in: it says more and counts as full. Else prove '..UptoSaid'. A law counts once. -/
mutual
def uptoBulk {H : Type} : DataW H → Nat
  | .lit (.string bytes) => bytes.length + 1
  | .lit _ => 1
  | .nil => 1
  | .ptr d => uptoBulk d + 1
  | .slice elems spare => uptoBulkAll elems + uptoBulkAll spare + 1
  | .agg parts => uptoBulkAll parts + 1
  | .iface _ d => uptoBulk d + 1
  | .map entries => uptoBulkEntries entries + 1
  | .held _ => 1
def uptoBulkAll {H : Type} : List (DataW H) → Nat
  | [] => 0
  | d :: r => uptoBulk d + uptoBulkAll r
def uptoBulkEntries {H : Type} : List (Lit × DataW H) → Nat
  | [] => 0
  | x :: r => uptoBulkEntry x + uptoBulkEntries r
def uptoBulkEntry {H : Type} : Lit × DataW H → Nat
  | (.string bytes, d) => bytes.length + uptoBulk d + 1
  | (_, d) => uptoBulk d + 1
 end
def uptoSmall : (H : Type) → List (DataW H) → Bool := fun _ ds => decide (uptoBulkAll ds ≤ 1048576)
def OpenSpec.upto (s : _root_.Go.ChangeSpec) : _root_.Go.OpenSpec := { _root_.Go.OpenSpec.ofChange s with cond := some uptoSmall }

/-- 'rescindlaw24.MultiPuts', WHERE WHAT IT READS IS OF BULK AT MOST 1048576: true; the input reads as it did. -/
def multiPutsUptoRow : OpenClaim := { program := "ytjllcgmdnkakgaa", sum := "ecb302d81382043d897c209d84b7c6461557dd4ba1b445d9b4502df04149821d", func := "rescind/rescindlaw24.MultiPuts", spec := "multiPuts", inPlace := ["slices.overlaps[rescind/multi.entry[int]]"], unfollowed := true, recurses := true, apart := false, narrowed := true }
def MultiPutsUptoSaid : Prop := multiPutsUptoRow.holds Try.pinned (OpenSpec.upto multiPutsSpec)

/-- 'rescindlaw24.MultiAll', WHERE WHAT IT READS IS OF BULK AT MOST 1048576: true; the input reads as it did. -/
def multiAllUptoRow : OpenClaim := { program := "ytjllcgmdnkakgaa", sum := "ecb302d81382043d897c209d84b7c6461557dd4ba1b445d9b4502df04149821d", func := "rescind/rescindlaw24.MultiAll", spec := "multiAll", inPlace := ["slices.overlaps[rescind/multi.entry[int]]"], unfollowed := true, recurses := true, apart := false, narrowed := true }
def MultiAllUptoSaid : Prop := multiAllUptoRow.holds Try.pinned (OpenSpec.upto multiAllSpec)

/-- 'rescindlaw24.MultiUndo', WHERE WHAT IT READS IS OF BULK AT MOST 1048576: true; the input reads as it did. -/
def multiUndoUptoRow : OpenClaim := { program := "ytjllcgmdnkakgaa", sum := "ecb302d81382043d897c209d84b7c6461557dd4ba1b445d9b4502df04149821d", func := "rescind/rescindlaw24.MultiUndo", spec := "multiUndo", inPlace := ["slices.overlaps[rescind/multi.entry[int]]"], unfollowed := true, recurses := true, apart := false, narrowed := true }
def MultiUndoUptoSaid : Prop := multiUndoUptoRow.holds Try.pinned (OpenSpec.upto multiUndoSpec)

end Rows
end Go.Proofs.Ytjllcgmdnkakgaa
