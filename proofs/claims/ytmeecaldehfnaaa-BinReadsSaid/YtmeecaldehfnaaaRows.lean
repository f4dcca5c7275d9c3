/-
  No cell of these rows narrows 'for every input' (looked for: loops, veiled, ifaces, maps, wideKeys, modest, calm, conditions, laid).
  DERIVED. THE GIVEN ROWS OF THIS SEAT. 4 by the template 'for every input the law returns true; each argument reads behind the call as it read before'; 0 by the template 'total and deterministic' (their statements: YtmeecaldehfnaaaTotals.lean).
  GIVEN WITH THE SEED: the statements are not yours to turn. If you find one false, say at which input.
  Laid BY PROGRAM, IN A SANDBOX (cutbox-rows.mjs): the forced cells as the released guide's own fill.sh prints them over the translation 33cb671654c8160d… (all of the seat's roots in one cut). By AI agents, Wed Nov 11 2026. No macro, syntax, notation, axiom, sorry.
-/
import Derived.Test.YtmeecaldehfnaaaChecked
import GoSem.Claim
import GoSem.ClaimJoined
import GoSem.ClaimMapViews
import Derived.JoinedTies
import Derived.KernelRfl
namespace Go.Proofs.Ytmeecaldehfnaaa
/- THE CELL 'sum', in the pinned program and in every row, IS THE sha256 OF THE DUMP (.gsa) THAT YtmeecaldehfnaaaProg.lean LOADS. Nothing in Lean hashes anything: it is a label: what it is worth is what the hold of that sum in a sandbox is worth. -/
noncomputable def Try.pinned : Pinned := { name := "ytmeecaldehfnaaa", sum := "33cb671654c8160d00fcbe972ebecc2b3875ef49a866eac5a0d7a8bc6ce1f785", checked := Try.checked }
namespace Rows
def none {H : Type} : Left H := { results := [], args := [] }

/-- 'rescindlaw03.BinShort': WHATEVER THE INPUT: true; the input reads as it did. -/
def binShortSpec : ChangeSpec := { name := "binShort", fn := fun _ => fun
  | [d] => { results := [.lit (.bool true)], args := [d] }
  | _ => none }
def binShortRow : OpenClaim := { program := "ytmeecaldehfnaaa", sum := "33cb671654c8160d00fcbe972ebecc2b3875ef49a866eac5a0d7a8bc6ce1f785", func := "rescind/rescindlaw03.BinShort", spec := "binShort", unfollowed := true, recurses := true, apart := false }
def BinShortSaid : Prop := binShortRow.holds Try.pinned (OpenSpec.ofChange binShortSpec)

/-- ITS FALSE NEIGHBOUR: 'it returns false'. Refute it at one input. -/
def binShortWrong : ChangeSpec := { name := "binShort", fn := fun _ => fun
  | [d] => { results := [.lit (.bool false)], args := [d] }
  | _ => none }
def BinShortWrongFalsely : Prop := binShortRow.holds Try.pinned (OpenSpec.ofChange binShortWrong)

/-- 'rescindlaw03.BinWrites': WHATEVER THE INPUT: true; the input reads as it did. -/
def binWritesSpec : ChangeSpec := { name := "binWrites", fn := fun _ => fun
  | [d1, d2] => { results := [.lit (.bool true)], args := [d1, d2] }
  | _ => none }
def binWritesRow : OpenClaim := { program := "ytmeecaldehfnaaa", sum := "33cb671654c8160d00fcbe972ebecc2b3875ef49a866eac5a0d7a8bc6ce1f785", func := "rescind/rescindlaw03.BinWrites", spec := "binWrites", unfollowed := true, recurses := true, apart := false }
def BinWritesSaid : Prop := binWritesRow.holds Try.pinned (OpenSpec.ofChange binWritesSpec)

/-- ITS FALSE NEIGHBOUR: 'it returns false'. Refute it at one input. -/
def binWritesWrong : ChangeSpec := { name := "binWrites", fn := fun _ => fun
  | [d1, d2] => { results := [.lit (.bool false)], args := [d1, d2] }
  | _ => none }
def BinWritesWrongFalsely : Prop := binWritesRow.holds Try.pinned (OpenSpec.ofChange binWritesWrong)

/-- 'rescindlaw03.BinBack': WHATEVER THE INPUT: true; the input reads as it did. -/
def binBackSpec : ChangeSpec := { name := "binBack", fn := fun _ => fun
  | [d1, d2, d3] => { results := [.lit (.bool true)], args := [d1, d2, d3] }
  | _ => none }
def binBackRow : OpenClaim := { program := "ytmeecaldehfnaaa", sum := "33cb671654c8160d00fcbe972ebecc2b3875ef49a866eac5a0d7a8bc6ce1f785", func := "rescind/rescindlaw03.BinBack", spec := "binBack", unfollowed := true, recurses := true, apart := false }
def BinBackSaid : Prop := binBackRow.holds Try.pinned (OpenSpec.ofChange binBackSpec)

/-- ITS FALSE NEIGHBOUR: 'it returns false'. Refute it at one input. -/
def binBackWrong : ChangeSpec := { name := "binBack", fn := fun _ => fun
  | [d1, d2, d3] => { results := [.lit (.bool false)], args := [d1, d2, d3] }
  | _ => none }
def BinBackWrongFalsely : Prop := binBackRow.holds Try.pinned (OpenSpec.ofChange binBackWrong)

/-- 'rescindlaw03.BinReads': WHATEVER THE INPUT: true; the input reads as it did. -/
def binReadsSpec : ChangeSpec := { name := "binReads", fn := fun _ => fun
  | [d1, d2] => { results := [.lit (.bool true)], args := [d1, d2] }
  | _ => none }
def binReadsRow : OpenClaim := { program := "ytmeecaldehfnaaa", sum := "33cb671654c8160d00fcbe972ebecc2b3875ef49a866eac5a0d7a8bc6ce1f785", func := "rescind/rescindlaw03.BinReads", spec := "binReads", unfollowed := true, recurses := true, apart := false }
def BinReadsSaid : Prop := binReadsRow.holds Try.pinned (OpenSpec.ofChange binReadsSpec)

/-- ITS FALSE NEIGHBOUR: 'it returns false'. Refute it at one input. -/
def binReadsWrong : ChangeSpec := { name := "binReads", fn := fun _ => fun
  | [d1, d2] => { results := [.lit (.bool false)], args := [d1, d2] }
  | _ => none }
def BinReadsWrongFalsely : Prop := binReadsRow.holds Try.pinned (OpenSpec.ofChange binReadsWrong)

/- THE SECOND FORM. 'bulk': how many values and letters a reading holds, each counted each time it is reached (what is shared counts as often as it is met; a slice's spare places count too). A statement '..UptoSaid' is the law's where the arguments, and the package variables that the reading takes, are together of bulk at most 1048576: NARROWER than '..Said'. Prove '..Said' where nothing that the law and all that it calls make is longer than what came in: it says more and counts as full. Else prove '..UptoSaid'. A law counts once. -/
mutual
def uptoBulk {H : Type} : DataW H → Nat
  | .lit (.string bytes) => bytes.length + 1
  | .lit _ => 1
  | .nil => 1
  | .ptr d => uptoBulk d + 1
  | .slice elems spare => uptoBulkAll elems + uptoBulkAll spare + 1
  | .agg parts => uptoBulkAll parts + 1
  | .iface _ d => uptoBulk d + 1
  | .map entries => uptoBulkEntries entries + 1
  | .held _ => 1
def uptoBulkAll {H : Type} : List (DataW H) → Nat
  | [] => 0
  | d :: r => uptoBulk d + uptoBulkAll r
def uptoBulkEntries {H : Type} : List (Lit × DataW H) → Nat
  | [] => 0
  | x :: r => uptoBulkEntry x + uptoBulkEntries r
def uptoBulkEntry {H : Type} : Lit × DataW H → Nat
  | (.string bytes, d) => bytes.length + uptoBulk d + 1
  | (_, d) => uptoBulk d + 1
 end
def uptoSmall : (H : Type) → List (DataW H) → Bool := fun _ ds => decide (uptoBulkAll ds ≤ 1048576)
def OpenSpec.upto (s : _root_.Go.ChangeSpec) : _root_.Go.OpenSpec := { _root_.Go.OpenSpec.ofChange s with cond := some uptoSmall }

/-- 'rescindlaw03.BinShort', WHERE WHAT IT READS IS OF BULK AT MOST 1048576: true; the input reads as it did. -/
def binShortUptoRow : OpenClaim := { program := "ytmeecaldehfnaaa", sum := "33cb671654c8160d00fcbe972ebecc2b3875ef49a866eac5a0d7a8bc6ce1f785", func := "rescind/rescindlaw03.BinShort", spec := "binShort", unfollowed := true, recurses := true, apart := false, narrowed := true }
def BinShortUptoSaid : Prop := binShortUptoRow.holds Try.pinned (OpenSpec.upto binShortSpec)

/-- 'rescindlaw03.BinWrites', WHERE WHAT IT READS IS OF BULK AT MOST 1048576: true; the input reads as it did. -/
def binWritesUptoRow : OpenClaim := { program := "ytmeecaldehfnaaa", sum := "33cb671654c8160d00fcbe972ebecc2b3875ef49a866eac5a0d7a8bc6ce1f785", func := "rescind/rescindlaw03.BinWrites", spec := "binWrites", unfollowed := true, recurses := true, apart := false, narrowed := true }
def BinWritesUptoSaid : Prop := binWritesUptoRow.holds Try.pinned (OpenSpec.upto binWritesSpec)

/-- 'rescindlaw03.BinBack', WHERE WHAT IT READS IS OF BULK AT MOST 1048576: true; the input reads as it did. -/
def binBackUptoRow : OpenClaim := { program := "ytmeecaldehfnaaa", sum := "33cb671654c8160d00fcbe972ebecc2b3875ef49a866eac5a0d7a8bc6ce1f785", func := "rescind/rescindlaw03.BinBack", spec := "binBack", unfollowed := true, recurses := true, apart := false, narrowed := true }
def BinBackUptoSaid : Prop := binBackUptoRow.holds Try.pinned (OpenSpec.upto binBackSpec)

/-- 'rescindlaw03.BinReads', WHERE WHAT IT READS IS OF BULK AT MOST 1048576: true; the input reads as it did. -/
def binReadsUptoRow : OpenClaim := { program := "ytmeecaldehfnaaa", sum := "33cb671654c8160d00fcbe972ebecc2b3875ef49a866eac5a0d7a8bc6ce1f785", func := "rescind/rescindlaw03.BinReads", spec := "binReads", unfollowed := true, recurses := true, apart := false, narrowed := true }
def BinReadsUptoSaid : Prop := binReadsUptoRow.holds Try.pinned (OpenSpec.upto binReadsSpec)

end Rows
end Go.Proofs.Ytmeecaldehfnaaa
