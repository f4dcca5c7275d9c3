/- Layer 26 (tally): a tally in memory. -/
import Derived.Test.YtnidaahimofppaaTalK
import Derived.Maps.OwnOps
import Derived.Maps.OwnSet
namespace Go.Proofs.Ytnidaahimofppaa
open Go.RowKit Go.Maps
set_option linter.unusedVariables false
set_option linter.unusedSimpArgs false

/-- What an aggregate has come to. -/
inductive Pt where
  | cnt (n : Int)
  | tot (n : Int)
  | ext (last : Bool)
  | sid (north : Bool)
  | sta
/-- Nothing but these blocks (and new memory) has changed. -/
structure Chg (f : List Nat) (w w' : World) : Prop where
  os : w'.os = w.os
  tape : w'.tape = w.tape
  output : w'.output = w.output
  size : w.heap.size ≤ w'.heap.size
  block : ∀ k, k < w.heap.size → k ∉ f → w'.heap[k]? = w.heap[k]?
theorem Chg.refl (f : List Nat) (w : World) : Chg f w w := ⟨rfl, rfl, rfl, Nat.le_refl _, fun _ _ _ => rfl⟩
theorem Chg.of {f : List Nat} {w w' : World} (h : Below w.heap.size w w') : Chg f w w' := ⟨h.os, h.tape, h.output, h.size, fun k hk _ => h.block k hk⟩
theorem Chg.trans {f f1 : List Nat} {w w1 w2 : World} (h : Chg f w w1) (h2 : Chg f1 w1 w2) (hf : ∀ k ∈ f1, k ∈ f ∨ w.heap.size ≤ k) : Chg f w w2 :=
  ⟨h2.os.trans h.os, h2.tape.trans h.tape, h2.output.trans h.output, Nat.le_trans h.size h2.size, fun k hk hg => (h2.block k (Nat.lt_of_lt_of_le hk h.size) (fun e => (hf k e).elim hg (fun e => by omega))).trans (h.block k hk hg)⟩
theorem Chg.up {f f1 : List Nat} {w w1 : World} (h : Chg f w w1) (hf : ∀ k ∈ f, k ∈ f1) : Chg f1 w w1 := ⟨h.os, h.tape, h.output, h.size, fun k hk hg => h.block k hk (fun e => hg (hf k e))⟩
theorem Chg.below {f : List Nat} {w w1 : World} {B : Nat} (h : Chg f w w1) (hB : B ≤ w.heap.size) (hf : ∀ k ∈ f, B ≤ k) : Below B w w1 :=
  ⟨h.os, h.tape, h.output, h.size, fun k hk => h.block k (by omega) (fun e => by have := hf k e; omega)⟩
theorem Chg.set {f : List Nat} {w w' : World} (h : Chg f w w') (g i : Nat) (hg : g ∈ f ∨ w.heap.size ≤ g) (v : Value) : Chg f w (w'.setCell ⟨g, i, none⟩ v) :=
  h.trans (f1 := [g]) ⟨rfl, rfl, rfl, by simp, fun k _ hk => Below.heap_setCell w' ⟨g, i, none⟩ v k (by simpa using hk)⟩ (fun k hk => by simp at hk; subst hk; exact hg)
/-- A part in memory, in these blocks. -/
def PartAt (w : World) (f : List Nat) (v : Value) : Pt → Prop
  | .cnt n => ∃ g, v = .iface 79 (.pointer (some ⟨g, 0, none⟩)) ∧ f = [g] ∧ w.heap[g]? = some (.cells #[.int .i64 n] 81 (0, 0))
  | .tot n => ∃ g, v = .iface 82 (.pointer (some ⟨g, 0, none⟩)) ∧ f = [g] ∧ inW n ∧ w.heap[g]? = some (.cells #[.int .i64 (hiW n), .int .u64 (loW n)] 87 (0, 0))
  | .ext _ => f = []
  | .sid _ => f = []
  | .sta => v = .iface 100 (.agg #[]) ∧ f = []
theorem PartAt.chg {w w' : World} {f fc : List Nat} {v : Value} {p : Pt} (h : PartAt w f v p) (hc : Chg fc w w') (hd : ∀ k ∈ f, k ∉ fc) : PartAt w' f v p := by
  cases p with
  | cnt n =>
    obtain ⟨g, h1, rfl, h3⟩ := h
    exact ⟨g, h1, rfl, by rw [hc.block g (Array.getElem?_eq_some_iff.1 h3).1 (hd g (by simp))]; exact h3⟩
  | tot n =>
    obtain ⟨g, h1, rfl, h2, h3⟩ := h
    exact ⟨g, h1, rfl, h2, by rw [hc.block g (Array.getElem?_eq_some_iff.1 h3).1 (hd g (by simp))]; exact h3⟩
  | ext _ => exact h
  | sid _ => exact h
  | sta => exact h
theorem PartAt.below {w w' : World} {f : List Nat} {v : Value} {p : Pt} (h : PartAt w f v p) (hb : Below w.heap.size w w') : PartAt w' f v p := h.chg (Chg.of (f := []) hb) (fun _ _ => by simp)
def ptOf (k : Int) : Pt := if k = 1 then .cnt 0 else if k = 2 then .tot 0 else if k = 3 ∨ k = 4 then .ext (k == 4) else if k = 5 ∨ k = 6 then .sid (k == 6) else .sta
/-- A new part. -/
def NewPart (w : World) (k : Int) (v : Value) (w' : World) : Prop := (∃ f, PartAt w' f v (ptOf k) ∧ ∀ x ∈ f, w.heap.size ≤ x ∧ x < w'.heap.size) ∧ ∃ t pl, v = .iface t pl
def BegP (w : World) (k : Int) (e : Ending) (w' : World) : Prop := ∃ v, e = .returned v ∧ NewPart w k v w' ∧ Below w.heap.size w w'
end Go.Proofs.Ytnidaahimofppaa
