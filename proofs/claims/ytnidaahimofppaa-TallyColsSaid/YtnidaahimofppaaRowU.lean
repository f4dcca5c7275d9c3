/- Layer 6 (row): values picked out of a row, walked; the program's and the reference's. -/
import Derived.Test.YtnidaahimofppaaRowT
namespace Go.Proofs.Ytnidaahimofppaa
open Go.RowKit
set_option linter.unusedVariables false
set_option linter.unusedSimpArgs false

/-- A slice of numbers, wherever it lies (in blocks below B). -/
def HasI (w : World) (B : Nat) (v : Value) (cs : List Int) : Prop := ∃ A c, v = .slice A cs.length c ∧ (cs ≠ [] → ∃ b off, A = some ⟨b, off, none⟩ ∧ b < B ∧ ∀ i, (hi : i < cs.length) → w.cell? ⟨b, off + i, none⟩ = some (.int .i64 cs[i]))
theorem HasI.below {w w1 : World} {B : Nat} {v : Value} {cs : List Int} (h : HasI w B v cs) (hb : Below B w w1) : HasI w1 B v cs := by
  obtain ⟨A, c, hv, hc⟩ := h
  refine ⟨A, c, hv, fun hn => ?_⟩
  obtain ⟨b, off, hA, hlt, hcell⟩ := hc hn
  exact ⟨b, off, hA, hlt, fun i hi => (World.cell?_of_block (hb.block b hlt)).trans (hcell i hi)⟩
theorem HasI.up {w : World} {B B' : Nat} {v : Value} {cs : List Int} (h : HasI w B v cs) (hB : B ≤ B') : HasI w B' v cs := by
  obtain ⟨A, c, hv, hc⟩ := h
  refine ⟨A, c, hv, fun hn => ?_⟩
  obtain ⟨b, off, hA, hlt, hcell⟩ := hc hn
  exact ⟨b, off, hA, Nat.lt_of_lt_of_le hlt hB, hcell⟩
def pickL (a : List Vr) : List Int → Option (List Vr)
  | [] => some []
  | c :: r => if c < 0 then none else match a[c.toNat]? with
    | none => none
    | some x => (pickL a r).map (x :: ·)
def pickR (a : List Vr) (cs : List Int) : List Vr × Int := if mayR a = true then (if 8 < cs.length then ([], 6) else match pickL a cs with
  | none => ([], 3)
  | some l => (l, 0)) else ([], 2)
/-- What is picked so far, and what is to come. -/
def PkI (xs : List Vr) (cs : List Int) (w : World) (v22 v6 : Value) (wr : World) : Prop := ∃ (i : Nat) (out : List Vr) (r : Array Obj) (d : Nat), v22 = .int .i64 (i : Int) ∧ wr = xw w r d ∧ Kept (OwnR wr w.heap.size v6 out) ∧ Kept (i ≤ cs.length ∧ out.length = i ∧ pickL xs cs = (pickL xs (cs.drop i)).map (out ++ ·))
theorem pick_none {xs : List Vr} {cs : List Int} {i : Nat} {out : List Vr} (hi : i < cs.length) (h : cs[i] < 0 ∨ (xs.length : Int) ≤ cs[i]) (he : pickL xs cs = (pickL xs (cs.drop i)).map (out ++ ·)) : pickL xs cs = none := by
  rw [he, List.drop_eq_getElem_cons hi]
  unfold pickL
  rcases h with h | h
  · rw [if_pos h]; rfl
  · rw [if_neg (by omega), List.getElem?_eq_none (by omega)]; rfl
theorem pick_some {xs : List Vr} {cs : List Int} {i m : Nat} {out : List Vr} (hi : i < cs.length) (hc : cs[i] = (m : Int)) (hm : m < xs.length) (he : pickL xs cs = (pickL xs (cs.drop i)).map (out ++ ·)) : pickL xs cs = (pickL xs (cs.drop (i + 1))).map ((out ++ [xs[m]]) ++ ·) := by
  rw [he, List.drop_eq_getElem_cons hi, hc]
  rw [pickL, if_neg (by omega), Int.toNat_natCast, List.getElem?_eq_getElem hm]
  simp only [Option.map_map]
  congr 1
  funext l
  simp
theorem pick_end {xs : List Vr} {cs : List Int} {i : Nat} {out : List Vr} (hi : cs.length ≤ i) (he : pickL xs cs = (pickL xs (cs.drop i)).map (out ++ ·)) : pickL xs cs = some out := by
  rw [he, List.drop_of_length_le hi]
  simp [pickL]
end Go.Proofs.Ytnidaahimofppaa
