/- Layer 26 (tally): what an aggregate of copies is, by the reference: words for the loops. -/
import Derived.Test.YtnidaahimofppaaGreatQpbp
namespace Go.Proofs.YtnidaahimofppaaGreat
open Go.RowKit
set_option linter.unusedVariables false
set_option linter.unusedSimpArgs false

theorem sum_bd1 {L : Cps} (hp : ∀ c ∈ L, 1 ≤ c.2) (f : List Vr → Int) (hf : ∀ r, -1 ≤ f r ∧ f r ≤ 1) : -(cntC L) ≤ sumC L f ∧ sumC L f ≤ cntC L := by
  induction L with
  | nil => simp [cntC, sumC]
  | cons c L ih =>
    have h1 := ih (fun x hx => hp x (by simp [hx]))
    have h2 := hp c (by simp)
    have h3 := hf c.1
    have h4 : cntC (c :: L) = c.2 * 1 + cntC L := sumC_cons c L _
    have h5 : c.2 * f c.1 ≤ c.2 * 1 := Int.mul_le_mul_of_nonneg_left (by omega) (by omega)
    have h6 : c.2 * (-1) ≤ c.2 * f c.1 := Int.mul_le_mul_of_nonneg_left (by omega) (by omega)
    rw [sumC_cons, h4]
    omega
def eaF (c : Int) (r : List Vr) : Int := (spE (valAt r c).n).1
def noF (c : Int) (r : List Vr) : Int := (spE (valAt r c).n).2
theorem spE_bd (v : Int) : (-1 ≤ (spE v).1 ∧ (spE v).1 ≤ 1) ∧ (-1 ≤ (spE v).2 ∧ (spE v).2 ≤ 1) := by
  rcases spE_cases v with h | h | h | h <;> rw [h] <;> simp
theorem part_ea {Ks : List Pv} (h : KsOk Ks) (c : Int) (i : Nat) : (-1048576 ≤ sumC (toC (Ks.take i)) (eaF c) ∧ sumC (toC (Ks.take i)) (eaF c) ≤ 1048576) ∧ (-1048576 ≤ sumC (toC (Ks.take i)) (noF c) ∧ sumC (toC (Ks.take i)) (noF c) ≤ 1048576) := by
  have h1 := part_cnt h.pos i
  have h2 := h.full
  rw [← toC_take'] at h1
  have hp : ∀ x ∈ toC (Ks.take i), 1 ≤ x.2 := fun x hx => by rw [toC_take'] at hx; exact h.pos x (List.mem_of_mem_take hx)
  have h3 := sum_bd1 hp (eaF c) (fun r => (spE_bd _).1)
  have h4 := sum_bd1 hp (noF c) (fun r => (spE_bd _).2)
  omega
theorem n_bd {Ks : List Pv} (h : KsOk Ks) {i : Nat} (hi : i < Ks.length) : 1 ≤ (Ks[i]).n ∧ (Ks[i]).n ≤ 1048576 := by
  have h1 := (part_cnt h.pos (i + 1)).2
  have h2 := (part_cnt h.pos i).1
  have h3 := h.full
  rw [← toC_take'] at h1 h2
  rw [toC_take Ks i hi, cntC_app, cntC_one] at h1
  have h4 := h.pos (Ks[i].r, Ks[i].n) (List.mem_map.2 ⟨Ks[i], List.getElem_mem hi, rfl⟩)
  simp only at h4
  omega
theorem box3 {w : World} {n : Nat} {a b c : Value} {t : TypeId} (h : w.heap[n]? = some (.cells #[a, b, c] t (0, 0))) : w.cell? ⟨n, 0, none⟩ = some a ∧ w.cell? ⟨n, 1, none⟩ = some b ∧ w.cell? ⟨n, 2, none⟩ = some c ∧ ∀ i, w.frozen? ⟨n, i, none⟩ = false := by
  refine ⟨?_, ?_, ?_, fun i => ?_⟩ <;> simp [World.cell?, World.frozen?, h]
/-- The aggregate's own box, and the result's. -/
structure Bx (w wr : World) (k n : Int) (s : ByteArray) : Prop where
  a : wr.heap[w.heap.size]? = some (.cells #[.int .i64 k, .int .i64 n, .string s] 56 (0, 0))
  r : wr.heap[w.heap.size + 1]? = some (.cells #[.int .i64 0, .int .i64 0, .string ⟨#[]⟩] 68 (0, 0))
  bel : Below w.heap.size w wr
theorem Bx.chg {w wr w' : World} {k n : Int} {s : ByteArray} {f : List Nat} (h : Bx w wr k n s) (hc : Chg f wr w') (h0 : w.heap.size ∉ f) (h1 : w.heap.size + 1 ∉ f) (hB : ∀ x ∈ f, w.heap.size ≤ x) : Bx w w' k n s :=
  ⟨(hc.block _ (Array.getElem?_eq_some_iff.1 h.a).1 h0).trans h.a, (hc.block _ (Array.getElem?_eq_some_iff.1 h.r).1 h1).trans h.r, h.bel.trans (hc.below h.bel.size hB)⟩
def SdI (Ks : List Pv) (k n : Int) (s : ByteArray) (w : World) (v11 : Value) (wr : World) : Prop := ∃ i : Nat, v11 = .int .i64 (i : Int) ∧ Kept (i ≤ Ks.length ∧ wr.heap[w.heap.size + 1 + 1]? = some (.cells #[.int .i64 (sumC (toC (Ks.take i)) (eaF n)), .int .i64 (sumC (toC (Ks.take i)) (noF n))] 108 (0, 0)) ∧ Bx w wr k n s)
def BestI (Ks : List Pv) (mx : Bool) (fin : Vr) (k n : Int) (s : ByteArray) (w : World) (v13 : Value) (wr : World) : Prop := ∃ (i : Nat) (cur : Vr), v13 = .int .i64 (i : Int) ∧ Kept (1 ≤ i ∧ i ≤ Ks.length ∧ BoxV wr (w.heap.size + 1 + 1) cur ∧ bestL mx n cur ((toC Ks).drop i) = fin ∧ Bx w wr k n s)
theorem nin0 (n : Nat) : n ∉ [n + 1 + 1] := by simp; omega
theorem nin1 (n : Nat) : n + 1 ∉ [n + 1 + 1] := by rw [List.mem_singleton]; omega
theorem nin2 (n : Nat) : ∀ x ∈ [n + 1 + 1], n ≤ x := fun x hx => by rw [List.mem_singleton] at hx; omega
theorem less_bareK {n i : Nat} (h : i < n) : n - (intOf (.int .i64 ((i : Int) + 1))).toNat < n - (intOf (.int .i64 (i : Int))).toNat := by
  simp only [intOf]
  omega
theorem best_drop {Ks : List Pv} {mx : Bool} {c : Int} {cur : Vr} {i : Nat} (hi : i < Ks.length) : bestL mx c cur ((toC Ks).drop i) = bestL mx c (if betV mx (valAt (Ks[i]).r c) cur = true then valAt (Ks[i]).r c else cur) ((toC Ks).drop (i + 1)) := by
  have hl : i < (toC Ks).length := by rw [toC_len]; exact hi
  rw [List.drop_eq_getElem_cons hl, bestL]
  simp [toC]
end Go.Proofs.YtnidaahimofppaaGreat
