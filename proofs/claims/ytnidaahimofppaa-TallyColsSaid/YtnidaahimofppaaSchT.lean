/- Layer 7 (schema): columns picked out of a schema, schemas joined: walked. -/
import Derived.Test.YtnidaahimofppaaSchQ
import Derived.Test.YtnidaahimofppaaRowU
import Derived.Laws.MakeOwn
namespace Go.Proofs.Ytnidaahimofppaa
open Go.RowKit Go.Shelf
set_option linter.unusedVariables false
set_option linter.unusedSimpArgs false

theorem make_cols (t : TypeId) (ht : Try.prog.underlying t = some (.slice 56)) (W : World) (n : Nat) (hn : n * 24 ≤ 281474976710656) : ∃ r d, (Instr.makeSlice t (.int .i64 0) (.int .i64 (n : Int))).run Try.prog W = .ok (.slice (some ⟨W.heap.size, 0, none⟩) 0 n) (xw W r d) ∧ OwnC (xw W r d) W.heap.size (.slice (some ⟨W.heap.size, 0, none⟩) 0 n) [] := by
  obtain ⟨i0, hi, hzz⟩ := Option.map_eq_some_iff.1 infoC
  simp only [Prod.mk.injEq] at hzz
  obtain ⟨hz0, hz1, hz2⟩ := hzz
  obtain ⟨w', hr, ho, hg⟩ := run_make_own (P := Try.prog) W W.heap.size t 56 i0 _ 2 ht hi hz0 hz1 .i64 .i64 n (by rw [hz2]; omega) (by simp only [maxLen]; omega) (Nat.le_refl _)
  obtain ⟨r, d, rfl⟩ := xw_of ((Below.refl W.heap.size W).grown hg (Nat.le_refl _) (fun k hk => by cases hk))
  exact ⟨r, d, hr, ho⟩
section
variable {ops : Array Oper} {rest : List Oper} {o : Oper} {a : Act} {Q : Exit → Act → World → Prop}
/-- make(T, 0, n). -/
theorem mk_cols {W : World} (hgd : o.guard = none) (x : Operand) (t : TypeId) (l : Operand)
    (ho : o.op = .makeSlice t l x) (ht : Try.prog.underlying t = some (.slice 56)) (n : Nat) (hl : a.eval l = .int .i64 0) (hx : a.eval x = .int .i64 (n : Int)) (hn : n * 24 ≤ 281474976710656)
    (h : ∀ r d, OwnC (xw W r d) W.heap.size (.slice (some ⟨W.heap.size, 0, none⟩) 0 n) [] → wpList Try.prog ops Q rest (a.put o.dst (.slice (some ⟨W.heap.size, 0, none⟩) 0 n)) (xw W r d)) :
    wpList Try.prog ops Q (o :: rest) a W := by
  obtain ⟨r, d, hr, hO⟩ := make_cols t ht W n hn
  refine wpList_plain hgd fun K hK => ?_
  unfold Oper.wp execOp
  simp only [ho, hl, hx, Sem.run_bind, Sem.run_pure, Result.andThen_ok, hr]
  exact hK _ _ (h r d hO)
end
/-- It returns a new schema. -/
def RetC1 (w : World) (xs : List Cl) (e : Ending) (w' : World) : Prop := ∃ v, e = .returned v ∧ OwnC w' w.heap.size v xs ∧ Below w.heap.size w w'
def RetC (w : World) (q : List Cl × Int) (e : Ending) (w' : World) : Prop := ∃ v, e = .returned (.tuple #[v, .int .i64 q.2]) ∧ OwnC w' w.heap.size v q.1 ∧ Below w.heap.size w w'

/-! ### Pick -/
/-- Which numbers are no columns' (as the machine asks it). -/
def idxB (n : Nat) : List Int → Nat → Int
  | [], _ => -1
  | c :: r, i => if c < 0 ∨ (n : Int) ≤ c then (i : Int) else idxB n r (i + 1)
theorem idxB_pos (n : Nat) (cs : List Int) (i : Nat) : (0 ≤ idxB n cs i) ↔ ∃ c ∈ cs, c < 0 ∨ (n : Int) ≤ c := by
  induction cs generalizing i with
  | nil => simp [idxB]
  | cons x r ih =>
    have e : idxB n (x :: r) i = if x < 0 ∨ (n : Int) ≤ x then (i : Int) else idxB n r (i + 1) := rfl
    by_cases h : x < 0 ∨ (n : Int) ≤ x
    · rw [if_pos h] at e
      rw [e]
      exact ⟨fun _ => ⟨x, by simp, h⟩, fun _ => by omega⟩
    · rw [if_neg h] at e
      rw [e, ih]
      constructor
      · rintro ⟨c, hc, hx⟩; exact ⟨c, by simp [hc], hx⟩
      · rintro ⟨c, hc, hx⟩
        rcases List.mem_cons.1 hc with rfl | hc
        · exact absurd hx h
        · exact ⟨c, hc, hx⟩
def IxB (n : Nat) (cs : List Int) (w : World) (v8 : Value) (wr : World) : Prop := ∃ i : Nat, v8 = .int .i64 (i : Int) ∧ wr = w ∧ Kept (i ≤ cs.length ∧ idxB n cs 0 = idxB n (cs.drop i) i)
theorem idxB_step {n : Nat} {cs : List Int} {i : Nat} (hi : i < cs.length) : idxB n (cs.drop i) i = if cs[i] < 0 ∨ (n : Int) ≤ cs[i] then (i : Int) else idxB n (cs.drop (i + 1)) (i + 1) := by
  rw [List.drop_eq_getElem_cons hi]
  rfl
theorem idxB_end {n : Nat} {cs : List Int} {i : Nat} (hi : cs.length ≤ i) : idxB n (cs.drop i) i = -1 := by
  rw [List.drop_of_length_le hi]
  rfl
theorem idxFrom_before (x : Int) (zs : List Int) (i k : Nat) (h : Lib.idxFrom zs x i = ((i + k : Nat) : Int)) : ∀ j, (hj : j < k) → (hl : j < zs.length) → zs[j] ≠ x := by
  induction zs generalizing i k with
  | nil => intro j hj hl; simp at hl
  | cons z r ih =>
    intro j hj hl
    rw [Lib.idxFrom] at h
    split at h
    · omega
    · rename_i hx
      cases j with
      | zero => exact hx
      | succ j =>
        have h2 : Lib.idxFrom r x (i + 1) = (((i + 1) + (k - 1) : Nat) : Int) := by rw [h]; congr 1; omega
        exact ih (i + 1) (k - 1) h2 j (by omega) (by simpa using hl)
theorem idxOf_dup {ns : List Int} {i : Nat} (hi : i < ns.length) (h : ns[i] ∈ ns.take i) : Lib.idxOf ns ns[i] ≠ (i : Int) := by
  intro e
  obtain ⟨j, hj, he⟩ := List.getElem_of_mem h
  rw [List.getElem_take] at he
  rw [List.length_take] at hj
  exact idxFrom_before ns[i] ns 0 i (by rw [Nat.zero_add]; exact e) j (by omega) (by omega) he
theorem idxOf_new {ns : List Int} {i : Nat} (hi : i < ns.length) (h : ns[i] ∉ ns.take i) : Lib.idxOf ns ns[i] = (i : Int) := by
  have := Lib.idxOf_hit ns ns.length i ns[i] hi (Nat.le_refl _) (by simp [hi]) (fun j hj e => h (by
    have hjl : j < ns.length := by omega
    rw [List.getD_eq_getElem?_getD, List.getElem?_eq_getElem hjl] at e
    rw [← e, List.mem_take_iff_getElem]
    exact ⟨j, by omega, rfl⟩))
  rwa [List.take_length] at this
theorem HasI.opn' {w : World} {B : Nat} {A : Option Addr} {n c : Nat} {ns : List Int} (h : HasI w B (.slice A n c) ns) (hne : ns ≠ []) : ∃ b off, A = some ⟨b, off, none⟩ ∧ b < B ∧ ∀ i, (hi : i < ns.length) → w.cell? ⟨b, off + i, none⟩ = some (.int .i64 ns[i]) := by
  obtain ⟨A', c', hv, hA⟩ := h
  injection hv with h1 h2 h3
  subst h1
  exact hA hne
def getC (cs : List Cl) (c : Int) : Cl := (cs[c.toNat]?).getD ⟨⟨#[]⟩, 0⟩
theorem getC_at {cs : List Cl} {m : Nat} (h : m < cs.length) : getC cs (m : Int) = cs[m] := by simp [getC, h]
def badN (n : Nat) (ns : List Int) : Prop := ∃ c ∈ ns, c < 0 ∨ (n : Int) ≤ c
instance (n : Nat) (ns : List Int) : Decidable (badN n ns) := by unfold badN; infer_instance
def pickC (cs : List Cl) (ns : List Int) : List Cl × Int := if mayC cs = true then (if 8 < ns.length then ([], 6) else if badN cs.length ns then ([], 3) else if ns.Nodup then (ns.map (getC cs), 0) else ([], 9)) else ([], 17)
def PcI (cs : List Cl) (ns : List Int) (w : World) (v26 v6 : Value) (wr : World) : Prop := ∃ (i : Nat) (r : Array Obj) (d : Nat), v26 = .int .i64 (i : Int) ∧ wr = xw w r d ∧ Kept (OwnC wr w.heap.size v6 ((ns.take i).map (getC cs))) ∧ Kept (i ≤ ns.length ∧ (ns.take i).Nodup)
end Go.Proofs.Ytnidaahimofppaa
