/- Layer 7 (schema): columns picked out of a schema, schemas joined: walked. -/
import Derived.Test.YtnidaahimofppaaGreatQpah
import Derived.Test.YtnidaahimofppaaGreatQpae
import Derived.Laws.MakeOwn
namespace Go.Proofs.YtnidaahimofppaaGreat
open Go.RowKit Go.Shelf
set_option linter.unusedVariables false
set_option linter.unusedSimpArgs false

theorem make_cols (t : TypeId) (ht : Tryz.prog.underlying t = some (.slice 52)) (W : World) (n : Nat) (hn : n * 24 ≤ 281474976710656) : ∃ r d, (Instr.makeSlice t (.int .i64 0) (.int .i64 (n : Int))).run Tryz.prog W = .ok (.slice (some ⟨W.heap.size, 0, none⟩) 0 n) (xw W r d) ∧ OwnC (xw W r d) W.heap.size (.slice (some ⟨W.heap.size, 0, none⟩) 0 n) [] := by
  obtain ⟨i0, hi, hzz⟩ := Option.map_eq_some_iff.1 infoC
  simp only [Prod.mk.injEq] at hzz
  obtain ⟨hz0, hz1, hz2⟩ := hzz
  obtain ⟨w', hr, ho, hg⟩ := run_make_own (P := Tryz.prog) W W.heap.size t 52 i0 _ 2 ht hi hz0 hz1 .i64 .i64 n (by rw [hz2]; omega) (by simp only [maxLen]; omega) (Nat.le_refl _)
  obtain ⟨r, d, rfl⟩ := xw_of ((Below.refl W.heap.size W).grown hg (Nat.le_refl _) (fun k hk => by cases hk))
  exact ⟨r, d, hr, ho⟩
section
variable {ops : Array Oper} {rest : List Oper} {o : Oper} {a : Act} {Q : Exit → Act → World → Prop}
/-- make(T, 0, n). -/
theorem mk_cols {W : World} (hgd : o.guard = none) (x : Operand) (t : TypeId) (l : Operand)
    (ho : o.op = .makeSlice t l x) (ht : Tryz.prog.underlying t = some (.slice 52)) (n : Nat) (hl : a.eval l = .int .i64 0) (hx : a.eval x = .int .i64 (n : Int)) (hn : n * 24 ≤ 281474976710656)
    (h : ∀ r d, OwnC (xw W r d) W.heap.size (.slice (some ⟨W.heap.size, 0, none⟩) 0 n) [] → wpList Tryz.prog ops Q rest (a.put o.dst (.slice (some ⟨W.heap.size, 0, none⟩) 0 n)) (xw W r d)) :
    wpList Tryz.prog ops Q (o :: rest) a W := by
  obtain ⟨r, d, hr, hO⟩ := make_cols t ht W n hn
  refine wpList_plain hgd fun K hK => ?_
  unfold Oper.wp execOp
  simp only [ho, hl, hx, Sem.run_bind, Sem.run_pure, Result.andThen_ok, hr]
  exact hK _ _ (h r d hO)
end
/-- It returns a new schema. -/
def RetC1 (w : World) (xs : List Cl) (e : Ending) (w' : World) : Prop := ∃ v, e = .returned v ∧ OwnC w' w.heap.size v xs ∧ Below w.heap.size w w'
def RetC (w : World) (q : List Cl × Int) (e : Ending) (w' : World) : Prop := ∃ v, e = .returned (.tuple #[v, .int .i64 q.2]) ∧ OwnC w' w.heap.size v q.1 ∧ Below w.heap.size w w'

/-! ### Pick -/
/-- Which numbers are no columns' (as the machine asks it). -/
def idxB (n : Nat) : List Int → Nat → Int
  | [], _ => -1
  | c :: r, i => if c < 0 ∨ (n : Int) ≤ c then (i : Int) else idxB n r (i + 1)
theorem idxB_pos (n : Nat) (cs : List Int) (i : Nat) : (0 ≤ idxB n cs i) ↔ ∃ c ∈ cs, c < 0 ∨ (n : Int) ≤ c := by
  induction cs generalizing i with
  | nil => simp [idxB]
  | cons x r ih =>
    have e : idxB n (x :: r) i = if x < 0 ∨ (n : Int) ≤ x then (i : Int) else idxB n r (i + 1) := rfl
    by_cases h : x < 0 ∨ (n : Int) ≤ x
    · rw [if_pos h] at e
      rw [e]
      exact ⟨fun _ => ⟨x, by simp, h⟩, fun _ => by omega⟩
    · rw [if_neg h] at e
      rw [e, ih]
      constructor
      · rintro ⟨c, hc, hx⟩; exact ⟨c, by simp [hc], hx⟩
      · rintro ⟨c, hc, hx⟩
        rcases List.mem_cons.1 hc with rfl | hc
        · exact absurd hx h
        · exact ⟨c, hc, hx⟩
def IxB (n : Nat) (cs : List Int) (w : World) (v8 : Value) (wr : World) : Prop := ∃ i : Nat, v8 = .int .i64 (i : Int) ∧ wr = w ∧ Kept (i ≤ cs.length ∧ idxB n cs 0 = idxB n (cs.drop i) i)
theorem idxB_step {n : Nat} {cs : List Int} {i : Nat} (hi : i < cs.length) : idxB n (cs.drop i) i = if cs[i] < 0 ∨ (n : Int) ≤ cs[i] then (i : Int) else idxB n (cs.drop (i + 1)) (i + 1) := by
  rw [List.drop_eq_getElem_cons hi]
  rfl
theorem idxB_end {n : Nat} {cs : List Int} {i : Nat} (hi : cs.length ≤ i) : idxB n (cs.drop i) i = -1 := by
  rw [List.drop_of_length_le hi]
  rfl
theorem idxFrom_before (x : Int) (zs : List Int) (i k : Nat) (h : Lib.idxFrom zs x i = ((i + k : Nat) : Int)) : ∀ j, (hj : j < k) → (hl : j < zs.length) → zs[j] ≠ x := by
  induction zs generalizing i k with
  | nil => intro j hj hl; simp at hl
  | cons z r ih =>
    intro j hj hl
    rw [Lib.idxFrom] at h
    split at h
    · omega
    · rename_i hx
      cases j with
      | zero => exact hx
      | succ j =>
        have h2 : Lib.idxFrom r x (i + 1) = (((i + 1) + (k - 1) : Nat) : Int) := by rw [h]; congr 1; omega
        exact ih (i + 1) (k - 1) h2 j (by omega) (by simpa using hl)
theorem idxOf_dup {ns : List Int} {i : Nat} (hi : i < ns.length) (h : ns[i] ∈ ns.take i) : Lib.idxOf ns ns[i] ≠ (i : Int) := by
  intro e
  obtain ⟨j, hj, he⟩ := List.getElem_of_mem h
  rw [List.getElem_take] at he
  rw [List.length_take] at hj
  exact idxFrom_before ns[i] ns 0 i (by rw [Nat.zero_add]; exact e) j (by omega) (by omega) he
theorem idxOf_new {ns : List Int} {i : Nat} (hi : i < ns.length) (h : ns[i] ∉ ns.take i) : Lib.idxOf ns ns[i] = (i : Int) := by
  have := Lib.idxOf_hit ns ns.length i ns[i] hi (Nat.le_refl _) (by simp [hi]) (fun j hj e => h (by
    have hjl : j < ns.length := by omega
    rw [List.getD_eq_getElem?_getD, List.getElem?_eq_getElem hjl] at e
    rw [← e, List.mem_take_iff_getElem]
    exact ⟨j, by omega, rfl⟩))
  rwa [List.take_length] at this
theorem HasI.opn' {w : World} {B : Nat} {A : Option Addr} {n c : Nat} {ns : List Int} (h : HasI w B (.slice A n c) ns) (hne : ns ≠ []) : ∃ b off, A = some ⟨b, off, none⟩ ∧ b < B ∧ ∀ i, (hi : i < ns.length) → w.cell? ⟨b, off + i, none⟩ = some (.int .i64 ns[i]) := by
  obtain ⟨A', c', hv, hA⟩ := h
  injection hv with h1 h2 h3
  subst h1
  exact hA hne
def getC (cs : List Cl) (c : Int) : Cl := (cs[c.toNat]?).getD ⟨⟨#[]⟩, 0⟩
theorem getC_at {cs : List Cl} {m : Nat} (h : m < cs.length) : getC cs (m : Int) = cs[m] := by simp [getC, h]
def badN (n : Nat) (ns : List Int) : Prop := ∃ c ∈ ns, c < 0 ∨ (n : Int) ≤ c
instance (n : Nat) (ns : List Int) : Decidable (badN n ns) := by unfold badN; infer_instance
def pickC (cs : List Cl) (ns : List Int) : List Cl × Int := if mayC cs = true then (if 8 < ns.length then ([], 6) else if badN cs.length ns then ([], 3) else if ns.Nodup then (ns.map (getC cs), 0) else ([], 9)) else ([], 17)
def PcI (cs : List Cl) (ns : List Int) (w : World) (v26 v6 : Value) (wr : World) : Prop := ∃ (i : Nat) (r : Array Obj) (d : Nat), v26 = .int .i64 (i : Int) ∧ wr = xw w r d ∧ Kept (OwnC wr w.heap.size v6 ((ns.take i).map (getC cs))) ∧ Kept (i ≤ ns.length ∧ (ns.take i).Nodup)
end Go.Proofs.YtnidaahimofppaaGreat

/- Layer 7 (schema), plain words: a schema's names differ; which joins and picks are schemas. -/
namespace Go.Proofs.YtnidaahimofppaaGreat
set_option linter.unusedVariables false
set_option linter.unusedSimpArgs false

theorem nd_getElem {l : List ByteArray} : l.Nodup ↔ ∀ i j (hi : i < l.length) (hj : j < l.length), i < j → l[i] ≠ l[j] := List.pairwise_iff_getElem
def goodC (x : Cl) : Bool := nameN (tx x.s) && kindB x.k
theorem okAt_iff {cs : List Cl} {i : Nat} (hi : i < cs.length) : okAt cs i = true ↔ goodC cs[i] = true ∧ ∀ j, (hj : j < i) → (cs[j]'(by omega)).s ≠ cs[i].s := by
  simp only [okAt, dif_pos hi, Bool.and_eq_true, decide_eq_true_eq, goodC]
  rw [idx_first i hi rfl]
theorem mayC_nd {cs : List Cl} : mayC cs = true ↔ (1 ≤ cs.length ∧ cs.length ≤ 8) ∧ (∀ x ∈ cs, goodC x = true) ∧ (cs.map Cl.s).Nodup := by
  rw [mayC_iff]
  refine and_congr_right fun hl => ?_
  constructor
  · intro h
    refine ⟨fun x hx => ?_, nd_getElem.2 (fun i j hi hj hij => ?_)⟩
    · obtain ⟨i, hi, rfl⟩ := List.getElem_of_mem hx
      exact ((okAt_iff hi).1 (h i hi)).1
    · rw [List.length_map] at hi hj
      rw [List.getElem_map, List.getElem_map]
      exact ((okAt_iff hj).1 (h j hj)).2 i hij
  · rintro ⟨h1, h2⟩ i hi
    refine (okAt_iff hi).2 ⟨h1 _ (List.getElem_mem hi), fun j hj => ?_⟩
    have := nd_getElem.1 h2 j i (by rw [List.length_map]; omega) (by rw [List.length_map]; exact hi) hj
    rwa [List.getElem_map, List.getElem_map] at this
theorem idxC_mem (cs : List Cl) (s : ByteArray) (n : Nat) : 0 ≤ idxC cs s n ↔ ∃ x ∈ cs, x.s = s := by
  induction cs generalizing n with
  | nil => simp [idxC]
  | cons x r ih =>
    rw [idxC]
    split
    · rename_i h
      exact ⟨fun _ => ⟨x, by simp, h⟩, fun _ => by omega⟩
    · rename_i h
      rw [ih]
      constructor
      · rintro ⟨y, hy, hs⟩; exact ⟨y, by simp [hy], hs⟩
      · rintro ⟨y, hy, hs⟩
        rcases List.mem_cons.1 hy with rfl | hy
        · exact absurd hs h
        · exact ⟨y, hy, hs⟩
theorem mayC_join {xs ys : List Cl} (h1 : mayC xs = true) (h2 : mayC ys = true) (hl : xs.length + ys.length ≤ 8) : mayC (xs ++ ys) = true ↔ ¬ ∃ y ∈ ys, 0 ≤ idx xs y.s := by
  obtain ⟨l1, g1, n1⟩ := mayC_nd.1 h1
  obtain ⟨l2, g2, n2⟩ := mayC_nd.1 h2
  rw [mayC_nd]
  constructor
  · rintro ⟨_, _, hn⟩ ⟨y, hy, hi⟩
    obtain ⟨x, hx, hs⟩ := (idxC_mem xs y.s 0).1 hi
    rw [List.map_append, List.nodup_append] at hn
    exact hn.2.2 x.s (List.mem_map_of_mem hx) y.s (List.mem_map_of_mem hy) hs
  · intro h
    refine ⟨⟨by rw [List.length_append]; omega, by rw [List.length_append]; exact hl⟩, fun x hx => (List.mem_append.1 hx).elim (g1 x) (g2 x), ?_⟩
    rw [List.map_append, List.nodup_append]
    refine ⟨n1, n2, fun a ha b hb e => ?_⟩
    obtain ⟨x, hx, rfl⟩ := List.mem_map.1 ha
    obtain ⟨y, hy, rfl⟩ := List.mem_map.1 hb
    exact h ⟨y, hy, (idxC_mem xs y.s 0).2 ⟨x, hx, e⟩⟩
theorem getC_in {cs : List Cl} {c : Int} (h : ¬ (c < 0 ∨ (cs.length : Int) ≤ c)) : ∃ m, ∃ hm : m < cs.length, c = (m : Int) ∧ getC cs c = cs[m] := by
  refine ⟨c.toNat, by omega, by omega, ?_⟩
  have h2 : c = ((c.toNat : Nat) : Int) := by omega
  conv => lhs; rw [h2]
  exact getC_at (by omega)
theorem mayC_pick {cs : List Cl} {ns : List Int} (h1 : mayC cs = true) (hl : ns.length ≤ 8) (h0 : ns ≠ []) (hb : ¬ badN cs.length ns) : mayC (ns.map (getC cs)) = true ↔ ns.Nodup := by
  obtain ⟨l1, g1, n1⟩ := mayC_nd.1 h1
  have hp : 1 ≤ ns.length := by cases ns with
    | nil => exact absurd rfl h0
    | cons _ _ => simp
  have hin : ∀ c ∈ ns, ∃ m, ∃ hm : m < cs.length, c = (m : Int) ∧ getC cs c = cs[m] := fun c hc => getC_in (fun h => hb ⟨c, hc, h⟩)
  rw [mayC_nd, List.map_map]
  constructor
  · rintro ⟨_, _, hn⟩
    rw [List.Nodup, List.pairwise_map] at hn
    exact hn.imp (fun h e => h (by rw [e]))
  · intro hn
    refine ⟨⟨by rw [List.length_map]; exact hp, by rw [List.length_map]; exact hl⟩, fun x hx => ?_, ?_⟩
    · obtain ⟨c, hc, rfl⟩ := List.mem_map.1 hx
      obtain ⟨m, hm, _, e⟩ := hin c hc
      rw [e]
      exact g1 _ (List.getElem_mem hm)
    · rw [List.Nodup, List.pairwise_map]
      refine (List.Pairwise.and_mem.1 hn).imp (fun {a b} ⟨ha, hb', hab⟩ e => hab ?_)
      obtain ⟨m, hm, e1, e2⟩ := hin a ha
      obtain ⟨k, hk, e3, e4⟩ := hin b hb'
      simp only [Function.comp] at e
      rw [e2, e4] at e
      have hmk : m = k := by
        rcases Nat.lt_trichotomy m k with h | h | h
        · have := nd_getElem.1 n1 m k (by simpa using hm) (by simpa using hk) h
          rw [List.getElem_map, List.getElem_map] at this
          exact absurd e this
        · exact h
        · have := nd_getElem.1 n1 k m (by simpa using hk) (by simpa using hm) h
          rw [List.getElem_map, List.getElem_map] at this
          exact absurd e.symm this
      rw [e1, e3, hmk]
/-- The same column? as the machine asks. -/
def Cl.eqb (x y : Cl) : Bool := decide (x.s = y.s) && decide (x.k = y.k)
theorem Cl.eqb_iff {x y : Cl} : x.eqb y = true ↔ x = y := by
  constructor
  · intro h
    simp only [Cl.eqb, Bool.and_eq_true, decide_eq_true_eq] at h
    exact Cl.ext' h.1 h.2
  · rintro rfl
    simp [Cl.eqb]
theorem Cl.eqb_refl (x : Cl) : x.eqb x = true := Cl.eqb_iff.2 rfl
def sameC : List Cl → List Cl → Bool
  | [], [] => true
  | x :: a, y :: b => x.eqb y && sameC a b
  | _, _ => false
theorem sameC_iff {a b : List Cl} : sameC a b = true ↔ a = b := by
  induction a generalizing b with
  | nil => cases b <;> simp [sameC]
  | cons x a ih =>
    cases b with
    | nil => simp [sameC]
    | cons y b => simp [sameC, Cl.eqb_iff, ih]
theorem sameC_refl (a : List Cl) : sameC a a = true := sameC_iff.2 rfl
theorem sameC_step {xs ys : List Cl} {i : Nat} (h1 : i < xs.length) (h2 : i < ys.length) : sameC (xs.drop i) (ys.drop i) = (xs[i].eqb ys[i] && sameC (xs.drop (i + 1)) (ys.drop (i + 1))) := by
  rw [List.drop_eq_getElem_cons h1, List.drop_eq_getElem_cons h2]
  rfl
theorem sameC_len {xs ys : List Cl} (h : xs.length ≠ ys.length) : sameC xs ys = false := by
  rw [Bool.eq_false_iff]
  intro e
  rw [sameC_iff] at e
  exact h (by rw [e])
theorem eqbC_cases (x y : Cl) : x = y ∨ (x.eqb y = false ∧ (x.s ≠ y.s ∨ (x.s = y.s ∧ x.k ≠ y.k))) := by
  by_cases h1 : x.s = y.s
  · by_cases h2 : x.k = y.k
    · exact .inl (Cl.ext' h1 h2)
    · exact .inr ⟨by simp [Cl.eqb, h2], .inr ⟨h1, h2⟩⟩
  · exact .inr ⟨by simp [Cl.eqb, h1], .inl h1⟩
end Go.Proofs.YtnidaahimofppaaGreat
