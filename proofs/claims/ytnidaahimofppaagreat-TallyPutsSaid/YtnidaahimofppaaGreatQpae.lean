/- Layer 6 (row): the same rows, copies, walked; the program's and the reference's. -/
import Derived.Test.YtnidaahimofppaaGreatQpad
import Derived.Laws.MakeOwn
import Derived.Test.YtnidaahimofppaaGreatQpaa
namespace Go.Proofs.YtnidaahimofppaaGreat
open Go.RowKit
set_option linter.unusedVariables false
set_option linter.unusedSimpArgs false

def SmI (xs ys : List Vr) (w : World) (v13 : Value) (wr : World) : Prop := ∃ (i nd : Nat), v13 = .int .i64 (i : Int) ∧ wr = w.drewN nd ∧ Kept (i ≤ xs.length ∧ sameR xs ys = sameR (xs.drop i) (ys.drop i))
theorem same_len {xs ys : List Vr} (h : xs.length ≠ ys.length) : sameR xs ys = false := by
  cases hs : sameR xs ys with
  | false => rfl
  | true => exact absurd (congrArg List.length (sameR_iff.1 hs)) h
theorem same_step {xs ys : List Vr} {i : Nat} (hi : i < xs.length) (hj : i < ys.length) : sameR (xs.drop i) (ys.drop i) = (xs[i].eqb ys[i] && sameR (xs.drop (i + 1)) (ys.drop (i + 1))) := by
  rw [List.drop_eq_getElem_cons hi, List.drop_eq_getElem_cons hj]
  rfl
theorem eqb_cases (x y : Vr) : x = y ∨ (x.eqb y = false ∧ (x.k ≠ y.k ∨ (x.k = y.k ∧ x.n ≠ y.n) ∨ (x.k = y.k ∧ x.n = y.n ∧ x.s ≠ y.s))) := by
  by_cases h1 : x.k = y.k
  · by_cases h2 : x.n = y.n
    · by_cases h3 : x.s = y.s
      · exact .inl (Vr.ext' h1 h2 h3)
      · exact .inr ⟨by simp [Vr.eqb, h3], .inr (.inr ⟨h1, h2, h3⟩)⟩
    · exact .inr ⟨by simp [Vr.eqb, h2], .inr (.inl ⟨h1, h2⟩)⟩
  · exact .inr ⟨by simp [Vr.eqb, h1], .inl h1⟩
theorem str_ne {s u : ByteArray} (h : s ≠ u) : (s.toList == u.toList) = false := by
  rw [beq_eq_false_iff_ne]
  intro e
  rw [tx_toList, tx_toList] at e
  exact h (tx_inj e)
set_option maxRecDepth 100000 in
set_option maxHeartbeats 2000000 in
theorem rSame_any (v u : Value) (xs ys : List Vr) (w : World) (H1 : HasR w w.heap.size v xs) (H2 : HasR w w.heap.size u ys) (hN : xs.length ≤ 140737488355328) :
    Calls Tryz.prog 13 #[v, u] w (fun e w' => e = .returned (.bool (sameR xs ys)) ∧ Below w.heap.size w w') := by
  obtain ⟨A, c, rfl, _, hA⟩ := H1
  obtain ⟨B, d, rfl, _, hB⟩ := H2
  have HA := Kept.mk hA
  have HB := Kept.mk hB
  have HN := Kept.mk hN
  clear hA hB hN
  by_cases cl : xs.length = ys.length
  · have HL := Kept.mk cl
    rw [← cl]
    clear cl
    go_enter Tryz.func13, Tryz.ntmps13
    go_wp2_with fail
    go_loopw [5] (fun v5 wr => SmI xs ys w v5 wr) (fun v5 wr => xs.length - (intOf v5).toNat)
    case atStart => exact ⟨0, 0, rfl, rfl, ⟨Nat.zero_le _, rfl⟩⟩
    case round =>
      obtain ⟨i, nd, rfl, rfl, HI⟩ := hrel
      by_cases ci : i < xs.length
      · have cj : i < ys.length := by rw [← HL.out]; exact ci
        have hne : xs ≠ [] := by rintro rfl; simp at ci
        have hne2 : ys ≠ [] := by rintro rfl; simp at cj
        obtain ⟨b1, o1, rfl, _, hc1⟩ := HA.out hne
        obtain ⟨b2, o2, rfl, _, hc2⟩ := HB.out hne2
        obtain ⟨e0, e1, e2⟩ := hc1 i ci
        obtain ⟨g0, g1, g2⟩ := hc2 i cj
        have hst := HI.out.2.trans (same_step ci cj)
        have HST := Kept.mk hst
        clear hst
        generalize xs[i] = x at e0 e1 e2 HST
        generalize ys[i] = y at g0 g1 g2 HST
        have ci' : (i : Int) < (xs.length : Int) := by omega
        have f0 : 0 ≤ (i : Int) := by omega
        have hw : wrap64 ((i : Int) + 1) = (i : Int) + 1 := by have := HN.out; simp only [wrap64]; omega
        have HCI := Kept.mk ci
        clear hc1 hc2 hne hne2 ci cj
        rcases eqb_cases x y with rfl | ⟨he, hd⟩
        · have HE := Kept.mk (Vr.eqb_refl x)
          go_wp2_with fail
          go_quiet (fail)
          go_wp2_with fail
          refine ⟨⟨i + 1, _, by rw [hw]; rfl, rfl, ⟨HCI.out, ?_⟩⟩, less_step hw HCI.out⟩
          rw [HST.out, HE.out, Bool.true_and]
        · have hv : Kept (sameR xs ys = false) := ⟨by rw [HST.out, he, Bool.false_and]⟩
          clear he
          obtain ⟨xk, xn, xs'⟩ := x
          obtain ⟨yk, yn, ys'⟩ := y
          simp only at e0 e1 e2 g0 g1 g2 hd
          clear HST
          rcases hd with h | ⟨h1, h⟩ | ⟨h1, h2, h⟩
          · have h' : (xk == yk) = false := by rw [beq_eq_false_iff_ne]; exact h
            clear h
            go_wp2_with fail
            go_quiet (fail)
            go_wp2_with fail
            go_returns
            exact ⟨by rw [hv.out]; rfl, below_drewN (below_drewN (Below.refl _ _) _) _⟩
          · have h' : (xn == yn) = false := by rw [beq_eq_false_iff_ne]; exact h
            subst h1
            clear h
            go_wp2_with fail
            go_quiet (fail)
            go_wp2_with fail
            go_returns
            exact ⟨by rw [hv.out]; rfl, below_drewN (below_drewN (Below.refl _ _) _) _⟩
          · have h' : (xs'.toList == ys'.toList) = false := str_ne h
            subst h1 h2
            clear h
            go_wp2_with fail
            go_quiet (fail)
            go_wp2_with fail
            go_returns
            exact ⟨by rw [hv.out]; rfl, below_drewN (below_drewN (Below.refl _ _) _) _⟩
      · have ci' : ¬ ((i : Int) < (xs.length : Int)) := by omega
        have hv : Kept (sameR xs ys = true) := ⟨by
          have e : i = xs.length := by have := HI.out.1; omega
          rw [HI.out.2, e, List.drop_length, HL.out, List.drop_length]; rfl⟩
        clear ci
        go_wp2_with fail
        go_returns
        exact ⟨by rw [hv.out]; rfl, below_drewN (Below.refl _ _) _⟩
  · have hv : Kept (sameR xs ys = false) := ⟨same_len cl⟩
    have cl' : ((xs.length : Int) == (ys.length : Int)) = false := by rw [beq_eq_false_iff_ne]; omega
    have cl2 : ((xs.length : Int) != (ys.length : Int)) = true := by simp; omega
    clear cl
    go_enter Tryz.func13, Tryz.ntmps13
    go_wp2_with fail
    go_returns
    exact ⟨by rw [hv.out]; rfl, Below.refl _ _⟩
end Go.Proofs.YtnidaahimofppaaGreat

/- Layer 6 (row): rows copied and joined, walked; the program's and the reference's. -/
namespace Go.Proofs.YtnidaahimofppaaGreat
open Go.RowKit
set_option linter.unusedVariables false
set_option linter.unusedSimpArgs false

theorem make_vals (t : TypeId) (ht : Tryz.prog.underlying t = some (.slice 68)) (W : World) (n : Nat) (hn : n * 32 ≤ 281474976710656) : ∃ r d, (Instr.makeSlice t (.int .i64 0) (.int .i64 (n : Int))).run Tryz.prog W = .ok (.slice (some ⟨W.heap.size, 0, none⟩) 0 n) (xw W r d) ∧ OwnR (xw W r d) W.heap.size (.slice (some ⟨W.heap.size, 0, none⟩) 0 n) [] := by
  obtain ⟨i0, hi, hzz⟩ := Option.map_eq_some_iff.1 infoV
  simp only [Prod.mk.injEq] at hzz
  obtain ⟨hz0, hz1, hz2⟩ := hzz
  obtain ⟨w', hr, ho, hg⟩ := run_make_own (P := Tryz.prog) W W.heap.size t 68 i0 _ 3 ht hi hz0 hz1 .i64 .i64 n (by rw [hz2]; omega) (by simp only [maxLen]; omega) (Nat.le_refl _)
  obtain ⟨r, d, rfl⟩ := xw_of ((Below.refl W.heap.size W).grown hg (Nat.le_refl _) (fun k hk => by cases hk))
  exact ⟨r, d, hr, ho⟩
section
variable {ops : Array Oper} {rest : List Oper} {o : Oper} {a : Act} {Q : Exit → Act → World → Prop}
/-- make(T, 0, n). -/
theorem mk_vals {W : World} (hgd : o.guard = none) (x : Operand) (t : TypeId) (l : Operand)
    (ho : o.op = .makeSlice t l x) (ht : Tryz.prog.underlying t = some (.slice 68)) (n : Nat) (hl : a.eval l = .int .i64 0) (hx : a.eval x = .int .i64 (n : Int)) (hn : n * 32 ≤ 281474976710656)
    (h : ∀ r d, OwnR (xw W r d) W.heap.size (.slice (some ⟨W.heap.size, 0, none⟩) 0 n) [] → wpList Tryz.prog ops Q rest (a.put o.dst (.slice (some ⟨W.heap.size, 0, none⟩) 0 n)) (xw W r d)) :
    wpList Tryz.prog ops Q (o :: rest) a W := by
  obtain ⟨r, d, hr, hO⟩ := make_vals t ht W n hn
  refine wpList_plain hgd fun K hK => ?_
  unfold Oper.wp execOp
  simp only [ho, hl, hx, Sem.run_bind, Sem.run_pure, Result.andThen_ok, hr]
  exact hK _ _ (h r d hO)
end
/-- It returns a new row. -/
def RetR1 (w : World) (xs : List Vr) (e : Ending) (w' : World) : Prop := ∃ v, e = .returned v ∧ OwnR w' w.heap.size v xs ∧ Below w.heap.size w w'
def RetR (w : World) (q : List Vr × Int) (e : Ending) (w' : World) : Prop := ∃ v, e = .returned (.tuple #[v, .int .i64 q.2]) ∧ OwnR w' w.heap.size v q.1 ∧ Below w.heap.size w w'
def joinR (a b : List Vr) : List Vr × Int := if mayR a = true ∧ mayR b = true then (if 8 < a.length + b.length then ([], 6) else (a ++ b, 0)) else ([], 2)
end Go.Proofs.YtnidaahimofppaaGreat

/- Layer 6 (row): values picked out of a row, walked; the program's and the reference's. -/
namespace Go.Proofs.YtnidaahimofppaaGreat
open Go.RowKit
set_option linter.unusedVariables false
set_option linter.unusedSimpArgs false

/-- A slice of numbers, wherever it lies (in blocks below B). -/
def HasI (w : World) (B : Nat) (v : Value) (cs : List Int) : Prop := ∃ A c, v = .slice A cs.length c ∧ (cs ≠ [] → ∃ b off, A = some ⟨b, off, none⟩ ∧ b < B ∧ ∀ i, (hi : i < cs.length) → w.cell? ⟨b, off + i, none⟩ = some (.int .i64 cs[i]))
theorem HasI.below {w w1 : World} {B : Nat} {v : Value} {cs : List Int} (h : HasI w B v cs) (hb : Below B w w1) : HasI w1 B v cs := by
  obtain ⟨A, c, hv, hc⟩ := h
  refine ⟨A, c, hv, fun hn => ?_⟩
  obtain ⟨b, off, hA, hlt, hcell⟩ := hc hn
  exact ⟨b, off, hA, hlt, fun i hi => (World.cell?_of_block (hb.block b hlt)).trans (hcell i hi)⟩
theorem HasI.up {w : World} {B B' : Nat} {v : Value} {cs : List Int} (h : HasI w B v cs) (hB : B ≤ B') : HasI w B' v cs := by
  obtain ⟨A, c, hv, hc⟩ := h
  refine ⟨A, c, hv, fun hn => ?_⟩
  obtain ⟨b, off, hA, hlt, hcell⟩ := hc hn
  exact ⟨b, off, hA, Nat.lt_of_lt_of_le hlt hB, hcell⟩
def pickL (a : List Vr) : List Int → Option (List Vr)
  | [] => some []
  | c :: r => if c < 0 then none else match a[c.toNat]? with
    | none => none
    | some x => (pickL a r).map (x :: ·)
def pickR (a : List Vr) (cs : List Int) : List Vr × Int := if mayR a = true then (if 8 < cs.length then ([], 6) else match pickL a cs with
  | none => ([], 3)
  | some l => (l, 0)) else ([], 2)
/-- What is picked so far, and what is to come. -/
def PkI (xs : List Vr) (cs : List Int) (w : World) (v22 v6 : Value) (wr : World) : Prop := ∃ (i : Nat) (out : List Vr) (r : Array Obj) (d : Nat), v22 = .int .i64 (i : Int) ∧ wr = xw w r d ∧ Kept (OwnR wr w.heap.size v6 out) ∧ Kept (i ≤ cs.length ∧ out.length = i ∧ pickL xs cs = (pickL xs (cs.drop i)).map (out ++ ·))
theorem pick_none {xs : List Vr} {cs : List Int} {i : Nat} {out : List Vr} (hi : i < cs.length) (h : cs[i] < 0 ∨ (xs.length : Int) ≤ cs[i]) (he : pickL xs cs = (pickL xs (cs.drop i)).map (out ++ ·)) : pickL xs cs = none := by
  rw [he, List.drop_eq_getElem_cons hi]
  unfold pickL
  rcases h with h | h
  · rw [if_pos h]; rfl
  · rw [if_neg (by omega), List.getElem?_eq_none (by omega)]; rfl
theorem pick_some {xs : List Vr} {cs : List Int} {i m : Nat} {out : List Vr} (hi : i < cs.length) (hc : cs[i] = (m : Int)) (hm : m < xs.length) (he : pickL xs cs = (pickL xs (cs.drop i)).map (out ++ ·)) : pickL xs cs = (pickL xs (cs.drop (i + 1))).map ((out ++ [xs[m]]) ++ ·) := by
  rw [he, List.drop_eq_getElem_cons hi, hc]
  rw [pickL, if_neg (by omega), Int.toNat_natCast, List.getElem?_eq_getElem hm]
  simp only [Option.map_map]
  congr 1
  funext l
  simp
theorem pick_end {xs : List Vr} {cs : List Int} {i : Nat} {out : List Vr} (hi : cs.length ≤ i) (he : pickL xs cs = (pickL xs (cs.drop i)).map (out ++ ·)) : pickL xs cs = some out := by
  rw [he, List.drop_of_length_le hi]
  simp [pickL]
end Go.Proofs.YtnidaahimofppaaGreat

/- Layer 7 (schema): schemas in memory (two cells a column): made and appended to by the call itself, or read. -/
namespace Go.Proofs.YtnidaahimofppaaGreat
open Go.RowKit
set_option linter.unusedVariables false
set_option linter.unusedSimpArgs false

def colV (x : Cl) : List Value := [.string x.s, .int .i64 x.k]
def colC (xs : List Cl) : List Value := xs.flatMap colV
theorem colC_len (xs : List Cl) : (colC xs).length = xs.length * 2 := by
  induction xs with
  | nil => rfl
  | cons x r ih => simp only [colC, List.flatMap_cons, List.length_append, List.length_cons] at ih ⊢; rw [ih]; simp [colV]; omega
theorem colC_app (xs ys : List Cl) : colC (xs ++ ys) = colC xs ++ colC ys := by simp [colC]
theorem colC_one (x : Cl) : colC [x] = colV x := by simp [colC]
theorem colC_at (xs : List Cl) (i : Nat) (hi : i < xs.length) : (colC xs)[i * 2]? = some (.string (xs[i]).s) ∧ (colC xs)[i * 2 + 1]? = some (.int .i64 (xs[i]).k) := by
  induction xs generalizing i with
  | nil => simp at hi
  | cons x r ih =>
    have e : colC (x :: r) = .string x.s :: .int .i64 x.k :: colC r := rfl
    rw [e]
    cases i with
    | zero => simp
    | succ i =>
      have h := ih i (by simpa using hi)
      rw [show (i + 1) * 2 = i * 2 + 1 + 1 by omega]
      simpa using h
theorem colC_cell (xs : List Cl) (j : Nat) (u : Value) (h : (colC xs)[j]? = some u) : ∃ (i : Nat) (hi : i < xs.length), (j = i * 2 ∧ u = .string (xs[i]).s) ∨ (j = i * 2 + 1 ∧ u = .int .i64 (xs[i]).k) := by
  have hj : j < xs.length * 2 := by rw [← colC_len]; exact (List.getElem?_eq_some_iff.1 h).1
  have hi : j / 2 < xs.length := by omega
  obtain ⟨h0, h1⟩ := colC_at xs (j / 2) hi
  refine ⟨j / 2, hi, ?_⟩
  have hm : j % 2 = 0 ∨ j % 2 = 1 := by omega
  rcases hm with hm | hm
  · refine .inl ⟨by omega, ?_⟩
    rw [show j / 2 * 2 = j by omega, h] at h0
    injection h0
  · refine .inr ⟨by omega, ?_⟩
    rw [show j / 2 * 2 + 1 = j by omega, h] at h1
    injection h1
theorem colC_cells1 (xs : List Cl) : ∀ u ∈ colC xs, u.oneCell' = true := by
  intro u hu
  obtain ⟨j, hj⟩ := List.getElem?_of_mem hu
  obtain ⟨i, hi, h⟩ := colC_cell xs j u hj
  rcases h with ⟨_, rfl⟩ | ⟨_, rfl⟩ <;> rfl
theorem infoC : (Tryz.prog.info? 52).map (fun i => (i.zero, i.size, i.bytes)) = some (some (.agg #[.string ⟨#[]⟩, .int .i64 0]), 2, 24) := by kernel_rfl
/-- The slice is the call's own and holds this row. -/
def OwnC (w : World) (base : Nat) (v : Value) (xs : List Cl) : Prop := w.ownsRow base 52 2 v xs.length (colC xs)
theorem OwnC.below {w w1 : World} {base : Nat} {v : Value} {xs : List Cl} (h : OwnC w base v xs) (hb : Below w.heap.size w w1) : OwnC w1 base v xs := by
  refine ⟨h.1, ?_⟩
  rcases h.2 with h2 | ⟨g, cap, cur, h1, h2, h3, h4⟩
  · exact .inl h2
  · exact .inr ⟨g, cap, cur, h1, h2, by rw [hb.block g (Array.getElem?_eq_some_iff.1 h3).1]; exact h3, h4⟩
theorem OwnC.mono {w : World} {base b0 : Nat} {v : Value} {xs : List Cl} (h : OwnC w base v xs) (hb : b0 ≤ base) : OwnC w b0 v xs := by
  refine ⟨h.1, ?_⟩
  rcases h.2 with h2 | ⟨g, cap, cur, h1, h2, h3⟩
  · exact .inl h2
  · exact .inr ⟨g, cap, cur, h1, Nat.le_trans hb h2, h3⟩
theorem OwnC.nil (w : World) (base : Nat) : OwnC w base (.slice none 0 0) [] := ⟨by simp [colC], .inl ⟨rfl, rfl⟩⟩
theorem OwnC.lit (w : World) (base : Nat) (xs : List Cl) (hb : base ≤ w.heap.size) (hm : xs.length ≤ 100) : OwnC (w.alloc (.cells (colC xs).toArray 52)) base (.slice (some ⟨w.heap.size, 0, none⟩) xs.length xs.length) xs := by
  have h := World.ownsRow_lit (base := base) (e := 52) (size := 2) w (colC xs).toArray xs.length hb (by simp only [maxLen]; omega) (by simp [colC_len])
  simpa [OwnC] using h
theorem OwnC.base {w : World} {base : Nat} {v : Value} {xs : List Cl} (h : OwnC w base v xs) (k : Nat) (hk : v.ownBlock = some k) : base ≤ k := by
  rcases h.2 with ⟨rfl, _⟩ | ⟨g, cap, cur, rfl, hb, _⟩
  · simp [Value.ownBlock] at hk
  · have : g = k := by simpa [Value.ownBlock] using hk
    omega
/-- The slice holds this row, wherever it lies (in blocks below B). -/
def HasC (w : World) (B : Nat) (v : Value) (xs : List Cl) : Prop := ∃ A c, v = .slice A xs.length c ∧ xs.length ≤ c ∧ (xs ≠ [] → ∃ b off, A = some ⟨b, off, none⟩ ∧ b < B ∧ ∀ i, (hi : i < xs.length) → w.cell? ⟨b, off + i * 2, none⟩ = some (.string (xs[i]).s) ∧ w.cell? ⟨b, off + i * 2 + 1, none⟩ = some (.int .i64 (xs[i]).k))
theorem HasC.opn {w : World} {B : Nat} {A : Option Addr} {n c : Nat} {xs : List Cl} (h : HasC w B (.slice A n c) xs) : n = xs.length ∧ xs.length ≤ c ∧ (xs ≠ [] → ∃ b off, A = some ⟨b, off, none⟩ ∧ b < B ∧ ∀ i, (hi : i < xs.length) → w.cell? ⟨b, off + i * 2, none⟩ = some (.string (xs[i]).s) ∧ w.cell? ⟨b, off + i * 2 + 1, none⟩ = some (.int .i64 (xs[i]).k)) := by
  obtain ⟨A', c', hv, hlc, hA⟩ := h
  injection hv with h1 h2 h3
  subst h1 h3
  exact ⟨h2, hlc, hA⟩
theorem HasC.below {w w1 : World} {B : Nat} {v : Value} {xs : List Cl} (h : HasC w B v xs) (hb : Below B w w1) : HasC w1 B v xs := by
  obtain ⟨A, c, hv, hlc, hc⟩ := h
  refine ⟨A, c, hv, hlc, fun hn => ?_⟩
  obtain ⟨b, off, hA, hlt, hcell⟩ := hc hn
  refine ⟨b, off, hA, hlt, fun i hi => ?_⟩
  obtain ⟨e0, e1⟩ := hcell i hi
  exact ⟨(World.cell?_of_block (hb.block b hlt)).trans e0, (World.cell?_of_block (hb.block b hlt)).trans e1⟩
theorem HasC.up {w : World} {B B' : Nat} {v : Value} {xs : List Cl} (h : HasC w B v xs) (hB : B ≤ B') : HasC w B' v xs := by
  obtain ⟨A, c, hv, hlc, hc⟩ := h
  refine ⟨A, c, hv, hlc, fun hn => ?_⟩
  obtain ⟨b, off, hA, hlt, hcell⟩ := hc hn
  exact ⟨b, off, hA, Nat.lt_of_lt_of_le hlt hB, hcell⟩
theorem HasC.nil (w : World) (B : Nat) : HasC w B (.slice none 0 0) [] := ⟨none, 0, rfl, Nat.le_refl _, fun h => absurd rfl h⟩
theorem OwnC.has {w : World} {base : Nat} {v : Value} {xs : List Cl} (h : OwnC w base v xs) : HasC w w.heap.size v xs := by
  rcases h.2 with ⟨rfl, hn⟩ | ⟨g, cap, cur, rfl, hb, hh, hc, hm, _⟩
  · rw [List.eq_nil_of_length_eq_zero hn]; exact HasC.nil w _
  · refine ⟨_, cap, rfl, hc, fun hn => ⟨g, 0, rfl, (Array.getElem?_eq_some_iff.1 hh).1, fun i hi => ?_⟩⟩
    obtain ⟨e0, e1⟩ := colC_at xs i hi
    refine ⟨?_, ?_⟩
    · rw [Nat.zero_add, World.ownsRow.cellAt h (i * 2) (by omega), e0]
    · rw [Nat.zero_add, World.ownsRow.cellAt h (i * 2 + 1) (by omega), e1]
theorem HasC.read {w : World} {B : Nat} {A : Option Addr} {n c : Nat} {xs : List Cl} (h : HasC w B (.slice A n c) xs) : colC xs ≠ [] → ∃ ad, A = some ad ∧ ∀ j u, (colC xs)[j]? = some u → w.cell? (ad.add j) = some u := by
  intro hne
  obtain ⟨A', c', hv, _, hc⟩ := h
  injection hv with h1 h2 h3
  subst h1
  have hx : xs ≠ [] := by rintro rfl; exact hne rfl
  obtain ⟨b, off, rfl, hlt, hcell⟩ := hc hx
  refine ⟨_, rfl, fun j u hu => ?_⟩
  obtain ⟨i, hi, h⟩ := colC_cell xs j u hu
  obtain ⟨e0, e1⟩ := hcell i hi
  rw [Addr.add_lit]
  rcases h with ⟨rfl, rfl⟩ | ⟨rfl, rfl⟩
  · exact e0
  · rw [← Nat.add_assoc]; exact e1
theorem two_new (W : World) (x y : Value) (e : TypeId) (j : Nat) (u : Value) (hj : [x, y][j]? = some u) : (W.alloc (.cells #[x, y] e)).cell? ((⟨W.heap.size, 0, none⟩ : Addr).add j) = some u := by
  match j, hj with
  | 0, hj => simp at hj; subst hj; simp [Addr.add]
  | 1, hj => simp at hj; subst hj; simp [Addr.add]
section
variable {ops : Array Oper} {rest : List Oper} {o : Oper} {a : Act} {Q : Exit → Act → World → Prop}
/-- append(v, x), x one value. -/
theorem app_col {w0 W : World} (hgd : o.guard = none) (s x : Operand) (t : TypeId)
    (ho : o.op = .call { callee := .builtin .append, args := #[s, x], argTypes := #[t, t] })
    (ht : Tryz.prog.underlying t = some (.slice 52))
    (v : Value) (xs : List Cl) (y : ByteArray) (k : Int) (hs : a.eval s = v) (hx : a.eval x = .slice (some ⟨W.heap.size, 0, none⟩) 1 1)
    (HO : OwnC W w0.heap.size v xs) (HB : Below w0.heap.size w0 W) (hl : xs.length ≤ 100000)
    (h : ∀ v1 r d, OwnC (xw w0 r d) w0.heap.size v1 (xs ++ [⟨y, k⟩]) → (W.alloc (.cells #[.string y, .int .i64 k] 52)).grownBy (xw w0 r d) v.ownBlock → wpList Tryz.prog ops Q rest (a.put o.dst v1) (xw w0 r d)) :
    wpList Tryz.prog ops Q (o :: rest) a (W.alloc (.cells #[.string y, .int .i64 k] 52)) := by
  obtain ⟨i0, hi, hzz⟩ := Option.map_eq_some_iff.1 infoC
  simp only [Prod.mk.injEq] at hzz
  obtain ⟨hz0, hz1, hz2⟩ := hzz
  refine wpList_append_own_at (W.alloc (.cells #[.string y, .int .i64 k] 52)) hgd s x t ho w0.heap.size 52 i0 _ 2 24 ht hi hz0 hz1 hz2 (by rfl) (by omega) v xs.length (colC xs) hs (OwnC.below HO ((Below.refl _ _).alloc (Nat.le_refl _) _)) ⟨W.heap.size, 0, none⟩ 1 1 [.string y, .int .i64 k] hx rfl
    (two_new W _ _ _) (by simp; exact ⟨rfl, rfl⟩) (by simp only [maxLen]; omega) (by omega) (by have := HB.size; simp; omega) ?_
  intro v1 w1 hown hg _ _
  obtain ⟨r, d, rfl⟩ := grown_xw (HB.alloc HB.size (.cells #[.string y, .int .i64 k] 52)) hg (OwnC.base HO)
  refine h v1 r d ?_ hg
  unfold OwnC
  rw [colC_app, List.length_append]
  exact hown
set_option maxRecDepth 100000 in
/-- append(v, ys...), ys a row that is read; nil, too. -/
theorem app_cols {w0 W : World} (hgd : o.guard = none) (s x : Operand) (t : TypeId)
    (ho : o.op = .call { callee := .builtin .append, args := #[s, x], argTypes := #[t, t] })
    (ht : Tryz.prog.underlying t = some (.slice 52))
    (v : Value) (xs ys : List Cl) (A : Option Addr) (c : Nat) (hs : a.eval s = v) (hx : a.eval x = .slice A ys.length c)
    (hy : colC ys ≠ [] → ∃ ad, A = some ad ∧ ∀ j u, (colC ys)[j]? = some u → W.cell? (ad.add j) = some u)
    (HO : OwnC W w0.heap.size v xs) (HB : Below w0.heap.size w0 W) (hl : (xs.length + ys.length) * 24 ≤ 140737488355328)
    (h : ∀ v1 r d, OwnC (xw w0 r d) w0.heap.size v1 (xs ++ ys) → wpList Tryz.prog ops Q rest (a.put o.dst v1) (xw w0 r d)) :
    wpList Tryz.prog ops Q (o :: rest) a W := by
  obtain ⟨i0, hi, hzz⟩ := Option.map_eq_some_iff.1 infoC
  simp only [Prod.mk.injEq] at hzz
  obtain ⟨hz0, hz1, hz2⟩ := hzz
  have hrun : ∃ v1 w1, (Builtin.append_ #[t, t] o.type #[v, .slice A ys.length c]).run Tryz.prog W = .ok v1 w1 ∧ OwnC w1 w0.heap.size v1 (xs ++ ys) ∧ W.grownBy w1 v.ownBlock := by
    rcases A with _ | ad
    · have h0 : ys = [] := by
        cases ys with
        | nil => rfl
        | cons y r =>
          obtain ⟨ad, h, _⟩ := hy (by intro e; have := congrArg List.length e; rw [colC_len] at this; simp at this)
          cases h
      subst h0
      refine ⟨v, W, ?_, by simpa using HO, World.grownBy.refl W _⟩
      rcases HO.2 with ⟨rfl, hn⟩ | ⟨g, cap, cur, rfl, _, _, hnc, _⟩
      · simp [Builtin.append_, run_underlying ht, sizeOf, typeInfo, hi, Builtin.lenOf, Builtin.firstCells]
      · simp [Builtin.append_, run_underlying ht, sizeOf, typeInfo, hi, Builtin.lenOf, Builtin.firstCells, hnc, storeCells]
    · have hc : ∀ j u, (colC ys)[j]? = some u → W.cell? (ad.add j) = some u := by
        intro j u hu
        have hne : colC ys ≠ [] := by intro e; rw [e] at hu; simp at hu
        obtain ⟨ad', h', hc⟩ := hy hne
        injection h' with h'
        subst h'
        exact hc j u hu
      obtain ⟨v1, w1, hr, h2, h3, _, h5⟩ := run_append_own_at (P := Tryz.prog) W w0.heap.size t o.type 52 i0 _ 2 24 ht hi hz0 hz1 hz2 (by rfl) (by omega) v xs.length (colC xs) HO ad ys.length c (colC ys) (by rw [colC_len]) hc (colC_cells1 ys) (by simp only [maxLen]; omega) hl HB.size
      exact ⟨v1, w1, hr, by unfold OwnC; rw [colC_app, List.length_append]; exact h2, h3⟩
  obtain ⟨v1, w1, hr, hown, hg⟩ := hrun
  obtain ⟨r, d, rfl⟩ := grown_xw HB hg (OwnC.base HO)
  refine wpList_plain hgd fun K hK => ?_
  unfold Oper.wp execOp
  simp only [ho, resolve, invoke, builtin, Sem.run_bind, Sem.run_pure, Result.andThen_ok, List.map_toArray, List.map_cons, List.map_nil, hs, hx, hr]
  exact hK _ _ (h v1 r d hown)
end
end Go.Proofs.YtnidaahimofppaaGreat
