/- Layer 26 (tally): slices.Insert at entries of values, walked. -/
import Derived.Test.YtnidaahimofppaaGreatQpab
import Derived.Test.YtnidaahimofppaaGreatQpaa
import Derived.Laws.CopyRow
import Derived.Lib.AppendZerosOnto
import Derived.Lib.Overlaps
import Derived.Deep.RegionLaw
import Derived.Deep.DeepCutAuto
namespace Go.Proofs.YtnidaahimofppaaGreat
open Go.RowKit
set_option linter.unusedVariables false
set_option linter.unusedSimpArgs false

section
variable {P : Program}
/-- copy, elements of some cells each, onto a row that is all there. -/
theorem run_copy_rowK (w : World) (dT sT ty elem : TypeId) (size : Nat) (g o dLen dCap : Nat) (a : Addr) (sLen sCap : Nat) (cur : Array Value) (t : TypeId) (cs : List Value)
    (hu : P.underlying dT = some (.slice elem)) (hs : (P.info? elem).map (·.size) = some size)
    (hg : w.heap[g]? = some (.cells cur t (0, 0))) (hn : cs.length = Nat.min sLen dLen * size)
    (hsrc : ∀ j v, cs[j]? = some v → w.cell? (a.add j) = some v) (hfit : o + cs.length ≤ cur.size) (h1 : ∀ v ∈ cs, v.oneCell' = true) :
    (Builtin.copy_ #[dT, sT] ty #[.slice (some ⟨g, o, none⟩) dLen dCap, .slice (some a) sLen sCap]).run P w =
      .ok (goInt (Nat.min sLen dLen)) (w.setRow g (cur.toList.take o ++ cs ++ cur.toList.drop (o + cs.length)).toArray) := by
  have hl := run_loadCells_list (P := P) w a cs hsrc
  have hst := run_storeCells_at P g o t cs 0 cur w hg (by simpa using hfit) h1
  cases hq : P.info? elem with
  | none => simp [hq] at hs
  | some i =>
    have hi : i.size = size := by simpa [hq] using hs
    simp [Builtin.copy_, run_underlying hu, Builtin.lenOf, Builtin.firstCells, sizeOf, typeInfo, hq, hi, ← hn, hl, hst]
variable {ops : Array Oper} {rest : List Oper} {o : Oper} {a : Act} {K : Act → World → Prop} {Q : Exit → Act → World → Prop} {E : Prop}
/-- copy, its run known: inside of a region that draws, and in a list. -/
theorem step_copy {W : World} (hg : o.guard = none) (d x : Operand) (dT sT : TypeId) (hop : o.op = .call { callee := .builtin .copy, args := #[d, x], argTypes := #[dT, sT] })
    (v u : Value) (hd : a.eval d = v) (hx : a.eval x = u) {v' : Value} {w' : World} (hr : (Builtin.copy_ #[dT, sT] o.type #[v, u]).run P W = .ok v' w') (hK : K (a.put o.dst v') w') :
    if Region.wanted o (yielded ops a.tmps) = true then Oper.wp P o a W K Q else E := by
  have hw : Region.wanted o (yielded ops a.tmps) = true := by simp [Region.wanted, hg]
  rw [if_pos hw]
  unfold Oper.wp
  simp only [execOp, hop, resolve, invoke, builtin, Sem.run_bind, Sem.run_pure, Result.andThen_ok, List.map_toArray, List.map_cons, List.map_nil, hd, hx, hr]
  exact hK
theorem list_copy (W : World) (hgd : o.guard = none) (d x : Operand) (dT sT : TypeId) (hop : o.op = .call { callee := .builtin .copy, args := #[d, x], argTypes := #[dT, sT] })
    (v u : Value) (hd : a.eval d = v) (hx : a.eval x = u) {v' : Value} {w' : World} (hr : (Builtin.copy_ #[dT, sT] o.type #[v, u]).run P W = .ok v' w') (h : wpList P ops Q rest (a.put o.dst v') w') : wpList P ops Q (o :: rest) a W := by
  refine wpList_plain hgd fun K hK => ?_
  unfold Oper.wp execOp
  simp only [hop, resolve, invoke, builtin, Sem.run_bind, Sem.run_pure, Result.andThen_ok, List.map_toArray, List.map_cons, List.map_nil, hd, hx, hr]
  exact hK _ _ h
end
theorem enC_drop (es : List En) (i : Nat) : enC (es.drop i) = (enC es).drop (i * 4) := by
  induction es generalizing i with
  | nil => simp [enC]
  | cons e r ih =>
    cases i with
    | zero => simp
    | succ i =>
      rw [List.drop_succ_cons, ih i]
      have : enC (e :: r) = .int .i64 e.v.k :: .int .i64 e.v.n :: .string e.v.s :: .int .i64 e.n :: enC r := rfl
      rw [this, show (i + 1) * 4 = i * 4 + 1 + 1 + 1 + 1 by omega, List.drop_succ_cons, List.drop_succ_cons, List.drop_succ_cons, List.drop_succ_cons]
theorem enC_take (es : List En) (i : Nat) : enC (es.take i) = (enC es).take (i * 4) := by
  induction es generalizing i with
  | nil => simp [enC]
  | cons e r ih =>
    cases i with
    | zero => simp [enC]
    | succ i =>
      have h1 : enC (e :: r) = .int .i64 e.v.k :: .int .i64 e.v.n :: .string e.v.s :: .int .i64 e.n :: enC r := rfl
      have h2 : enC (e :: r.take i) = .int .i64 e.v.k :: .int .i64 e.v.n :: .string e.v.s :: .int .i64 e.n :: enC (r.take i) := rfl
      rw [List.take_succ_cons, h1, h2, ih i, show (i + 1) * 4 = i * 4 + 1 + 1 + 1 + 1 by omega, List.take_succ_cons, List.take_succ_cons, List.take_succ_cons, List.take_succ_cons]
/-- What stands in a row of one's own, cell by cell. -/
theorem row_cell {w : World} {g : Nat} {cur : Array Value} {t : TypeId} {fr : Nat × Nat} (hg : w.heap[g]? = some (.cells cur t fr)) (j : Nat) : w.cell? ⟨g, j, none⟩ = cur.toList[j]? := by
  simp [World.cell?, hg]
theorem sizeE : (Tryz.prog.info? 183).map (·.size) = some 4 := by kernel_rfl
set_option maxRecDepth 100000 in
set_option maxHeartbeats 2000000 in
theorem ins_room (es : List En) (x : En) (i g c N B : Nat) (cur : Array Value) (hi : i < es.length) (hc : es.length + 1 ≤ c) (hm : c ≤ maxLen) (hl : es.length ≤ 2000000) (w : World)
    (hg : w.heap[g]? = some (.cells cur 183 (0, 0))) (hsz : cur.size = c * 4) (htk : cur.toList.take (es.length * 4) = enC es) (hN : w.heap[N]? = some (.cells #[.int .i64 x.v.k, .int .i64 x.v.n, .string x.v.s, .int .i64 x.n] 183 (0, 0))) (hne : N ≠ g) :
    Calls Tryz.prog 104 #[.slice (some ⟨g, 0, none⟩) es.length c, .int .i64 (i : Int), .slice (some ⟨N, 0, none⟩) 1 1] w (fun e w' =>
      e = .returned (.slice (some ⟨g, 0, none⟩) (es.length + 1) c) ∧ ∃ n, w' = (w.drewN n).setRow g (enC (es.take i ++ [x] ++ es.drop i) ++ cur.toList.drop ((es.length + 1) * 4)).toArray) := by
  have HG := Kept.mk hg
  have HN := Kept.mk hN
  have i1 : ¬ ((i : Int) = (es.length : Int)) := by omega
  have i2 : ((i : Int) == (es.length : Int)) = false := by simp; omega
  have i3 : 0 ≤ (i : Int) := by omega
  have i4 : (i : Int) ≤ (es.length : Int) := by omega
  have c1 : ¬ ((c : Int) < (es.length : Int) + 1) := by omega
  have w1 : wrap64 ((es.length : Int) + 1) = (es.length : Int) + 1 := by simp only [wrap64]; omega
  have w2 : wrap64 ((i : Int) + 1) = (i : Int) + 1 := by simp only [wrap64]; omega
  clear hg hN
  go_enter Tryz.func104, Tryz.ntmps104
  have hsa : w.shape? N = some (183, 4) := by simp [World.shape?, HN.out]
  have hsb : w.shape? g = some (183, c * 4) := by simp [World.shape?, HG.out, hsz]
  have hov : ∀ off lb cb, (callFunc 110 #[.slice (some ⟨N, 0, none⟩) 1 1, .slice (some ⟨g, off, none⟩) lb cb]).run Tryz.prog w = .ok (.value (.bool false)) w := fun off lb cb => by
    rw [run_callFunc_extern Tryz.func110 (by kernel_rfl) (by kernel_rfl) (by kernel_rfl) (e := Extern.SlicesOverlaps.overlaps #[115, 115] #[4]) (by kernel_rfl),
      Lib.run_overlaps_apart w 115 4 183 Tryz.underlying115 4 Tryz.sizeOf183 ⟨N, 0, none⟩ ⟨g, off, none⟩ 1 1 lb cb hne 183 183 4 (c * 4) hsa hsb (by omega) (by simp [World.frozen?, HN.out]) (by simp [World.frozen?, HN.out])]
    rfl
  have hcur : es.length * 4 ≤ cur.size := by omega
  have hdl : (enC (es.drop i)).length = (es.length - i) * 4 := by rw [enC_len, List.length_drop]
  have hsrc : ∀ j v, (enC (es.drop i))[j]? = some v → w.cell? ((⟨g, i * 4, none⟩ : Addr).add j) = some v := fun j v hj => by
    have hjl := (List.getElem?_eq_some_iff.1 hj).1
    rw [hdl] at hjl
    rw [Addr.add_lit, row_cell HG.out, ← hj, enC_drop, ← htk, List.getElem?_drop, List.getElem?_take_of_lt (by omega)]
  obtain ⟨cur1, hcur1⟩ : ∃ cur1, cur1 = (cur.toList.take ((i + 1) * 4) ++ enC (es.drop i) ++ cur.toList.drop ((i + 1) * 4 + (enC (es.drop i)).length)).toArray := ⟨_, rfl⟩
  have hcp1 : ∀ ty dCap sCap, (Builtin.copy_ #[115, 115] ty #[.slice (some ⟨g, (i + 1) * 4, none⟩) (es.length - i) dCap, .slice (some ⟨g, i * 4, none⟩) (es.length + 1 - i) sCap]).run Tryz.prog w.drew = .ok (goInt (Nat.min (es.length + 1 - i) (es.length - i))) (w.drew.setRow g cur1) := fun ty dCap sCap => by
    rw [hcur1]
    exact run_copy_rowK w.drew _ _ ty 183 4 g ((i + 1) * 4) (es.length - i) dCap ⟨g, i * 4, none⟩ (es.length + 1 - i) sCap cur _ (enC (es.drop i)) Tryz.underlying115 sizeE HG.out
      (by rw [hdl, show Nat.min (es.length + 1 - i) (es.length - i) = es.length - i from Nat.min_eq_right (by omega)]) hsrc (by rw [hdl]; omega) (enC_cells1 _)
  have HG1 : Kept ((w.drew.setRow g cur1).heap[g]? = some (.cells cur1 183 (0, 0))) := ⟨setRow_heap w.drew g cur cur1 _ _ HG.out⟩
  have HN1 : Kept ((w.drew.setRow g cur1).heap[N]? = some (.cells #[.int .i64 x.v.k, .int .i64 x.v.n, .string x.v.s, .int .i64 x.n] 183 (0, 0))) := ⟨by rw [setRow_other w.drew g N cur1 hne]; exact HN.out⟩
  have hl1 : cur1.size = cur.size := by
    rw [hcur1]
    simp only [List.size_toArray, List.length_append, List.length_take, List.length_drop, Array.length_toList, hdl]
    omega
  have hcp2 : ∀ ty dCap, (Builtin.copy_ #[115, 115] ty #[.slice (some ⟨g, i * 4, none⟩) (es.length + 1 - i) dCap, .slice (some ⟨N, 0, none⟩) 1 1]).run Tryz.prog (w.drew.setRow g cur1) = .ok (goInt (Nat.min 1 (es.length + 1 - i))) ((w.drew.setRow g cur1).setRow g (cur1.toList.take (i * 4) ++ enV x ++ cur1.toList.drop (i * 4 + 4)).toArray) := fun ty dCap =>
    run_copy_rowK (w.drew.setRow g cur1) _ _ ty 183 4 g (i * 4) (es.length + 1 - i) dCap ⟨N, 0, none⟩ 1 1 cur1 _ (enV x) Tryz.underlying115 sizeE HG1.out
      (by rw [show Nat.min 1 (es.length + 1 - i) = 1 from Nat.min_eq_left (by omega)]; rfl) (fun j v hj => by rw [Addr.add_lit, row_cell HN1.out, Nat.zero_add]; exact hj) (by show i * 4 + 4 ≤ cur1.size; omega) (by intro v hv; simp [enV] at hv; rcases hv with rfl | rfl | rfl | rfl <;> rfl)
  have HFIN : Kept ((cur1.toList.take (i * 4) ++ enV x ++ cur1.toList.drop (i * 4 + 4)).toArray = (enC (es.take i ++ [x] ++ es.drop i) ++ cur.toList.drop ((es.length + 1) * 4)).toArray) := ⟨by
    have e1 : cur1.toList = cur.toList.take ((i + 1) * 4) ++ (enC (es.drop i) ++ cur.toList.drop ((es.length + 1) * 4)) := by
      rw [hcur1, hdl, show (i + 1) * 4 + (es.length - i) * 4 = (es.length + 1) * 4 by omega, List.append_assoc]
    have e2 : (cur.toList.take ((i + 1) * 4)).length = i * 4 + 4 := by rw [List.length_take, Array.length_toList]; omega
    have e3 : cur1.toList.drop (i * 4 + 4) = enC (es.drop i) ++ cur.toList.drop ((es.length + 1) * 4) := by rw [e1, ← e2, List.drop_left]
    have e4 : cur1.toList.take (i * 4) = enC (es.take i) := by
      rw [e1, List.take_append_of_le_length (by omega), List.take_take, enC_take, ← htk, List.take_take]
      congr 1
      omega
    rw [e3, e4, enC_app, enC_app, enC_one]
    simp only [List.append_assoc]⟩
  have HC1 := Kept.mk hcp1
  have HC2 := Kept.mk hcp2
  have hw1 : IntKind.i64.wrap ((i : Int) + 1) = (i : Int) + 1 := by rw [IntKind.wrap_i64]; omega
  have hb1 : (0 : Int) ≤ (i : Int) + 1 := by omega
  have hin : i ≤ es.length := by omega
  have htn : ((i : Int) + 1).toNat = i + 1 := by omega
  have hb2 : ¬ (c = i + 1) := by omega
  have hb3 : (i : Int) ≤ (es.length : Int) + 1 := by omega
  have hb4 : ¬ (c = i) := by omega
  have hb5 : (i : Int) + 1 ≤ (es.length : Int) + 1 := by omega
  clear hcp1 hcp2 hsrc hdl hcur hcur1 hl1 hsa hsb htk
  go_wp2_with (simp only [hov])
  clear hov
  go_region_law (refine step_copy rfl _ _ 115 115 rfl (.slice (some ⟨g, (i + 1) * 4, none⟩) (es.length - i) (c - (i + 1))) (.slice (some ⟨g, i * 4, none⟩) (es.length + 1 - i) (c - i)) (by simp [Act.eval, Act.put]) (by simp [Act.eval, Act.put]) (HC1.out _ (c - (i + 1)) (c - i)) ?_)
  all_goals
    have hc2 := HC2.out
    go_wp2_with (simp only [hc2])
    go_ret
    refine ⟨rfl, 1, ?_⟩
    rw [setRow_setRow, ← List.append_assoc, HFIN.out]
    rfl
/-- The row lies where it lay, or is new. -/
def SameB (w : World) (v v' : Value) : Prop := v'.ownBlock = v.ownBlock ∨ ∀ k, v'.ownBlock = some k → w.heap.size ≤ k
theorem SameB.ofAt {w : World} {v v' : Value} (h : v'.ownBlock = v.ownBlock ∨ v'.ownBlock = some w.heap.size) : SameB w v v' := h.imp id (fun e k hk => by rw [e] at hk; injection hk with hk; omega)
set_option maxRecDepth 100000 in
/-- At the end: an append. -/
theorem ins_end (es : List En) (x : En) (v : Value) (N B : Nat) (hl : es.length ≤ 2000000) (w : World) (HO : OwnE w B v es) (hB : B ≤ w.heap.size)
    (hN : w.heap[N]? = some (.cells #[.int .i64 x.v.k, .int .i64 x.v.n, .string x.v.s, .int .i64 x.n] 183 (0, 0))) :
    Calls Tryz.prog 104 #[v, .int .i64 (es.length : Int), .slice (some ⟨N, 0, none⟩) 1 1] w (fun e w' =>
      ∃ v', e = .returned v' ∧ OwnE w' B v' (es ++ [x]) ∧ w.grownBy w' v.ownBlock ∧ SameB w v v') := by
  obtain ⟨i0, hi0, hzz⟩ := Option.map_eq_some_iff.1 infoE
  simp only [Prod.mk.injEq] at hzz
  obtain ⟨hz0, hz1, hz2⟩ := hzz
  have HN := Kept.mk hN
  have HOK := Kept.mk HO
  have hsl : ∃ A c, v = .slice A es.length c ∧ es.length ≤ c := by
    rcases HO.2 with ⟨rfl, h0⟩ | ⟨g, cap, cur, rfl, _, _, hc, _⟩
    · exact ⟨none, 0, by rw [h0], by omega⟩
    · exact ⟨_, cap, rfl, hc⟩
  obtain ⟨A, c, rfl, hc⟩ := hsl
  have hsrc : ∀ j u, [Value.int .i64 x.v.k, .int .i64 x.v.n, .string x.v.s, .int .i64 x.n][j]? = some u → w.cell? ((⟨N, 0, none⟩ : Addr).add j) = some u := fun j u hj => by rw [Addr.add_lit, row_cell HN.out, Nat.zero_add]; exact hj
  have HSRC := Kept.mk hsrc
  have HB := Kept.mk hB
  clear hN HO hsrc hB
  go_enter Tryz.func104, Tryz.ntmps104
  go_wp2_with (at_builtin; refine wpList_append_own_at w rfl _ _ 115 rfl B 183 i0 _ 4 40 Tryz.underlying115 hi0 hz0 hz1 hz2 (by rfl) (by omega) (.slice A es.length c) es.length (enC es) rfl HOK.out ⟨N, 0, none⟩ 1 1 [.int .i64 x.v.k, .int .i64 x.v.n, .string x.v.s, .int .i64 x.n] rfl rfl HSRC.out (by simp; exact ⟨rfl, rfl, rfl, rfl⟩) (by simp only [maxLen]; omega) (by omega) HB.out ?_; intro v1 w1 hown hg _ hat; have HOW := Kept.mk hown; have HGR := Kept.mk (And.intro hg (SameB.ofAt hat)); clear hown hg hat)
  all_goals
    go_ret
    refine ⟨_, rfl, ?_, by first | exact HGR.out.1 | (have h := HGR.out.1; cases A <;> exact h), by first | exact HGR.out.2 | (have h := HGR.out.2; cases A <;> exact h)⟩
    unfold OwnE
    rw [enC_app, List.length_append]
    exact HOW.out
set_option maxRecDepth 100000 in
set_option maxHeartbeats 4000000 in
/-- No room: a new row. -/
theorem ins_grow (es : List En) (x : En) (i g c N B : Nat) (cur : Array Value) (hi : i < es.length) (hc : es.length ≤ c) (hc2 : c < es.length + 1) (hl : es.length ≤ 2000000) (w : World)
    (hg : w.heap[g]? = some (.cells cur 183 (0, 0))) (hsz : cur.size = c * 4) (htk : cur.toList.take (es.length * 4) = enC es) (hN : w.heap[N]? = some (.cells #[.int .i64 x.v.k, .int .i64 x.v.n, .string x.v.s, .int .i64 x.n] 183 (0, 0))) (hB : B ≤ w.heap.size) :
    Calls Tryz.prog 104 #[.slice (some ⟨g, 0, none⟩) es.length c, .int .i64 (i : Int), .slice (some ⟨N, 0, none⟩) 1 1] w (fun e w' =>
      ∃ v', e = .returned v' ∧ OwnE w' B v' (es.take i ++ [x] ++ es.drop i) ∧ w.grownBy w' none) := by
  have HG := Kept.mk hg
  have HN := Kept.mk hN
  have hce : c = es.length := by omega
  subst hce
  have i1 : ¬ ((i : Int) = (es.length : Int)) := by omega
  have i2 : ((i : Int) == (es.length : Int)) = false := by simp; omega
  have i3 : 0 ≤ (i : Int) := by omega
  have i4 : (i : Int) ≤ (es.length : Int) := by omega
  have c1 : (es.length : Int) < (es.length : Int) + 1 := by omega
  have w1 : wrap64 ((es.length : Int) + 1) = (es.length : Int) + 1 := by simp only [wrap64]; omega
  have w2 : wrap64 ((i : Int) + 1) = (i : Int) + 1 := by simp only [wrap64]; omega
  have w3 : wrap64 ((es.length : Int) + 1 - (i : Int)) = (es.length : Int) + 1 - (i : Int) := by simp only [wrap64]; omega
  obtain ⟨i0, hi0, hzz⟩ := Option.map_eq_some_iff.1 infoE
  simp only [Prod.mk.injEq] at hzz
  obtain ⟨hz0, hz1, hz2⟩ := hzz
  have hgl : g < w.heap.size := (Array.getElem?_eq_some_iff.1 hg).1
  have hNl : N < w.heap.size := (Array.getElem?_eq_some_iff.1 hN).1
  have hcur : cur.size = es.length * 4 := hsz
  have htl : (enC (es.take i)).length = i * 4 := by rw [enC_len, List.length_take, Nat.min_eq_left (by omega)]
  have hdl : (enC (es.drop i)).length = (es.length - i) * 4 := by rw [enC_len, List.length_drop]
  have hold : (Builtin.firstCells i0.size i (.slice (some ⟨g, 0, none⟩) i es.length)).run Tryz.prog w.drew = .ok (enC (es.take i)).toArray w.drew := by
    rw [hz1]
    refine run_firstCells_some w.drew 4 i ⟨g, 0, none⟩ i es.length (enC (es.take i)) htl (fun j v hj => ?_)
    have hjl := (List.getElem?_eq_some_iff.1 hj).1
    rw [htl] at hjl
    rw [Addr.add_lit, Nat.zero_add]
    show w.cell? ⟨g, j, none⟩ = some v
    rw [row_cell HG.out, ← hj, enC_take, ← htk, List.getElem?_take_of_lt (by omega), List.getElem?_take_of_lt (by omega)]
  obtain ⟨G, hG⟩ : ∃ G, G = grownCap w (es.length + 1) es.length 183 := ⟨_, rfl⟩
  have hGn : es.length + 1 ≤ G := by rw [hG]; exact grownCap_ge w _ _ _
  have hGm : G ≤ maxLen := by rw [hG]; exact grownCap_le_maxLen w (es.length + 1) es.length 183 (by unfold maxLen; omega)
  obtain ⟨ROW, hROW⟩ : ∃ ROW : Array Value, ROW = (enC (es.take i)).toArray ++ Builtin.zeroCells (Value.agg #[.int .i64 0, .int .i64 0, .string ⟨#[]⟩, .int .i64 0]).cells (es.length + 1 - i) ++ Builtin.zeroCells (Value.agg #[.int .i64 0, .int .i64 0, .string ⟨#[]⟩, .int .i64 0]).cells (G - (es.length + 1)) := ⟨_, rfl⟩
  obtain ⟨W1, hW1⟩ : ∃ W1, W1 = w.drew.alloc (.cells ROW 183) := ⟨_, rfl⟩
  have hrz : ∀ ty, (Builtin.append_ #[115, 3] ty #[.slice (some ⟨g, 0, none⟩) i es.length, .int .i64 ((es.length : Int) + 1 - (i : Int))]).run Tryz.prog w = .ok (.slice (some ⟨w.heap.size, 0, none⟩) (es.length + 1) G) W1 := fun ty => by
    have h := Lib.run_append_grow_zeros w 115 3 ty 183 i0 _ .i64 .i64 Tryz.underlying115 Tryz.underlying3 hi0 hz0 (some ⟨g, 0, none⟩) i es.length (enC (es.take i)) hold (es.length + 1 - i) (by omega) (by omega) (by omega) (by omega) (by rw [hz2]; omega) (by rw [hz2, show i + (es.length + 1 - i) = es.length + 1 by omega]; exact growslice_fits (by omega) (by omega))
    rw [show i + (es.length + 1 - i) = es.length + 1 by omega] at h
    rw [hW1, hROW, hG, show (es.length : Int) + 1 - (i : Int) = ((es.length + 1 - i : Nat) : Int) by omega]
    exact h
  have hRs : ROW.size = G * 4 := by
    rw [hROW]
    simp [Builtin.zeroCells, Value.cells, htl]
    omega
  have hRt : ROW.toList.take (i * 4) = enC (es.take i) := by
    rw [hROW, Array.toList_append, Array.toList_append, List.append_assoc]
    show (enC (es.take i) ++ _).take (i * 4) = _
    rw [← htl, List.take_left]
  have hM1 : W1.heap[w.heap.size]? = some (.cells ROW 183 (0, 0)) := by rw [hW1]; exact Array.getElem?_push_size
  have hO1 : ∀ b, b < w.heap.size → W1.heap[b]? = w.heap[b]? := fun b hb => by
    rw [hW1]
    show (w.heap.push _)[b]? = _
    rw [Array.getElem?_push, if_neg (by omega)]
  have hS1 : W1.heap.size = w.heap.size + 1 := by rw [hW1]; exact World.size_alloc _ _
  have hF1 : W1.os = w.os ∧ W1.tape = w.tape ∧ W1.output = w.output := by rw [hW1]; exact ⟨rfl, rfl, rfl⟩
  obtain ⟨R1, hR1⟩ : ∃ R1 : Array Value, R1 = (ROW.toList.take (i * 4) ++ enV x ++ ROW.toList.drop (i * 4 + 4)).toArray := ⟨_, rfl⟩
  obtain ⟨W2, hW2⟩ : ∃ W2, W2 = W1.setRow w.heap.size R1 := ⟨_, rfl⟩
  have hcpA : ∀ ty dc, (Builtin.copy_ #[115, 115] ty #[.slice (some ⟨w.heap.size, i * 4, none⟩) (es.length + 1 - i) dc, .slice (some ⟨N, 0, none⟩) 1 1]).run Tryz.prog W1 = .ok (goInt (Nat.min 1 (es.length + 1 - i))) W2 := fun ty dc => by
    rw [hW2, hR1]
    exact run_copy_rowK W1 _ _ ty 183 4 w.heap.size (i * 4) (es.length + 1 - i) dc ⟨N, 0, none⟩ 1 1 ROW _ (enV x) Tryz.underlying115 sizeE hM1
      (by rw [show Nat.min 1 (es.length + 1 - i) = 1 from Nat.min_eq_left (by omega)]; rfl) (fun j v hj => by rw [Addr.add_lit, row_cell ((hO1 N hNl).trans hN), Nat.zero_add]; exact hj) (by show i * 4 + 4 ≤ ROW.size; omega) (by intro v hv; simp [enV] at hv; rcases hv with rfl | rfl | rfl | rfl <;> rfl)
  have hM2 : W2.heap[w.heap.size]? = some (.cells R1 183 (0, 0)) := by rw [hW2]; exact setRow_heap W1 _ ROW R1 _ _ hM1
  have hO2 : ∀ b, b < w.heap.size → W2.heap[b]? = w.heap[b]? := fun b hb => by rw [hW2, setRow_other _ _ _ _ (by omega)]; exact hO1 b hb
  have hR1s : R1.size = G * 4 := by
    rw [hR1]
    simp only [List.size_toArray, List.length_append, List.length_take, List.length_drop, Array.length_toList, enV, List.length_cons, List.length_nil]
    omega
  obtain ⟨R2, hR2⟩ : ∃ R2 : Array Value, R2 = (R1.toList.take ((i + 1) * 4) ++ enC (es.drop i) ++ R1.toList.drop ((i + 1) * 4 + (enC (es.drop i)).length)).toArray := ⟨_, rfl⟩
  obtain ⟨W3, hW3⟩ : ∃ W3, W3 = W2.drew.setRow w.heap.size R2 := ⟨_, rfl⟩
  have hsrc : ∀ j v, (enC (es.drop i))[j]? = some v → W2.drew.cell? ((⟨g, i * 4, none⟩ : Addr).add j) = some v := fun j v hj => by
    have hjl := (List.getElem?_eq_some_iff.1 hj).1
    rw [hdl] at hjl
    rw [Addr.add_lit]
    show W2.cell? ⟨g, i * 4 + j, none⟩ = some v
    rw [row_cell ((hO2 g hgl).trans hg), ← hj, enC_drop, ← htk, List.getElem?_drop, List.getElem?_take_of_lt (by omega)]
  have hcpB : ∀ ty dc sc, (Builtin.copy_ #[115, 115] ty #[.slice (some ⟨w.heap.size, (i + 1) * 4, none⟩) (es.length - i) dc, .slice (some ⟨g, i * 4, none⟩) (es.length - i) sc]).run Tryz.prog W2.drew = .ok (goInt (Nat.min (es.length - i) (es.length - i))) W3 := fun ty dc sc => by
    rw [hW3, hR2]
    exact run_copy_rowK W2.drew _ _ ty 183 4 w.heap.size ((i + 1) * 4) (es.length - i) dc ⟨g, i * 4, none⟩ (es.length - i) sc R1 _ (enC (es.drop i)) Tryz.underlying115 sizeE hM2
      (by rw [hdl, show Nat.min (es.length - i) (es.length - i) = es.length - i from Nat.min_self _]) hsrc (by rw [hdl, hR1s]; omega) (enC_cells1 _)
  have hR2s : R2.size = G * 4 := by
    rw [hR2]
    simp only [List.size_toArray, List.length_append, List.length_take, List.length_drop, Array.length_toList, hdl]
    omega
  have hR2t : R2.toList.take ((es.length + 1) * 4) = enC (es.take i ++ [x] ++ es.drop i) := by
    have e1 : R1.toList.take ((i + 1) * 4) = enC (es.take i) ++ enV x := by
      rw [hR1, hRt]
      show (enC (es.take i) ++ enV x ++ _).take ((i + 1) * 4) = _
      have : (enC (es.take i) ++ enV x).length = (i + 1) * 4 := by rw [List.length_append, htl]; simp [enV]; omega
      rw [← this, List.take_left]
    rw [hR2, e1, enC_app, enC_app, enC_one]
    show ((enC (es.take i) ++ enV x ++ enC (es.drop i)) ++ _).take ((es.length + 1) * 4) = _
    have : (enC (es.take i) ++ enV x ++ enC (es.drop i)).length = (es.length + 1) * 4 := by rw [List.length_append, List.length_append, htl, hdl]; simp [enV]; omega
    rw [← this, List.take_left]
  have HFIN : Kept (OwnE W3 B (.slice (some ⟨w.heap.size, 0, none⟩) (es.length + 1) G) (es.take i ++ [x] ++ es.drop i) ∧ w.grownBy W3 none) := ⟨by
    have hln : (es.take i ++ [x] ++ es.drop i).length = es.length + 1 := by simp; omega
    refine ⟨⟨enC_len _, .inr ⟨w.heap.size, G, R2, by rw [hln], hB, by rw [hW3]; exact setRow_heap W2.drew _ R1 R2 _ _ hM2, by rw [hln]; exact hGn, hGm, hR2s, by rw [hln]; exact hR2t⟩⟩, ?_⟩
    refine ⟨?_, ?_, ?_, ?_, ?_⟩
    · rw [hW3, hW2]; exact hF1.1
    · rw [hW3, hW2]; exact hF1.2.1
    · rw [hW3, hW2]; exact hF1.2.2
    · rw [hW3, setRow_size]
      show _ ≤ W2.heap.size
      rw [hW2, setRow_size, hS1]; omega
    · intro k hk _
      rw [hW3, setRow_other _ _ _ _ (by omega)]
      exact hO2 k hk⟩
  have HRZ := Kept.mk hrz
  have HCA := Kept.mk hcpA
  have HCB := Kept.mk hcpB
  have hGi : ¬ (G = i) := by omega
  have hGim : ¬ (G = i + 1) := by omega
  have hci : ¬ (es.length = i) := by omega
  have hw1 : IntKind.i64.wrap ((i : Int) + 1) = (i : Int) + 1 := by rw [IntKind.wrap_i64]; omega
  have hb1 : (0 : Int) ≤ (i : Int) + 1 := by omega
  have hin : i ≤ es.length := by omega
  have htn : ((i : Int) + 1).toNat = i + 1 := by omega
  have hb3 : (i : Int) ≤ (es.length : Int) + 1 := by omega
  have hb5 : (i : Int) + 1 ≤ (es.length : Int) + 1 := by omega
  clear hrz hcpA hcpB hsrc hR2t hR2s hW3 hR2 hR1s hO2 hM2 hW2 hR1 hF1 hS1 hO1 hM1 hRt hRs hW1 hROW hG hold hdl htl hcur hsz htk hg hN
  go_enter Tryz.func104, Tryz.ntmps104
  have hca := HCA.out
  go_wp2_with (first
    | (at_builtin; refine Lib.wpList_append_run w rfl _ _ 115 3 rfl (.slice (some ⟨g, 0, none⟩) i es.length) (.int .i64 ((es.length : Int) + 1 - (i : Int))) rfl rfl _ _ (HRZ.out _) ?_)
    | (simp only [hca]))
  go_region_law (refine step_copy rfl _ _ 115 115 rfl (.slice (some ⟨w.heap.size, (i + 1) * 4, none⟩) (es.length - i) (G - (i + 1))) (.slice (some ⟨g, i * 4, none⟩) (es.length - i) (es.length - i)) (by simp [Act.eval, Act.put]) (by simp [Act.eval, Act.put]) (HCB.out _ (G - (i + 1)) (es.length - i)) ?_)
  all_goals
    go_wp2_with fail
    go_ret
    exact ⟨_, rfl, HFIN.out.1, HFIN.out.2⟩
theorem grown_setRow (w : World) (n g : Nat) (cur : Array Value) (row : Option Nat) (h : row = some g) : w.grownBy ((w.drewN n).setRow g cur) row := by
  subst h
  refine ⟨rfl, rfl, rfl, ?_, ?_⟩
  · rw [setRow_size]; exact Nat.le_refl _
  · intro k hk hne
    rw [setRow_other _ _ _ _ (fun e => hne (by rw [e]))]
    rfl
/-- slices.Insert of one entry: whatever the room. -/
theorem ins_any (es : List En) (x : En) (v : Value) (i N B : Nat) (hi : i ≤ es.length) (hl : es.length ≤ 2000000) (w : World) (HO : OwnE w B v es) (hB : B ≤ w.heap.size)
    (hN : w.heap[N]? = some (.cells #[.int .i64 x.v.k, .int .i64 x.v.n, .string x.v.s, .int .i64 x.n] 183 (0, 0))) (hne : some N ≠ v.ownBlock) :
    Calls Tryz.prog 104 #[v, .int .i64 (i : Int), .slice (some ⟨N, 0, none⟩) 1 1] w (fun e w' =>
      ∃ v', e = .returned v' ∧ OwnE w' B v' (es.take i ++ [x] ++ es.drop i) ∧ w.grownBy w' v.ownBlock ∧ SameB w v v') := by
  rcases Nat.lt_or_ge i es.length with hlt | hge
  · have HO2 := HO
    rcases HO.2 with ⟨rfl, h0⟩ | ⟨g, cap, cur, rfl, hb, hg, hc, hm, hs, ht⟩
    · omega
    · rcases Nat.lt_or_ge cap (es.length + 1) with hcap | hcap
      · refine (ins_grow es x i g cap N w.heap.size cur hlt hc hcap hl w hg hs ht hN (Nat.le_refl _)).mono ?_
        rintro e w' ⟨v', rfl, h1, h2⟩
        exact ⟨v', rfl, h1.mono hB, ⟨h2.os, h2.tape, h2.output, h2.size, fun k hk _ => h2.block k hk (by simp)⟩, .inr h1.base⟩
      · have hNg : N ≠ g := fun e => hne (by rw [e]; rfl)
        refine (ins_room es x i g cap N B cur hlt hcap hm hl w hg hs ht hN hNg).mono ?_
        rintro e w' ⟨rfl, n, rfl⟩
        have hln : (es.take i ++ [x] ++ es.drop i).length = es.length + 1 := by simp; omega
        refine ⟨_, rfl, ⟨⟨enC_len _, .inr ⟨g, cap, _, by rw [hln], hb, setRow_heap (w.drewN n) g cur _ _ _ hg, by rw [hln]; exact hcap, hm, ?_, ?_⟩⟩, grown_setRow w n g _ _ rfl, .inl rfl⟩⟩
        · simp only [List.size_toArray, List.length_append, enC_len, hln, List.length_drop, Array.length_toList]
          omega
        · rw [hln]
          show (enC _ ++ _).take _ = _
          have : (enC (es.take i ++ [x] ++ es.drop i)).length = (es.length + 1) * 4 := by rw [enC_len, hln]
          rw [← this, List.take_left]
  · have hie : i = es.length := by omega
    subst hie
    refine (ins_end es x v N B hl w HO hB hN).mono ?_
    rintro e w' ⟨v', rfl, h1, h2⟩
    refine ⟨v', rfl, ?_, h2⟩
    rw [List.take_length, List.drop_length, List.append_nil]
    exact h1
end Go.Proofs.YtnidaahimofppaaGreat
