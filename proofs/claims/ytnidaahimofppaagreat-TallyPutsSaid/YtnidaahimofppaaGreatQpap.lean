/- Layer 26 (tally): slices.Delete of one entry of a value, walked. -/
import Derived.Test.YtnidaahimofppaaGreatQpao
namespace Go.Proofs.YtnidaahimofppaaGreat
open Go.RowKit
set_option linter.unusedVariables false
set_option linter.unusedSimpArgs false

section
variable {P : Program} {ops : Array Oper} {rest : List Oper} {o : Oper} {a : Act} {K : Act → World → Prop} {Q : Exit → Act → World → Prop} {E : Prop}
/-- append where there is room, onto a row that is all there. -/
theorem run_append_rowK (w : World) (t ty e : TypeId) (i : TypeInfo) (ht : P.underlying t = some (.slice e)) (hi : P.info? e = some i)
    (g sLen sCap : Nat) (ad : Addr) (m c : Nat) (cur : Array Value) (t2 : TypeId) (news : List Value) (hl : news.length = m * i.size) (hnews : ∀ j u, news[j]? = some u → w.cell? (ad.add j) = some u) (h1 : ∀ u ∈ news, u.oneCell' = true)
    (hg : w.heap[g]? = some (.cells cur t2 (0, 0))) (hroom : sLen + m ≤ sCap) (hfit : sLen * i.size + news.length ≤ cur.size) :
    (Builtin.append_ #[t, t] ty #[.slice (some ⟨g, 0, none⟩) sLen sCap, .slice (some ad) m c]).run P w = .ok (.slice (some ⟨g, 0, none⟩) (sLen + m) sCap) (w.setRow g (cur.toList.take (sLen * i.size) ++ news ++ cur.toList.drop (sLen * i.size + news.length)).toArray) := by
  have hfc := run_firstCells_some (P := P) w i.size m ad m c news hl hnews
  have hst := run_storeCells_at P g (sLen * i.size) t2 news 0 cur w hg (by simpa using hfit) h1
  simp only [Nat.add_zero] at hst
  simp [Builtin.append_, run_underlying ht, sizeOf, typeInfo, hi, Builtin.lenOf, hroom, hfc, Addr.add_lit, hst]
/-- append, its run known, inside of a region that draws. -/
theorem step_append {W : World} (hg : o.guard = none) (d x : Operand) (dT sT : TypeId) (hop : o.op = .call { callee := .builtin .append, args := #[d, x], argTypes := #[dT, sT] })
    (v u : Value) (hd : a.eval d = v) (hx : a.eval x = u) {v' : Value} {w' : World} (hr : (Builtin.append_ #[dT, sT] o.type #[v, u]).run P W = .ok v' w') (hK : K (a.put o.dst v') w') :
    if Region.wanted o (yielded ops a.tmps) = true then Oper.wp P o a W K Q else E := by
  have hw : Region.wanted o (yielded ops a.tmps) = true := by simp [Region.wanted, hg]
  rw [if_pos hw]
  unfold Oper.wp
  simp only [execOp, hop, resolve, invoke, builtin, Sem.run_bind, Sem.run_pure, Result.andThen_ok, List.map_toArray, List.map_cons, List.map_nil, hd, hx, hr]
  exact hK
theorem run_clear_one (w : World) (t e ty : TypeId) (z : Value) (z0 z1 z2 z3 : Value) (ht : P.underlying t = some (.slice e)) (hv : ∀ w, (zeroValue e).run P w = .ok z w) (hz : z.cells = #[z0, z1, z2, z3]) (h0 : z0.oneCell' = true) (h1 : z1.oneCell' = true) (h2 : z2.oneCell' = true) (h3 : z3.oneCell' = true)
    (g o c : Nat) (cur : Array Value) (t2 : TypeId) (hg : w.heap[g]? = some (.cells cur t2 (0, 0))) (hfit : o + 4 ≤ cur.size) :
    (Builtin.clear_ #[t] ty #[.slice (some ⟨g, o, none⟩) 1 c]).run P w = .ok (.tuple #[]) (w.setRow g (cur.toList.take o ++ [z0, z1, z2, z3] ++ cur.toList.drop (o + 4)).toArray) := by
  have hzc : (Builtin.zeroCells z.cells 1).toList = [z0, z1, z2, z3] := by
    rw [hz]
    simp [Builtin.zeroCells, List.range_succ]
  have hst := run_storeCells_at P g o t2 [z0, z1, z2, z3] 0 cur w hg (by simpa using hfit) (by intro v hv'; simp at hv'; rcases hv' with rfl | rfl | rfl | rfl <;> assumption)
  simp only [Nat.add_zero] at hst
  simp [Builtin.clear_, run_underlying ht, hv, hzc, hst]
end
/-- The rows: behind the append, behind the clearing. -/
theorem del_rows (es : List En) (i p c : Nat) (cur : Array Value) (hi : i ≤ p) (hn : es.length = p + 1) (hc : p + 1 ≤ c) (hsz : cur.size = c * 4) (htk : cur.toList.take ((p + 1) * 4) = enC es) (cur1 cur2 : Array Value)
    (h1 : cur1 = (cur.toList.take (i * 4) ++ enC (es.drop (i + 1)) ++ cur.toList.drop (i * 4 + (enC (es.drop (i + 1))).length)).toArray)
    (h2 : cur2 = (cur1.toList.take (p * 4) ++ [Value.int .i64 0, Value.int .i64 0, Value.string ⟨#[]⟩, Value.int .i64 0] ++ cur1.toList.drop (p * 4 + 4)).toArray) :
    cur1.size = c * 4 ∧ cur2.size = c * 4 ∧ cur2.toList.take (p * 4) = enC (es.take i ++ es.drop (i + 1)) := by
  have hdl : (enC (es.drop (i + 1))).length = (p - i) * 4 := by rw [enC_len, List.length_drop, hn]; omega
  have s1 : cur1.size = c * 4 := by
    rw [h1]
    simp only [List.size_toArray, List.length_append, List.length_take, List.length_drop, Array.length_toList, hdl]
    omega
  refine ⟨s1, ?_, ?_⟩
  · rw [h2]
    simp only [List.size_toArray, List.length_append, List.length_take, List.length_drop, Array.length_toList, List.length_cons, List.length_nil]
    omega
  · have e2 : cur2.toList.take (p * 4) = cur1.toList.take (p * 4) := by
      rw [h2]
      show ((cur1.toList.take (p * 4) ++ _) ++ _).take (p * 4) = _
      rw [List.append_assoc, List.take_append_of_le_length (by rw [List.length_take, Array.length_toList]; omega), List.take_take, Nat.min_self]
    have e0 : cur.toList.take (i * 4) = enC (es.take i) := by rw [enC_take, ← htk, List.take_take, Nat.min_eq_left (by omega)]
    rw [e2, h1, e0, enC_app]
    show ((enC (es.take i) ++ enC (es.drop (i + 1))) ++ _).take (p * 4) = _
    have hl : (enC (es.take i) ++ enC (es.drop (i + 1))).length = p * 4 := by rw [List.length_append, hdl, enC_len, List.length_take, Nat.min_eq_left (by omega)]; omega
    rw [← hl, List.take_left]
theorem zeroE : ∀ w, (zeroValue 183).run Tryz.prog w = .ok (Value.agg #[.int .i64 0, .int .i64 0, .string ⟨#[]⟩, .int .i64 0]) w := Tryz.zeroValue183
set_option maxRecDepth 100000 in
set_option maxHeartbeats 4000000 in
theorem del_row (es : List En) (i p g c : Nat) (cur : Array Value) (hi : i ≤ p) (hn : es.length = p + 1) (hc : p + 1 ≤ c) (hm : c ≤ maxLen) (hl : p ≤ 2000000) (w : World)
    (hg : w.heap[g]? = some (.cells cur 183 (0, 0))) (hsz : cur.size = c * 4) (htk : cur.toList.take ((p + 1) * 4) = enC es) :
    Calls Tryz.prog 105 #[.slice (some ⟨g, 0, none⟩) (p + 1) c, .int .i64 (i : Int), .int .i64 ((i : Int) + 1)] w (fun e w' =>
      e = .returned (.slice (some ⟨g, 0, none⟩) p c) ∧ ∃ n cur2, w' = (w.drewN n).setRow g cur2 ∧ cur2.size = c * 4 ∧ cur2.toList.take (p * 4) = enC (es.take i ++ es.drop (i + 1))) := by
  obtain ⟨i0, hi0, hzz⟩ := Option.map_eq_some_iff.1 infoE
  simp only [Prod.mk.injEq] at hzz
  obtain ⟨hz0, hz1, hz2⟩ := hzz
  obtain ⟨cur1, hcur1⟩ : ∃ cur1, cur1 = (cur.toList.take (i * 4) ++ enC (es.drop (i + 1)) ++ cur.toList.drop (i * 4 + (enC (es.drop (i + 1))).length)).toArray := ⟨_, rfl⟩
  obtain ⟨cur2, hcur2⟩ : ∃ cur2, cur2 = (cur1.toList.take (p * 4) ++ [Value.int .i64 0, Value.int .i64 0, Value.string ⟨#[]⟩, Value.int .i64 0] ++ cur1.toList.drop (p * 4 + 4)).toArray := ⟨_, rfl⟩
  obtain ⟨hs1, hs2, ht2⟩ := del_rows es i p c cur hi hn hc hsz htk cur1 cur2 hcur1 hcur2
  have hdl : (enC (es.drop (i + 1))).length = (p - i) * 4 := by rw [enC_len, List.length_drop, hn]; omega
  obtain ⟨W1, hW1⟩ : ∃ W1, W1 = w.drew.setRow g cur1 := ⟨_, rfl⟩
  obtain ⟨W2, hW2⟩ : ∃ W2, W2 = W1.setRow g cur2 := ⟨_, rfl⟩
  have hg1 : W1.heap[g]? = some (.cells cur1 183 (0, 0)) := by rw [hW1]; exact setRow_heap w.drew g cur cur1 _ _ hg
  have hcl : ∀ ty cc, (Builtin.clear_ #[115] ty #[.slice (some ⟨g, p * 4, none⟩) 1 cc]).run Tryz.prog W1 = .ok (.tuple #[]) W2 := fun ty cc => by
    rw [hW2, hcur2]
    exact run_clear_one W1 115 183 ty _ _ _ _ _ Tryz.underlying115 zeroE rfl rfl rfl rfl rfl g (p * 4) cc cur1 _ hg1 (by omega)
  have HFIN : Kept (W2 = (w.drewN 1).setRow g cur2) := ⟨by rw [hW2, hW1, setRow_setRow]; rfl⟩
  have HS2 := Kept.mk hs2
  have HT2 := Kept.mk ht2
  have hap : ∀ (ad : Addr) ty cc, (p - i ≠ 0 → ad = ⟨g, (i + 1) * 4, none⟩) → (Builtin.append_ #[115, 115] ty #[.slice (some ⟨g, 0, none⟩) i c, .slice (some ad) (p - i) cc]).run Tryz.prog w.drew = .ok (.slice (some ⟨g, 0, none⟩) p c) W1 := fun ad ty cc had => by
    have h := run_append_rowK (P := Tryz.prog) w.drew 115 ty 183 i0 Tryz.underlying115 hi0 g i c ad (p - i) cc cur _ (enC (es.drop (i + 1))) (by rw [hz1]; exact hdl)
      (fun j u hj => by
        have hjl := (List.getElem?_eq_some_iff.1 hj).1
        rw [hdl] at hjl
        rw [had (by omega), Addr.add_lit]
        show w.cell? ⟨g, (i + 1) * 4 + j, none⟩ = some u
        rw [row_cell hg, ← hj, enC_drop, ← htk, List.getElem?_drop, List.getElem?_take_of_lt (by omega)]) (enC_cells1 _) hg (by omega) (by rw [hz1, hdl]; omega)
    rw [hz1, show i + (p - i) = p by omega] at h
    rw [hW1, hcur1]
    exact h
  have HAP := Kept.mk hap
  have i1 : ¬ ((i : Int) = (i : Int) + 1) := by omega
  have i2 : ((i : Int) == (i : Int) + 1) = false := by rw [beq_eq_false_iff_ne]; omega
  have i3 : 0 ≤ (i : Int) := by omega
  have i4 : (i : Int) ≤ (p : Int) + 1 := by omega
  have i5 : (i : Int) + 1 ≤ (p : Int) + 1 := by omega
  have i6 : (0 : Int) ≤ (i : Int) + 1 := by omega
  have i7 : (i : Int) ≤ (i : Int) + 1 := by omega
  have i8 : ((i : Int) + 1).toNat = i + 1 := by omega
  have i9 : (i : Int) ≤ (c : Int) := by omega
  have p1 : ¬ (c = p) := by omega
  have p2 : p + 1 - p = 1 := by omega
  have p3 : (p : Int) ≤ (p : Int) + 1 := by omega
  have p4 : (p : Int) + 1 ≤ (c : Int) := by omega
  have hsp : p + 1 - (i + 1) = p - i := by omega
  clear hg hap hs1 hs2 ht2 hcur1 hcur2 hdl hW1 hW2 hg1 hsz htk
  by_cases hce : c = i + 1
  · have hpi : p = i := by omega
    subst hpi
    subst hce
    have hap := HAP.out ⟨g, 0, none⟩
    have HAP2 : Kept (∀ ty cc, (Builtin.append_ #[115, 115] ty #[.slice (some ⟨g, 0, none⟩) p (p + 1), .slice (some ⟨g, 0, none⟩) 0 cc]).run Tryz.prog w.drew = .ok (.slice (some ⟨g, 0, none⟩) p (p + 1)) W1) := ⟨fun ty cc => by
      have h := hap ty cc (fun h => absurd (Nat.sub_self p) h)
      rwa [Nat.sub_self] at h⟩
    clear hap HAP
    go_enter Tryz.func105, Tryz.ntmps105
    go_upto_region 5 with fail
    go_region_law (refine step_append rfl _ _ 115 115 rfl (.slice (some ⟨g, 0, none⟩) p (p + 1)) (.slice (some ⟨g, 0, none⟩) 0 0) (by simp [Act.eval, Act.put]) (by simp [Act.eval, Act.put]) (HAP2.out _ 0) ?_)
    all_goals
      simp only [List.getElem_toArray, List.getElem_cons_zero, List.getElem_cons_succ, Act.put, List.setIfInBounds_toArray, List.set_cons_zero, List.set_cons_succ]
      go_wp2_with (simp only [hcl])
      go_ret
      exact ⟨rfl, 1, cur2, HFIN.out, HS2.out, HT2.out⟩
  · go_enter Tryz.func105, Tryz.ntmps105
    go_upto_region 5 with fail
    go_region_law (refine step_append rfl _ _ 115 115 rfl (.slice (some ⟨g, 0, none⟩) i c) (.slice (some ⟨g, (i + 1) * 4, none⟩) (p - i) (c - (i + 1))) (by simp [Act.eval, Act.put]) (by simp [Act.eval, Act.put]) (HAP.out ⟨g, (i + 1) * 4, none⟩ _ (c - (i + 1)) (fun _ => rfl)) ?_)
    all_goals
      simp only [List.getElem_toArray, List.getElem_cons_zero, List.getElem_cons_succ, Act.put, List.setIfInBounds_toArray, List.set_cons_zero, List.set_cons_succ]
      go_wp2_with (simp only [hcl])
      go_ret
      exact ⟨rfl, 1, cur2, HFIN.out, HS2.out, HT2.out⟩
/-- slices.Delete of one entry. -/
theorem del_any (es : List En) (v : Value) (i B : Nat) (hi : i < es.length) (hl : es.length ≤ 2000000) (w : World) (HO : OwnE w B v es) :
    Calls Tryz.prog 105 #[v, .int .i64 (i : Int), .int .i64 ((i : Int) + 1)] w (fun e w' =>
      ∃ v', e = .returned v' ∧ OwnE w' B v' (es.take i ++ es.drop (i + 1)) ∧ w.grownBy w' v.ownBlock ∧ SameB w v v') := by
  rcases HO.2 with ⟨rfl, h0⟩ | ⟨g, cap, cur, rfl, hb, hg, hc, hm, hs, ht⟩
  · omega
  · obtain ⟨p, hp⟩ : ∃ p, es.length = p + 1 := ⟨es.length - 1, by omega⟩
    rw [hp] at hc ht ⊢
    refine (del_row es i p g cap cur (by omega) hp hc hm (by omega) w hg hs ht).mono ?_
    rintro e w' ⟨rfl, n, cur2, rfl, h1, h2⟩
    have hln : (es.take i ++ es.drop (i + 1)).length = p := by simp; omega
    exact ⟨_, rfl, ⟨enC_len _, .inr ⟨g, cap, cur2, by rw [hln], hb, setRow_heap (w.drewN n) g cur _ _ _ hg, by rw [hln]; omega, hm, h1, by rw [hln]; exact h2⟩⟩, grown_setRow w n g _ _ rfl, .inl rfl⟩
end Go.Proofs.YtnidaahimofppaaGreat
