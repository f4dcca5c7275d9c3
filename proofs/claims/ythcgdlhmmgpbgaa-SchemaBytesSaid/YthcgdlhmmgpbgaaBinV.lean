/- A new reader; what must be whatever is asked. -/
import Derived.Test.YthcgdlhmmgpbgaaBinT
namespace Go.Proofs.Ythcgdlhmmgpbgaa
open Go.RowKit
set_option linter.unusedVariables false
set_option linter.unusedSimpArgs false

section
variable {P : Program} {ops : Array Oper} {rest : List Oper} {o : Oper} {a : Act} {Q : Exit → Act → World → Prop}
/-- append(v, ys...), v not nil: then what is made is not, too. -/
theorem app_row2 {w0 W : World} (hgd : o.guard = none) (s x : Operand) (t e : TypeId) (z : Value) (bytes : Nat)
    (ho : o.op = .call { callee := .builtin .append, args := #[s, x], argTypes := #[t, t] })
    (ht : P.underlying t = some (.slice e)) (hinfo : (P.info? e).map (fun i => (i.zero, i.size, i.bytes)) = some (some z, 1, bytes)) (hz : z.cells.size = 1) (hb0 : 0 < bytes)
    (v : Value) (xs ys : List Value) (A : Option Addr) (c : Nat) (hs : a.eval s = v) (hx : a.eval x = .slice A ys.length c) (h1 : ∀ y ∈ ys, y.oneCell' = true)
    (hy : ys ≠ [] → ∃ ad, A = some ad ∧ ∀ j u, ys[j]? = some u → W.cell? (ad.add j) = some u) (hv : v ≠ .slice none 0 0)
    (HO : Own W w0.heap.size e v xs) (HB : Below w0.heap.size w0 W) (hl : (xs.length + ys.length) * bytes ≤ 140737488355328)
    (h : ∀ v1 r d, Own (xw w0 r d) w0.heap.size e v1 (xs ++ ys) → v1 ≠ .slice none 0 0 → wpList P ops Q rest (a.put o.dst v1) (xw w0 r d)) :
    wpList P ops Q (o :: rest) a W := by
  obtain ⟨i0, hi, hzz⟩ := Option.map_eq_some_iff.1 hinfo
  simp only [Prod.mk.injEq] at hzz
  obtain ⟨hz0, hz1, hz2⟩ := hzz
  have hlen : xs.length + ys.length ≤ 140737488355328 := Nat.le_trans (Nat.le_mul_of_pos_right _ hb0) hl
  have hrun : ∃ v1 w1, (Builtin.append_ #[t, t] o.type #[v, .slice A ys.length c]).run P W = .ok v1 w1 ∧ Own w1 w0.heap.size e v1 (xs ++ ys) ∧ W.grownBy w1 v.ownBlock ∧ v1 ≠ .slice none 0 0 := by
    rcases A with _ | ad
    · have h0 : ys = [] := by
        rcases Nat.eq_zero_or_pos ys.length with h0 | h0
        · exact List.eq_nil_of_length_eq_zero h0
        · obtain ⟨ad, h, _⟩ := hy (by intro e; rw [e] at h0; simp at h0)
          cases h
      subst h0
      refine ⟨v, W, ?_, by simpa using HO, World.grownBy.refl W _, hv⟩
      rcases HO.2 with ⟨rfl, hn⟩ | ⟨g, cap, cur, rfl, _, _, hnc, _⟩
      · exact absurd rfl hv
      · simp [Builtin.append_, run_underlying ht, sizeOf, typeInfo, hi, Builtin.lenOf, Builtin.firstCells, hnc, storeCells]
    · have hc : ∀ j u, ys[j]? = some u → W.cell? (ad.add j) = some u := by
        intro j u hu
        have hne : ys ≠ [] := by rintro rfl; simp at hu
        obtain ⟨ad', h', hc⟩ := hy hne
        injection h' with h'
        subst h'
        exact hc j u hu
      obtain ⟨v1, w1, hr, h2, h3, h4, h5⟩ := run_append_own_at (P := P) W w0.heap.size t o.type e i0 z 1 bytes ht hi hz0 hz1 hz2 hz (by omega) v xs.length xs HO ad ys.length c ys (by simp) hc h1 (by simp only [maxLen]; omega) hl HB.size
      exact ⟨v1, w1, hr, by unfold Own; simpa using h2, h3, fun e => hv (h4.1 e).1⟩
  obtain ⟨v1, w1, hr, hown, hg, hnn⟩ := hrun
  obtain ⟨r, d, rfl⟩ := grown_xw HB hg (HO.base)
  refine wpList_plain hgd fun K hK => ?_
  unfold Oper.wp execOp
  simp only [ho, resolve, invoke, builtin, Sem.run_bind, Sem.run_pure, Result.andThen_ok, List.map_toArray, List.map_cons, List.map_nil, hs, hx, hr]
  exact hK _ _ (h v1 r d hown hnn)
end

theorem add_block (ad : Addr) (j : Nat) : (ad.add j).block = ad.block := by
  simp only [Addr.add]
  first | rfl | (split <;> rfl)
set_option maxRecDepth 100000 in
set_option maxHeartbeats 1000000 in
theorem New_any (xs : List Int) (hl : xs.length ≤ 140737488355328) (A : Option Addr) (c : Nat) (w : World)
    (hA : u8s xs ≠ [] → ∃ ad, A = some ad ∧ ∀ j u, (u8s xs)[j]? = some u → w.cell? (ad.add j) = some u) (hlt : ∀ ad, A = some ad → ad.block < w.heap.size) :
    Calls Try.prog 28 #[.slice A xs.length c] w (fun e w' => ∃ g, e = .returned (.pointer (some ⟨g, 0, none⟩)) ∧ w.heap.size ≤ g ∧ Rd w' g xs 0 0 ∧ Below w.heap.size w w') := by
  have HA := Kept.mk hA
  have HL := Kept.mk hl
  have HT := Kept.mk hlt
  clear hA hl hlt
  go_enter Try.func28, Try.ntmps28
  go_wp2_with (first | ((at_builtin); refine app_row2 (w0 := w) (W := w.alloc (.cells #[] 5)) rfl (.tmp 3) (.tmp 4) 47 5 (.int .u8 0) 1 rfl Try.underlying47 infoB rfl (by decide) _ [] (u8s xs) A c rfl ?c0 (u8s_one _) ?c1 ?c2 (Own.empty w _ _ (Nat.le_refl _)) ((Below.refl _ _).alloc (Nat.le_refl _) _) ?c3 ?_; (case c0 => rw [u8s_len]; rfl); (case c1 => intro hne; obtain ⟨ad, e, hc⟩ := HA.out hne; exact ⟨ad, e, fun j u hu => by rw [World.cell?_alloc_lt _ _ _ (by rw [add_block]; exact HT.out ad e)]; exact hc j u hu⟩); (case c2 => intro h; cases h); (case c3 => rw [u8s_len]; have := HL.out; simp; omega); intro v1 r d HO hnn; obtain ⟨k, c2, hv, hk, hk2, hc2, hm, hcell⟩ := (HO.cells.resolve_left (fun h => hnn h.1)); simp only [List.nil_append] at hv hcell hc2; rw [u8s_len] at hv hcell hc2; have HTY := Kept.mk (Own.typ HO hv); clear HO hnn; subst hv; have HC := Kept.mk hcell; clear hcell))
  go_ret
  refine ⟨(xw w r d).heap.size, rfl, by rw [xw_size]; omega, ?_, ?_⟩
  · refine ⟨⟨k, c2, _, heap_alloc_new (xw w r d) _, by omega, by simp; omega, hc2, fun j b hj => ?_⟩, Nat.zero_le _, HL.out⟩
    have hjl : j < xs.length := (List.getElem?_eq_some_iff.1 hj).1
    obtain ⟨arr, fr, hty⟩ := HTY.out
    refine BytAt.keep (w := xw w r d) ⟨?_, arr, fr, hty⟩ (Lib.alloc_old _ _ _ hk2)
    rw [HC.out j hjl]
    simp [u8s, hj]
  · (repeat' (first | (with_reducible exact Below.refl _ _) | (with_reducible assumption) | (with_reducible refine below_xw ?_ ?_ _ _) | (with_reducible refine below_drewN ?_ _) | (with_reducible refine Below.drew ?_) | (with_reducible refine Below.setCell ?_ ?_ _) | (with_reducible refine Below.alloc ?_ ?_ _) | (simp [xw_size]; done) | (simp [xw_size]; omega) | (dsimp only; omega)))

/-- A slice of one's own that is a literal: what it holds. -/
theorem lit_cells (w : World) (e : TypeId) (xs : List Value) (hm : xs.length ≤ maxLen) (j : Nat) (u : Value) (hj : xs[j]? = some u) : (w.alloc (.cells xs.toArray e)).cell? ⟨w.heap.size, j, none⟩ = some u := by
  have h := Own.lit w w.heap.size e xs (Nat.le_refl _) hm
  have hl : j < xs.length := (List.getElem?_eq_some_iff.1 hj).1
  rcases h.cells with ⟨h1, _⟩ | ⟨g, c, h1, _, _, _, _, hc⟩
  · cases h1
  · injection h1 with h1
    injection h1 with h1
    injection h1 with h1 _ _
    subst h1
    rw [hc j hl, hj]
/-- string(v), in later worlds, too. -/
theorem own_conv {base : Nat} {v : Value} {xs : List Int} {W : World} {r1 : Array Obj} {d1 : Nat} (h : Own (xw W r1 d1) base 5 v (u8s xs)) :
    (∀ d, (convert 47 9 v).run Try.prog (xw W r1 d) = .ok (.string (strOfNums xs)) (xw W r1 d)) ∧ ∀ r d, (convert 47 9 v).run Try.prog (xw W (r1 ++ r) d) = .ok (.string (strOfNums xs)) (xw W (r1 ++ r) d) := by
  constructor
  · intro d
    have h2 : Own (xw W r1 d) base 5 v (u8s xs) := h.below ⟨rfl, rfl, rfl, Nat.le_refl _, fun _ _ => rfl⟩
    exact own_string Try.underlying47 Try.underlying5 Try.underlying9 h2
  · intro r d
    have h2 := h.xw r d
    rw [xw_xw] at h2
    exact own_string Try.underlying47 Try.underlying5 Try.underlying9 h2

end Go.Proofs.Ythcgdlhmmgpbgaa
