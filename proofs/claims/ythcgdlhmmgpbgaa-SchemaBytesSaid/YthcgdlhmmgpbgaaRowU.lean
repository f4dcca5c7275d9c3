/- Layer 6 (row): values picked out of a row, walked; the program's and the reference's. -/
import Derived.Test.YthcgdlhmmgpbgaaRowT
namespace Go.Proofs.Ythcgdlhmmgpbgaa
open Go.RowKit
set_option linter.unusedVariables false
set_option linter.unusedSimpArgs false

/-- A slice of numbers, wherever it lies (in blocks below B). -/
def HasI (w : World) (B : Nat) (v : Value) (cs : List Int) : Prop := ∃ A c, v = .slice A cs.length c ∧ (cs ≠ [] → ∃ b off, A = some ⟨b, off, none⟩ ∧ b < B ∧ ∀ i, (hi : i < cs.length) → w.cell? ⟨b, off + i, none⟩ = some (.int .i64 cs[i]))
theorem HasI.below {w w1 : World} {B : Nat} {v : Value} {cs : List Int} (h : HasI w B v cs) (hb : Below B w w1) : HasI w1 B v cs := by
  obtain ⟨A, c, hv, hc⟩ := h
  refine ⟨A, c, hv, fun hn => ?_⟩
  obtain ⟨b, off, hA, hlt, hcell⟩ := hc hn
  exact ⟨b, off, hA, hlt, fun i hi => (World.cell?_of_block (hb.block b hlt)).trans (hcell i hi)⟩
theorem HasI.up {w : World} {B B' : Nat} {v : Value} {cs : List Int} (h : HasI w B v cs) (hB : B ≤ B') : HasI w B' v cs := by
  obtain ⟨A, c, hv, hc⟩ := h
  refine ⟨A, c, hv, fun hn => ?_⟩
  obtain ⟨b, off, hA, hlt, hcell⟩ := hc hn
  exact ⟨b, off, hA, Nat.lt_of_lt_of_le hlt hB, hcell⟩
def pickL (a : List Vr) : List Int → Option (List Vr)
  | [] => some []
  | c :: r => if c < 0 then none else match a[c.toNat]? with
    | none => none
    | some x => (pickL a r).map (x :: ·)
def pickR (a : List Vr) (cs : List Int) : List Vr × Int := if mayR a = true then (if 8 < cs.length then ([], 6) else match pickL a cs with
  | none => ([], 3)
  | some l => (l, 0)) else ([], 2)
/-- What is picked so far, and what is to come. -/
def PkI (xs : List Vr) (cs : List Int) (w : World) (v22 v6 : Value) (wr : World) : Prop := ∃ (i : Nat) (out : List Vr) (r : Array Obj) (d : Nat), v22 = .int .i64 (i : Int) ∧ wr = xw w r d ∧ Kept (OwnR wr w.heap.size v6 out) ∧ Kept (i ≤ cs.length ∧ out.length = i ∧ pickL xs cs = (pickL xs (cs.drop i)).map (out ++ ·))
theorem pick_none {xs : List Vr} {cs : List Int} {i : Nat} {out : List Vr} (hi : i < cs.length) (h : cs[i] < 0 ∨ (xs.length : Int) ≤ cs[i]) (he : pickL xs cs = (pickL xs (cs.drop i)).map (out ++ ·)) : pickL xs cs = none := by
  rw [he, List.drop_eq_getElem_cons hi]
  unfold pickL
  rcases h with h | h
  · rw [if_pos h]; rfl
  · rw [if_neg (by omega), List.getElem?_eq_none (by omega)]; rfl
theorem pick_some {xs : List Vr} {cs : List Int} {i m : Nat} {out : List Vr} (hi : i < cs.length) (hc : cs[i] = (m : Int)) (hm : m < xs.length) (he : pickL xs cs = (pickL xs (cs.drop i)).map (out ++ ·)) : pickL xs cs = (pickL xs (cs.drop (i + 1))).map ((out ++ [xs[m]]) ++ ·) := by
  rw [he, List.drop_eq_getElem_cons hi, hc]
  rw [pickL, if_neg (by omega), Int.toNat_natCast, List.getElem?_eq_getElem hm]
  simp only [Option.map_map]
  congr 1
  funext l
  simp
theorem pick_end {xs : List Vr} {cs : List Int} {i : Nat} {out : List Vr} (hi : cs.length ≤ i) (he : pickL xs cs = (pickL xs (cs.drop i)).map (out ++ ·)) : pickL xs cs = some out := by
  rw [he, List.drop_of_length_le hi]
  simp [pickL]
set_option maxRecDepth 100000 in
set_option maxHeartbeats 2000000 in
theorem Pick_any (v u : Value) (xs : List Vr) (cs : List Int) (w : World) (H1 : HasR w w.heap.size v xs) (H2 : HasI w w.heap.size u cs) :
    Calls Try.prog 26 #[v, u] w (RetR w (pickR xs cs)) := by
  have h1 := Kept.mk H1
  have h2 := Kept.mk H2
  obtain ⟨A, c, rfl, _, hA⟩ := H1
  obtain ⟨B, d, rfl, hB⟩ := H2
  have HA := Kept.mk hA
  have HB := Kept.mk hB
  clear hA hB
  cases m1 : mayR xs with
  | false =>
    have hv : Kept (pickR xs cs = ([], 2)) := ⟨by simp [pickR, m1]⟩
    have M1 := Kept.mk m1
    clear m1
    go_enter Try.func26, Try.ntmps26
    go_wp2_with (first
      | (go_at_call 45; refine (May_any _ xs _ h1.out).mono ?_; rintro e w1 ⟨rfl, hb1⟩; obtain ⟨r1, d1, rfl⟩ := xw_of hb1; clear hb1; rewrite [M1.out]))
    go_returns
    rw [hv.out]
    exact ⟨_, rfl, OwnR.nil _ _, xw_below _ _ _⟩
  | true =>
    have M1 := Kept.mk m1
    have L1 := Kept.mk (mayR_iff.1 m1).1
    clear m1
    by_cases c8 : 8 < cs.length
    · have hv : Kept (pickR xs cs = ([], 6)) := ⟨by simp [pickR, M1.out, c8]⟩
      have c8' : 8 < (cs.length : Int) := by omega
      clear c8
      go_enter Try.func26, Try.ntmps26
      go_wp2_with (first
        | (go_at_call 45; refine (May_any _ xs _ h1.out).mono ?_; rintro e w1 ⟨rfl, hb1⟩; obtain ⟨r1, d1, rfl⟩ := xw_of hb1; clear hb1; rewrite [M1.out]))
      go_returns
      rw [hv.out]
      exact ⟨_, rfl, OwnR.nil _ _, xw_below _ _ _⟩
    · have HV : Kept (pickR xs cs = match pickL xs cs with | none => ([], 3) | some l => (l, 0)) := ⟨by simp [pickR, M1.out, c8]⟩
      have c8' : ¬ 8 < (cs.length : Int) := by omega
      have H8 : Kept (cs.length ≤ 8) := ⟨by omega⟩
      clear c8
      go_enter Try.func26, Try.ntmps26
      go_wp2_with (first
        | (go_at_call 45; refine (May_any _ xs _ h1.out).mono ?_; rintro e w1 ⟨rfl, hb1⟩; obtain ⟨r1, d1, rfl⟩ := xw_of hb1; clear hb1; rewrite [M1.out])
        | ((refine mk_vals (W := xw w r1 d1) rfl (.tmp 18) 35 _ rfl Try.underlying35 cs.length rfl rfl ?c1 ?_); (case c1 => have := H8.out; omega); intro r2 d2 hO; rewrite [xw_xw] at hO; rewrite [xw_xw]; have HO := Kept.mk (hO.mono (by rw [xw_size]; omega) : OwnR _ w.heap.size _ _); clear hO))
      go_loopw [22, 6] (fun v22 v6 wr => PkI xs cs w v22 v6 wr) (fun v22 v6 wr => cs.length - (intOf v22).toNat)
      case atStart => exact ⟨0, [], _, _, rfl, rfl, HO, ⟨Nat.zero_le _, rfl, by simp⟩⟩
      case round =>
        obtain ⟨i, out, r, d', rfl, rfl, HOR, HI⟩ := hrel
        clear HO
        by_cases ci : i < cs.length
        · have hne : cs ≠ [] := by rintro rfl; simp at ci
          obtain ⟨b2, o2, rfl, hb2, hc2⟩ := HB.out hne
          have g0 := hc2 i ci
          have ci' : (i : Int) < (cs.length : Int) := by omega
          have f0 : 0 ≤ (i : Int) := by omega
          have hw : wrap64 ((i : Int) + 1) = (i : Int) + 1 := by have := H8.out; simp only [wrap64]; omega
          have HCI := Kept.mk ci
          by_cases cn : cs[i] < 0 ∨ (xs.length : Int) ≤ cs[i]
          · have hp := pick_none ci cn HI.out.2.2
            have hv : Kept (pickR xs cs = ([], 3)) := ⟨by rw [HV.out, hp]⟩
            clear hp hc2 hne
            generalize cs[i] = cc at g0 cn
            rcases cn with cn | cn
            · go_wp2_with fail
              go_returns
              rw [hv.out]
              exact ⟨_, rfl, OwnR.nil _ _, xw_below _ _ _⟩
            · have cn0 : ¬ cc < 0 := by omega
              go_wp2_with fail
              go_returns
              rw [hv.out]
              exact ⟨_, rfl, OwnR.nil _ _, xw_below _ _ _⟩
          · obtain ⟨m, hm⟩ : ∃ m : Nat, cs[i] = (m : Int) := ⟨cs[i].toNat, by omega⟩
            have hml : m < xs.length := by omega
            have hp := Kept.mk (pick_some ci hm hml HI.out.2.2)
            rw [hm] at g0
            have hml' : (m : Int) < (xs.length : Int) := by omega
            have hml2 : ¬ ((xs.length : Int) ≤ (m : Int)) := by omega
            have m0 : ¬ ((m : Int) < 0) := by omega
            have m1 : 0 ≤ (m : Int) := by omega
            have hne1 : xs ≠ [] := by rintro rfl; simp at hml
            obtain ⟨b1, o1, rfl, hb1, hc1⟩ := HA.out hne1
            obtain ⟨e0, e1, e2⟩ := hc1 m hml
            generalize xs[m] = x at e0 e1 e2 hp
            obtain ⟨xk, xn, xs'⟩ := x
            simp only at e0 e1 e2
            clear hc1 hc2 hne hne1 cn hm hml
            go_wp2_with (first
              | ((at_builtin); refine app_val (w0 := w) (W := xw w r d') rfl (.tmp 34) (.tmp 39) 35 rfl Try.underlying35 _ out xk xn xs' rfl rfl HOR.out (xw_below _ _ _) ?c4 ?_; (case c4 => have := HI.out.2.1; have := HI.out.1; have := H8.out; omega); intro v1 r3 d3 hO3 _; have HO3 := Kept.mk hO3; clear hO3))
            refine ⟨⟨i + 1, out ++ [⟨xk, xn, xs'⟩], _, _, by first | rfl | (rw [hw]; rfl), rfl, HO3, ⟨HCI.out, by have := HI.out.2.1; simp; omega, hp.out⟩⟩, by have := HCI.out; simp [intOf, hw]; omega⟩
        · have hp := pick_end (by omega) HI.out.2.2
          have hv : Kept (pickR xs cs = (out, 0)) := ⟨by rw [HV.out, hp]⟩
          have ci' : ¬ ((i : Int) < (cs.length : Int)) := by omega
          clear ci hp
          go_wp2_with fail
          go_returns
          rw [hv.out]
          exact ⟨_, rfl, HOR.out, xw_below _ _ _⟩
end Go.Proofs.Ythcgdlhmmgpbgaa
