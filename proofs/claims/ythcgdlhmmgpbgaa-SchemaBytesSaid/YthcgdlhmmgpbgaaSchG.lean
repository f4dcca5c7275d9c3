/- Layer 7 (schema): schemas' bytes; the program's, walked: a drawn region in which memory is made twice. -/
import Derived.Test.YthcgdlhmmgpbgaaSchF
import Derived.Test.YthcgdlhmmgpbgaaSchM
import Derived.Deep.RegionLaw
import Derived.Deep.DeepCutAuto
namespace Go.Proofs.Ythcgdlhmmgpbgaa
open Go.RowKit
set_option linter.unusedVariables false
set_option linter.unusedSimpArgs false

section
variable {P : Program} {ops : Array Oper} {o : Oper} {a : Act} {K : Act → World → Prop} {Q : Exit → Act → World → Prop} {E : Prop}
/-- append(v, ys...) inside of a region that draws: what has changed is the row's own block alone. -/
theorem step_rowG {W : World} {B : Nat} (hgd : o.guard = none) (s x : Operand) (t e : TypeId) (z : Value) (bytes : Nat)
    (ho : o.op = .call { callee := .builtin .append, args := #[s, x], argTypes := #[t, t] })
    (ht : P.underlying t = some (.slice e)) (hinfo : (P.info? e).map (fun i => (i.zero, i.size, i.bytes)) = some (some z, 1, bytes)) (hz : z.cells.size = 1) (hb0 : 0 < bytes)
    (v : Value) (xs ys : List Value) (ad : Addr) (c : Nat) (hs : a.eval s = v) (hx : a.eval x = .slice (some ad) ys.length c) (h1 : ∀ y ∈ ys, y.oneCell' = true)
    (hy : ∀ j u, ys[j]? = some u → W.cell? (ad.add j) = some u)
    (HO : Own W B e v xs) (HB : B ≤ W.heap.size) (hl : (xs.length + ys.length) * bytes ≤ 140737488355328)
    (h : ∀ v1 w1, Own w1 B e v1 (xs ++ ys) → W.grownBy w1 v.ownBlock → K (a.put o.dst v1) w1) :
    if Region.wanted o (yielded ops a.tmps) = true then Oper.wp P o a W K Q else E := by
  obtain ⟨i0, hi, hzz⟩ := Option.map_eq_some_iff.1 hinfo
  simp only [Prod.mk.injEq] at hzz
  obtain ⟨hz0, hz1, hz2⟩ := hzz
  have hlen : xs.length + ys.length ≤ 140737488355328 := Nat.le_trans (Nat.le_mul_of_pos_right _ hb0) hl
  have hw : Region.wanted o (yielded ops a.tmps) = true := by simp [Region.wanted, hgd]
  rw [if_pos hw]
  refine wp_append_own W s x t ho B e i0 z 1 bytes ht hi hz0 hz1 hz2 hz (by omega) v xs.length xs hs HO ad ys.length c ys hx (by simp)
    hy (by simpa using h1) (by simp only [maxLen]; omega) hl HB ?_
  intro v1 w1 hown hg _
  refine h v1 w1 ?_ hg
  unfold Own
  simpa using hown
/-- The same, what is appended a slice of another's own. -/
theorem step_ownG {W : World} {B : Nat} (hgd : o.guard = none) (s x : Operand) (t e : TypeId) (z : Value) (bytes : Nat)
    (ho : o.op = .call { callee := .builtin .append, args := #[s, x], argTypes := #[t, t] })
    (ht : P.underlying t = some (.slice e)) (hinfo : (P.info? e).map (fun i => (i.zero, i.size, i.bytes)) = some (some z, 1, bytes)) (hz : z.cells.size = 1) (hb0 : 0 < bytes)
    (v : Value) (xs : List Value) (b2 : Nat) (v2 : Value) (ys : List Value) (hs : a.eval s = v) (hx : a.eval x = v2) (h1 : ∀ y ∈ ys, y.oneCell' = true)
    (HO2 : Own W b2 e v2 ys) (hne : ys ≠ []) (HO : Own W B e v xs) (HB : B ≤ W.heap.size) (hl : (xs.length + ys.length) * bytes ≤ 140737488355328)
    (h : ∀ v1 w1, Own w1 B e v1 (xs ++ ys) → W.grownBy w1 v.ownBlock → K (a.put o.dst v1) w1) :
    if Region.wanted o (yielded ops a.tmps) = true then Oper.wp P o a W K Q else E := by
  rcases HO2.cells with ⟨rfl, rfl⟩ | ⟨g, c, rfl, _, _, _, _, hc⟩
  · exact absurd rfl hne
  · refine step_rowG hgd s x t e z bytes ho ht hinfo hz hb0 v xs ys ⟨g, 0, none⟩ c hs hx h1 (fun j u hu => ?_) HO HB hl h
    rw [add_lit0, hc j (List.getElem?_eq_some_iff.1 hu).1, hu]
end
theorem one_at {W : World} {M : Nat} {y : Value} (h : W.cell? ⟨M, 0, none⟩ = some y) : ∀ j u, [y][j]? = some u → W.cell? ((⟨M, 0, none⟩ : Addr).add j) = some u := by
  intro j u hu
  match j, hu with
  | 0, hu => simp at hu; subst hu; rw [add_lit0]; exact h
theorem textB_ne (s : ByteArray) : textB s ≠ [] := by
  intro h
  simp only [textB, List.append_eq_nil_iff] at h
  exact enc_ne _ h.1
theorem Own.lt {w : World} {base : Nat} {e : TypeId} {v : Value} {xs : List Value} (h : Own w base e v xs) (k : Nat) (hk : v.ownBlock = some k) : k < w.heap.size := by
  rcases h.2 with ⟨rfl, _⟩ | ⟨g, cap, cur, rfl, _, h3, _⟩
  · simp [Value.ownBlock] at hk
  · have : g = k := by simpa [Value.ownBlock] using hk
    subst this
    exact (Array.getElem?_eq_some_iff.1 h3).1
theorem cell_grown {W w1 : World} {row : Option Nat} (hg : W.grownBy w1 row) (n i : Nat) (v : Value) (hn : n < W.heap.size) (hne : some n ≠ row) (h : W.cell? ⟨n, i, none⟩ = some v) : w1.cell? ⟨n, i, none⟩ = some v := (World.cell?_of_block (hg.block n hn hne)).trans h
set_option maxRecDepth 100000 in
set_option maxHeartbeats 2000000 in
theorem cBytes_any (v : Value) (xs : List Cl) (w : World) (H : HasC w w.heap.size v xs) :
    Calls Try.prog 32 #[v] w (RetB w (bytesC xs)) := by
  have h1 := Kept.mk H
  obtain ⟨A, c, rfl, _, hA⟩ := H
  have HA := Kept.mk hA
  clear hA
  cases m1 : mayC xs with
  | false =>
    have hv : bytesC xs = [] := by simp [bytesC, m1]
    rw [hv]
    clear hv
    have M1 := Kept.mk m1
    clear m1
    go_enter Try.func32, Try.ntmps32
    go_wp2_with (first
      | (go_at_call 17; refine (cMay_any _ _ _ xs _ h1.out (fun _ _ => trivial)).mono ?_; rintro e w1 ⟨rfl, hb1⟩; obtain ⟨r1, d1, rfl⟩ := xw_of hb1; clear hb1; rewrite [M1.out]))
    go_ret
    exact ⟨_, rfl, Own.nil _ _ _, xw_below _ _ _⟩
  | true =>
    have hv : bytesC xs = (xs.length : Int) :: catC xs := by simp [bytesC, m1]
    rw [hv]
    clear hv
    have M1 := Kept.mk m1
    have hl8 := (mayC_iff.1 m1).1
    have L1 := Kept.mk hl8
    have hu8 : (xs.length : Int) % 256 = (xs.length : Int) := by omega
    have HSZ := Kept.mk (mayC_size m1)
    have HKD := Kept.mk (mayC_kind m1)
    clear m1
    go_enter Try.func32, Try.ntmps32
    go_wp2_with (first
      | (go_at_call 17; refine (cMay_any _ _ _ xs _ h1.out (fun _ _ => trivial)).mono ?_; rintro e w1 ⟨rfl, hb1⟩; obtain ⟨r1, d1, rfl⟩ := xw_of hb1; clear hb1; rewrite [M1.out]))
    have HO : Kept (Own ((xw w r1 d1).alloc (.cells #[.int .u8 (xs.length : Int)] 5)) w.heap.size 5 (.slice (some ⟨(xw w r1 d1).heap.size, 0, none⟩) 1 1) (u8s [(xs.length : Int)])) := ⟨Own.lit _ _ _ [.int .u8 (xs.length : Int)] (by rw [xw_size]; omega) (by simp [maxLen])⟩
    rewrite [alloc_xw, xw_xw] at HO
    rewrite [alloc_xw, xw_xw]
    clear hl8 hu8
    go_loopw [15, 3] (fun v15 v3 wr => BtC xs w v15 v3 wr) (fun v15 v3 wr => xs.length - (intOf v15).toNat)
    case atStart => exact ⟨0, _, _, rfl, rfl, ⟨Nat.zero_le _, HO.out⟩⟩
    case round =>
      obtain ⟨i, r, d, rfl, rfl, HI⟩ := hrel
      clear HO
      by_cases ci : i < xs.length
      · have hne : xs ≠ [] := by rintro rfl; simp at ci
        obtain ⟨b1, o1, rfl, hb1, hc1⟩ := HA.out hne
        obtain ⟨e0, e1⟩ := hc1 i ci
        have ci' : (i : Int) < (xs.length : Int) := by omega
        have f0 : 0 ≤ (i : Int) := by omega
        have hw : wrap64 ((i : Int) + 1) = (i : Int) + 1 := by have := L1.out; simp only [wrap64]; omega
        have HCI := Kept.mk ci
        have HRX := Kept.mk (HSZ.out xs[i] (List.getElem_mem ci))
        have HKX := HKD.out xs[i] (List.getElem_mem ci)
        have hku : xs[i].k % 256 = xs[i].k := by omega
        have HT : Kept (xs.take (i + 1) = xs.take i ++ [xs[i]]) := ⟨List.take_succ_eq_append_getElem ci⟩
        have HCL : Kept ((catC (xs.take i)).length ≤ 300) := ⟨by
          have hj := catC_len (xs.take i) (fun x hx => HSZ.out x (List.mem_of_mem_take hx))
          have := L1.out
          rw [List.length_take] at hj
          omega⟩
        generalize xs[i] = x at e0 e1 HRX HT hku HKX
        obtain ⟨xs', xk⟩ := x
        simp only at e0 e1 HRX hku HKX
        have HBL := Kept.mk (textB_len16 HRX.out)
        have hkw : IntKind.u8.wrap xk = xk := by rcases HKX with rfl | rfl <;> rfl
        clear hc1 hne ci HKX
        go_upto_region 7 with fail
        obtain ⟨N, hN⟩ : ∃ N, N = (xw w r d).heap.size := ⟨_, rfl⟩
        obtain ⟨W, hW⟩ : ∃ W, W = (xw w r d).alloc (.cells #[.string xs', .int .i64 xk] 41) := ⟨_, rfl⟩
        have k0 : W.cell? ⟨N, 0, none⟩ = some (.string xs') := by rw [hW, hN]; simp [go_sem]
        have k1 : W.cell? ⟨N, 1, none⟩ = some (.int .i64 xk) := by rw [hW, hN]; simp [go_sem]
        have hNW : N < W.heap.size := by rw [hW, hN, World.size_alloc]; omega
        have HOu : Kept (Own W w.heap.size 5 u3 (u8s ((xs.length : Int) :: catC (xs.take i)))) := ⟨by rw [hW]; exact HI.out.2.alloc _⟩
        have HLT : Kept (∀ k, u3.ownBlock = some k → k < N) := ⟨by rw [hN]; exact HI.out.2.lt⟩
        have HBW : Kept (Below w.heap.size w W) := ⟨by rw [hW]; exact (xw_below w r d).alloc (by rw [xw_size]; omega) _⟩
        have hSW : w.heap.size ≤ W.heap.size := HBW.out.size
        rewrite [← hW]
        rewrite [← hN]
        clear hW hN
        go_region_law (first
          | (go_simp; go_at_call 56; refine (Text_any xs' (by have := HRX.out; omega) _).mono ?_; rintro e w2 ⟨vb, rfl, hOb, hb2⟩; obtain ⟨r2, d2, rfl⟩ := xw_of hb2; clear hb2; have HOb := Kept.mk hOb; clear hOb)
          | (refine step_ownG (B := w.heap.size) (W := _) rfl (.tmp 19) (.tmp 22) 47 5 (.int .u8 0) 1 rfl Try.underlying47 infoB rfl (by decide) _ (u8s ((xs.length : Int) :: catC (xs.take i))) 0 vb (u8s (textB xs')) rfl rfl (u8s_one _) ?c1 ?c2 ?c3 ?c4 ?c5 ?_; (case c1 => first | exact HOb.out.mono (Nat.zero_le _) | exact (HOb.out.alloc _).mono (Nat.zero_le _)); (case c2 => intro h; exact textB_ne xs' (List.map_eq_nil_iff.1 h)); (case c3 => (repeat (first | exact HOu.out | refine Own.xw ?_ _ _ | refine Own.alloc ?_ _ | refine Own.drew ?_))); (case c4 => first | omega | (simp [xw_size]; done) | (simp [xw_size]; omega)); (case c5 => have := HCL.out; have := HBL.out; simp only [u8s_len, List.length_cons]; omega); intro v4 w4 hO4 hg4; have m0 := cell_grown hg4 N 0 (.string xs') (by first | omega | (simp [xw_size]; done) | (simp [xw_size]; omega)) (fun e => by have := HLT.out _ e.symm; omega) (by simp [go_sem, *]); have m1 := cell_grown hg4 N 1 (.int .i64 xk) (by first | omega | (simp [xw_size]; done) | (simp [xw_size]; omega)) (fun e => by have := HLT.out _ e.symm; omega) (by simp [go_sem, *]); (try (have m2 := cell_grown hg4 W.heap.size 0 (.int .u8 xk) (by first | omega | (simp [xw_size]; done) | (simp [xw_size]; omega)) (fun e => by have := HLT.out _ e.symm; omega) (by simp [go_sem, *]))); (try (have m3 := cell_grown hg4 (xw W r2 d2).heap.size 0 (.int .u8 xk) (by simp [xw_size]) (fun e => by have := HLT.out _ e.symm; rw [xw_size] at this; omega) (by simp [go_sem, *]))); have HB4 : Kept (Below w.heap.size w w4) := ⟨Below.grown (by (repeat (first | exact HBW.out | refine below_xw ?_ (by first | omega | (simp [xw_size]; done) | (simp [xw_size]; omega)) _ _ | refine Below.alloc ?_ (by first | omega | (simp [xw_size]; done) | (simp [xw_size]; omega)) _ | refine Below.drew ?_))) hg4 (by first | omega | (simp [xw_size]; done) | (simp [xw_size]; omega)) HOu.out.base⟩; have hS4 : w.heap.size ≤ w4.heap.size := HB4.out.size; have HO4 := Kept.mk hO4; clear hO4 hg4)
          | (refine step_rowG (B := w.heap.size) (W := _) rfl (.tmp 23) (.tmp 27) 47 5 (.int .u8 0) 1 rfl Try.underlying47 infoB rfl (by decide) v4 (u8s ((xs.length : Int) :: catC (xs.take i)) ++ u8s (textB xs')) [.int .u8 xk] _ 1 rfl rfl (by intro y hy; simp at hy; subst hy; rfl) (one_at ?c1) ?c3 ?c4 ?c5 ?_; (case c1 => simp [go_sem, *]); (case c3 => first | exact HO4.out | exact HO4.out.alloc _); (case c4 => first | omega | (simp [xw_size]; done) | (simp [xw_size]; omega)); (case c5 => have := HCL.out; have := HBL.out; simp only [List.length_append, u8s_len, List.length_cons, List.length_nil]; omega); intro v5 w5 hO5 hg5; have hB5 : Below w.heap.size w w5 := (Below.grown (by (repeat (first | exact HB4.out | refine Below.alloc ?_ (by first | omega | (simp [xw_size]; done) | (simp [xw_size]; omega)) _))) hg5 (by first | omega | (simp [xw_size]; done) | (simp [xw_size]; omega)) HO4.out.base); have HO5 := Kept.mk hO5; clear hO5 hg5; obtain ⟨r5, d5, rfl⟩ := xw_of hB5; clear hB5))
        all_goals go_wp2_with fail
        all_goals
          refine ⟨⟨i + 1, _, _, by first | rfl | (rw [hw]; rfl), rfl, ⟨HCI.out, ?_⟩⟩, by first | exact less_step hw HCI.out | exact less_bare HCI.out⟩
          rw [HT.out, catC_snoc, ← List.cons_append, ← List.cons_append, u8s_app, u8s_app]
          exact HO5.out
      · have ci' : ¬ ((i : Int) < (xs.length : Int)) := by omega
        have hi : i = xs.length := by have := HI.out.1; omega
        have HO2 := HI.out.2
        rw [hi, List.take_length] at HO2
        have HO3 := Kept.mk HO2
        clear ci hi HO2
        go_wp2_with fail
        go_ret
        exact ⟨_, rfl, HO3.out, xw_below _ _ _⟩
end Go.Proofs.Ythcgdlhmmgpbgaa
