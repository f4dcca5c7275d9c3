/- RowSame: the walk. -/
import Derived.Test.YtbncnlendichjaaRowLa
namespace Go.Proofs.Ytbncnlendichjaa
open Go.RowKit
set_option linter.unusedVariables false
set_option linter.unusedSimpArgs false

/-- A block of at least n values' cells. -/
def RowBlk (w : World) (g n : Nat) : Prop := ∃ cur ty, w.heap[g]? = some (.cells cur ty (0, 0)) ∧ n * 3 ≤ cur.size
theorem RowBlk.lt {w : World} {g n : Nat} (h : RowBlk w g n) : g < w.heap.size := by
  obtain ⟨cur, ty, h1, _⟩ := h
  exact (Array.getElem?_eq_some_iff.1 h1).1
theorem RowBlk.cell {w : World} {g n : Nat} (h : RowBlk w g n) (j : Nat) (hj : j < n * 3) : ∃ u, w.cell? ⟨g, j, none⟩ = some u ∧ w.frozen? ⟨g, j, none⟩ = false := by
  obtain ⟨cur, ty, h1, h2⟩ := h
  refine ⟨cur[j]'(by omega), ?_, Lib.frozen_of_heap h1 j⟩
  rw [Lib.cell_of_heap h1]
  exact Array.getElem?_eq_getElem (by omega)
theorem RowBlk.set {w : World} {g n : Nat} (h : RowBlk w g n) (j : Nat) (u : Value) : RowBlk (w.setCell ⟨g, j, none⟩ u) g n := by
  obtain ⟨cur, ty, h1, h2⟩ := h
  exact ⟨_, ty, room_set g j _ _ _ _ h1, by simpa using h2⟩
theorem RowBlk.below {w w' : World} {g n : Nat} (h : RowBlk w g n) (hb : Below w.heap.size w w') : RowBlk w' g n := by
  have hl := h.lt
  obtain ⟨cur, ty, h1, h2⟩ := h
  exact ⟨cur, ty, (hb.block g hl).trans h1, h2⟩
theorem OwnR.blk {w : World} {base : Nat} {v : Value} {xs : List Vr} (h : OwnR w base v xs) (hn : xs ≠ []) : ∃ g cap, v = .slice (some ⟨g, 0, none⟩) xs.length cap ∧ base ≤ g ∧ xs.length ≤ cap ∧ RowBlk w g xs.length := by
  rcases h.2 with ⟨_, h0⟩ | ⟨g, cap, cur, hv, hb, hh, hc, _, hs, _⟩
  · exact absurd (List.eq_nil_of_length_eq_zero h0) hn
  · exact ⟨g, cap, hv, hb, hc, cur, _, hh, by rw [hs]; exact Nat.mul_le_mul_right 3 hc⟩
def RsaI (xs : List Vr) (w : World) (g : Nat) (v6 : Value) (wr : World) : Prop := ∃ i : Nat, v6 = .int .i64 (i : Int) ∧ Kept (i ≤ xs.length ∧ Below w.heap.size w wr ∧ RowBlk wr g xs.length)
set_option maxRecDepth 100000 in
set_option maxHeartbeats 4000000 in
theorem RowSame_any (v u : Value) (xs ys : List Vr) (w : World) (H1 : HasR w w.heap.size v xs) (H2 : HasR w w.heap.size u ys) (hN1 : xs.length * 32 ≤ 140737488355328) :
    Calls Try.prog 5 #[v, u] w (fun e w' => e = .returned (.bool true) ∧ Below w.heap.size w w') := by
  have h1 := Kept.mk H1
  have h0 := Kept.mk H1
  have h2 := Kept.mk H2
  have HN1 := Kept.mk hN1
  clear H1 H2 hN1
  go_enter Try.func5, Try.ntmps5
  go_wp2_with fail
  go_at_call 19
  refine (Same_any v u xs ys w h1.out h2.out (by have := HN1.out; omega)).mono ?_
  rintro e w1 ⟨rfl, hb1⟩
  have A1 := Kept.mk (h1.out.next hb1)
  have A2 := Kept.mk (h2.out.next hb1)
  have AB := Kept.mk hb1
  clear h1 h2 hb1
  go_wp2_with fail
  go_at_call 14
  refine (rSame_any v u xs ys w1 A1.out A2.out (by have := HN1.out; omega)).mono ?_
  rintro e w2 ⟨rfl, hb1⟩
  have B1 := Kept.mk (A1.out.next hb1)
  have BB := Kept.mk (bel_next AB.out hb1)
  clear A1 A2 AB hb1
  have hbb : (sameR xs ys != sameR xs ys) = false := by simp
  go_wp2_with fail
  go_at_call 20
  refine (Copy_any v xs w2 B1.out HN1.out).mono ?_
  rintro e w3 ⟨vc, rfl, hO, hb1⟩
  have C1 := Kept.mk (B1.out.next hb1)
  have CO := Kept.mk hO
  have CW : Kept (w.heap.size ≤ w2.heap.size) := ⟨BB.out.size⟩
  have CB := Kept.mk (bel_next BB.out hb1)
  clear B1 BB hb1 hO hbb
  go_wp2_with fail
  go_at_call 14
  refine (rSame_any vc v xs xs w3 CO.out.has C1.out (by have := HN1.out; omega)).mono ?_
  rintro e w4 ⟨rfl, hb1⟩
  rewrite [sameR_refl]
  have DO := Kept.mk (CO.out.below hb1)
  have DB := Kept.mk (bel_next CB.out hb1)
  clear C1 CO CB hb1
  rcases List.eq_nil_or_concat xs with hx | ⟨_, _, hx⟩
  · subst hx
    obtain ⟨A, c, hv, _, _⟩ := DO.out.has
    subst hv
    go_wp2_with fail
    refine wp_loop_rounds 1 ?_
    rw [rounds_succ]
    go_wp2_with (first | (go_at_call 13; refine (live_any _).mono ?_; rintro e w9 ⟨rfl, hb9⟩; have EB := Kept.mk (bel_next DB.out hb9); clear hb9))
    go_returns
    exact ⟨rfl, EB.out⟩
  · have hne : xs ≠ [] := by rw [hx]; simp
    obtain ⟨g, cap, hv, hg, hcap, hblk⟩ := DO.out.blk hne
    subst hv
    have HBK := Kept.mk hblk
    have HG : Kept (w.heap.size ≤ g) := ⟨Nat.le_trans CW.out hg⟩
    obtain ⟨A, c, rfl, _, hA⟩ := h0.out
    obtain ⟨b1, o1, rfl, hb1, hc1⟩ := hA hne
    have HC1 := Kept.mk hc1
    clear hc1 hA hx hg hblk DO CW
    go_wp2_with fail
    go_loopw [6] (fun v6 wr => RsaI xs w g v6 wr) (fun v6 wr => xs.length - (intOf v6).toNat)
    case atStart => exact ⟨0, rfl, ⟨Nat.zero_le _, DB.out, HBK.out⟩⟩
    case round =>
      obtain ⟨i, rfl, HI⟩ := hrel
      by_cases ci : i < xs.length
      · obtain ⟨e0, e1, e2⟩ := HC1.out i ci
        have hbel := HI.out.2.1
        have k0 := (World.cell?_of_block (hbel.block b1 hb1) (a := ⟨b1, o1 + i * 3, none⟩)).trans e0
        have k1 := (World.cell?_of_block (hbel.block b1 hb1) (a := ⟨b1, o1 + i * 3 + 1, none⟩)).trans e1
        have k2 := (World.cell?_of_block (hbel.block b1 hb1) (a := ⟨b1, o1 + i * 3 + 2, none⟩)).trans e2
        obtain ⟨u0, m0, z0⟩ := HI.out.2.2.cell (i * 3) (by omega)
        obtain ⟨u1, m1, z1⟩ := HI.out.2.2.cell (i * 3 + 1) (by omega)
        obtain ⟨u2, m2, z2⟩ := HI.out.2.2.cell (i * 3 + 2) (by omega)
        have hgl := HI.out.2.2.lt
        have ci' : (i : Int) < (xs.length : Int) := by omega
        have f0 : 0 ≤ (i : Int) := by omega
        have hw : wrap64 ((i : Int) + 1) = (i : Int) + 1 := by have := HN1.out; simp only [wrap64]; omega
        have HCI := Kept.mk ci
        generalize xs[i] = x at k0 k1 k2 e0 e1 e2
        obtain ⟨xk, xn, xs'⟩ := x
        simp only at k0 k1 k2 e0 e1 e2
        have E0 := Kept.mk e0
        have E1 := Kept.mk e1
        have E2 := Kept.mk e2
        clear e0 e1 e2 hbel ci
        go_upto_region 11 with fail
        have HR : Kept (RowBlk (((wr.setCell ⟨g, i * 3, none⟩ (.int .i64 7)).setCell ⟨g, i * 3 + 1, none⟩ (.int .i64 0)).setCell ⟨g, i * 3 + 2, none⟩ (.string ⟨#[]⟩)) g xs.length) := ⟨((HI.out.2.2.set _ _).set _ _).set _ _⟩
        have HB : Kept (Below w.heap.size w (((wr.setCell ⟨g, i * 3, none⟩ (.int .i64 7)).setCell ⟨g, i * 3 + 1, none⟩ (.int .i64 0)).setCell ⟨g, i * 3 + 2, none⟩ (.string ⟨#[]⟩))) := ⟨((HI.out.2.1.setCell (p := ⟨g, i * 3, none⟩) HG.out _).setCell (p := ⟨g, i * 3 + 1, none⟩) HG.out _).setCell (p := ⟨g, i * 3 + 2, none⟩) HG.out _⟩
        have hsz : (((wr.setCell ⟨g, i * 3, none⟩ (.int .i64 7)).setCell ⟨g, i * 3 + 1, none⟩ (.int .i64 0)).setCell ⟨g, i * 3 + 2, none⟩ (.string ⟨#[]⟩)).heap.size = wr.heap.size := by simp
        rewrite [← hsz]
        generalize ((wr.setCell ⟨g, i * 3, none⟩ (.int .i64 7)).setCell ⟨g, i * 3 + 1, none⟩ (.int .i64 0)).setCell ⟨g, i * 3 + 2, none⟩ (.string ⟨#[]⟩) = wy at HR HB hsz ⊢
        have hal : Below wy.heap.size wy (wy.alloc (.cells #[.int .i64 xk, .int .i64 xn, .string xs'] 39)) := (Below.refl _ _).alloc (Nat.le_refl _) _
        have HR2 := Kept.mk (HR.out.below hal)
        have HB2 := Kept.mk (bel_next HB.out hal)
        have HX : Kept ((wy.alloc (.cells #[.int .i64 xk, .int .i64 xn, .string xs'] 39)).heap[wy.heap.size]? = some (.cells #[.int .i64 xk, .int .i64 xn, .string xs'] 39 (0, 0))) := ⟨heap_alloc_new _ _⟩
        have x0 : (wy.alloc (.cells #[.int .i64 xk, .int .i64 xn, .string xs'] 39)).cell? ⟨wy.heap.size, 0, none⟩ = some (.int .i64 xk) := by rw [Lib.cell_of_heap HX.out]; rfl
        have x1 : (wy.alloc (.cells #[.int .i64 xk, .int .i64 xn, .string xs'] 39)).cell? ⟨wy.heap.size, 1, none⟩ = some (.int .i64 xn) := by rw [Lib.cell_of_heap HX.out]; rfl
        have x2 : (wy.alloc (.cells #[.int .i64 xk, .int .i64 xn, .string xs'] 39)).cell? ⟨wy.heap.size, 2, none⟩ = some (.string xs') := by rw [Lib.cell_of_heap HX.out]; rfl
        have q0 := (World.cell?_of_block (HB2.out.block b1 hb1) (a := ⟨b1, o1 + i * 3, none⟩)).trans E0.out
        have q1 := (World.cell?_of_block (HB2.out.block b1 hb1) (a := ⟨b1, o1 + i * 3 + 1, none⟩)).trans E1.out
        have q2 := (World.cell?_of_block (HB2.out.block b1 hb1) (a := ⟨b1, o1 + i * 3 + 2, none⟩)).trans E2.out
        clear hsz hal k0 k1 k2 m0 m1 m2 z0 z1 z2 hgl HX
        generalize wy.alloc (.cells #[.int .i64 xk, .int .i64 xn, .string xs'] 39) = wz at HR2 HB2 x0 x1 x2 q0 q1 q2 ⊢
        go_quiet (fail)
        go_wp2_with fail
        refine ⟨⟨i + 1, by first | rfl | (rw [hw]; rfl), ⟨HCI.out, below_drewN HB2.out _, HR2.out⟩⟩, by first | exact less_step hw HCI.out | exact less_bare HCI.out⟩
      · have ci' : ¬ ((i : Int) < (xs.length : Int)) := by omega
        have IB := Kept.mk HI.out.2.1
        clear ci
        go_wp2_with (first | (go_at_call 13; refine (live_any _).mono ?_; rintro e w9 ⟨rfl, hb9⟩; have EB := Kept.mk (bel_next IB.out hb9); clear hb9))
        go_returns
        exact ⟨rfl, EB.out⟩
end Go.Proofs.Ytbncnlendichjaa
