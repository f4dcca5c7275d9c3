/- Layer 6 (row): how rows stand, walked. -/
import Derived.Test.YtbncnlendichjaaRowW
import Derived.Test.YtbncnlendichjaaBinR
import Derived.Lib.Small
namespace Go.Proofs.Ytbncnlendichjaa
open Go.RowKit
set_option linter.unusedVariables false
set_option linter.unusedSimpArgs false

theorem HasR.but {w w' : World} {B g : Nat} {v : Value} {xs : List Vr} (h : HasR w B v xs) (hb : But g w w') (hB : B ≤ g) (hg : g ≤ w.heap.size) : HasR w' B v xs := by
  obtain ⟨A, c, hv, hlc, hc⟩ := h
  refine ⟨A, c, hv, hlc, fun hn => ?_⟩
  obtain ⟨b, off, hA, hlt, hcell⟩ := hc hn
  refine ⟨b, off, hA, hlt, fun i hi => ?_⟩
  obtain ⟨e0, e1, e2⟩ := hcell i hi
  have hk := hb.block b (by omega) (by omega)
  exact ⟨(World.cell?_of_block hk).trans e0, (World.cell?_of_block hk).trans e1, (World.cell?_of_block hk).trans e2⟩
/-- The first place at which two rows differ, or -1. -/
def idx2 : List Vr → List Vr → Nat → Int
  | x :: a, y :: b, i => if x.eqb y = true then idx2 a b (i + 1) else (i : Int)
  | _, _, _ => -1
theorem idx2_step {xs ys : List Vr} {i : Nat} (hi : i < xs.length) (hj : i < ys.length) : idx2 (xs.drop i) (ys.drop i) i = if xs[i].eqb ys[i] = true then idx2 (xs.drop (i + 1)) (ys.drop (i + 1)) (i + 1) else (i : Int) := by
  rw [List.drop_eq_getElem_cons hi, List.drop_eq_getElem_cons hj]
  rfl
theorem idx2_end {xs ys : List Vr} {i : Nat} (hi : xs.length ≤ i) : idx2 (xs.drop i) (ys.drop i) i = -1 := by
  rw [List.drop_of_length_le hi]
  rfl
/-- The block of the counter. -/
def Ctr (w : World) (g : Nat) (z : Int) : Prop := w.heap[g]? = some (.cells #[.int .i64 z] 3 (0, 0))
theorem Ctr.lt {w : World} {g : Nat} {z : Int} (h : Ctr w g z) : g < w.heap.size := (Array.getElem?_eq_some_iff.1 h).1
theorem Ctr.cell {w : World} {g : Nat} {z : Int} (h : Ctr w g z) : w.cell? ⟨g, 0, none⟩ = some (.int .i64 z) ∧ w.frozen? ⟨g, 0, none⟩ = false := ⟨by rw [Lib.cell_of_heap h]; rfl, Lib.frozen_of_heap h 0⟩
theorem Ctr.set {w : World} {g : Nat} {z : Int} (h : Ctr w g z) (z' : Int) : Ctr (w.setCell ⟨g, 0, none⟩ (.int .i64 z')) g z' := by
  unfold Ctr at h ⊢
  rw [room_set g 0 _ _ _ _ h]
  rfl
theorem Ctr.below {w w' : World} {g : Nat} {z : Int} (h : Ctr w g z) (hb : Below w.heap.size w w') : Ctr w' g z := (hb.block g h.lt).trans h
set_option maxRecDepth 100000 in
set_option maxHeartbeats 2000000 in
theorem cmpf_any (xk xn : Int) (xs' : ByteArray) (gi bb : Nat) (B : Option Addr) (c : Nat) (ys : List Vr) (j : Nat) (hj : j < ys.length) (h8 : j ≤ 8) (w : World) (HC : Ctr w gi ((j : Int) - 1)) (HB : bb < gi) (hcb : w.cell? ⟨bb, 0, none⟩ = some (.slice B ys.length c)) (H : HasR w gi (.slice B ys.length c) ys) :
    Calls Try.prog 32 #[va xk xn xs', .pointer (some ⟨gi, 0, none⟩), .pointer (some ⟨bb, 0, none⟩)] w (fun e w' => e = .returned (.bool (!(Vr.eqb ⟨xk, xn, xs'⟩ ys[j]))) ∧ Ctr w' gi (j : Int) ∧ But gi w w') := by
  obtain ⟨_, _, hA⟩ := H.opn
  have hne : ys ≠ [] := by rintro rfl; simp at hj
  obtain ⟨b1, o1, rfl, hb1, hc1⟩ := hA hne
  obtain ⟨e0, e1, e2⟩ := hc1 j hj
  obtain ⟨c0, f0⟩ := HC.cell
  have hlt := HC.lt
  have HCK := Kept.mk HC
  have hj' : (j : Int) < (ys.length : Int) := by omega
  have hj0 : 0 ≤ (j : Int) := by omega
  generalize ys[j] = y at e0 e1 e2
  obtain ⟨yk, yn, ys'⟩ := y
  simp only at e0 e1 e2
  clear hc1 hA hne HC H
  have HDR : ∀ (wz : World) n, Ctr wz gi (j : Int) → But gi w wz → Ctr (wz.drewN n) gi (j : Int) ∧ But gi w (wz.drewN n) := fun wz n h1 h2 => ⟨h1, h2.drewN n⟩
  rcases eqb_cases ⟨xk, xn, xs'⟩ ⟨yk, yn, ys'⟩ with h | ⟨he, hd⟩
  · injection h with q1 q2 q3
    subst q1 q2 q3
    have HE := Kept.mk (Vr.eqb_refl ⟨xk, xn, xs'⟩)
    go_enter Try.func32, Try.ntmps32
    go_wp2_with fail
    have HC2 : Kept (Ctr ((w.setCell ⟨gi, 0, none⟩ (.int .i64 (j : Int))).alloc (.cells #[.int .i64 xk, .int .i64 xn, .string xs'] 39)) gi (j : Int)) := ⟨(HCK.out.set (j : Int)).below ((Below.refl _ _).alloc (Nat.le_refl _) _)⟩
    have HB2 : Kept (But gi w ((w.setCell ⟨gi, 0, none⟩ (.int .i64 (j : Int))).alloc (.cells #[.int .i64 xk, .int .i64 xn, .string xs'] 39))) := ⟨((But.refl gi w).set 0 _).trans (But.of ((Below.refl _ _).alloc (Nat.le_refl _) _) gi)⟩
    have k1 := World.cell?_of_block (w := w) (a := ⟨b1, o1 + j * 3, none⟩) (HB2.out.block b1 (by omega) (by omega))
    have k2 := World.cell?_of_block (w := w) (a := ⟨b1, o1 + j * 3 + 1, none⟩) (HB2.out.block b1 (by omega) (by omega))
    have k3 := World.cell?_of_block (w := w) (a := ⟨b1, o1 + j * 3 + 2, none⟩) (HB2.out.block b1 (by omega) (by omega))
    have k4 := World.cell?_of_block (w := w) (a := ⟨bb, 0, none⟩) (HB2.out.block bb (by omega) (by omega))
    rw [e0] at k1
    rw [e1] at k2
    rw [e2] at k3
    rw [hcb] at k4
    have hsz : (w.setCell ⟨gi, 0, none⟩ (.int .i64 (j : Int))).heap.size = w.heap.size := by simp
    have HX : Kept (((w.setCell ⟨gi, 0, none⟩ (.int .i64 (j : Int))).alloc (.cells #[.int .i64 xk, .int .i64 xn, .string xs'] 39)).heap[w.heap.size]? = some (.cells #[.int .i64 xk, .int .i64 xn, .string xs'] 39 (0, 0))) := ⟨by rw [← hsz]; exact heap_alloc_new _ _⟩
    have x0 : ((w.setCell ⟨gi, 0, none⟩ (.int .i64 (j : Int))).alloc (.cells #[.int .i64 xk, .int .i64 xn, .string xs'] 39)).cell? ⟨w.heap.size, 0, none⟩ = some (.int .i64 xk) := by rw [Lib.cell_of_heap HX.out]; rfl
    have x1 : ((w.setCell ⟨gi, 0, none⟩ (.int .i64 (j : Int))).alloc (.cells #[.int .i64 xk, .int .i64 xn, .string xs'] 39)).cell? ⟨w.heap.size, 1, none⟩ = some (.int .i64 xn) := by rw [Lib.cell_of_heap HX.out]; rfl
    have x2 : ((w.setCell ⟨gi, 0, none⟩ (.int .i64 (j : Int))).alloc (.cells #[.int .i64 xk, .int .i64 xn, .string xs'] 39)).cell? ⟨w.heap.size, 2, none⟩ = some (.string xs') := by rw [Lib.cell_of_heap HX.out]; rfl
    have x3 := HC2.out.cell.1
    clear hsz HX c0 f0 e0 e1 e2 hcb
    generalize (w.setCell ⟨gi, 0, none⟩ (.int .i64 (j : Int))).alloc (.cells #[.int .i64 xk, .int .i64 xn, .string xs'] 39) = wz at HC2 HB2 k1 k2 k3 k4 x0 x1 x2 x3 ⊢
    go_quiet (fail)
    go_wp2_with fail
    go_returns
    exact ⟨by rw [HE.out]; rfl, HDR _ _ HC2.out HB2.out⟩
  · have HE := Kept.mk he
    simp only at hd
    clear he
    rcases hd with h | ⟨h1, h⟩ | ⟨h1, h2, h⟩
    · have h' : (xk == yk) = false := by rw [beq_eq_false_iff_ne]; exact h
      clear h
      go_enter Try.func32, Try.ntmps32
      go_wp2_with fail
      have HC2 : Kept (Ctr ((w.setCell ⟨gi, 0, none⟩ (.int .i64 (j : Int))).alloc (.cells #[.int .i64 xk, .int .i64 xn, .string xs'] 39)) gi (j : Int)) := ⟨(HCK.out.set (j : Int)).below ((Below.refl _ _).alloc (Nat.le_refl _) _)⟩
      have HB2 : Kept (But gi w ((w.setCell ⟨gi, 0, none⟩ (.int .i64 (j : Int))).alloc (.cells #[.int .i64 xk, .int .i64 xn, .string xs'] 39))) := ⟨((But.refl gi w).set 0 _).trans (But.of ((Below.refl _ _).alloc (Nat.le_refl _) _) gi)⟩
      have k1 := World.cell?_of_block (w := w) (a := ⟨b1, o1 + j * 3, none⟩) (HB2.out.block b1 (by omega) (by omega))
      have k2 := World.cell?_of_block (w := w) (a := ⟨b1, o1 + j * 3 + 1, none⟩) (HB2.out.block b1 (by omega) (by omega))
      have k3 := World.cell?_of_block (w := w) (a := ⟨b1, o1 + j * 3 + 2, none⟩) (HB2.out.block b1 (by omega) (by omega))
      have k4 := World.cell?_of_block (w := w) (a := ⟨bb, 0, none⟩) (HB2.out.block bb (by omega) (by omega))
      rw [e0] at k1
      rw [e1] at k2
      rw [e2] at k3
      rw [hcb] at k4
      have hsz : (w.setCell ⟨gi, 0, none⟩ (.int .i64 (j : Int))).heap.size = w.heap.size := by simp
      have HX : Kept (((w.setCell ⟨gi, 0, none⟩ (.int .i64 (j : Int))).alloc (.cells #[.int .i64 xk, .int .i64 xn, .string xs'] 39)).heap[w.heap.size]? = some (.cells #[.int .i64 xk, .int .i64 xn, .string xs'] 39 (0, 0))) := ⟨by rw [← hsz]; exact heap_alloc_new _ _⟩
      have x0 : ((w.setCell ⟨gi, 0, none⟩ (.int .i64 (j : Int))).alloc (.cells #[.int .i64 xk, .int .i64 xn, .string xs'] 39)).cell? ⟨w.heap.size, 0, none⟩ = some (.int .i64 xk) := by rw [Lib.cell_of_heap HX.out]; rfl
      have x1 : ((w.setCell ⟨gi, 0, none⟩ (.int .i64 (j : Int))).alloc (.cells #[.int .i64 xk, .int .i64 xn, .string xs'] 39)).cell? ⟨w.heap.size, 1, none⟩ = some (.int .i64 xn) := by rw [Lib.cell_of_heap HX.out]; rfl
      have x2 : ((w.setCell ⟨gi, 0, none⟩ (.int .i64 (j : Int))).alloc (.cells #[.int .i64 xk, .int .i64 xn, .string xs'] 39)).cell? ⟨w.heap.size, 2, none⟩ = some (.string xs') := by rw [Lib.cell_of_heap HX.out]; rfl
      have x3 := HC2.out.cell.1
      clear hsz HX c0 f0 e0 e1 e2 hcb
      generalize (w.setCell ⟨gi, 0, none⟩ (.int .i64 (j : Int))).alloc (.cells #[.int .i64 xk, .int .i64 xn, .string xs'] 39) = wz at HC2 HB2 k1 k2 k3 k4 x0 x1 x2 x3 ⊢
      go_quiet (fail)
      go_wp2_with fail
      go_returns
      exact ⟨by rw [HE.out]; rfl, HDR _ _ HC2.out HB2.out⟩
    · have h' : (xn == yn) = false := by rw [beq_eq_false_iff_ne]; exact h
      subst h1
      clear h
      go_enter Try.func32, Try.ntmps32
      go_wp2_with fail
      have HC2 : Kept (Ctr ((w.setCell ⟨gi, 0, none⟩ (.int .i64 (j : Int))).alloc (.cells #[.int .i64 xk, .int .i64 xn, .string xs'] 39)) gi (j : Int)) := ⟨(HCK.out.set (j : Int)).below ((Below.refl _ _).alloc (Nat.le_refl _) _)⟩
      have HB2 : Kept (But gi w ((w.setCell ⟨gi, 0, none⟩ (.int .i64 (j : Int))).alloc (.cells #[.int .i64 xk, .int .i64 xn, .string xs'] 39))) := ⟨((But.refl gi w).set 0 _).trans (But.of ((Below.refl _ _).alloc (Nat.le_refl _) _) gi)⟩
      have k1 := World.cell?_of_block (w := w) (a := ⟨b1, o1 + j * 3, none⟩) (HB2.out.block b1 (by omega) (by omega))
      have k2 := World.cell?_of_block (w := w) (a := ⟨b1, o1 + j * 3 + 1, none⟩) (HB2.out.block b1 (by omega) (by omega))
      have k3 := World.cell?_of_block (w := w) (a := ⟨b1, o1 + j * 3 + 2, none⟩) (HB2.out.block b1 (by omega) (by omega))
      have k4 := World.cell?_of_block (w := w) (a := ⟨bb, 0, none⟩) (HB2.out.block bb (by omega) (by omega))
      rw [e0] at k1
      rw [e1] at k2
      rw [e2] at k3
      rw [hcb] at k4
      have hsz : (w.setCell ⟨gi, 0, none⟩ (.int .i64 (j : Int))).heap.size = w.heap.size := by simp
      have HX : Kept (((w.setCell ⟨gi, 0, none⟩ (.int .i64 (j : Int))).alloc (.cells #[.int .i64 xk, .int .i64 xn, .string xs'] 39)).heap[w.heap.size]? = some (.cells #[.int .i64 xk, .int .i64 xn, .string xs'] 39 (0, 0))) := ⟨by rw [← hsz]; exact heap_alloc_new _ _⟩
      have x0 : ((w.setCell ⟨gi, 0, none⟩ (.int .i64 (j : Int))).alloc (.cells #[.int .i64 xk, .int .i64 xn, .string xs'] 39)).cell? ⟨w.heap.size, 0, none⟩ = some (.int .i64 xk) := by rw [Lib.cell_of_heap HX.out]; rfl
      have x1 : ((w.setCell ⟨gi, 0, none⟩ (.int .i64 (j : Int))).alloc (.cells #[.int .i64 xk, .int .i64 xn, .string xs'] 39)).cell? ⟨w.heap.size, 1, none⟩ = some (.int .i64 xn) := by rw [Lib.cell_of_heap HX.out]; rfl
      have x2 : ((w.setCell ⟨gi, 0, none⟩ (.int .i64 (j : Int))).alloc (.cells #[.int .i64 xk, .int .i64 xn, .string xs'] 39)).cell? ⟨w.heap.size, 2, none⟩ = some (.string xs') := by rw [Lib.cell_of_heap HX.out]; rfl
      have x3 := HC2.out.cell.1
      clear hsz HX c0 f0 e0 e1 e2 hcb
      generalize (w.setCell ⟨gi, 0, none⟩ (.int .i64 (j : Int))).alloc (.cells #[.int .i64 xk, .int .i64 xn, .string xs'] 39) = wz at HC2 HB2 k1 k2 k3 k4 x0 x1 x2 x3 ⊢
      go_quiet (fail)
      go_wp2_with fail
      go_returns
      exact ⟨by rw [HE.out]; rfl, HDR _ _ HC2.out HB2.out⟩
    · have h' : (xs'.toList == ys'.toList) = false := str_ne h
      subst h1 h2
      clear h
      go_enter Try.func32, Try.ntmps32
      go_wp2_with fail
      have HC2 : Kept (Ctr ((w.setCell ⟨gi, 0, none⟩ (.int .i64 (j : Int))).alloc (.cells #[.int .i64 xk, .int .i64 xn, .string xs'] 39)) gi (j : Int)) := ⟨(HCK.out.set (j : Int)).below ((Below.refl _ _).alloc (Nat.le_refl _) _)⟩
      have HB2 : Kept (But gi w ((w.setCell ⟨gi, 0, none⟩ (.int .i64 (j : Int))).alloc (.cells #[.int .i64 xk, .int .i64 xn, .string xs'] 39))) := ⟨((But.refl gi w).set 0 _).trans (But.of ((Below.refl _ _).alloc (Nat.le_refl _) _) gi)⟩
      have k1 := World.cell?_of_block (w := w) (a := ⟨b1, o1 + j * 3, none⟩) (HB2.out.block b1 (by omega) (by omega))
      have k2 := World.cell?_of_block (w := w) (a := ⟨b1, o1 + j * 3 + 1, none⟩) (HB2.out.block b1 (by omega) (by omega))
      have k3 := World.cell?_of_block (w := w) (a := ⟨b1, o1 + j * 3 + 2, none⟩) (HB2.out.block b1 (by omega) (by omega))
      have k4 := World.cell?_of_block (w := w) (a := ⟨bb, 0, none⟩) (HB2.out.block bb (by omega) (by omega))
      rw [e0] at k1
      rw [e1] at k2
      rw [e2] at k3
      rw [hcb] at k4
      have hsz : (w.setCell ⟨gi, 0, none⟩ (.int .i64 (j : Int))).heap.size = w.heap.size := by simp
      have HX : Kept (((w.setCell ⟨gi, 0, none⟩ (.int .i64 (j : Int))).alloc (.cells #[.int .i64 xk, .int .i64 xn, .string xs'] 39)).heap[w.heap.size]? = some (.cells #[.int .i64 xk, .int .i64 xn, .string xs'] 39 (0, 0))) := ⟨by rw [← hsz]; exact heap_alloc_new _ _⟩
      have x0 : ((w.setCell ⟨gi, 0, none⟩ (.int .i64 (j : Int))).alloc (.cells #[.int .i64 xk, .int .i64 xn, .string xs'] 39)).cell? ⟨w.heap.size, 0, none⟩ = some (.int .i64 xk) := by rw [Lib.cell_of_heap HX.out]; rfl
      have x1 : ((w.setCell ⟨gi, 0, none⟩ (.int .i64 (j : Int))).alloc (.cells #[.int .i64 xk, .int .i64 xn, .string xs'] 39)).cell? ⟨w.heap.size, 1, none⟩ = some (.int .i64 xn) := by rw [Lib.cell_of_heap HX.out]; rfl
      have x2 : ((w.setCell ⟨gi, 0, none⟩ (.int .i64 (j : Int))).alloc (.cells #[.int .i64 xk, .int .i64 xn, .string xs'] 39)).cell? ⟨w.heap.size, 2, none⟩ = some (.string xs') := by rw [Lib.cell_of_heap HX.out]; rfl
      have x3 := HC2.out.cell.1
      clear hsz HX c0 f0 e0 e1 e2 hcb
      generalize (w.setCell ⟨gi, 0, none⟩ (.int .i64 (j : Int))).alloc (.cells #[.int .i64 xk, .int .i64 xn, .string xs'] 39) = wz at HC2 HB2 k1 k2 k3 k4 x0 x1 x2 x3 ⊢
      go_quiet (fail)
      go_wp2_with fail
      go_returns
      exact ⟨by rw [HE.out]; rfl, HDR _ _ HC2.out HB2.out⟩
def IcI (xs ys : List Vr) (w : World) (gi : Nat) (v8 : Value) (wr : World) : Prop := ∃ i : Nat, v8 = .int .i64 (i : Int) ∧ Kept (But gi w wr) ∧ Kept (Ctr wr gi ((i : Int) - 1)) ∧ Kept (i ≤ xs.length ∧ idx2 xs ys 0 = idx2 (xs.drop i) (ys.drop i) i)
set_option maxRecDepth 100000 in
set_option maxHeartbeats 2000000 in
theorem idxcmp_any (A : Option Addr) (c : Nat) (xs : List Vr) (B : Option Addr) (d : Nat) (ys : List Vr) (gi bb : Nat) (w : World) (h8 : xs.length ≤ 8) (hl : xs.length ≤ ys.length)
    (H1 : HasR w gi (.slice A xs.length c) xs) (H2 : HasR w gi (.slice B ys.length d) ys) (HC : Ctr w gi (-1)) (HB : bb < gi) (hcb : w.cell? ⟨bb, 0, none⟩ = some (.slice B ys.length d)) :
    Calls Try.prog 30 #[.slice A xs.length c, .func (Fn.func 32) #[] #[.pointer (some ⟨gi, 0, none⟩), .pointer (some ⟨bb, 0, none⟩)]] w (fun e w' => e = .returned (.int .i64 (idx2 xs ys 0)) ∧ But gi w w') := by
  have h1 := Kept.mk H1
  have h2 := Kept.mk H2
  have HCK := Kept.mk HC
  have HBK := Kept.mk HB
  have HCB := Kept.mk hcb
  have H8 := Kept.mk h8
  have HL := Kept.mk hl
  clear H1 H2 HC hcb h8 hl HB
  go_enter Try.func30, Try.ntmps30
  go_wp2_with fail
  go_loopw [8] (fun v8 wr => IcI xs ys w gi v8 wr) (fun v8 wr => xs.length - (intOf v8).toNat)
  case atStart => exact ⟨0, rfl, ⟨But.refl _ _⟩, HCK, ⟨Nat.zero_le _, rfl⟩⟩
  case round =>
    obtain ⟨i, rfl, HBU, HCT, HI⟩ := hrel
    by_cases ci : i < xs.length
    · have hglt := HCK.out.lt
      have hx := (h1.out.but HBU.out (Nat.le_refl _) (by omega)).opn
      have hne : xs ≠ [] := by rintro rfl; simp at ci
      obtain ⟨b1, o1, rfl, hb1, hc1⟩ := hx.2.2 hne
      obtain ⟨e0, e1, e2⟩ := hc1 i ci
      have hst := HI.out.2.trans (idx2_step (ys := ys) ci (by have := HL.out; omega))
      have HST := Kept.mk hst
      have HY := Kept.mk (h2.out.but HBU.out (Nat.le_refl _) (by omega))
      have hcb2 := World.cell?_of_block (w := w) (a := ⟨bb, 0, none⟩) (HBU.out.block bb (by have := HBK.out; omega) (by have := HBK.out; omega))
      have HCB2 := Kept.mk (hcb2.trans HCB.out)
      have ci' : (i : Int) < (xs.length : Int) := by omega
      have f0 : 0 ≤ (i : Int) := by omega
      have hw : wrap64 ((i : Int) + 1) = (i : Int) + 1 := by have := H8.out; simp only [wrap64]; omega
      have HCI := Kept.mk ci
      have hjy : i < ys.length := by have := HL.out; omega
      have HJY := Kept.mk hjy
      have HF := Kept.mk (fun xk xn xs' => cmpf_any xk xn xs' gi bb B d ys i hjy (by have := H8.out; omega) wr HCT.out HBK.out HCB2.out HY.out)
      generalize ys[i] = y at HST HF
      generalize xs[i] = x at e0 e1 e2 HST
      obtain ⟨xk, xn, xs'⟩ := x
      simp only at e0 e1 e2
      clear hc1 hne hst hx hcb2 hglt hjy
      cases he : Vr.eqb ⟨xk, xn, xs'⟩ y with
      | true =>
        have HE := Kept.mk he
        clear he
        go_wp2_with (first
          | (go_at_call 32; refine (HF.out xk xn xs').mono ?_; rintro e w1 ⟨rfl, hc1, hb1⟩; rewrite [HE.out]; have HB3 := Kept.mk hb1; have HC3 := Kept.mk hc1; clear hc1 hb1))
        refine ⟨⟨i + 1, by first | rfl | (rw [hw]; rfl), ⟨HBU.out.trans HB3.out⟩, ⟨?_⟩, ⟨HCI.out, ?_⟩⟩, by first | exact less_step hw HCI.out | exact less_bare HCI.out⟩
        · rw [show (((i + 1 : Nat) : Int) - 1) = (i : Int) by omega]
          exact HC3.out
        · rw [HST.out, if_pos HE.out]
      | false =>
        have HE := Kept.mk he
        have hv := HST.out
        rw [if_neg (by rw [he]; simp)] at hv
        have HV := Kept.mk hv
        clear he hv
        go_wp2_with (first
          | (go_at_call 32; refine (HF.out xk xn xs').mono ?_; rintro e w1 ⟨rfl, hc1, hb1⟩; rewrite [HE.out]; have HB3 := Kept.mk hb1; clear hc1 hb1))
        go_returns
        exact ⟨by rw [HV.out]; rfl, HBU.out.trans HB3.out⟩
    · have hst := HI.out.2.trans (idx2_end (by omega))
      have ci' : ¬ ((i : Int) < (xs.length : Int)) := by omega
      have HST := Kept.mk hst
      clear ci hst
      go_wp2_with fail
      go_returns
      exact ⟨by rw [HST.out]; rfl, HBU.out⟩
theorem mkf_any (bb : Nat) (w : World) :
    Calls Try.prog 31 #[.pointer (some ⟨bb, 0, none⟩)] w (fun e w' => e = .returned (.func (Fn.func 32) #[] #[.pointer (some ⟨w.heap.size, 0, none⟩), .pointer (some ⟨bb, 0, none⟩)]) ∧ w' = w.alloc (.cells #[.int .i64 (-1)] 3)) := by
  go_enter Try.func31, Try.ntmps31
  go_wp2_with fail
  go_returns
  exact ⟨rfl, rfl⟩
end Go.Proofs.Ytbncnlendichjaa
