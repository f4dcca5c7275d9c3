/- Layer 26 (tally): put and tell of extremes and of sides, walked. -/
import Derived.Test.YtnidaahimofppaaGreatQpbd
import Derived.Test.YtnidaahimofppaaGreatQpay
namespace Go.Proofs.YtnidaahimofppaaGreat
open Go.RowKit
set_option linter.unusedVariables false
set_option linter.unusedSimpArgs false

def XPut (g gm : Nat) (ve : Value) (es : List En) (last : Bool) (x : Vr) (n : Int) (w w' : World) : Prop :=
  ∃ ve', MulAt w' 0 gm ve' (putE es x n).2 ∧ SameB w ve ve' ∧ Chg (gm :: ve.ownBlock.toList) w w' ∧ w'.heap[g]? = some (.cells #[.pointer (some ⟨gm, 0, none⟩), .bool last] 91 (0, 0))
def DPut (g gl : Nat) (north : Bool) (z : Int × Int) (x : Vr) (n : Int) (w w' : World) : Prop :=
  LeanAt w' gl (z.1 + (spinZ (x.n % 4).toNat (n, 0)).1, z.2 + (spinZ (x.n % 4).toNat (n, 0)).2) ∧ Chg [gl] w w' ∧ w'.heap[g]? = some (.cells #[.pointer (some ⟨gl, 0, none⟩), .bool north] 96 (0, 0))
theorem OneP.ofExt {wr wd w5 : World} {g gm : Nat} {ve : Value} {es : List En} {last : Bool} {x : Vr} {n : Int} (hd : Below wr.heap.size wr wd) (h : XPut g gm ve es last x n wd w5) :
    OneP wr (g :: gm :: ve.ownBlock.toList) (.iface 86 (.pointer (some ⟨g, 0, none⟩))) (ptPut x n (.ext last es)) w5 := by
  obtain ⟨ve', hM, hS, hC, hb⟩ := h
  refine ⟨g :: gm :: ve'.ownBlock.toList, ⟨g, gm, ve', rfl, rfl, hb, hM⟩, (Chg.of (f := g :: gm :: ve.ownBlock.toList) hd).trans hC (fun k hk => .inl (List.mem_cons_of_mem _ hk)), fun k hk => ?_⟩
  simp only [List.mem_cons, Option.mem_toList, Option.mem_def] at hk ⊢
  rcases hk with rfl | rfl | hk
  · exact .inl (.inl rfl)
  · exact .inl (.inr (.inl rfl))
  · rcases hS with e | e
    · rw [e] at hk
      exact .inl (.inr (.inr hk))
    · exact .inr (Nat.le_trans hd.size (e k hk))
theorem OneP.ofSid {wr wd w5 : World} {g gl : Nat} {north : Bool} {z : Int × Int} {x : Vr} {n : Int} (hd : Below wr.heap.size wr wd) (h : DPut g gl north z x n wd w5) :
    OneP wr [g, gl] (.iface 92 (.pointer (some ⟨g, 0, none⟩))) (ptPut x n (.sid north z)) w5 :=
  ⟨[g, gl], ⟨g, gl, rfl, rfl, h.2.2, h.1⟩, (Chg.of (f := [g, gl]) hd).trans h.2.1 (fun k hk => .inl (List.mem_cons_of_mem _ hk)), fun k hk => .inl hk⟩
set_option maxRecDepth 100000 in
set_option maxHeartbeats 2000000 in
theorem xput_any (g gm : Nat) (ve : Value) (es : List En) (last : Bool) (x : Vr) (n : Int) (w : World) (hb : w.heap[g]? = some (.cells #[.pointer (some ⟨gm, 0, none⟩), .bool last] 91 (0, 0))) (hM : MulAt w 0 gm ve es) (hx : okV x) :
    Calls Tryz.prog 97 #[.pointer (some ⟨g, 0, none⟩), va x.k x.n x.s, .int .i64 n] w (fun e w' => e = .returned (.tuple #[]) ∧ XPut g gm ve es last x n w w') := by
  obtain ⟨w0, hw0⟩ : ∃ w0, w0 = w.alloc (.cells #[.int .i64 x.k, .int .i64 x.n, .string x.s] 68) := ⟨_, rfl⟩
  have hb0 : Below w.heap.size w w0 := by rw [hw0]; exact (Below.refl _ _).alloc (Nat.le_refl _) _
  have ks : w.heap.size < w0.heap.size := by rw [hw0, World.size_alloc]; omega
  have k0 : w0.cell? ⟨w.heap.size, 0, none⟩ = some (.int .i64 x.k) := by rw [hw0]; simp [go_sem]
  have k1 : w0.cell? ⟨w.heap.size, 1, none⟩ = some (.int .i64 x.n) := by rw [hw0]; simp [go_sem]
  have k2 : w0.cell? ⟨w.heap.size, 2, none⟩ = some (.string x.s) := by rw [hw0]; simp [go_sem]
  have hbx : w0.heap[g]? = some (.cells #[.pointer (some ⟨gm, 0, none⟩), .bool last] 91 (0, 0)) := (hb0.block g (Array.getElem?_eq_some_iff.1 hb).1).trans hb
  obtain ⟨e0, e1, _, _⟩ := box2 hbx
  have hgl : g < w0.heap.size := (Array.getElem?_eq_some_iff.1 hbx).1
  have KP : Kept (Calls Tryz.prog 99 #[.pointer (some ⟨gm, 0, none⟩), va x.k x.n x.s, .int .i64 n] w0.drew (fun e w' => (∃ c, e = .returned (.int .i64 c)) ∧ XPut g gm ve es last x n w w')) := ⟨by
    refine (Put_any w0.drew 0 gm ve es x n hx ((hM.below hb0).below (Below.refl _ _).drew)).mono ?_
    rintro e w1 ⟨v1, rfl, hM1, hP1, hS1⟩
    refine ⟨⟨_, rfl⟩, v1, hM1, hS1.imp id (fun h k hk => by have := h k hk; have h2 : w0.heap.size ≤ k := this; omega), ?_, hP1.oth g _ _ _ hbx (by decide) (by decide)⟩
    refine (Chg.of (f := gm :: ve.ownBlock.toList) hb0).trans (f1 := gm :: ve.ownBlock.toList) ⟨hP1.bel.os, hP1.bel.tape, hP1.bel.output, hP1.size, fun k hk hf => hP1.fr k hk (fun e => hf (by simp [e])) (fun e => hf (by simp [← e]))⟩ (fun k hk => .inl hk)⟩
  clear hb hM hx hb0 hbx
  go_enter Tryz.func97, Tryz.ntmps97
  go_upto_region 1 with fail
  rw [← hw0]
  clear hw0
  go_region_with (first | (go_at_call 99; refine KP.out.mono ?_; rintro e w1 ⟨⟨c, rfl⟩, hp1⟩; have HP1 := Kept.mk hp1; clear hp1))
  all_goals go_wp2_with fail
  all_goals go_returns
  all_goals exact ⟨rfl, HP1.out⟩
set_option maxRecDepth 100000 in
set_option maxHeartbeats 2000000 in
theorem dput_any (g gl : Nat) (north : Bool) (z : Int × Int) (x : Vr) (n : Int) (w : World) (hb : w.heap[g]? = some (.cells #[.pointer (some ⟨gl, 0, none⟩), .bool north] 96 (0, 0))) (hL : LeanAt w gl z) (h1 : n ≤ 1048576) (h2 : -1048576 ≤ n)
    (hs : smZ (z.1 + (spinZ (x.n % 4).toNat (n, 0)).1, z.2 + (spinZ (x.n % 4).toNat (n, 0)).2)) :
    Calls Tryz.prog 116 #[.pointer (some ⟨g, 0, none⟩), va x.k x.n x.s, .int .i64 n] w (fun e w' => e = .returned (.tuple #[]) ∧ DPut g gl north z x n w w') := by
  obtain ⟨w0, hw0⟩ : ∃ w0, w0 = w.alloc (.cells #[.int .i64 x.k, .int .i64 x.n, .string x.s] 68) := ⟨_, rfl⟩
  have hb0 : Below w.heap.size w w0 := by rw [hw0]; exact (Below.refl _ _).alloc (Nat.le_refl _) _
  have ks : w.heap.size < w0.heap.size := by rw [hw0, World.size_alloc]; omega
  have k0 : w0.cell? ⟨w.heap.size, 0, none⟩ = some (.int .i64 x.k) := by rw [hw0]; simp [go_sem]
  have k1 : w0.cell? ⟨w.heap.size, 1, none⟩ = some (.int .i64 x.n) := by rw [hw0]; simp [go_sem]
  have k2 : w0.cell? ⟨w.heap.size, 2, none⟩ = some (.string x.s) := by rw [hw0]; simp [go_sem]
  have hbx : w0.heap[g]? = some (.cells #[.pointer (some ⟨gl, 0, none⟩), .bool north] 96 (0, 0)) := (hb0.block g (Array.getElem?_eq_some_iff.1 hb).1).trans hb
  obtain ⟨e0, e1, _, _⟩ := box2 hbx
  have hgl : g < w0.heap.size := (Array.getElem?_eq_some_iff.1 hbx).1
  have hL0 : LeanAt w0.drew gl z := by
    obtain ⟨re, im, h3, h4⟩ := hL
    exact ⟨re, im, (hb0.block gl (Array.getElem?_eq_some_iff.1 h3).1).trans h3, h4⟩
  have hne : g ≠ gl := by
    rintro rfl
    obtain ⟨re, im, h3, h4⟩ := hL
    rw [hb] at h3
    injection h3 with h3
    injection h3 with _ h5 _
    exact absurd h5 (by decide)
  have KP : Kept (Calls Tryz.prog 118 #[.pointer (some ⟨gl, 0, none⟩), .int .i64 x.n, .int .i64 n] w0.drew (fun e w' => (∃ c, e = .returned (.int .i64 c)) ∧ DPut g gl north z x n w w')) := ⟨by
    refine (lPut_any gl z x.n n w0.drew hL0 h1 h2 hs).mono ?_
    rintro e w1 ⟨rfl, hL1, hC1⟩
    exact ⟨⟨_, rfl⟩, hL1, (Chg.of (f := [gl]) (hb0.trans ((Below.refl _ _).drew))).trans hC1 (fun k hk => .inl hk), (hC1.block g hgl (by simp; exact hne)).trans hbx⟩⟩
  clear hb hL h1 h2 hs hb0 hbx hL0 hne
  go_enter Tryz.func116, Tryz.ntmps116
  go_upto_region 1 with fail
  rw [← hw0]
  clear hw0
  go_region_with (first | (go_at_call 118; refine KP.out.mono ?_; rintro e w1 ⟨⟨c, rfl⟩, hp1⟩; have HP1 := Kept.mk hp1; clear hp1))
  all_goals go_wp2_with fail
  all_goals go_returns
  all_goals exact ⟨rfl, HP1.out⟩
end Go.Proofs.YtnidaahimofppaaGreat
