/- Layer 26 (tally): the parts' put, walked. -/
import Derived.Test.YtnidaahimofppaaGreatQpbb
namespace Go.Proofs.YtnidaahimofppaaGreat
open Go.RowKit Go.Maps
set_option linter.unusedVariables false
set_option linter.unusedSimpArgs false

theorem box1 {w : World} {n : Nat} {v : Value} {t : TypeId} (h : w.heap[n]? = some (.cells #[v] t (0, 0))) : w.cell? ⟨n, 0, none⟩ = some v ∧ w.frozen? ⟨n, 0, none⟩ = false := by simp [World.cell?, World.frozen?, h]
theorem box2 {w : World} {n : Nat} {u v : Value} {t : TypeId} (h : w.heap[n]? = some (.cells #[u, v] t (0, 0))) : w.cell? ⟨n, 0, none⟩ = some u ∧ w.cell? ⟨n, 1, none⟩ = some v ∧ w.frozen? ⟨n, 0, none⟩ = false ∧ w.frozen? ⟨n, 1, none⟩ = false := by simp [World.cell?, World.frozen?, h]
theorem chg_set (w : World) (g i : Nat) (v : Value) : Chg [g] w (w.setCell ⟨g, i, none⟩ v) := (Chg.refl [g] w).set g i (.inl (by simp)) v
theorem fin1 {w : World} {g : Nat} {u : Value} {t : TypeId} (hb : w.heap[g]? = some (.cells #[u] t (0, 0))) (v : Value) (o : Obj) : ((w.setCell ⟨g, 0, none⟩ v).alloc o).heap[g]? = some (.cells #[v] t (0, 0)) ∧ Chg [g] w ((w.setCell ⟨g, 0, none⟩ v).alloc o) := by
  have hlt : g < w.heap.size := (Array.getElem?_eq_some_iff.1 hb).1
  have h1 := heap_setCell_same w g 0 _ _ v hb
  have hal : Below (w.setCell ⟨g, 0, none⟩ v).heap.size (w.setCell ⟨g, 0, none⟩ v) ((w.setCell ⟨g, 0, none⟩ v).alloc o) := (Below.refl _ _).alloc (Nat.le_refl _) _
  exact ⟨(hal.block g (Array.getElem?_eq_some_iff.1 h1).1).trans h1, (chg_set w g 0 v).trans (Chg.of (f := []) hal) (by simp)⟩
theorem fin2 {w : World} {g : Nat} {u v : Value} {t : TypeId} (hb : w.heap[g]? = some (.cells #[u, v] t (0, 0))) (u1 v1 : Value) (o : Obj) (r : Array Obj) (d : Nat) :
    (xw (((w.setCell ⟨g, 0, none⟩ u1).setCell ⟨g, 1, none⟩ v1).alloc o) r d).heap[g]? = some (.cells #[u1, v1] t (0, 0)) ∧ Chg [g] w (xw (((w.setCell ⟨g, 0, none⟩ u1).setCell ⟨g, 1, none⟩ v1).alloc o) r d) := by
  have h1 := heap_setCell_same w g 0 _ _ u1 hb
  have h2 := heap_setCell_same _ g 1 _ _ v1 h1
  obtain ⟨W, hW⟩ : ∃ W, W = (w.setCell ⟨g, 0, none⟩ u1).setCell ⟨g, 1, none⟩ v1 := ⟨_, rfl⟩
  have hc : Chg [g] w W := by
    rw [hW]
    exact (chg_set w g 0 u1).set g 1 (.inl (by simp)) v1
  rw [← hW] at h2 ⊢
  have hal : Below W.heap.size W (xw (W.alloc o) r d) := below_xw ((Below.refl _ _).alloc (Nat.le_refl _) _) (by rw [World.size_alloc]; omega) _ _
  exact ⟨(hal.block g (Array.getElem?_eq_some_iff.1 h2).1).trans h2, hc.trans (Chg.of (f := []) hal) (by simp)⟩
set_option maxRecDepth 100000 in
set_option maxHeartbeats 1000000 in
theorem cput_any (g : Nat) (c n k m : Int) (s : ByteArray) (w : World) (hb : w.heap[g]? = some (.cells #[.int .i64 c] 79 (0, 0))) (h0 : -9223372036854775808 ≤ c + n) (h1 : c + n ≤ 9223372036854775807) :
    Calls Tryz.prog 83 #[.pointer (some ⟨g, 0, none⟩), va k m s, .int .i64 n] w (fun e w' => e = .returned (.tuple #[]) ∧ w'.heap[g]? = some (.cells #[.int .i64 (c + n)] 79 (0, 0)) ∧ Chg [g] w w') := by
  obtain ⟨e0, e1⟩ := box1 hb
  have hlt : g < w.heap.size := (Array.getElem?_eq_some_iff.1 hb).1
  have hw : wrap64 (c + n) = c + n := by simp only [wrap64]; omega
  have HF := Kept.mk (fin1 hb (.int .i64 (c + n)) (.cells #[.int .i64 k, .int .i64 m, .string s] 68))
  clear hb h0 h1
  go_enter Tryz.func83, Tryz.ntmps83
  go_wp2_with fail
  go_returns
  exact ⟨rfl, HF.out.1, HF.out.2⟩
set_option maxRecDepth 100000 in
set_option maxHeartbeats 2000000 in
theorem sput_any (g : Nat) (T n k m : Int) (s : ByteArray) (w : World) (hb : w.heap[g]? = some (.cells #[.int .i64 (hiW T), .int .u64 (loW T)] 85 (0, 0))) (hT : inW T) (hn : okH n) (hm : okH m) (hs : inW (T + m * n)) :
    Calls Tryz.prog 86 #[.pointer (some ⟨g, 0, none⟩), va k m s, .int .i64 n] w (fun e w' => e = .returned (.tuple #[]) ∧ w'.heap[g]? = some (.cells #[.int .i64 (hiW (T + m * n)), .int .u64 (loW (T + m * n))] 85 (0, 0)) ∧ Chg [g] w w') := by
  obtain ⟨e0, e1, f0, f1⟩ := box2 hb
  have hlt : g < w.heap.size := (Array.getElem?_eq_some_iff.1 hb).1
  have HB := Kept.mk hb
  have HM := Kept.mk (And.intro hm hn)
  have HADD : Kept (∀ W, Calls Tryz.prog 88 #[.agg #[.int .i64 (hiW T), .int .u64 (loW T)], .agg #[.int .i64 (hiW (m * n)), .int .u64 (loW (m * n))]] W (fun e w' => e = .returned (.tuple #[.agg #[.int .i64 (hiW (T + m * n)), .int .u64 (loW (T + m * n))], .int .i64 0]) ∧ Below W.heap.size W w')) := ⟨fun W => by
    have hmi := mul_in hm hn
    have h := wAdd_any (hiW T) (loW T) (hiW (m * n)) (loW (m * n)) (okH_hi hT) (okL_lo T) (okH_hi hmi) (okL_lo _) W
    rw [val_hl, val_hl, addH_in hs, addL_in hs, addE_in hs] at h
    exact h⟩
  clear hb hT hn hm hs
  go_enter Tryz.func86, Tryz.ntmps86
  go_wp2_with fail
  go_region_with (first
    | (go_at_call 89; refine (wMul_any m n HM.out.1 HM.out.2 _).mono ?_; rintro e w1 ⟨rfl, hb1⟩; obtain ⟨r1, d1, rfl⟩ := xw_of hb1; clear hb1)
    | (go_at_call 88; refine (HADD.out _).mono ?_; rintro e w2 ⟨rfl, hb2⟩; obtain ⟨r2, d2, rfl⟩ := xw_of hb2; clear hb2))
  all_goals go_wp2_with fail
  all_goals go_returns
  all_goals
    have hf := fin2 HB.out (.int .i64 (hiW (T + m * n))) (.int .u64 (loW (T + m * n))) (.cells #[.int .i64 k, .int .i64 m, .string s] 68) (r1 ++ r2) d2
    exact ⟨rfl, hf.1, hf.2⟩
end Go.Proofs.YtnidaahimofppaaGreat
