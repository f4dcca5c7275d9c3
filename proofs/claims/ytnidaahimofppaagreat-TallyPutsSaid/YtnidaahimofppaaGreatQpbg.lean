/- Layer 26 (tally): Count and Row, walked (no extremes, no leans). -/
import Derived.Test.YtnidaahimofppaaGreatQpbe
namespace Go.Proofs.YtnidaahimofppaaGreat
open Go.RowKit Go.Maps
set_option linter.unusedVariables false
set_option linter.unusedSimpArgs false

theorem tCount_any (w : World) (B g : Nat) (cs : List Cl) (ags : List Vr) (ps : List Pt) (m : List UInt8 → Int) (nm : Nat) (cnt : Int) (H : TalAt w B g cs ags ps m nm cnt) :
    Calls Tryz.prog 9 #[.pointer (some ⟨g, 0, none⟩)] w (fun e w' => e = .returned (.int .i64 cnt) ∧ w = w') := by
  obtain ⟨_, _, _, _, _, _, HT, _⟩ := H
  have e4 := (box5 HT.box).2.2.2.2
  clear HT
  go_enter Tryz.func9, Tryz.ntmps9
  go_wp2_with fail
  go_returns
  exact ⟨rfl, rfl⟩
set_option maxHeartbeats 1000000 in
theorem ctell_any (g : Nat) (c start : Int) (w : World) (hb : w.heap[g]? = some (.cells #[.int .i64 c] 79 (0, 0))) :
    Calls Tryz.prog 84 #[.pointer (some ⟨g, 0, none⟩), .int .i64 start] w (fun e w' => e = .returned (.tuple #[va 1 c ⟨#[]⟩, .int .i64 0]) ∧ Below w.heap.size w w') := by
  obtain ⟨e0, e1⟩ := box1 hb
  have hlt : g < w.heap.size := (Array.getElem?_eq_some_iff.1 hb).1
  clear hb
  go_enter Tryz.func84, Tryz.ntmps84
  go_wp2_with (first | (go_at_call 85; refine (num_any _ _).mono ?_; rintro e w1 ⟨rfl, hb1⟩; obtain ⟨r1, d1, rfl⟩ := xw_of hb1; clear hb1))
  go_returns
  exact ⟨rfl, by (repeat' (first | (with_reducible exact Below.refl _ _) | (with_reducible assumption) | (with_reducible refine below_xw ?_ ?_ _ _) | (with_reducible refine below_drewN ?_ _) | (with_reducible refine Below.drew ?_) | (with_reducible refine Below.setCell ?_ ?_ _) | (with_reducible refine Below.alloc ?_ ?_ _) | (simp [xw_size]; done) | (simp [xw_size]; omega) | (dsimp only; omega)))⟩
set_option maxHeartbeats 1000000 in
theorem statell_any (start : Int) (w : World) :
    Calls Tryz.prog 124 #[.agg #[], .int .i64 start] w (fun e w' => e = .returned (.tuple #[va 1 start ⟨#[]⟩, .int .i64 0]) ∧ Below w.heap.size w w') := by
  go_enter Tryz.func124, Tryz.ntmps124
  go_wp2_with (first | (go_at_call 85; refine (num_any _ _).mono ?_; rintro e w1 ⟨rfl, hb1⟩; obtain ⟨r1, d1, rfl⟩ := xw_of hb1; clear hb1))
  go_returns
  exact ⟨rfl, by (repeat' (first | (with_reducible exact Below.refl _ _) | (with_reducible assumption) | (with_reducible refine below_xw ?_ ?_ _ _) | (with_reducible refine below_drewN ?_ _) | (with_reducible refine Below.drew ?_) | (with_reducible refine Below.setCell ?_ ?_ _) | (with_reducible refine Below.alloc ?_ ?_ _) | (simp [xw_size]; done) | (simp [xw_size]; omega) | (dsimp only; omega)))⟩
/-- What a part tells. -/
def tellP (start : Int) : Pt → Vr × Int
  | .cnt c => (⟨1, c, ⟨#[]⟩⟩, 0)
  | .tot T => if in64 T then (⟨1, T, ⟨#[]⟩⟩, 0) else (⟨0, 0, ⟨#[]⟩⟩, 10)
  | .ext last es => ((nthE es (if last = true then cntE es - 1 else 0)).1, 0)
  | .sid north z => (⟨1, if north = true then z.2 else z.1, ⟨#[]⟩⟩, 0)
  | .sta => (⟨1, start, ⟨#[]⟩⟩, 0)
set_option maxRecDepth 100000 in
set_option maxHeartbeats 2000000 in
theorem xtell_any (g gm : Nat) (ve : Value) (es : List En) (last : Bool) (start : Int) (w : World) (hb : w.heap[g]? = some (.cells #[.pointer (some ⟨gm, 0, none⟩), .bool last] 91 (0, 0))) (hM : MulAt w 0 gm ve es) :
    Calls Tryz.prog 98 #[.pointer (some ⟨g, 0, none⟩), .int .i64 start] w (fun e w' => e = .returned (.tuple #[va (tellP start (.ext last es)).1.k (tellP start (.ext last es)).1.n (tellP start (.ext last es)).1.s, .int .i64 0]) ∧ Below w.heap.size w w') := by
  obtain ⟨e0, e1, _, _⟩ := box2 hb
  have hlt : g < w.heap.size := (Array.getElem?_eq_some_iff.1 hb).1
  have HM := Kept.mk hM
  have hl : ∃ xk xn xs xb, nthE es 0 = (⟨xk, xn, xs⟩, xb) := ⟨_, _, _, _, rfl⟩
  obtain ⟨xk, xn, xs, xb, hl⟩ := hl
  have hh : ∃ yk yn ys yb, nthE es (cntE es - 1) = (⟨yk, yn, ys⟩, yb) := ⟨_, _, _, _, rfl⟩
  obtain ⟨yk, yn, ys, yb, hh⟩ := hh
  have HX := Kept.mk hl
  have HY := Kept.mk hh
  clear hb hM
  cases last with
  | false =>
    have hv : (tellP start (.ext false es)).1 = ⟨xk, xn, xs⟩ := by show (nthE es 0).1 = _; rw [hl]
    rw [hv]
    clear hv hl hh
    go_enter Tryz.func98, Tryz.ntmps98
    go_wp2_with (first | (go_at_call 100; refine (Least_any _ 0 gm ve es (HM.out.below ?c1)).mono ?_; (case c1 => (repeat' (first | (with_reducible exact Below.refl _ _) | (with_reducible assumption) | (with_reducible refine below_xw ?_ ?_ _ _) | (with_reducible refine below_drewN ?_ _) | (with_reducible refine Below.drew ?_) | (with_reducible refine Below.setCell ?_ ?_ _) | (with_reducible refine Below.alloc ?_ ?_ _) | (simp [xw_size]; done) | (simp [xw_size]; omega) | (dsimp only; omega)))); rintro e w1 ⟨rfl, hb1⟩; rewrite [HX.out]; obtain ⟨r1, d1, rfl⟩ := xw_of hb1; clear hb1))
    go_returns
    exact ⟨rfl, by (repeat' (first | (with_reducible exact Below.refl _ _) | (with_reducible assumption) | (with_reducible refine below_xw ?_ ?_ _ _) | (with_reducible refine below_drewN ?_ _) | (with_reducible refine Below.drew ?_) | (with_reducible refine Below.setCell ?_ ?_ _) | (with_reducible refine Below.alloc ?_ ?_ _) | (simp [xw_size]; done) | (simp [xw_size]; omega) | (dsimp only; omega)))⟩
  | true =>
    have hv : (tellP start (.ext true es)).1 = ⟨yk, yn, ys⟩ := by show (nthE es (cntE es - 1)).1 = _; rw [hh]
    rw [hv]
    clear hv hl hh
    go_enter Tryz.func98, Tryz.ntmps98
    go_wp2_with (first
      | (go_at_call 100; refine (Least_any _ 0 gm ve es (HM.out.below ?c1)).mono ?_; (case c1 => (repeat' (first | (with_reducible exact Below.refl _ _) | (with_reducible assumption) | (with_reducible refine below_xw ?_ ?_ _ _) | (with_reducible refine below_drewN ?_ _) | (with_reducible refine Below.drew ?_) | (with_reducible refine Below.setCell ?_ ?_ _) | (with_reducible refine Below.alloc ?_ ?_ _) | (simp [xw_size]; done) | (simp [xw_size]; omega) | (dsimp only; omega)))); rintro e w1 ⟨rfl, hb1⟩; rewrite [HX.out]; obtain ⟨r1, d1, rfl⟩ := xw_of hb1; clear hb1)
      | (go_at_call 101; refine (Most_any _ 0 gm ve es (HM.out.below ?c2)).mono ?_; (case c2 => (repeat' (first | (with_reducible exact Below.refl _ _) | (with_reducible assumption) | (with_reducible refine below_xw ?_ ?_ _ _) | (with_reducible refine below_drewN ?_ _) | (with_reducible refine Below.drew ?_) | (with_reducible refine Below.setCell ?_ ?_ _) | (with_reducible refine Below.alloc ?_ ?_ _) | (simp [xw_size]; done) | (simp [xw_size]; omega) | (dsimp only; omega)))); rintro e w2 ⟨rfl, hb2⟩; rewrite [HY.out]; obtain ⟨r2, d2, rfl⟩ := xw_of hb2; clear hb2))
    go_returns
    exact ⟨rfl, by (repeat' (first | (with_reducible exact Below.refl _ _) | (with_reducible assumption) | (with_reducible refine below_xw ?_ ?_ _ _) | (with_reducible refine below_drewN ?_ _) | (with_reducible refine Below.drew ?_) | (with_reducible refine Below.setCell ?_ ?_ _) | (with_reducible refine Below.alloc ?_ ?_ _) | (simp [xw_size]; done) | (simp [xw_size]; omega) | (dsimp only; omega)))⟩
set_option maxRecDepth 100000 in
set_option maxHeartbeats 2000000 in
theorem dtell_any (g gl : Nat) (north : Bool) (z : Int × Int) (start : Int) (w : World) (hb : w.heap[g]? = some (.cells #[.pointer (some ⟨gl, 0, none⟩), .bool north] 96 (0, 0))) (hL : LeanAt w gl z) (hs : smZ z) :
    Calls Tryz.prog 117 #[.pointer (some ⟨g, 0, none⟩), .int .i64 start] w (fun e w' => e = .returned (.tuple #[va 1 (if north = true then z.2 else z.1) ⟨#[]⟩, .int .i64 0]) ∧ Below w.heap.size w w') := by
  obtain ⟨e0, e1, _, _⟩ := box2 hb
  have hlt : g < w.heap.size := (Array.getElem?_eq_some_iff.1 hb).1
  have HL : Kept (∀ w', Below w.heap.size w w' → LeanAt w' gl z) := ⟨fun w' hw => by
    obtain ⟨re, im, h3, h4⟩ := hL
    exact ⟨re, im, (hw.block gl (Array.getElem?_eq_some_iff.1 h3).1).trans h3, h4⟩⟩
  have HS := Kept.mk hs
  clear hb hL hs
  cases north with
  | false =>
    rw [if_neg (by decide)]
    go_enter Tryz.func117, Tryz.ntmps117
    go_wp2_with (first
      | (go_at_call 119; refine (lParts_any gl z _ (HL.out _ ?c1) HS.out).mono ?_; (case c1 => (repeat' (first | (with_reducible exact Below.refl _ _) | (with_reducible assumption) | (with_reducible refine below_xw ?_ ?_ _ _) | (with_reducible refine below_drewN ?_ _) | (with_reducible refine Below.drew ?_) | (with_reducible refine Below.setCell ?_ ?_ _) | (with_reducible refine Below.alloc ?_ ?_ _) | (simp [xw_size]; done) | (simp [xw_size]; omega) | (dsimp only; omega)))); rintro e w1 ⟨rfl, rfl⟩)
      | (go_at_call 85; refine (num_any _ _).mono ?_; rintro e w2 ⟨rfl, hb2⟩; obtain ⟨r2, d2, rfl⟩ := xw_of hb2; clear hb2))
    go_returns
    exact ⟨rfl, by (repeat' (first | (with_reducible exact Below.refl _ _) | (with_reducible assumption) | (with_reducible refine below_xw ?_ ?_ _ _) | (with_reducible refine below_drewN ?_ _) | (with_reducible refine Below.drew ?_) | (with_reducible refine Below.setCell ?_ ?_ _) | (with_reducible refine Below.alloc ?_ ?_ _) | (simp [xw_size]; done) | (simp [xw_size]; omega) | (dsimp only; omega)))⟩
  | true =>
    rw [if_pos rfl]
    go_enter Tryz.func117, Tryz.ntmps117
    go_wp2_with (first
      | (go_at_call 119; refine (lParts_any gl z _ (HL.out _ ?c1) HS.out).mono ?_; (case c1 => (repeat' (first | (with_reducible exact Below.refl _ _) | (with_reducible assumption) | (with_reducible refine below_xw ?_ ?_ _ _) | (with_reducible refine below_drewN ?_ _) | (with_reducible refine Below.drew ?_) | (with_reducible refine Below.setCell ?_ ?_ _) | (with_reducible refine Below.alloc ?_ ?_ _) | (simp [xw_size]; done) | (simp [xw_size]; omega) | (dsimp only; omega)))); rintro e w1 ⟨rfl, rfl⟩)
      | (go_at_call 85; refine (num_any _ _).mono ?_; rintro e w2 ⟨rfl, hb2⟩; obtain ⟨r2, d2, rfl⟩ := xw_of hb2; clear hb2))
    go_returns
    exact ⟨rfl, by (repeat' (first | (with_reducible exact Below.refl _ _) | (with_reducible assumption) | (with_reducible refine below_xw ?_ ?_ _ _) | (with_reducible refine below_drewN ?_ _) | (with_reducible refine Below.drew ?_) | (with_reducible refine Below.setCell ?_ ?_ _) | (with_reducible refine Below.alloc ?_ ?_ _) | (simp [xw_size]; done) | (simp [xw_size]; omega) | (dsimp only; omega)))⟩
set_option maxRecDepth 100000 in
set_option maxHeartbeats 2000000 in
theorem stell_any (g : Nat) (T start : Int) (w : World) (hT : inW T) (hb : w.heap[g]? = some (.cells #[.int .i64 (hiW T), .int .u64 (loW T)] 85 (0, 0))) :
    Calls Tryz.prog 87 #[.pointer (some ⟨g, 0, none⟩), .int .i64 start] w (fun e w' => e = .returned (.tuple #[va (tellP start (.tot T)).1.k (tellP start (.tot T)).1.n (tellP start (.tot T)).1.s, .int .i64 (tellP start (.tot T)).2]) ∧ Below w.heap.size w w') := by
  obtain ⟨e0, e1, _, _⟩ := box2 hb
  have hlt : g < w.heap.size := (Array.getElem?_eq_some_iff.1 hb).1
  have HI : Kept (∀ W, Calls Tryz.prog 90 #[.agg #[.int .i64 (hiW T), .int .u64 (loW T)]] W (fun e w' => e = .returned (.tuple #[.int .i64 (intN T), .int .i64 (intE T)]) ∧ Below W.heap.size W w')) := ⟨fun W => by
    have h := wInt_any (hiW T) (loW T) (okH_hi hT) (okL_lo T) W
    rw [val_hl] at h
    exact h⟩
  clear hb hT
  by_cases c : in64 T
  · have hv : tellP start (.tot T) = (⟨1, T, ⟨#[]⟩⟩, 0) := if_pos c
    have h1 : intN T = T := if_pos c
    have h2 : intE T = 0 := if_pos c
    rw [hv]
    rw [h1, h2] at HI
    clear hv h1 h2 c
    go_enter Tryz.func87, Tryz.ntmps87
    go_wp2_with (first
      | (go_at_call 90; refine (HI.out _).mono ?_; rintro e w1 ⟨rfl, hb1⟩; obtain ⟨r1, d1, rfl⟩ := xw_of hb1; clear hb1)
      | (go_at_call 85; refine (num_any _ _).mono ?_; rintro e w2 ⟨rfl, hb2⟩; obtain ⟨r2, d2, rfl⟩ := xw_of hb2; clear hb2))
    go_returns
    exact ⟨rfl, by (repeat' (first | (with_reducible exact Below.refl _ _) | (with_reducible assumption) | (with_reducible refine below_xw ?_ ?_ _ _) | (with_reducible refine below_drewN ?_ _) | (with_reducible refine Below.drew ?_) | (with_reducible refine Below.setCell ?_ ?_ _) | (with_reducible refine Below.alloc ?_ ?_ _) | (simp [xw_size]; done) | (simp [xw_size]; omega) | (dsimp only; omega)))⟩
  · have hv : tellP start (.tot T) = (⟨0, 0, ⟨#[]⟩⟩, 10) := if_neg c
    have h1 : intN T = 0 := if_neg c
    have h2 : intE T = 10 := if_neg c
    rw [hv]
    rw [h1, h2] at HI
    clear hv h1 h2 c
    go_enter Tryz.func87, Tryz.ntmps87
    go_wp2_with (first
      | (go_at_call 90; refine (HI.out _).mono ?_; rintro e w1 ⟨rfl, hb1⟩; obtain ⟨r1, d1, rfl⟩ := xw_of hb1; clear hb1))
    go_returns
    exact ⟨rfl, by (repeat' (first | (with_reducible exact Below.refl _ _) | (with_reducible assumption) | (with_reducible refine below_xw ?_ ?_ _ _) | (with_reducible refine below_drewN ?_ _) | (with_reducible refine Below.drew ?_) | (with_reducible refine Below.setCell ?_ ?_ _) | (with_reducible refine Below.alloc ?_ ?_ _) | (simp [xw_size]; done) | (simp [xw_size]; omega) | (dsimp only; omega)))⟩
/-- The row. -/
def rowL (start : Int) : List Vr → List Pt → List Vr × Int
  | out, [] => (out, 0)
  | out, p :: q => if (tellP start p).2 ≠ 0 then ([], (tellP start p).2) else rowL start (out ++ [(tellP start p).1]) q
def rowT (cnt start : Int) (ps : List Pt) : List Vr × Int := if cnt = 0 then ([], 8) else rowL start [] ps
theorem rowL_at {start : Int} {ps : List Pt} {out : List Vr} {i : Nat} (hi : i < ps.length) : rowL start out (ps.drop i) = if (tellP start ps[i]).2 ≠ 0 then ([], (tellP start ps[i]).2) else rowL start (out ++ [(tellP start ps[i]).1]) (ps.drop (i + 1)) := by
  rw [List.drop_eq_getElem_cons hi]
  rfl
theorem rowL_end {start : Int} {ps : List Pt} {out : List Vr} {i : Nat} (hi : ps.length ≤ i) : rowL start out (ps.drop i) = (out, 0) := by
  rw [List.drop_eq_nil_of_le hi]
  rfl
section
variable {ops : Array Oper} {rest : List Oper} {o : Oper} {a : Act} {Q : Exit → Act → World → Prop}
theorem app_val3 {w0 W : World} (hgd : o.guard = none) (s x : Operand) (t : TypeId)
    (ho : o.op = .call { callee := .builtin .append, args := #[s, x], argTypes := #[t, t] })
    (ht : Tryz.prog.underlying t = some (.slice 68))
    (v : Value) (xs : List Vr) (k n : Int) (y : ByteArray) (N : Nat) (hN : N = W.heap.size) (hs : a.eval s = v) (hx : a.eval x = .slice (some ⟨N, 0, none⟩) 1 1)
    (HO : OwnR W w0.heap.size v xs) (HB : Below w0.heap.size w0 W) (hl : xs.length ≤ 100000)
    (h : ∀ v1 r d, OwnR (xw w0 r d) w0.heap.size v1 (xs ++ [⟨k, n, y⟩]) → wpList Tryz.prog ops Q rest (a.put o.dst v1) (xw w0 r d)) :
    wpList Tryz.prog ops Q (o :: rest) a (W.alloc (.cells #[.int .i64 k, .int .i64 n, .string y] 68)) := by
  subst hN
  exact app_val hgd s x t ho ht v xs k n y hs hx HO HB hl (fun v1 r d h1 _ => h v1 r d h1)
end
theorem nilTA (W : World) (g5 : Nat) : (nilAhead 306 77 (.pointer (some ⟨g5, 0, none⟩)) "rescind/tally.tell").run Tryz.prog W = .ok (some false) W := by kernel_rfl
theorem nilTB (W : World) (g5 : Nat) : (nilAhead 306 80 (.pointer (some ⟨g5, 0, none⟩)) "rescind/tally.tell").run Tryz.prog W = .ok (some false) W := by kernel_rfl
theorem nilTD (W : World) (g5 : Nat) : (nilAhead 306 86 (.pointer (some ⟨g5, 0, none⟩)) "rescind/tally.tell").run Tryz.prog W = .ok (some false) W := by kernel_rfl
theorem nilTE (W : World) (g5 : Nat) : (nilAhead 306 92 (.pointer (some ⟨g5, 0, none⟩)) "rescind/tally.tell").run Tryz.prog W = .ok (some false) W := by kernel_rfl
theorem nilTC (W : World) : (nilAhead 306 98 (.agg #[]) "rescind/tally.tell").run Tryz.prog W = .ok (some false) W := by kernel_rfl
def RwL (ps : List Pt) (start : Int) (w : World) (v31 v6 : Value) (wr : World) : Prop := ∃ (i : Nat) (out : List Vr) (r : Array Obj) (d : Nat), v31 = .int .i64 (i : Int) ∧ wr = xw w r d ∧ Kept (OwnR wr w.heap.size v6 out) ∧ Kept (i ≤ ps.length ∧ out.length = i ∧ rowL start [] ps = rowL start out (ps.drop i))
end Go.Proofs.YtnidaahimofppaaGreat
