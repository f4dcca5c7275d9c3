/- Layer 26 (tally), at values: the things gone through (a range over a function): what the iterator hands to a round. -/
import Derived.Test.YtnidaahimofppaaGreatQpax
import Derived.Test.YtnidaahimofppaaGreatQpaf
import Derived.RangeFuncNested
import Derived.RangeFuncBound
import Derived.RangeFuncCalls
import Derived.RangeFuncLeaves
import Derived.Shelf.Abstract
import Derived.Shelf.RegionOpen
import Derived.WalkKit
import Derived.OwnWalkIn
import Derived.TacticsInMore
import Derived.LoopNIn
import Derived.LoopIn
namespace Go.Proofs.YtnidaahimofppaaGreat
open Go.RowKit Go.Shelf
set_option linter.unusedVariables false
set_option linter.unusedSimpArgs false
attribute [local go_sem] Oper.semAt_some

abbrev encE (cs : List En) (x : Fin cs.length) : Array Value := #[va (cs[x.1]'x.2).v.k (cs[x.1]'x.2).v.n (cs[x.1]'x.2).v.s, Value.int .i64 (cs[x.1]'x.2).n]

set_option maxRecDepth 100000 in
set_option maxHeartbeats 2000000 in
theorem all1_in (F : Fence) (n : Nat) (hf : F.fn 114) (hro : F.round = none) (hn : 1 ≤ n) (l Bs g n₀ b off cap : Nat) (cs : List En) (hb : b < n₀) (J Jx : List (Fin cs.length) → World → Prop)
    (hY : ∀ pre x W, J pre W → pre.length < cs.length → YieldAt F (n - 1) Tryz.prog l (encE cs x) W fun e W' =>
      (e = .returned (.bool true) ∧ J (pre ++ [x]) W' ∧ Below n₀ W W') ∨ (e = .returned (.bool false) ∧ Jx (pre ++ [x]) W'))
    (W : World) (hBs : W.cell? ⟨Bs, 0, none⟩ = some (.pointer (some ⟨g, 0, none⟩))) (hgc : W.cell? ⟨g, 0, none⟩ = some (.slice (some ⟨b, off, none⟩) cs.length cap))
    (hc : ∀ i, (hi : i < cs.length) → W.cell? ⟨b, off + i * 4, none⟩ = some (.int .i64 (cs[i]).v.k) ∧ W.cell? ⟨b, off + i * 4 + 1, none⟩ = some (.int .i64 (cs[i]).v.n) ∧ W.cell? ⟨b, off + i * 4 + 2, none⟩ = some (.string (cs[i]).v.s) ∧ W.cell? ⟨b, off + i * 4 + 3, none⟩ = some (.int .i64 (cs[i]).n)) (hreach : cs.length ≤ 140737488351232) (h0 : J [] W) (hAb : ∀ pre W o, J pre W → J pre (W.alloc o)) (hn0 : n₀ ≤ W.heap.size) :
    CallsIn F n Tryz.prog 114 #[.func (.yield l) #[] #[], .pointer (some ⟨Bs, 0, none⟩)] W fun e W' => (∃ v, e = .returned v) ∧
      ((∃ ys, ys = uptoF cs.length cs.length ∧ J ys W') ∨ (∃ pre, (∃ k, k ≤ cs.length ∧ pre = uptoF cs.length k) ∧ Jx pre W')) := by
  refine callsIn_of_wp Tryz.func114 rfl hf ?_ hro
  simp only [Tryz.ntmps114, List.size_toArray, List.length_cons, List.length_nil, Nat.reduceAdd, Nat.reduceSub, Array.replicate_succ, Array.replicate_zero, List.push_toArray, List.append_toArray, List.nil_append, List.cons_append]
  gi_wp2
  gi_loopw [12] (fun i wr => ∃ k : Nat, k ≤ cs.length ∧ i = .int .i64 k ∧ J (uptoF cs.length k) wr ∧ Below n₀ W wr)
    (fun i _ => cs.length - (intOf i).toNat)
  case atStart => exact ⟨0, Nat.zero_le _, rfl, h0, Below.refl _ _⟩
  case round =>
    obtain ⟨k, hk, rfl, hJs, hnx⟩ := hrel
    by_cases hlt : k < cs.length
    · have e0 : wr.cell? ⟨b, off + k * 4, none⟩ = some (.int .i64 (cs[k]).v.k) := (hnx.cell (p := ⟨b, off + k * 4, none⟩) hb).trans (hc k hlt).1
      have e1 : wr.cell? ⟨b, off + k * 4 + 1, none⟩ = some (.int .i64 (cs[k]).v.n) := (hnx.cell (p := ⟨b, off + k * 4 + 1, none⟩) hb).trans (hc k hlt).2.1
      have e2 : wr.cell? ⟨b, off + k * 4 + 2, none⟩ = some (.string (cs[k]).v.s) := (hnx.cell (p := ⟨b, off + k * 4 + 2, none⟩) hb).trans (hc k hlt).2.2.1
      have e3 : wr.cell? ⟨b, off + k * 4 + 3, none⟩ = some (.int .i64 (cs[k]).n) := (hnx.cell (p := ⟨b, off + k * 4 + 3, none⟩) hb).trans (hc k hlt).2.2.2
      have hJa := hAb _ _ (.cells #[.int .i64 (cs[k]).v.k, .int .i64 (cs[k]).v.n, .string (cs[k]).v.s, .int .i64 (cs[k]).n] 183) hJs
      obtain ⟨fn, tmps, assign, body, hy, hR⟩ := hY _ ⟨k, hlt⟩ _ hJa (by rw [uptoF_length hk]; exact hlt)
      dsimp only [encE] at hy
      have hw : wrap64 ((k : Int) + 1) = (k : Int) + 1 := by simp only [wrap64]; omega
      gi_wp2
      refine hR.mono ?_
      rintro e W3 (⟨rfl, hJ3, hk3⟩ | ⟨rfl, hJx3⟩)
      · gi_wp2
        go_roundw
        case rel => exact ⟨k + 1, by omega, by simp, by rw [uptoF_succ hlt]; exact hJ3, (hnx.alloc (Nat.le_trans hn0 hnx.size) _).trans hk3⟩
        case measure => simp [intOf]; omega
      · gi_wp2
        refine bodyPost_ret (results_none rfl _ _ _) rfl ?_
        exact ⟨⟨_, rfl⟩, .inr ⟨_, ⟨k + 1, by omega, rfl⟩, by rw [uptoF_succ hlt]; exact hJx3⟩⟩
    · obtain rfl : k = cs.length := by omega
      gi_wp2
      go_end0
      exact ⟨⟨_, rfl⟩, .inl ⟨_, rfl, hJs⟩⟩

set_option maxRecDepth 100000 in
set_option maxHeartbeats 1000000 in
/-- .. where there are none (the nil slice, too): no round. -/
theorem all1_nil_in (F : Fence) (n : Nat) (hf : F.fn 114) (hro : F.round = none) (l Bs g : Nat) (A : Option Addr) (c : Nat) {β : Type} (J : List β → World → Prop) (W : World) (hBs : W.cell? ⟨Bs, 0, none⟩ = some (.pointer (some ⟨g, 0, none⟩))) (hgc : W.cell? ⟨g, 0, none⟩ = some (.slice A 0 c)) (h0 : J [] W) :
    CallsIn F n Tryz.prog 114 #[.func (.yield l) #[] #[], .pointer (some ⟨Bs, 0, none⟩)] W fun e W' => (∃ v, e = .returned v) ∧ J [] W' := by
  refine callsIn_of_wp Tryz.func114 rfl hf ?_ hro
  simp only [Tryz.ntmps114, List.size_toArray, List.length_cons, List.length_nil, Nat.reduceAdd, Nat.reduceSub, Array.replicate_succ, Array.replicate_zero, List.push_toArray, List.append_toArray, List.nil_append, List.cons_append]
  gi_wp2
  gi_loopw [12] (fun i wr => i = .int .i64 0 ∧ J [] wr) (fun _ _ => 0)
  case atStart => exact ⟨rfl, h0⟩
  case round =>
    obtain ⟨rfl, hJs⟩ := hrel
    gi_wp2
    go_end0
    exact ⟨⟨_, rfl⟩, hJs⟩

set_option maxHeartbeats 1000000 in
/-- All: the pointer is boxed; the function value captures the box. -/
theorem All_in (F : Fence) (n : Nat) (hf : F.fn 112) (hro : F.round = none) (g : Nat) (w : World) :
    CallsIn F n Tryz.prog 112 #[.pointer (some ⟨g, 0, none⟩)] w fun e w' => e = .returned (.func (.func 114) #[] #[.pointer (some ⟨w.heap.size, 0, none⟩)]) ∧ w' = w.alloc (.cells #[.pointer (some ⟨g, 0, none⟩)] 87) := by
  refine callsIn_of_wp Tryz.func112 rfl hf ?_ hro
  simp only [Tryz.ntmps112, List.size_toArray, List.length_cons, List.length_nil, Nat.reduceAdd, Nat.reduceSub, Array.replicate_succ, Array.replicate_zero, List.push_toArray, List.append_toArray, List.nil_append, List.cons_append]
  gi_wp2
  go_ret
  exact ⟨rfl, rfl⟩

theorem all_stops (F : Fence) (n : Nat) (hf : F.fn 114) (hro : F.round = none) (hn : 1 ≤ n) (Bs g n₀ : Nat) (sv : Value) (cs : List En) (hreach : cs.length ≤ 140737488351232) (w : World) (hBs : Bs < w.heap.size) (hgs : g < w.heap.size) (hn₀ : n₀ ≤ w.heap.size)
    (hc : w.cell? ⟨Bs, 0, none⟩ = some (.pointer (some ⟨g, 0, none⟩))) (hgc : w.cell? ⟨g, 0, none⟩ = some sv) (hI : HasE w n₀ sv cs) :
    SeqStopsK F n Tryz.prog 114 #[.pointer (some ⟨Bs, 0, none⟩)] (encE cs) (Below n₀) (fun ys => ys = uptoF cs.length cs.length)
      (fun pre => ∃ k, k ≤ cs.length ∧ pre = uptoF cs.length k) cs.length w := fun l J Jx W hW hJ hJx hY h0 => by
  have hc' := (hW.cell (p := ⟨Bs, 0, none⟩) hBs).trans hc
  have hg' := (hW.cell (p := ⟨g, 0, none⟩) hgs).trans hgc
  have hI' := hI.below (hW.mono hn₀)
  obtain ⟨A, c, rfl, _, hA⟩ := hI'
  by_cases hne : cs = []
  · subst hne
    exact (all1_nil_in F n hf hro l Bs g A c J W hc' hg' h0).mono fun e W' ⟨he, hj⟩ => ⟨he, .inl ⟨_, rfl, hj⟩⟩
  · obtain ⟨b, off, rfl, hb, hcs⟩ := hA hne
    exact all1_in F n hf hro hn l Bs g n₀ b off c cs hb J Jx hY W hc' hg' hcs hreach h0 (fun pre W1 o h => hJ pre W1 _ none h (World.grownBy_alloc _ _ _) (fun r e => by cases e)) (Nat.le_trans hn₀ hW.size)
end Go.Proofs.YtnidaahimofppaaGreat

/- Layer 26 (tally), at values: the thing of a copy, walked (a range over a function). -/
namespace Go.Proofs.YtnidaahimofppaaGreat
open Go.RowKit Go.Shelf
set_option linter.unusedVariables false
set_option linter.unusedSimpArgs false

/-- Copy number i is in none of these. -/
def passL : List En → Int → Prop
  | [], _ => True
  | e :: r, i => ¬ i < e.n ∧ passL r (i - e.n)
theorem passL_snoc (L : List En) (e : En) (i : Int) : passL (L ++ [e]) i ↔ passL L i ∧ ¬ i - cntE L < e.n := by
  induction L generalizing i with
  | nil => simp [passL, cntE]
  | cons a r ih =>
    rw [List.cons_append, passL, passL, ih, cntE_cons]
    have : i - a.n - cntE r = i - (a.n + cntE r) := by omega
    rw [this, and_assoc]
theorem passL_nonneg (L : List En) (i : Int) (h0 : 0 ≤ i) (h : passL L i) : 0 ≤ i - cntE L := by
  induction L generalizing i with
  | nil => simp [cntE]; exact h0
  | cons a r ih =>
    have h1 := h.1
    have := ih (i - a.n) (by omega) h.2
    rw [cntE_cons]
    omega
theorem nthL_pass (L R : List En) (i : Int) (h : passL L i) : nthL (L ++ R) i = nthL R (i - cntE L) := by
  induction L generalizing i with
  | nil => simp [cntE]
  | cons a r ih =>
    rw [List.cons_append, nthL, if_neg h.1, ih _ h.2, cntE_cons]
    congr 1
    omega
abbrev gone (es : List En) (pre : List (Fin es.length)) : List En := pre.map fun x => es[x.1]'x.2
theorem gone_upto (es : List En) (k : Nat) (hk : k ≤ es.length) : gone es (uptoF es.length k) = es.take k := by
  unfold gone uptoF
  apply List.ext_getElem
  · simp
  · intro i h1 h2
    simp
/-- The three cells of a value lie there. -/
def At3 (W : World) (b : Nat) (x : Vr) : Prop := W.cell? ⟨b, 0, none⟩ = some (.int .i64 x.k) ∧ W.cell? ⟨b, 1, none⟩ = some (.int .i64 x.n) ∧ W.cell? ⟨b, 2, none⟩ = some (.string x.s)
theorem At3.of {W : World} {b : Nat} {x : Vr} {t : TypeId} {fr : Nat × Nat} (h : W.heap[b]? = some (.cells #[.int .i64 x.k, .int .i64 x.n, .string x.s] t fr)) : At3 W b x := by
  refine ⟨?_, ?_, ?_⟩ <;> simp [World.cell?, h]
/-- A value's box. -/
def BoxV (W : World) (b : Nat) (x : Vr) : Prop := W.heap[b]? = some (.cells #[.int .i64 x.k, .int .i64 x.n, .string x.s] 68 (0, 0))
theorem BoxV.at {W : World} {b : Nat} {x : Vr} (h : BoxV W b x) : At3 W b x := At3.of h
theorem BoxV.fro {W : World} {b : Nat} {x : Vr} (h : BoxV W b x) (i : Nat) : W.frozen? ⟨b, i, none⟩ = false := by simp [World.frozen?, show W.heap[b]? = _ from h]
theorem BoxV.new (W : World) (x : Vr) : BoxV (W.alloc (.cells #[.int .i64 x.k, .int .i64 x.n, .string x.s] 68)) W.heap.size x := Array.getElem?_push_size
theorem BoxV.lt {W : World} {b : Nat} {x : Vr} (h : BoxV W b x) : b < W.heap.size := (Array.getElem?_eq_some_iff.1 h).1
theorem BoxV.alloc {W : World} {b : Nat} {x : Vr} (h : BoxV W b x) (o : Obj) : BoxV (W.alloc o) b x := by
  have := h.lt
  show (W.heap.push _)[b]? = _
  rw [Array.getElem?_push, if_neg (by omega)]
  exact h
theorem BoxV.other {W : World} {b k i : Nat} {x : Vr} (h : BoxV W b x) (hne : b ≠ k) (u : Value) : BoxV (W.setCell ⟨k, i, none⟩ u) b x := (heap_setCell_other _ _ _ _ hne).trans h
theorem BoxV.set {W : World} {b : Nat} {x : Vr} (h : BoxV W b x) (y : Vr) : BoxV (((W.setCell ⟨b, 0, none⟩ (.int .i64 y.k)).setCell ⟨b, 1, none⟩ (.int .i64 y.n)).setCell ⟨b, 2, none⟩ (.string y.s)) b y := by
  have h1 := heap_setCell_same W b 0 _ _ (.int .i64 y.k) h
  have h2 := heap_setCell_same _ b 1 _ _ (.int .i64 y.n) h1
  exact heap_setCell_same _ b 2 _ _ (.string y.s) h2
theorem BoxV.own (b : Nat) {β : Type} (f : β → Vr) : Go.Own (fun s W => BoxV W b (f s)) := fun s X Y row hs hg hrow => by
  refine (hg.block b hs.lt (fun e => ?_)).trans hs
  obtain ⟨o, ho, hc⟩ := hrow b e.symm
  rw [show X.heap[b]? = _ from hs] at ho
  cases ho
  cases hc
theorem BoxV.kept {X Y : World} {row : Option Nat} {b : Nat} {x : Vr} (h : BoxV X b x) (hg : X.grownBy Y row) (hrow : ∀ r, row = some r → ∃ o : Obj, X.heap[r]? = some o ∧ o.isCells = false) : BoxV Y b x := by
  refine (hg.block b h.lt (fun e => ?_)).trans h
  obtain ⟨o, ho, hc⟩ := hrow b e.symm
  rw [show X.heap[b]? = _ from h] at ho
  cases ho
  cases hc
section
attribute [local go_sem] Oper.semAt_some
def z0 : Vr := ⟨0, 0, ⟨#[]⟩⟩
def NthI (es : List En) (i : Int) (M : Nat) (pre : List (Fin es.length)) (W : World) : Prop :=
  passL (gone es pre) i ∧ W.heap[M]? = some (.cells #[.int .i64 (i - cntE (gone es pre))] 3 (0, 0)) ∧ BoxV W (M + 1) z0 ∧ W.heap[M + 1 + 1]? = some (.cells #[.bool false] 4 (0, 0)) ∧ BoxV W (M + 1 + 1 + 1) z0
def NthX (es : List En) (i : Int) (M : Nat) (c : Code) (pre : List (Fin es.length)) (W : World) : Prop :=
  c = .ret ∧ ∃ ini last, pre = ini ++ [last] ∧ passL (gone es ini) i ∧ i - cntE (gone es ini) < (es[last.1]'last.2).n ∧ BoxV W (M + 1) (es[last.1]'last.2).v ∧ W.heap[M + 1 + 1]? = some (.cells #[.bool true] 4 (0, 0))
theorem heap_kept {X Y : World} {row : Option Nat} {b : Nat} {arr : Array Value} {t : TypeId} {fr : Nat × Nat} (h : X.heap[b]? = some (.cells arr t fr)) (hg : X.grownBy Y row) (hrow : ∀ r, row = some r → ∃ o : Obj, X.heap[r]? = some o ∧ o.isCells = false) : Y.heap[b]? = some (.cells arr t fr) := by
  refine (hg.block b (Array.getElem?_eq_some_iff.1 h).1 (fun e => ?_)).trans h
  obtain ⟨o, ho, hc⟩ := hrow b e.symm
  rw [h] at ho
  cases ho
  cases hc
theorem cell1 {W : World} {b : Nat} {v : Value} {t : TypeId} {fr : Nat × Nat} (h : W.heap[b]? = some (.cells #[v] t fr)) : W.cell? ⟨b, 0, none⟩ = some v := by simp [World.cell?, h]
theorem NthI.own (es : List En) (i : Int) (M : Nat) : Go.Own (NthI es i M) := fun s X Y row hs hg hr => ⟨hs.1, heap_kept hs.2.1 hg hr, hs.2.2.1.kept hg hr, heap_kept hs.2.2.2.1 hg hr, hs.2.2.2.2.kept hg hr⟩
theorem NthX.own (es : List En) (i : Int) (M : Nat) (c : Code) : Go.Own (NthX es i M c) := fun s X Y row hs hg hr => by
  obtain ⟨hc, ini, last, e1, e2, e3, e4, e5⟩ := hs
  exact ⟨hc, ini, last, e1, e2, e3, e4.kept hg hr, heap_kept e5 hg hr⟩
theorem NthI.alloc {es : List En} {i : Int} {M : Nat} {pre : List (Fin es.length)} {W : World} (h : NthI es i M pre W) (o : Obj) : NthI es i M pre (W.alloc o) := NthI.own es i M pre W _ none h (World.grownBy_alloc W o none) (fun r e => by cases e)
/-- The activation of a round. -/
def actN (g M : Nat) (i : Int) (es : List En) (b : Nat) (x : Fin es.length) : Act := { tmps := #[.pointer (some ⟨g, 0, none⟩), .int .i64 i, undef, .pointer (some ⟨M, 0, none⟩), .pointer (some ⟨M + 1, 0, none⟩), .pointer (some ⟨M + 1 + 1, 0, none⟩), .pointer (some ⟨M + 1 + 1 + 1, 0, none⟩), .pointer (some ⟨b, 0, none⟩), .int .i64 (es[x.1]'x.2).n, .int .i64 i, .bool false, undef, .pointer (some ⟨g, 0, none⟩), .func (.func 114) #[] #[.pointer (some ⟨M + 1 + 1 + 1 + 1, 0, none⟩)], va (es[x.1]'x.2).v.k (es[x.1]'x.2).v.n (es[x.1]'x.2).v.s, .int .i64 (es[x.1]'x.2).n, undef, undef, undef, undef, undef, undef, undef, undef], defers := [] }
def AxN (g M : Nat) (i : Int) (es : List En) (x : Fin es.length) (a' : Act) (W : World) : Prop := ∃ b, a' = actN g M i es b x ∧ BoxV W b (es[x.1]'x.2).v
theorem AxN.own (g M : Nat) (i : Int) (es : List En) (x : Fin es.length) (a' : Act) : Go.Own (fun (_ : Unit) W => AxN g M i es x a' W) := fun s X Y row hs hg hr => by
  obtain ⟨b, e1, e2⟩ := hs
  exact ⟨b, e1, e2.kept hg hr⟩
set_option maxRecDepth 100000 in
set_option maxHeartbeats 4000000 in
theorem Nth_any (w : World) (B g : Nat) (v : Value) (es : List En) (i : Int) (h : MulAt w B g v es) (hmin : -9223372036854775808 ≤ i) (hmax : i ≤ 9223372036854775807) :
    Calls Tryz.prog 106 #[.pointer (some ⟨g, 0, none⟩), .int .i64 i] w fun e w' => e = .returned (.tuple #[va (nthE es i).1.k (nthE es i).1.n (nthE es i).1.s, .bool (nthE es i).2]) ∧ Below w.heap.size w w' := by
  refine (callsIn_wide (n := 3)).1 ?_
  refine callsIn_of_wp_marks Tryz.func106 rfl trivial ?_ rfl
  simp only [Tryz.ntmps106, List.size_toArray, List.length_cons, List.length_nil, Nat.reduceAdd, Nat.reduceSub, Array.replicate_succ, Array.replicate_zero, List.push_toArray, List.append_toArray, List.nil_append, List.cons_append]
  by_cases hneg : i < 0
  · have hv : nthE es i = (z0, false) := if_pos hneg
    rw [hv]
    gi_wp2
    refine ⟨.tuple #[va 0 0 ⟨#[]⟩, .bool false], ?_, rfl, ((((Below.refl _ w).alloc (Nat.le_refl _) _).alloc (by simp) _).alloc (by simp; omega) _).alloc (by simp; omega) _⟩
    simp [results, Tryz.f106, go_sem]
  · have hi0 : 0 ≤ i := by omega
    have hv : nthE es i = nthL es i := if_neg hneg
    rw [hv]
    have hlen := h.good.len
    gi_wp2_with (first | (refine ⟨trivial, ?_⟩; gi_at_call 112; refine (All_in Fence.wide _ trivial rfl _ _).mono ?_; rintro e w' ⟨rfl, rfl⟩))
    obtain ⟨w5, hw5⟩ : ∃ w5, w5 = (((((w.alloc (.cells #[.int .i64 i] 3)).alloc (.cells #[.int .i64 0, .int .i64 0, .string ⟨#[]⟩] 68)).alloc (.cells #[.bool false] 4)).alloc (.cells #[.int .i64 0, .int .i64 0, .string ⟨#[]⟩] 68)).alloc (.cells #[.pointer (some ⟨g, 0, none⟩)] 87)) := ⟨_, rfl⟩
    have hB5 : Below w.heap.size w w5 := by rw [hw5]; exact (((((Below.refl _ w).alloc (Nat.le_refl _) _).alloc (by simp) _).alloc (by simp; omega) _).alloc (by simp; omega) _).alloc (by simp; omega) _
    have hs5 : w5.heap.size = w.heap.size + 5 := by rw [hw5]; simp
    have b0 := Boxed.new w 3 (.int .i64 i)
    have b1 := BoxV.new (w.alloc (.cells #[.int .i64 i] 3)) z0
    have b2 := Boxed.new ((w.alloc (.cells #[.int .i64 i] 3)).alloc (.cells #[.int .i64 0, .int .i64 0, .string ⟨#[]⟩] 68)) 4 (.bool false)
    have b3 := BoxV.new (((w.alloc (.cells #[.int .i64 i] 3)).alloc (.cells #[.int .i64 0, .int .i64 0, .string ⟨#[]⟩] 68)).alloc (.cells #[.bool false] 4)) z0
    have c4 := Boxed.new ((((w.alloc (.cells #[.int .i64 i] 3)).alloc (.cells #[.int .i64 0, .int .i64 0, .string ⟨#[]⟩] 68)).alloc (.cells #[.bool false] 4)).alloc (.cells #[.int .i64 0, .int .i64 0, .string ⟨#[]⟩] 68)) 87 (.pointer (some ⟨g, 0, none⟩))
    rw [World.size_alloc] at b1
    rw [World.size_alloc, World.size_alloc] at b2
    rw [World.size_alloc, World.size_alloc, World.size_alloc] at b3
    rw [World.size_alloc, World.size_alloc, World.size_alloc, World.size_alloc] at c4
    have c0 := (((b0.alloc (.cells #[.int .i64 0, .int .i64 0, .string ⟨#[]⟩] 68)).alloc (.cells #[.bool false] 4)).alloc (.cells #[.int .i64 0, .int .i64 0, .string ⟨#[]⟩] 68)).alloc (.cells #[.pointer (some ⟨g, 0, none⟩)] 87)
    have c1 : BoxV w5 (w.heap.size + 1) z0 := by rw [hw5]; exact ((b1.alloc (.cells #[.bool false] 4)).alloc (.cells #[.int .i64 0, .int .i64 0, .string ⟨#[]⟩] 68)).alloc (.cells #[.pointer (some ⟨g, 0, none⟩)] 87)
    have c2 := (b2.alloc (.cells #[.int .i64 0, .int .i64 0, .string ⟨#[]⟩] 68)).alloc (.cells #[.pointer (some ⟨g, 0, none⟩)] 87)
    have c3 : BoxV w5 (w.heap.size + 1 + 1 + 1) z0 := by rw [hw5]; exact b3.alloc (.cells #[.pointer (some ⟨g, 0, none⟩)] 87)
    rw [← hw5] at c0 c2 c4
    clear b0 b1 b2 b3
    rw [← hw5]
    clear hw5
    have hgl := h.lt
    have hH5 : HasE w5 w.heap.size v es := h.own.has.below hB5
    have hg5 : w5.cell? ⟨g, 0, none⟩ = some v := (hB5.cell (p := ⟨g, 0, none⟩) hgl).trans h.cells.1
    have hp5 : w5.cell? ⟨w.heap.size + 1 + 1 + 1 + 1, 0, none⟩ = some (.pointer (some ⟨g, 0, none⟩)) := c4.cell
    have hpos := h.good.pos
    clear h hv hneg c4
    refine wpIn_rangeFunc_ownH rfl (by omega) (gf := 114) (lb := #[.pointer (some ⟨w.heap.size + 1 + 1 + 1 + 1, 0, none⟩)]) rfl trivial (enters_of Tryz.func114 (by kernel_rfl) rfl)
      (all_stops Fence.wide (3 - 1) trivial rfl (by omega) (w.heap.size + 1 + 1 + 1 + 1) g w.heap.size v es (by omega) w5 (by omega) (by omega) (by omega) hp5 hg5 hH5) belowK_t (belowK_b (by omega)) (Below.refl _ _) (fun _ => rfl)
      (fun pre W => NthI es i w.heap.size pre W ∧ Below w.heap.size w W)
      (fun c pre W => NthX es i w.heap.size c pre W ∧ Below w.heap.size w W)
      (OwnFrom.and (Own.from (NthI.own es i w.heap.size) _) (ownFrom_below (by omega) (by omega)))
      (fun c => OwnFrom.and (Own.from (NthX.own es i w.heap.size c) _) (ownFrom_below (by omega) (by omega)))
      ⟨⟨trivial, by rw [show cntE (gone es []) = 0 from rfl, Int.sub_zero]; exact c0, c1, c2, c3⟩, hB5⟩
      (AxN g w.heap.size i es) (fun x a' => Own.from (AxN.own g w.heap.size i es x a') _) ?assign ?body ?done ?stop
    case assign =>
      intro l pre x W K hI hK
      gi_wp2
      have hlt := hI.1.2.2.2.2.lt
      exact hK _ _ (KeepsFrom.of_grownBy (World.grownBy_alloc W _ none) (fun j e => by cases e)) ((Below.refl _ _).alloc (by omega) _) ⟨NthI.alloc hI.1 _, hI.2.alloc hI.2.size _⟩ ⟨W.heap.size, rfl, BoxV.new W _⟩
    case body =>
      rintro l pre x a' W _ _ ⟨⟨hp, hci, hb1, hbb, hb3⟩, hB⟩ ⟨b, rfl, hbx⟩ _
      have hnn := passL_nonneg _ i hi0 hp
      have hps := hpos (es[x.1]'x.2) (List.getElem_mem x.2)
      have hcn : 0 ≤ cntE (gone es pre) := by
        have := len_le_cnt (gone es pre) (fun e he => by
          obtain ⟨y, _, rfl⟩ := List.mem_map.1 he
          exact hpos _ (List.getElem_mem y.2))
        omega
      have q0 : W.cell? ⟨w.heap.size, 0, none⟩ = some (.int .i64 (i - cntE (gone es pre))) := by simp [World.cell?, hci]
      have q0f : W.frozen? ⟨w.heap.size, 0, none⟩ = false := by simp [World.frozen?, hci]
      obtain ⟨x0, x1, x2⟩ := hbx.at
      obtain ⟨y0, y1, y2⟩ := hb1.at
      have yf := hb1.fro
      have z2 : W.cell? ⟨w.heap.size + 1 + 1, 0, none⟩ = some (.bool false) := by simp [World.cell?, hbb]
      have z2f : W.frozen? ⟨w.heap.size + 1 + 1, 0, none⟩ = false := by simp [World.frozen?, hbb]
      by_cases hx : i - cntE (gone es pre) < (es[x.1]'x.2).n
      · unfold actN
        gi_wp2
        have hbt : ((((W.setCell ⟨w.heap.size + 1, 0, none⟩ (.int .i64 (es[x.1]'x.2).v.k)).setCell ⟨w.heap.size + 1, 1, none⟩ (.int .i64 (es[x.1]'x.2).v.n)).setCell ⟨w.heap.size + 1, 2, none⟩ (.string (es[x.1]'x.2).v.s)).heap[w.heap.size + 1 + 1]? = some (.cells #[.bool false] 4 (0, 0))) := by
          have hne : w.heap.size + 1 + 1 ≠ w.heap.size + 1 := by omega
          rw [heap_setCell_other _ _ _ _ hne, heap_setCell_other _ _ _ _ hne, heap_setCell_other _ _ _ _ hne]
          exact hbb
        refine ⟨((((KeepsOthers.setCell _ _ _).trans (KeepsOthers.setCell _ _ _)).trans (KeepsOthers.setCell _ _ _)).trans (KeepsOthers.setCell _ _ _)).from _, ⟨rfl, pre, x, rfl, hp, hx, (hb1.set _).other (by omega) _, heap_setCell_same _ _ 0 _ _ (.bool true) hbt⟩, ?_⟩
        exact (((hB.setCell (p := ⟨w.heap.size + 1, 0, none⟩) (Nat.le_succ _) _).setCell (p := ⟨w.heap.size + 1, 1, none⟩) (Nat.le_succ _) _).setCell (p := ⟨w.heap.size + 1, 2, none⟩) (Nat.le_succ _) _).setCell (p := ⟨w.heap.size + 1 + 1, 0, none⟩) (by show w.heap.size ≤ w.heap.size + 1 + 1; omega) _
      · have hw : wrap64 (i - cntE (gone es pre) - (es[x.1]'x.2).n) = i - cntE (gone es pre) - (es[x.1]'x.2).n := by simp only [wrap64]; omega
        have hsn : passL (gone es (pre ++ [x])) i ∧ i - cntE (gone es (pre ++ [x])) = i - cntE (gone es pre) - (es[x.1]'x.2).n := by
          unfold gone at *
          rw [List.map_append, List.map_cons, List.map_nil, passL_snoc, cntE_app, cntE_cons, cntE_nil]
          exact ⟨⟨hp, hx⟩, by omega⟩
        unfold actN
        gi_wp2
        refine ⟨(KeepsOthers.setCell _ _ _).from _, (Below.refl _ _).setCell (p := ⟨w.heap.size, 0, none⟩) (Nat.le_refl _) _, ⟨hsn.1, ?_, hb1.other (by omega) _, ?_, hb3.other (by omega) _⟩, hB.setCell (p := ⟨w.heap.size, 0, none⟩) (Nat.le_refl _) _⟩
        · rw [hsn.2]
          exact heap_setCell_same _ _ 0 _ _ _ hci
        · have hne : w.heap.size + 1 + 1 ≠ w.heap.size := by omega
          rw [heap_setCell_other _ _ _ _ hne]
          exact hbb
    case done =>
      rintro D ys W hD rfl ⟨⟨hp, hci, hb1, hbb, hb3⟩, hB⟩ hK
      have hfin : nthL es i = (z0, false) := by
        have h := nthL_pass (gone es (uptoF es.length es.length)) [] i hp
        rw [gone_upto es es.length (Nat.le_refl _), List.take_length, List.append_nil] at h
        rw [h]
        rfl
      have y0 : W.cell? ⟨w.heap.size + 1 + 1 + 1, 0, none⟩ = some (.int .i64 0) := hb3.at.1
      have y1 : W.cell? ⟨w.heap.size + 1 + 1 + 1, 1, none⟩ = some (.int .i64 0) := hb3.at.2.1
      have y2 : W.cell? ⟨w.heap.size + 1 + 1 + 1, 2, none⟩ = some (.string ⟨#[]⟩) := hb3.at.2.2
      have u0 : W.cell? ⟨w.heap.size + 1, 0, none⟩ = some (.int .i64 0) := hb1.at.1
      have u1 : W.cell? ⟨w.heap.size + 1, 1, none⟩ = some (.int .i64 0) := hb1.at.2.1
      have u2 : W.cell? ⟨w.heap.size + 1, 2, none⟩ = some (.string ⟨#[]⟩) := hb1.at.2.2
      have yf := hb1.fro
      have z2 : W.cell? ⟨w.heap.size + 1 + 1, 0, none⟩ = some (.bool false) := by simp [World.cell?, hbb]
      have z2f : W.frozen? ⟨w.heap.size + 1 + 1, 0, none⟩ = false := by simp [World.frozen?, hbb]
      gi_wp2
      have f1 : BoxV (((W.setCell ⟨w.heap.size + 1, 0, none⟩ (.int .i64 0)).setCell ⟨w.heap.size + 1, 1, none⟩ (.int .i64 0)).setCell ⟨w.heap.size + 1, 2, none⟩ (.string ⟨#[]⟩)) (w.heap.size + 1) z0 := hb1.set z0
      have hne : w.heap.size + 1 + 1 ≠ w.heap.size + 1 := by omega
      have f2 : ((((W.setCell ⟨w.heap.size + 1, 0, none⟩ (.int .i64 0)).setCell ⟨w.heap.size + 1, 1, none⟩ (.int .i64 0)).setCell ⟨w.heap.size + 1, 2, none⟩ (.string ⟨#[]⟩)).heap[w.heap.size + 1 + 1]? = some (.cells #[.bool false] 4 (0, 0))) := by
        rw [heap_setCell_other _ _ _ _ hne, heap_setCell_other _ _ _ _ hne, heap_setCell_other _ _ _ _ hne]
        exact hbb
      have f3 := heap_setCell_same _ _ 0 _ _ (.bool false) f2
      have f4 := f1.other (k := w.heap.size + 1 + 1) (i := 0) (by omega) (.bool false)
      have hB4 := (((hB.setCell (p := ⟨w.heap.size + 1, 0, none⟩) (Nat.le_succ _) (.int .i64 0)).setCell (p := ⟨w.heap.size + 1, 1, none⟩) (Nat.le_succ _) (.int .i64 0)).setCell (p := ⟨w.heap.size + 1, 2, none⟩) (Nat.le_succ _) (.string ⟨#[]⟩)).setCell (p := ⟨w.heap.size + 1 + 1, 0, none⟩) (by show w.heap.size ≤ w.heap.size + 1 + 1; omega) (.bool false)
      have hK' := ((((KeepsOthers.setCell W ⟨w.heap.size + 1, 0, none⟩ (.int .i64 0)).trans (KeepsOthers.setCell _ ⟨w.heap.size + 1, 1, none⟩ (.int .i64 0))).trans (KeepsOthers.setCell _ ⟨w.heap.size + 1, 2, none⟩ (.string ⟨#[]⟩))).trans (KeepsOthers.setCell _ ⟨w.heap.size + 1 + 1, 0, none⟩ (.bool false))).same D _ hK rfl
      generalize ((((W.setCell ⟨w.heap.size + 1, 0, none⟩ (.int .i64 0)).setCell ⟨w.heap.size + 1, 1, none⟩ (.int .i64 0)).setCell ⟨w.heap.size + 1, 2, none⟩ (.string ⟨#[]⟩)).setCell ⟨w.heap.size + 1 + 1, 0, none⟩ (.bool false)) = W4 at f3 f4 hB4 hK' ⊢
      refine ⟨by simp, .inl ⟨_, _, rfl, run_takeDeferred hK', ?_⟩⟩
      obtain ⟨r0, r1, r2⟩ := (f4.kept (grownBy_putObj' _ D (.deferred none)) (fun r e => by cases e; exact ⟨_, hK', rfl⟩)).at
      have r3 := cell1 (heap_kept f3 (grownBy_putObj' _ D (.deferred none)) (fun r e => by cases e; exact ⟨_, hK', rfl⟩))
      simp only [z0] at r0 r1 r2
      try rw [hfin]
      refine ⟨.tuple #[va 0 0 ⟨#[]⟩, .bool false], ?_, rfl, hB4.trans (belowK_b (w := w) (Nat.le_refl _) _ D _ _ (by omega) hK' rfl rfl)⟩
      simp [results, Tryz.f106, go_sem, r0, r1, r2, r3]
    case stop =>
      rintro D c pre W hD ⟨k, hk, rfl⟩ ⟨⟨rfl, ini, last, e1, e2, e3, hca, hcb⟩, hB⟩ hK
      obtain ⟨k', rfl⟩ : ∃ k', k = k' + 1 := by
        cases k with
        | zero => simp [uptoF] at e1
        | succ k' => exact ⟨k', rfl⟩
      have hk' : k' < es.length := hk
      rw [uptoF_succ hk'] at e1
      obtain ⟨rfl, e5⟩ := List.append_inj' e1 rfl
      obtain rfl : (⟨k', hk'⟩ : Fin es.length) = last := by simpa using e5
      have hfin : nthL es i = (es[k'].v, true) := by
        rw [gone_upto es k' (by omega)] at e2 e3
        have h := nthL_pass (es.take k') (es.drop k') i e2
        rw [List.take_append_drop, List.drop_eq_getElem_cons hk', nthL, if_pos e3] at h
        exact h
      gi_wp2
      refine ⟨by simp, .inl ⟨_, _, rfl, run_takeDeferred hK, ?_⟩⟩
      obtain ⟨r0, r1, r2⟩ := (hca.kept (grownBy_putObj' _ D (.deferred none)) (fun r e => by cases e; exact ⟨_, hK, rfl⟩)).at
      have r3 := cell1 (heap_kept hcb (grownBy_putObj' _ D (.deferred none)) (fun r e => by cases e; exact ⟨_, hK, rfl⟩))
      try rw [hfin]
      refine ⟨.tuple #[va es[k'].v.k es[k'].v.n es[k'].v.s, .bool true], ?_, rfl, hB.trans (belowK_b (w := w) (Nat.le_refl _) W D _ _ (by omega) hK rfl rfl)⟩
      simp [results, Tryz.f106, go_sem, r0, r1, r2, r3]
end
end Go.Proofs.YtnidaahimofppaaGreat

/- Layer 26 (tally), at values: Least, Most, walked. -/
namespace Go.Proofs.YtnidaahimofppaaGreat
open Go.RowKit
set_option linter.unusedVariables false
set_option linter.unusedSimpArgs false

theorem Least_any (w : World) (B g : Nat) (v : Value) (es : List En) (h : MulAt w B g v es) :
    Calls Tryz.prog 100 #[.pointer (some ⟨g, 0, none⟩)] w fun e w' => e = .returned (.tuple #[va (nthE es 0).1.k (nthE es 0).1.n (nthE es 0).1.s, .bool (nthE es 0).2]) ∧ Below w.heap.size w w' := by
  have HM := Kept.mk h
  clear h
  generalize hx : nthE es 0 = x
  obtain ⟨⟨xk, xn, xs⟩, xb⟩ := x
  have HX := Kept.mk hx
  clear hx
  go_enter Tryz.func100, Tryz.ntmps100
  go_wp2_with (first | (go_at_call 106; refine (Nth_any _ B g v es 0 (HM.out.below ((Below.refl _ _).alloc (Nat.le_refl _) _)) (by omega) (by omega)).mono ?_; rintro e w1 ⟨rfl, hb1⟩; rewrite [HX.out]; obtain ⟨r1, d1, rfl⟩ := xw_of hb1; clear hb1))
  go_returns
  exact ⟨rfl, by (repeat' (first | (with_reducible exact Below.refl _ _) | (with_reducible assumption) | (with_reducible refine below_xw ?_ ?_ _ _) | (with_reducible refine below_drewN ?_ _) | (with_reducible refine Below.drew ?_) | (with_reducible refine Below.setCell ?_ ?_ _) | (with_reducible refine Below.alloc ?_ ?_ _) | (simp [xw_size]; done) | (simp [xw_size]; omega) | (dsimp only; omega)))⟩
theorem Most_any (w : World) (B g : Nat) (v : Value) (es : List En) (h : MulAt w B g v es) :
    Calls Tryz.prog 101 #[.pointer (some ⟨g, 0, none⟩)] w fun e w' => e = .returned (.tuple #[va (nthE es (cntE es - 1)).1.k (nthE es (cntE es - 1)).1.n (nthE es (cntE es - 1)).1.s, .bool (nthE es (cntE es - 1)).2]) ∧ Below w.heap.size w w' := by
  have HM := Kept.mk h
  have h0 := cnt_nonneg es h.good
  have h1 := h.good.cnt
  have hw : wrap64 (cntE es - 1) = cntE es - 1 := by simp only [wrap64]; omega
  have HR : Kept (-9223372036854775808 ≤ cntE es - 1 ∧ cntE es - 1 ≤ 9223372036854775807) := ⟨by omega, by omega⟩
  clear h h0 h1
  generalize hx : nthE es (cntE es - 1) = x
  obtain ⟨⟨xk, xn, xs⟩, xb⟩ := x
  have HX := Kept.mk hx
  clear hx
  go_enter Tryz.func101, Tryz.ntmps101
  go_wp2_with (first
    | (go_at_call 107; refine (Count_any _ B g v es (HM.out.below ((Below.refl _ _).alloc (Nat.le_refl _) _))).mono ?_; rintro e w1 ⟨rfl, rfl⟩)
    | (go_at_call 106; refine (Nth_any _ B g v es (cntE es - 1) (HM.out.below ((Below.refl _ _).alloc (Nat.le_refl _) _)) HR.out.1 HR.out.2).mono ?_; rintro e w2 ⟨rfl, hb1⟩; rewrite [HX.out]; obtain ⟨r1, d1, rfl⟩ := xw_of hb1; clear hb1))
  go_returns
  exact ⟨rfl, by (repeat' (first | (with_reducible exact Below.refl _ _) | (with_reducible assumption) | (with_reducible refine below_xw ?_ ?_ _ _) | (with_reducible refine below_drewN ?_ _) | (with_reducible refine Below.drew ?_) | (with_reducible refine Below.setCell ?_ ?_ _) | (with_reducible refine Below.alloc ?_ ?_ _) | (simp [xw_size]; done) | (simp [xw_size]; omega) | (dsimp only; omega)))⟩
end Go.Proofs.YtnidaahimofppaaGreat
