/- Layer 24 (multi): the things gone through (a range over a function): what the iterator hands to a round. -/
import Derived.Test.YtjllcgmdnkakgaaMulU
import Derived.RangeFuncNested
import Derived.RangeFuncBound
import Derived.RangeFuncCalls
import Derived.RangeFuncLeaves
import Derived.Shelf.Abstract
import Derived.Shelf.RegionOpen
import Derived.WalkKit
import Derived.OwnWalkIn
import Derived.TacticsInMore
import Derived.LoopNIn
import Derived.LoopIn
namespace Go.Proofs.Ytjllcgmdnkakgaa
open Go.RowKit Go.Shelf
set_option linter.unusedVariables false
set_option linter.unusedSimpArgs false
attribute [local go_sem] Oper.semAt_some

/-- What has come when k rounds are over: the entries' numbers. -/
def uptoF (n k : Nat) : List (Fin n) := (List.finRange n).take k
theorem uptoF_succ {n k : Nat} (h : k < n) : uptoF n (k + 1) = uptoF n k ++ [⟨k, h⟩] := by
  have hl : k < (List.finRange n).length := by simpa using h
  rw [uptoF, List.take_succ_eq_append_getElem hl]
  simp [uptoF]
theorem uptoF_length {n k : Nat} (h : k ≤ n) : (uptoF n k).length = k := by simp [uptoF]; omega
theorem uptoF_mem {n k : Nat} {x : Fin n} (h : x.1 < k) : x ∈ uptoF n k := by
  rw [uptoF, List.mem_take_iff_getElem]
  refine ⟨x.1, by simp; omega, by simp⟩
abbrev encN (cs : List En) (x : Fin cs.length) : Array Value := #[Value.int .i64 (cs[x.1]'x.2).k, Value.int .i64 (cs[x.1]'x.2).n]

set_option maxRecDepth 100000 in
set_option maxHeartbeats 2000000 in
theorem all1_in (F : Fence) (n : Nat) (hf : F.fn 23) (hro : F.round = none) (hn : 1 ≤ n) (l Bs g n₀ b off cap : Nat) (cs : List En) (hb : b < n₀) (J Jx : List (Fin cs.length) → World → Prop)
    (hY : ∀ pre x W, J pre W → pre.length < cs.length → YieldAt F (n - 1) Try.prog l (encN cs x) W fun e W' =>
      (e = .returned (.bool true) ∧ J (pre ++ [x]) W' ∧ Below n₀ W W') ∨ (e = .returned (.bool false) ∧ Jx (pre ++ [x]) W'))
    (W : World) (hBs : W.cell? ⟨Bs, 0, none⟩ = some (.pointer (some ⟨g, 0, none⟩))) (hgc : W.cell? ⟨g, 0, none⟩ = some (.slice (some ⟨b, off, none⟩) cs.length cap))
    (hc : ∀ i, (hi : i < cs.length) → W.cell? ⟨b, off + i * 2, none⟩ = some (.int .i64 (cs[i]).k) ∧ W.cell? ⟨b, off + i * 2 + 1, none⟩ = some (.int .i64 (cs[i]).n)) (hreach : cs.length ≤ 140737488351232) (h0 : J [] W) (hAb : ∀ pre W o, J pre W → J pre (W.alloc o)) (hn0 : n₀ ≤ W.heap.size) :
    CallsIn F n Try.prog 23 #[.func (.yield l) #[] #[], .pointer (some ⟨Bs, 0, none⟩)] W fun e W' => (∃ v, e = .returned v) ∧
      ((∃ ys, ys = uptoF cs.length cs.length ∧ J ys W') ∨ (∃ pre, (∃ k, k ≤ cs.length ∧ pre = uptoF cs.length k) ∧ Jx pre W')) := by
  refine callsIn_of_wp Try.func23 rfl hf ?_ hro
  simp only [Try.ntmps23, List.size_toArray, List.length_cons, List.length_nil, Nat.reduceAdd, Nat.reduceSub, Array.replicate_succ, Array.replicate_zero, List.push_toArray, List.append_toArray, List.nil_append, List.cons_append]
  gi_wp2
  gi_loopw [12] (fun i wr => ∃ k : Nat, k ≤ cs.length ∧ i = .int .i64 k ∧ J (uptoF cs.length k) wr ∧ Below n₀ W wr)
    (fun i _ => cs.length - (intOf i).toNat)
  case atStart => exact ⟨0, Nat.zero_le _, rfl, h0, Below.refl _ _⟩
  case round =>
    obtain ⟨k, hk, rfl, hJs, hnx⟩ := hrel
    by_cases hlt : k < cs.length
    · have e0 : wr.cell? ⟨b, off + k * 2, none⟩ = some (.int .i64 (cs[k]).k) := (hnx.cell (p := ⟨b, off + k * 2, none⟩) hb).trans (hc k hlt).1
      have e1 : wr.cell? ⟨b, off + k * 2 + 1, none⟩ = some (.int .i64 (cs[k]).n) := (hnx.cell (p := ⟨b, off + k * 2 + 1, none⟩) hb).trans (hc k hlt).2
      have hJa := hAb _ _ (.cells #[.int .i64 (cs[k]).k, .int .i64 (cs[k]).n] 52) hJs
      obtain ⟨fn, tmps, assign, body, hy, hR⟩ := hY _ ⟨k, hlt⟩ _ hJa (by rw [uptoF_length hk]; exact hlt)
      dsimp only [encN] at hy
      have hw : wrap64 ((k : Int) + 1) = (k : Int) + 1 := by simp only [wrap64]; omega
      gi_wp2
      refine hR.mono ?_
      rintro e W3 (⟨rfl, hJ3, hk3⟩ | ⟨rfl, hJx3⟩)
      · gi_wp2
        go_roundw
        case rel => exact ⟨k + 1, by omega, by simp, by rw [uptoF_succ hlt]; exact hJ3, (hnx.alloc (Nat.le_trans hn0 hnx.size) _).trans hk3⟩
        case measure => simp [intOf]; omega
      · gi_wp2
        refine bodyPost_ret (results_none rfl _ _ _) rfl ?_
        exact ⟨⟨_, rfl⟩, .inr ⟨_, ⟨k + 1, by omega, rfl⟩, by rw [uptoF_succ hlt]; exact hJx3⟩⟩
    · obtain rfl : k = cs.length := by omega
      gi_wp2
      go_end0
      exact ⟨⟨_, rfl⟩, .inl ⟨_, rfl, hJs⟩⟩

set_option maxRecDepth 100000 in
set_option maxHeartbeats 1000000 in
/-- .. where there are none (the nil slice, too): no round. -/
theorem all1_nil_in (F : Fence) (n : Nat) (hf : F.fn 23) (hro : F.round = none) (l Bs g : Nat) (A : Option Addr) (c : Nat) {β : Type} (J : List β → World → Prop) (W : World) (hBs : W.cell? ⟨Bs, 0, none⟩ = some (.pointer (some ⟨g, 0, none⟩))) (hgc : W.cell? ⟨g, 0, none⟩ = some (.slice A 0 c)) (h0 : J [] W) :
    CallsIn F n Try.prog 23 #[.func (.yield l) #[] #[], .pointer (some ⟨Bs, 0, none⟩)] W fun e W' => (∃ v, e = .returned v) ∧ J [] W' := by
  refine callsIn_of_wp Try.func23 rfl hf ?_ hro
  simp only [Try.ntmps23, List.size_toArray, List.length_cons, List.length_nil, Nat.reduceAdd, Nat.reduceSub, Array.replicate_succ, Array.replicate_zero, List.push_toArray, List.append_toArray, List.nil_append, List.cons_append]
  gi_wp2
  gi_loopw [12] (fun i wr => i = .int .i64 0 ∧ J [] wr) (fun _ _ => 0)
  case atStart => exact ⟨rfl, h0⟩
  case round =>
    obtain ⟨rfl, hJs⟩ := hrel
    gi_wp2
    go_end0
    exact ⟨⟨_, rfl⟩, hJs⟩

set_option maxHeartbeats 1000000 in
/-- All: the pointer is boxed; the function value captures the box. -/
theorem All_in (F : Fence) (n : Nat) (hf : F.fn 19) (hro : F.round = none) (g : Nat) (w : World) :
    CallsIn F n Try.prog 19 #[.pointer (some ⟨g, 0, none⟩)] w fun e w' => e = .returned (.func (.func 23) #[] #[.pointer (some ⟨w.heap.size, 0, none⟩)]) ∧ w' = w.alloc (.cells #[.pointer (some ⟨g, 0, none⟩)] 24) := by
  refine callsIn_of_wp Try.func19 rfl hf ?_ hro
  simp only [Try.ntmps19, List.size_toArray, List.length_cons, List.length_nil, Nat.reduceAdd, Nat.reduceSub, Array.replicate_succ, Array.replicate_zero, List.push_toArray, List.append_toArray, List.nil_append, List.cons_append]
  gi_wp2
  go_ret
  exact ⟨rfl, rfl⟩

theorem all_stops (F : Fence) (n : Nat) (hf : F.fn 23) (hro : F.round = none) (hn : 1 ≤ n) (Bs g n₀ : Nat) (sv : Value) (cs : List En) (hreach : cs.length ≤ 140737488351232) (w : World) (hBs : Bs < w.heap.size) (hgs : g < w.heap.size) (hn₀ : n₀ ≤ w.heap.size)
    (hc : w.cell? ⟨Bs, 0, none⟩ = some (.pointer (some ⟨g, 0, none⟩))) (hgc : w.cell? ⟨g, 0, none⟩ = some sv) (hI : HasE w n₀ sv cs) :
    SeqStopsK F n Try.prog 23 #[.pointer (some ⟨Bs, 0, none⟩)] (encN cs) (Below n₀) (fun ys => ys = uptoF cs.length cs.length)
      (fun pre => ∃ k, k ≤ cs.length ∧ pre = uptoF cs.length k) cs.length w := fun l J Jx W hW hJ hJx hY h0 => by
  have hc' := (hW.cell (p := ⟨Bs, 0, none⟩) hBs).trans hc
  have hg' := (hW.cell (p := ⟨g, 0, none⟩) hgs).trans hgc
  have hI' := hI.below (hW.mono hn₀)
  obtain ⟨A, c, rfl, _, hA⟩ := hI'
  by_cases hne : cs = []
  · subst hne
    exact (all1_nil_in F n hf hro l Bs g A c J W hc' hg' h0).mono fun e W' ⟨he, hj⟩ => ⟨he, .inl ⟨_, rfl, hj⟩⟩
  · obtain ⟨b, off, rfl, hb, hcs⟩ := hA hne
    exact all1_in F n hf hro hn l Bs g n₀ b off c cs hb J Jx hY W hc' hg' hcs hreach h0 (fun pre W1 o h => hJ pre W1 _ none h (World.grownBy_alloc _ _ _) (fun r e => by cases e)) (Nat.le_trans hn₀ hW.size)
end Go.Proofs.Ytjllcgmdnkakgaa
