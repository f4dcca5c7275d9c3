/- Layer 24's reference (multi): Of, Check, Nth, Put, walked. -/
import Derived.Test.YtjllcgmdnkakgaaMulQ
namespace Go.Proofs.Ytjllcgmdnkakgaa
open Go.RowKit
set_option linter.unusedVariables false
set_option linter.unusedSimpArgs false

abbrev ints (l : List Int) : List Value := l.map (Value.int .i64)
theorem infoI : (Try.prog.info? 3).map (fun i => (i.zero, i.size, i.bytes)) = some (some (.int .i64 0), 1, 8) := by kernel_rfl
/-- The reference's multi, of the call's own. -/
structure RefAt (w : World) (B g : Nat) (u : Value) (l : List Int) : Prop where
  base : B ≤ g
  box : w.heap[g]? = some (.cells #[u] 30 (0, 0))
  own : Own w B 3 u (ints l)
  len : l.length ≤ 2000000
theorem RefAt.lt {w : World} {B g : Nat} {u : Value} {l : List Int} (h : RefAt w B g u l) : g < w.heap.size := (Array.getElem?_eq_some_iff.1 h.box).1
theorem RefAt.below {w w' : World} {B g : Nat} {u : Value} {l : List Int} (h : RefAt w B g u l) (hb : Below w.heap.size w w') : RefAt w' B g u l :=
  ⟨h.base, by rw [hb.block g h.lt]; exact h.box, h.own.below hb, h.len⟩
theorem own_ints {w : World} {B : Nat} {u : Value} {l : List Int} (h : Own w B 3 u (ints l)) : ∃ A c, u = .slice A l.length c ∧ (l ≠ [] → ∃ b, A = some ⟨b, 0, none⟩ ∧ ∀ i, (hi : i < l.length) → w.cell? ⟨b, i, none⟩ = some (.int .i64 l[i])) := by
  have hl : (ints l).length = l.length := by simp
  rcases h.cells with ⟨rfl, hn⟩ | ⟨g, c, rfl, _, _, _, _, hcell⟩
  · have : l = [] := by simpa using hn
    subst this
    exact ⟨none, 0, rfl, fun h => absurd rfl h⟩
  · refine ⟨some ⟨g, 0, none⟩, c, by rw [hl], fun _ => ⟨g, rfl, fun i hi => ?_⟩⟩
    rw [hcell i (by rw [hl]; exact hi)]
    simp [hi]
def RoI (l : List Int) (k : Int) (w : World) (v6 v5 : Value) (wr : World) : Prop := ∃ i : Nat, v6 = .int .i64 (i : Int) ∧ v5 = .int .i64 (cntK (l.take i) k : Nat) ∧ wr = w ∧ Kept (i ≤ l.length)
theorem cntK_take (l : List Int) (k : Int) (i : Nat) (hi : i < l.length) : cntK (l.take (i + 1)) k = cntK (l.take i) k + (if l[i] = k then 1 else 0) := by
  rw [List.take_succ_eq_append_getElem hi, cntK_app]
  congr 1
  simp only [cntK, List.countP_cons, List.countP_nil]
  split <;> simp_all
theorem cntK_le (l : List Int) (k : Int) : cntK l k ≤ l.length := List.countP_le_length
set_option maxRecDepth 100000 in
theorem rOf_any (w : World) (B g : Nat) (u : Value) (l : List Int) (k : Int) (h : RefAt w B g u l) :
    Calls Try.prog 16 #[.pointer (some ⟨g, 0, none⟩), .int .i64 k] w (fun e w' => e = .returned (.int .i64 (cntK l k : Nat)) ∧ w = w') := by
  obtain ⟨A, c, rfl, hA⟩ := own_ints h.own
  have c0 := (blk_cell h.box).1
  have HA := Kept.mk hA
  have HL := Kept.mk h.len
  clear h hA
  go_enter Try.func16, Try.ntmps16
  go_wp2_with fail
  go_loopw [6, 5] (fun v6 v5 wr => RoI l k w v6 v5 wr) (fun v6 v5 wr => l.length - (intOf v6).toNat)
  case atStart => exact ⟨0, rfl, by simp [cntK], rfl, ⟨Nat.zero_le _⟩⟩
  case round =>
    obtain ⟨i, rfl, rfl, rfl, HI⟩ := hrel
    have hll := HL.out
    by_cases ci : i < l.length
    · have hne : l ≠ [] := by rintro rfl; simp at ci
      obtain ⟨b, rfl, hcell⟩ := HA.out hne
      have e0 := hcell i ci
      have ci' : (i : Int) < (l.length : Int) := by omega
      have f0 : 0 ≤ (i : Int) := by omega
      have hw : wrap64 ((i : Int) + 1) = (i : Int) + 1 := by simp only [wrap64]; omega
      have hcl := cntK_le (l.take i) k
      rw [List.length_take] at hcl
      have hw2 : wrap64 (((cntK (l.take i) k : Nat) : Int) + 1) = ((cntK (l.take i) k : Nat) : Int) + 1 := by simp only [wrap64]; omega
      have HT := Kept.mk (cntK_take l k i ci)
      have HCI := Kept.mk ci
      by_cases ck : l[i] = k
      · have hk : (l[i] == k) = true := by rw [beq_iff_eq]; exact ck
        have HT2 : Kept (cntK (l.take (i + 1)) k = cntK (l.take i) k + 1) := ⟨by rw [HT.out, if_pos ck]⟩
        generalize l[i] = x at e0 hk
        clear hcell hne ci hcl HT ck
        go_wp2_with fail
        refine ⟨⟨i + 1, by first | rfl | (rw [hw]; rfl), by rw [HT2.out]; first | rfl | (rw [hw2]; rfl), rfl, ⟨HCI.out⟩⟩, by first | exact less_step hw HCI.out | (have := HCI.out; simp only [intOf]; omega)⟩
      · have hk : (l[i] == k) = false := by rw [beq_eq_false_iff_ne]; exact ck
        have HT2 : Kept (cntK (l.take (i + 1)) k = cntK (l.take i) k) := ⟨by rw [HT.out, if_neg ck, Nat.add_zero]⟩
        generalize l[i] = x at e0 hk
        clear hcell hne ci hcl HT ck
        go_wp2_with fail
        refine ⟨⟨i + 1, by first | rfl | (rw [hw]; rfl), by rw [HT2.out], rfl, ⟨HCI.out⟩⟩, by first | exact less_step hw HCI.out | (have := HCI.out; simp only [intOf]; omega)⟩
    · have ci' : ¬ ((i : Int) < (l.length : Int)) := by omega
      have hi : i = l.length := by have := HI.out; omega
      have HT : Kept (l.take i = l) := ⟨by rw [hi, List.take_length]⟩
      clear ci hi
      go_wp2_with fail
      go_returns
      refine ⟨?_, rfl⟩
      have h2 : cntK (l.take i) k = cntK l k := by rw [HT.out]
      rw [← h2]
      rfl
def chkR (l : List Int) (k n : Int) : Int := if n > 1048576 ∨ n < -1048576 then 2 else if ((cntK l k : Nat) : Int) + n < 0 then 20 else if (l.length : Int) + n > 1048576 then 7 else 0
set_option maxRecDepth 100000 in
theorem rCheck_any (w : World) (B g : Nat) (u : Value) (l : List Int) (k n : Int) (h : RefAt w B g u l) :
    Calls Try.prog 9 #[.pointer (some ⟨g, 0, none⟩), .int .i64 k, .int .i64 n] w (fun e w' => e = .returned (.int .i64 (chkR l k n)) ∧ w = w') := by
  have HM := Kept.mk h
  have c0 := (blk_cell h.box).1
  obtain ⟨A, c, rfl, _⟩ := own_ints h.own
  have hll := h.len
  have hcl := cntK_le l k
  clear h
  by_cases cA : n > 1048576 ∨ n < -1048576
  · have hv : Kept (chkR l k n = 2) := ⟨if_pos cA⟩
    by_cases cA1 : 1048576 < n
    · clear cA
      go_enter Try.func9, Try.ntmps9
      go_wp2_with fail
      go_returns
      exact ⟨by rw [hv.out]; rfl, rfl⟩
    · have cA2 : n < -1048576 := by omega
      clear cA
      go_enter Try.func9, Try.ntmps9
      go_wp2_with fail
      go_returns
      exact ⟨by rw [hv.out]; rfl, rfl⟩
  · have a1 : ¬ 1048576 < n := by omega
    have a2 : ¬ n < -1048576 := by omega
    have hw1 : wrap64 (((cntK l k : Nat) : Int) + n) = ((cntK l k : Nat) : Int) + n := by simp only [wrap64]; omega
    have hw2 : wrap64 ((l.length : Int) + n) = (l.length : Int) + n := by simp only [wrap64]; omega
    by_cases cB : ((cntK l k : Nat) : Int) + n < 0
    · have hv : Kept (chkR l k n = 20) := ⟨by unfold chkR; rw [if_neg cA, if_pos cB]⟩
      clear cA
      go_enter Try.func9, Try.ntmps9
      go_wp2_with (first | (go_at_call 16; refine (rOf_any w B g _ l k HM.out).mono ?_; rintro e w1 ⟨rfl, rfl⟩))
      go_returns
      exact ⟨by rw [hv.out]; rfl, rfl⟩
    · by_cases cC : (l.length : Int) + n > 1048576
      · have hv : Kept (chkR l k n = 7) := ⟨by unfold chkR; rw [if_neg cA, if_neg cB, if_pos cC]⟩
        have cC' : 1048576 < (l.length : Int) + n := by omega
        clear cA cC
        go_enter Try.func9, Try.ntmps9
        go_wp2_with (first | (go_at_call 16; refine (rOf_any w B g _ l k HM.out).mono ?_; rintro e w1 ⟨rfl, rfl⟩))
        go_returns
        exact ⟨by rw [hv.out]; rfl, rfl⟩
      · have hv : Kept (chkR l k n = 0) := ⟨by unfold chkR; rw [if_neg cA, if_neg cB, if_neg cC]⟩
        have cC' : ¬ 1048576 < (l.length : Int) + n := by omega
        clear cA cC
        go_enter Try.func9, Try.ntmps9
        go_wp2_with (first | (go_at_call 16; refine (rOf_any w B g _ l k HM.out).mono ?_; rintro e w1 ⟨rfl, rfl⟩))
        go_returns
        exact ⟨by rw [hv.out]; rfl, rfl⟩
set_option maxRecDepth 100000 in
theorem rNth_any (w : World) (B g : Nat) (u : Value) (l : List Int) (i : Int) (h : RefAt w B g u l) :
    Calls Try.prog 13 #[.pointer (some ⟨g, 0, none⟩), .int .i64 i] w (fun e w' => e = .returned (.tuple #[.int .i64 (nthC l i).1, .bool (nthC l i).2]) ∧ w = w') := by
  have c0 := (blk_cell h.box).1
  obtain ⟨A, c, rfl, hA⟩ := own_ints h.own
  clear h
  by_cases c1 : i < 0
  · have hv : Kept (nthC l i = (0, false)) := ⟨by unfold nthC; rw [dif_neg (by omega)]⟩
    go_enter Try.func13, Try.ntmps13
    go_wp2_with fail
    go_returns
    exact ⟨by rw [hv.out]; rfl, rfl⟩
  · by_cases c2 : (l.length : Int) ≤ i
    · have hv : Kept (nthC l i = (0, false)) := ⟨by unfold nthC; rw [dif_neg (by omega)]⟩
      go_enter Try.func13, Try.ntmps13
      go_wp2_with fail
      go_returns
      exact ⟨by rw [hv.out]; rfl, rfl⟩
    · obtain ⟨n, rfl⟩ : ∃ n : Nat, i = (n : Int) := ⟨i.toNat, by omega⟩
      have hn : n < l.length := by omega
      have hv : Kept (nthC l (n : Int) = (l[n], true)) := ⟨by unfold nthC; rw [dif_pos ⟨by omega, by omega⟩]; simp⟩
      have hne : l ≠ [] := by rintro rfl; simp at hn
      obtain ⟨b, rfl, hcell⟩ := hA hne
      have e0 := hcell n hn
      have c2' : (n : Int) < (l.length : Int) := by omega
      have c1' : 0 ≤ (n : Int) := by omega
      generalize l[n] = x at e0 hv
      clear hcell hne hA
      go_enter Try.func13, Try.ntmps13
      go_wp2_with fail
      go_returns
      exact ⟨by rw [hv.out]; rfl, rfl⟩
end Go.Proofs.Ytjllcgmdnkakgaa
