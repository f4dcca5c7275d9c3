/- Layer 1 (num): a number written, walked. -/
import Derived.Test.YtmibpaegcbaaaaaValU
import Derived.Test.YtmibpaegcbaaaaaOwn
namespace Go.Proofs.Ytmibpaegcbaaaaa
open Go.RowKit
set_option linter.unusedVariables false
set_option linter.unusedSimpArgs false

/-- A number's digits. -/
def digC (x : Nat) : UInt8 := UInt8.ofNat (48 + x % 10)
theorem digC_nat (x : Nat) : (digC x).toNat = 48 + x % 10 := by simp [digC]; omega
def digB (x : Nat) : Bs := if h : x < 10 then [digC x] else digB (x / 10) ++ [digC x]
termination_by x
decreasing_by omega
theorem digB_low {x : Nat} (h : x < 10) : digB x = [digC x] := by rw [digB, dif_pos h]
theorem digB_high {x : Nat} (h : ¬ x < 10) : digB x = digB (x / 10) ++ [digC x] := by rw [digB, dif_neg h]
theorem digB_pos (x : Nat) : 0 < (digB x).length := by
  by_cases h : x < 10
  · rw [digB_low h]; simp
  · rw [digB_high h]; simp
theorem digB_len (k x : Nat) (h : x < 10 ^ (k + 1)) : (digB x).length ≤ k + 1 := by
  induction k generalizing x with
  | zero => rw [digB_low (by simpa using h)]; simp
  | succ k ih =>
    by_cases hl : x < 10
    · rw [digB_low hl]; simp
    · rw [digB_high hl]
      have := ih (x / 10) (by rw [Nat.div_lt_iff_lt_mul (by decide)]; rw [Nat.pow_succ] at h; exact h)
      simp only [List.length_append, List.length_cons, List.length_nil]; omega
def showN (n : Int) : Bs := if n < 0 then 45 :: digB n.natAbs else digB n.natAbs
theorem digB_19 (n : Int) (h0 : -9223372036854775808 ≤ n) (hn : n ≤ 9223372036854775807) : (digB n.natAbs).length ≤ 19 := digB_len 18 _ (by
  have : (10 : Nat) ^ (18 + 1) = 10000000000000000000 := by decide
  rw [this]; omega)
theorem showN_len (n : Int) (h0 : -9223372036854775808 ≤ n) (hn : n ≤ 9223372036854775807) : (showN n).length ≤ 20 := by
  have := digB_19 n h0 hn
  unfold showN; split
  · simp only [List.length_cons]; omega
  · omega
theorem neg_u64 (n : Int) (h0 : -9223372036854775808 ≤ n) (hn : n < 0) : IntKind.u64.wrap (-(IntKind.u64.wrap n)) = (n.natAbs : Int) := by
  simp only [IntKind.wrap, IntKind.bits, IntKind.signed]
  simp
  omega
theorem pos_u64 (n : Int) (h0 : 0 ≤ n) (hn : n ≤ 9223372036854775807) : IntKind.u64.wrap n = (n.natAbs : Int) := by
  simp only [IntKind.wrap, IntKind.bits, IntKind.signed]
  simp
  omega
set_option maxRecDepth 100000 in
theorem size_any (n : Int) (h0 : -9223372036854775808 ≤ n) (hn : n ≤ 9223372036854775807) (w : World) :
    Calls Try.prog 86 #[.int .i64 n] w (fun e w' => e = .returned (.tuple #[.int .u64 (n.natAbs : Int), .bool (decide (n < 0))]) ∧ w = w') := by
  by_cases c : n < 0
  · have e1 := Kept.mk (neg_u64 n h0 c)
    clear h0 hn
    have hd : decide (n < 0) = true := by simp [c]
    go_enter Try.func86, Try.ntmps86
    go_wp2
    go_returns
    refine ⟨?_, rfl⟩
    show Ending.returned (.tuple #[.int .u64 (IntKind.u64.wrap (-(IntKind.u64.wrap n))), .bool true]) = _
    rw [e1.out, hd]
  · have e1 := Kept.mk (pos_u64 n (by omega) hn)
    have hd : decide (n < 0) = false := by simp [c]
    clear h0 hn
    go_enter Try.func86, Try.ntmps86
    go_wp2
    go_returns
    refine ⟨?_, rfl⟩
    show Ending.returned (.tuple #[.int .u64 (IntKind.u64.wrap n), .bool false]) = _
    rw [e1.out]
/-- The room of twenty bytes, filled from behind. -/
def Room (w : World) (g : Nat) (j : Nat) (sfx : Bs) : Prop := j + sfx.length = 20 ∧ w.heap[g]? = some (.cells (List.replicate j (Value.int .u8 0) ++ u8s (nums sfx)).toArray 107 (0, 0))
theorem add_lit0' (g j : Nat) : (⟨g, 0, none⟩ : Addr).add j = ⟨g, j, none⟩ := by simp [Addr.add]; intro h; exact h.symm
set_option maxRecDepth 100000 in
theorem Room.cell {w : World} {g j : Nat} {sfx : Bs} (h : Room w g j sfx) (i : Nat) (hi : i < j) : w.cell? ⟨g, i, none⟩ = some (.int .u8 0) ∧ w.frozen? ⟨g, i, none⟩ = false := by
  refine ⟨?_, Lib.frozen_of_heap h.2 i⟩
  rw [Lib.cell_of_heap h.2, List.getElem?_toArray, List.getElem?_append_left (by simpa using hi)]
  simp [hi]
set_option maxRecDepth 100000 in
theorem room_slice (g m : Nat) (hm : m < 20) (w : World) : (Instr.sliceAt 107 (.pointer (some ⟨g, 0, none⟩)) (some (.int .i64 (m : Int))) none none).run Try.prog w = .ok (.slice (some ⟨g, m, none⟩) (20 - m) (20 - m)) w := by
  have e : Try.prog.arrayLen 107 = 20 := by kernel_rfl
  have e2 : Try.prog.elem 107 = 5 := by kernel_rfl
  have hs : (sizeOf 5).run Try.prog w = .ok 1 w := by kernel_rfl
  rw [run_sliceAt_array_l (P := Try.prog) w 107 ⟨g, 0, none⟩ Try.underlying107 .i64 (m : Int) (by omega) (by rw [e]; omega), e, e2, hs]
  simp only [Result.andThen_ok, slicedAt, Int.toNat_natCast, Nat.mul_one, add_lit0']
  rw [if_neg (by omega)]
theorem room_set {w : World} (g i : Nat) (v : Value) (cs : Array Value) (ty : TypeId) (fr : Nat × Nat) (h : w.heap[g]? = some (.cells cs ty fr)) : (w.setCell ⟨g, i, none⟩ v).heap[g]? = some (.cells (cs.setIfInBounds i v) ty fr) := by
  unfold World.setCell
  simp [Array.getElem?_modify, h]
theorem Room.store {w : World} {g j : Nat} {sfx : Bs} (h : Room w g (j + 1) sfx) (b : UInt8) : Room (w.setCell ⟨g, j, none⟩ (.int .u8 (b.toNat : Int))) g j (b :: sfx) := by
  refine ⟨by have := h.1; simp only [List.length_cons]; omega, ?_⟩
  rw [room_set g j _ _ _ _ h.2]
  congr 2
  rw [List.setIfInBounds_toArray]
  congr 1
  rw [List.replicate_succ', List.append_assoc, List.set_append_right _ _ (by simp)]
  simp [u8s, nums]
theorem Room.lt {w : World} {g j : Nat} {sfx : Bs} (h : Room w g j sfx) : g < w.heap.size := (Array.getElem?_eq_some_iff.1 h.2).1
theorem Room.get {w : World} {g j : Nat} {sfx : Bs} (h : Room w g j sfx) (i : Nat) (hi : i < (nums sfx).length) : w.cell? ⟨g, j + i, none⟩ = some (.int .u8 ((nums sfx).getD i 0)) := by
  rw [Lib.cell_of_heap h.2]
  simp [u8s, List.getElem?_append_right, List.getD_eq_getElem?_getD, hi]
set_option maxRecDepth 100000 in
theorem room_conv {w : World} {g j : Nat} {sfx : Bs} (h : Room w g j sfx) (hj : j ≤ 20) : (convert 37 9 (.slice (some ⟨g, j, none⟩) (20 - j) (20 - j))).run Try.prog w = .ok (.string (bs sfx)) w := by
  have e : 20 - j = (nums sfx).length := by rw [nums, List.length_map]; have := h.1; omega
  rw [e, ← strOf_nums]
  exact run_convert_bytes_arg w 37 5 Try.underlying37 Try.underlying5 g j (nums sfx).length (nums sfx).length (nums sfx) rfl (fun i hi => h.get i hi) 9 Try.underlying9
def ShR (n : Int) (w : World) (v3 v6 : Value) (wr : World) : Prop :=
  ∃ (x m : Nat) (sfx : Bs), v3 = .int .u64 (x : Int) ∧ v6 = .int .i64 (((m + 1 : Nat) : Int)) ∧ Kept (Room wr w.heap.size (m + 1) sfx) ∧ Kept (Below w.heap.size w wr) ∧ Kept (digB n.natAbs = digB x ++ sfx ∧ x < 18446744073709551616)
set_option maxRecDepth 100000 in
theorem nshow_any (n : Int) (h0 : -9223372036854775808 ≤ n) (hn : n ≤ 9223372036854775807) (w : World) :
    Calls Try.prog 84 #[.int .i64 n] w (fun e w' => e = .returned (.string (bs (showN n))) ∧ Below w.heap.size w w') := by
  go_enter Try.func84, Try.ntmps84
  go_wp2_with (first | (go_at_call 86; refine (size_any n h0 hn _).mono ?_; rintro e w1 ⟨rfl, rfl⟩))
  have HR0 : Kept (Room (w.alloc (Obj.cells #[.int .u8 0, .int .u8 0, .int .u8 0, .int .u8 0, .int .u8 0, .int .u8 0, .int .u8 0, .int .u8 0, .int .u8 0, .int .u8 0, .int .u8 0, .int .u8 0, .int .u8 0, .int .u8 0, .int .u8 0, .int .u8 0, .int .u8 0, .int .u8 0, .int .u8 0, .int .u8 0] 107)) w.heap.size 20 []) := ⟨rfl, heap_alloc_new w _⟩
  have HB0 : Kept (Below w.heap.size w (w.alloc (Obj.cells #[.int .u8 0, .int .u8 0, .int .u8 0, .int .u8 0, .int .u8 0, .int .u8 0, .int .u8 0, .int .u8 0, .int .u8 0, .int .u8 0, .int .u8 0, .int .u8 0, .int .u8 0, .int .u8 0, .int .u8 0, .int .u8 0, .int .u8 0, .int .u8 0, .int .u8 0, .int .u8 0] 107))) := ⟨(Below.refl _ _).alloc (Nat.le_refl _) _⟩
  generalize w.alloc (Obj.cells #[.int .u8 0, .int .u8 0, .int .u8 0, .int .u8 0, .int .u8 0, .int .u8 0, .int .u8 0, .int .u8 0, .int .u8 0, .int .u8 0, .int .u8 0, .int .u8 0, .int .u8 0, .int .u8 0, .int .u8 0, .int .u8 0, .int .u8 0, .int .u8 0, .int .u8 0, .int .u8 0] 107) = w0 at HR0 HB0 ⊢
  have H19 := Kept.mk (digB_19 n h0 hn)
  have HN : Kept (n.natAbs < 18446744073709551616) := ⟨by omega⟩
  clear h0 hn
  obtain ⟨bel, hbel⟩ : ∃ bel, decide (n < 0) = bel := ⟨_, rfl⟩
  have HBEL := Kept.mk hbel
  rewrite [hbel]
  clear hbel
  go_loopw [3, 6] (fun v3 v6 wr => ShR n w v3 v6 wr) (fun v3 v6 wr => (intOf v3).toNat)
  case atStart => exact ⟨n.natAbs, 19, [], rfl, rfl, HR0, HB0, ⟨by simp, HN.out⟩⟩
  case round =>
    obtain ⟨x, m, sfx, rfl, rfl, HR, HB, HD⟩ := hrel
    clear HR0 HB0
    have hR1 := HR.out.1
    have hx64 := HD.out.2
    have hwr : IntKind.u64.wrap ((x : Int) / 10) = ((x / 10 : Nat) : Int) := by
      simp only [IntKind.wrap, IntKind.bits, IntKind.signed]
      simp
      omega
    have hb8 : (((digC x).toNat : Nat) : Int) = 48 + (x : Int) % 10 := by
      rw [digC_nat]
      omega
    have hc1 := (HR.out.cell m (by omega)).1
    have hc2 := (HR.out.cell m (by omega)).2
    have HR2 := Kept.mk (HR.out.store (digC x))
    rw [hb8] at HR2
    have HB2 := Kept.mk (HB.out.setCell (p := ⟨w.heap.size, m, none⟩) (Nat.le_refl _) (.int .u8 (48 + (x : Int) % 10)))
    have hm : m + 1 ≤ 20 := by omega
    clear hb8
    by_cases cx : x < 10
    · have hq : ((x / 10 : Nat) : Int) = 0 := by omega
      have hq2 : (((x / 10 : Nat) : Int) == 0) = true := by rw [hq]; rfl
      have HE : Kept (digB n.natAbs = digC x :: sfx) := ⟨by rw [HD.out.1, digB_low cx]; rfl⟩
      rw [hq] at hwr
      clear hq hq2 hx64
      cases bel with
      | false =>
        have ks := fun w2 => room_slice w.heap.size m (by omega) w2
        have kv : Kept (showN n = digC x :: sfx) := ⟨by
          unfold showN
          rw [if_neg (of_decide_eq_false HBEL.out), HE.out]⟩
        have kc := room_conv HR2.out (by omega)
        go_wp2_with fail
        go_returns
        exact ⟨by rw [kv.out]; rfl, HB2.out⟩
      | true =>
        obtain ⟨m', rfl⟩ : ∃ m', m = m' + 1 := ⟨m - 1, by
          have h := HE.out
          have h19 := H19.out
          rw [h] at h19
          simp only [List.length_cons] at h19
          omega⟩
        have ks := fun w2 => room_slice w.heap.size m' (by omega) w2
        have hd1 := (HR.out.cell m' (by omega)).1
        have hd2 := (HR.out.cell m' (by omega)).2
        have HR3 := Kept.mk (HR2.out.store 45)
        have HB3 := Kept.mk (HB2.out.setCell (p := ⟨w.heap.size, m', none⟩) (Nat.le_refl _) (.int .u8 45))
        have kv : Kept (showN n = 45 :: (digC x :: sfx)) := ⟨by
          unfold showN
          rw [if_pos (of_decide_eq_true HBEL.out), HE.out]⟩
        have e45 : (((45 : UInt8).toNat : Nat) : Int) = 45 := by decide
        rw [e45] at HR3
        rw [set_sort _ _ _ _ _ _ (show m' < m' + 1 by omega)] at HR3 HB3
        have kc := room_conv HR3.out (by omega)
        clear e45
        go_wp2_with fail
        go_returns
        exact ⟨by rw [kv.out]; rfl, HB3.out⟩
    · have hq : (((x / 10 : Nat) : Int) == 0) = false := by rw [beq_eq_false_iff_ne]; omega
      have HX := Kept.mk hx64
      clear hx64
      obtain ⟨m', rfl⟩ : ∃ m', m = m' + 1 := ⟨m - 1, by
          have h := HD.out.1
          have h19 := H19.out
          rw [h, digB_high cx] at h19
          have := digB_pos (x / 10)
          simp only [List.length_append, List.length_cons, List.length_nil] at h19
          omega⟩
      go_wp2_with fail
      refine ⟨⟨x / 10, m', _, rfl, rfl, HR2, HB2, ⟨?_, ?_⟩⟩, ?_⟩
      · rw [HD.out.1, digB_high cx, List.append_assoc]; rfl
      · have := HX.out; omega
      · simp [intOf]; omega
end Go.Proofs.Ytmibpaegcbaaaaa
