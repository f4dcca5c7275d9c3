/- Layer 7 (schema): names, kinds, which are schemas: walked. -/
import Derived.Test.YtnidaahimofppaaGreatQpaf
namespace Go.Proofs.YtnidaahimofppaaGreat
open Go.RowKit Go.Shelf
set_option linter.unusedVariables false
set_option linter.unusedSimpArgs false

theorem cKind_any (k : Int) (w : World) : Calls Tryz.prog 42 #[.int .i64 k] w (fun e w' => e = .returned (.bool (kindB k)) ∧ w = w') := by
  go_enter Tryz.func42, Tryz.ntmps42
  go_wp2
  all_goals go_returns
  all_goals refine ⟨?_, rfl⟩
  all_goals apply congrArg Ending.returned
  all_goals apply congrArg Value.bool
  all_goals rw [Bool.eq_iff_iff]
  all_goals simp [kindB]
  all_goals try omega
def NmI (s : ByteArray) (v20 : Value) (wr w : World) : Prop := ∃ i : Nat, v20 = .int .i64 (i : Int) ∧ wr = w ∧ Kept (i ≤ s.size ∧ ∀ j, (hj : j < i) → (hs : j < s.size) → ldC s[j] = true)
theorem u8_nat (b : UInt8) : 0 ≤ (b.toNat : Int) := by omega
theorem nameN_head {s : ByteArray} (h0 : 0 < s.size) (h : (s[0].toNat : Int) < 97) : nameN (tx s) = false := by
  obtain ⟨t, ht, _⟩ := tx_cons s h0
  simp only [nameN, ht, headN, decide_eq_false (show ¬ 97 ≤ s[0].toNat by omega), Bool.and_false, Bool.false_and]
theorem nameN_bad {s : ByteArray} (i : Nat) (hi : i < s.size) (h : ldC s[i] = false) : nameN (tx s) = false := by
  have : (tx s).all ldC = false := by
    rw [Bool.eq_false_iff]
    intro h2
    have hl : i < (tx s).length := by rw [tx_len]; exact hi
    have h1 := tx_get s i hi
    rw [List.getElem?_eq_getElem hl] at h1
    injection h1 with h1
    have := List.all_eq_true.1 h2 _ (List.getElem_mem hl)
    rw [h1, h] at this
    cases this
  simp only [nameN, this, Bool.and_false, Bool.false_and]
theorem nameN_key {s : ByteArray} (h0 : 0 < s.size) (h1 : s.size ≤ 16) (h2 : 97 ≤ (s[0].toNat : Int)) (h3 : ∀ j, (hs : j < s.size) → ldC s[j] = true) : nameN (tx s) = !keyN (tx s) := by
  obtain ⟨t, ht, _⟩ := tx_cons s h0
  have ha : (tx s).all ldC = true := by
    rw [List.all_eq_true]
    intro x hx
    obtain ⟨j, hj, rfl⟩ := List.getElem_of_mem hx
    have hj2 : j < s.size := by rwa [tx_len] at hj
    have h1 := tx_get s j hj2
    rw [List.getElem?_eq_getElem hj] at h1
    injection h1 with h1
    rw [h1]
    exact h3 j hj2
  have hh : headN (tx s) = true := by rw [ht]; simp only [headN, decide_eq_true_eq]; omega
  have hl : (tx s).length ≤ 16 := by rw [tx_len]; exact h1
  simp only [nameN, ha, hh, decide_eq_true hl, Bool.true_and, Bool.and_true]
theorem upto_step {s : ByteArray} {i : Nat} (ci : i < s.size) (h : ∀ j, (hj : j < i) → (hs : j < s.size) → ldC s[j] = true) (h2 : ldC s[i] = true) : ∀ j, (hj : j < i + 1) → (hs : j < s.size) → ldC s[j] = true := by
  intro j hj hs
  by_cases hji : j < i
  · exact h j hji hs
  · obtain rfl : j = i := by omega
    exact h2
theorem keyN_eq (s : ByteArray) : keyN (tx s) = ((((s.toList == [97, 110, 100]) || (s.toList == [111, 114])) || (s.toList == [110, 111, 116])) || (s.toList == [108, 101, 110])) := by
  simp only [keyN, tx_eqb]
theorem less_bare' {n i : Nat} (h : i < n) : n - (intOf (.int .i64 ((i : Int) + 1))).toNat < n - (intOf (.int .i64 (i : Int))).toNat := by
  simp only [intOf]
  omega
set_option maxRecDepth 100000 in
set_option maxHeartbeats 1000000 in
theorem cName_any (s : ByteArray) (hs : SzB s) (w : World) : Calls Tryz.prog 41 #[.string s] w (fun e w' => e = .returned (.bool (nameN (tx s))) ∧ w' = w) := by
  by_cases h0 : 0 < s.size
  · by_cases h16 : s.size ≤ 16
    · by_cases h97 : 97 ≤ (s[0].toNat : Int)
      · have HH := Kept.mk h97
        have i0 : ¬ ((s.size : Int) < 1) := by omega
        have i1 : ¬ (16 < (s.size : Int)) := by omega
        have i2 : ¬ ((s[0].toNat : Int) < 97) := by omega
        go_enter Tryz.func41, Tryz.ntmps41
        go_wp2_with fail
        go_loopw [20] (fun v20 wr => NmI s v20 wr w) (fun v20 wr => s.size - (intOf v20).toNat)
        case atStart => exact ⟨0, rfl, rfl, ⟨Nat.zero_le _, fun j hj => by omega⟩⟩
        case round =>
          obtain ⟨i, rfl, rfl, HI⟩ := hrel
          by_cases ci : i < s.size
          · have ci' : (i : Int) < (s.size : Int) := by omega
            have f0 : 0 ≤ (i : Int) := by omega
            have hw : wrap64 ((i : Int) + 1) = (i : Int) + 1 := by have := h16; simp only [wrap64]; omega
            go_wp2_with fail
            all_goals first
              | (go_returns; refine ⟨?_, rfl⟩; refine congrArg Ending.returned (congrArg Value.bool (Eq.symm (nameN_bad i ci ?_))); simp [ldC, letC, digD] at *; omega)
              | (refine ⟨⟨i + 1, by first | rfl | (rw [hw]; rfl), rfl, ⟨ci, upto_step ci HI.out.2 ?_⟩⟩, by first | exact less_step hw ci | exact less_bare' ci⟩; simp [ldC, letC, digD] at *; omega)
          · have ci' : ¬ ((i : Int) < (s.size : Int)) := by omega
            have hi : i = s.size := by have := HI.out.1; omega
            have hk := nameN_key h0 h16 h97 (fun j hj => HI.out.2 j (by omega) hj)
            go_wp2_with fail
            all_goals (go_returns; refine ⟨?_, rfl⟩; refine congrArg Ending.returned (congrArg Value.bool ?_))
            all_goals (clear hk; rw [keyN_eq]; first | (simp only [*]; done) | (simp only [*]; rfl) | (simp_all; done))
      · have i0 : ¬ ((s.size : Int) < 1) := by omega
        have i1 : ¬ (16 < (s.size : Int)) := by omega
        have i2 : (s[0].toNat : Int) < 97 := by omega
        have hk := nameN_head h0 i2
        go_enter Tryz.func41, Tryz.ntmps41
        go_wp2_with fail
        go_returns
        first | exact ⟨congrArg Ending.returned (congrArg Value.bool hk.symm), rfl⟩ | exact ⟨rfl, rfl⟩
    · have i0 : ¬ ((s.size : Int) < 1) := by omega
      have i1 : 16 < (s.size : Int) := by omega
      have hk : nameN (tx s) = false := by
        have : ¬ (tx s).length ≤ 16 := by rw [tx_len]; exact h16
        simp only [nameN, decide_eq_false this, Bool.false_and]
      go_enter Tryz.func41, Tryz.ntmps41
      go_wp2_with fail
      go_returns
      first | exact ⟨congrArg Ending.returned (congrArg Value.bool hk.symm), rfl⟩ | exact ⟨rfl, rfl⟩
  · have i0 : (s.size : Int) < 1 := by omega
    have hk : nameN (tx s) = false := by
      have : tx s = [] := tx_nil (by omega)
      rw [this]
      rfl
    go_enter Tryz.func41, Tryz.ntmps41
    go_wp2_with fail
    go_returns
    first | exact ⟨congrArg Ending.returned (congrArg Value.bool hk.symm), rfl⟩ | exact ⟨rfl, rfl⟩

theorem keepsFrom_below {B : Nat} {W W' : World} (h : Below W.heap.size W W') : KeepsFrom B W W' := ⟨h.size, fun k o _ hk _ => (h.block k (Array.getElem?_eq_some_iff.1 hk).1).trans hk⟩
theorem boxed_below {W W' : World} {B : Nat} {t : TypeId} {v : Value} (h : Boxed W B t v) (hb : Below W.heap.size W W') : Boxed W' B t v := (hb.block B h.lt).trans h
theorem okAt_t {cs : List Cl} {i : Nat} (hi : i < cs.length) (h1 : nameN (tx cs[i].s) = true) (h2 : kindB cs[i].k = true) (h3 : idx cs cs[i].s = (i : Int)) : okAt cs i = true := by
  simp only [okAt, dif_pos hi, h1, h2, h3, decide_true, Bool.and_self]
theorem okAt_n {cs : List Cl} {i : Nat} (hi : i < cs.length) (h1 : nameN (tx cs[i].s) = false) : okAt cs i = false := by
  simp only [okAt, dif_pos hi, h1, Bool.false_and]
theorem okAt_k {cs : List Cl} {i : Nat} (hi : i < cs.length) (h1 : kindB cs[i].k = false) : okAt cs i = false := by
  simp only [okAt, dif_pos hi, h1, Bool.and_false, Bool.false_and]
theorem okAt_i {cs : List Cl} {i : Nat} (hi : i < cs.length) (h1 : idx cs cs[i].s ≠ (i : Int)) : okAt cs i = false := by
  simp only [okAt, dif_pos hi, decide_eq_false h1, Bool.and_false]
section
attribute [local go_sem] Oper.semAt_some
set_option maxRecDepth 100000 in
set_option maxHeartbeats 2000000 in
theorem cMay_any (A : Option Addr) (len cap : Nat) (cs : List Cl) (w : World) (H : HasC w w.heap.size (.slice A len cap) cs) (hz : ∀ x ∈ cs, SzB x.s) :
    Calls Tryz.prog 25 #[.slice A len cap] w fun e w' => e = .returned (.bool (mayC cs)) ∧ Below w.heap.size w w' := by
  obtain ⟨rfl, hcap, hA⟩ := H.opn
  by_cases hl : 1 ≤ cs.length ∧ cs.length ≤ 8
  · have HL := Kept.mk hl
    have i0 : ¬ ((cs.length : Int) < 1) := by omega
    have i1 : ¬ (8 < (cs.length : Int)) := by omega
    obtain ⟨b, off, rfl, hb, hcell⟩ := hA (by rintro rfl; simp at hl)
    refine (callsIn_wide (n := 3)).1 ?_
    refine callsIn_of_wp_marks Tryz.func25 rfl trivial ?_ rfl
    simp only [Tryz.ntmps25, List.size_toArray, List.length_cons, List.length_nil, Nat.reduceAdd, Nat.reduceSub, Array.replicate_succ, Array.replicate_zero, List.push_toArray, List.append_toArray, List.nil_append, List.cons_append]
    gi_wp2_with (first | (refine ⟨trivial, ?_⟩; gi_at_call 40; refine (names_in Fence.wide _ trivial rfl _ _ _ _).mono ?_; rintro e w' ⟨rfl, rfl⟩))
    have b0 := Boxed.new w 23 (.slice (some ⟨b, off, none⟩) cs.length cap)
    have b1 := Boxed.new (w.alloc (.cells #[.slice (some ⟨b, off, none⟩) cs.length cap] 23)) 4 (.bool false)
    have b2 := Boxed.new ((w.alloc (.cells #[.slice (some ⟨b, off, none⟩) cs.length cap] 23)).alloc (.cells #[.bool false] 4)) 23 (.slice (some ⟨b, off, none⟩) cs.length cap)
    rw [World.size_alloc] at b1
    rw [World.size_alloc, World.size_alloc] at b2
    have hB0 : Below w.heap.size w (((w.alloc (.cells #[.slice (some ⟨b, off, none⟩) cs.length cap] 23)).alloc (.cells #[.bool false] 4)).alloc (.cells #[.slice (some ⟨b, off, none⟩) cs.length cap] 23)) := (((Below.refl _ w).alloc (Nat.le_refl _) _).alloc (by simp) _).alloc (by simp; omega) _
    refine wpIn_rangeFunc_ownG rfl (by omega) (gf := 57) (lb := #[.pointer (some ⟨w.heap.size + 1 + 1, 0, none⟩)]) rfl trivial (enters_of Tryz.func57 (by kernel_rfl) rfl)
      (names_stops Fence.wide (3 - 1) trivial rfl (by omega) (w.heap.size + 1 + 1) w.heap.size _ cs (by omega) _ (by simp) (by simp; omega) b2.cell (H.below hB0)) belowK_t (belowK_b (by simp; omega)) (Below.refl _ _) (fun _ => rfl)
      (fun pre W => (∀ p ∈ pre, okAt cs p.1 = true) ∧ Boxed W w.heap.size 23 (.slice (some ⟨b, off, none⟩) cs.length cap) ∧ Boxed W (w.heap.size + 1) 4 (.bool false) ∧ Below w.heap.size w W)
      (fun c pre W => (c = .ret ∧ ∃ p ∈ pre, okAt cs p.1 = false) ∧ Boxed W (w.heap.size + 1) 4 (.bool false) ∧ Below w.heap.size w W)
      (OwnFrom.and (ownFrom_pure _ _) (OwnFrom.and (Own.from (boxed_own _ _ _) _) (OwnFrom.and (Own.from (boxed_own _ _ _) _) (ownFrom_below (Nat.le_refl _) (by simp; omega)))))
      (fun c => OwnFrom.and (ownFrom_pure _ _) (OwnFrom.and (Own.from (boxed_own _ _ _) _) (ownFrom_below (Nat.le_refl _) (by simp; omega))))
      ⟨by simp, (b0.alloc _).alloc _, b1.alloc _, hB0⟩
      (fun x => { tmps := #[.slice (some ⟨b, off, none⟩) cs.length cap, .pointer (some ⟨w.heap.size, 0, none⟩), .pointer (some ⟨w.heap.size + 1, 0, none⟩), .int .i64 ((x.1 : Nat) : Int), .string (cs[x.1]'x.2).s, .slice (some ⟨b, off, none⟩) cs.length cap, .int .i64 (cs.length : Int), .bool false, .bool false, .slice (some ⟨b, off, none⟩) cs.length cap, .int .i64 (cs.length : Int), .bool false, .bool false, .slice (some ⟨b, off, none⟩) cs.length cap, .func (.func 57) #[] #[.pointer (some ⟨w.heap.size + 1 + 1, 0, none⟩)], .int .i64 ((x.1 : Nat) : Int), .string (cs[x.1]'x.2).s, undef, undef, undef, undef, undef, undef, undef, undef, undef, undef, undef, undef, undef, undef, undef, undef, undef, undef, undef], defers := [] }) ?assign ?body ?done ?stop
    case assign =>
      intro l x W K hK
      gi_wp2
      exact hK
    case body =>
      rintro l pre x W ⟨hp, hb0, hb1, hB⟩ _
      obtain ⟨i, hi⟩ := x
      have e1 : W.cell? ⟨b, off + i * 2 + 1, none⟩ = some (.int .i64 (cs[i]).k) := (hB.cell (p := ⟨b, off + i * 2 + 1, none⟩) hb).trans (hcell i hi).2
      have hc0 := hb0.cell
      have hc1 := hb1.cell
      have hf1 := hb1.frozen
      have hsz := hz cs[i] (List.getElem_mem hi)
      have ci' : (i : Int) < (cs.length : Int) := by omega
      have f0 : 0 ≤ (i : Int) := by omega
      dsimp only
      cases n1 : nameN (tx cs[i].s) with
      | false =>
        gi_wp2_with (first | (refine ⟨trivial, ?_⟩; gi_at_call 41; refine (CallsIn.inRound l (callsIn_wide.2 (cName_any _ hsz _))).mono ?_; rintro e w' ⟨rfl, rfl⟩; rewrite [n1]) | (refine ⟨(trivial : Fence.wide.fn 42), ?_⟩) | (refine ⟨(trivial : Fence.wide.fn 27), ?_⟩))
        refine ⟨(KeepsOthers.setCell _ _ _).from _, ⟨⟨rfl, ⟨i, hi⟩, by simp, okAt_n hi n1⟩, hb1.set _, hB.setCell (p := ⟨w.heap.size + 1, 0, none⟩) (Nat.le_succ _) _⟩⟩
      | true =>
        cases k1 : kindB cs[i].k with
        | false =>
          gi_wp2_with (first | (refine ⟨trivial, ?_⟩; gi_at_call 41; refine (CallsIn.inRound l (callsIn_wide.2 (cName_any _ hsz _))).mono ?_; rintro e w' ⟨rfl, rfl⟩; rewrite [n1]) | (refine ⟨trivial, ?_⟩; gi_at_call 42; refine (CallsIn.inRound l (callsIn_wide.2 (cKind_any _ _))).mono ?_; rintro e w' ⟨rfl, rfl⟩; rewrite [k1]) | (refine ⟨(trivial : Fence.wide.fn 27), ?_⟩))
          refine ⟨(KeepsOthers.setCell _ _ _).from _, ⟨⟨rfl, ⟨i, hi⟩, by simp, okAt_k hi k1⟩, hb1.set _, hB.setCell (p := ⟨w.heap.size + 1, 0, none⟩) (Nat.le_succ _) _⟩⟩
        | true =>
          by_cases x1 : idx cs cs[i].s = (i : Int)
          · gi_wp2_with (first | (refine ⟨trivial, ?_⟩; gi_at_call 41; refine (CallsIn.inRound l (callsIn_wide.2 (cName_any _ hsz _))).mono ?_; rintro e w' ⟨rfl, rfl⟩; rewrite [n1]) | (refine ⟨trivial, ?_⟩; gi_at_call 42; refine (CallsIn.inRound l (callsIn_wide.2 (cKind_any _ _))).mono ?_; rintro e w' ⟨rfl, rfl⟩; rewrite [k1]) | (refine ⟨trivial, ?_⟩; gi_at_call 27; refine (CallsIn.inRound l (callsIn_wide.2 (cIndex_any _ _ _ cs cs[i].s _ ((H.below hB).up hB.size) (by omega)))).mono ?_; rintro e w' ⟨rfl, hbw⟩; have hb0' := boxed_below hb0 hbw; have hb1' := boxed_below hb1 hbw; have hB' := hB.trans (hbw.mono hB.size); have hc1' := hb1'.cell; have hf1' := hb1'.frozen; rewrite [x1]))
            refine ⟨keepsFrom_below hbw, hbw.mono hB.size, fun p hp' => (List.mem_append.1 hp').elim (hp p) (fun e => by simp at e; subst e; exact okAt_t hi n1 k1 x1), hb0', hb1', hB'⟩
          · gi_wp2_with (first | (refine ⟨trivial, ?_⟩; gi_at_call 41; refine (CallsIn.inRound l (callsIn_wide.2 (cName_any _ hsz _))).mono ?_; rintro e w' ⟨rfl, rfl⟩; rewrite [n1]) | (refine ⟨trivial, ?_⟩; gi_at_call 42; refine (CallsIn.inRound l (callsIn_wide.2 (cKind_any _ _))).mono ?_; rintro e w' ⟨rfl, rfl⟩; rewrite [k1]) | (refine ⟨trivial, ?_⟩; gi_at_call 27; refine (CallsIn.inRound l (callsIn_wide.2 (cIndex_any _ _ _ cs cs[i].s _ ((H.below hB).up hB.size) (by omega)))).mono ?_; rintro e w' ⟨rfl, hbw⟩; have hb0' := boxed_below hb0 hbw; have hb1' := boxed_below hb1 hbw; have hB' := hB.trans (hbw.mono hB.size); have hc1' := hb1'.cell; have hf1' := hb1'.frozen))
            refine ⟨(keepsFrom_below hbw).trans ((KeepsOthers.setCell _ _ _).from _), ⟨⟨rfl, ⟨i, hi⟩, by simp, okAt_i hi x1⟩, hb1'.set _, hB'.setCell (p := ⟨w.heap.size + 1, 0, none⟩) (Nat.le_succ _) _⟩⟩
    case done =>
      rintro D ys W hD rfl ⟨hp, hb0, hb1, hB⟩ hK
      have hc1 := hb1.cell
      have hf1 := hb1.frozen
      gi_wp2
      have hK' := (KeepsOthers.setCell W ⟨w.heap.size + 1, 0, none⟩ (.bool true)).same D _ hK rfl
      refine ⟨by simp, .inl ⟨_, _, rfl, run_takeDeferred hK', ?_⟩⟩
      have hc5 := cell_kept (hb1.set (.bool true)).cell (grownBy_putObj' _ D (.deferred none)) (fun r e => by cases e; exact ⟨_, hK', rfl⟩)
      have hm : mayC cs = true := mayC_iff.2 ⟨HL.out, fun i hi => hp ⟨i, hi⟩ (uptoF_mem hi)⟩
      rw [hm]
      refine ⟨.bool true, ?_, rfl, (hB.setCell (p := ⟨w.heap.size + 1, 0, none⟩) (Nat.le_succ _) _).trans (belowK_b (w := w) (Nat.le_refl _) _ D _ _ (by simp at hD; omega) hK' rfl rfl)⟩
      simp [results, Tryz.f25, go_sem, hc5]
    case stop =>
      rintro D c pre W hD ⟨k, hk, rfl⟩ ⟨⟨rfl, p, hp, hbad⟩, hb1, hB⟩ hK
      gi_wp2
      refine ⟨by simp, .inl ⟨_, _, rfl, run_takeDeferred hK, ?_⟩⟩
      have hc5 := cell_kept hb1.cell (grownBy_putObj' _ D (.deferred none)) (fun r e => by cases e; exact ⟨_, hK, rfl⟩)
      rw [mayC_bad p.1 p.2 hbad]
      refine ⟨.bool false, ?_, rfl, hB.trans (belowK_b (w := w) (Nat.le_refl _) W D _ _ (by simp at hD; omega) hK rfl rfl)⟩
      simp [results, Tryz.f25, go_sem, hc5]
  · have hm := mayC_len0 hl
    have HL : Kept ((cs.length : Int) < 1 ∨ 8 < (cs.length : Int)) := ⟨by omega⟩
    refine (callsIn_wide (n := 3)).1 ?_
    refine callsIn_of_wp_marks Tryz.func25 rfl trivial ?_ rfl
    simp only [Tryz.ntmps25, List.size_toArray, List.length_cons, List.length_nil, Nat.reduceAdd, Nat.reduceSub, Array.replicate_succ, Array.replicate_zero, List.push_toArray, List.append_toArray, List.nil_append, List.cons_append]
    rcases HL.out with h0 | h0
    · gi_wp2
      refine ⟨.bool false, ?_, by first | rfl | rw [hm], ((Below.refl _ w).alloc (Nat.le_refl _) _).alloc (by simp) _⟩
      simp [results, Tryz.f25, go_sem]
    · have i0 : ¬ ((cs.length : Int) < 1) := by omega
      gi_wp2
      refine ⟨.bool false, ?_, by first | rfl | rw [hm], ((Below.refl _ w).alloc (Nat.le_refl _) _).alloc (by simp) _⟩
      simp [results, Tryz.f25, go_sem]
end
end Go.Proofs.YtnidaahimofppaaGreat
