/- Layer 7 (schema): the next schema of the reference's reader, walked. -/
import Derived.Test.YthcgdlhmmgpbgaaSchD
namespace Go.Proofs.Ythcgdlhmmgpbgaa
open Go.RowKit Go.Shelf
set_option linter.unusedVariables false
set_option linter.unusedSimpArgs false

/-- A block of a column's two cells. -/
def BoxC (w : World) (b : Nat) (s : ByteArray) (k : Int) : Prop := w.heap[b]? = some (.cells #[.string s, .int .i64 k] 41 (0, 0))
theorem BoxC.lt {w : World} {b : Nat} {s : ByteArray} {k : Int} (h : BoxC w b s k) : b < w.heap.size := (Array.getElem?_eq_some_iff.1 h).1
theorem BoxC.but {w w' : World} {b g : Nat} {s : ByteArray} {k : Int} (h : BoxC w b s k) (hb : But g w w') (hne : b ≠ g) : BoxC w' b s k := (hb.block b h.lt hne).trans h
theorem BoxC.c0 {w : World} {b : Nat} {s : ByteArray} {k : Int} (h : BoxC w b s k) : w.cell? ⟨b, 0, none⟩ = some (.string s) ∧ w.cell? ⟨b, 1, none⟩ = some (.int .i64 k) ∧ w.frozen? ⟨b, 0, none⟩ = false ∧ w.frozen? ⟨b, 1, none⟩ = false := by
  refine ⟨?_, ?_, ?_, ?_⟩
  · rw [Lib.cell_of_heap h]; rfl
  · rw [Lib.cell_of_heap h]; rfl
  · exact Lib.frozen_of_heap h 0
  · exact Lib.frozen_of_heap h 1
theorem BoxC.store0 {w : World} {b : Nat} {s : ByteArray} {k : Int} (h : BoxC w b s k) (s' : ByteArray) : BoxC (w.setCell ⟨b, 0, none⟩ (.string s')) b s' k := by
  unfold BoxC at h ⊢
  rw [set_block w b 0 _ _ _ _ h]
  rfl
theorem BoxC.store1 {w : World} {b : Nat} {s : ByteArray} {k : Int} (h : BoxC w b s k) (k' : Int) : BoxC (w.setCell ⟨b, 1, none⟩ (.int .i64 k')) b s k' := by
  unfold BoxC at h ⊢
  rw [set_block w b 1 _ _ _ _ h]
  rfl
theorem Rq.boxC {w w' : World} {g b : Nat} {s : St} {k : Int} {t : ByteArray} (h : Rq w g s) (hx : BoxC w b t k) (hne : g ≠ b) (hb : But b w w') : Rq w' g s := by
  obtain ⟨A, c, ty, e1, e2, e3, e4⟩ := h.blk
  refine ⟨⟨A, c, ty, (hb.block g h.lt hne).trans e1, e2, e3, fun hn => ?_⟩, h.err, h.len⟩
  obtain ⟨bb, off, f1, f2, f3, f4⟩ := e4 hn
  have hl : 0 < s.2.length := List.length_pos_iff.2 hn
  have hbb : bb ≠ b := by
    rintro rfl
    have hc := (f4 0 hl).1
    rw [Lib.cell_of_heap hx, Nat.add_zero] at hc
    match off with
    | 0 => simp at hc
    | 1 => simp at hc
    | j + 2 => simp at hc
  refine ⟨bb, off, f1, f2, Nat.lt_of_lt_of_le f3 hb.size, fun j hj => (f4 j hj).keep (hb.block bb f3 hbb)⟩
theorem But.stepC {g p : Nat} {w w1 w' : World} (h : But g w w1) (h2 : But p w1 w') (hp : w.heap.size ≤ p) : But g w w' :=
  ⟨h2.os.trans h.os, h2.tape.trans h.tape, h2.output.trans h.output, Nat.le_trans h.size h2.size, fun k hk hg => (h2.block k (Nat.lt_of_lt_of_le hk h.size) (by omega)).trans (h.block k hk hg)⟩
theorem OwnC.setO {w : World} {B b i : Nat} {u v : Value} {xs : List Cl} (h : OwnC w B v xs) (hne : ∀ k, v.ownBlock = some k → k < b) : OwnC (w.setCell ⟨b, i, none⟩ u) B v xs :=
  ownsRow_setCell_other h (fun e => by have := hne b e; omega) u
theorem grp_mem (m i : Nat) (l : List Int) (x : Nat) (t : List Int) (h : grp m i l = .ok (x, t)) : ∀ b ∈ t, b ∈ l := by
  induction m generalizing i l x with
  | zero => simp [grp] at h
  | succ m ih =>
    cases l with
    | nil => simp [grp] at h
    | cons c r =>
      simp only [grp] at h
      split at h
      · cases h
      · split at h
        · split at h
          · cases h
          · injection h with h
            injection h with _ h
            subst h
            intro b hb
            exact List.mem_cons_of_mem _ hb
        · split at h
          · rename_i y t' h2
            injection h with h
            injection h with _ h
            subst h
            intro b hb
            exact List.mem_cons_of_mem _ (ih (i + 1) r y h2 b hb)
          · cases h
theorem grpS_mem (m : Nat) (s : St) : ∀ b ∈ (grpS m s).2.2, b ∈ s.2 := by
  intro b hb
  unfold grpS at hb
  split at hb
  · exact hb
  · split at hb
    · rename_i h
      exact grp_mem _ _ _ _ _ h b hb
    · simp at hb
theorem byteS_mem (s : St) : ∀ b ∈ (byteS s).2.2, b ∈ s.2 := by
  intro b hb
  unfold byteS at hb
  split at hb
  · exact hb
  · split at hb
    · simp at hb
    · rename_i h
      rw [h]
      exact List.mem_cons_of_mem _ hb
theorem textS_mem (k : Int) (s : St) : ∀ b ∈ (textS k s).2.2, b ∈ s.2 := by
  intro b hb
  have hg := grpS_mem 9 s
  unfold textS at hb
  simp only at hb
  split at hb
  · exact hg b hb
  · split at hb
    · simp at hb
    · split at hb
      · simp at hb
      · exact hg b (List.mem_of_mem_drop hb)
theorem byteS_range (s : St) (hs : ∀ b ∈ s.2, 0 ≤ b ∧ b ≤ 255) : ∀ b ∈ (byteS s).2.2, 0 ≤ b ∧ b ≤ 255 := fun b hb => hs b (byteS_mem s b hb)
def RqC (g : Nat) (w : World) (q : (List Cl × Int) × St) (e : Ending) (w' : World) : Prop :=
  ∃ (v : Value), e = .returned (.tuple #[v, .int .i64 q.1.2]) ∧ OwnC w' w.heap.size v q.1.1 ∧ Rq w' g q.2 ∧ But g w w'
def RqJ (g : Nat) (n : Nat) (w : World) (q : List Cl × St) (v6 v5 : Value) (wr : World) : Prop :=
  ∃ (i : Nat) (out : List Cl) (s : St), v6 = .int .i64 (i : Int) ∧ Kept (Rq wr g s) ∧ Kept (OwnC wr w.heap.size v5 out) ∧ Kept (But g w wr) ∧ Kept (i ≤ n ∧ out.length = i ∧ q = readCs (n - i) s out ∧ ∀ b ∈ s.2, 0 ≤ b ∧ b ≤ 255)
set_option maxRecDepth 100000 in
set_option maxHeartbeats 4000000 in
theorem rcRead_any (g : Nat) (s : St) (hs : ∀ b ∈ s.2, 0 ≤ b ∧ b ≤ 255) (w : World) (H : Rq w g s) :
    Calls Try.prog 30 #[.pointer (some ⟨g, 0, none⟩)] w (RqC g w (readC s)) := by
  have HR := Kept.mk H
  have HG := Kept.mk H.lt
  have HLO := Kept.mk (byteS_lo s hs)
  have HBR := Kept.mk (byteS_range s hs)
  have K1 := Kept.mk (@rc_no1 s)
  have K2 := Kept.mk (@rc_no2 s)
  have K3 := Kept.mk (@rc_in s)
  clear hs H
  go_enter Try.func30, Try.ntmps30
  go_wp2_with fail
  go_at_call 53
  refine (rByte_any g s _ HR.out).mono ?_
  rintro e w1 ⟨rfl, hR1, hB1⟩
  have hb := HLO.out
  obtain ⟨⟨b, ⟨y1, l1⟩⟩, hq1⟩ : ∃ q, q = byteS s := ⟨_, rfl⟩
  rw [← hq1] at hb hR1 HBR K1 K2 K3 ⊢
  simp only at hb hR1 HBR K1 K2 K3 ⊢
  obtain ⟨n, rfl⟩ : ∃ n : Nat, b = (n : Int) := ⟨b.toNat, by omega⟩
  have hn255 : (n : Int) ≤ 255 := hb.2
  have HR1 := Kept.mk hR1
  have HB1 := Kept.mk hB1
  obtain ⟨A1, c1, k0, k1, _, _, _, _, _⟩ := hR1.cells
  simp only at k0 k1
  clear hq1 hR1 hB1 hb HLO k0
  obtain ⟨q, hq⟩ : ∃ q, readC s = q := ⟨_, rfl⟩
  rw [hq] at K1 K2 K3
  have HQ0 := Kept.mk hq
  clear hq
  by_cases cy : y1 = 0
  · subst cy
    by_cases c8 : (n : Int) = 0 ∨ 8 < (n : Int)
    · have hv := Kept.mk (K2.out rfl c8)
      clear K1 K2 K3
      rcases c8 with c8 | c8
      · have hn : n = 0 := by omega
        subst hn
        go_wp2_with fail
        go_returns
        rw [HQ0.out, hv.out]
        exact ⟨_, rfl, OwnC.nil _ _, HR1.out, HB1.out⟩
      · have c80 : ((n : Int) == 0) = false := by rw [beq_eq_false_iff_ne]; omega
        have c81 : ¬ n = 0 := by omega
        go_wp2_with fail
        go_returns
        rw [HQ0.out, hv.out]
        exact ⟨_, rfl, OwnC.nil _ _, HR1.out, HB1.out⟩
    · have HV := Kept.mk (K3.out rfl c8)
      rw [Int.toNat_natCast] at HV
      clear K1 K2 K3
      have c80 : ((n : Int) == 0) = false := by rw [beq_eq_false_iff_ne]; omega
      have c81 : ¬ n = 0 := by omega
      have c8' : ¬ 8 < (n : Int) := by omega
      have H8 : Kept (n ≤ 8) := ⟨by omega⟩
      have hn0 : 0 ≤ (n : Int) := by omega
      clear c8
      obtain ⟨z, hz⟩ : ∃ z, readCs n (0, l1) [] = z := ⟨_, rfl⟩
      rw [hz] at HV
      have HZ := Kept.mk hz
      clear hz
      go_wp2_with fail
      have HO : Kept (OwnC (w1.alloc (.cells #[] 41)) w.heap.size (.slice (some ⟨w1.heap.size, 0, none⟩) 0 0) []) := ⟨OwnC.lit _ _ [] HB1.out.size (by simp)⟩
      have hal0 : Below w1.heap.size w1 (w1.alloc (.cells #[] 41)) := (Below.refl _ _).alloc (Nat.le_refl _) _
      have HR2 := Kept.mk (HR1.out.below hal0)
      have HB2 := Kept.mk (HB1.out.trans (But.of hal0 g))
      clear hal0 k1 HR1 HB1
      generalize w1.alloc (.cells #[] 41) = w2 at HO HR2 HB2 ⊢
      go_loopw [6, 5] (fun v6 v5 wr => RqJ g n w z v6 v5 wr) (fun v6 v5 wr => n - (intOf v6).toNat)
      case atStart => exact ⟨0, [], _, rfl, HR2, HO, HB2, ⟨Nat.zero_le _, rfl, HZ.out.symm, HBR.out⟩⟩
      case round =>
        obtain ⟨i, out, s', rfl, HRr, HOr, HBr, HI⟩ := hrel
        clear HO HR2 HB2 HZ HBR
        by_cases ci : i < n
        · have ci' : (i : Int) < (n : Int) := by omega
          have f0 : 0 ≤ (i : Int) := by omega
          have hw : wrap64 ((i : Int) + 1) = (i : Int) + 1 := by have := H8.out; simp only [wrap64]; omega
          have HCI := Kept.mk ci
          have HQ : Kept (z = readCs (n - (i + 1) + 1) s' out) := ⟨by rw [HI.out.2.2.1, show n - (i + 1) + 1 = n - i by omega]⟩
          rw [readCs] at HQ
          have HT : Kept (∀ b ∈ (textS 16 s').2.2, 0 ≤ b ∧ b ≤ 255) := ⟨fun b hb => HI.out.2.2.2 b (textS_mem 16 s' b hb)⟩
          have HRG : Kept (∀ b ∈ (byteS (textS 16 s').2).2.2, 0 ≤ b ∧ b ≤ 255) := ⟨fun b hb => HT.out b (byteS_mem _ b hb)⟩
          have hlo := byteS_lo _ HT.out
          clear ci
          go_wp2_with fail
          have hal : Below wr.heap.size wr (wr.alloc (.cells #[.string ⟨#[]⟩, .int .i64 0] 41)) := (Below.refl _ _).alloc (Nat.le_refl _) _
          have HP3 : Kept (BoxC (wr.alloc (.cells #[.string ⟨#[]⟩, .int .i64 0] 41)) wr.heap.size ⟨#[]⟩ 0) := ⟨World.alloc_heap_new wr _⟩
          have HR3 := Kept.mk (HRr.out.below hal)
          have HO3 := Kept.mk (HOr.out.below hal)
          have HB3 := Kept.mk (HBr.out.trans (But.of hal g))
          have HNE : Kept (∀ k, _ = some k → k < wr.heap.size) := ⟨fun k hk => (World.ownsRow.lt HOr.out k hk).2⟩
          have HGB : Kept (g < wr.heap.size) := ⟨HRr.out.lt⟩
          have HWB : Kept (w.heap.size ≤ wr.heap.size) := ⟨HBr.out.size⟩
          clear hal HRr HOr HBr
          generalize wr.alloc (.cells #[.string ⟨#[]⟩, .int .i64 0] 41) = w3 at HP3 HR3 HO3 HB3 ⊢
          generalize wr.heap.size = bx at HP3 HNE HGB HWB ⊢
          go_at_call 54
          refine (rText_read g s' HI.out.2.2.2 16 _ HR3.out).mono ?_
          rintro e w4 ⟨rfl, hR4, hB4⟩
          have HP4 := Kept.mk (HP3.out.but hB4 (by have := HGB.out; omega))
          have HO4 := Kept.mk (HO3.out.but hB4 HG.out)
          have HB4 := Kept.mk (HB3.out.trans hB4)
          have HR4 := Kept.mk hR4
          clear hR4 hB4 HP3 HO3 HB3 HR3
          generalize strOfNums (textS 16 s').1 = tt at HQ ⊢
          obtain ⟨p0, p1, p2, p3⟩ := HP4.out.c0
          go_wp2_with fail
          have HP5 := Kept.mk (HP4.out.store0 tt)
          have hbs : But bx w4 (w4.setCell ⟨bx, 0, none⟩ (.string tt)) := (But.refl bx w4).set 0 _
          have HR5 := Kept.mk (HR4.out.boxC HP4.out (by have := HGB.out; omega) hbs)
          have HO5 := Kept.mk (OwnC.setO (i := 0) (u := .string tt) HO4.out HNE.out)
          have HB5 := Kept.mk (HB4.out.stepC hbs HWB.out)
          clear hbs p0 p1 p2 p3 HP4 HR4 HO4 HB4
          generalize w4.setCell ⟨bx, 0, none⟩ (.string tt) = w5 at HP5 HR5 HO5 HB5 ⊢
          go_at_call 53
          refine (rByte_any g _ _ HR5.out).mono ?_
          rintro e w6 ⟨rfl, hR6, hB6⟩
          obtain ⟨⟨b4, s4⟩, hq4⟩ : ∃ q, q = byteS (textS 16 s').2 := ⟨_, rfl⟩
          rw [← hq4] at HQ hR6 HRG hlo ⊢
          simp only at HQ hR6 HRG hlo ⊢
          have hwb : wrap64 b4 = b4 := by simp only [wrap64]; omega
          have HP6 := Kept.mk (HP5.out.but hB6 (by have := HGB.out; omega))
          have HO6 := Kept.mk (HO5.out.but hB6 HG.out)
          have HB6 := Kept.mk (HB5.out.trans hB6)
          have HR6 := Kept.mk hR6
          clear hR6 hB6 HP5 HO5 HB5 HR5 hq4
          obtain ⟨p0, p1, p2, p3⟩ := HP6.out.c0
          go_upto_region 13 with fail
          have HP7 := Kept.mk (HP6.out.store1 b4)
          have hbs : But bx w6 (w6.setCell ⟨bx, 1, none⟩ (.int .i64 b4)) := (But.refl bx w6).set 1 _
          have HR7 := Kept.mk (HR6.out.boxC HP6.out (by have := HGB.out; omega) hbs)
          have HO7 := Kept.mk (OwnC.setO (i := 1) (u := .int .i64 b4) HO6.out HNE.out)
          have HB7 := Kept.mk (HB6.out.stepC hbs HWB.out)
          clear hbs p0 p1 p2 p3 HP6 HR6 HO6 HB6
          generalize w6.setCell ⟨bx, 1, none⟩ (.int .i64 b4) = w7 at HP7 HR7 HO7 HB7 ⊢
          obtain ⟨p0, p1, p2, p3⟩ := HP7.out.c0
          have hal : Below w7.heap.size w7 (w7.alloc (.cells #[.string tt, .int .i64 b4] 41)) := (Below.refl _ _).alloc (Nat.le_refl _) _
          go_wp2_with (first
            | ((at_builtin); refine app_col2 (B := w.heap.size) (W := w7) rfl (.tmp 40) (.tmp 42) 25 rfl Try.underlying25 _ out tt b4 _ ?c3 rfl rfl HO7.out ?c4 ?c5 ?_; (case c3 => rfl); (case c4 => have := HB7.out.size; omega); (case c5 => have := HI.out; have := H8.out; omega); intro v1 w8 hO8 hg8; have HO8 := Kept.mk hO8; have HR8 := Kept.mk ((HR7.out.below hal).grownC (HO7.out.below hal) HG.out hg8); have HB8 := Kept.mk ((HB7.out.trans (But.of hal g)).grown hg8 (OwnC.base HO7.out)); clear hO8 hg8))
          refine ⟨⟨i + 1, _, s4, by first | rfl | (rw [hw]; rfl), HR8, HO8, HB8, ⟨HCI.out, by have := HI.out.2.1; simp; omega, HQ.out, HRG.out⟩⟩, by first | exact less_step hw HCI.out | exact less_bare' HCI.out⟩
        · have hi : i = n := by have := HI.out.1; omega
          have HQ : Kept (z = (out, s')) := ⟨by rw [HI.out.2.2.1, hi, Nat.sub_self]; rfl⟩
          have ci' : ¬ ((i : Int) < (n : Int)) := by omega
          clear ci hi
          have HV2 := HV.out
          rw [HQ.out] at HV2
          simp only at HV2
          clear HV
          obtain ⟨A7, c7, k0, k1, k2, k3, _, _, _⟩ := HRr.out.cells
          clear k0
          by_cases cy2 : s'.1 = 0
          · rw [if_neg (by simpa using cy2)] at HV2
            have HV3 := Kept.mk HV2
            clear HV2
            rw [cy2] at k1
            have HL := Kept.mk HOr.out.has
            obtain ⟨A5, c5, rfl, _⟩ := id HL.out
            go_wp2_with fail
            go_at_call 18
            refine (rcMay_any A5 _ c5 out _ HL.out (fun _ _ => trivial)).mono ?_
            rintro e w6 ⟨rfl, hb6⟩
            have HR6 := Kept.mk (HRr.out.below hb6)
            have HO6 := Kept.mk (HOr.out.below hb6)
            have HB6 := Kept.mk (HBr.out.trans (But.of hb6 g))
            clear hb6 HRr HOr HBr HL
            cases mm : mayC out with
            | true =>
              rw [mm, if_pos rfl] at HV3
              clear mm
              go_wp2_with fail
              go_returns
              rw [HQ0.out, HV3.out]
              exact ⟨_, rfl, HO6.out, HR6.out, HB6.out⟩
            | false =>
              rw [mm, if_neg (by decide)] at HV3
              clear mm
              go_wp2_with fail
              go_returns
              rw [HQ0.out, HV3.out]
              exact ⟨_, rfl, OwnC.nil _ _, HR6.out, HB6.out⟩
          · rw [if_pos cy2] at HV2
            have HV3 := Kept.mk HV2
            clear HV2
            generalize hyy : s'.1 = yy at k1 cy2 HV3
            have d0 : (yy != 0) = true := by simp [cy2]
            have d1 : (yy == 0) = false := by simp [cy2]
            clear cy2 hyy
            go_wp2_with fail
            go_quiet (fail)
            go_wp2_with fail
            go_returns
            rw [HQ0.out, HV3.out]
            exact ⟨_, rfl, OwnC.nil _ _, HRr.out.drewN _, HBr.out.drewN _⟩
  · have hv := Kept.mk (K1.out cy)
    clear K1 K2 K3
    have d0 : (y1 != 0) = true := by simp [cy]
    have d1 : (y1 == 0) = false := by simp [cy]
    clear cy
    go_wp2_with fail
    go_quiet (fail)
    go_wp2_with fail
    go_returns
    rw [HQ0.out, hv.out]
    exact ⟨_, rfl, OwnC.nil _ _, HR1.out.drewN _, HB1.out.drewN _⟩
end Go.Proofs.Ythcgdlhmmgpbgaa
