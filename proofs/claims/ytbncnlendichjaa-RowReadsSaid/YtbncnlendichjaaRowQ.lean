/- Layer 6 (row): the next row of the reference's reader, walked. -/
import Derived.Test.YtbncnlendichjaaRowR
namespace Go.Proofs.Ytbncnlendichjaa
open Go.RowKit
set_option linter.unusedVariables false
set_option linter.unusedSimpArgs false

theorem grp_mem (m i : Nat) (l : List Int) (x : Nat) (t : List Int) (h : grp m i l = .ok (x, t)) : ∀ b ∈ t, b ∈ l := by
  induction m generalizing i l x with
  | zero => simp [grp] at h
  | succ m ih =>
    cases l with
    | nil => simp [grp] at h
    | cons c r =>
      simp only [grp] at h
      split at h
      · cases h
      · split at h
        · split at h
          · cases h
          · injection h with h
            injection h with _ h
            subst h
            intro b hb
            exact List.mem_cons_of_mem _ hb
        · split at h
          · rename_i y t' h2
            injection h with h
            injection h with _ h
            subst h
            intro b hb
            exact List.mem_cons_of_mem _ (ih (i + 1) r y h2 b hb)
          · cases h
theorem grpS_mem (m : Nat) (s : St) : ∀ b ∈ (grpS m s).2.2, b ∈ s.2 := by
  intro b hb
  unfold grpS at hb
  split at hb
  · exact hb
  · split at hb
    · rename_i h
      exact grp_mem _ _ _ _ _ h b hb
    · simp at hb
theorem byteS_mem (s : St) : ∀ b ∈ (byteS s).2.2, b ∈ s.2 := by
  intro b hb
  unfold byteS at hb
  split at hb
  · exact hb
  · split at hb
    · simp at hb
    · rename_i h
      rw [h]
      exact List.mem_cons_of_mem _ hb
theorem textS_mem (k : Int) (s : St) : ∀ b ∈ (textS k s).2.2, b ∈ s.2 := by
  intro b hb
  have hg := grpS_mem 9 s
  unfold textS at hb
  simp only at hb
  split at hb
  · exact hg b hb
  · split at hb
    · simp at hb
    · split at hb
      · simp at hb
      · exact hg b (List.mem_of_mem_drop hb)
theorem readV_mem (s : St) : ∀ b ∈ (readV s).2.2, b ∈ s.2 := by
  intro b hb
  have h1 := byteS_mem s
  have h2 := grpS_mem 10 (byteS s).2
  have h3 := textS_mem 64 (byteS s).2
  unfold readV at hb
  split at hb
  · exact h1 b hb
  · split at hb
    · split at hb
      · exact h1 b (h2 b hb)
      · exact h1 b (h2 b hb)
    · split at hb
      · split at hb
        · exact h1 b (h3 b hb)
        · exact h1 b (h3 b hb)
      · exact h1 b hb
def RqP (g : Nat) (w : World) (q : (List Vr × Int) × St) (e : Ending) (w' : World) : Prop :=
  ∃ (v : Value), e = .returned (.tuple #[v, .int .i64 q.1.2]) ∧ OwnR w' w.heap.size v q.1.1 ∧ Rq w' g q.2 ∧ But g w w'
def RqI (g : Nat) (n : Nat) (w : World) (q : (List Vr × Int) × St) (v6 v5 : Value) (wr : World) : Prop :=
  ∃ (i : Nat) (out : List Vr) (s : St), v6 = .int .i64 (i : Int) ∧ Kept (Rq wr g s) ∧ Kept (OwnR wr w.heap.size v5 out) ∧ Kept (But g w wr) ∧ Kept (i ≤ n ∧ out.length = i ∧ q = readN (n - i) s out ∧ ∀ b ∈ s.2, 0 ≤ b ∧ b ≤ 255)
set_option maxRecDepth 100000 in
set_option maxHeartbeats 4000000 in
theorem rrowRead_any (g : Nat) (s : St) (hs : ∀ b ∈ s.2, 0 ≤ b ∧ b ≤ 255) (w : World) (H : Rq w g s) :
    Calls Try.prog 24 #[.pointer (some ⟨g, 0, none⟩)] w (RqP g w (readR s)) := by
  have HR := Kept.mk H
  have HG := Kept.mk H.lt
  have HLO := Kept.mk (byteS_lo s hs)
  have HBR := Kept.mk (byteS_range s hs)
  clear hs H
  go_enter Try.func24, Try.ntmps24
  go_wp2_with fail
  go_at_call 45
  refine (rByte_any g s _ HR.out).mono ?_
  rintro e w1 ⟨rfl, hR1, hB1⟩
  have hb := HLO.out
  obtain ⟨⟨b, ⟨y1, l1⟩⟩, hq1⟩ : ∃ q, q = byteS s := ⟨_, rfl⟩
  rw [← hq1] at hb hR1 HBR ⊢
  simp only at hb hR1 HBR ⊢
  obtain ⟨n, rfl⟩ : ∃ n : Nat, b = (n : Int) := ⟨b.toNat, by omega⟩
  have hn255 : (n : Int) ≤ 255 := hb.2
  have HS1 := Kept.mk hq1
  have HR1 := Kept.mk hR1
  have HB1 := Kept.mk hB1
  obtain ⟨A1, c1, k0, k1, _, _, _, _, _⟩ := hR1.cells
  simp only at k0 k1
  clear hq1 hR1 hB1 hb HLO k0
  by_cases cy : y1 = 0
  · subst cy
    by_cases c8 : 8 < n
    · have hv : Kept (readR s = (([], 4), (0, l1))) := ⟨by
        unfold readR
        rw [← HS1.out]
        simp only [ne_eq, not_true, if_false]
        rw [if_pos (by omega)]⟩
      have c8' : 8 < (n : Int) := by omega
      clear c8
      go_wp2_with fail
      go_returns
      rw [hv.out]
      exact ⟨_, rfl, OwnR.nil _ _, HR1.out, HB1.out⟩
    · have HV : Kept (readR s = readN n (0, l1) []) := ⟨by
        unfold readR
        rw [← HS1.out]
        simp only [ne_eq, not_true, if_false]
        rw [if_neg (by omega), Int.toNat_natCast]⟩
      have c8' : ¬ 8 < (n : Int) := by omega
      have H8 : Kept (n ≤ 8) := ⟨by omega⟩
      have hn0 : 0 ≤ (n : Int) := by omega
      clear c8
      obtain ⟨q, hq⟩ : ∃ q, readR s = q := ⟨_, rfl⟩
      rw [hq] at HV
      have HQ0 := Kept.mk hq
      clear hq
      go_wp2_with fail
      have HO : Kept (OwnR (w1.alloc (.cells #[] 39)) w.heap.size (.slice (some ⟨w1.heap.size, 0, none⟩) 0 0) []) := ⟨OwnR.lit _ _ [] HB1.out.size (by simp)⟩
      have hal0 : Below w1.heap.size w1 (w1.alloc (.cells #[] 39)) := (Below.refl _ _).alloc (Nat.le_refl _) _
      have HR2 := Kept.mk (HR1.out.below hal0)
      have HB2 := Kept.mk (HB1.out.trans (But.of hal0 g))
      clear hal0 k1 HR1 HB1
      generalize w1.alloc (.cells #[] 39) = w2 at HO HR2 HB2 ⊢
      go_loopw [6, 5] (fun v6 v5 wr => RqI g n w q v6 v5 wr) (fun v6 v5 wr => n - (intOf v6).toNat)
      case atStart => exact ⟨0, [], _, rfl, HR2, HO, HB2, ⟨Nat.zero_le _, rfl, HV.out, HBR.out⟩⟩
      case round =>
        obtain ⟨i, out, s', rfl, HRr, HOr, HBr, HI⟩ := hrel
        clear HO HR2 HB2 HV HS1 HBR
        by_cases ci : i < n
        · have ci' : (i : Int) < (n : Int) := by omega
          have f0 : 0 ≤ (i : Int) := by omega
          have hw : wrap64 ((i : Int) + 1) = (i : Int) + 1 := by have := H8.out; simp only [wrap64]; omega
          have HCI := Kept.mk ci
          have HQ : Kept (q = readN (n - (i + 1) + 1) s' out) := ⟨by rw [HI.out.2.2.1, show n - (i + 1) + 1 = n - i by omega]⟩
          have HRG : Kept (∀ b ∈ (readV s').2.2, 0 ≤ b ∧ b ≤ 255) := ⟨fun b hb => HI.out.2.2.2 b (readV_mem s' b hb)⟩
          clear ci
          go_wp2_with fail
          go_at_call 46
          refine (rread_val g s' HI.out.2.2.2 _ HRr.out).mono ?_
          rintro e w3 ⟨rfl, hR3, hB3⟩
          rw [readN] at HQ
          obtain ⟨⟨⟨k5, n5, t5, e5⟩, s5⟩, hq5⟩ : ∃ z, z = readV s' := ⟨_, rfl⟩
          rw [← hq5] at HQ hR3 HRG ⊢
          simp only at HQ hR3 HRG ⊢
          have HR3 := Kept.mk hR3
          have HO3 := Kept.mk (HOr.out.but hB3 HG.out)
          have HB3 := Kept.mk (HBr.out.trans hB3)
          clear hR3 hB3 hq5
          by_cases ce : e5 = 0
          · subst ce
            have HQ2 : Kept (q = readN (n - (i + 1)) s5 (out ++ [⟨k5, n5, t5⟩])) := ⟨by rw [HQ.out]; simp⟩
            have hal : Below w3.heap.size w3 (w3.alloc (.cells #[.int .i64 k5, .int .i64 n5, .string t5] 39)) := (Below.refl _ _).alloc (Nat.le_refl _) _
            have HR4 := Kept.mk (HR3.out.below hal)
            have HO4 := Kept.mk (HO3.out.below hal)
            have HB4 := Kept.mk (HB3.out.trans (But.of hal g))
            clear HR3 HO3 HQ hal
            go_wp2_with (first
              | ((at_builtin); refine app_val2 (B := w.heap.size) (W := w3.alloc (.cells #[.int .i64 k5, .int .i64 n5, .string t5] 39)) rfl (.tmp 37) (.tmp 39) 23 rfl Try.underlying23 _ out k5 n5 t5 _ ?c3 rfl rfl HO4.out ?c4 ?c5 ?_; (case c3 => rw [World.size_alloc]); (case c4 => have := HB3.out.size; rw [World.size_alloc]; omega); (case c5 => have := HI.out; have := H8.out; omega); intro v1 w5 hO5 hg5; have HO5 := Kept.mk hO5; have hal2 : Below (w3.alloc (.cells #[.int .i64 k5, .int .i64 n5, .string t5] 39)).heap.size (w3.alloc (.cells #[.int .i64 k5, .int .i64 n5, .string t5] 39)) ((w3.alloc (.cells #[.int .i64 k5, .int .i64 n5, .string t5] 39)).alloc (.cells #[.int .i64 k5, .int .i64 n5, .string t5] 39)) := (Below.refl _ _).alloc (Nat.le_refl _) _; have HR5 := Kept.mk ((HR4.out.below hal2).grown (HO4.out.below hal2) HG.out hg5); have HB5 := Kept.mk ((HB4.out.trans (But.of hal2 g)).grown hg5 (OwnR.base HO4.out)); clear hO5 hg5 hal2))
            refine ⟨⟨i + 1, _, s5, by first | rfl | (rw [hw]; rfl), HR5, HO5, HB5, ⟨HCI.out, by have := HI.out.2.1; simp; omega, HQ2.out, HRG.out⟩⟩, by first | exact less_step hw HCI.out | (have := HCI.out; simp only [intOf]; omega)⟩
          · have ce' : (e5 != 0) = true := by simp [ce]
            have HQ2 : Kept (q = (([], e5), s5)) := ⟨by rw [HQ.out, if_pos ce]⟩
            clear ce
            go_wp2_with fail
            go_returns
            have hal : Below w3.heap.size w3 (w3.alloc (.cells #[.int .i64 k5, .int .i64 n5, .string t5] 39)) := (Below.refl _ _).alloc (Nat.le_refl _) _
            rw [HQ0.out, HQ2.out]
            exact ⟨_, rfl, OwnR.nil _ _, HR3.out.below hal, HB3.out.trans (But.of hal g)⟩
        · have hi : i = n := by have := HI.out.1; omega
          have HQ : Kept (q = ((out, 0), s')) := ⟨by rw [HI.out.2.2.1, hi, Nat.sub_self]; rfl⟩
          have ci' : ¬ ((i : Int) < (n : Int)) := by omega
          clear ci hi
          go_wp2_with fail
          go_returns
          rw [HQ0.out, HQ.out]
          exact ⟨_, rfl, HOr.out, HRr.out, HBr.out⟩
  · have hv : Kept (readR s = (([], y1), (y1, l1))) := ⟨by
      unfold readR
      rw [← HS1.out]
      simp only
      rw [if_pos cy]⟩
    have d0 : (y1 != 0) = true := by simp [cy]
    have d1 : (y1 == 0) = false := by simp [cy]
    clear cy
    go_wp2_with fail
    go_quiet (fail)
    go_wp2_with fail
    go_returns
    rw [hv.out]
    exact ⟨_, rfl, OwnR.nil _ _, HR1.out.drewN _, HB1.out.drewN _⟩
end Go.Proofs.Ytbncnlendichjaa
