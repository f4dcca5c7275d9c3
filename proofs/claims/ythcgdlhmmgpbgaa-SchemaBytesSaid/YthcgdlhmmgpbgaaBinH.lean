/- The reference's reader (layer 3): groups, numbers, texts. -/
import Derived.Test.YthcgdlhmmgpbgaaBinQ
namespace Go.Proofs.Ythcgdlhmmgpbgaa
open Go.RowKit
set_option linter.unusedVariables false
set_option linter.unusedSimpArgs false

/-- The number of groups, the lowest ones first. -/
def dec : List Int → Nat
  | [] => 0
  | b :: p => (b % 128).toNat + 128 * dec p
theorem grp_dec (m i : Nat) (l : List Int) (hl : ∀ b ∈ l, 0 ≤ b ∧ b ≤ 255) (x : Nat) (t : List Int) (h : grp m i l = .ok (x, t)) : ∃ p, l = p ++ t ∧ x = dec p := by
  induction m generalizing i l x with
  | zero => simp [grp] at h
  | succ m ih =>
    cases l with
    | nil => simp [grp] at h
    | cons b r =>
      have hb := hl b (by simp)
      simp only [grp] at h
      split at h
      · cases h
      · split at h
        · split at h
          · cases h
          · simp only [Except.ok.injEq, Prod.mk.injEq] at h
            obtain ⟨rfl, rfl⟩ := h
            refine ⟨[b], rfl, ?_⟩
            simp only [dec]; omega
        · split at h
          · rename_i y t' he
            simp only [Except.ok.injEq, Prod.mk.injEq] at h
            obtain ⟨rfl, rfl⟩ := h
            obtain ⟨p, e, ey⟩ := ih (i + 1) r (fun b hb => hl b (by simp [hb])) y he
            exact ⟨b :: p, by rw [e]; rfl, by rw [ey]; rfl⟩
          · cases h
theorem dec_drop_le (p : List Int) (k : Nat) : dec (p.drop k) ≤ dec p := by
  induction p generalizing k with
  | nil => simp
  | cons b p ih =>
    cases k with
    | zero => simp
    | succ k => simp only [List.drop_succ_cons, dec]; have := ih k; omega
theorem dec_step (p : List Int) (k : Nat) (b : Int) (h : p[k]? = some b) : dec (p.drop k) = (b % 128).toNat + 128 * dec (p.drop (k + 1)) := by
  have hk := (List.getElem?_eq_some_iff.1 h).1
  rw [List.drop_eq_getElem_cons hk]
  have := List.getElem?_eq_getElem hk
  rw [h] at this
  injection this with this
  rw [← this]
  rfl

theorem grp_err (m i : Nat) (l : List Int) : grp m i l ≠ .error 0 := by
  induction m generalizing i l with
  | zero => simp [grp]
  | succ m ih =>
    cases l with
    | nil => simp [grp]
    | cons b t =>
      simp only [grp]
      split
      · simp
      · split
        · split <;> simp
        · have := ih (i + 1) t
          split
          · simp
          · rename_i he; rw [he] at this; simpa using this
def GrI (p : List Int) (v7 v8 : Value) (wr w : World) : Prop :=
  ∃ (k x : Nat), v8 = .int .i64 ((k : Int) - 1) ∧ v7 = .int .u64 (x : Int) ∧ wr = w ∧ Kept (k ≤ p.length) ∧ Kept (x = dec (p.drop k))

set_option maxRecDepth 100000 in
set_option maxHeartbeats 1000000 in
theorem rGroupsR_any (g : Nat) (s : St) (hs : ∀ b ∈ s.2, 0 ≤ b ∧ b ≤ 255) (m : Nat) (hm : m ≤ 10) (w : World) (H : Rq w g s) :
    Calls Try.prog 79 #[.pointer (some ⟨g, 0, none⟩), .int .i64 (m : Int)] w (fun r w' => r = .returned (.int .u64 ((grpS m s).1 : Int)) ∧ Rq w' g (grpS m s).2 ∧ But g w w') := by
  obtain ⟨y, l⟩ := s
  obtain ⟨A, c, h0, h1, hf0, hf1, hc, hcm, hd⟩ := H.cells
  simp only at h0 h1 hc hd hs
  have hlt := (grpS_lt m hm (y, l) hs).1
  have HK := Kept.mk H
  have HD := Kept.mk hd
  have HX := Kept.mk hs
  have HM := Kept.mk hm
  have HLT := Kept.mk hlt
  clear H hd hs hm hlt
  go_enter Try.func79, Try.ntmps79
  by_cases cy : y = 0
  · subst cy
    go_wp2_with fail
    go_at_call 85
    refine (rMany_any g l HX.out m HM.out _ HK.out).mono ?_
    rintro e w1 ⟨rfl, rfl⟩
    cases hg : grp m 0 l with
    | error er =>
      have e1 : manyS m l = (0, er) := by unfold manyS; rw [hg]
      have e2 : grpS m (0, l) = (0, (er, [])) := by unfold grpS; simp only [ne_eq, not_true, if_false, hg]
      have E2 := Kept.mk e2
      simp only [e1]
      have hne : er ≠ 0 := fun h => grp_err m 0 l (by rw [hg, h])
      have d0 : (er == 0) = false := by simp [hne]
      clear e1 e2 hne hg
      go_wp2_with (first | (go_at_call 69; refine (rFail_any g (0, l) er _ HK.out).mono ?_; rintro r w2 ⟨⟨v, rfl⟩, H3, hB3⟩))
      go_ret
      rw [E2.out]
      exact ⟨rfl, H3, hB3⟩
    | ok q =>
      obtain ⟨x, t⟩ := q
      obtain ⟨p, hp, hx⟩ := grp_dec m 0 l HX.out x t hg
      have hn : l.length - t.length = p.length := by rw [hp, List.length_append]; omega
      have e1 : manyS m l = (p.length, 0) := by unfold manyS; rw [hg]; simp only [hn]
      have e2 : grpS m (0, l) = (x, (0, t)) := by unfold grpS; simp only [ne_eq, not_true, if_false, hg]
      have E2 := Kept.mk e2
      simp only [e1]
      clear e1 e2 hg hn
      have hll := HK.out.len
      simp only at hll
      have hpl : p.length ≤ l.length := by rw [hp, List.length_append]; omega
      have hw : wrap64 ((p.length : Int) - 1) = (p.length : Int) - 1 := by simp only [wrap64]; omega
      have HP := Kept.mk hp
      have HPL := Kept.mk hpl
      have HXD := Kept.mk hx
      clear hp hpl hx
      go_wp2
      go_loopw [7, 8] (fun v7 v8 wr => GrI p v7 v8 wr w) (fun v7 v8 wr => (intOf v8 + 1).toNat)
      case atStart => exact ⟨p.length, 0, by rw [hw], rfl, rfl, ⟨Nat.le_refl _⟩, ⟨by simp [dec]⟩⟩
      case round =>
        obtain ⟨k, z, rfl, rfl, rfl, HKK, HZ⟩ := hrel
        clear hw
        have hpl : p.length ≤ l.length := HPL.out
        rcases Nat.eq_zero_or_pos k with hk0 | hk0
        · subst hk0
          have hz : z = x := by rw [HZ.out, HXD.out]; rfl
          subst hz
          have ci : ¬ (0 ≤ ((0 : Nat) : Int) - 1) := by omega
          have hdr : l.drop p.length = t := by rw [HP.out, List.drop_left]
          by_cases cc : c = p.length
          · have k := HK.out.skip p.length hpl A c h0 A (fun h => absurd h (by omega))
            rw [hdr] at k
            have KK := Kept.mk k
            clear k hdr
            subst cc
            go_wp2
            go_ret
            rw [E2.out]
            refine ⟨rfl, ?_, (But.refl _ _).set _ _⟩
            have k := KK.out
            rw [Nat.sub_self, show l.length - p.length = 0 by omega] at k
            exact k
          · have k := HK.out.skip p.length hpl A c h0 (A.map fun x => x.add p.length) (fun _ b off e => by rw [e]; simp [Addr.add_lit])
            rw [hdr] at k
            have KK := Kept.mk k
            clear k hdr
            go_wp2
            go_ret
            rw [E2.out]
            exact ⟨rfl, KK.out, (But.refl _ _).set _ _⟩
        · obtain ⟨k, rfl⟩ : ∃ k', k = k' + 1 := ⟨k - 1, by omega⟩
          have hkp : k < p.length := HKK.out
          have hkl : k < l.length := by omega
          have hne : l ≠ [] := by rintro rfl; simp at hkl
          obtain ⟨bb, off, hA, hnb, hltb, hcell⟩ := HD.out hne
          subst hA
          obtain ⟨b, hb0⟩ : ∃ b, l[k]? = some b := ⟨_, List.getElem?_eq_getElem hkl⟩
          obtain ⟨hb1, hb2⟩ := HX.out b (List.mem_of_getElem? hb0)
          have hcb := hcell k hkl
          rw [List.getD_eq_getElem?_getD, hb0] at hcb
          simp only [Option.getD_some] at hcb
          have hpb : p[k]? = some b := by rw [← hb0, HP.out, List.getElem?_append_left hkp]
          have hs := dec_step p k b hpb
          have hle := dec_drop_le p k
          have hx64 : dec p < 18446744073709551616 := by have h := HLT.out; rw [E2.out] at h; rw [← HXD.out]; exact h
          have hz := HZ.out
          have HZ2 : Kept (((z : Int) * 128 + b % 128) = ((dec (p.drop k) : Nat) : Int)) := ⟨by rw [hz, hs]; omega⟩
          have hzb : z * 128 + (b % 128).toNat < 18446744073709551616 := by rw [hz]; omega
          have ek : ((k + 1 : Nat) : Int) - 1 = (k : Int) := by omega
          rw [ek]
          have f0 : 0 ≤ (k : Int) := by omega
          have f1 : (k : Int) < (l.length : Int) := by omega
          clear hcell hb0 hpb hs hle hz hx64 hne ek
          go_wp2
          go_roundw
          case rel => exact ⟨k, dec (p.drop k), rfl, by rw [HZ2.out], rfl, ⟨by omega⟩, ⟨rfl⟩⟩
          case measure => first | (simp [intOf]; done) | (simp [intOf]; omega)
  · go_wp2
    go_ret
    have e : grpS m (y, l) = (0, (y, l)) := by simp [grpS, cy]
    rw [e]
    exact ⟨rfl, HK.out, But.refl _ _⟩

set_option maxRecDepth 100000 in
set_option maxHeartbeats 1000000 in
theorem rNum_read (g : Nat) (s : St) (hs : ∀ b ∈ s.2, 0 ≤ b ∧ b ≤ 255) (w : World) (H : Rq w g s) :
    Calls Try.prog 70 #[.pointer (some ⟨g, 0, none⟩)] w (fun r w' => r = .returned (.int .i64 ((grpS 9 s).1 : Int)) ∧ Rq w' g (grpS 9 s).2 ∧ But g w w') := by
  have hb := (grpS_lt 9 (by decide) s hs).2 (by decide)
  go_enter Try.func70, Try.ntmps70
  go_wp2_with fail
  go_at_call 79
  refine (rGroupsR_any g s hs 9 (by decide) _ H).mono ?_
  rintro e w1 ⟨rfl, H2, hB2⟩
  go_wp2
  go_ret
  exact ⟨rfl, H2, hB2⟩

end Go.Proofs.Ythcgdlhmmgpbgaa
