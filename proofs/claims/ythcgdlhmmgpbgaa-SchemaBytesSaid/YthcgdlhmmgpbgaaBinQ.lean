/- The reference's reader (layer 3): a struct of two cells (what is not read yet, the first error). -/
import Derived.Test.YthcgdlhmmgpbgaaBinB
namespace Go.Proofs.Ythcgdlhmmgpbgaa
open Go.RowKit
set_option linter.unusedVariables false
set_option linter.unusedSimpArgs false

/-- The reference's reader at g is in this state. -/
structure Rq (w : World) (g : Nat) (s : St) : Prop where
  blk : ∃ A c ty, w.heap[g]? = some (.cells #[.slice A s.2.length c, .int .i64 s.1] ty (0, 0)) ∧ s.2.length ≤ c ∧ c ≤ maxLen ∧ (s.2 ≠ [] → ∃ b off, A = some ⟨b, off, none⟩ ∧ b ≠ g ∧ b < w.heap.size ∧ ∀ j, j < s.2.length → BytAt w b (off + j) (s.2.getD j 0))
  err : s.1 ≠ 0 → s.2 = []
  len : s.2.length ≤ 140737488355328
theorem Rq.lt {w : World} {g : Nat} {s : St} (h : Rq w g s) : g < w.heap.size := by
  obtain ⟨A, c, ty, h1, _⟩ := h.blk
  exact (Array.getElem?_eq_some_iff.1 h1).1
theorem Rq.cells {w : World} {g : Nat} {s : St} (h : Rq w g s) : ∃ A c,
    w.cell? ⟨g, 0, none⟩ = some (.slice A s.2.length c) ∧ w.cell? ⟨g, 1, none⟩ = some (.int .i64 s.1) ∧
    w.frozen? ⟨g, 0, none⟩ = false ∧ w.frozen? ⟨g, 1, none⟩ = false ∧ s.2.length ≤ c ∧ c ≤ maxLen ∧ (s.2 ≠ [] → ∃ b off, A = some ⟨b, off, none⟩ ∧ b ≠ g ∧ b < w.heap.size ∧ ∀ j, j < s.2.length → w.cell? ⟨b, off + j, none⟩ = some (.int .u8 (s.2.getD j 0))) := by
  obtain ⟨A, c, ty, h1, h2, h3, h4⟩ := h.blk
  refine ⟨A, c, ?_, ?_, ?_, ?_, h2, h3, fun hne => by
    obtain ⟨b, off, e, e1, e2, e3⟩ := h4 hne
    exact ⟨b, off, e, e1, e2, fun j hj => (e3 j hj).1⟩⟩
  all_goals first | (simp only [World.cell?, h1]; rfl) | (simp only [World.frozen?, h1]; rfl)
theorem Rq.kept {w w' : World} {g : Nat} {s : St} (h : Rq w g s) (hb : w'.heap[g]? = w.heap[g]?) (ho : But g w w') : Rq w' g s := by
  obtain ⟨A, c, ty, h1, h2, h3, h4⟩ := h.blk
  refine ⟨⟨A, c, ty, hb.trans h1, h2, h3, fun hne => ?_⟩, h.err, h.len⟩
  obtain ⟨b, off, e, e1, e2, e3⟩ := h4 hne
  refine ⟨b, off, e, e1, Nat.lt_of_lt_of_le e2 ho.size, fun j hj => (e3 j hj).keep (ho.block b e2 e1)⟩
theorem Rq.below {w w' : World} {g : Nat} {s : St} (h : Rq w g s) (hb : Below w.heap.size w w') : Rq w' g s :=
  h.kept (hb.block g h.lt) (But.of hb g)
theorem Rq.drew {w : World} {g : Nat} {s : St} (h : Rq w g s) : Rq w.drew g s := h.below (Below.refl _ _).drew
theorem Rq.drewN {w : World} {g : Nat} {s : St} (h : Rq w g s) (n : Nat) : Rq (w.drewN n) g s := h.below (below_drewN (Below.refl _ _) n)
/-- An error: nothing is left. -/
theorem Rq.fail {w : World} {g : Nat} {s : St} (h : Rq w g s) (e : Int) : Rq ((w.setCell ⟨g, 0, none⟩ (.slice none 0 0)).setCell ⟨g, 1, none⟩ (.int .i64 e)) g (e, []) := by
  obtain ⟨A, c, ty, h1, _⟩ := h.blk
  refine ⟨⟨none, 0, ty, ?_, by simp, by simp, fun h => absurd rfl h⟩, fun _ => rfl, by simp⟩
  rw [set_block _ g 1 _ _ ty _ (set_block w g 0 _ _ ty _ h1)]
  rfl
/-- n bytes have been read. -/
theorem Rq.skip {w : World} {g : Nat} {l : List Int} (h : Rq w g (0, l)) (n : Nat) (hn : n ≤ l.length) (A : Option Addr) (c : Nat) (h0 : w.cell? ⟨g, 0, none⟩ = some (.slice A l.length c)) (A' : Option Addr) (hA : n < c → ∀ b off, A = some ⟨b, off, none⟩ → A' = some ⟨b, off + n, none⟩) :
    Rq (w.setCell ⟨g, 0, none⟩ (.slice A' (l.length - n) (c - n))) g (0, l.drop n) := by
  obtain ⟨A1, c1, ty, h1, h2, h3, h4⟩ := h.blk
  have e : w.cell? ⟨g, 0, none⟩ = some (.slice A1 l.length c1) := by simp only [World.cell?, h1]; rfl
  rw [h0] at e
  simp only [Option.some.injEq, Value.slice.injEq, true_and] at e
  obtain ⟨rfl, rfl⟩ := e
  simp only at h2
  refine ⟨⟨A', c - n, ty, ?_, ?_, by omega, fun hne => ?_⟩, fun h => absurd rfl h, ?_⟩
  · rw [set_block w g 0 _ _ ty _ h1, List.length_drop]; rfl
  · simp only [List.length_drop]; omega
  · have hlt : n < l.length := by
      rcases Nat.lt_or_ge n l.length with h | h
      · exact h
      · exact absurd (List.drop_eq_nil_of_le h) hne
    have hln : l ≠ [] := by rintro rfl; simp at hlt
    obtain ⟨b, off, e, e1, e2, e3⟩ := h4 hln
    refine ⟨b, off + n, hA (by omega) b off e, e1, by simpa using e2, fun j hj => ?_⟩
    simp only [List.length_drop] at hj ⊢
    have h := (e3 (n + j) (by simp only; omega)).keep (Below.heap_setCell w ⟨g, 0, none⟩ (.slice A' (l.length - n) (c - n)) b e1)
    have eg : (l.drop n).getD j 0 = l.getD (n + j) 0 := by simp only [List.getD_eq_getElem?_getD, List.getElem?_drop]
    rw [show off + n + j = off + (n + j) by omega, eg]
    exact h
  · have := h.len
    simp only [List.length_drop] at this ⊢
    omega

set_option maxRecDepth 100000 in
set_option maxHeartbeats 1000000 in
theorem rFail_any (g : Nat) (s : St) (e : Int) (w : World) (H : Rq w g s) :
    Calls Try.prog 69 #[.pointer (some ⟨g, 0, none⟩), .int .i64 e] w (fun r w' => (∃ v, r = .returned v) ∧ Rq w' g (e, []) ∧ But g w w') := by
  obtain ⟨A, c, h0, h1, hf0, hf1, _⟩ := H.cells
  go_enter Try.func69, Try.ntmps69
  go_wp2
  go_returns
  refine ⟨⟨_, rfl⟩, H.fail e, ?_⟩
  exact ((But.refl _ _).set _ _).set _ _

set_option maxRecDepth 100000 in
set_option maxHeartbeats 1000000 in
theorem rByte_any (g : Nat) (s : St) (w : World) (H : Rq w g s) :
    Calls Try.prog 53 #[.pointer (some ⟨g, 0, none⟩)] w (fun r w' => r = .returned (.int .u8 (byteS s).1) ∧ Rq w' g (byteS s).2 ∧ But g w w') := by
  obtain ⟨y, l⟩ := s
  obtain ⟨A, c, h0, h1, hf0, hf1, hc, hcm, hd⟩ := H.cells
  simp only at h0 h1 hc hd
  have HD := Kept.mk hd
  have HK := Kept.mk H
  clear hd H
  go_enter Try.func53, Try.ntmps53
  by_cases cy : y = 0
  · subst cy
    cases l with
    | nil =>
      simp only [List.length_nil] at h0
      go_wp2_with (first | (go_at_call 69; refine (rFail_any g (0, []) 5 _ HK.out).mono ?_; rintro r w2 ⟨⟨v, rfl⟩, H3, hB3⟩))
      go_ret
      exact ⟨rfl, H3, hB3⟩
    | cons b t =>
      obtain ⟨bb, off, hA, hne, hlt, hcell⟩ := HD.out (by simp)
      subst hA
      have hb0 := hcell 0 (by simp)
      simp only [Nat.add_zero, List.getD_cons_zero] at hb0
      simp only [List.length_cons] at h0 hc hcell
      have hlen := HK.out.len
      simp only [List.length_cons] at hlen
      have f1 : ((((t.length : Nat) : Int) + 1) == 0) = false := by simp; omega
      have f2 : (1 : Int) ≤ ((t.length + 1 : Nat) : Int) := by omega
      have f3 : ((t.length + 1 : Nat) : Int) ≤ (c : Int) := by omega
      have HC := Kept.mk hcell
      clear hcell
      by_cases c1 : c = 1
      · subst c1
        go_wp2
        go_ret
        refine ⟨rfl, ?_, (But.refl _ _).set _ _⟩
        have k := HK.out.skip 1 (by simp) (some ⟨bb, off, none⟩) 1 (by simpa using h0) (some ⟨bb, off, none⟩) (fun h => absurd h (by omega))
        have ht : t = [] := List.eq_nil_of_length_eq_zero (by omega)
        subst ht
        simpa [byteS] using k
      · go_wp2
        go_ret
        refine ⟨rfl, ?_, (But.refl _ _).set _ _⟩
        have k := HK.out.skip 1 (by simp) (some ⟨bb, off, none⟩) c (by simpa using h0) (some ⟨bb, off + 1, none⟩) (fun _ b' off' e => by injection e with e; injection e with e1 e2; rw [← e1, ← e2])
        simpa [byteS] using k
  · go_wp2
    go_ret
    have e : byteS (y, l) = (0, (y, l)) := by simp [byteS, cy]
    rw [e]
    exact ⟨rfl, HK.out, But.refl _ _⟩

/-- What 'many' says: how many bytes the groups have, and the error. -/
def manyS (m : Nat) (l : List Int) : Nat × Int :=
  match grp m 0 l with
  | .ok (_, t) => (l.length - t.length, 0)
  | .error e => (0, e)
/-- The groups from i on, of l's bytes from i on. -/
def ManyI (m : Nat) (l : List Int) (v : Value) (wr w : World) : Prop :=
  ∃ i : Nat, v = .int .i64 (i : Int) ∧ wr = w ∧ Kept (i ≤ m) ∧ Kept (i ≤ l.length) ∧ Kept (manyS m l = (match grp (m - i) i (l.drop i) with | .ok (_, t) => (l.length - t.length, 0) | .error e => (0, e)))

set_option maxRecDepth 100000 in
set_option maxHeartbeats 1000000 in
theorem rMany_any (g : Nat) (l : List Int) (hl : ∀ b ∈ l, 0 ≤ b ∧ b ≤ 255) (m : Nat) (hm : m ≤ 10) (w : World) (H : Rq w g (0, l)) :
    Calls Try.prog 85 #[.pointer (some ⟨g, 0, none⟩), .int .i64 (m : Int)] w (fun r w' => r = .returned (.tuple #[.int .i64 ((manyS m l).1 : Int), .int .i64 (manyS m l).2]) ∧ w = w') := by
  obtain ⟨A, c, h0, h1, hf0, hf1, hc, hcm, hd⟩ := H.cells
  simp only at h0 h1 hc hd
  have HD := Kept.mk hd
  have HM := Kept.mk hm
  have HX := Kept.mk hl
  have HL := Kept.mk H.len
  clear hd hm hl H
  go_enter Try.func85, Try.ntmps85
  go_wp2
  go_loopw [6] (fun v6 wr => ManyI m l v6 wr w) (fun v6 wr => m - (intOf v6).toNat)
  case atStart => exact ⟨0, rfl, rfl, ⟨Nat.zero_le _⟩, ⟨Nat.zero_le _⟩, ⟨by simp [manyS]⟩⟩
  case round =>
    obtain ⟨i, rfl, rfl, HI, HI2, HG⟩ := hrel
    by_cases ci : i < m
    · have HCI := Kept.mk ci
      have ci' : (i : Int) < (m : Int) := by omega
      by_cases cl : l.length ≤ i
      · have cl' : (l.length : Int) ≤ (i : Int) := by omega
        have e : manyS m l = (0, 5) := by
          rw [HG.out, show m - i = (m - (i + 1)) + 1 by omega, List.drop_eq_nil_of_le cl]
          rfl
        have E := Kept.mk e
        clear ci cl e
        go_wp2
        go_returns
        exact ⟨by rw [E.out]; rfl, rfl⟩
      · have hi : i < l.length := by omega
        have hne : l ≠ [] := by rintro rfl; simp at hi
        obtain ⟨bb, off, hA, hnb, hlt, hcell⟩ := HD.out hne
        subst hA
        obtain ⟨b, hb0⟩ : ∃ b, l[i]? = some b := ⟨_, List.getElem?_eq_getElem hi⟩
        obtain ⟨hb1, hb2⟩ := HX.out b (List.mem_of_getElem? hb0)
        have hcb := hcell i hi
        rw [List.getD_eq_getElem?_getD, hb0] at hcb
        simp only [Option.getD_some] at hcb
        have hdrop : l.drop i = b :: l.drop (i + 1) := by
          rw [List.drop_eq_getElem_cons hi]
          have := List.getElem?_eq_getElem hi
          rw [hb0] at this
          injection this with this
          rw [← this]
        have HDr := Kept.mk hdrop
        have cl' : (i : Int) < (l.length : Int) := by omega
        have f0 : 0 ≤ (i : Int) := by omega
        clear hcell hdrop hb0 hne ci cl hi
        have hi9 : i ≤ 9 := by have := HM.out; have := HCI.out; omega
        have hm1 : m - i = (m - (i + 1)) + 1 := by have := HCI.out; omega
        have hll : l.length - (l.drop (i + 1)).length = i + 1 := by rw [List.length_drop]; omega
        have HSP : Kept (manyS m l = (match grp (m - (i + 1) + 1) i (b :: l.drop (i + 1)) with | .ok (_, t) => (l.length - t.length, 0) | .error e => (0, e))) := ⟨by rw [HG.out, hm1, HDr.out]⟩
        have HLL := Kept.mk hll
        clear hm1 hll
        have hw : wrap64 ((i : Int) + 1) = (i : Int) + 1 := by simp only [wrap64]; omega
        by_cases c1 : i = 9 ∧ 1 < b
        · have E : Kept (manyS m l = (0, 4)) := ⟨by rw [HSP.out]; simp only [grp, if_pos c1]⟩
          have d9 : ((i : Int) == 9) = true := by simp; omega
          have c1' := c1.2
          clear c1
          go_wp2
          go_returns
          exact ⟨by rw [E.out]; rfl, rfl⟩
        · by_cases c128 : b < 128
          · by_cases c0 : b = 0 ∧ 0 < i
            · have E : Kept (manyS m l = (0, 4)) := ⟨by rw [HSP.out]; simp only [grp, if_neg c1, if_pos c128, if_pos c0]⟩
              have d0 : (b == 0) = true := by simp [c0.1]
              have ci0 : 0 < (i : Int) := by omega
              have c1' : b ≤ 1 := by omega
              clear c0 c1
              by_cases c9 : i = 9
              · have d9 : ((i : Int) == 9) = true := by simp; omega
                clear c9
                go_wp2
                go_returns
                exact ⟨by rw [E.out]; rfl, rfl⟩
              · have d9 : ((i : Int) == 9) = false := by simp; omega
                clear c9
                go_wp2
                go_returns
                exact ⟨by rw [E.out]; rfl, rfl⟩
            · have E : Kept (manyS m l = (i + 1, 0)) := ⟨by rw [HSP.out]; simp only [grp, if_neg c1, if_pos c128, if_neg c0]; rw [HLL.out]⟩
              by_cases c9 : i = 9
              · have d9 : ((i : Int) == 9) = true := by simp; omega
                have d0 : (b == 0) = false := by simp; omega
                have ci0 : 0 < (i : Int) := by omega
                have c1' : b ≤ 1 := Decidable.byContradiction fun h => c1 ⟨c9, by omega⟩
                clear c9 c0 c1
                go_wp2
                go_returns
                exact ⟨by rw [E.out]; simp, rfl⟩
              · have d9 : ((i : Int) == 9) = false := by simp; omega
                clear c9
                by_cases cz : i = 0
                · have ci0 : (i : Int) ≤ 0 := by omega
                  clear c0 c1 cz
                  go_wp2
                  go_returns
                  exact ⟨by rw [E.out]; simp, rfl⟩
                · have ci0 : 0 < (i : Int) := by omega
                  have d0 : (b == 0) = false := by simp; omega
                  clear c0 c1 cz
                  go_wp2
                  go_returns
                  exact ⟨by rw [E.out]; simp, rfl⟩
          · have E : Kept (manyS m l = (match grp (m - (i + 1)) (i + 1) (l.drop (i + 1)) with | .ok (_, t) => (l.length - t.length, 0) | .error e => (0, e))) := ⟨by
              rw [HSP.out]
              simp only [grp, if_neg c1, if_neg c128]
              cases grp (m - (i + 1)) (i + 1) (l.drop (i + 1)) <;> rfl⟩
            have c9 : i ≠ 9 := fun h => c1 ⟨h, by omega⟩
            have d9 : ((i : Int) == 9) = false := by simp; omega
            have hi1 : i + 1 ≤ l.length := by omega
            have HI1 := Kept.mk hi1
            clear c1 c9 hi1
            go_wp2
            go_roundw
            case rel => exact ⟨i + 1, by simp, rfl, ⟨by have := HCI.out; omega⟩, HI1, E⟩
            case measure =>
              have := HCI.out
              first | (simp [intOf]; done) | (simp [intOf]; omega)
    · have ci' : ¬ ((i : Int) < (m : Int)) := by omega
      have e : manyS m l = (0, 4) := by
        rw [HG.out, show m - i = 0 by omega]
        rfl
      have E := Kept.mk e
      clear ci e
      go_wp2
      go_returns
      exact ⟨by rw [E.out]; rfl, rfl⟩
end Go.Proofs.Ythcgdlhmmgpbgaa
