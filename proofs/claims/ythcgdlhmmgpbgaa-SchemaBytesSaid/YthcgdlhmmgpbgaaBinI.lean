/- The reference's reader (layer 3): texts. -/
import Derived.Test.YthcgdlhmmgpbgaaBinH
namespace Go.Proofs.Ythcgdlhmmgpbgaa
open Go.RowKit
set_option linter.unusedVariables false
set_option linter.unusedSimpArgs false

/-- string(b[:0]), whatever the address. -/
theorem conv_zero (w : World) (p : Option Addr) (c : Nat) : (convert 47 9 (.slice p 0 c)).run Try.prog w = .ok (.string (strOfNums [])) w := by
  rw [run_convert_bytes_string w 47 9 5 _ 0 c Try.underlying47 Try.underlying5 Try.underlying9]
  cases p <;> simp [Conv.bytesToString, loadCells]
  all_goals rfl
theorem Rq.conv {w : World} {g : Nat} {l : List Int} {A : Option Addr} {c0 : Nat} (hd : l ≠ [] → ∃ b off, A = some ⟨b, off, none⟩ ∧ b ≠ g ∧ b < w.heap.size ∧ ∀ j, j < l.length → w.cell? ⟨b, off + j, none⟩ = some (.int .u8 (l.getD j 0))) (n c : Nat) (hn : n ≤ l.length) :
    (convert 47 9 (.slice A n c)).run Try.prog w = .ok (.string (strOfNums (l.take n))) w := by
  rcases Nat.eq_zero_or_pos n with h0 | h0
  · subst h0
    rw [List.take_zero]
    exact conv_zero w A c
  · have hne : l ≠ [] := by rintro rfl; simp at hn; omega
    obtain ⟨b, off, rfl, _, _, hc⟩ := hd hne
    refine run_convert_bytes_arg w _ _ Try.underlying47 Try.underlying5 b off n c _ (by simp; omega) (fun i hi => ?_) _ Try.underlying9
    rw [hc i (by omega)]
    have e2 : (l.take n)[i]? = l[i]? := List.getElem?_take_of_lt hi
    rw [List.getD_eq_getElem?_getD, List.getD_eq_getElem?_getD, e2]

set_option maxRecDepth 100000 in
set_option maxHeartbeats 1000000 in
theorem rText_read (g : Nat) (s : St) (hs : ∀ b ∈ s.2, 0 ≤ b ∧ b ≤ 255) (most : Int) (w : World) (H : Rq w g s) :
    Calls Try.prog 54 #[.pointer (some ⟨g, 0, none⟩), .int .i64 most] w (fun r w' => r = .returned (.string (strOfNums (textS most s).1)) ∧ Rq w' g (textS most s).2 ∧ But g w w') := by
  have hb := (grpS_lt 9 (by decide) s hs).2 (by decide)
  have HT : Kept (textS most s = (if (grpS 9 s).2.1 ≠ 0 then ([], (grpS 9 s).2) else if most < ((grpS 9 s).1 : Int) then ([], (6, [])) else if (grpS 9 s).2.2.length < (grpS 9 s).1 then ([], (5, [])) else ((grpS 9 s).2.2.take (grpS 9 s).1, (0, (grpS 9 s).2.2.drop (grpS 9 s).1)))) := ⟨rfl⟩
  go_enter Try.func54, Try.ntmps54
  go_wp2_with fail
  go_at_call 70
  refine (rNum_read g s hs _ H).mono ?_
  rintro e w1 ⟨rfl, H2, hB2⟩
  generalize hq : grpS 9 s = q at HT H2 hb ⊢
  obtain ⟨x, y, l⟩ := q
  simp only at HT H2 hb ⊢
  clear hq
  obtain ⟨A, c, h0, h1, hf0, hf1, hc, hcm, hd⟩ := H2.cells
  simp only at h0 h1 hc hd
  have HK := Kept.mk H2
  have HD := Kept.mk hd
  have HBB := Kept.mk hB2
  clear H2 hd hB2
  by_cases cy : y = 0
  · subst cy
    by_cases cm : most < (x : Int)
    · have HE : Kept (textS most s = ([], (6, []))) := ⟨by rw [HT.out]; simp [cm]⟩
      go_wp2_with (first | (go_at_call 69; refine (rFail_any g (0, l) 6 _ HK.out).mono ?_; rintro r w2 ⟨⟨v, rfl⟩, H3, hB3⟩))
      go_ret
      rw [HE.out]
      exact ⟨rfl, H3, HBB.out.trans hB3⟩
    · by_cases cl : (l.length : Int) < (x : Int)
      · have HE : Kept (textS most s = ([], (5, []))) := ⟨by rw [HT.out]; simp [cm]; omega⟩
        go_wp2_with (first | (go_at_call 69; refine (rFail_any g (0, l) 5 _ HK.out).mono ?_; rintro r w2 ⟨⟨v, rfl⟩, H3, hB3⟩))
        go_ret
        rw [HE.out]
        exact ⟨rfl, H3, HBB.out.trans hB3⟩
      · have HE : Kept (textS most s = (l.take x, (0, l.drop x))) := ⟨by
          rw [HT.out]
          simp only [ne_eq, not_true, if_false, if_neg cm]
          rw [if_neg (by omega)]⟩
        have hxl : x ≤ l.length := by omega
        have kc := Rq.conv (g := g) (c0 := 0) HD.out x c hxl
        have f1 : (x : Int) ≤ (c : Int) := by omega
        have f2 : (x : Int) ≤ (l.length : Int) := by omega
        clear cl
        by_cases cc : c = x
        · have k := HK.out.skip x hxl A c h0 A (fun h => absurd h (by omega))
          have KK := Kept.mk k
          clear k
          subst cc
          go_wp2
          go_ret
          rw [HE.out]
          refine ⟨rfl, ?_, HBB.out.trans ((But.refl _ _).set _ _)⟩
          have k := KK.out
          rw [Nat.sub_self, show l.length - c = 0 by omega] at k
          exact k
        · have k := HK.out.skip x hxl A c h0 (A.map fun u => u.add x) (fun _ b off e => by rw [e]; simp [Addr.add_lit])
          have KK := Kept.mk k
          clear k
          go_wp2
          go_ret
          rw [HE.out]
          exact ⟨rfl, KK.out, HBB.out.trans ((But.refl _ _).set _ _)⟩
  · have HE : Kept (textS most s = ([], (y, l))) := ⟨by rw [HT.out]; simp [cy]⟩
    go_wp2
    go_ret
    rw [HE.out]
    exact ⟨rfl, HK.out, HBB.out⟩
end Go.Proofs.Ythcgdlhmmgpbgaa
