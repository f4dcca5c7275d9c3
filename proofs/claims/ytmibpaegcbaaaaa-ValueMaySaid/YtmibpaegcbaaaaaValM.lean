/- ValueMay: the walk. -/
import Derived.Test.YtmibpaegcbaaaaaValL
namespace Go.Proofs.Ytmibpaegcbaaaaa
open Go.RowKit
set_option linter.unusedVariables false
set_option linter.unusedSimpArgs false

theorem may_num (n : Int) : mayV ⟨1, n, tx ⟨#[]⟩⟩ = true := by simp [mayV, tx]
theorem may_text (s : ByteArray) (h : ¬ 64 < s.size) : mayV ⟨2, 0, tx s⟩ = true := by
  simp [mayV, tx_len]
  omega
set_option maxRecDepth 100000 in
set_option maxHeartbeats 8000000 in
theorem ValueMay_any (k0 n0 : Int) (s0 : ByteArray) (n : Int) (s : ByteArray) (w : World) :
    Calls Try.prog 3 #[va k0 n0 s0, .int .i64 n, .string s] w (fun e w' => e = .returned (.bool true) ∧ Below w.heap.size w w') := by
  go_enter Try.func3, Try.ntmps3
  obtain ⟨m, hm⟩ : ∃ m, mayV ⟨k0, n0, tx s0⟩ = m := ⟨_, rfl⟩
  have HM := Kept.mk hm
  clear hm
  obtain ⟨T, hT⟩ : ∃ T : Int × Int × ByteArray × Int, (if 64 < s.size then Value.tuple #[va 0 0 ⟨#[]⟩, .int .i64 6] else .tuple #[va 2 0 s, .int .i64 0]) = .tuple #[va T.1 T.2.1 T.2.2.1, .int .i64 T.2.2.2] := by
    by_cases c : 64 < s.size
    · exact ⟨(0, 0, ⟨#[]⟩, 6), by rw [if_pos c]⟩
    · exact ⟨(2, 0, s, 0), by rw [if_neg c]⟩
  have HT := Kept.mk hT
  clear hT
  go_wp2_with fail
  go_at_call 9
  refine (text_any s _).mono ?_
  rintro e w1 ⟨rfl, hb1⟩
  rewrite [HT.out]
  have b1 : w1.cell? ⟨w.heap.size, 0, none⟩ = some (.int .i64 k0) := by rw [World.cell?_of_block (hb1.block w.heap.size (by simp))]; simp [go_sem]
  have b2 : w1.cell? ⟨w.heap.size, 1, none⟩ = some (.int .i64 n0) := by rw [World.cell?_of_block (hb1.block w.heap.size (by simp))]; simp [go_sem]
  have b3 : w1.cell? ⟨w.heap.size, 2, none⟩ = some (.string s0) := by rw [World.cell?_of_block (hb1.block w.heap.size (by simp))]; simp [go_sem]
  have hz1 := hb1.size
  rw [World.size_alloc] at hz1
  have HB1 := Kept.mk (((Below.refl w.heap.size w).alloc (Nat.le_refl _) _).trans (hb1.mono (by rw [World.size_alloc]; omega)))
  clear hb1
  obtain ⟨T1, T2, T3, T4⟩ := T
  simp only at HT
  go_upto_region 2 with fail
  obtain ⟨wz, hwz⟩ : ∃ wz, wz = w1.alloc (.cells #[.int .i64 T1, .int .i64 T2, .string T3] 24) := ⟨_, rfl⟩
  have e1 : wz.cell? ⟨w.heap.size, 0, none⟩ = some (.int .i64 k0) := by rw [hwz, World.cell?_alloc_lt _ _ _ (by simp only; omega)]; exact b1
  have e2 : wz.cell? ⟨w.heap.size, 1, none⟩ = some (.int .i64 n0) := by rw [hwz, World.cell?_alloc_lt _ _ _ (by simp only; omega)]; exact b2
  have e3 : wz.cell? ⟨w.heap.size, 2, none⟩ = some (.string s0) := by rw [hwz, World.cell?_alloc_lt _ _ _ (by simp only; omega)]; exact b3
  have c1 : wz.cell? ⟨w1.heap.size, 0, none⟩ = some (.int .i64 T1) := by rw [hwz]; simp [go_sem]
  have c2 : wz.cell? ⟨w1.heap.size, 1, none⟩ = some (.int .i64 T2) := by rw [hwz]; simp [go_sem]
  have c3 : wz.cell? ⟨w1.heap.size, 2, none⟩ = some (.string T3) := by rw [hwz]; simp [go_sem]
  have y1 : w.heap.size < wz.heap.size := by rw [hwz, World.size_alloc]; omega
  have y2 : w1.heap.size < wz.heap.size := by rw [hwz, World.size_alloc]; omega
  have HBz : Kept (Below w.heap.size w wz) := ⟨by rw [hwz]; exact HB1.out.alloc HB1.out.size _⟩
  rewrite [← hwz]
  generalize w1.heap.size = g at c1 c2 c3 y2 ⊢
  clear hwz b1 b2 b3 hz1 HB1
  go_cut [31] (fun sx wx => sx = .bool false ∧ ∃ r d, wx = xw wz r d)
  case first =>
    go_region_with (first
      | (go_at_call 10; refine (may_any _ _ _ _).mono ?_; rintro e w8 ⟨rfl, hb8⟩; obtain ⟨r8, d8, rfl⟩ := xw_of hb8; clear hb8; first | rewrite [may_num n] | rewrite [HM.out])
      | (go_at_call 11; refine (rmay_any k0 n0 s0 _).mono ?_; rintro e w7 ⟨rfl, hb7⟩; obtain ⟨r7, d7, rfl⟩ := xw_of hb7; clear hb7; rewrite [HM.out])
      | (go_at_call 12; refine (num_any n _).mono ?_; rintro e w5 ⟨rfl, hb5⟩; obtain ⟨r5, d5, rfl⟩ := xw_of hb5; clear hb5)
      | (go_at_call 13; refine (rnum_any n _).mono ?_; rintro e w6 ⟨rfl, hb6⟩; obtain ⟨r6, d6, rfl⟩ := xw_of hb6; clear hb6))
    all_goals go_wp2_with fail
    all_goals
      go_meet
      exact ⟨rfl, _, _, rfl⟩
  case rest =>
    obtain ⟨rfl, r, d, rfl⟩ := hcut
    by_cases c : 64 < s.size
    · have h := HT.out
      rw [if_pos c] at h
      simp only [Value.tuple.injEq, Array.mk.injEq, List.cons.injEq, Value.agg.injEq, Value.int.injEq, Value.string.injEq, true_and, and_true] at h
      obtain ⟨⟨h1, h2, h3⟩, h4⟩ := h
      subst h1 h2 h3 h4
      have c' : 64 < (s.size : Int) := by omega
      clear c HT
      go_wp2_with (first | (go_at_call 14; refine (live_any _).mono ?_; rintro e w9 ⟨rfl, hb9⟩; obtain ⟨r9, d9, rfl⟩ := xw_of hb9; clear hb9))
      go_returns
      exact ⟨rfl, below_xw HBz.out HBz.out.size _ _⟩
    · have h := HT.out
      rw [if_neg c] at h
      simp only [Value.tuple.injEq, Array.mk.injEq, List.cons.injEq, Value.agg.injEq, Value.int.injEq, Value.string.injEq, true_and, and_true] at h
      obtain ⟨⟨h1, h2, h3⟩, h4⟩ := h
      subst h1 h2 h3 h4
      have hmt := may_text s c
      have HMT := Kept.mk hmt
      have c' : ¬ (64 < (s.size : Int)) := by omega
      clear c HT hmt
      go_wp2_with fail
      go_region_with (first
        | (go_at_call 14; refine (live_any _).mono ?_; rintro e w9 ⟨rfl, hb9⟩; obtain ⟨r9, d9, rfl⟩ := xw_of hb9; clear hb9)
        | (go_at_call 15; refine (rtext_any s _).mono ?_; rintro e w5 ⟨rfl, hb5⟩; obtain ⟨r5, d5, rfl⟩ := xw_of hb5; clear hb5)
        | (go_at_call 10; refine (may_any _ _ _ _).mono ?_; rintro e w8 ⟨rfl, hb8⟩; obtain ⟨r8, d8, rfl⟩ := xw_of hb8; clear hb8; rewrite [HMT.out]))
      all_goals go_wp2_with fail
      all_goals go_returns
      all_goals exact ⟨rfl, below_xw HBz.out HBz.out.size _ _⟩
end Go.Proofs.Ytmibpaegcbaaaaa
