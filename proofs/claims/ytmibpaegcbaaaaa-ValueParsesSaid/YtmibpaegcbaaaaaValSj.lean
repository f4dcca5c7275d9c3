/- Layer 5 (value): a value written by the reference, walked. -/
import Derived.Test.YtmibpaegcbaaaaaValSi
namespace Go.Proofs.Ytmibpaegcbaaaaa
open Go.RowKit
set_option linter.unusedVariables false
set_option linter.unusedSimpArgs false

abbrev hexS : ByteArray := ⟨#[48, 49, 50, 51, 52, 53, 54, 55, 56, 57, 97, 98, 99, 100, 101, 102]⟩
theorem hexS_get (n : Nat) (h : n < 16) (h' : n < hexS.size) : hexS[n]'h' = digN n := by
  have hc : n = 0 ∨ n = 1 ∨ n = 2 ∨ n = 3 ∨ n = 4 ∨ n = 5 ∨ n = 6 ∨ n = 7 ∨ n = 8 ∨ n = 9 ∨ n = 10 ∨ n = 11 ∨ n = 12 ∨ n = 13 ∨ n = 14 ∨ n = 15 := by omega
  rcases hc with rfl | rfl | rfl | rfl | rfl | rfl | rfl | rfl | rfl | rfl | rfl | rfl | rfl | rfl | rfl | rfl <;> rfl
theorem index_hex (k : IntKind) (n : Nat) (h : n < 16) (w : World) : (Instr.index 9 (.string hexS) (.int k (n : Int))).run Try.prog w = .ok (.int .u8 ((digN n).toNat : Int)) w := by
  have hs : hexS.size = 16 := by rfl
  rw [run_index_string (P := Try.prog) w 9 hexS k (n : Int) Try.underlying9, dif_pos ⟨by omega, by rw [hs]; omega⟩]
  rw [← hexS_get n h (by rw [hs]; exact h)]
  rfl
theorem conv_two (a b : UInt8) (wx : World) : (convert 37 9 (.slice (some ⟨wx.heap.size, 0, none⟩) 2 2)).run Try.prog (wx.alloc (.cells #[.int .u8 (a.toNat : Int), .int .u8 (b.toNat : Int)] 5)) = .ok (.string (bs [a, b])) (wx.alloc (.cells #[.int .u8 (a.toNat : Int), .int .u8 (b.toNat : Int)] 5)) := conv_bytes wx [a, b]
def RvI (s : ByteArray) (wa : World) (v3 v4 : Value) (wr : World) : Prop :=
  ∃ (i : Nat) (out : Bs) (r : Array Obj) (d : Nat), v4 = .int .i64 (i : Int) ∧ v3 = .string (bs out) ∧ wr = xw wa r d ∧ Kept (i ≤ s.size ∧ out.length ≤ 1 + 3 * i ∧ out ++ (bodyB ((tx s).drop i) ++ [39]) = showT (tx s))
set_option maxRecDepth 100000 in
set_option maxHeartbeats 2000000 in
theorem rvshow_txt (s : ByteArray) (hs : s.size ≤ 64) (w : World) :
    Calls Try.prog 20 #[va 2 0 s] w (fun e w' => e = .returned (.string (bs (showT (tx s)))) ∧ Below w.heap.size w w') := by
  have HS := Kept.mk hs
  have HM : Kept (mayV ⟨2, 0, tx s⟩ = true) := ⟨by simp [mayV, tx_len]; omega⟩
  have HB := Kept.mk ((Below.refl w.heap.size w).alloc (Nat.le_refl _) (.cells #[.int .i64 2, .int .i64 0, .string s] 24))
  go_enter Try.func20, Try.ntmps20
  go_wp2_with (first | (go_at_call 11; refine (rmay_any 2 0 s _).mono ?_; rintro e w1 ⟨rfl, hb1⟩; obtain ⟨r1, d1, rfl⟩ := xw_of hb1; clear hb1; rewrite [HM.out]))
  have x2 : (w.alloc (.cells #[.int .i64 2, .int .i64 0, .string s] 24)).cell? ⟨w.heap.size, 2, none⟩ = some (.string s) := by simp [go_sem]
  have hz : w.heap.size < (w.alloc (.cells #[.int .i64 2, .int .i64 0, .string s] 24)).heap.size := by rw [World.size_alloc]; omega
  generalize w.alloc (.cells #[.int .i64 2, .int .i64 0, .string s] 24) = wa at HB x2 hz ⊢
  clear hs
  go_loopw [3, 4] (fun v3 v4 wr => RvI s wa v3 v4 wr) (fun v3 v4 wr => s.size - (intOf v4).toNat)
  case atStart => exact ⟨0, [39], _, _, rfl, rfl, rfl, ⟨Nat.zero_le _, by simp, by simp [showT]⟩⟩
  case round =>
    obtain ⟨i, out, r, d, rfl, rfl, rfl, HI⟩ := hrel
    have hsz := HS.out
    by_cases ci : i < s.size
    · have hz1 : (bs out).size ≤ 1000 := by rw [bs_size]; have := HI.out.2.1; omega
      have ci' : (i : Int) < (s.size : Int) := by omega
      have hw : wrap64 ((i : Int) + 1) = (i : Int) + 1 := by simp only [wrap64]; omega
      have hdrop := tx_dropc s i ci
      have hD := Kept.mk hdrop
      have hb := s[i].toNat_lt
      clear hdrop
      have HCI := Kept.mk ci
      have q39 := u8_eq (b := s[i]) (c := 39)
      have q92 := u8_eq (b := s[i]) (c := 92)
      have e39 : (((39 : UInt8).toNat : Nat) : Int) = 39 := by decide
      have e92 : (((92 : UInt8).toNat : Nat) : Int) = 92 := by decide
      rw [e39] at q39
      rw [e92] at q92
      clear e39 e92
      by_cases hp : plainB s[i] = true
      · have hpl : 32 ≤ s[i].toNat ∧ s[i].toNat ≤ 126 ∧ s[i].toNat ≠ 39 ∧ s[i].toNat ≠ 92 := by simpa [plainB, and_assoc] using hp
        have g1 : ¬ ((s[i].toNat : Int) < 32) := by omega
        have g2 : ¬ (126 < (s[i].toNat : Int)) := by omega
        have g3 : ((s[i].toNat : Int) == 39) = false := by rw [beq_eq_false_iff_ne]; omega
        have g4 : ((s[i].toNat : Int) == 92) = false := by rw [beq_eq_false_iff_ne]; omega
        have HK : Kept (bodyB (s[i] :: (tx s).drop (i + 1)) = s[i] :: bodyB ((tx s).drop (i + 1))) := ⟨by simp only [bodyB, hp, if_true]⟩
        have k1 := conv_one s[i]
        have hz2 : (bs [s[i]]).size ≤ 1 := by rw [bs_size]; simp
        clear hp hpl q39 q92 hb
        go_wp2_with fail
        refine ⟨⟨i + 1, out ++ [s[i]], _, _, rfl, congrArg Value.string (bs_app _ _), (alloc_xw _ _).trans (xw_xw _ _ _ _ _), ⟨HCI.out, by have := HI.out.2.1; simp; omega, ?_⟩⟩, ?_⟩
        · rw [← HI.out.2.2, hD.out, HK.out]
          simp
        · have := HCI.out
          simp [intOf]
          omega
      · have hp' : plainB s[i] = false := by simpa using hp
        have HK : Kept (bodyB (s[i] :: (tx s).drop (i + 1)) = 92 :: digN (s[i].toNat / 16) :: digN (s[i].toNat % 16) :: bodyB ((tx s).drop (i + 1))) := ⟨by simp only [bodyB, hp']; rfl⟩
        have k2 := fun wx => conv_two (digN (s[i].toNat / 16)) (digN (s[i].toNat % 16)) wx
        have hz2 : (bs [digN (s[i].toNat / 16), digN (s[i].toNat % 16)]).size ≤ 2 := by rw [bs_size]; simp
        have k3 := fun wx => index_hex .u8 (s[i].toNat / 16) (by omega) wx
        have k4 := fun wx => index_hex .u8 (s[i].toNat % 16) (by omega) wx
        have n1 : ((s[i].toNat / 16 : Nat) : Int) = (s[i].toNat : Int) / 16 := by omega
        have n2 : ((s[i].toNat % 16 : Nat) : Int) = (s[i].toNat : Int) % 16 := by omega
        rw [n1] at k3
        rw [n2] at k4
        clear n1 n2
        have hz3 : (bs out).size + 1 ≤ 1000 := by rw [bs_size]; have := HI.out.2.1; omega
        have hor : s[i].toNat < 32 ∨ (32 ≤ s[i].toNat ∧ 126 < s[i].toNat) ∨ (32 ≤ s[i].toNat ∧ s[i].toNat ≤ 126 ∧ s[i].toNat = 39) ∨ (32 ≤ s[i].toNat ∧ s[i].toNat ≤ 126 ∧ s[i].toNat ≠ 39 ∧ s[i].toNat = 92) := by
          simp only [plainB, Bool.and_eq_false_iff, decide_eq_false_iff_not] at hp'
          omega
        clear hp hp' q39 q92
        have g3 : s[i].toNat ≠ 39 → ((s[i].toNat : Int) == 39) = false := fun h => by rw [beq_eq_false_iff_ne]; omega
        have g3' : s[i].toNat = 39 → ((s[i].toNat : Int) == 39) = true := fun h => by rw [beq_iff_eq]; omega
        have g4' : s[i].toNat = 92 → ((s[i].toNat : Int) == 92) = true := fun h => by rw [beq_iff_eq]; omega
        rcases hor with h | ⟨h1, h2⟩ | ⟨h1, h2, h3⟩ | ⟨h1, h2, h3, h4⟩
        · have f1 : (s[i].toNat : Int) < 32 := by omega
          clear g3 g3' g4' h
          go_wp2_with fail
          go_region
          go_wp2_with fail
          refine ⟨⟨i + 1, out ++ [92, digN (s[i].toNat / 16), digN (s[i].toNat % 16)], _, _, rfl, congrArg Value.string ?_, (alloc_xw _ _).trans (xw_xw _ _ _ _ _), ⟨HCI.out, by have := HI.out.2.1; simp; omega, ?_⟩⟩, ?_⟩
          · show bs out ++ bs [92] ++ bs [digN (s[i].toNat / 16), digN (s[i].toNat % 16)] = _
            rw [bs_app, bs_app]
            simp
          · rw [← HI.out.2.2, hD.out, HK.out]
            simp
          · have := HCI.out
            simp [intOf]
            omega
        · have f1 : ¬ ((s[i].toNat : Int) < 32) := by omega
          have f2 : 126 < (s[i].toNat : Int) := by omega
          clear g3 g3' g4' h1 h2
          go_wp2_with fail
          go_region
          go_wp2_with fail
          refine ⟨⟨i + 1, out ++ [92, digN (s[i].toNat / 16), digN (s[i].toNat % 16)], _, _, rfl, congrArg Value.string ?_, (alloc_xw _ _).trans (xw_xw _ _ _ _ _), ⟨HCI.out, by have := HI.out.2.1; simp; omega, ?_⟩⟩, ?_⟩
          · show bs out ++ bs [92] ++ bs [digN (s[i].toNat / 16), digN (s[i].toNat % 16)] = _
            rw [bs_app, bs_app]
            simp
          · rw [← HI.out.2.2, hD.out, HK.out]
            simp
          · have := HCI.out
            simp [intOf]
            omega
        · have f1 : ¬ ((s[i].toNat : Int) < 32) := by omega
          have f2 : ¬ (126 < (s[i].toNat : Int)) := by omega
          have f3 := g3' h3
          clear g3 g3' g4' h1 h2 h3
          go_wp2_with fail
          go_region
          go_wp2_with fail
          refine ⟨⟨i + 1, out ++ [92, digN (s[i].toNat / 16), digN (s[i].toNat % 16)], _, _, rfl, congrArg Value.string ?_, (alloc_xw _ _).trans (xw_xw _ _ _ _ _), ⟨HCI.out, by have := HI.out.2.1; simp; omega, ?_⟩⟩, ?_⟩
          · show bs out ++ bs [92] ++ bs [digN (s[i].toNat / 16), digN (s[i].toNat % 16)] = _
            rw [bs_app, bs_app]
            simp
          · rw [← HI.out.2.2, hD.out, HK.out]
            simp
          · have := HCI.out
            simp [intOf]
            omega
        · have f1 : ¬ ((s[i].toNat : Int) < 32) := by omega
          have f2 : ¬ (126 < (s[i].toNat : Int)) := by omega
          have f3 := g3 h3
          have f4 := g4' h4
          clear g3 g3' g4' h1 h2 h3 h4
          go_wp2_with fail
          go_region
          go_wp2_with fail
          refine ⟨⟨i + 1, out ++ [92, digN (s[i].toNat / 16), digN (s[i].toNat % 16)], _, _, rfl, congrArg Value.string ?_, (alloc_xw _ _).trans (xw_xw _ _ _ _ _), ⟨HCI.out, by have := HI.out.2.1; simp; omega, ?_⟩⟩, ?_⟩
          · show bs out ++ bs [92] ++ bs [digN (s[i].toNat / 16), digN (s[i].toNat % 16)] = _
            rw [bs_app, bs_app]
            simp
          · rw [← HI.out.2.2, hD.out, HK.out]
            simp
          · have := HCI.out
            simp [intOf]
            omega
    · have hdone : i = s.size := by have := HI.out.1; omega
      have HE : Kept (showT (tx s) = out ++ [39]) := ⟨by rw [← HI.out.2.2, hdone, ← tx_len, List.drop_length]; rfl⟩
      have ci' : ¬ ((i : Int) < (s.size : Int)) := by omega
      have hz1 : (bs out).size ≤ 1000 := by rw [bs_size]; have := HI.out.2.1; omega
      clear hdone ci
      go_wp2_with fail
      go_returns
      refine ⟨?_, below_xw HB.out HB.out.size _ _⟩
      rw [HE.out]
      exact congrArg (fun b => Ending.returned (Value.string b)) (bs_app out [39])
set_option maxRecDepth 100000 in
set_option maxHeartbeats 1000000 in
theorem rvshow_any (k n : Int) (h0 : -9223372036854775808 ≤ n) (hn : n ≤ 9223372036854775807) (s : ByteArray) (w : World) :
    Calls Try.prog 20 #[va k n s] w (fun e w' => e = .returned (.string (bs (showV ⟨k, n, tx s⟩))) ∧ Below w.heap.size w w') := by
  cases hm : mayV ⟨k, n, tx s⟩ with
  | true =>
    rcases mayV_cases hm with ⟨rfl, h⟩ | ⟨rfl, rfl, h⟩
    · rw [showV_num n s h]
      have HM := Kept.mk hm
      have H0 := Kept.mk h0
      have HN := Kept.mk hn
      clear hm h h0 hn
      go_enter Try.func20, Try.ntmps20
      go_wp2_with (first
        | (go_at_call 11; refine (rmay_any 1 n s _).mono ?_; rintro e w1 ⟨rfl, hb1⟩; obtain ⟨r1, d1, rfl⟩ := xw_of hb1; clear hb1; rewrite [HM.out])
        | (go_at_call 33; refine (rshow_any n H0.out HN.out _).mono ?_; rintro e w2 ⟨rfl, hb2⟩; obtain ⟨r2, d2, rfl⟩ := xw_of hb2; clear hb2))
      go_returns
      exact ⟨rfl, below_xw ((Below.refl _ _).alloc (Nat.le_refl _) _) (by simp) _ _⟩
    · rw [showV_txt s h]
      exact rvshow_txt s h w
  | false =>
    rw [showV_no _ _ _ hm]
    clear h0 hn
    have HM := Kept.mk hm
    clear hm
    go_enter Try.func20, Try.ntmps20
    go_wp2_with (first | (go_at_call 11; refine (rmay_any k n s _).mono ?_; rintro e w1 ⟨rfl, hb1⟩; obtain ⟨r1, d1, rfl⟩ := xw_of hb1; clear hb1; rewrite [HM.out]))
    go_returns
    exact ⟨rfl, below_xw ((Below.refl _ _).alloc (Nat.le_refl _) _) (by simp) _ _⟩
end Go.Proofs.Ytmibpaegcbaaaaa
