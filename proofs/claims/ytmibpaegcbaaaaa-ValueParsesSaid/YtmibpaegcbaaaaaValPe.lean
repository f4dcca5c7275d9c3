/- Layer 5's reference (value): a value as it is written, read: walked. -/
import Derived.Test.YtmibpaegcbaaaaaValPc
import Derived.Test.YtmibpaegcbaaaaaValPd
import Derived.Test.YtmibpaegcbaaaaaValR
namespace Go.Proofs.Ytmibpaegcbaaaaa
open Go.RowKit
set_option linter.unusedVariables false
set_option linter.unusedSimpArgs false

theorem codeB_le (b : UInt8) (t : Bs) : (codeB (b :: t)).2 ≤ (b :: t).length := by
  by_cases c : b = 92
  · subst c
    match t with
    | [] => simp [codeB]
    | [_] => simp [codeB]
    | x :: y :: r =>
      simp only [codeB, ne_eq, not_true, if_false]
      split <;> simp
  · simp [codeB, c]
theorem codeB_n (l : Bs) : ((codeB l).2 = 0 ∧ (codeB l).1 = 0) ∨ (codeB l).2 = 1 ∨ (codeB l).2 = 3 := by
  match l with
  | [] => simp [codeB]
  | b :: t =>
    by_cases c : b = 92
    · subst c
      match t with
      | [] => simp [codeB]
      | [_] => simp [codeB]
      | x :: y :: r =>
        simp only [codeB, ne_eq, not_true, if_false]
        split <;> simp
    · simp [codeB, c]
theorem cutAt (s : ByteArray) (p : Nat) (h1 : 1 ≤ p) (h2 : p ≤ s.size - 1) : tx (s.extract p (s.size - 1)) = (tx (s.extract 1 (s.size - 1))).drop (p - 1) := by
  rw [tx_cut, tx_cut, List.drop_take, List.drop_drop]
  rw [show 1 + (p - 1) = p by omega, show s.size - 1 - 1 - (p - 1) = s.size - 1 - p by omega]
theorem own_len {w : World} {base : Nat} {e : TypeId} {v : Value} {l : Bs} (h : Own w base e v (u8s (nums l))) : ∃ A c, v = .slice A l.length c := by
  obtain ⟨A, c, hv⟩ := h.slice
  rw [u8s_len, nums, List.length_map] at hv
  exact ⟨A, c, hv⟩
def RpP (s : ByteArray) (wa : World) (v7 v6 : Value) (wr : World) : Prop := ∃ (p : Nat) (out : Bs) (r : Array Obj) (d : Nat), v7 = .int .i64 (p : Int) ∧ wr = xw wa r d ∧ Kept (1 ≤ p ∧ p ≤ s.size - 1 ∧ out.length ≤ p ∧ Own wr wa.heap.size 5 v6 (u8s (nums out)) ∧ (unqS .plain ((tx (s.extract 1 (s.size - 1))).drop (p - 1))).map (out ++ ·) = unqS .plain (tx (s.extract 1 (s.size - 1))))
set_option maxRecDepth 100000 in
set_option maxHeartbeats 2000000 in
theorem rparse_any (s : ByteArray) (hs : s.size ≤ 140737488351232) (w : World) :
    Calls Try.prog 21 #[.string s] w (fun e w' => e = .returned (paV (parseB (tx s))) ∧ Below w.heap.size w w') := by
  rcases Nat.eq_zero_or_pos s.size with h0 | h0
  · have hv : Kept (parseB (tx s) = .error 4) := ⟨by unfold parseB; rw [if_pos (tx_nil h0)]⟩
    have hE := isE_yes h0
    clear hs h0
    go_enter Try.func21, Try.ntmps21
    go_wp2_with fail
    go_returns
    exact ⟨by rw [hv.out]; rfl, (Below.refl _ _).alloc (Nat.le_refl _) _⟩
  · have hE := isE_no h0
    obtain ⟨t, ht, _⟩ := tx_cons s h0
    have hne : tx s ≠ [] := by rw [ht]; simp
    have hhd : (tx s).head? = some s[0] := by rw [ht]; rfl
    have q39 := u8_eq (b := s[0]) (c := 39)
    by_cases c : s[0] = 39
    · have q : ((s[0].toNat : Int) == 39) = true := by have h := q39; rw [decide_eq_true c] at h; exact h
      have q' : ((s[0].toNat : Int) != 39) = false := by rw [bne, q]; rfl
      have HV : Kept (parseB (tx s) = (match unqB (tx s) with | none => .error 4 | some t => if 64 < t.length then .error 6 else .ok ⟨2, 0, t⟩)) := ⟨by
        unfold parseB; rw [if_neg hne, if_pos (by rw [hhd, c])]; cases unqB (tx s) <;> rfl⟩
      have HSS := Kept.mk hs
      clear hs q39 hne hhd ht c
      by_cases c2 : s.size < 2
      · have hv : Kept (parseB (tx s) = .error 4) := ⟨by rw [HV.out]; unfold unqB; rw [if_pos (.inl (by rw [tx_len]; exact c2))]⟩
        have c2' : (s.size : Int) < 2 := by omega
        clear c2
        go_enter Try.func21, Try.ntmps21
        go_wp2_with fail
        go_returns
        exact ⟨by rw [hv.out]; rfl, (Below.refl _ _).alloc (Nat.le_refl _) _⟩
      · have h2 : 2 ≤ s.size := by omega
        have c2' : ¬ ((s.size : Int) < 2) := by omega
        have hw1 : wrap64 ((s.size : Int) - 1) = ((s.size - 1 : Nat) : Int) := by have := HSS.out; simp only [wrap64]; omega
        have fw0 : 0 ≤ ((s.size - 1 : Nat) : Int) := by omega
        have fw1 : s.size - 1 < s.size := by omega
        have fw5 : s.size - 1 ≤ s.size := by omega
        have ql := u8_eq (b := (s[s.size - 1]'fw1)) (c := 39)
        by_cases cl : (s[s.size - 1]'fw1) = 39
        · have q1 : (((s[s.size - 1]'fw1).toNat : Int) == 39) = true := by have h := ql; rw [decide_eq_true cl] at h; exact h
          have q1' : (((s[s.size - 1]'fw1).toNat : Int) != 39) = false := by rw [bne, q1]; rfl
          have hv : Kept (unqB (tx s) = unqS .plain (tx (s.extract 1 (s.size - 1)))) := ⟨by
            unfold unqB
            rw [inner s h2, if_neg]
            rintro (h | h)
            · rw [tx_len] at h; omega
            · rw [lastB s h2, cl] at h; exact h rfl⟩
          clear cl c2 ql
          go_enter Try.func21, Try.ntmps21
          go_wp2_with fail
          have hsz : (w.alloc (.cells #[.int .i64 0, .int .i64 0, .string ⟨#[]⟩] 24)).heap.size = w.heap.size + 1 := World.size_alloc _ _
          have HO0 : Kept (Own ((w.alloc (.cells #[.int .i64 0, .int .i64 0, .string ⟨#[]⟩] 24)).alloc (.cells #[] 5)) (w.alloc (.cells #[.int .i64 0, .int .i64 0, .string ⟨#[]⟩] 24)).heap.size 5 (.slice (some ⟨w.heap.size + 1, 0, none⟩) 0 0) (u8s (nums []))) := ⟨by rw [← hsz]; exact Own.empty (w.alloc (.cells #[.int .i64 0, .int .i64 0, .string ⟨#[]⟩] 24)) _ _ (Nat.le_refl _)⟩
          clear hsz
          rewrite [alloc_xw (w.alloc (.cells #[.int .i64 0, .int .i64 0, .string ⟨#[]⟩] 24))] at HO0
          rewrite [alloc_xw (w.alloc (.cells #[.int .i64 0, .int .i64 0, .string ⟨#[]⟩] 24))]
          go_loopw [7, 6] (fun v7 v6 wr => RpP s (w.alloc (.cells #[.int .i64 0, .int .i64 0, .string ⟨#[]⟩] 24)) v7 v6 wr) (fun v7 v6 wr => s.size - (intOf v7).toNat)
          case atStart => exact ⟨1, [], _, _, rfl, rfl, ⟨Nat.le_refl _, by omega, by simp, HO0.out, by simp⟩⟩
          case round =>
            obtain ⟨p, out, r, d, rfl, rfl, HI⟩ := hrel
            obtain ⟨hp1, hp2, hol, hO, hE2⟩ := HI.out
            have HO := Kept.mk hO
            have HE2 := Kept.mk hE2
            have HOL := Kept.mk hol
            have HP1 := Kept.mk hp1
            clear HI hO hE2 hol HO0
            by_cases ci : p < s.size - 1
            · have ci' : (p : Int) < ((s.size - 1 : Nat) : Int) := by omega
              have f0 : 0 ≤ (p : Int) := by omega
              have f1 : (p : Int) ≤ ((s.size - 1 : Nat) : Int) := by omega
              have f2 : p ≤ s.size - 1 := hp2
              have hyc := cutAt s p hp1 hp2
              have hy0 : 0 < (s.extract p (s.size - 1)).size := by rw [ByteArray.size_extract]; omega
              have hysz : (s.extract p (s.size - 1)).size = s.size - 1 - p := by rw [ByteArray.size_extract]; omega
              go_wp2_with fail
              go_at_call 35
              refine (code_any _ hy0 _).mono ?_
              rintro e w2 ⟨rfl, nq, rfl⟩
              rewrite [xw_drewN]
              have HOd : Kept (Own (xw (w.alloc (.cells #[.int .i64 0, .int .i64 0, .string ⟨#[]⟩] 24)) r (d + nq)) (w.alloc (.cells #[.int .i64 0, .int .i64 0, .string ⟨#[]⟩] 24)).heap.size 5 u6 (u8s (nums out))) := ⟨by have h := HO.out.drewN nq; rwa [xw_drewN] at h⟩
              obtain ⟨y0, ty, hty, _⟩ : ∃ y0 ty, tx (s.extract p (s.size - 1)) = y0 :: ty ∧ True := by
                obtain ⟨t9, ht9, _⟩ := tx_cons _ hy0
                exact ⟨_, _, ht9, trivial⟩
              have hC := unqS_code y0 ty
              have hLE := codeB_le y0 ty
              rw [← hty] at hC hLE
              rw [tx_len, hysz] at hLE
              have hN := codeB_n (tx (s.extract p (s.size - 1)))
              generalize codeB (tx (s.extract p (s.size - 1))) = qc at hC hLE hN ⊢
              obtain ⟨b, n⟩ := qc
              simp only at hC hLE hN ⊢
              have HC := Kept.mk hC
              have HLE := Kept.mk hLE
              clear hC hLE hty hysz hy0 HO hp2
              have hb := b.toNat_lt
              go_upto_region 14 with fail
              go_cut [10] (fun x10 wx => ∃ z, x10 = .bool z ∧ z = (!plainB b) ∧ wx = xw (w.alloc (.cells #[.int .i64 0, .int .i64 0, .string ⟨#[]⟩] 24)) r (d + nq))
              case first =>
                clear hN
                cases hp : plainB b with
                | true =>
                  have hpl : 32 ≤ b.toNat ∧ b.toNat ≤ 126 ∧ b.toNat ≠ 39 ∧ b.toNat ≠ 92 := by simpa [plainB, and_assoc] using hp
                  have g1 : ¬ ((b.toNat : Int) < 32) := by omega
                  have g2 : ¬ (126 < (b.toNat : Int)) := by omega
                  have g3 : ((b.toNat : Int) == 39) = false := by rw [beq_eq_false_iff_ne]; omega
                  have g4 : ((b.toNat : Int) == 92) = false := by rw [beq_eq_false_iff_ne]; omega
                  have HP := Kept.mk hp
                  clear hpl hp hb
                  go_wp2_with fail
                  go_meet
                  exact ⟨_, rfl, by rw [HP.out]; rfl, rfl⟩
                | false =>
                  have hor : b.toNat < 32 ∨ (32 ≤ b.toNat ∧ 126 < b.toNat) ∨ (32 ≤ b.toNat ∧ b.toNat ≤ 126 ∧ b.toNat = 39) ∨ (32 ≤ b.toNat ∧ b.toNat ≤ 126 ∧ b.toNat ≠ 39 ∧ b.toNat = 92) := by
                    simp only [plainB, Bool.and_eq_false_iff, decide_eq_false_iff_not] at hp
                    omega
                  have g3 : b.toNat ≠ 39 → ((b.toNat : Int) == 39) = false := fun h => by rw [beq_eq_false_iff_ne]; omega
                  have g3' : b.toNat = 39 → ((b.toNat : Int) == 39) = true := fun h => by rw [beq_iff_eq]; omega
                  have g4' : b.toNat = 92 → ((b.toNat : Int) == 92) = true := fun h => by rw [beq_iff_eq]; omega
                  have HP := Kept.mk hp
                  clear hp hb
                  rcases hor with h | ⟨h1, h2⟩ | ⟨h1, h2, h3⟩ | ⟨h1, h2, h3, h4⟩
                  · have f1 : (b.toNat : Int) < 32 := by omega
                    clear g3 g3' g4' h
                    go_wp2_with fail
                    go_meet
                    exact ⟨_, rfl, by rw [HP.out]; rfl, rfl⟩
                  · have f1 : ¬ ((b.toNat : Int) < 32) := by omega
                    have f2 : 126 < (b.toNat : Int) := by omega
                    clear g3 g3' g4' h1 h2
                    go_wp2_with fail
                    go_meet
                    exact ⟨_, rfl, by rw [HP.out]; rfl, rfl⟩
                  · have f1 : ¬ ((b.toNat : Int) < 32) := by omega
                    have f2 : ¬ (126 < (b.toNat : Int)) := by omega
                    have e3 := g3' h3
                    clear g3 g3' g4' h1 h2 h3
                    go_wp2_with fail
                    go_meet
                    exact ⟨_, rfl, by rw [HP.out]; rfl, rfl⟩
                  · have f1 : ¬ ((b.toNat : Int) < 32) := by omega
                    have f2 : ¬ (126 < (b.toNat : Int)) := by omega
                    have e3 := g3 h3
                    have e4 := g4' h4
                    clear g3 g3' g4' h1 h2 h3 h4
                    go_wp2_with fail
                    go_meet
                    exact ⟨_, rfl, by rw [HP.out]; rfl, rfl⟩
              case rest =>
                obtain ⟨z, rfl, hz, rfl⟩ := hcut
                clear hb
                rcases hN with ⟨rfl, rfl⟩ | rfl | rfl
                · have hvv : Kept (parseB (tx s) = .error 4) := ⟨by rw [HV.out, hv.out, ← HE2.out, ← hyc, HC.out, if_pos (.inl rfl)]; rfl⟩
                  clear hyc
                  go_wp2_with fail
                  go_returns
                  exact ⟨by rw [hvv.out]; rfl, below_xw ((Below.refl _ _).alloc (Nat.le_refl _) _) (by simp) _ _⟩
                · cases hp : plainB b with
                  | true =>
                    rw [hp] at hz
                    subst hz
                    have HK2 : Kept (unqS .plain ((tx (s.extract 1 (s.size - 1))).drop (p - 1)) = (unqS .plain ((tx (s.extract 1 (s.size - 1))).drop (p + 1 - 1))).map (b :: ·)) := ⟨by
                      rw [← hyc, HC.out, if_neg (by simp [hp])]
                      rw [hyc, List.drop_drop, show p - 1 + 1 = p + 1 - 1 by have := HP1.out; omega]⟩
                    have HLE2 : Kept (p + 1 ≤ s.size - 1) := ⟨by have := HLE.out; omega⟩
                    have hwn : wrap64 ((p : Int) + 1) = ((p + 1 : Nat) : Int) := by have := HSS.out; have := HLE2.out; simp only [wrap64]; omega
                    clear hyc
                    go_wp2_with (first | ((at_builtin); refine app_one (w0 := (w.alloc (.cells #[.int .i64 0, .int .i64 0, .string ⟨#[]⟩] 24))) (W := xw (w.alloc (.cells #[.int .i64 0, .int .i64 0, .string ⟨#[]⟩] 24)) r (d + nq)) rfl (.tmp 79) (.tmp 81) 37 5 (.int .u8 0) 1 rfl Try.underlying37 infoB8 rfl (by decide) _ (u8s (nums out)) (.int .u8 (b.toNat : Int)) rfl rfl rfl HOd.out (xw_below _ _ _) ?c1 ?_; (case c1 => rw [u8s_len, nums, List.length_map]; have := HOL.out; have := HSS.out; omega); intro v1 r2 d2 HO2; have HO2 := Kept.mk HO2))
                    go_roundw
                    case rel =>
                      refine ⟨p + 1, out ++ [b], _, _, by first | rfl | (rw [hwn]), rfl, ⟨by omega, HLE2.out, by have := HOL.out; simp; omega, ?_, ?_⟩⟩
                      · have h := HO2.out
                        rw [nums_app, u8s_app]
                        exact h
                      · rw [← HE2.out, HK2.out, Option.map_map]
                        congr 1
                        funext z
                        simp
                    case measure =>
                      try rw [hwn]
                      have := HLE2.out
                      simp only [intOf]
                      omega
                  | false =>
                    rw [hp] at hz
                    subst hz
                    have hvv : Kept (parseB (tx s) = .error 4) := ⟨by rw [HV.out, hv.out, ← HE2.out, ← hyc, HC.out, if_pos (by simp [hp])]; rfl⟩
                    clear hyc
                    go_wp2_with fail
                    go_returns
                    exact ⟨by rw [hvv.out]; rfl, below_xw ((Below.refl _ _).alloc (Nat.le_refl _) _) (by simp) _ _⟩
                · cases hp : plainB b with
                  | true =>
                    rw [hp] at hz
                    subst hz
                    have hvv : Kept (parseB (tx s) = .error 4) := ⟨by rw [HV.out, hv.out, ← HE2.out, ← hyc, HC.out, if_pos (by simp [hp])]; rfl⟩
                    clear hyc
                    go_wp2_with fail
                    go_returns
                    exact ⟨by rw [hvv.out]; rfl, below_xw ((Below.refl _ _).alloc (Nat.le_refl _) _) (by simp) _ _⟩
                  | false =>
                    rw [hp] at hz
                    subst hz
                    have HK2 : Kept (unqS .plain ((tx (s.extract 1 (s.size - 1))).drop (p - 1)) = (unqS .plain ((tx (s.extract 1 (s.size - 1))).drop (p + 3 - 1))).map (b :: ·)) := ⟨by
                      rw [← hyc, HC.out, if_neg (by simp [hp])]
                      rw [hyc, List.drop_drop, show p - 1 + 3 = p + 3 - 1 by have := HP1.out; omega]⟩
                    have HLE2 : Kept (p + 3 ≤ s.size - 1) := ⟨by have := HLE.out; omega⟩
                    have hwn : wrap64 ((p : Int) + 3) = ((p + 3 : Nat) : Int) := by have := HSS.out; have := HLE2.out; simp only [wrap64]; omega
                    clear hyc
                    go_wp2_with (first | ((at_builtin); refine app_one (w0 := (w.alloc (.cells #[.int .i64 0, .int .i64 0, .string ⟨#[]⟩] 24))) (W := xw (w.alloc (.cells #[.int .i64 0, .int .i64 0, .string ⟨#[]⟩] 24)) r (d + nq)) rfl (.tmp 79) (.tmp 81) 37 5 (.int .u8 0) 1 rfl Try.underlying37 infoB8 rfl (by decide) _ (u8s (nums out)) (.int .u8 (b.toNat : Int)) rfl rfl rfl HOd.out (xw_below _ _ _) ?c1 ?_; (case c1 => rw [u8s_len, nums, List.length_map]; have := HOL.out; have := HSS.out; omega); intro v1 r2 d2 HO2; have HO2 := Kept.mk HO2))
                    go_roundw
                    case rel =>
                      refine ⟨p + 3, out ++ [b], _, _, by first | rfl | (rw [hwn]), rfl, ⟨by omega, HLE2.out, by have := HOL.out; simp; omega, ?_, ?_⟩⟩
                      · have h := HO2.out
                        rw [nums_app, u8s_app]
                        exact h
                      · rw [← HE2.out, HK2.out, Option.map_map]
                        congr 1
                        funext z
                        simp
                    case measure =>
                      try rw [hwn]
                      have := HLE2.out
                      simp only [intOf]
                      omega
            · have hpe : p = s.size - 1 := by omega
              have ci' : ¬ ((p : Int) < ((s.size - 1 : Nat) : Int)) := by omega
              have hu : unqS .plain (tx (s.extract 1 (s.size - 1))) = some out := by
                rw [← HE2.out, List.drop_of_length_le (by rw [tx_len, ByteArray.size_extract]; omega)]
                simp [unqS]
              have HU := Kept.mk hu
              clear ci hu
              by_cases c64 : 64 < out.length
              · have hvv : Kept (parseB (tx s) = .error 6) := ⟨by rw [HV.out, hv.out, HU.out]; simp only [if_pos c64]⟩
                have c64' : 64 < (out.length : Int) := by omega
                have HOs := own_len HO.out
                obtain ⟨A6, c6, rfl⟩ := HOs
                clear c64
                go_wp2_with fail
                go_returns
                exact ⟨by rw [hvv.out]; rfl, below_xw ((Below.refl _ _).alloc (Nat.le_refl _) _) (by simp) _ _⟩
              · have hvv : Kept (parseB (tx s) = .ok ⟨2, 0, out⟩) := ⟨by rw [HV.out, hv.out, HU.out]; simp only [if_neg c64]⟩
                have c64' : ¬ (64 < (out.length : Int)) := by omega
                have HOs := own_len HO.out
                obtain ⟨A6, c6, rfl⟩ := HOs
                have hc := own_string (P := Try.prog) (src := 37) (dst := 9) Try.underlying37 Try.underlying5 Try.underlying9 HO.out
                rw [strOf_nums] at hc
                clear c64
                go_wp2_with (first | (go_at_call 15; refine (rtext_any (bs out) _).mono ?_; rintro e w2 ⟨rfl, hb2⟩; obtain ⟨r2, d2, rfl⟩ := xw_of hb2; clear hb2))
                go_returns
                exact ⟨by rw [hvv.out]; rfl, below_xw ((Below.refl _ _).alloc (Nat.le_refl _) _) (by simp) _ _⟩
        · have hv : Kept (parseB (tx s) = .error 4) := ⟨by
            rw [HV.out]; unfold unqB; rw [if_pos (.inr (by rw [lastB s h2]; intro h; injection h with h; exact cl h))]⟩
          have q1 : (((s[s.size - 1]'fw1).toNat : Int) == 39) = false := by have h := ql; rw [decide_eq_false cl] at h; exact h
          have q1' : (((s[s.size - 1]'fw1).toNat : Int) != 39) = true := by rw [bne, q1]; rfl
          clear cl c2 ql
          go_enter Try.func21, Try.ntmps21
          go_wp2_with fail
          go_returns
          exact ⟨by rw [hv.out]; rfl, (Below.refl _ _).alloc (Nat.le_refl _) _⟩
    · have q : ((s[0].toNat : Int) == 39) = false := by have h := q39; rw [decide_eq_false c] at h; exact h
      have q' : ((s[0].toNat : Int) != 39) = true := by rw [bne, q]; rfl
      have HV : Kept (parseB (tx s) = (match numR (tx s) with | .error e => .error e | .ok n => .ok ⟨1, n, []⟩)) := ⟨by
        unfold parseB; rw [if_neg hne, if_neg (by rw [hhd]; intro h; injection h with h; exact c h)]; cases numR (tx s) <;> rfl⟩
      have HSS := Kept.mk hs
      clear hs q39 hne hhd ht c
      go_enter Try.func21, Try.ntmps21
      go_wp2_with fail
      go_at_call 34
      refine (rread_any s HSS.out _).mono ?_
      rintro e w1 ⟨rfl, rfl⟩
      cases hu : numR (tx s) with
      | error er =>
        have hv : Kept (parseB (tx s) = .error er) := ⟨by rw [HV.out, hu]⟩
        have hne : er ≠ 0 := numR_err hu
        rewrite [show numV (.error er) = .tuple #[.int .i64 0, .int .i64 er] from rfl]
        have hb : (er != 0) = true := by simp [hne]
        clear hu
        go_wp2_with fail
        go_returns
        exact ⟨by rw [hv.out]; rfl, (Below.refl _ _).alloc (Nat.le_refl _) _⟩
      | ok n =>
        have hv : Kept (parseB (tx s) = .ok ⟨1, n, []⟩) := ⟨by rw [HV.out, hu]⟩
        rewrite [show numV (.ok n) = .tuple #[.int .i64 n, .int .i64 0] from rfl]
        clear hu
        go_wp2_with (first | (go_at_call 13; refine (rnum_any n _).mono ?_; rintro e w2 ⟨rfl, hb2⟩; obtain ⟨r2, d2, rfl⟩ := xw_of hb2; clear hb2))
        go_returns
        exact ⟨by rw [hv.out]; rfl, below_xw ((Below.refl _ _).alloc (Nat.le_refl _) _) (by simp) _ _⟩
end Go.Proofs.Ytmibpaegcbaaaaa
