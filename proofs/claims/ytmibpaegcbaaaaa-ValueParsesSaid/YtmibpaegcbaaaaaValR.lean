/- Layer 5 (value): Parse, walked. -/
import Derived.Test.YtmibpaegcbaaaaaValN
namespace Go.Proofs.Ytmibpaegcbaaaaa
open Go.RowKit
set_option linter.unusedVariables false
set_option linter.unusedSimpArgs false

theorem numD_err {b : Bool} {d : Bs} {e : Int} (h : numD b d = .error e) : e ≠ 0 := by
  unfold numD at h
  split at h
  · injection h with h; omega
  · split at h
    · injection h with h; omega
    · split at h
      · injection h with h; omega
      · split at h
        · injection h with h; omega
        · split at h
          · split at h
            · cases h
            · injection h with h; omega
          · split at h
            · cases h
            · injection h with h; omega
theorem numR_err {l : Bs} {e : Int} (h : numR l = .error e) : e ≠ 0 := by
  unfold numR at h
  split at h
  · exact numD_err h
  · exact numD_err h
def pvV : Except Int Va → Va
  | .ok v => v
  | .error _ => ⟨0, 0, []⟩
def pvE : Except Int Va → Int
  | .ok _ => 0
  | .error e => e
abbrev paV (q : Except Int Va) : Value := .tuple #[va (pvV q).k (pvV q).n (bs (pvV q).t), .int .i64 (pvE q)]
set_option maxRecDepth 100000 in
set_option maxHeartbeats 1000000 in
theorem parse_any (s : ByteArray) (hs : s.size ≤ 140737488351232) (w : World) :
    Calls Try.prog 19 #[.string s] w (fun e w' => e = .returned (paV (parseB (tx s))) ∧ Below w.heap.size w w') := by
  rcases Nat.eq_zero_or_pos s.size with h0 | h0
  · have hv : Kept (parseB (tx s) = .error 4) := ⟨by unfold parseB; rw [if_pos (tx_nil h0)]⟩
    have hE := isE_yes h0
    clear hs h0
    go_enter Try.func19, Try.ntmps19
    go_wp2_with fail
    go_returns
    exact ⟨by rw [hv.out]; rfl, (Below.refl _ _).alloc (Nat.le_refl _) _⟩
  · have hE := isE_no h0
    obtain ⟨t, ht, _⟩ := tx_cons s h0
    have hne : tx s ≠ [] := by rw [ht]; simp
    have hhd : (tx s).head? = some s[0] := by rw [ht]; rfl
    have q39 := u8_eq (b := s[0]) (c := 39)
    by_cases c : s[0] = 39
    · have q : ((s[0].toNat : Int) == 39) = true := by have h := q39; rw [decide_eq_true c] at h; exact h
      have HV : Kept (parseB (tx s) = (match unqB (tx s) with | none => .error 4 | some t => if 64 < t.length then .error 6 else .ok ⟨2, 0, t⟩)) := ⟨by
        unfold parseB; rw [if_neg hne, if_pos (by rw [hhd, c])]; cases unqB (tx s) <;> rfl⟩
      have HSS := Kept.mk hs
      clear hs q39 hne hhd ht c
      go_enter Try.func19, Try.ntmps19
      go_wp2_with fail
      go_at_call 31
      refine (unquote_any s HSS.out _).mono ?_
      rintro e w1 ⟨hb1, rfl⟩
      obtain ⟨r1, d1, rfl⟩ := xw_of hb1
      clear hb1
      cases hu : unqB (tx s) with
      | none =>
        have hv : Kept (parseB (tx s) = .error 4) := ⟨by rw [HV.out, hu]⟩
        rewrite [show uqV none = .tuple #[.string ⟨#[]⟩, .bool false] from rfl]
        clear hu
        go_wp2_with fail
        go_returns
        exact ⟨by rw [hv.out]; rfl, below_xw ((Below.refl _ _).alloc (Nat.le_refl _) _) (by simp) _ _⟩
      | some u =>
        rewrite [show uqV (some u) = .tuple #[.string (bs u), .bool true] from rfl]
        by_cases cl : 64 < u.length
        · have hv : Kept (parseB (tx s) = .error 6) := ⟨by rw [HV.out, hu]; simp only [if_pos cl]⟩
          have cl' : 64 < (bs u).size := by rw [bs_size]; exact cl
          clear hu
          go_wp2_with (first | (go_at_call 9; refine (text_any (bs u) _).mono ?_; rintro e w2 ⟨rfl, hb2⟩; obtain ⟨r2, d2, rfl⟩ := xw_of hb2; clear hb2; rewrite [if_pos cl']))
          go_returns
          exact ⟨by rw [hv.out]; rfl, below_xw ((Below.refl _ _).alloc (Nat.le_refl _) _) (by simp) _ _⟩
        · have hv : Kept (parseB (tx s) = .ok ⟨2, 0, u⟩) := ⟨by rw [HV.out, hu]; simp only [if_neg cl]⟩
          have cl' : ¬ 64 < (bs u).size := by rw [bs_size]; exact cl
          clear hu
          go_wp2_with (first | (go_at_call 9; refine (text_any (bs u) _).mono ?_; rintro e w2 ⟨rfl, hb2⟩; obtain ⟨r2, d2, rfl⟩ := xw_of hb2; clear hb2; rewrite [if_neg cl']))
          go_returns
          exact ⟨by rw [hv.out]; rfl, below_xw ((Below.refl _ _).alloc (Nat.le_refl _) _) (by simp) _ _⟩
    · have q : ((s[0].toNat : Int) == 39) = false := by have h := q39; rw [decide_eq_false c] at h; exact h
      have HV : Kept (parseB (tx s) = (match numR (tx s) with | .error e => .error e | .ok n => .ok ⟨1, n, []⟩)) := ⟨by
        unfold parseB; rw [if_neg hne, if_neg (by rw [hhd]; intro h; injection h with h; exact c h)]; cases numR (tx s) <;> rfl⟩
      have HSS := Kept.mk hs
      clear hs q39 hne hhd ht c
      go_enter Try.func19, Try.ntmps19
      go_wp2_with fail
      go_at_call 32
      refine (read_any s HSS.out _).mono ?_
      rintro e w1 ⟨rfl, rfl⟩
      cases hu : numR (tx s) with
      | error er =>
        have hv : Kept (parseB (tx s) = .error er) := ⟨by rw [HV.out, hu]⟩
        have hne : er ≠ 0 := numR_err hu
        rewrite [show numV (.error er) = .tuple #[.int .i64 0, .int .i64 er] from rfl]
        have hb : (er != 0) = true := by simp [hne]
        clear hu
        go_wp2_with fail
        go_returns
        exact ⟨by rw [hv.out]; rfl, (Below.refl _ _).alloc (Nat.le_refl _) _⟩
      | ok n =>
        have hv : Kept (parseB (tx s) = .ok ⟨1, n, []⟩) := ⟨by rw [HV.out, hu]⟩
        rewrite [show numV (.ok n) = .tuple #[.int .i64 n, .int .i64 0] from rfl]
        clear hu
        go_wp2_with (first | (go_at_call 12; refine (num_any n _).mono ?_; rintro e w2 ⟨rfl, hb2⟩; obtain ⟨r2, d2, rfl⟩ := xw_of hb2; clear hb2))
        go_returns
        exact ⟨by rw [hv.out]; rfl, below_xw ((Below.refl _ _).alloc (Nat.le_refl _) _) (by simp) _ _⟩
end Go.Proofs.Ytmibpaegcbaaaaa
