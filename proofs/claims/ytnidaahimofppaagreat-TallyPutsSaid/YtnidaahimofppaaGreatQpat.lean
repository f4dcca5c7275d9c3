/- Layer 5 (value): the reference's Compare, walked. -/
import Derived.Test.YtnidaahimofppaaGreatQpas
namespace Go.Proofs.YtnidaahimofppaaGreat
open Go.RowKit
set_option linter.unusedVariables false
set_option linter.unusedSimpArgs false


set_option maxRecDepth 100000 in
set_option maxHeartbeats 1000000 in
theorem rcomp_0 (k n j m : Int) (s u : ByteArray) (h1 : mayV ⟨k, n, tx s⟩ = false) (w : World) :
    Calls Tryz.prog 39 #[va k n s, va j m u] w (fun e w' => e = .returned (.int .i64 0) ∧ Below w.heap.size w w') := by
  go_enter Tryz.func39, Tryz.ntmps39
  go_wp2_with fail
  go_at_call 51
  refine (rmay_any k n s _).mono ?_
  rintro e w1 ⟨rfl, hb1⟩
  obtain ⟨r1, d1, rfl⟩ := xw_of hb1
  clear hb1
  rewrite [h1]
  go_wp2_with fail
  go_returns
  exact ⟨rfl, below_xw (((Below.refl _ _).alloc (Nat.le_refl _) _).alloc (by simp) _) (by simp; omega) _ _⟩

set_option maxRecDepth 100000 in
set_option maxHeartbeats 1000000 in
theorem rcomp_m0 (k n j m : Int) (s u : ByteArray) (h1 : mayV ⟨k, n, tx s⟩ = true) (h2 : mayV ⟨j, m, tx u⟩ = false) (w : World) :
    Calls Tryz.prog 39 #[va k n s, va j m u] w (fun e w' => e = .returned (.int .i64 0) ∧ Below w.heap.size w w') := by
  go_enter Tryz.func39, Tryz.ntmps39
  go_wp2_with fail
  go_at_call 51
  refine (rmay_any k n s _).mono ?_
  rintro e w1 ⟨rfl, hb1⟩
  obtain ⟨r1, d1, rfl⟩ := xw_of hb1
  clear hb1
  rewrite [h1]
  go_wp2_with fail
  go_at_call 51
  refine (rmay_any j m u _).mono ?_
  rintro e w2 ⟨rfl, hb2⟩
  obtain ⟨r2, d2, rfl⟩ := xw_of hb2
  clear hb2
  rewrite [h2]
  go_wp2_with fail
  go_returns
  exact ⟨rfl, below_xw (((Below.refl _ _).alloc (Nat.le_refl _) _).alloc (by simp) _) (by simp; omega) _ _⟩

set_option maxRecDepth 100000 in
set_option maxHeartbeats 1000000 in
theorem rcomp_nt (n : Int) (s u : ByteArray) (h1 : mayV ⟨1, n, tx s⟩ = true) (h2 : mayV ⟨2, 0, tx u⟩ = true) (w : World) :
    Calls Tryz.prog 39 #[va 1 n s, va 2 0 u] w (fun e w' => e = .returned (.int .i64 (-1)) ∧ Below w.heap.size w w') := by
  go_enter Tryz.func39, Tryz.ntmps39
  go_wp2_with fail
  go_at_call 51
  refine (rmay_any 1 n s _).mono ?_
  rintro e w1 ⟨rfl, hb1⟩
  obtain ⟨r1, d1, rfl⟩ := xw_of hb1
  clear hb1
  rewrite [h1]
  go_wp2_with fail
  go_at_call 51
  refine (rmay_any 2 0 u _).mono ?_
  rintro e w2 ⟨rfl, hb2⟩
  obtain ⟨r2, d2, rfl⟩ := xw_of hb2
  clear hb2
  rewrite [h2]
  go_wp2_with fail
  go_returns
  exact ⟨rfl, below_xw (((Below.refl _ _).alloc (Nat.le_refl _) _).alloc (by simp) _) (by simp; omega) _ _⟩

set_option maxRecDepth 100000 in
set_option maxHeartbeats 1000000 in
theorem rcomp_tn (m : Int) (s u : ByteArray) (h1 : mayV ⟨2, 0, tx s⟩ = true) (h2 : mayV ⟨1, m, tx u⟩ = true) (w : World) :
    Calls Tryz.prog 39 #[va 2 0 s, va 1 m u] w (fun e w' => e = .returned (.int .i64 1) ∧ Below w.heap.size w w') := by
  go_enter Tryz.func39, Tryz.ntmps39
  go_wp2_with fail
  go_at_call 51
  refine (rmay_any 2 0 s _).mono ?_
  rintro e w1 ⟨rfl, hb1⟩
  obtain ⟨r1, d1, rfl⟩ := xw_of hb1
  clear hb1
  rewrite [h1]
  go_wp2_with fail
  go_at_call 51
  refine (rmay_any 1 m u _).mono ?_
  rintro e w2 ⟨rfl, hb2⟩
  obtain ⟨r2, d2, rfl⟩ := xw_of hb2
  clear hb2
  rewrite [h2]
  go_wp2_with fail
  go_returns
  exact ⟨rfl, below_xw (((Below.refl _ _).alloc (Nat.le_refl _) _).alloc (by simp) _) (by simp; omega) _ _⟩

set_option maxRecDepth 100000 in
set_option maxHeartbeats 1000000 in
theorem rcomp_lt (n m : Int) (c : n < m) (s u : ByteArray) (h1 : mayV ⟨1, n, tx s⟩ = true) (h2 : mayV ⟨1, m, tx u⟩ = true) (w : World) :
    Calls Tryz.prog 39 #[va 1 n s, va 1 m u] w (fun e w' => e = .returned (.int .i64 (-1)) ∧ Below w.heap.size w w') := by
  have c1 : ¬ n = m := by omega
  have c2 : (n == m) = false := by simp; omega
  go_enter Tryz.func39, Tryz.ntmps39
  go_wp2_with fail
  go_at_call 51
  refine (rmay_any 1 n s _).mono ?_
  rintro e w1 ⟨rfl, hb1⟩
  obtain ⟨r1, d1, rfl⟩ := xw_of hb1
  clear hb1
  rewrite [h1]
  go_wp2_with fail
  go_at_call 51
  refine (rmay_any 1 m u _).mono ?_
  rintro e w2 ⟨rfl, hb2⟩
  obtain ⟨r2, d2, rfl⟩ := xw_of hb2
  clear hb2
  rewrite [h2]
  go_wp2_with fail
  go_returns
  exact ⟨rfl, below_xw (((Below.refl _ _).alloc (Nat.le_refl _) _).alloc (by simp) _) (by simp; omega) _ _⟩

set_option maxRecDepth 100000 in
set_option maxHeartbeats 1000000 in
theorem rcomp_gt (n m : Int) (c : m < n) (s u : ByteArray) (h1 : mayV ⟨1, n, tx s⟩ = true) (h2 : mayV ⟨1, m, tx u⟩ = true) (w : World) :
    Calls Tryz.prog 39 #[va 1 n s, va 1 m u] w (fun e w' => e = .returned (.int .i64 1) ∧ Below w.heap.size w w') := by
  have c1 : ¬ n = m := by omega
  have c2 : (n == m) = false := by simp; omega
  have c3 : ¬ n < m := by omega
  go_enter Tryz.func39, Tryz.ntmps39
  go_wp2_with fail
  go_at_call 51
  refine (rmay_any 1 n s _).mono ?_
  rintro e w1 ⟨rfl, hb1⟩
  obtain ⟨r1, d1, rfl⟩ := xw_of hb1
  clear hb1
  rewrite [h1]
  go_wp2_with fail
  go_at_call 51
  refine (rmay_any 1 m u _).mono ?_
  rintro e w2 ⟨rfl, hb2⟩
  obtain ⟨r2, d2, rfl⟩ := xw_of hb2
  clear hb2
  rewrite [h2]
  go_wp2_with fail
  go_returns
  exact ⟨rfl, below_xw (((Below.refl _ _).alloc (Nat.le_refl _) _).alloc (by simp) _) (by simp; omega) _ _⟩

def RcI (s u : ByteArray) (v5 : Value) (wr wz : World) : Prop := ∃ (i nd : Nat), v5 = .int .i64 (i : Int) ∧ wr = wz.drewN nd ∧ Kept (i ≤ s.size ∧ i ≤ u.size ∧ Lib.compareBytes ((tx s).drop i) ((tx u).drop i) = Lib.compareBytes (tx s) (tx u))

set_option maxRecDepth 100000 in
set_option maxHeartbeats 1000000 in
theorem rcomp_same (k n : Int) (s u : ByteArray) (hs : s.size ≤ 64) (h1 : mayV ⟨k, n, tx s⟩ = true) (h2 : mayV ⟨k, n, tx u⟩ = true) (w : World) :
    Calls Tryz.prog 39 #[va k n s, va k n u] w (fun e w' => e = .returned (.int .i64 (Lib.compareBytes (tx s) (tx u))) ∧ Below w.heap.size w w') := by
  have HS := Kept.mk hs
  clear hs
  go_enter Tryz.func39, Tryz.ntmps39
  go_wp2_with fail
  go_at_call 51
  refine (rmay_any k n s _).mono ?_
  rintro e w1 ⟨rfl, hb1⟩
  obtain ⟨r1, d1, rfl⟩ := xw_of hb1
  clear hb1
  rewrite [h1]
  go_wp2_with fail
  go_at_call 51
  refine (rmay_any k n u _).mono ?_
  rintro e w2 ⟨rfl, hb2⟩
  obtain ⟨r2, d2, rfl⟩ := xw_of hb2
  clear hb2
  rewrite [h2]
  go_wp2_with fail
  obtain ⟨wz, hwz⟩ : ∃ wz, wz = xw ((w.alloc (.cells #[.int .i64 k, .int .i64 n, .string s] 68)).alloc (.cells #[.int .i64 k, .int .i64 n, .string u] 68)) (r1 ++ r2) d2 := ⟨_, rfl⟩
  have hBz : Below w.heap.size w wz := by rw [hwz]; exact below_xw (((Below.refl _ _).alloc (Nat.le_refl _) _).alloc (by simp) _) (by simp; omega) _ _
  have z0 : wz.cell? ⟨w.heap.size, 2, none⟩ = some (.string s) := by rw [hwz, xw_cell _ _ _ _ _ (by simp; omega)]; simp [go_sem]
  have z1 : wz.cell? ⟨w.heap.size + 1, 2, none⟩ = some (.string u) := by rw [hwz, xw_cell _ _ _ _ _ (by simp)]; simp [go_sem]
  rewrite [← hwz]
  have HB := Kept.mk hBz
  clear hwz hBz h1 h2
  go_loopw [5] (fun v5 wr => RcI s u v5 wr wz) (fun v5 wr => s.size - (intOf v5).toNat)
  case atStart => exact ⟨0, 0, rfl, rfl, ⟨by simp, by simp, by simp⟩⟩
  case round =>
    obtain ⟨i, nd, rfl, rfl, HI⟩ := hrel
    obtain ⟨hi1, hi2, hI⟩ := HI.out
    have f0 : 0 ≤ (i : Int) := by omega
    have hs := HS.out
    have hw : wrap64 ((i : Int) + 1) = (i : Int) + 1 := by simp only [wrap64]; omega
    by_cases c1 : i < s.size
    · have e1 := tx_dropc s i c1
      by_cases c2 : i < u.size
      · have e2 := tx_dropc u i c2
        rw [e1, e2] at hI
        have c1' : (i : Int) < (s.size : Int) := by omega
        have c2' : (i : Int) < (u.size : Int) := by omega
        by_cases cq : s[i] = u[i]
        · have q : (s[i].toNat : Int) = (u[i].toNat : Int) := by rw [cq]
          have hI2 : Lib.compareBytes ((tx s).drop (i + 1)) ((tx u).drop (i + 1)) = Lib.compareBytes (tx s) (tx u) := by
            rw [← hI, cq]
            simp only [Lib.compareBytes]
            have : ¬ u[i] < u[i] := by rw [u8_lt]; omega
            rw [if_neg this, if_neg this]
          have HI2 := Kept.mk (And.intro c1 (And.intro c2 hI2))
          rewrite [cq] at q
          have q2 : (s[i].toNat : Int) = (u[i].toNat : Int) := by rw [cq]
          clear hI hI2 e1 e2 cq HI hi1 hi2 hs q
          go_wp2_with fail
          go_quiet (fail)
          go_wp2_with fail
          go_roundw
          case rel => exact ⟨i + 1, _, by rw [hw]; rfl, rfl, ⟨HI2.out.1, HI2.out.2.1, HI2.out.2.2⟩⟩
          case measure => exact less_step hw c1
        · have q : ¬ ((s[i].toNat : Int) = (u[i].toNat : Int)) := fun h => cq (UInt8.toNat_inj.1 (by omega))
          by_cases cl : s[i].toNat < u[i].toNat
          · have hv : Kept (Lib.compareBytes (tx s) (tx u) = -1) := ⟨by rw [← hI]; simp only [Lib.compareBytes]; rw [if_pos (u8_lt.2 cl)]⟩
            have cl' : (s[i].toNat : Int) < (u[i].toNat : Int) := by omega
            clear hI e1 e2 cq cl HI hi1 hi2 hs
            go_wp2_with fail
            go_quiet (fail)
            go_wp2_with fail
            go_quiet (fail)
            go_wp2_with fail
            go_returns
            exact ⟨by rw [hv.out]; rfl, below_drewN (below_drewN (below_drewN HB.out _) _) _⟩
          · have hv : Kept (Lib.compareBytes (tx s) (tx u) = 1) := ⟨by rw [← hI]; simp only [Lib.compareBytes]; rw [if_neg (fun h => cl (u8_lt.1 h)), if_pos (u8_lt.2 (by omega))]⟩
            have cl' : ¬ ((s[i].toNat : Int) < (u[i].toNat : Int)) := by omega
            clear hI e1 e2 cq cl HI hi1 hi2 hs
            go_wp2_with fail
            go_quiet (fail)
            go_wp2_with fail
            go_quiet (fail)
            go_wp2_with fail
            go_returns
            exact ⟨by rw [hv.out]; rfl, below_drewN (below_drewN (below_drewN HB.out _) _) _⟩
      · have e2 : (tx u).drop i = [] := List.drop_of_length_le (by rw [tx_len]; omega)
        have hv : Kept (Lib.compareBytes (tx s) (tx u) = 1) := ⟨by rw [← hI, e1, e2]; rfl⟩
        have c1' : (i : Int) < (s.size : Int) := by omega
        have c2' : ¬ ((i : Int) < (u.size : Int)) := by omega
        have g1 : ¬ ((s.size : Int) = (u.size : Int)) := by omega
        have g2 : ¬ ((s.size : Int) < (u.size : Int)) := by omega
        clear hI e1 e2 HI hs c2
        go_wp2_with fail
        go_returns
        exact ⟨by rw [hv.out]; rfl, below_drewN HB.out _⟩
    · have e1 : (tx s).drop i = [] := List.drop_of_length_le (by rw [tx_len]; omega)
      have c1' : ¬ ((i : Int) < (s.size : Int)) := by omega
      by_cases c2 : i < u.size
      · have e2 := tx_dropc u i c2
        have hv : Kept (Lib.compareBytes (tx s) (tx u) = -1) := ⟨by rw [← hI, e1, e2]; rfl⟩
        have g1 : ¬ ((s.size : Int) = (u.size : Int)) := by omega
        have g2 : (s.size : Int) < (u.size : Int) := by omega
        clear hI e1 e2 HI hs c1
        go_wp2_with fail
        go_returns
        exact ⟨by rw [hv.out]; rfl, below_drewN HB.out _⟩
      · have e2 : (tx u).drop i = [] := List.drop_of_length_le (by rw [tx_len]; omega)
        have hv : Kept (Lib.compareBytes (tx s) (tx u) = 0) := ⟨by rw [← hI, e1, e2]; rfl⟩
        have g1 : s.size = u.size := by omega
        clear hI e1 e2 HI hs c1 c2 hi1 hi2
        go_wp2_with fail
        go_returns
        exact ⟨by rw [hv.out]; rfl, below_drewN HB.out _⟩

theorem rcomp_any (k n j m : Int) (s u : ByteArray) (w : World) :
    Calls Tryz.prog 39 #[va k n s, va j m u] w (fun e w' => e = .returned (.int .i64 (cmpV ⟨k, n, tx s⟩ ⟨j, m, tx u⟩)) ∧ Below w.heap.size w w') := by
  cases h1 : mayV ⟨k, n, tx s⟩ with
  | false =>
    have e : cmpV ⟨k, n, tx s⟩ ⟨j, m, tx u⟩ = 0 := by unfold cmpV; rw [h1]; simp
    rw [e]
    exact rcomp_0 k n j m s u h1 w
  | true =>
    cases h2 : mayV ⟨j, m, tx u⟩ with
    | false =>
      have e : cmpV ⟨k, n, tx s⟩ ⟨j, m, tx u⟩ = 0 := by unfold cmpV; rw [h2]; simp
      rw [e]
      exact rcomp_m0 k n j m s u h1 h2 w
    | true =>
      have hb : (mayV ⟨k, n, tx s⟩ && mayV ⟨j, m, tx u⟩) = true := by rw [h1, h2]; rfl
      unfold cmpV
      rw [if_pos hb]
      rcases mayV_cases h1 with ⟨rfl, g1⟩ | ⟨rfl, rfl, g1⟩ <;> rcases mayV_cases h2 with ⟨rfl, g2⟩ | ⟨rfl, rfl, g2⟩
      · rcases Int.lt_trichotomy n m with c | c | c
        · have e : cmpI n m = -1 := by unfold cmpI; rw [if_pos c]
          simp only [if_true, e]
          exact rcomp_lt n m c s u h1 h2 w
        · subst c
          have e : cmpI n n = 0 := by unfold cmpI; simp
          have e2 : Lib.compareBytes (tx s) (tx u) = 0 := by rw [g1, g2]; rfl
          simp only [if_true, e]
          rw [← e2]
          exact rcomp_same 1 n s u (by have := tx_len s; rw [g1] at this; simp at this; omega) h1 h2 w
        · have e : cmpI n m = 1 := by unfold cmpI; rw [if_neg (by omega), if_pos c]
          simp only [if_true, e]
          exact rcomp_gt n m c s u h1 h2 w
      · exact rcomp_nt n s u h1 h2 w
      · exact rcomp_tn m s u h1 h2 w
      · exact rcomp_same 2 0 s u g1 h1 h2 w
end Go.Proofs.YtnidaahimofppaaGreat
