/- Layer 26 (tally): what is wrong with an aggregate, walked. -/
import Derived.Test.YtnidaahimofppaaGreatQpak
namespace Go.Proofs.YtnidaahimofppaaGreat
open Go.RowKit
set_option linter.unusedVariables false
set_option linter.unusedSimpArgs false

theorem column_any (k : Int) (w : World) : Calls Tryz.prog 43 #[.int .i64 k] w (fun e w' => e = .returned (.bool (colB k)) ∧ w = w') := by
  by_cases c1 : k = 1
  · subst c1
    go_enter Tryz.func43, Tryz.ntmps43
    go_wp2_with fail
    go_returns
    exact ⟨rfl, rfl⟩
  · by_cases c2 : k = 7
    · subst c2
      go_enter Tryz.func43, Tryz.ntmps43
      go_wp2_with fail
      go_returns
      exact ⟨rfl, rfl⟩
    · have hv : Kept (colB k = true) := ⟨by simp [colB, c1, c2]⟩
      have d1 : (k != 1) = true := by simp [c1]
      have d2 : (k != 7) = true := by simp [c2]
      clear c1 c2
      go_enter Tryz.func43, Tryz.ntmps43
      go_wp2_with fail
      go_returns
      exact ⟨by rw [hv.out]; first | rfl | simp [d1, d2], rfl⟩
theorem HasC.kind {w : World} {B : Nat} {A : Option Addr} {n c : Nat} {cs : List Cl} (h : HasC w B (.slice A n c) cs) {m : Nat} (hm : m < cs.length) : ∃ b off, A = some ⟨b, off, none⟩ ∧ b < B ∧ w.cell? ⟨b, off + m * 2 + 1, none⟩ = some (.int .i64 (kAt cs (m : Int))) := by
  obtain ⟨_, _, hA⟩ := h.opn
  obtain ⟨b, off, rfl, hb, hc⟩ := hA (by rintro rfl; simp at hm)
  refine ⟨b, off, rfl, hb, ?_⟩
  rw [(hc m hm).2]
  unfold kAt
  simp [hm]
set_option maxRecDepth 100000 in
set_option maxHeartbeats 2000000 in
theorem tcheck_any (v : Value) (cs : List Cl) (a : Vr) (w : World) (H : HasC w w.heap.size v cs) (h8 : cs.length ≤ 8) :
    Calls Tryz.prog 26 #[v, va a.k a.n a.s] w (fun e w' => e = .returned (.int .i64 (chkT cs a)) ∧ Below w.heap.size w w') := by
  have HH := Kept.mk H
  obtain ⟨A, c, rfl, _, _⟩ := H
  have H8 := Kept.mk h8
  obtain ⟨k, n, s⟩ := a
  dsimp only
  by_cases c1 : k < 1
  · have hv : Kept (chkT cs ⟨k, n, s⟩ = 2) := ⟨chkT_bad (.inl c1)⟩
    go_enter Tryz.func26, Tryz.ntmps26
    go_wp2_with fail
    go_returns
    exact ⟨by rw [hv.out]; rfl, (Below.refl _ _).alloc (Nat.le_refl _) _⟩
  · by_cases c2 : 7 < k
    · have hv : Kept (chkT cs ⟨k, n, s⟩ = 2) := ⟨chkT_bad (.inr (.inl c2))⟩
      go_enter Tryz.func26, Tryz.ntmps26
      go_wp2_with fail
      go_returns
      exact ⟨by rw [hv.out]; rfl, (Below.refl _ _).alloc (Nat.le_refl _) _⟩
    · cases hn : nameN (tx s) with
      | false =>
        have hv : Kept (chkT cs ⟨k, n, s⟩ = 2) := ⟨chkT_bad (.inr (.inr hn))⟩
        have HN := Kept.mk hn
        clear hn
        go_enter Tryz.func26, Tryz.ntmps26
        go_wp2_with (first | (go_at_call 41; refine (cName_any _ trivial _).mono ?_; rintro e w1 ⟨rfl, rfl⟩; rewrite [HN.out]))
        go_returns
        exact ⟨by rw [hv.out]; rfl, (Below.refl _ _).alloc (Nat.le_refl _) _⟩
      | true =>
        have HN := Kept.mk hn
        clear hn
        have HK := Kept.mk (And.intro c1 c2)
        cases hc : colB k with
        | false =>
          have HC := Kept.mk hc
          clear hc
          by_cases c3 : n = 0
          · have hv : Kept (chkT cs ⟨k, n, s⟩ = 0) := ⟨by rw [chkT_no (a := ⟨k, n, s⟩) (by have := HK.out; simp only; omega) (by have := HK.out; simp only; omega) HN.out HC.out]; exact if_pos c3⟩
            subst c3
            go_enter Tryz.func26, Tryz.ntmps26
            go_wp2_with (first | (go_at_call 41; refine (cName_any _ trivial _).mono ?_; rintro e w1 ⟨rfl, rfl⟩; rewrite [HN.out]) | (go_at_call 43; refine (column_any _ _).mono ?_; rintro e w1 ⟨rfl, rfl⟩; rewrite [HC.out]))
            go_returns
            exact ⟨by rw [hv.out]; rfl, (Below.refl _ _).alloc (Nat.le_refl _) _⟩
          · have hv : Kept (chkT cs ⟨k, n, s⟩ = 2) := ⟨by rw [chkT_no (a := ⟨k, n, s⟩) (by have := HK.out; simp only; omega) (by have := HK.out; simp only; omega) HN.out HC.out]; exact if_neg c3⟩
            have d3 : (n != 0) = true := by simp [c3]
            clear c3
            go_enter Tryz.func26, Tryz.ntmps26
            go_wp2_with (first | (go_at_call 41; refine (cName_any _ trivial _).mono ?_; rintro e w1 ⟨rfl, rfl⟩; rewrite [HN.out]) | (go_at_call 43; refine (column_any _ _).mono ?_; rintro e w1 ⟨rfl, rfl⟩; rewrite [HC.out]))
            go_returns
            exact ⟨by rw [hv.out]; rfl, (Below.refl _ _).alloc (Nat.le_refl _) _⟩
        | true =>
          have HC := Kept.mk hc
          clear hc
          by_cases c3 : n < 0
          · have hv : Kept (chkT cs ⟨k, n, s⟩ = 3) := ⟨chkT_rng (a := ⟨k, n, s⟩) (by have := HK.out; simp only; omega) (by have := HK.out; simp only; omega) HN.out HC.out (.inl c3)⟩
            go_enter Tryz.func26, Tryz.ntmps26
            go_wp2_with (first | (go_at_call 41; refine (cName_any _ trivial _).mono ?_; rintro e w1 ⟨rfl, rfl⟩; rewrite [HN.out]) | (go_at_call 43; refine (column_any _ _).mono ?_; rintro e w1 ⟨rfl, rfl⟩; rewrite [HC.out]))
            go_returns
            exact ⟨by rw [hv.out]; rfl, (Below.refl _ _).alloc (Nat.le_refl _) _⟩
          · by_cases c4 : (cs.length : Int) ≤ n
            · have hv : Kept (chkT cs ⟨k, n, s⟩ = 3) := ⟨chkT_rng (a := ⟨k, n, s⟩) (by have := HK.out; simp only; omega) (by have := HK.out; simp only; omega) HN.out HC.out (.inr c4)⟩
              go_enter Tryz.func26, Tryz.ntmps26
              go_wp2_with (first | (go_at_call 41; refine (cName_any _ trivial _).mono ?_; rintro e w1 ⟨rfl, rfl⟩; rewrite [HN.out]) | (go_at_call 43; refine (column_any _ _).mono ?_; rintro e w1 ⟨rfl, rfl⟩; rewrite [HC.out]))
              go_returns
              exact ⟨by rw [hv.out]; rfl, (Below.refl _ _).alloc (Nat.le_refl _) _⟩
            · have hk := chkT_kind (a := ⟨k, n, s⟩) (cs := cs) (by have := HK.out; simp only; omega) (by have := HK.out; simp only; omega) HN.out HC.out (by simp only; omega) (by simp only; omega)
              dsimp only at hk
              obtain ⟨m, rfl⟩ := Int.eq_ofNat_of_zero_le (show 0 ≤ n by omega)
              obtain ⟨b, off, rfl, hb, e0⟩ := HH.out.kind (show m < cs.length by omega)
              have e1 : ∀ o, (w.alloc o).cell? ⟨b, off + m * 2 + 1, none⟩ = w.cell? ⟨b, off + m * 2 + 1, none⟩ := fun o => World.cell?_alloc_lt _ _ _ hb
              have hcol := colB_t HC.out
              generalize kAt cs (m : Int) = q at e0 hk
              by_cases c5 : k = 3
              · have hv : Kept (chkT cs ⟨k, (m : Int), s⟩ = 0) := ⟨by rw [hk, if_neg (by simp [c5])]⟩
                subst c5
                clear hk hcol
                go_enter Tryz.func26, Tryz.ntmps26
                go_wp2_with (first | (go_at_call 41; refine (cName_any _ trivial _).mono ?_; rintro e w1 ⟨rfl, rfl⟩; rewrite [HN.out]) | (go_at_call 43; refine (column_any _ _).mono ?_; rintro e w1 ⟨rfl, rfl⟩; rewrite [HC.out]))
                go_returns
                exact ⟨by rw [hv.out]; rfl, (Below.refl _ _).alloc (Nat.le_refl _) _⟩
              · by_cases c6 : k = 4
                · have hv : Kept (chkT cs ⟨k, (m : Int), s⟩ = 0) := ⟨by rw [hk, if_neg (by simp [c6])]⟩
                  subst c6
                  clear hk hcol c5
                  go_enter Tryz.func26, Tryz.ntmps26
                  go_wp2_with (first | (go_at_call 41; refine (cName_any _ trivial _).mono ?_; rintro e w1 ⟨rfl, rfl⟩; rewrite [HN.out]) | (go_at_call 43; refine (column_any _ _).mono ?_; rintro e w1 ⟨rfl, rfl⟩; rewrite [HC.out]))
                  go_returns
                  exact ⟨by rw [hv.out]; rfl, (Below.refl _ _).alloc (Nat.le_refl _) _⟩
                · have d5 : (k != 3) = true := by simp [c5]
                  have d6 : (k != 4) = true := by simp [c6]
                  have c4' : (m : Int) < (cs.length : Int) := by omega
                  by_cases c7 : q = 1
                  · have hv : Kept (chkT cs ⟨k, (m : Int), s⟩ = 0) := ⟨by rw [hk, if_neg (by simp [c7])]⟩
                    subst c7
                    clear hk hcol c5 c6
                    go_enter Tryz.func26, Tryz.ntmps26
                    go_wp2_with (first | (go_at_call 41; refine (cName_any _ trivial _).mono ?_; rintro e w1 ⟨rfl, rfl⟩; rewrite [HN.out]) | (go_at_call 43; refine (column_any _ _).mono ?_; rintro e w1 ⟨rfl, rfl⟩; rewrite [HC.out]))
                    go_returns
                    exact ⟨by rw [hv.out]; rfl, (Below.refl _ _).alloc (Nat.le_refl _) _⟩
                  · have hv : Kept (chkT cs ⟨k, (m : Int), s⟩ = 12) := ⟨by rw [hk, if_pos ⟨c5, c6, c7⟩]⟩
                    have d7 : (q != 1) = true := by simp [c7]
                    clear hk hcol c5 c6 c7
                    go_enter Tryz.func26, Tryz.ntmps26
                    go_wp2_with (first | (go_at_call 41; refine (cName_any _ trivial _).mono ?_; rintro e w1 ⟨rfl, rfl⟩; rewrite [HN.out]) | (go_at_call 43; refine (column_any _ _).mono ?_; rintro e w1 ⟨rfl, rfl⟩; rewrite [HC.out]))
                    go_returns
                    exact ⟨by rw [hv.out]; rfl, (Below.refl _ _).alloc (Nat.le_refl _) _⟩
end Go.Proofs.YtnidaahimofppaaGreat
