/- Plain words on tokens (no program in sight): joined tokens are split into the same tokens; what is split is all there. -/
import Derived.Test.YtlckgloaknjcgaaLexQ
namespace Go.Proofs.Ytlckgloaknjcgaa
set_option linter.unusedVariables false
set_option linter.unusedSimpArgs false

/-! ### joined tokens are split into the same tokens -/
theorem run_join (p : UInt8 → Bool) (l r : Bs) (h : l.all p = true) (hr : ∀ b t, r = b :: t → p b = false) : runB p (l ++ r) = l.length := by
  induction l with
  | nil =>
    cases r with
    | nil => rfl
    | cons b t => simp [runB, hr b t rfl]
  | cons a l ih =>
    simp only [List.all_cons, Bool.and_eq_true] at h
    simp only [List.cons_append, runB, h.1, if_true, List.length_cons]
    rw [ih h.2]
theorem quote_join (l r : Bs) (h : l.all (· != 39) = true) : quoteB (l ++ 39 :: r) = some l.length := by
  induction l with
  | nil => rfl
  | cons a l ih =>
    simp only [List.all_cons, Bool.and_eq_true, bne_iff_ne, ne_eq] at h
    simp only [List.cons_append, quoteB, if_neg h.1, ih h.2, Option.map_some, List.length_cons]
/-- A token, and behind it nothing or a blank: it is what the text begins with. -/
theorem may_first {k : Int} {l r : Bs} (h : mayB k l = true) (hr : ∀ b t, r = b :: t → b = 32) : ∃ k' : Nat, (k' : Int) = k ∧ firstB (l ++ r) = .ok (k', l.length) := by
  cases l with
  | nil => simp [mayB] at h
  | cons b t =>
    have hk := may_kind h
    unfold mayB at h
    simp only [List.cons_ne_nil, if_false] at h
    unfold firstB
    simp only [List.cons_append]
    by_cases hl : isL b = true
    · have e : k = 1 := by rw [hk]; simp [headKind, hl]
      subst e
      simp only [show ¬ ((1 : Int) = 4) by decide, show ¬ ((1 : Int) = 3) by decide, if_false, if_true, hl, Bool.true_and] at h
      refine ⟨1, rfl, ?_⟩
      simp only [hl, if_true]
      rw [← List.cons_append, run_join isA (b :: t) r h (fun b t e => by rw [hr b t e]; decide)]
    · have hl : isL b = false := by simpa using hl
      by_cases hd : isD b = true
      · have e : k = 2 := by rw [hk]; simp [headKind, hl, hd]
        subst e
        simp only [show ¬ ((2 : Int) = 4) by decide, show ¬ ((2 : Int) = 3) by decide, show ¬ ((2 : Int) = 1) by decide, if_false, if_true] at h
        refine ⟨2, rfl, ?_⟩
        simp only [hl, hd, if_true, Bool.false_eq_true, if_false]
        rw [← List.cons_append, run_join isD (b :: t) r h (fun b t e => by rw [hr b t e]; decide)]
      · have hd : isD b = false := by simpa using hd
        by_cases hq : b = 39
        · subst hq
          have e : k = 3 := by rw [hk]; decide
          subst e
          have h3 := may3 t.length t (Nat.le_refl _)
          rw [List.take_length] at h3
          have hm : mayB 3 (39 :: t) = true := by
            unfold mayB
            simp only [List.cons_ne_nil, if_false]
            exact h
          rw [h3] at hm
          simp only [Bool.and_eq_true, decide_eq_true_eq, beq_iff_eq] at hm
          obtain ⟨⟨g1, g2⟩, g3⟩ := hm
          refine ⟨3, rfl, ?_⟩
          simp only [hl, hd, Bool.false_eq_true, if_false, if_true]
          have ht : t = t.take (t.length - 1) ++ [39] := by
            have hlt : t.length - 1 < t.length := by omega
            have e1 : t.drop (t.length - 1) = [39] := by
              rw [List.drop_eq_getElem_cons hlt]
              rw [List.getElem?_eq_getElem hlt] at g2
              injection g2 with g2
              rw [g2, List.drop_of_length_le (by omega)]
            rw [← e1, List.take_append_drop]
          have e2 : t ++ r = t.take (t.length - 1) ++ 39 :: r := by
            conv => lhs; rw [ht]
            simp
          rw [e2, quote_join _ _ g3]
          simp only [List.length_take, List.length_cons]
          congr 2
          omega
        · have e : k = 4 := by rw [hk]; simp [headKind, hl, hd, hq]
          subst e
          simp only [if_true, decide_eq_true_eq] at h
          refine ⟨4, rfl, ?_⟩
          simp only [hl, hd, hq, Bool.false_eq_true, if_false]
          have hs : signB (b :: (t ++ r)) = (b :: t).length := by
            have hh := signs_head h
            unfold signB
            have ht : t = [] ∨ ∃ c, t = [c] := by
              match t, hh.2 with
              | [], _ => exact .inl rfl
              | [c], _ => exact .inr ⟨c, rfl⟩
              | _ :: _ :: _, h2 => simp at h2
            rcases ht with rfl | ⟨c, rfl⟩
            · have hn : (b :: ([] ++ r)).take 2 ∉ two := by
                cases r with
                | nil =>
                  intro hm
                  have := (two_signs hm).2
                  simp at this
                | cons c u =>
                  rw [hr c u rfl]
                  intro hm
                  have : ∀ x ∈ two, x[1]? ≠ some 32 := by decide
                  exact this _ hm (by simp)
              rw [if_neg hn]
              simp [hh.1]
            · have hm : (b :: ([c] ++ r)).take 2 ∈ two := by
                have := signs_two h (by simp)
                simpa using this
              rw [if_pos hm]; rfl
          rw [hs]
          simp
theorem may_head {k : Int} {b : UInt8} {t : Bs} (h : mayB k (b :: t) = true) : b ≠ 32 := by
  rintro rfl
  have hk := may_kind h
  have e : headKind 32 = 4 := by decide
  rw [e] at hk
  subst hk
  unfold mayB at h
  simp only [List.cons_ne_nil, if_false, if_true, decide_eq_true_eq] at h
  have := (signs_head h).1
  revert this
  decide
theorem split_one {k : Int} {l r : Bs} (h : mayB k l = true) (hr : ∀ b t, r = b :: t → b = 32) : splitB (l ++ r) = match splitB r with
    | .error e => .error e
    | .ok us => .ok ((k, l) :: us) := by
  obtain ⟨k', hk, hf⟩ := may_first h hr
  cases l with
  | nil => simp [mayB] at h
  | cons b t =>
    rw [List.cons_append] at hf ⊢
    rw [splitB_tok (may_head h) hf]
    rw [← List.cons_append, List.drop_left, List.take_left, hk]
    cases splitB r <;> rfl
theorem split_join (ts : List (Int × Bs)) (h : ∀ t ∈ ts, mayB t.1 t.2 = true) : splitB (joinB (ts.map Prod.snd)) = .ok ts := by
  induction ts with
  | nil => rfl
  | cons t r ih =>
    have h1 := h t (by simp)
    have h2 := ih (fun t ht => h t (by simp [ht]))
    cases r with
    | nil =>
      have := split_one (r := []) h1 (fun b t e => by cases e)
      simp only [List.append_nil, splitB_nil] at this
      simpa [joinB] using this
    | cons u r =>
      have e : joinB ((t :: u :: r).map Prod.snd) = t.2 ++ 32 :: joinB ((u :: r).map Prod.snd) := rfl
      rw [e, split_one h1 (fun b t e => by injection e with e _; exact e.symm), splitB_blank, h2]
end Go.Proofs.Ytlckgloaknjcgaa
