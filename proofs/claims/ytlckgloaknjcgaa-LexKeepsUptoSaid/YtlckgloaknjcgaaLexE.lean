/- Plain words on tokens (no program in sight): a text without blanks outside of quotes; what is split is all there. -/
import Derived.Test.YtlckgloaknjcgaaLexH
namespace Go.Proofs.Ytlckgloaknjcgaa
set_option linter.unusedVariables false
set_option linter.unusedSimpArgs false

def turn (i : Bool) (b : UInt8) : Bool := if b = 39 then !i else i
def bareF : Bool → Bs → Bs
  | _, [] => []
  | i, b :: t => if turn i b = true ∨ b ≠ 32 then b :: bareF (turn i b) t else bareF (turn i b) t
theorem bare_blank (t : Bs) : bareF false (32 :: t) = bareF false t := by
  have e : turn false 32 = false := by decide
  simp only [bareF, e]
  rw [if_neg (by decide)]
theorem bare_keep {i : Bool} {b : UInt8} {t : Bs} (h : turn i b = true ∨ b ≠ 32) : bareF i (b :: t) = b :: bareF (turn i b) t := by
  simp only [bareF, if_pos h]
/-- Bytes that are no quotes and no blanks. -/
theorem bare_plain (l r : Bs) (h : ∀ b ∈ l, b ≠ 39 ∧ b ≠ 32) : bareF false (l ++ r) = l ++ bareF false r := by
  induction l with
  | nil => rfl
  | cons b t ih =>
    obtain ⟨h1, h2⟩ := h b (by simp)
    have e : turn false b = false := by simp [turn, h1]
    rw [List.cons_append, bare_keep (.inr h2), e, ih (fun b hb => h b (by simp [hb]))]
    rfl
/-- Inside of quotes. -/
theorem bare_in (l r : Bs) (h : ∀ b ∈ l, b ≠ 39) : bareF true (l ++ 39 :: r) = l ++ 39 :: bareF false r := by
  induction l with
  | nil =>
    have e : turn true 39 = false := by decide
    rw [List.nil_append, bare_keep (.inr (by decide)), e]
    rfl
  | cons b t ih =>
    have h1 := h b (by simp)
    have e : turn true b = true := by simp [turn, h1]
    rw [List.cons_append, bare_keep (.inl e), e, ih (fun b hb => h b (by simp [hb]))]
    rfl
theorem isA_plain {b : UInt8} (h : isA b = true) : b ≠ 39 ∧ b ≠ 32 := by
  refine ⟨?_, ?_⟩ <;> (rintro rfl; revert h; decide)
theorem bare_tok {k : Int} {l : Bs} (h : mayB k l = true) (r : Bs) : bareF false (l ++ r) = l ++ bareF false r := by
  cases l with
  | nil => rfl
  | cons b t =>
    have hk := may_kind h
    unfold mayB at h
    simp only [List.cons_ne_nil, if_false] at h
    by_cases k4 : k = 4
    · subst k4
      simp only [if_true, decide_eq_true_eq] at h
      refine bare_plain _ _ (fun x hx => ?_)
      have : ∀ s ∈ signs, ∀ x ∈ s, x ≠ 39 ∧ x ≠ 32 := by decide
      exact this _ h x hx
    · rw [if_neg k4] at h
      by_cases k3 : k = 3
      · subst k3
        simp only [if_true] at h
        have hb : b = 39 := by
          simp only [Bool.and_eq_true] at h
          simpa using h.1.1.2
        subst hb
        have h3 := may3 t.length t (Nat.le_refl _)
        rw [List.take_length] at h3
        have hm : mayB 3 (39 :: t) = true := by
          unfold mayB
          simp only [List.cons_ne_nil, if_false]
          exact h
        rw [h3] at hm
        simp only [Bool.and_eq_true, decide_eq_true_eq, beq_iff_eq] at hm
        obtain ⟨⟨g1, g2⟩, g3⟩ := hm
        have ht : t = t.take (t.length - 1) ++ [39] := by
          have hlt : t.length - 1 < t.length := by omega
          have e1 : t.drop (t.length - 1) = [39] := by
            rw [List.drop_eq_getElem_cons hlt]
            rw [List.getElem?_eq_getElem hlt] at g2
            injection g2 with g2
            rw [g2, List.drop_of_length_le (by omega)]
          rw [← e1, List.take_append_drop]
        have e : turn false 39 = true := by decide
        rw [List.cons_append, bare_keep (.inl e), e]
        generalize t.take (t.length - 1) = m at ht g3
        subst ht
        simp only [List.append_assoc, List.cons_append, List.nil_append]
        rw [bare_in m r (fun x hx => by
          have := List.all_eq_true.1 g3 x hx
          simpa using this)]
      · rw [if_neg k3] at h
        by_cases k1 : k = 1
        · subst k1
          simp only [if_true, Bool.and_eq_true] at h
          exact bare_plain _ _ (fun x hx => isA_plain (List.all_eq_true.1 h.2 x hx))
        · rw [if_neg k1] at h
          by_cases k2 : k = 2
          · subst k2
            simp only [if_true] at h
            exact bare_plain _ _ (fun x hx => isA_plain (by have := List.all_eq_true.1 h x hx; simp [isA, this]))
          · rw [if_neg k2] at h; cases h
theorem bare_split (f : Nat) (l : Bs) (ts : List (Int × Bs)) (h : splitF f l = .ok ts) (hl : l.length ≤ f) : bareF false l = (ts.map Prod.snd).flatten ∧ ∀ t ∈ ts, mayB t.1 t.2 = true := by
  induction f generalizing l ts with
  | zero =>
    obtain rfl : l = [] := List.eq_nil_of_length_eq_zero (by omega)
    simp only [splitF, Except.ok.injEq] at h
    subst h
    simp [bareF]
  | succ f ih =>
    cases l with
    | nil =>
      simp only [splitF, Except.ok.injEq] at h
      subst h
      simp [bareF]
    | cons b t =>
      simp only [List.length_cons, Nat.add_le_add_iff_right] at hl
      simp only [splitF] at h
      by_cases c : b = 32
      · rw [if_pos c] at h
        subst c
        rw [bare_blank]
        exact ih t ts h hl
      · rw [if_neg c] at h
        have hlong := long_first b t
        cases hf : firstB (b :: t) with
        | error e => rw [hf] at h; cases h
        | ok q =>
          obtain ⟨k, n⟩ := q
          rw [hf] at h hlong
          obtain ⟨h1, h2, _, _, h5, _⟩ := hlong
          simp only at h
          cases hr : splitF f ((b :: t).drop n) with
          | error e => rw [hr] at h; cases h
          | ok r =>
            rw [hr] at h
            simp only [Except.ok.injEq] at h
            obtain ⟨g1, g2⟩ := ih _ _ hr (by simp only [List.length_drop, List.length_cons]; omega)
            subst h
            refine ⟨?_, ?_⟩
            · have := bare_tok h5 ((b :: t).drop n)
              rw [List.take_append_drop, g1] at this
              rw [this]
              simp
            · intro x hx
              simp only [List.mem_cons] at hx
              rcases hx with rfl | hx
              · exact h5
              · exact g2 x hx
theorem bare_join (ts : List (Int × Bs)) (h : ∀ t ∈ ts, mayB t.1 t.2 = true) : bareF false (joinB (ts.map Prod.snd)) = (ts.map Prod.snd).flatten := by
  induction ts with
  | nil => rfl
  | cons t r ih =>
    have h1 := h t (by simp)
    have h2 := ih (fun t ht => h t (by simp [ht]))
    cases r with
    | nil =>
      have := bare_tok h1 []
      simp only [List.append_nil] at this
      simpa [joinB, bareF] using this
    | cons u r =>
      have e : joinB ((t :: u :: r).map Prod.snd) = t.2 ++ 32 :: joinB ((u :: r).map Prod.snd) := rfl
      rw [e, bare_tok h1, bare_blank, h2]
      simp
theorem split_bare {l : Bs} {ts : List (Int × Bs)} (h : splitB l = .ok ts) : bareF false (joinB (ts.map Prod.snd)) = bareF false l ∧ ∀ t ∈ ts, mayB t.1 t.2 = true := by
  obtain ⟨h1, h2⟩ := bare_split l.length l ts h (Nat.le_refl _)
  exact ⟨by rw [bare_join ts h2, h1], h2⟩
end Go.Proofs.Ytlckgloaknjcgaa
