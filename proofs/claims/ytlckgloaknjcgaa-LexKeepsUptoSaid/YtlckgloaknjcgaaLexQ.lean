/- Plain words on tokens (no program in sight): a text's tokens, and tokens joined. -/
import Derived.Test.YtlckgloaknjcgaaLexP
namespace Go.Proofs.Ytlckgloaknjcgaa
set_option linter.unusedVariables false
set_option linter.unusedSimpArgs false

def splitF : Nat → Bs → Except Int (List (Int × Bs))
  | 0, _ => .ok []
  | f + 1, l => match l with
    | [] => .ok []
    | b :: t => if b = 32 then splitF f t else match firstB (b :: t) with
      | .error e => .error e
      | .ok (k, n) => match splitF f ((b :: t).drop n) with
        | .error e => .error e
        | .ok r => .ok (((k : Int), (b :: t).take n) :: r)
theorem first_len {b : UInt8} {t : Bs} {k n : Nat} (h : firstB (b :: t) = .ok (k, n)) : 1 ≤ n ∧ n ≤ (b :: t).length := by
  have := long_first b t
  rw [h] at this
  exact ⟨this.1, this.2.1⟩
theorem splitF_more (f : Nat) (l : Bs) (h : l.length ≤ f) : splitF f l = splitF l.length l := by
  induction f using Nat.strongRecOn generalizing l with
  | ind f ih =>
    cases l with
    | nil => cases f <;> rfl
    | cons b t =>
      obtain ⟨g, rfl⟩ : ∃ g, f = g + 1 := ⟨f - 1, by simp at h; omega⟩
      simp only [List.length_cons, Nat.add_le_add_iff_right] at h
      simp only [List.length_cons, splitF]
      by_cases c : b = 32
      · rw [if_pos c, if_pos c, ih g (by omega) t h]
      · rw [if_neg c, if_neg c]
        cases hf : firstB (b :: t) with
        | error e => rfl
        | ok q =>
          obtain ⟨k, n⟩ := q
          obtain ⟨h1, h2⟩ := first_len hf
          have hd : ((b :: t).drop n).length ≤ t.length := by simp; omega
          simp only
          rw [ih g (by omega) _ (by omega)]
          by_cases hg : t.length = g
          · subst hg
            rw [ih t.length (by omega) _ hd]
          · rw [ih t.length (by omega) _ hd]
/-- A text's tokens, or what is wrong. -/
def splitB (l : Bs) : Except Int (List (Int × Bs)) := splitF l.length l
theorem splitB_nil : splitB [] = .ok [] := rfl
theorem splitB_blank (t : Bs) : splitB (32 :: t) = splitB t := rfl
theorem splitB_err {b : UInt8} {t : Bs} {e : Int} (c : b ≠ 32) (h : firstB (b :: t) = .error e) : splitB (b :: t) = .error e := by
  simp only [splitB, List.length_cons, splitF, if_neg c, h]
theorem splitB_tok {b : UInt8} {t : Bs} {k n : Nat} (c : b ≠ 32) (h : firstB (b :: t) = .ok (k, n)) : splitB (b :: t) = match splitB ((b :: t).drop n) with
    | .error e => .error e
    | .ok r => .ok (((k : Int), (b :: t).take n) :: r) := by
  obtain ⟨h1, h2⟩ := first_len h
  have e : splitF t.length ((b :: t).drop n) = splitB ((b :: t).drop n) := by
    unfold splitB
    rw [splitF_more t.length _ (by simp; omega)]
  simp only [splitB, List.length_cons, splitF, if_neg c, h]
  rw [e]
  rfl
/-- Behind these tokens the rest's come. -/
def behind (acc : List (Int × Bs)) : Except Int (List (Int × Bs)) → Except Int (List (Int × Bs))
  | .error e => .error e
  | .ok r => .ok (acc ++ r)
theorem behind_nil (x : Except Int (List (Int × Bs))) : behind [] x = x := by cases x <;> rfl
theorem behind_tok {b : UInt8} {t : Bs} {k n : Nat} (c : b ≠ 32) (h : firstB (b :: t) = .ok (k, n)) (acc : List (Int × Bs)) :
    behind acc (splitB (b :: t)) = behind (acc ++ [((k : Int), (b :: t).take n)]) (splitB ((b :: t).drop n)) := by
  rw [splitB_tok c h]
  cases splitB ((b :: t).drop n) with
  | error e => rfl
  | ok r => simp [behind]
/-- Tokens joined, with blanks. -/
def joinB : List Bs → Bs
  | [] => []
  | [x] => x
  | x :: y :: r => x ++ 32 :: joinB (y :: r)
end Go.Proofs.Ytlckgloaknjcgaa
