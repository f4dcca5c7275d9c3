/- Plain words on tokens (no program in sight): what a text begins with, its tokens, and what the document says. -/
import Derived.RowKit
namespace Go.Proofs.Ytlckgloaknjcgaa
set_option linter.unusedVariables false
set_option linter.unusedSimpArgs false

abbrev Bs := List UInt8
def isL (b : UInt8) : Bool := decide (97 ≤ b.toNat) && decide (b.toNat ≤ 122)
def isD (b : UInt8) : Bool := decide (48 ≤ b.toNat) && decide (b.toNat ≤ 57)
def isA (b : UInt8) : Bool := isL b || isD b
/-- How many bytes from the beginning on are such. -/
def runB (p : UInt8 → Bool) : Bs → Nat
  | [] => 0
  | b :: t => if p b then runB p t + 1 else 0
def two : List Bs := [[60, 62], [60, 61], [62, 61], [43, 43]]
def ones : Bs := [61, 60, 62, 43, 45, 42, 47, 37, 40, 41, 44]
def signB (l : Bs) : Nat := if l.take 2 ∈ two then 2 else match l with
  | [] => 0
  | b :: _ => if b ∈ ones then 1 else 0
/-- Where the next quote is, if anywhere. -/
def quoteB : Bs → Option Nat
  | [] => none
  | b :: t => if b = 39 then some 0 else (quoteB t).map (· + 1)
/-- What a text that is not empty begins with: the kind and how many bytes, or the error. -/
def firstB (l : Bs) : Except Int (Nat × Nat) :=
  match l with
  | [] => .error 0
  | b :: t =>
    if isL b then .ok (1, runB isA l)
    else if isD b then .ok (2, runB isD l)
    else if b = 39 then (match quoteB t with
      | none => .error 5
      | some e => .ok (3, e + 2))
    else if signB l = 0 then .error 24 else .ok (4, signB l)
def signs : List Bs := [[61], [60, 62], [60], [60, 61], [62], [62, 61], [43], [43, 43], [45], [42], [47], [37], [40], [41], [44]]
/-- Is it a token, as the document says? -/
def mayB (k : Int) (l : Bs) : Bool :=
  if l = [] then false
  else if k = 4 then decide (l ∈ signs)
  else if k = 3 then decide (2 ≤ l.length) && (l.head? == some 39) && (l.getLast? == some 39) && (l.tail.dropLast.all (· != 39))
  else if k = 1 then (match l with | [] => false | b :: _ => isL b) && l.all isA
  else if k = 2 then l.all isD
  else false

/-! ### which kind a text can be -/
theorem isL_iff {b : UInt8} : isL b = true ↔ 97 ≤ b.toNat ∧ b.toNat ≤ 122 := by simp [isL]
theorem isD_iff {b : UInt8} : isD b = true ↔ 48 ≤ b.toNat ∧ b.toNat ≤ 57 := by simp [isD]
theorem ones_nat {b : UInt8} (h : b ∈ ones) : b ≠ 39 ∧ isL b = false ∧ isD b = false ∧ b ≠ 32 := by
  have : ∀ x ∈ ones, x ≠ 39 ∧ isL x = false ∧ isD x = false ∧ x ≠ 32 := by decide
  exact this b h
theorem signs_head {b : UInt8} {t : Bs} (h : b :: t ∈ signs) : b ∈ ones ∧ t.length ≤ 1 := by
  have : ∀ x ∈ signs, x.headD 0 ∈ ones ∧ x.length ≤ 2 := by decide
  have h2 := this _ h
  simp at h2
  exact ⟨h2.1, by omega⟩
theorem signs_one {b : UInt8} (h : b ∈ ones) : [b] ∈ signs := by
  have : ∀ x ∈ ones, [x] ∈ signs := by decide
  exact this b h
theorem signs_two {l : Bs} (h : l ∈ signs) (h2 : l.length = 2) : l ∈ two := by
  have : ∀ x ∈ signs, x.length = 2 → x ∈ two := by decide
  exact this l h h2
theorem two_signs {l : Bs} (h : l ∈ two) : l ∈ signs ∧ l.length = 2 := by
  have : ∀ x ∈ two, x ∈ signs ∧ x.length = 2 := by decide
  exact this l h
/-- The class of the first byte. -/
def headKind (b : UInt8) : Int := if isL b then 1 else if isD b then 2 else if b = 39 then 3 else 4
theorem may_kind {k : Int} {b : UInt8} {t : Bs} (h : mayB k (b :: t) = true) : k = headKind b := by
  unfold mayB at h
  simp only [List.cons_ne_nil, if_false] at h
  unfold headKind
  by_cases k4 : k = 4
  · subst k4
    simp only [if_true, decide_eq_true_eq] at h
    obtain ⟨h1, _⟩ := signs_head h
    obtain ⟨n1, n2, n3, _⟩ := ones_nat h1
    simp [n1, n2, n3]
  · rw [if_neg k4] at h
    by_cases k3 : k = 3
    · subst k3
      simp only [if_true, Bool.and_eq_true] at h
      have hb : b = 39 := by simpa using h.1.1.2
      subst hb
      decide
    · rw [if_neg k3] at h
      by_cases k1 : k = 1
      · subst k1
        simp only [if_true, Bool.and_eq_true] at h
        simp [h.1]
      · rw [if_neg k1] at h
        by_cases k2 : k = 2
        · subst k2
          simp only [if_true, List.all_cons, Bool.and_eq_true] at h
          have hd := h.1
          have hl : isL b = false := by
            cases e : isL b with
            | false => rfl
            | true => rw [isL_iff] at e; rw [isD_iff] at hd; omega
          simp [hl, hd]
        · rw [if_neg k2] at h; cases h

theorem run_le (p : UInt8 → Bool) (l : Bs) : runB p l ≤ l.length := by
  induction l with
  | nil => simp [runB]
  | cons b t ih => simp only [runB]; split <;> simp <;> omega
theorem run_all (p : UInt8 → Bool) (l : Bs) : (l.take (runB p l)).all p = true := by
  induction l with
  | nil => simp [runB]
  | cons b t ih =>
    simp only [runB]
    split
    · rename_i h; simp [h, ih]
    · simp
theorem run_stop (p : UInt8 → Bool) (l : Bs) (n : Nat) (hn : runB p l < n) (hl : n ≤ l.length) : (l.take n).all p = false := by
  induction l generalizing n with
  | nil => simp at hl; omega
  | cons b t ih =>
    obtain ⟨m, rfl⟩ : ∃ m, n = m + 1 := ⟨n - 1, by omega⟩
    simp only [runB] at hn
    simp only [List.take_succ_cons, List.all_cons]
    cases hb : p b with
    | false => rfl
    | true =>
      rw [hb, if_pos rfl] at hn
      rw [ih m (by omega) (by simpa using hl)]; rfl
theorem run_pos {p : UInt8 → Bool} {b : UInt8} {t : Bs} (h : p b = true) : runB p (b :: t) = runB p t + 1 := by simp [runB, h]
theorem quote_some {t : Bs} {e : Nat} (h : quoteB t = some e) : e < t.length ∧ t[e]? = some 39 ∧ (t.take e).all (· != 39) = true := by
  induction t generalizing e with
  | nil => simp [quoteB] at h
  | cons b t ih =>
    simp only [quoteB] at h
    split at h
    · rename_i hb
      injection h with h; subst h; subst hb
      simp
    · rename_i hb
      cases hq : quoteB t with
      | none => rw [hq] at h; cases h
      | some x =>
        rw [hq] at h
        simp only [Option.map_some, Option.some.injEq] at h
        subst h
        obtain ⟨h1, h2, h3⟩ := ih hq
        refine ⟨by simp; omega, by simpa using h2, ?_⟩
        simp [List.take_succ_cons, hb] at h3 ⊢
        exact h3
theorem quote_none {t : Bs} (h : quoteB t = none) : ∀ b ∈ t, b ≠ 39 := by
  induction t with
  | nil => simp
  | cons b t ih =>
    simp only [quoteB] at h
    split at h
    · cases h
    · rename_i hb
      cases hq : quoteB t with
      | some x => rw [hq] at h; cases h
      | none =>
        intro x hx
        simp only [List.mem_cons] at hx
        rcases hx with rfl | hx
        · exact hb
        · exact ih hq x hx
/-- A text between quotes. -/
theorem may3 (m : Nat) (t : Bs) (hm : m ≤ t.length) : mayB 3 (39 :: t.take m) = (decide (1 ≤ m) && (t[m - 1]? == some 39) && ((t.take (m - 1)).all (· != 39))) := by
  unfold mayB
  simp only [List.cons_ne_nil, if_false, show ¬ ((3 : Int) = 4) by decide, if_true, List.length_cons, List.length_take, List.head?_cons, List.tail_cons]
  rcases Nat.eq_zero_or_pos m with rfl | hp
  · simp
  · have e1 : min m t.length = m := by omega
    have e2 : (39 :: t.take m).getLast? = t[m - 1]? := by
      rw [List.getLast?_eq_getElem?]
      simp only [List.length_cons, List.length_take, e1]
      obtain ⟨k, rfl⟩ : ∃ k, m = k + 1 := ⟨m - 1, by omega⟩
      simp
    have e3 : (t.take m).dropLast = t.take (m - 1) := by
      rw [List.dropLast_eq_take, List.length_take, e1, List.take_take]
      congr 1; omega
    rw [e1, e2, e3]
    simp
theorem long_first (b : UInt8) (t : Bs) :
    match firstB (b :: t) with
    | .ok (k, n) => 1 ≤ n ∧ n ≤ (b :: t).length ∧ 1 ≤ k ∧ k ≤ 4 ∧ mayB (k : Int) ((b :: t).take n) = true ∧ (∀ (n' : Nat) (k' : Int), n < n' → n' ≤ (b :: t).length → mayB k' ((b :: t).take n') = false) ∧ (∀ k' : Int, k' ≠ (k : Int) → mayB k' ((b :: t).take n) = false)
    | .error e => ∀ (n' : Nat) (k' : Int), n' ≤ (b :: t).length → mayB k' ((b :: t).take n') = false := by
  have other : ∀ (n : Nat) (k' : Int), k' ≠ headKind b → mayB k' ((b :: t).take n) = false := by
    intro n k' hk
    cases n with
    | zero => simp [mayB]
    | succ n =>
      cases h : mayB k' ((b :: t).take (n + 1)) with
      | false => rfl
      | true => rw [List.take_succ_cons] at h; exact absurd (may_kind h) hk
  unfold firstB
  by_cases hl : isL b = true
  · have hk : headKind b = 1 := by simp [headKind, hl]
    have ha : isA b = true := by simp [isA, hl]
    simp only [hl, if_true]
    refine ⟨by rw [run_pos ha]; omega, run_le _ _, by omega, by omega, ?_, ?_, fun k' h => other _ k' (by rw [hk]; exact h)⟩
    · have h := run_all isA (b :: t)
      rw [run_pos ha] at h ⊢
      rw [List.take_succ_cons] at h ⊢
      simp [mayB, hl] at h ⊢
      exact h
    · intro n' k' h1 h2
      by_cases hk' : k' = 1
      · subst hk'
        have h := run_stop isA (b :: t) n' h1 h2
        obtain ⟨m, rfl⟩ : ∃ m, n' = m + 1 := ⟨n' - 1, by omega⟩
        rw [List.take_succ_cons] at h ⊢
        unfold mayB
        simp only [List.cons_ne_nil, if_false, show ¬ ((1 : Int) = 4) by decide, show ¬ ((1 : Int) = 3) by decide, if_true, h, Bool.and_false]
      · exact other _ _ (by rw [hk]; exact hk')
  · have hl' : isL b = false := by simpa using hl
    by_cases hd : isD b = true
    · have hk : headKind b = 2 := by simp [headKind, hl', hd]
      simp only [hl', hd, if_true]
      refine ⟨by simp [run_pos hd], run_le _ _, by simp, by simp, ?_, ?_, fun k' h => other _ k' (by rw [hk]; exact h)⟩
      · have h := run_all isD (b :: t)
        rw [run_pos hd] at h
        simp only [Bool.false_eq_true, if_false, run_pos hd]
        rw [List.take_succ_cons] at h ⊢
        simp [mayB] at h ⊢
        exact h
      · intro n' k' h1 h2
        by_cases hk' : k' = 2
        · subst hk'
          have h := run_stop isD (b :: t) n' (by simpa using h1) h2
          obtain ⟨m, rfl⟩ : ∃ m, n' = m + 1 := ⟨n' - 1, by omega⟩
          rw [List.take_succ_cons] at h ⊢
          unfold mayB
          simp only [List.cons_ne_nil, if_false, show ¬ ((2 : Int) = 4) by decide, show ¬ ((2 : Int) = 3) by decide, show ¬ ((2 : Int) = 1) by decide, if_true, h]
        · exact other _ _ (by rw [hk]; exact hk')
    · have hd' : isD b = false := by simpa using hd
      by_cases hq : b = 39
      · subst hq
        have hk : headKind 39 = 3 := by decide
        simp only [hl', hd', Bool.false_eq_true, if_false, if_true]
        cases hqq : quoteB t with
        | none =>
          intro n' k' h2
          by_cases hk' : k' = 3
          · subst hk'
            cases n' with
            | zero => simp [mayB]
            | succ m =>
              rw [List.take_succ_cons, may3 m t (by simpa using h2)]
              have : (t[m - 1]? == some 39) = false := by
                cases e : t[m - 1]? with
                | none => rfl
                | some x =>
                  have := quote_none hqq x (List.mem_of_getElem? e)
                  simp [this]
              rw [this]; simp
          · exact other _ _ (by rw [hk]; exact hk')
        | some e =>
          obtain ⟨q1, q2, q3⟩ := quote_some hqq
          refine ⟨by omega, by simp; omega, by omega, by omega, ?_, ?_, fun k' h => other _ k' (by rw [hk]; exact h)⟩
          · rw [show e + 2 = (e + 1) + 1 by omega, List.take_succ_cons]
            show mayB 3 _ = true
            rw [may3 (e + 1) t (by omega)]
            simp [q2] at q3 ⊢
            exact q3
          · intro n' k' h1 h2
            by_cases hk' : k' = 3
            · subst hk'
              obtain ⟨m, rfl⟩ : ∃ m, n' = m + 1 := ⟨n' - 1, by omega⟩
              rw [List.take_succ_cons, may3 m t (by simpa using h2)]
              have : (t.take (m - 1)).all (· != 39) = false := by
                rw [List.all_eq_false]
                refine ⟨39, ?_, by decide⟩
                have : (t.take (m - 1))[e]? = some 39 := by rw [List.getElem?_take_of_lt (by omega)]; exact q2
                exact List.mem_of_getElem? this
              rw [this]; simp
            · exact other _ _ (by rw [hk]; exact hk')
      · have hk : headKind b = 4 := by simp [headKind, hl', hd', hq]
        simp only [hl', hd', hq, Bool.false_eq_true, if_false]
        have m4 : ∀ n', n' ≤ (b :: t).length → mayB 4 ((b :: t).take n') = decide ((b :: t).take n' ∈ signs) := by
          intro n' _
          unfold mayB
          cases n' with
          | zero => simp [signs]
          | succ m => rw [List.take_succ_cons]; simp
        have big : ∀ n', 2 < n' → n' ≤ (b :: t).length → (b :: t).take n' ∉ signs := by
          intro n' h1 h2 h
          obtain ⟨m, rfl⟩ : ∃ m, n' = m + 1 := ⟨n' - 1, by omega⟩
          rw [List.take_succ_cons] at h
          have := (signs_head h).2
          rw [List.length_take] at this
          simp at h2
          omega
        unfold signB
        by_cases h2 : (b :: t).take 2 ∈ two
        · have hs := two_signs h2
          have hlen : 2 ≤ (b :: t).length := by have := hs.2; rw [List.length_take] at this; omega
          simp only [h2, if_true]
          rw [if_neg (by decide)]
          refine ⟨by omega, hlen, by omega, by omega, ?_, ?_, fun k' h => other _ k' (by rw [hk]; exact h)⟩
          · show mayB 4 _ = true
            rw [m4 2 hlen]; exact decide_eq_true hs.1
          · intro n' k' g1 g2
            by_cases hk' : k' = 4
            · subst hk'
              rw [m4 n' g2]; simpa using big n' g1 g2
            · exact other _ _ (by rw [hk]; exact hk')
        · simp only [h2, if_false]
          have no2 : ∀ n', 1 < n' → n' ≤ (b :: t).length → (b :: t).take n' ∉ signs := by
            intro n' g1 g2 h
            by_cases c : n' = 2
            · subst c
              exact h2 (signs_two h (by rw [List.length_take]; omega))
            · exact big n' (by omega) g2 h
          by_cases h1 : b ∈ ones
          · simp only [h1, if_true]
            rw [if_neg (by decide)]
            refine ⟨by omega, by simp, by omega, by omega, ?_, ?_, fun k' h => other _ k' (by rw [hk]; exact h)⟩
            · show mayB 4 _ = true
              rw [m4 1 (by simp)]; exact decide_eq_true (signs_one h1)
            · intro n' k' g1 g2
              by_cases hk' : k' = 4
              · subst hk'
                rw [m4 n' g2]; simpa using no2 n' g1 g2
              · exact other _ _ (by rw [hk]; exact hk')
          · simp only [h1, if_false, if_true]
            intro n' k' g2
            by_cases hk' : k' = 4
            · subst hk'
              rw [m4 n' g2]
              rcases Nat.lt_or_ge 1 n' with c | c
              · simpa using no2 n' c g2
              · cases n' with
                | zero => simp [signs]
                | succ m =>
                  obtain rfl : m = 0 := by omega
                  exact decide_eq_false (fun h => h1 (signs_head h).1)
            · exact other _ _ (by rw [hk]; exact hk')
end Go.Proofs.Ytlckgloaknjcgaa
