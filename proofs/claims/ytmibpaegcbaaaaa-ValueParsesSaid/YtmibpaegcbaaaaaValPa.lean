/- Plain words on values as they are written: what is read is written so (no program in sight); and what the reference's reading keeps. -/
import Derived.Test.YtmibpaegcbaaaaaValQs
namespace Go.Proofs.Ytmibpaegcbaaaaa
set_option linter.unusedVariables false
set_option linter.unusedSimpArgs false

theorem headB_app (l m : Bs) (h : l ≠ []) : (l ++ m).head? = l.head? := by
  cases l with
  | nil => exact absurd rfl h
  | cons x t => rfl
theorem u8_48 (b : UInt8) : b = 48 ↔ b.toNat = 48 := by
  constructor
  · rintro rfl; rfl
  · intro h; exact UInt8.toNat_inj.1 h
theorem run_alls (d : Bs) : runB isD d = d.length ↔ ∀ b ∈ d, isD b = true := by
  induction d with
  | nil => simp [runB]
  | cons b t ih =>
    simp only [runB, List.length_cons, List.mem_cons, forall_eq_or_imp, ← ih]
    by_cases c : isD b = true
    · simp [c]
    · simp [c]
theorem snoc_of {α : Type} (l : List α) (h : l ≠ []) : ∃ t b, l = t ++ [b] := ⟨l.dropLast, l.getLast h, (List.dropLast_concat_getLast h).symm⟩
theorem decB_ge : ∀ (k : Nat) (d : Bs), d.length = k + 1 → (∀ b ∈ d, isD b = true) → d.head? ≠ some 48 → 10 ^ k ≤ decB d := by
  intro k
  induction k with
  | zero =>
    intro d hk hD h0
    obtain ⟨b, rfl⟩ := List.length_eq_one_iff.1 hk
    have hb := (isD_iff.1 (hD b (by simp))).1
    simp [u8_48] at h0
    simp [decB]; omega
  | succ k ih =>
    intro d hk hD h0
    have hn : d ≠ [] := by rintro rfl; simp at hk
    obtain ⟨t, b, rfl⟩ := snoc_of d hn
    have ht : t ≠ [] := by rintro rfl; simp at hk
    have := ih t (by simpa using hk) (fun x hx => hD x (by simp [hx])) (by rwa [headB_app _ _ ht] at h0)
    rw [decB_snoc, Nat.pow_succ]
    omega
theorem decB_le (l m : Bs) : decB l ≤ decB (l ++ m) := by
  induction m generalizing l with
  | nil => simp
  | cons b t ih =>
    have h := ih (l ++ [b])
    rw [List.append_assoc, List.singleton_append, decB_snoc] at h
    omega
theorem decB_take_le (l : Bs) (i : Nat) : decB (l.take i) ≤ decB l := by
  have h := decB_le (l.take i) (l.drop i)
  rwa [List.take_append_drop] at h
theorem digB_decB : ∀ (k : Nat) (d : Bs), d.length = k → d ≠ [] → (∀ b ∈ d, isD b = true) → (d.head? = some 48 → d.length = 1) → digB (decB d) = d := by
  intro k
  induction k with
  | zero => intro d hk hn; exact absurd (List.length_eq_zero_iff.1 hk) hn
  | succ k ih =>
    intro d hk hn hD h0
    obtain ⟨t, b, rfl⟩ := snoc_of d hn
    rw [decB_snoc]
    have hb := isD_iff.1 (hD b (by simp))
    have hdg : ∀ x : Nat, digC (x * 10 + (b.toNat - 48)) = b := fun x => UInt8.toNat_inj.1 (by rw [digC_nat]; omega)
    by_cases ht : t = []
    · subst ht
      have : decB ([] : Bs) = 0 := rfl
      rw [this, digB_low (by omega), hdg]; rfl
    · have h48 : t.head? ≠ some 48 := fun e => by
        have := h0 (by rw [headB_app _ _ ht, e])
        simp at this
        exact ht this
      have htl : t.length = (t.length - 1) + 1 := by have := List.length_pos_iff.2 ht; omega
      have hp := decB_ge (t.length - 1) t htl (fun x hx => hD x (by simp [hx])) h48
      have hp1 : 1 ≤ 10 ^ (t.length - 1) := Nat.one_le_pow _ _ (by omega)
      rw [digB_high (by omega), hdg, show (decB t * 10 + (b.toNat - 48)) / 10 = decB t by omega, ih t (by simpa using hk) ht (fun x hx => hD x (by simp [hx])) (fun e => absurd e h48)]
theorem numD_ok {b : Bool} {d : Bs} {n : Int} (h : numD b d = .ok n) : digB n.natAbs = d ∧ (b = true → n < 0) ∧ (b = false → 0 ≤ n) ∧ -9223372036854775808 ≤ n ∧ n ≤ 9223372036854775807 := by
  unfold numD at h
  split at h
  · cases h
  rename_i h1
  split at h
  · cases h
  rename_i h2
  split at h
  · cases h
  rename_i h3
  split at h
  · cases h
  rename_i h4
  have h3 : runB isD d = d.length := Decidable.byContradiction h3
  have hD := (run_alls d).1 h3
  have hl : 0 < d.length := by cases d with
    | nil => exact absurd rfl h1
    | cons x t => simp
  have hdd := digB_decB d.length d rfl h1 hD (fun e => by
    have : ¬ 1 < d.length := fun x => h2 ⟨e, .inl x⟩
    omega)
  cases b with
  | true =>
    have hp := decB_ge (d.length - 1) d (by omega) hD (fun e => h2 ⟨e, .inr rfl⟩)
    have hp1 : 1 ≤ 10 ^ (d.length - 1) := Nat.one_le_pow _ _ (by omega)
    simp only [if_true] at h
    split at h
    · injection h with h
      subst h
      refine ⟨by rw [show (-(decB d : Int)).natAbs = decB d by omega]; exact hdd, fun _ => by omega, (fun e => by cases e), by omega, by omega⟩
    · cases h
  | false =>
    simp only [Bool.false_eq_true, if_false] at h
    split at h
    · injection h with h
      subst h
      refine ⟨by rw [show ((decB d : Int)).natAbs = decB d by omega]; exact hdd, (fun e => by cases e), (fun _ => by omega), by omega, by omega⟩
    · cases h
theorem show_numR {l : Bs} {n : Int} (h : numR l = .ok n) : showN n = l ∧ -9223372036854775808 ≤ n ∧ n ≤ 9223372036854775807 := by
  unfold numR at h
  unfold showN
  split at h
  · rename_i c
    obtain ⟨h1, h2, _, h3⟩ := numD_ok h
    refine ⟨?_, h3⟩
    rw [if_pos (h2 rfl), h1]
    cases l with
    | nil => simp at c
    | cons x t => simp at c; subst c; rfl
  · obtain ⟨h1, _, h2, h3⟩ := numD_ok h
    refine ⟨?_, h3⟩
    rw [if_neg (by have := h2 rfl; omega), h1]
theorem dig_hex (b : UInt8) (h : hexN b ≤ 15) : digN (hexN b) = b := by
  unfold hexN at h ⊢
  unfold digN
  have hb := b.toNat_lt
  split at h
  · rename_i c
    rw [if_pos c, if_pos (by omega)]
    apply UInt8.toNat_inj.1
    rw [UInt8.toNat_ofNat']
    omega
  · rename_i c
    split at h
    · rename_i c2
      rw [if_neg c, if_pos c2, if_neg (by omega)]
      apply UInt8.toNat_inj.1
      rw [UInt8.toNat_ofNat']
      omega
    · omega
theorem byteN_nat2 (x y : Nat) (hx : x ≤ 15) (hy : y ≤ 15) : (byteN x y).toNat = 16 * x + y := by
  unfold byteN
  rw [UInt8.toNat_ofNat']
  omega
theorem unqS_back : ∀ (k : Nat) (l t : Bs), l.length ≤ k → unqS .plain l = some t → bodyB t = l := by
  intro k
  induction k with
  | zero =>
    intro l t hk h
    have : l = [] := List.length_eq_zero_iff.1 (by omega)
    subst this
    simp only [unqS, Option.some.injEq] at h
    subst h
    rfl
  | succ k ih =>
    intro l t hk h
    cases l with
    | nil =>
      simp only [unqS, Option.some.injEq] at h
      subst h
      rfl
    | cons b r =>
      rw [unqS] at h
      split at h
      · rename_i hb
        subst hb
        cases r with
        | nil => simp [unqS] at h
        | cons x r =>
          rw [unqS] at h
          split at h
          · rename_i hx
            cases r with
            | nil => simp [unqS] at h
            | cons y r =>
              rw [unqS] at h
              split at h
              · rename_i hy
                split at h
                · cases h
                · rename_i hp
                  obtain ⟨u, hu, rfl⟩ := Option.map_eq_some_iff.1 h
                  have hi := ih r u (by simp only [List.length_cons] at hk; omega) hu
                  have hn := byteN_nat2 _ _ hx hy
                  rw [bodyB, if_neg hp, hi, hn, show (16 * hexN x + hexN y) / 16 = hexN x by omega, show (16 * hexN x + hexN y) % 16 = hexN y by omega, dig_hex x hx, dig_hex y hy]
              · cases h
          · cases h
      · split at h
        · rename_i hp
          obtain ⟨u, hu, rfl⟩ := Option.map_eq_some_iff.1 h
          have hi := ih r u (by simp only [List.length_cons] at hk; omega) hu
          rw [bodyB, if_pos hp, hi]
        · cases h
theorem unqB_back {l t : Bs} (h39 : l.head? = some 39) (h : unqB l = some t) : showT t = l := by
  unfold unqB at h
  split at h
  · cases h
  rename_i hc
  have h2 : 2 ≤ l.length := by omega
  have hlast : l.getLast? = some 39 := Decidable.byContradiction (fun e => hc (.inr e))
  have hb := unqS_back _ _ _ (Nat.le_refl _) h
  cases l with
  | nil => simp at h2
  | cons x r =>
    simp only [List.head?_cons, Option.some.injEq] at h39
    subst h39
    simp only [List.tail_cons] at hb
    have hr : r ≠ [] := by rintro rfl; simp at h2
    unfold showT
    rw [hb]
    obtain ⟨q, z, rfl⟩ := snoc_of r hr
    rw [List.dropLast_concat]
    rw [← List.cons_append, List.getLast?_append] at hlast
    simp at hlast
    rw [hlast]
theorem showV_parse {l : Bs} {v : Va} (h : parseB l = .ok v) : showV v = l ∧ mayV v = true ∧ -9223372036854775808 ≤ v.n ∧ v.n ≤ 9223372036854775807 := by
  unfold parseB at h
  split at h
  · cases h
  split at h
  · rename_i h39
    cases hu : unqB l with
    | none => rw [hu] at h; cases h
    | some t =>
      rw [hu] at h
      simp only at h
      split at h
      · cases h
      · rename_i h64
        injection h with h
        subst h
        have hm : mayV ⟨2, 0, t⟩ = true := by simp [mayV]; omega
        refine ⟨?_, hm, by simp, by simp⟩
        unfold showV
        rw [if_pos hm, if_neg (by simp)]
        exact unqB_back h39 hu
  · cases hn : numR l with
    | error e => rw [hn] at h; cases h
    | ok n =>
      rw [hn] at h
      simp only at h
      injection h with h
      subst h
      obtain ⟨h1, h2, h3⟩ := show_numR hn
      have hm : mayV ⟨1, n, []⟩ = true := by simp [mayV]
      refine ⟨?_, hm, h2, h3⟩
      unfold showV
      rw [if_pos hm, if_pos rfl]
      exact h1
/-! ### the reference's byte -/
def codeB : Bs → UInt8 × Nat
  | [] => (0, 0)
  | b :: t => if b ≠ 92 then (b, 1) else match t with
    | x :: y :: _ => if hexN x ≤ 15 ∧ hexN y ≤ 15 then (byteN (hexN x) (hexN y), 3) else (0, 0)
    | _ => (0, 0)
theorem unqS_code (b : UInt8) (t : Bs) : unqS .plain (b :: t) = if (codeB (b :: t)).2 = 0 ∨ plainB (codeB (b :: t)).1 = decide ((codeB (b :: t)).2 = 3) then none else (unqS .plain ((b :: t).drop (codeB (b :: t)).2)).map ((codeB (b :: t)).1 :: ·) := by
  by_cases hb : b = 92
  · subst hb
    rw [unqS, if_pos rfl]
    match t with
    | [] => simp [unqS, codeB]
    | [x] =>
      simp only [unqS, codeB]
      split <;> simp
    | x :: y :: r =>
      rw [unqS]
      by_cases hx : hexN x ≤ 15
      · rw [if_pos hx, unqS]
        by_cases hy : hexN y ≤ 15
        · have hc : codeB (92 :: x :: y :: r) = (byteN (hexN x) (hexN y), 3) := by simp [codeB, hx, hy]
          rw [if_pos hy, hc]
          simp
        · have hc : codeB (92 :: x :: y :: r) = (0, 0) := by simp [codeB, hy]
          rw [if_neg hy, hc]
          simp
      · have hc : codeB (92 :: x :: y :: r) = (0, 0) := by simp [codeB, hx]
        rw [if_neg hx, hc]
        simp
  · rw [unqS, if_neg hb]
    simp only [codeB, if_pos (show b ≠ 92 from hb)]
    by_cases hp : plainB b = true
    · rw [if_pos hp]
      simp [hp]
    · rw [if_neg hp]
      simp [hp]
end Go.Proofs.Ytmibpaegcbaaaaa
