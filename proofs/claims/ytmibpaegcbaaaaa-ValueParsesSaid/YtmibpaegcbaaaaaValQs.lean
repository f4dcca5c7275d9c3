/- Plain words on values as they are written: what is written is read (no program in sight). -/
import Derived.Test.YtmibpaegcbaaaaaValSh
namespace Go.Proofs.Ytmibpaegcbaaaaa
set_option linter.unusedVariables false
set_option linter.unusedSimpArgs false

theorem digC_isD (x : Nat) : isD (digC x) = true := by rw [isD_iff, digC_nat]; omega
theorem digB_all (x : Nat) : ∀ b ∈ digB x, isD b = true := by
  induction x using Nat.strongRecOn with
  | ind x ih =>
    by_cases h : x < 10
    · rw [digB_low h]; intro b hb; simp at hb; rw [hb]; exact digC_isD x
    · rw [digB_high h]; intro b hb
      simp only [List.mem_append, List.mem_singleton] at hb
      rcases hb with hb | rfl
      · exact ih (x / 10) (by omega) b hb
      · exact digC_isD x
theorem run_all (p : UInt8 → Bool) (l : Bs) (h : ∀ b ∈ l, p b = true) : runB p l = l.length := by
  induction l with
  | nil => rfl
  | cons b t ih => rw [runB, if_pos (h b (by simp)), ih (fun c hc => h c (by simp [hc])), List.length_cons]
theorem decB_digB (x : Nat) : decB (digB x) = x := by
  induction x using Nat.strongRecOn with
  | ind x ih =>
    by_cases h : x < 10
    · rw [digB_low h]
      simp only [decB, List.foldl_cons, List.foldl_nil, digC_nat]
      omega
    · rw [digB_high h, decB_snoc, ih (x / 10) (by omega), digC_nat]
      omega
theorem digB_ne (x : Nat) : digB x ≠ [] := by
  intro h
  have := digB_pos x
  rw [h] at this
  simp at this
theorem digB_head (x : Nat) (h0 : x ≠ 0) : (digB x).head? ≠ some 48 := by
  induction x using Nat.strongRecOn with
  | ind x ih =>
    by_cases h : x < 10
    · rw [digB_low h]
      intro e
      simp only [List.head?_cons, Option.some.injEq] at e
      have := congrArg UInt8.toNat e
      rw [digC_nat] at this
      simp at this
      omega
    · rw [digB_high h]
      have hi := ih (x / 10) (by omega) (by omega)
      obtain ⟨c, t, hd⟩ : ∃ c t, digB (x / 10) = c :: t := by
        cases hd : digB (x / 10) with
        | nil => exact absurd hd (digB_ne _)
        | cons c t => exact ⟨c, t, rfl⟩
      rw [hd] at hi ⊢
      exact hi
theorem digB_headD (x : Nat) : ∃ c t, digB x = c :: t ∧ isD c = true := by
  cases hd : digB x with
  | nil => exact absurd hd (digB_ne x)
  | cons c t => exact ⟨c, t, rfl, digB_all x c (by rw [hd]; simp)⟩
theorem numD_digB (b : Bool) (x : Nat) (h0 : b = true → x ≠ 0) (hl : (digB x).length ≤ 19) : numD b (digB x) = if b = true then (if x ≤ 9223372036854775808 then .ok (-(x : Int)) else .error 10) else (if x ≤ 9223372036854775807 then .ok (x : Int) else .error 10) := by
  unfold numD
  rw [if_neg (digB_ne x), if_neg, if_neg (by rw [run_all _ _ (digB_all x)]; simp), if_neg (by omega), decB_digB]
  rintro ⟨h1, h2⟩
  by_cases hx : x = 0
  · subst hx
    rcases h2 with h2 | h2
    · rw [digB_low (by omega)] at h2; simp at h2
    · exact h0 h2 rfl
  · exact digB_head x hx h1
theorem numR_showN (n : Int) (h0 : -9223372036854775808 ≤ n) (hn : n ≤ 9223372036854775807) : numR (showN n) = .ok n := by
  have hl := digB_19 n h0 hn
  unfold showN
  by_cases c : n < 0
  · rw [if_pos c]
    unfold numR
    rw [if_pos (by rfl)]
    simp only [List.tail_cons]
    rw [numD_digB true _ (fun _ => by omega) hl, if_pos rfl, if_pos (by omega)]
    congr 1
    omega
  · rw [if_neg c]
    unfold numR
    obtain ⟨b, t, hd, hb⟩ := digB_headD n.natAbs
    rw [if_neg, numD_digB false _ (by simp) hl, if_neg (by decide), if_pos (by omega)]
    · congr 1; omega
    · rw [hd]
      intro e
      simp only [List.head?_cons, Option.some.injEq] at e
      rw [e] at hb
      revert hb; decide
theorem hex_dig_all : ∀ k : Fin 16, hexN (digN k.val) = k.val := by decide
theorem hex_dig (k : Nat) (h : k < 16) : hexN (digN k) = k := hex_dig_all ⟨k, h⟩
theorem byteN_split (b : UInt8) : byteN (b.toNat / 16) (b.toNat % 16) = b := by
  unfold byteN
  rw [Nat.div_add_mod]
  simp
theorem plainB_92 : plainB 92 = false := by decide
theorem unqS_body (l : Bs) : unqS .plain (bodyB l) = some l := by
  induction l with
  | nil => rfl
  | cons b t ih =>
    unfold bodyB
    by_cases hp : plainB b = true
    · rw [if_pos hp]
      have h92 : b ≠ 92 := by rintro rfl; rw [plainB_92] at hp; cases hp
      rw [unqS, if_neg h92, if_pos hp, ih]
      rfl
    · rw [if_neg hp]
      have hb := b.toNat_lt
      rw [unqS, if_pos rfl, unqS, hex_dig _ (by omega), if_pos (by omega), unqS, hex_dig _ (by omega), if_pos (by omega), byteN_split, if_neg hp, ih]
      rfl
theorem unqB_showT (l : Bs) : unqB (showT l) = some l := by
  unfold unqB showT
  rw [if_neg]
  · simp only [List.tail_cons, List.dropLast_concat]
    exact unqS_body l
  · rintro (h | h)
    · simp at h; omega
    · exact h (by rw [List.getLast?_cons, List.getLast?_append]; rfl)
/-- A value as it is written. -/
def showV (v : Va) : Bs := if mayV v = true then (if v.k = 1 then showN v.n else showT v.t) else []
theorem body_len (l : Bs) : (bodyB l).length ≤ 3 * l.length := by
  induction l with
  | nil => simp [bodyB]
  | cons b t ih =>
    unfold bodyB; split
    · simp only [List.length_cons]; omega
    · simp only [List.length_cons]; omega
theorem showV_len (v : Va) (h0 : -9223372036854775808 ≤ v.n) (hn : v.n ≤ 9223372036854775807) : (showV v).length ≤ 200 := by
  unfold showV
  split
  · rename_i hm
    split
    · have := showN_len v.n h0 hn; omega
    · rename_i hk
      rcases mayV_iff.1 hm with ⟨h, _⟩ | ⟨_, _, h⟩
      · exact absurd h hk
      · have := body_len v.t
        simp only [showT, List.length_cons, List.length_append, List.length_nil]; omega
  · simp
theorem parse_show (v : Va) (h0 : -9223372036854775808 ≤ v.n) (hn : v.n ≤ 9223372036854775807) (hm : mayV v = true) : parseB (showV v) = .ok v := by
  unfold showV
  rw [if_pos hm]
  rcases mayV_iff.1 hm with ⟨h1, h2⟩ | ⟨h1, h2, h3⟩
  · rw [if_pos h1]
    unfold parseB
    have hne : showN v.n ≠ [] := by
      unfold showN; split
      · simp
      · exact digB_ne _
    have h39 : (showN v.n).head? ≠ some 39 := by
      unfold showN; split
      · simp
      · obtain ⟨b, t, hd, hb⟩ := digB_headD v.n.natAbs
        rw [hd]; intro e
        simp only [List.head?_cons, Option.some.injEq] at e
        rw [e] at hb; revert hb; decide
    rw [if_neg hne, if_neg h39, numR_showN v.n h0 hn]
    obtain ⟨k, n, t⟩ := v
    simp only at h1 h2
    subst h1 h2
    rfl
  · rw [if_neg (by omega)]
    unfold parseB
    rw [if_neg (by simp [showT]), if_pos (by rfl), unqB_showT]
    simp only
    rw [if_neg (by omega)]
    obtain ⟨k, n, t⟩ := v
    simp only at h1 h2
    subst h1 h2
    rfl
end Go.Proofs.Ytmibpaegcbaaaaa
