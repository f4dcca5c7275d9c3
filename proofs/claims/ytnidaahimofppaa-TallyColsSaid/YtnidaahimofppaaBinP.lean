/- Plain words on bytes (no program in sight): a number's groups, and a reader of groups, numbers and texts. -/
import Derived.RowKit
namespace Go.Proofs.Ytnidaahimofppaa
set_option linter.unusedVariables false
set_option linter.unusedSimpArgs false

/-- A number's bytes. -/
def enc (x : Nat) : List Int := if h : x < 128 then [(x : Int)] else ((x % 128 + 128 : Nat) : Int) :: enc (x / 128)
termination_by x
decreasing_by omega
theorem enc_low {x : Nat} (h : x < 128) : enc x = [(x : Int)] := by rw [enc, dif_pos h]
theorem enc_high {x : Nat} (h : ¬ x < 128) : enc x = ((x % 128 + 128 : Nat) : Int) :: enc (x / 128) := by rw [enc, dif_neg h]
theorem enc_ne (x : Nat) : enc x ≠ [] := by
  by_cases h : x < 128
  · rw [enc_low h]; simp
  · rw [enc_high h]; simp
theorem enc_bytes (x : Nat) : ∀ b ∈ enc x, 0 ≤ b ∧ b ≤ 255 := by
  induction x using Nat.strongRecOn with
  | ind x ih =>
    by_cases h : x < 128
    · rw [enc_low h]; intro b hb; simp at hb; omega
    · rw [enc_high h]; intro b hb
      simp only [List.mem_cons] at hb
      rcases hb with rfl | hb
      · omega
      · exact ih (x / 128) (by omega) b hb
theorem enc_len (x k : Nat) (h : x < 128 ^ (k + 1)) : (enc x).length ≤ k + 1 := by
  induction k generalizing x with
  | zero => rw [enc_low (by simpa using h)]; simp
  | succ k ih =>
    by_cases hl : x < 128
    · rw [enc_low hl]; simp
    · rw [enc_high hl]
      have := ih (x / 128) (by rw [Nat.div_lt_iff_lt_mul (by decide)]; rw [Nat.pow_succ] at h; exact h)
      simp only [List.length_cons]; omega

/-- What a reader knows: what could not be read first (0: nothing), and the bytes that are left. -/
abbrev St := Int × List Int
/-- How much is left. -/
def leftS (s : St) : Int := if s.1 = 0 then (s.2.length : Int) else 0
/-- The groups from number i on, of which there are 'most' more at most: the number and what is left, or the error. -/
def grp : Nat → Nat → List Int → Except Int (Nat × List Int)
  | 0, _, _ => .error 4
  | _ + 1, _, [] => .error 5
  | m + 1, i, b :: t =>
    if i = 9 ∧ 1 < b then .error 4
    else if b < 128 then (if b = 0 ∧ 0 < i then .error 4 else .ok (b.toNat, t))
    else match grp m (i + 1) t with
      | .ok (y, t') => .ok ((b % 128).toNat + 128 * y, t')
      | .error e => .error e
def byteS (s : St) : Int × St :=
  if s.1 ≠ 0 then (0, s) else match s.2 with
    | [] => (0, (5, []))
    | b :: t => (b, (0, t))
def grpS (most : Nat) (s : St) : Nat × St :=
  if s.1 ≠ 0 then (0, s) else match grp most 0 s.2 with
    | .ok (x, t) => (x, (0, t))
    | .error e => (0, (e, []))
def numS (s : St) : Int × St := ((grpS 9 s).1, (grpS 9 s).2)
def unzig (x : Nat) : Int := if x % 2 = 1 then -1 - ((x / 2 : Nat) : Int) else ((x / 2 : Nat) : Int)
def zig (n : Int) : Nat := if n < 0 then (2 * (-1 - n) + 1).toNat else (2 * n).toNat
def intS (s : St) : Int × St := (unzig (grpS 10 s).1, (grpS 10 s).2)
def textS (most : Int) (s : St) : List Int × St :=
  let q := grpS 9 s
  if q.2.1 ≠ 0 then ([], q.2)
  else if most < (q.1 : Int) then ([], (6, []))
  else if q.2.2.length < q.1 then ([], (5, []))
  else (q.2.2.take q.1, (0, q.2.2.drop q.1))

/-! ### what was written is read -/
theorem grp_enc (m i x : Nat) (rest : List Int) (hx : x < 128 ^ m) (h9 : i + m ≤ 10) (h64 : i + m = 10 → x < 2 ^ (7 * m - 6)) (hi : 0 < i → x ≠ 0) (hm : 0 < m) : grp m i (enc x ++ rest) = .ok (x, rest) := by
  induction m generalizing i x with
  | zero => omega
  | succ m ih =>
    by_cases h : x < 128
    · rw [enc_low h]
      simp only [List.cons_append, List.nil_append, grp]
      have e1 : ¬ (i = 9 ∧ (1 : Int) < (x : Int)) := by
        rintro ⟨rfl, h1⟩
        have hm0 : m = 0 := by omega
        subst hm0
        have := h64 rfl
        omega
      rw [if_neg e1, if_pos (by omega)]
      have e2 : ¬ ((x : Int) = 0 ∧ 0 < i) := by rintro ⟨a, b⟩; exact hi b (by omega)
      rw [if_neg e2, Int.toNat_natCast]
    · rw [enc_high h]
      simp only [List.cons_append, grp]
      have hm0 : m ≠ 0 := by rintro rfl; simp at hx; omega
      have e1 : ¬ (i = 9 ∧ (1 : Int) < ((x % 128 + 128 : Nat) : Int)) := by rintro ⟨rfl, _⟩; omega
      rw [if_neg e1, if_neg (by omega)]
      have hx' : x / 128 < 128 ^ m := by rw [Nat.div_lt_iff_lt_mul (by decide)]; rw [Nat.pow_succ] at hx; exact hx
      have k64 : i + 1 + m = 10 → x / 128 < 2 ^ (7 * m - 6) := by
        intro he
        have := h64 (by omega)
        rw [Nat.div_lt_iff_lt_mul (by decide)]
        have e : 2 ^ (7 * (m + 1) - 6) = 2 ^ (7 * m - 6) * 128 := by
          rw [show (7 * (m + 1) - 6) = (7 * m - 6) + 7 by omega, Nat.pow_add]
        omega
      rw [ih (i + 1) (x / 128) hx' (by omega) k64 (by omega) (by omega)]
      simp only [Except.ok.injEq, Prod.mk.injEq, and_true]
      omega
/-- Of what is read the bytes that were read are the number's. -/
theorem grp_back (m i : Nat) (l : List Int) (x : Nat) (t : List Int) (hl : ∀ b ∈ l, 0 ≤ b ∧ b ≤ 255) (h : grp m i l = .ok (x, t)) : l = enc x ++ t ∧ (0 < i → x ≠ 0) := by
  induction m generalizing i l x with
  | zero => simp [grp] at h
  | succ m ih =>
    cases l with
    | nil => simp [grp] at h
    | cons b r =>
      have hb := hl b (by simp)
      simp only [grp] at h
      split at h
      · cases h
      · split at h
        · split at h
          · cases h
          · rename_i h1 h2 h3
            simp only [Except.ok.injEq, Prod.mk.injEq] at h
            obtain ⟨rfl, rfl⟩ := h
            rw [enc_low (by omega)]
            refine ⟨?_, ?_⟩
            · simp only [List.cons_append, List.nil_append]
              congr 1; omega
            · intro hi hz; exact h3 ⟨by omega, hi⟩
        · rename_i h1 h2
          split at h
          · rename_i y t' he
            simp only [Except.ok.injEq, Prod.mk.injEq] at h
            obtain ⟨rfl, rfl⟩ := h
            obtain ⟨e, hy⟩ := ih (i + 1) r y (fun b hb => hl b (by simp [hb])) he
            have hy0 := hy (by omega)
            refine ⟨?_, fun _ => by omega⟩
            rw [enc_high (by omega)]
            have e1 : ((b % 128).toNat + 128 * y) / 128 = y := by omega
            have e2 : ((((b % 128).toNat + 128 * y) % 128 + 128 : Nat) : Int) = b := by omega
            rw [e1, e2, List.cons_append, ← e]
          · cases h
theorem grp_bound (m i : Nat) (l : List Int) (x : Nat) (t : List Int) (hl : ∀ b ∈ l, 0 ≤ b ∧ b ≤ 255) (hm : i + m ≤ 10) (h : grp m i l = .ok (x, t)) : x < 128 ^ m ∧ (i + m = 10 → x < 2 ^ (7 * m - 6)) := by
  induction m generalizing i l x with
  | zero => simp [grp] at h
  | succ m ih =>
    cases l with
    | nil => simp [grp] at h
    | cons b r =>
      have hb := hl b (by simp)
      simp only [grp] at h
      split at h
      · cases h
      · split at h
        · split at h
          · cases h
          · rename_i h1 h2 h3
            simp only [Except.ok.injEq, Prod.mk.injEq] at h
            obtain ⟨rfl, rfl⟩ := h
            have p1 : 1 ≤ 128 ^ m := Nat.pos_of_ne_zero (by simp)
            refine ⟨?_, ?_⟩
            · rw [Nat.pow_succ]; omega
            · intro he
              by_cases h9 : i = 9
              · have hm0 : m = 0 := by omega
                subst hm0
                have : ¬ 1 < b := fun z => h1 ⟨h9, z⟩
                omega
              · have : 2 ^ 8 ≤ 2 ^ (7 * (m + 1) - 6) := Nat.pow_le_pow_right (by decide) (by omega)
                omega
        · rename_i h1 h2
          split at h
          · rename_i y t' he
            simp only [Except.ok.injEq, Prod.mk.injEq] at h
            obtain ⟨rfl, rfl⟩ := h
            obtain ⟨e1, e2⟩ := ih (i + 1) r y (fun b hb => hl b (by simp [hb])) (by omega) he
            refine ⟨?_, ?_⟩
            · rw [Nat.pow_succ]; omega
            · intro hi
              have := e2 (by omega)
              have hm0 : m ≠ 0 := by rintro rfl; simp [grp] at he
              have e : 2 ^ (7 * (m + 1) - 6) = 2 ^ (7 * m - 6) * 128 := by
                rw [show (7 * (m + 1) - 6) = (7 * m - 6) + 7 by omega, Nat.pow_add]
              omega
          · cases h
theorem unzig_zig (n : Int) : unzig (zig n) = n := by
  unfold unzig zig
  split <;> split <;> omega
theorem zig_unzig (x : Nat) : zig (unzig x) = x := by
  unfold unzig zig
  split <;> split <;> omega
end Go.Proofs.Ytnidaahimofppaa
