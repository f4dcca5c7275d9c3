/- Layer 7 (schema), plain words (no program in sight): columns, names, which are schemas. -/
import Derived.Test.YtnidaahimofppaaTx
namespace Go.Proofs.Ytnidaahimofppaa
set_option linter.unusedVariables false
set_option linter.unusedSimpArgs false

/-- A column as it lies in memory. -/
structure Cl where
  s : ByteArray
  k : Int
/-- (No bound on a text's size is wanted: names are looked at only up to 16 bytes.) -/
def SzB (_ : ByteArray) : Prop := True
theorem Cl.ext' {x y : Cl} (h1 : x.s = y.s) (h2 : x.k = y.k) : x = y := by
  obtain ⟨a, b⟩ := x
  obtain ⟨d, e⟩ := y
  simp only at h1 h2
  subst h1 h2
  rfl
def letC (b : UInt8) : Bool := decide (97 ≤ b.toNat) && decide (b.toNat ≤ 122)
def digD (b : UInt8) : Bool := decide (48 ≤ b.toNat) && decide (b.toNat ≤ 57)
def ldC (b : UInt8) : Bool := letC b || digD b
/-- 'and', 'or', 'not', 'len'. -/
def keyN (l : List UInt8) : Bool := decide (l = [97, 110, 100]) || decide (l = [111, 114]) || decide (l = [110, 111, 116]) || decide (l = [108, 101, 110])
def headN : List UInt8 → Bool
  | [] => false
  | b :: _ => decide (97 ≤ b.toNat)
def nameN (l : List UInt8) : Bool := decide (l.length ≤ 16) && headN l && l.all ldC && !keyN l
/-- The first column of a name. -/
def idxC : List Cl → ByteArray → Nat → Int
  | [], _, _ => -1
  | x :: r, s, i => if x.s = s then (i : Int) else idxC r s (i + 1)
def idx (cs : List Cl) (s : ByteArray) : Int := idxC cs s 0
theorem idxC_none {cs : List Cl} {s : ByteArray} (n : Nat) (h : ∀ x ∈ cs, x.s ≠ s) : idxC cs s n = -1 := by
  induction cs generalizing n with
  | nil => rfl
  | cons x r ih =>
    rw [idxC, if_neg (h x (by simp))]
    exact ih _ (fun y hy => h y (by simp [hy]))
theorem idxC_some {cs : List Cl} {s : ByteArray} (n i : Nat) (hi : i < cs.length) (he : cs[i].s = s) (h : ∀ j, (hj : j < i) → (cs[j]'(by omega)).s ≠ s) : idxC cs s n = ((n + i : Nat) : Int) := by
  induction cs generalizing n i with
  | nil => simp at hi
  | cons x r ih =>
    cases i with
    | zero =>
      have he2 : x.s = s := he
      rw [idxC, if_pos he2, Nat.add_zero]
    | succ i =>
      have h0 : x.s ≠ s := h 0 (by omega)
      rw [idxC, if_neg h0, ih (n + 1) i (by simpa using hi) he (fun j hj => h (j + 1) (by omega))]
      congr 1
      omega
theorem idx_none {cs : List Cl} {s : ByteArray} (h : ∀ x ∈ cs, x.s ≠ s) : idx cs s = -1 := idxC_none 0 h
theorem idx_some {cs : List Cl} {s : ByteArray} (i : Nat) (hi : i < cs.length) (he : cs[i].s = s) (h : ∀ j, (hj : j < i) → (cs[j]'(by omega)).s ≠ s) : idx cs s = (i : Int) := by
  have := idxC_some 0 i hi he h
  rwa [Nat.zero_add] at this
theorem idxC_ge (cs : List Cl) (s : ByteArray) (n : Nat) : idxC cs s n = -1 ∨ ∃ i, n ≤ i ∧ i < n + cs.length ∧ idxC cs s n = (i : Int) := by
  induction cs generalizing n with
  | nil => exact .inl rfl
  | cons x r ih =>
    rw [idxC]
    split
    · exact .inr ⟨n, Nat.le_refl _, by simp, rfl⟩
    · rcases ih (n + 1) with h | ⟨i, h1, h2, h3⟩
      · exact .inl h
      · exact .inr ⟨i, by omega, by simp only [List.length_cons]; omega, h3⟩
theorem idxC_before (cs : List Cl) (s : ByteArray) (n i : Nat) (h : idxC cs s n = ((n + i : Nat) : Int)) : ∀ j, (hj : j < i) → ∀ hl : j < cs.length, cs[j].s ≠ s := by
  induction cs generalizing n i with
  | nil => intro j hj hl; simp at hl
  | cons x r ih =>
    intro j hj hl
    rw [idxC] at h
    split at h
    · omega
    · rename_i hx
      cases j with
      | zero => exact hx
      | succ j =>
        have h2 : idxC r s (n + 1) = (((n + 1) + (i - 1) : Nat) : Int) := by rw [h]; congr 1; omega
        exact ih (n + 1) (i - 1) h2 j (by omega) (by simpa using hl)
theorem idx_first {cs : List Cl} {s : ByteArray} (i : Nat) (hi : i < cs.length) (he : cs[i].s = s) : idx cs s = (i : Int) ↔ ∀ j, (hj : j < i) → (cs[j]'(by omega)).s ≠ s := by
  constructor
  · intro h j hj
    exact idxC_before cs s 0 i (by rw [Nat.zero_add]; exact h) j hj (by omega)
  · intro h
    exact idx_some i hi he h
def kindB (k : Int) : Bool := decide (k = 1) || decide (k = 2)
/-- Is all well with the column at i? -/
def okAt (cs : List Cl) (i : Nat) : Bool := if h : i < cs.length then nameN (tx cs[i].s) && kindB cs[i].k && decide (idx cs cs[i].s = (i : Int)) else true
def mayC (cs : List Cl) : Bool := decide (1 ≤ cs.length ∧ cs.length ≤ 8) && (List.range cs.length).all (okAt cs)
theorem mayC_iff {cs : List Cl} : mayC cs = true ↔ (1 ≤ cs.length ∧ cs.length ≤ 8) ∧ ∀ i, i < cs.length → okAt cs i = true := by
  simp only [mayC, Bool.and_eq_true, decide_eq_true_eq, List.all_eq_true, List.mem_range]
theorem mayC_len0 {cs : List Cl} (h : ¬ (1 ≤ cs.length ∧ cs.length ≤ 8)) : mayC cs = false := by simp [mayC, h]
theorem mayC_bad {cs : List Cl} (i : Nat) (hi : i < cs.length) (h : okAt cs i = false) : mayC cs = false := by
  rw [Bool.eq_false_iff]
  intro hm
  rw [(mayC_iff.1 hm).2 i hi] at h
  cases h
end Go.Proofs.Ytnidaahimofppaa
