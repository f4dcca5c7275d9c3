/- Layer 24 (multi), plain words (no program in sight): things in order, each with its copies; what a put does; what is put in can be taken out. -/
import Derived.Test.YtjllcgmdnkakgaaProg
namespace Go.Proofs.Ytjllcgmdnkakgaa
set_option linter.unusedVariables false
set_option linter.unusedSimpArgs false

/-- A thing, and how many copies it has. -/
structure En where
  k : Int
  n : Int
/-- How many things stand ahead of k. -/
def posE (es : List En) (k : Int) : Nat := es.countP fun e => decide (e.k < k)
theorem posE_le (es : List En) (k : Int) : posE es k ≤ es.length := List.countP_le_length
/-- Is k among them? (Looked at where it would stand.) -/
def isE (es : List En) (k : Int) : Bool := if h : posE es k < es.length then decide (es[posE es k].k = k) else false
def ofE (es : List En) (k : Int) : Int := if h : posE es k < es.length then (if es[posE es k].k = k then es[posE es k].n else 0) else 0
def cntE (es : List En) : Int := (es.map En.n).sum
/-- Where k stands, or would: what is ahead, these ones, what is behind. -/
def midE (es : List En) (k : Int) (m : List En) (d : Nat) : List En := es.take (posE es k) ++ m ++ es.drop (posE es k + d)
def putL (es : List En) (k n : Int) : List En :=
  if n = 0 then es
  else if isE es k = true then (if ofE es k + n = 0 then midE es k [] 1 else midE es k [⟨k, ofE es k + n⟩] 1)
  else midE es k [⟨k, n⟩] 0
def putE (es : List En) (k n : Int) : Int × List En :=
  if n > 1048576 ∨ n < -1048576 then (2, es)
  else if ofE es k + n < 0 then (20, es)
  else if cntE es + n > 1048576 then (7, es)
  else (0, putL es k n)
def nthL : List En → Int → Int × Bool
  | [], _ => (0, false)
  | e :: r, i => if i < e.n then (e.k, true) else nthL r (i - e.n)
def nthE (es : List En) (i : Int) : Int × Bool := if i < 0 then (0, false) else nthL es i
/-- In order, each with copies, not too many. -/
structure GoodE (es : List En) : Prop where
  inc : es.Pairwise fun a b => a.k < b.k
  pos : ∀ e ∈ es, 1 ≤ e.n
  cnt : cntE es ≤ 1048576
theorem cntE_app (a b : List En) : cntE (a ++ b) = cntE a + cntE b := by simp [cntE]
theorem cntE_cons (e : En) (r : List En) : cntE (e :: r) = e.n + cntE r := by simp [cntE]
theorem cntE_nil : cntE [] = 0 := rfl
theorem len_le_cnt (es : List En) (h : ∀ e ∈ es, 1 ≤ e.n) : (es.length : Int) ≤ cntE es := by
  induction es with
  | nil => simp [cntE]
  | cons e r ih =>
    rw [cntE_cons]
    have h1 := h e (by simp)
    have h2 := ih (fun x hx => h x (by simp [hx]))
    rw [List.length_cons]
    omega
theorem GoodE.len {es : List En} (h : GoodE es) : es.length ≤ 1048576 := by
  have := len_le_cnt es h.pos
  have := h.cnt
  omega
theorem GoodE.nil : GoodE [] := ⟨List.Pairwise.nil, by simp, by simp [cntE]⟩
/-- A of things ahead of k, C of things that are not. -/
theorem posE_split (A C : List En) (k : Int) (hA : ∀ e ∈ A, e.k < k) (hC : ∀ e ∈ C, k ≤ e.k) : posE (A ++ C) k = A.length := by
  unfold posE
  rw [List.countP_append, List.countP_eq_length.2 (fun e he => by simpa using hA e he), List.countP_eq_zero.2 (fun e he => by simpa using hC e he)]
  rfl
/-- Each list in order parts so. -/
theorem split_at (es : List En) (k : Int) (h : es.Pairwise fun a b => a.k < b.k) : ∃ A C, es = A ++ C ∧ (∀ e ∈ A, e.k < k) ∧ (∀ e ∈ C, k ≤ e.k) := by
  induction es with
  | nil => exact ⟨[], [], rfl, by simp, by simp⟩
  | cons e r ih =>
    have hp := List.pairwise_cons.1 h
    by_cases c : e.k < k
    · obtain ⟨A, C, rfl, hA, hC⟩ := ih hp.2
      refine ⟨e :: A, C, rfl, ?_, hC⟩
      intro x hx
      rcases List.mem_cons.1 hx with rfl | hx
      · exact c
      · exact hA x hx
    · refine ⟨[], e :: r, rfl, by simp, ?_⟩
      intro x hx
      rcases List.mem_cons.1 hx with rfl | hx
      · omega
      · have := hp.1 x hx
        omega
section
variable {A C : List En} {k : Int} (hA : ∀ e ∈ A, e.k < k)
theorem midE_split (hA : ∀ e ∈ A, e.k < k) (hC : ∀ e ∈ C, k ≤ e.k) (m : List En) (d : Nat) : midE (A ++ C) k m d = A ++ m ++ C.drop d := by
  unfold midE
  rw [posE_split A C k hA hC, List.take_left, List.drop_append]
  simp
/-- k is not there. -/
theorem of_not (hA : ∀ e ∈ A, e.k < k) (hC : ∀ e ∈ C, k < e.k) : isE (A ++ C) k = false ∧ ofE (A ++ C) k = 0 := by
  have hp := posE_split A C k hA (fun e he => by have := hC e he; omega)
  unfold isE ofE
  rw [hp]
  cases C with
  | nil => simp
  | cons c r =>
    have h1 := hC c (by simp)
    have h2 : (A ++ c :: r)[A.length]'(by simp) = c := by simp
    simp only [List.length_append, List.length_cons]
    rw [dif_pos (by omega), dif_pos (by omega)]
    simp only [h2]
    have : c.k ≠ k := by omega
    simp [this]
/-- k is there. -/
theorem of_yes (hA : ∀ e ∈ A, e.k < k) (n : Int) (C : List En) (hC : ∀ e ∈ C, k < e.k) : isE (A ++ ⟨k, n⟩ :: C) k = true ∧ ofE (A ++ ⟨k, n⟩ :: C) k = n := by
  have hp := posE_split A (⟨k, n⟩ :: C) k hA (fun e he => by
    rcases List.mem_cons.1 he with rfl | he
    · exact Int.le_refl _
    · have := hC e he; omega)
  unfold isE ofE
  rw [hp]
  have h2 : (A ++ (⟨k, n⟩ : En) :: C)[A.length]'(by simp) = ⟨k, n⟩ := by simp
  simp only [List.length_append, List.length_cons]
  rw [dif_pos (by omega), dif_pos (by omega)]
  simp only [h2]
  simp
end
/-- The two cases of a list in order: k is there, or it is not. -/
theorem cases_at (es : List En) (k : Int) (h : GoodE es) :
    (∃ A C, es = A ++ C ∧ (∀ e ∈ A, e.k < k) ∧ (∀ e ∈ C, k < e.k)) ∨ (∃ A n C, es = A ++ ⟨k, n⟩ :: C ∧ 1 ≤ n ∧ (∀ e ∈ A, e.k < k) ∧ (∀ e ∈ C, k < e.k)) := by
  obtain ⟨A, C, rfl, hA, hC⟩ := split_at es k h.inc
  cases C with
  | nil => exact .inl ⟨A, [], rfl, hA, by simp⟩
  | cons c r =>
    have hp := List.pairwise_append.1 h.inc
    have hr := (List.pairwise_cons.1 hp.2.1).1
    have h1 := hC c (by simp)
    by_cases e : c.k = k
    · refine .inr ⟨A, c.n, r, by rw [← e], h.pos c (by simp), hA, ?_⟩
      intro x hx
      have := hr x hx
      omega
    · refine .inl ⟨A, c :: r, rfl, hA, ?_⟩
      intro x hx
      rcases List.mem_cons.1 hx with rfl | hx
      · omega
      · have := hr x hx; omega
theorem ofE_nonneg (es : List En) (k : Int) (h : GoodE es) : 0 ≤ ofE es k := by
  rcases cases_at es k h with ⟨A, C, rfl, hA, hC⟩ | ⟨A, n, C, rfl, hn, hA, hC⟩
  · rw [(of_not hA hC).2]; omega
  · rw [(of_yes hA n C hC).2]; omega
theorem cnt_nonneg (es : List En) (h : GoodE es) : 0 ≤ cntE es := by have := len_le_cnt es h.pos; omega
theorem ofE_le (es : List En) (k : Int) (h : GoodE es) : ofE es k ≤ 1048576 := by
  have hc := h.cnt
  rcases cases_at es k h with ⟨A, C, rfl, hA, hC⟩ | ⟨A, n, C, rfl, hn, hA, hC⟩
  · rw [(of_not hA hC).2]; omega
  · rw [(of_yes hA n C hC).2]
    rw [cntE_app, cntE_cons] at hc
    simp only at hc
    have h1 := len_le_cnt A (fun e he => h.pos e (by simp [he]))
    have h2 := len_le_cnt C (fun e he => h.pos e (by simp [he]))
    omega
theorem le_of_lt' {k : Int} {C : List En} (h : ∀ e ∈ C, k < e.k) : ∀ e ∈ C, k ≤ e.k := fun e he => by have := h e he; omega
theorem le_cons {k n : Int} {C : List En} (h : ∀ e ∈ C, k < e.k) : ∀ e ∈ (⟨k, n⟩ : En) :: C, k ≤ e.k := fun e he => by
  rcases List.mem_cons.1 he with rfl | he
  · exact Int.le_refl _
  · have := h e he; omega
/-- k is not there: what a put makes. -/
theorem putL_not {A C : List En} {k : Int} (hA : ∀ e ∈ A, e.k < k) (hC : ∀ e ∈ C, k < e.k) (n : Int) (hn : n ≠ 0) : putL (A ++ C) k n = A ++ ⟨k, n⟩ :: C := by
  unfold putL
  rw [if_neg hn, (of_not hA hC).1, if_neg (by simp), midE_split hA (le_of_lt' hC)]
  simp
theorem putL_yes {A C : List En} {k m : Int} (hA : ∀ e ∈ A, e.k < k) (hC : ∀ e ∈ C, k < e.k) (n : Int) (hn : n ≠ 0) : putL (A ++ ⟨k, m⟩ :: C) k n = if m + n = 0 then A ++ C else A ++ ⟨k, m + n⟩ :: C := by
  unfold putL
  rw [if_neg hn, (of_yes hA m C hC).1, if_pos rfl, (of_yes hA m C hC).2]
  split
  · rw [midE_split hA (le_cons hC)]; simp
  · rw [midE_split hA (le_cons hC)]; simp
theorem pairs_app {A C : List En} {k : Int} (hA : ∀ e ∈ A, e.k < k) (hC : ∀ e ∈ C, k < e.k) (h1 : A.Pairwise fun a b => a.k < b.k) (h2 : C.Pairwise fun a b => a.k < b.k) : (A ++ C).Pairwise fun a b => a.k < b.k :=
  List.pairwise_append.2 ⟨h1, h2, fun a ha b hb => by have := hA a ha; have := hC b hb; omega⟩
theorem pairs_mid {A C : List En} {k n : Int} (hA : ∀ e ∈ A, e.k < k) (hC : ∀ e ∈ C, k < e.k) (h1 : A.Pairwise fun a b => a.k < b.k) (h2 : C.Pairwise fun a b => a.k < b.k) : (A ++ ⟨k, n⟩ :: C).Pairwise fun a b => a.k < b.k :=
  List.pairwise_append.2 ⟨h1, List.pairwise_cons.2 ⟨fun b hb => hC b hb, h2⟩, fun a ha b hb => by
    have := hA a ha
    rcases List.mem_cons.1 hb with rfl | hb
    · exact this
    · have := hC b hb; omega⟩
/-- What a put makes, and how many copies there are then. -/
theorem putL_good (es : List En) (k n : Int) (h : GoodE es) (h1 : 0 ≤ ofE es k + n) (h2 : cntE es + n ≤ 1048576) : GoodE (putL es k n) ∧ cntE (putL es k n) = cntE es + n := by
  by_cases hn : n = 0
  · have : putL es k n = es := by unfold putL; rw [if_pos hn]
    rw [this]
    exact ⟨h, by omega⟩
  · rcases cases_at es k h with ⟨A, C, rfl, hA, hC⟩ | ⟨A, m, C, rfl, hm, hA, hC⟩
    · rw [(of_not hA hC).2] at h1
      rw [putL_not hA hC n hn]
      have hp := List.pairwise_append.1 h.inc
      have hc : cntE (A ++ (⟨k, n⟩ : En) :: C) = cntE (A ++ C) + n := by simp only [cntE_app, cntE_cons]; omega
      refine ⟨⟨pairs_mid hA hC hp.1 hp.2.1, ?_, by omega⟩, hc⟩
      intro e he
      simp only [List.mem_append, List.mem_cons] at he
      rcases he with he | rfl | he
      · exact h.pos e (by simp [he])
      · show 1 ≤ n; omega
      · exact h.pos e (by simp [he])
    · rw [(of_yes hA m C hC).2] at h1
      rw [putL_yes hA hC n hn]
      have hp := List.pairwise_append.1 h.inc
      have hq := (List.pairwise_cons.1 hp.2.1).2
      split
      · rename_i h0
        have hc : cntE (A ++ C) = cntE (A ++ (⟨k, m⟩ : En) :: C) + n := by simp only [cntE_app, cntE_cons]; omega
        refine ⟨⟨pairs_app hA hC hp.1 hq, ?_, by omega⟩, hc⟩
        intro e he
        simp only [List.mem_append] at he
        rcases he with he | he
        · exact h.pos e (by simp [he])
        · exact h.pos e (by simp [he])
      · rename_i h0
        have hc : cntE (A ++ (⟨k, m + n⟩ : En) :: C) = cntE (A ++ (⟨k, m⟩ : En) :: C) + n := by simp only [cntE_app, cntE_cons]; omega
        refine ⟨⟨pairs_mid hA hC hp.1 hq, ?_, by omega⟩, hc⟩
        intro e he
        simp only [List.mem_append, List.mem_cons] at he
        rcases he with he | rfl | he
        · exact h.pos e (by simp [he])
        · show 1 ≤ m + n; omega
        · exact h.pos e (by simp [he])
theorem putE_good (es : List En) (k n : Int) (h : GoodE es) : GoodE (putE es k n).2 := by
  unfold putE
  split
  · exact h
  · split
    · exact h
    · split
      · exact h
      · exact (putL_good es k n h (by omega) (by omega)).1
/-- WHAT WAS PUT IN CAN BE TAKEN OUT AGAIN. -/
theorem putE_undo (es : List En) (k n : Int) (h : GoodE es) (h0 : (putE es k n).1 = 0) : putE (putE es k n).2 k (-n) = (0, es) := by
  have hof := ofE_nonneg es k h
  have hcn := h.cnt
  unfold putE at h0 ⊢
  split at h0
  · simp at h0
  rename_i c1
  split at h0
  · simp at h0
  rename_i c2
  split at h0
  · simp at h0
  rename_i c3
  rw [if_neg c1, if_neg c2, if_neg c3]
  simp only
  have hg := putL_good es k n h (by omega) (by omega)
  rw [if_neg (by omega)]
  by_cases hn : n = 0
  · have hp : putL es k n = es := by unfold putL; rw [if_pos hn]
    have hq : putL es k (-n) = es := by unfold putL; rw [if_pos (by omega)]
    rw [hp, hq, if_neg (by omega), if_neg (by omega)]
  · rw [hg.2]
    rcases cases_at es k h with ⟨A, C, rfl, hA, hC⟩ | ⟨A, m, C, rfl, hm, hA, hC⟩
    · rw [putL_not hA hC n hn, (of_yes hA n C hC).2, if_neg (by omega), if_neg (by omega), putL_yes hA hC (-n) (by omega), if_pos (by omega)]
    · rw [putL_yes hA hC n hn]
      split
      · rename_i e0
        rw [(of_not hA hC).2, if_neg (by omega), if_neg (by omega), putL_not hA hC (-n) (by omega), show -n = m by omega]
      · rename_i e0
        rw [(of_yes hA (m + n) C hC).2, if_neg (by omega), if_neg (by omega), putL_yes hA hC (-n) (by omega), if_neg (by omega), show m + n + -n = m by omega]
end Go.Proofs.Ytjllcgmdnkakgaa
