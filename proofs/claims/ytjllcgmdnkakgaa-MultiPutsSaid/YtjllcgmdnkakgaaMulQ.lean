/- Layer 24 (multi), plain words (no program in sight): each copy by itself. -/
import Derived.Test.YtjllcgmdnkakgaaMulLb
namespace Go.Proofs.Ytjllcgmdnkakgaa
set_option linter.unusedVariables false
set_option linter.unusedSimpArgs false

/-- Each copy, in order. -/
def cps (es : List En) : List Int := es.flatMap fun e => List.replicate e.n.toNat e.k
theorem cps_app (a b : List En) : cps (a ++ b) = cps a ++ cps b := by simp [cps]
theorem cps_cons (e : En) (r : List En) : cps (e :: r) = List.replicate e.n.toNat e.k ++ cps r := by simp [cps]
theorem cps_len (es : List En) (h : ∀ e ∈ es, 1 ≤ e.n) : ((cps es).length : Int) = cntE es := by
  induction es with
  | nil => simp [cps, cntE]
  | cons e r ih =>
    have h1 := h e (by simp)
    have h2 := ih (fun x hx => h x (by simp [hx]))
    rw [cps_cons, cntE_cons, List.length_append, List.length_replicate]
    omega
theorem cps_mem {es : List En} {x : Int} (h : x ∈ cps es) : ∃ e ∈ es, x = e.k := by
  simp only [cps, List.mem_flatMap, List.mem_replicate] at h
  obtain ⟨e, he, _, rfl⟩ := h
  exact ⟨e, he, rfl⟩
/-- How many of k. -/
def cntK (l : List Int) (k : Int) : Nat := l.countP fun x => decide (x = k)
theorem cntK_none {l : List Int} {k : Int} (h : ∀ x ∈ l, x ≠ k) : cntK l k = 0 := List.countP_eq_zero.2 (fun x hx => by simpa using h x hx)
theorem cntK_rep (n : Nat) (k : Int) : cntK (List.replicate n k) k = n := by simp [cntK, List.countP_replicate]
theorem cntK_app (a b : List Int) (k : Int) : cntK (a ++ b) k = cntK a k + cntK b k := by simp [cntK]
theorem cps_of (es : List En) (k : Int) (h : GoodE es) : ((cntK (cps es) k : Nat) : Int) = ofE es k := by
  rcases cases_at es k h with ⟨A, C, rfl, hA, hC⟩ | ⟨A, n, C, rfl, hn, hA, hC⟩
  · rw [(of_not hA hC).2, cps_app, cntK_app, cntK_none (fun x hx => by obtain ⟨e, he, rfl⟩ := cps_mem hx; have := hA e he; omega), cntK_none (fun x hx => by obtain ⟨e, he, rfl⟩ := cps_mem hx; have := hC e he; omega)]
    rfl
  · have a0 : cntK (cps A) k = 0 := cntK_none (fun x hx => by obtain ⟨e, he, rfl⟩ := cps_mem hx; have := hA e he; omega)
    have c0 : cntK (cps C) k = 0 := cntK_none (fun x hx => by obtain ⟨e, he, rfl⟩ := cps_mem hx; have := hC e he; omega)
    have m0 : cntK (List.replicate (⟨k, n⟩ : En).n.toNat (⟨k, n⟩ : En).k) k = n.toNat := cntK_rep _ _
    rw [(of_yes hA n C hC).2, cps_app, cps_cons, cntK_app, cntK_app, a0, c0, m0]
    omega
/-- The copy with a number. -/
def nthC (l : List Int) (i : Int) : Int × Bool := if h : 0 ≤ i ∧ i < (l.length : Int) then (l[i.toNat]'(by omega), true) else (0, false)
theorem nthC_nil (i : Int) : nthC [] i = (0, false) := by unfold nthC; rw [dif_neg (by simp)]
theorem nthC_rep (n : Nat) (k : Int) (l : List Int) (i : Int) (h0 : 0 ≤ i) : nthC (List.replicate n k ++ l) i = if i < (n : Int) then (k, true) else nthC l (i - n) := by
  unfold nthC
  by_cases c : i < (n : Int)
  · rw [if_pos c, dif_pos ⟨h0, by rw [List.length_append, List.length_replicate]; omega⟩]
    congr 1
    rw [List.getElem_append_left (by rw [List.length_replicate]; omega), List.getElem_replicate]
  · rw [if_neg c]
    by_cases c2 : i - n < (l.length : Int)
    · rw [dif_pos ⟨h0, by rw [List.length_append, List.length_replicate]; omega⟩, dif_pos ⟨by omega, c2⟩]
      congr 1
      rw [List.getElem_append_right (by rw [List.length_replicate]; omega)]
      congr 1
      rw [List.length_replicate]
      omega
    · rw [dif_neg (by rw [List.length_append, List.length_replicate]; omega), dif_neg (by omega)]
theorem cps_nthL (es : List En) (h : ∀ e ∈ es, 1 ≤ e.n) (i : Int) (h0 : 0 ≤ i) : nthC (cps es) i = nthL es i := by
  induction es generalizing i with
  | nil => rw [nthL]; exact nthC_nil i
  | cons e r ih =>
    have h1 := h e (by simp)
    rw [cps_cons, nthC_rep _ _ _ _ h0, nthL, Int.toNat_of_nonneg (by omega)]
    split
    · rfl
    · exact ih (fun x hx => h x (by simp [hx])) (i - e.n) (by omega)
theorem cps_nth (es : List En) (h : GoodE es) (i : Int) : nthC (cps es) i = nthE es i := by
  unfold nthE
  split
  · unfold nthC; rw [dif_neg (by omega)]
  · exact cps_nthL es h.pos i (by omega)
/-- The reference's put: what is still to come. -/
def putC (k : Int) (left : Nat) : Bool → List Int → List Int
  | false, [] => List.replicate left k
  | true, [] => []
  | false, c :: r => if k ≤ c then List.replicate left k ++ ((if c = k then [] else [c]) ++ putC k left true r) else c :: putC k left false r
  | true, c :: r => (if c = k then [] else [c]) ++ putC k left true r
theorem putC_t (k : Int) (left : Nat) (l : List Int) (h : ∀ x ∈ l, x ≠ k) : putC k left true l = l := by
  induction l with
  | nil => rfl
  | cons c r ih => rw [putC, if_neg (h c (by simp)), ih (fun x hx => h x (by simp [hx]))]; rfl
theorem putC_rep (k : Int) (left n : Nat) (l : List Int) : putC k left true (List.replicate n k ++ l) = putC k left true l := by
  induction n with
  | zero => rfl
  | succ n ih => rw [List.replicate_succ, List.cons_append, putC, if_pos rfl, ih]; rfl
theorem putC_lt (k : Int) (left : Nat) (a l : List Int) (h : ∀ x ∈ a, x < k) : putC k left false (a ++ l) = a ++ putC k left false l := by
  induction a with
  | nil => rfl
  | cons c r ih =>
    have := h c (by simp)
    rw [List.cons_append, putC, if_neg (by omega), ih (fun x hx => h x (by simp [hx]))]
    rfl
theorem putC_gt (k : Int) (left : Nat) (l : List Int) (h : ∀ x ∈ l, k < x) : putC k left false l = List.replicate left k ++ l := by
  cases l with
  | nil => simp [putC]
  | cons c r =>
    have := h c (by simp)
    rw [putC, if_pos (by omega), if_neg (by omega), putC_t k left r (fun x hx => by have := h x (by simp [hx]); omega)]
    rfl
theorem putC_eq (k : Int) (left n : Nat) (l : List Int) (hn : 0 < n) (h : ∀ x ∈ l, k < x) : putC k left false (List.replicate n k ++ l) = List.replicate left k ++ l := by
  obtain ⟨m, rfl⟩ : ∃ m, n = m + 1 := ⟨n - 1, by omega⟩
  rw [List.replicate_succ, List.cons_append, putC, if_pos (Int.le_refl _), if_pos rfl, putC_rep, putC_t k left l (fun x hx => by have := h x hx; omega)]
  rfl
/-- The reference's put makes the copies of what the put makes. -/
theorem cps_put (es : List En) (k n : Int) (h : GoodE es) (h1 : 0 ≤ ofE es k + n) : putC k (ofE es k + n).toNat false (cps es) = cps (putL es k n) := by
  rcases cases_at es k h with ⟨A, C, rfl, hA, hC⟩ | ⟨A, m, C, rfl, hm, hA, hC⟩
  · rw [(of_not hA hC).2] at h1 ⊢
    have hA' : ∀ x ∈ cps A, x < k := fun x hx => by obtain ⟨e, he, rfl⟩ := cps_mem hx; exact hA e he
    have hC' : ∀ x ∈ cps C, k < x := fun x hx => by obtain ⟨e, he, rfl⟩ := cps_mem hx; exact hC e he
    rw [cps_app, putC_lt _ _ _ _ hA', putC_gt _ _ _ hC']
    by_cases hn : n = 0
    · have hp : putL (A ++ C) k n = A ++ C := by unfold putL; rw [if_pos hn]
      rw [hp, cps_app, hn]
      simp
    · rw [putL_not hA hC n hn, cps_app, cps_cons]
      simp
  · rw [(of_yes hA m C hC).2] at h1 ⊢
    have hA' : ∀ x ∈ cps A, x < k := fun x hx => by obtain ⟨e, he, rfl⟩ := cps_mem hx; exact hA e he
    have hC' : ∀ x ∈ cps C, k < x := fun x hx => by obtain ⟨e, he, rfl⟩ := cps_mem hx; exact hC e he
    rw [cps_app, cps_cons, putC_lt _ _ _ _ hA', putC_eq _ _ _ _ (by simp only; omega) hC']
    by_cases hn : n = 0
    · have hp : putL (A ++ (⟨k, m⟩ : En) :: C) k n = A ++ ⟨k, m⟩ :: C := by unfold putL; rw [if_pos hn]
      rw [hp, cps_app, cps_cons, hn, Int.add_zero]
    · rw [putL_yes hA hC n hn]
      split
      · rename_i h0
        rw [cps_app, h0]
        simp
      · rw [cps_app, cps_cons]
end Go.Proofs.Ytjllcgmdnkakgaa
