/- Layer 26 (tally), plain: values in order, each with its copies; what a put does; what is put in can be taken out. -/
import Derived.Test.YtnidaahimofppaaQuaa
import Derived.Test.YtnidaahimofppaaShelf
import Derived.WalkKit
namespace Go.Proofs.Ytnidaahimofppaa
set_option linter.unusedVariables false
set_option linter.unusedSimpArgs false

/-- How many things stand ahead of q. -/
def posE (es : List En) (q : Vr) : Nat := es.countP fun e => decide (e.k < vcode q)
theorem posE_le (es : List En) (q : Vr) : posE es q ≤ es.length := List.countP_le_length
/-- Is q among them? (Looked at where it would stand.) -/
def isE (es : List En) (q : Vr) : Bool := if h : posE es q < es.length then decide (es[posE es q].k = vcode q) else false
def ofE (es : List En) (q : Vr) : Int := if h : posE es q < es.length then (if es[posE es q].k = vcode q then es[posE es q].n else 0) else 0
def cntE (es : List En) : Int := (es.map En.n).sum
/-- Where q stands, or would: what is ahead, these ones, what is behind. -/
def midE (es : List En) (q : Vr) (m : List En) (d : Nat) : List En := es.take (posE es q) ++ m ++ es.drop (posE es q + d)
def putL (es : List En) (q : Vr) (n : Int) : List En :=
  if n = 0 then es
  else if isE es q = true then (if ofE es q + n = 0 then midE es q [] 1 else midE es q [⟨q, ofE es q + n⟩] 1)
  else midE es q [⟨q, n⟩] 0
def putE (es : List En) (q : Vr) (n : Int) : Int × List En :=
  if n > 1048576 ∨ n < -1048576 then (2, es)
  else if ofE es q + n < 0 then (20, es)
  else if cntE es + n > 1048576 then (7, es)
  else (0, putL es q n)
def nthL : List En → Int → Vr × Bool
  | [], _ => (⟨0, 0, ⟨#[]⟩⟩, false)
  | e :: r, i => if i < e.n then (e.v, true) else nthL r (i - e.n)
def nthE (es : List En) (i : Int) : Vr × Bool := if i < 0 then (⟨0, 0, ⟨#[]⟩⟩, false) else nthL es i
/-- It may be. -/
def okV (x : Vr) : Prop := mayV x.va = true ∧ x.n ≤ 9223372036854775807
/-- In order, each with copies, not too many. -/
structure GoodE (es : List En) : Prop where
  inc : es.Pairwise fun a b => a.k < b.k
  pos : ∀ e ∈ es, 1 ≤ e.n
  cnt : cntE es ≤ 1048576
  ok : ∀ e ∈ es, okV e.v
theorem cntE_app (a b : List En) : cntE (a ++ b) = cntE a + cntE b := by simp [cntE]
theorem cntE_cons (e : En) (r : List En) : cntE (e :: r) = e.n + cntE r := by simp [cntE]
theorem cntE_nil : cntE [] = 0 := rfl
theorem len_le_cnt (es : List En) (h : ∀ e ∈ es, 1 ≤ e.n) : (es.length : Int) ≤ cntE es := by
  induction es with
  | nil => simp [cntE]
  | cons e r ih =>
    rw [cntE_cons]
    have h1 := h e (by simp)
    have h2 := ih (fun x hx => h x (by simp [hx]))
    rw [List.length_cons]
    omega
theorem GoodE.len {es : List En} (h : GoodE es) : es.length ≤ 1048576 := by
  have := len_le_cnt es h.pos
  have := h.cnt
  omega
theorem GoodE.nil : GoodE [] := ⟨List.Pairwise.nil, by simp, by simp [cntE], by simp⟩
/-- A of things ahead of q, C of things that are not. -/
theorem posE_split (A C : List En) (q : Vr) (hA : ∀ e ∈ A, e.k < vcode q) (hC : ∀ e ∈ C, vcode q ≤ e.k) : posE (A ++ C) q = A.length := by
  unfold posE
  rw [List.countP_append, List.countP_eq_length.2 (fun e he => by simpa using hA e he), List.countP_eq_zero.2 (fun e he => by simpa using hC e he)]
  rfl
/-- Each list in order parts so. -/
theorem split_at (es : List En) (q : Vr) (h : es.Pairwise fun a b => a.k < b.k) : ∃ A C, es = A ++ C ∧ (∀ e ∈ A, e.k < vcode q) ∧ (∀ e ∈ C, vcode q ≤ e.k) := by
  induction es with
  | nil => exact ⟨[], [], rfl, by simp, by simp⟩
  | cons e r ih =>
    have hp := List.pairwise_cons.1 h
    by_cases c : e.k < vcode q
    · obtain ⟨A, C, rfl, hA, hC⟩ := ih hp.2
      refine ⟨e :: A, C, rfl, ?_, hC⟩
      intro x hx
      rcases List.mem_cons.1 hx with rfl | hx
      · exact c
      · exact hA x hx
    · refine ⟨[], e :: r, rfl, by simp, ?_⟩
      intro x hx
      rcases List.mem_cons.1 hx with rfl | hx
      · omega
      · have := hp.1 x hx
        omega
section
variable {A C : List En} {q : Vr} (hA : ∀ e ∈ A, e.k < vcode q)
theorem midE_split (hA : ∀ e ∈ A, e.k < vcode q) (hC : ∀ e ∈ C, vcode q ≤ e.k) (m : List En) (d : Nat) : midE (A ++ C) q m d = A ++ m ++ C.drop d := by
  unfold midE
  rw [posE_split A C q hA hC, List.take_left, List.drop_append]
  simp
/-- q is not there. -/
theorem of_not (hA : ∀ e ∈ A, e.k < vcode q) (hC : ∀ e ∈ C, vcode q < e.k) : isE (A ++ C) q = false ∧ ofE (A ++ C) q = 0 := by
  have hp := posE_split A C q hA (fun e he => by have := hC e he; omega)
  unfold isE ofE
  rw [hp]
  cases C with
  | nil => simp
  | cons c r =>
    have h1 := hC c (by simp)
    have h2 : (A ++ c :: r)[A.length]'(by simp) = c := by simp
    simp only [List.length_append, List.length_cons]
    rw [dif_pos (by omega), dif_pos (by omega)]
    simp only [h2]
    have : c.k ≠ vcode q := by omega
    simp [this]
/-- q is there. -/
theorem of_yes (hA : ∀ e ∈ A, e.k < vcode q) (n : Int) (C : List En) (hC : ∀ e ∈ C, vcode q < e.k) : isE (A ++ ⟨q, n⟩ :: C) q = true ∧ ofE (A ++ ⟨q, n⟩ :: C) q = n := by
  have hp := posE_split A (⟨q, n⟩ :: C) q hA (fun e he => by
    rcases List.mem_cons.1 he with rfl | he
    · exact Int.le_refl _
    · have := hC e he; omega)
  unfold isE ofE
  rw [hp]
  have h2 : (A ++ (⟨q, n⟩ : En) :: C)[A.length]'(by simp) = ⟨q, n⟩ := by simp
  simp only [List.length_append, List.length_cons]
  rw [dif_pos (by omega), dif_pos (by omega)]
  simp only [h2]
  simp [En.k]
end
/-- The two cases of a list in order: q is there, or it is not. -/
theorem cases_at (es : List En) (q : Vr) (hok : okV q) (h : GoodE es) :
    (∃ A C, es = A ++ C ∧ (∀ e ∈ A, e.k < vcode q) ∧ (∀ e ∈ C, vcode q < e.k)) ∨ (∃ A n C, es = A ++ ⟨q, n⟩ :: C ∧ 1 ≤ n ∧ (∀ e ∈ A, e.k < vcode q) ∧ (∀ e ∈ C, vcode q < e.k)) := by
  obtain ⟨A, C, rfl, hA, hC⟩ := split_at es q h.inc
  cases C with
  | nil => exact .inl ⟨A, [], rfl, hA, by simp⟩
  | cons c r =>
    have hp := List.pairwise_append.1 h.inc
    have hr := (List.pairwise_cons.1 hp.2.1).1
    have h1 := hC c (by simp)
    by_cases e : c.k = vcode q
    · refine .inr ⟨A, c.n, r, by rw [← vcode_inj c.v q (h.ok c (by simp)).1 hok.1 (h.ok c (by simp)).2 hok.2 e], h.pos c (by simp), hA, ?_⟩
      intro x hx
      have := hr x hx
      omega
    · refine .inl ⟨A, c :: r, rfl, hA, ?_⟩
      intro x hx
      rcases List.mem_cons.1 hx with rfl | hx
      · omega
      · have := hr x hx; omega
theorem ofE_nonneg (es : List En) (q : Vr) (hok : okV q) (h : GoodE es) : 0 ≤ ofE es q := by
  rcases cases_at es q hok h with ⟨A, C, rfl, hA, hC⟩ | ⟨A, n, C, rfl, hn, hA, hC⟩
  · rw [(of_not hA hC).2]; omega
  · rw [(of_yes hA n C hC).2]; omega
theorem cnt_nonneg (es : List En) (h : GoodE es) : 0 ≤ cntE es := by have := len_le_cnt es h.pos; omega
theorem ofE_le (es : List En) (q : Vr) (hok : okV q) (h : GoodE es) : ofE es q ≤ 1048576 := by
  have hc := h.cnt
  rcases cases_at es q hok h with ⟨A, C, rfl, hA, hC⟩ | ⟨A, n, C, rfl, hn, hA, hC⟩
  · rw [(of_not hA hC).2]; omega
  · rw [(of_yes hA n C hC).2]
    rw [cntE_app, cntE_cons] at hc
    simp only at hc
    have h1 := len_le_cnt A (fun e he => h.pos e (by simp [he]))
    have h2 := len_le_cnt C (fun e he => h.pos e (by simp [he]))
    omega
theorem le_of_lt' {q : Vr} {C : List En} (h : ∀ e ∈ C, vcode q < e.k) : ∀ e ∈ C, vcode q ≤ e.k := fun e he => by have := h e he; omega
theorem le_cons {q : Vr} {n : Int} {C : List En} (h : ∀ e ∈ C, vcode q < e.k) : ∀ e ∈ (⟨q, n⟩ : En) :: C, vcode q ≤ e.k := fun e he => by
  rcases List.mem_cons.1 he with rfl | he
  · exact Int.le_refl _
  · have := h e he; omega
/-- q is not there: what a put makes. -/
theorem putL_not {A C : List En} {q : Vr} (hA : ∀ e ∈ A, e.k < vcode q) (hC : ∀ e ∈ C, vcode q < e.k) (n : Int) (hn : n ≠ 0) : putL (A ++ C) q n = A ++ ⟨q, n⟩ :: C := by
  unfold putL
  rw [if_neg hn, (of_not hA hC).1, if_neg (by simp), midE_split hA (le_of_lt' hC)]
  simp
theorem putL_yes {A C : List En} {q : Vr} {m : Int} (hA : ∀ e ∈ A, e.k < vcode q) (hC : ∀ e ∈ C, vcode q < e.k) (n : Int) (hn : n ≠ 0) : putL (A ++ ⟨q, m⟩ :: C) q n = if m + n = 0 then A ++ C else A ++ ⟨q, m + n⟩ :: C := by
  unfold putL
  rw [if_neg hn, (of_yes hA m C hC).1, if_pos rfl, (of_yes hA m C hC).2]
  split
  · rw [midE_split hA (le_cons hC)]; simp
  · rw [midE_split hA (le_cons hC)]; simp
theorem pairs_app {A C : List En} {q : Vr} (hA : ∀ e ∈ A, e.k < vcode q) (hC : ∀ e ∈ C, vcode q < e.k) (h1 : A.Pairwise fun a b => a.k < b.k) (h2 : C.Pairwise fun a b => a.k < b.k) : (A ++ C).Pairwise fun a b => a.k < b.k :=
  List.pairwise_append.2 ⟨h1, h2, fun a ha b hb => by have := hA a ha; have := hC b hb; omega⟩
theorem pairs_mid {A C : List En} {q : Vr} {n : Int} (hA : ∀ e ∈ A, e.k < vcode q) (hC : ∀ e ∈ C, vcode q < e.k) (h1 : A.Pairwise fun a b => a.k < b.k) (h2 : C.Pairwise fun a b => a.k < b.k) : (A ++ ⟨q, n⟩ :: C).Pairwise fun a b => a.k < b.k :=
  List.pairwise_append.2 ⟨h1, List.pairwise_cons.2 ⟨fun b hb => hC b hb, h2⟩, fun a ha b hb => by
    have := hA a ha
    rcases List.mem_cons.1 hb with rfl | hb
    · exact this
    · have := hC b hb; omega⟩
/-- What a put makes, and how many copies there are then. -/
theorem putL_good (es : List En) (q : Vr) (hok : okV q) (n : Int) (h : GoodE es) (h1 : 0 ≤ ofE es q + n) (h2 : cntE es + n ≤ 1048576) : GoodE (putL es q n) ∧ cntE (putL es q n) = cntE es + n := by
  by_cases hn : n = 0
  · have : putL es q n = es := by unfold putL; rw [if_pos hn]
    rw [this]
    exact ⟨h, by omega⟩
  · rcases cases_at es q hok h with ⟨A, C, rfl, hA, hC⟩ | ⟨A, m, C, rfl, hm, hA, hC⟩
    · rw [(of_not hA hC).2] at h1
      rw [putL_not hA hC n hn]
      have hp := List.pairwise_append.1 h.inc
      have hc : cntE (A ++ (⟨q, n⟩ : En) :: C) = cntE (A ++ C) + n := by simp only [cntE_app, cntE_cons]; omega
      refine ⟨⟨pairs_mid hA hC hp.1 hp.2.1, ?_, by omega, (by intro e he; simp only [List.mem_append, List.mem_cons] at he; rcases he with he | rfl | he; exact h.ok e (by simp [he]); exact hok; exact h.ok e (by simp [he]))⟩, hc⟩
      intro e he
      simp only [List.mem_append, List.mem_cons] at he
      rcases he with he | rfl | he
      · exact h.pos e (by simp [he])
      · show 1 ≤ n; omega
      · exact h.pos e (by simp [he])
    · rw [(of_yes hA m C hC).2] at h1
      rw [putL_yes hA hC n hn]
      have hp := List.pairwise_append.1 h.inc
      have hq := (List.pairwise_cons.1 hp.2.1).2
      split
      · rename_i h0
        have hc : cntE (A ++ C) = cntE (A ++ (⟨q, m⟩ : En) :: C) + n := by simp only [cntE_app, cntE_cons]; omega
        refine ⟨⟨pairs_app hA hC hp.1 hq, ?_, by omega, (by intro e he; simp only [List.mem_append] at he; rcases he with he | he; exact h.ok e (by simp [he]); exact h.ok e (by simp [he]))⟩, hc⟩
        intro e he
        simp only [List.mem_append] at he
        rcases he with he | he
        · exact h.pos e (by simp [he])
        · exact h.pos e (by simp [he])
      · rename_i h0
        have hc : cntE (A ++ (⟨q, m + n⟩ : En) :: C) = cntE (A ++ (⟨q, m⟩ : En) :: C) + n := by simp only [cntE_app, cntE_cons]; omega
        refine ⟨⟨pairs_mid hA hC hp.1 hq, ?_, by omega, (by intro e he; simp only [List.mem_append, List.mem_cons] at he; rcases he with he | rfl | he; exact h.ok e (by simp [he]); exact hok; exact h.ok e (by simp [he]))⟩, hc⟩
        intro e he
        simp only [List.mem_append, List.mem_cons] at he
        rcases he with he | rfl | he
        · exact h.pos e (by simp [he])
        · show 1 ≤ m + n; omega
        · exact h.pos e (by simp [he])
theorem putE_good (es : List En) (q : Vr) (hok : okV q) (n : Int) (h : GoodE es) : GoodE (putE es q n).2 := by
  unfold putE
  split
  · exact h
  · split
    · exact h
    · split
      · exact h
      · exact (putL_good es q hok n h (by omega) (by omega)).1
/-- WHAT WAS PUT IN CAN BE TAKEN OUT AGAIN. -/
theorem putE_undo (es : List En) (q : Vr) (hok : okV q) (n : Int) (h : GoodE es) (h0 : (putE es q n).1 = 0) : putE (putE es q n).2 q (-n) = (0, es) := by
  have hof := ofE_nonneg es q hok h
  have hcn := h.cnt
  unfold putE at h0 ⊢
  split at h0
  · simp at h0
  rename_i c1
  split at h0
  · simp at h0
  rename_i c2
  split at h0
  · simp at h0
  rename_i c3
  rw [if_neg c1, if_neg c2, if_neg c3]
  simp only
  have hg := putL_good es q hok n h (by omega) (by omega)
  rw [if_neg (by omega)]
  by_cases hn : n = 0
  · have hp : putL es q n = es := by unfold putL; rw [if_pos hn]
    have hq : putL es q (-n) = es := by unfold putL; rw [if_pos (by omega)]
    rw [hp, hq, if_neg (by omega), if_neg (by omega)]
  · rw [hg.2]
    rcases cases_at es q hok h with ⟨A, C, rfl, hA, hC⟩ | ⟨A, m, C, rfl, hm, hA, hC⟩
    · rw [putL_not hA hC n hn, (of_yes hA n C hC).2, if_neg (by omega), if_neg (by omega), putL_yes hA hC (-n) (by omega), if_pos (by omega)]
    · rw [putL_yes hA hC n hn]
      split
      · rename_i e0
        rw [(of_not hA hC).2, if_neg (by omega), if_neg (by omega), putL_not hA hC (-n) (by omega), show -n = m by omega]
      · rename_i e0
        rw [(of_yes hA (m + n) C hC).2, if_neg (by omega), if_neg (by omega), putL_yes hA hC (-n) (by omega), if_neg (by omega), show m + n + -n = m by omega]
end Go.Proofs.Ytnidaahimofppaa

/- Layer 5 (value): which values are ones, walked. -/
namespace Go.Proofs.Ytnidaahimofppaa
open Go.RowKit
set_option linter.unusedVariables false
set_option linter.unusedSimpArgs false

abbrev va (k n : Int) (s : ByteArray) : Value := .agg #[.int .i64 k, .int .i64 n, .string s]
theorem mayV_no {k n : Int} {s : ByteArray} (h : mayV ⟨k, n, tx s⟩ = false) (h1 : k = 1) : s.toList.isEmpty = false := by
  rw [isE_tx]
  simp only [mayV, h1, decide_true, Bool.true_and, Bool.or_eq_false_iff] at h
  exact h.1

set_option maxRecDepth 100000 in
theorem of_num (n : Int) (s : ByteArray) (h : tx s = []) (w : World) :
    Calls Try.prog 38 #[va 1 n s] w (fun e w' => e = .returned (.tuple #[.iface 114 (.int .i64 n), .bool true]) ∧ Below w.heap.size w w') := by
  have hE : s.toList.isEmpty = true := by rw [isE_tx, h]; rfl
  clear h
  go_enter Try.func38, Try.ntmps38
  go_wp2_with fail
  go_returns
  exact ⟨rfl, (Below.refl _ _).alloc (Nat.le_refl _) _⟩
set_option maxRecDepth 100000 in
theorem of_txt (s : ByteArray) (h : s.size ≤ 64) (w : World) :
    Calls Try.prog 38 #[va 2 0 s] w (fun e w' => e = .returned (.tuple #[.iface 118 (.string s), .bool true]) ∧ Below w.heap.size w w') := by
  have h' : (s.size : Int) ≤ 64 := by omega
  clear h
  go_enter Try.func38, Try.ntmps38
  go_wp2_with fail
  go_returns
  exact ⟨rfl, (Below.refl _ _).alloc (Nat.le_refl _) _⟩
set_option maxRecDepth 100000 in
theorem of_no (k n : Int) (s : ByteArray) (h : mayV ⟨k, n, tx s⟩ = false) (w : World) :
    Calls Try.prog 38 #[va k n s] w (fun e w' => e = .returned (.tuple #[.nilIface, .bool false]) ∧ Below w.heap.size w w') := by
  by_cases k1 : k = 1
  · have hE := mayV_no h k1
    subst k1
    clear h
    go_enter Try.func38, Try.ntmps38
    go_wp2_with fail
    go_returns
    exact ⟨rfl, (Below.refl _ _).alloc (Nat.le_refl _) _⟩
  · have b1 : (k == 1) = false := by simp [k1]
    by_cases k2 : k = 2
    · subst k2
      by_cases n0 : n = 0
      · subst n0
        have hs : ¬ ((s.size : Int) ≤ 64) := by
          simp only [mayV, tx_len] at h
          simp at h
          omega
        clear h
        go_enter Try.func38, Try.ntmps38
        go_wp2_with fail
        go_returns
        exact ⟨rfl, (Below.refl _ _).alloc (Nat.le_refl _) _⟩
      · have b0 : (n == 0) = false := by simp [n0]
        clear h
        go_enter Try.func38, Try.ntmps38
        go_wp2_with fail
        go_returns
        exact ⟨rfl, (Below.refl _ _).alloc (Nat.le_refl _) _⟩
    · have b2 : (k == 2) = false := by simp [k2]
      clear h
      go_enter Try.func38, Try.ntmps38
      go_wp2_with fail
      go_returns
      exact ⟨rfl, (Below.refl _ _).alloc (Nat.le_refl _) _⟩
end Go.Proofs.Ytnidaahimofppaa

/- Layer 5 (value): May, Num, Text and how values stand to each other, walked. -/
namespace Go.Proofs.Ytnidaahimofppaa
open Go.RowKit
set_option linter.unusedVariables false
set_option linter.unusedSimpArgs false

/-- What is a value is a number or a text. -/
theorem mayV_cases {k n : Int} {s : ByteArray} (h : mayV ⟨k, n, tx s⟩ = true) : (k = 1 ∧ tx s = []) ∨ (k = 2 ∧ n = 0 ∧ s.size ≤ 64) := by
  rw [mayV_iff] at h
  simp only [tx_len] at h
  exact h
set_option maxRecDepth 100000 in
theorem may_any (k n : Int) (s : ByteArray) (w : World) :
    Calls Try.prog 43 #[va k n s] w (fun e w' => e = .returned (.bool (mayV ⟨k, n, tx s⟩)) ∧ Below w.heap.size w w') := by
  cases hm : mayV ⟨k, n, tx s⟩ with
  | true =>
    rcases mayV_cases hm with ⟨rfl, h⟩ | ⟨rfl, rfl, h⟩
    · go_enter Try.func43, Try.ntmps43
      go_wp2_with (first | (go_at_call 38; refine (of_num n s h _).mono ?_; rintro e w1 ⟨rfl, hb1⟩))
      go_returns
      exact ⟨rfl, ((Below.refl _ _).alloc (Nat.le_refl _) _).trans (hb1.mono (by simp))⟩
    · go_enter Try.func43, Try.ntmps43
      go_wp2_with (first | (go_at_call 38; refine (of_txt s h _).mono ?_; rintro e w1 ⟨rfl, hb1⟩))
      go_returns
      exact ⟨rfl, ((Below.refl _ _).alloc (Nat.le_refl _) _).trans (hb1.mono (by simp))⟩
  | false =>
    go_enter Try.func43, Try.ntmps43
    go_wp2_with (first | (go_at_call 38; refine (of_no k n s hm _).mono ?_; rintro e w1 ⟨rfl, hb1⟩))
    go_returns
    exact ⟨rfl, ((Below.refl _ _).alloc (Nat.le_refl _) _).trans (hb1.mono (by simp))⟩
theorem num_any (n : Int) (w : World) :
    Calls Try.prog 66 #[.int .i64 n] w (fun e w' => e = .returned (va 1 n ⟨#[]⟩) ∧ Below w.heap.size w w') := by
  go_enter Try.func66, Try.ntmps66
  go_wp2_with fail
  go_returns
  exact ⟨rfl, (Below.refl _ _).alloc (Nat.le_refl _) _⟩
theorem nan_any (n : Int) (w : World) : Calls Try.prog 45 #[.int .i64 n] w (fun e w' => e = .returned (.bool false) ∧ w = w') := by
  go_enter Try.func45, Try.ntmps45
  go_wp2_with fail
  go_returns
  exact ⟨rfl, rfl⟩
theorem cmpI_any (x y : Int) (w : World) : Calls Try.prog 39 #[.int .i64 x, .int .i64 y] w (fun e w' => e = .returned (.int .i64 (cmpI x y)) ∧ w = w') := by
  have h1 : x < y → Kept (cmpI x y = -1) := fun h => ⟨by unfold cmpI; rw [if_pos h]⟩
  have h2 : ¬ x < y → y < x → Kept (cmpI x y = 1) := fun h h' => ⟨by unfold cmpI; rw [if_neg h, if_pos h']⟩
  have h3 : ¬ x < y → ¬ y < x → Kept (cmpI x y = 0) := fun h h' => ⟨by unfold cmpI; rw [if_neg h, if_neg h']⟩
  rcases Int.lt_trichotomy x y with c | c | c
  · have hv := h1 c
    clear h1 h2 h3
    go_enter Try.func39, Try.ntmps39
    go_wp2_with (first | (go_at_call 45; refine (nan_any _ _).mono ?_; rintro e w1 ⟨rfl, rfl⟩))
    go_returns
    exact ⟨by rw [hv.out]; rfl, rfl⟩
  · subst c
    have hv := h3 (by omega) (by omega)
    clear h1 h2 h3
    go_enter Try.func39, Try.ntmps39
    go_wp2_with (first | (go_at_call 45; refine (nan_any _ _).mono ?_; rintro e w1 ⟨rfl, rfl⟩))
    go_returns
    exact ⟨by rw [hv.out]; rfl, rfl⟩
  · have hv := h2 (by omega) c
    have c' : ¬ x < y := by omega
    clear h1 h2 h3
    go_enter Try.func39, Try.ntmps39
    go_wp2_with (first | (go_at_call 45; refine (nan_any _ _).mono ?_; rintro e w1 ⟨rfl, rfl⟩))
    go_returns
    exact ⟨by rw [hv.out]; rfl, rfl⟩
end Go.Proofs.Ytnidaahimofppaa

/- Layer 6 (row): rows in memory (three cells a value): made and appended to by the call itself, or read. -/
namespace Go.Proofs.Ytnidaahimofppaa
open Go.RowKit
set_option linter.unusedVariables false
set_option linter.unusedSimpArgs false

def valC (x : Vr) : List Value := [.int .i64 x.k, .int .i64 x.n, .string x.s]
def rowC (xs : List Vr) : List Value := xs.flatMap valC
theorem rowC_len (xs : List Vr) : (rowC xs).length = xs.length * 3 := by
  induction xs with
  | nil => rfl
  | cons x r ih => simp only [rowC, List.flatMap_cons, List.length_append, List.length_cons] at ih ⊢; rw [ih]; simp [valC]; omega
theorem rowC_app (xs ys : List Vr) : rowC (xs ++ ys) = rowC xs ++ rowC ys := by simp [rowC]
theorem rowC_one (x : Vr) : rowC [x] = valC x := by simp [rowC]
theorem rowC_at (xs : List Vr) (i : Nat) (hi : i < xs.length) : (rowC xs)[i * 3]? = some (.int .i64 (xs[i]).k) ∧ (rowC xs)[i * 3 + 1]? = some (.int .i64 (xs[i]).n) ∧ (rowC xs)[i * 3 + 2]? = some (.string (xs[i]).s) := by
  induction xs generalizing i with
  | nil => simp at hi
  | cons x r ih =>
    have e : rowC (x :: r) = .int .i64 x.k :: .int .i64 x.n :: .string x.s :: rowC r := rfl
    rw [e]
    cases i with
    | zero => simp
    | succ i =>
      have h := ih i (by simpa using hi)
      rw [show (i + 1) * 3 = i * 3 + 1 + 1 + 1 by omega]
      simpa using h
theorem rowC_cell (xs : List Vr) (j : Nat) (u : Value) (h : (rowC xs)[j]? = some u) : ∃ (i : Nat) (hi : i < xs.length), (j = i * 3 ∧ u = .int .i64 (xs[i]).k) ∨ (j = i * 3 + 1 ∧ u = .int .i64 (xs[i]).n) ∨ (j = i * 3 + 2 ∧ u = .string (xs[i]).s) := by
  have hj : j < xs.length * 3 := by rw [← rowC_len]; exact (List.getElem?_eq_some_iff.1 h).1
  have hi : j / 3 < xs.length := by omega
  obtain ⟨h0, h1, h2⟩ := rowC_at xs (j / 3) hi
  refine ⟨j / 3, hi, ?_⟩
  have hm : j % 3 = 0 ∨ j % 3 = 1 ∨ j % 3 = 2 := by omega
  rcases hm with hm | hm | hm
  · refine .inl ⟨by omega, ?_⟩
    rw [show j / 3 * 3 = j by omega, h] at h0
    injection h0
  · refine .inr (.inl ⟨by omega, ?_⟩)
    rw [show j / 3 * 3 + 1 = j by omega, h] at h1
    injection h1
  · refine .inr (.inr ⟨by omega, ?_⟩)
    rw [show j / 3 * 3 + 2 = j by omega, h] at h2
    injection h2
theorem rowC_cells1 (xs : List Vr) : ∀ u ∈ rowC xs, u.oneCell' = true := by
  intro u hu
  obtain ⟨j, hj⟩ := List.getElem?_of_mem hu
  obtain ⟨i, hi, h⟩ := rowC_cell xs j u hj
  rcases h with ⟨_, rfl⟩ | ⟨_, rfl⟩ | ⟨_, rfl⟩ <;> rfl
theorem infoV : (Try.prog.info? 68).map (fun i => (i.zero, i.size, i.bytes)) = some (some (.agg #[.int .i64 0, .int .i64 0, .string ⟨#[]⟩]), 3, 32) := by kernel_rfl
/-- The slice is the call's own and holds this row. -/
def OwnR (w : World) (base : Nat) (v : Value) (xs : List Vr) : Prop := w.ownsRow base 68 3 v xs.length (rowC xs)
theorem OwnR.below {w w1 : World} {base : Nat} {v : Value} {xs : List Vr} (h : OwnR w base v xs) (hb : Below w.heap.size w w1) : OwnR w1 base v xs := by
  refine ⟨h.1, ?_⟩
  rcases h.2 with h2 | ⟨g, cap, cur, h1, h2, h3, h4⟩
  · exact .inl h2
  · exact .inr ⟨g, cap, cur, h1, h2, by rw [hb.block g (Array.getElem?_eq_some_iff.1 h3).1]; exact h3, h4⟩
theorem OwnR.mono {w : World} {base b0 : Nat} {v : Value} {xs : List Vr} (h : OwnR w base v xs) (hb : b0 ≤ base) : OwnR w b0 v xs := by
  refine ⟨h.1, ?_⟩
  rcases h.2 with h2 | ⟨g, cap, cur, h1, h2, h3⟩
  · exact .inl h2
  · exact .inr ⟨g, cap, cur, h1, Nat.le_trans hb h2, h3⟩
theorem OwnR.nil (w : World) (base : Nat) : OwnR w base (.slice none 0 0) [] := ⟨by simp [rowC], .inl ⟨rfl, rfl⟩⟩
theorem OwnR.lit (w : World) (base : Nat) (xs : List Vr) (hb : base ≤ w.heap.size) (hm : xs.length ≤ 100) : OwnR (w.alloc (.cells (rowC xs).toArray 68)) base (.slice (some ⟨w.heap.size, 0, none⟩) xs.length xs.length) xs := by
  have h := World.ownsRow_lit (base := base) (e := 68) (size := 3) w (rowC xs).toArray xs.length hb (by simp only [maxLen]; omega) (by simp [rowC_len])
  simpa [OwnR] using h
theorem OwnR.base {w : World} {base : Nat} {v : Value} {xs : List Vr} (h : OwnR w base v xs) (k : Nat) (hk : v.ownBlock = some k) : base ≤ k := by
  rcases h.2 with ⟨rfl, _⟩ | ⟨g, cap, cur, rfl, hb, _⟩
  · simp [Value.ownBlock] at hk
  · have : g = k := by simpa [Value.ownBlock] using hk
    omega
/-- The slice holds this row, wherever it lies (in blocks below B). -/
def HasR (w : World) (B : Nat) (v : Value) (xs : List Vr) : Prop := ∃ A c, v = .slice A xs.length c ∧ xs.length ≤ c ∧ (xs ≠ [] → ∃ b off, A = some ⟨b, off, none⟩ ∧ b < B ∧ ∀ i, (hi : i < xs.length) → w.cell? ⟨b, off + i * 3, none⟩ = some (.int .i64 (xs[i]).k) ∧ w.cell? ⟨b, off + i * 3 + 1, none⟩ = some (.int .i64 (xs[i]).n) ∧ w.cell? ⟨b, off + i * 3 + 2, none⟩ = some (.string (xs[i]).s))
theorem HasR.opn {w : World} {B : Nat} {A : Option Addr} {n c : Nat} {xs : List Vr} (h : HasR w B (.slice A n c) xs) : n = xs.length ∧ xs.length ≤ c ∧ (xs ≠ [] → ∃ b off, A = some ⟨b, off, none⟩ ∧ b < B ∧ ∀ i, (hi : i < xs.length) → w.cell? ⟨b, off + i * 3, none⟩ = some (.int .i64 (xs[i]).k) ∧ w.cell? ⟨b, off + i * 3 + 1, none⟩ = some (.int .i64 (xs[i]).n) ∧ w.cell? ⟨b, off + i * 3 + 2, none⟩ = some (.string (xs[i]).s)) := by
  obtain ⟨A', c', hv, hlc, hA⟩ := h
  injection hv with h1 h2 h3
  subst h1 h3
  exact ⟨h2, hlc, hA⟩
theorem HasR.below {w w1 : World} {B : Nat} {v : Value} {xs : List Vr} (h : HasR w B v xs) (hb : Below B w w1) : HasR w1 B v xs := by
  obtain ⟨A, c, hv, hlc, hc⟩ := h
  refine ⟨A, c, hv, hlc, fun hn => ?_⟩
  obtain ⟨b, off, hA, hlt, hcell⟩ := hc hn
  refine ⟨b, off, hA, hlt, fun i hi => ?_⟩
  obtain ⟨e0, e1, e2⟩ := hcell i hi
  exact ⟨(World.cell?_of_block (hb.block b hlt)).trans e0, (World.cell?_of_block (hb.block b hlt)).trans e1, (World.cell?_of_block (hb.block b hlt)).trans e2⟩
theorem HasR.up {w : World} {B B' : Nat} {v : Value} {xs : List Vr} (h : HasR w B v xs) (hB : B ≤ B') : HasR w B' v xs := by
  obtain ⟨A, c, hv, hlc, hc⟩ := h
  refine ⟨A, c, hv, hlc, fun hn => ?_⟩
  obtain ⟨b, off, hA, hlt, hcell⟩ := hc hn
  exact ⟨b, off, hA, Nat.lt_of_lt_of_le hlt hB, hcell⟩
theorem HasR.nil (w : World) (B : Nat) : HasR w B (.slice none 0 0) [] := ⟨none, 0, rfl, Nat.le_refl _, fun h => absurd rfl h⟩
theorem OwnR.has {w : World} {base : Nat} {v : Value} {xs : List Vr} (h : OwnR w base v xs) : HasR w w.heap.size v xs := by
  rcases h.2 with ⟨rfl, hn⟩ | ⟨g, cap, cur, rfl, hb, hh, hc, hm, _⟩
  · rw [List.eq_nil_of_length_eq_zero hn]; exact HasR.nil w _
  · refine ⟨_, cap, rfl, hc, fun hn => ⟨g, 0, rfl, (Array.getElem?_eq_some_iff.1 hh).1, fun i hi => ?_⟩⟩
    obtain ⟨e0, e1, e2⟩ := rowC_at xs i hi
    refine ⟨?_, ?_, ?_⟩
    · rw [Nat.zero_add, World.ownsRow.cellAt h (i * 3) (by omega), e0]
    · rw [Nat.zero_add, World.ownsRow.cellAt h (i * 3 + 1) (by omega), e1]
    · rw [Nat.zero_add, World.ownsRow.cellAt h (i * 3 + 2) (by omega), e2]
theorem HasR.read {w : World} {B : Nat} {A : Option Addr} {n c : Nat} {xs : List Vr} (h : HasR w B (.slice A n c) xs) : rowC xs ≠ [] → ∃ ad, A = some ad ∧ ∀ j u, (rowC xs)[j]? = some u → w.cell? (ad.add j) = some u := by
  intro hne
  obtain ⟨A', c', hv, _, hc⟩ := h
  injection hv with h1 h2 h3
  subst h1
  have hx : xs ≠ [] := by rintro rfl; exact hne rfl
  obtain ⟨b, off, rfl, hlt, hcell⟩ := hc hx
  refine ⟨_, rfl, fun j u hu => ?_⟩
  obtain ⟨i, hi, h⟩ := rowC_cell xs j u hu
  obtain ⟨e0, e1, e2⟩ := hcell i hi
  rw [Addr.add_lit]
  rcases h with ⟨rfl, rfl⟩ | ⟨rfl, rfl⟩ | ⟨rfl, rfl⟩
  · exact e0
  · rw [← Nat.add_assoc]; exact e1
  · rw [← Nat.add_assoc]; exact e2
theorem three_new (W : World) (x y z : Value) (e : TypeId) (j : Nat) (u : Value) (hj : [x, y, z][j]? = some u) : (W.alloc (.cells #[x, y, z] e)).cell? ((⟨W.heap.size, 0, none⟩ : Addr).add j) = some u := by
  match j, hj with
  | 0, hj => simp at hj; subst hj; simp [Addr.add]
  | 1, hj => simp at hj; subst hj; simp [Addr.add]
  | 2, hj => simp at hj; subst hj; simp [Addr.add]
section
variable {ops : Array Oper} {rest : List Oper} {o : Oper} {a : Act} {Q : Exit → Act → World → Prop}
/-- append(v, x), x one value. -/
theorem app_val {w0 W : World} (hgd : o.guard = none) (s x : Operand) (t : TypeId)
    (ho : o.op = .call { callee := .builtin .append, args := #[s, x], argTypes := #[t, t] })
    (ht : Try.prog.underlying t = some (.slice 68))
    (v : Value) (xs : List Vr) (k n : Int) (y : ByteArray) (hs : a.eval s = v) (hx : a.eval x = .slice (some ⟨W.heap.size, 0, none⟩) 1 1)
    (HO : OwnR W w0.heap.size v xs) (HB : Below w0.heap.size w0 W) (hl : xs.length ≤ 100000)
    (h : ∀ v1 r d, OwnR (xw w0 r d) w0.heap.size v1 (xs ++ [⟨k, n, y⟩]) → (W.alloc (.cells #[.int .i64 k, .int .i64 n, .string y] 68)).grownBy (xw w0 r d) v.ownBlock → wpList Try.prog ops Q rest (a.put o.dst v1) (xw w0 r d)) :
    wpList Try.prog ops Q (o :: rest) a (W.alloc (.cells #[.int .i64 k, .int .i64 n, .string y] 68)) := by
  obtain ⟨i0, hi, hzz⟩ := Option.map_eq_some_iff.1 infoV
  simp only [Prod.mk.injEq] at hzz
  obtain ⟨hz0, hz1, hz2⟩ := hzz
  refine wpList_append_own_at (W.alloc (.cells #[.int .i64 k, .int .i64 n, .string y] 68)) hgd s x t ho w0.heap.size 68 i0 _ 3 32 ht hi hz0 hz1 hz2 (by rfl) (by omega) v xs.length (rowC xs) hs (OwnR.below HO ((Below.refl _ _).alloc (Nat.le_refl _) _)) ⟨W.heap.size, 0, none⟩ 1 1 [.int .i64 k, .int .i64 n, .string y] hx rfl
    (three_new W _ _ _ _) (by simp; exact ⟨rfl, rfl, rfl⟩) (by simp only [maxLen]; omega) (by omega) (by have := HB.size; simp; omega) ?_
  intro v1 w1 hown hg _ _
  obtain ⟨r, d, rfl⟩ := grown_xw (HB.alloc HB.size (.cells #[.int .i64 k, .int .i64 n, .string y] 68)) hg (OwnR.base HO)
  refine h v1 r d ?_ hg
  unfold OwnR
  rw [rowC_app, List.length_append]
  exact hown
set_option maxRecDepth 100000 in
/-- append(v, ys...), ys a row that is read; nil, too. -/
theorem app_vals {w0 W : World} (hgd : o.guard = none) (s x : Operand) (t : TypeId)
    (ho : o.op = .call { callee := .builtin .append, args := #[s, x], argTypes := #[t, t] })
    (ht : Try.prog.underlying t = some (.slice 68))
    (v : Value) (xs ys : List Vr) (A : Option Addr) (c : Nat) (hs : a.eval s = v) (hx : a.eval x = .slice A ys.length c)
    (hy : rowC ys ≠ [] → ∃ ad, A = some ad ∧ ∀ j u, (rowC ys)[j]? = some u → W.cell? (ad.add j) = some u)
    (HO : OwnR W w0.heap.size v xs) (HB : Below w0.heap.size w0 W) (hl : (xs.length + ys.length) * 32 ≤ 140737488355328)
    (h : ∀ v1 r d, OwnR (xw w0 r d) w0.heap.size v1 (xs ++ ys) → wpList Try.prog ops Q rest (a.put o.dst v1) (xw w0 r d)) :
    wpList Try.prog ops Q (o :: rest) a W := by
  obtain ⟨i0, hi, hzz⟩ := Option.map_eq_some_iff.1 infoV
  simp only [Prod.mk.injEq] at hzz
  obtain ⟨hz0, hz1, hz2⟩ := hzz
  have hrun : ∃ v1 w1, (Builtin.append_ #[t, t] o.type #[v, .slice A ys.length c]).run Try.prog W = .ok v1 w1 ∧ OwnR w1 w0.heap.size v1 (xs ++ ys) ∧ W.grownBy w1 v.ownBlock := by
    rcases A with _ | ad
    · have h0 : ys = [] := by
        cases ys with
        | nil => rfl
        | cons y r =>
          obtain ⟨ad, h, _⟩ := hy (by intro e; have := congrArg List.length e; rw [rowC_len] at this; simp at this)
          cases h
      subst h0
      refine ⟨v, W, ?_, by simpa using HO, World.grownBy.refl W _⟩
      rcases HO.2 with ⟨rfl, hn⟩ | ⟨g, cap, cur, rfl, _, _, hnc, _⟩
      · simp [Builtin.append_, run_underlying ht, sizeOf, typeInfo, hi, Builtin.lenOf, Builtin.firstCells]
      · simp [Builtin.append_, run_underlying ht, sizeOf, typeInfo, hi, Builtin.lenOf, Builtin.firstCells, hnc, storeCells]
    · have hc : ∀ j u, (rowC ys)[j]? = some u → W.cell? (ad.add j) = some u := by
        intro j u hu
        have hne : rowC ys ≠ [] := by intro e; rw [e] at hu; simp at hu
        obtain ⟨ad', h', hc⟩ := hy hne
        injection h' with h'
        subst h'
        exact hc j u hu
      obtain ⟨v1, w1, hr, h2, h3, _, h5⟩ := run_append_own_at (P := Try.prog) W w0.heap.size t o.type 68 i0 _ 3 32 ht hi hz0 hz1 hz2 (by rfl) (by omega) v xs.length (rowC xs) HO ad ys.length c (rowC ys) (by rw [rowC_len]) hc (rowC_cells1 ys) (by simp only [maxLen]; omega) hl HB.size
      exact ⟨v1, w1, hr, by unfold OwnR; rw [rowC_app, List.length_append]; exact h2, h3⟩
  obtain ⟨v1, w1, hr, hown, hg⟩ := hrun
  obtain ⟨r, d, rfl⟩ := grown_xw HB hg (OwnR.base HO)
  refine wpList_plain hgd fun K hK => ?_
  unfold Oper.wp execOp
  simp only [ho, resolve, invoke, builtin, Sem.run_bind, Sem.run_pure, Result.andThen_ok, List.map_toArray, List.map_cons, List.map_nil, hs, hx, hr]
  exact hK _ _ (h v1 r d hown)
end
end Go.Proofs.Ytnidaahimofppaa

/- Plain words on wide numbers (no program in sight): the halves of a whole number, what fits 128 bits, and the sums part by part. -/
namespace Go.Proofs.Ytnidaahimofppaa
open Go.RowKit
set_option linter.unusedVariables false
set_option linter.unusedSimpArgs false

def vW (h l : Int) : Int := h * 18446744073709551616 + l
def hiW (V : Int) : Int := V / 18446744073709551616
def loW (V : Int) : Int := V % 18446744073709551616
def inW (V : Int) : Prop := -170141183460469231731687303715884105728 ≤ V ∧ V < 170141183460469231731687303715884105728
instance (V : Int) : Decidable (inW V) := by unfold inW; exact inferInstance
def addH (V : Int) : Int := if inW V then hiW V else 0
def addL (V : Int) : Int := if inW V then loW V else 0
def addE (V : Int) : Int := if inW V then 0 else 10
def in64 (V : Int) : Prop := -9223372036854775808 ≤ V ∧ V < 9223372036854775808
instance (V : Int) : Decidable (in64 V) := by unfold in64; exact inferInstance
def intN (V : Int) : Int := if in64 V then V else 0
def intE (V : Int) : Int := if in64 V then 0 else 10
def cmpW (A C : Int) : Int := if A < C then -1 else if A = C then 0 else 1
/-- A field Hi. -/
def okH (h : Int) : Prop := -9223372036854775808 ≤ h ∧ h ≤ 9223372036854775807
/-- A field Lo. -/
def okL (l : Int) : Prop := 0 ≤ l ∧ l ≤ 18446744073709551615

theorem u64_eq (n : Int) : IntKind.u64.wrap n = n % 18446744073709551616 := by
  simp [IntKind.wrap, IntKind.bits, IntKind.signed]
theorem u64_bd (h : Int) : 0 ≤ IntKind.u64.wrap h ∧ IntKind.u64.wrap h ≤ 18446744073709551615 := by
  rw [u64_eq]; omega
theorem vW_in {h l : Int} (H : okH h) (L : okL l) : inW (vW h l) := by
  unfold okH okL inW vW at *; omega
theorem hi_val {h l : Int} (L : okL l) : hiW (vW h l) = h := by
  unfold okL hiW vW at *; omega
theorem lo_val {h l : Int} (L : okL l) : loW (vW h l) = l := by
  unfold okL loW vW at *; omega
theorem val_hl (V : Int) : vW (hiW V) (loW V) = V := by
  unfold hiW loW vW; omega
theorem okL_lo (V : Int) : okL (loW V) := by unfold okL loW; omega
theorem okH_hi {V : Int} (h : inW V) : okH (hiW V) := by unfold okH hiW inW at *; omega
theorem okH_add (V : Int) : okH (addH V) := by
  unfold addH; split
  · exact okH_hi (by assumption)
  · unfold okH; omega
theorem okL_add (V : Int) : okL (addL V) := by
  unfold addL; split
  · exact okL_lo _
  · unfold okL; omega
theorem addH_in {V : Int} (h : inW V) : addH V = hiW V := if_pos h
theorem addL_in {V : Int} (h : inW V) : addL V = loW V := if_pos h
theorem addE_in {V : Int} (h : inW V) : addE V = 0 := if_pos h
theorem addH_out {V : Int} (h : ¬ inW V) : addH V = 0 := if_neg h
theorem addL_out {V : Int} (h : ¬ inW V) : addL V = 0 := if_neg h
theorem addE_out {V : Int} (h : ¬ inW V) : addE V = 10 := if_neg h
theorem in64_inW {V : Int} (h : in64 V) : inW V := by unfold in64 inW at *; omega

/-! ### the program's sum, by its halves -/
theorem half_sum {a b c d : Int} (ha : okH a) (hb : okL b) (hc : okH c) (hd : okL d) (lo cy hi : Int) (e1 : lo = (b + d) % 18446744073709551616) (e2 : cy = (b + d) / 18446744073709551616)
    (e3 : hi = (IntKind.u64.wrap a + IntKind.u64.wrap c + cy) % 18446744073709551616) :
    ((((a < 0 ↔ c < 0) ∧ ¬ (wrap64 hi < 0 ↔ a < 0)) ↔ ¬ inW (vW a b + vW c d)) ∧ (inW (vW a b + vW c d) → wrap64 hi = hiW (vW a b + vW c d) ∧ lo = loW (vW a b + vW c d))) := by
  rw [u64_eq, u64_eq] at e3
  unfold okH okL at *
  unfold inW vW hiW loW wrap64
  subst e1 e2
  refine ⟨?_, ?_⟩
  · by_cases h1 : a < 0 <;> by_cases h2 : c < 0 <;> simp only [h1, h2, true_iff, false_iff, iff_true, iff_false, Classical.not_not, true_and, false_and, not_true, not_false_iff] <;> omega
  · intro h
    omega

/-- The number that goes round. -/
def rnd (V : Int) : Int := (V + 170141183460469231731687303715884105728) % 340282366920938463463374607431768211456 - 170141183460469231731687303715884105728
theorem rnd_in {V : Int} (h : inW V) : rnd V = V := by unfold rnd inW at *; omega
theorem half_neg {a b : Int} (ha : okH a) (hb : okL b) (lo bw hi : Int) (e1 : lo = (18446744073709551616 - b) % 18446744073709551616) (e2 : bw = if b = 0 then 0 else 1)
    (e3 : hi = (18446744073709551616 - IntKind.u64.wrap a - bw) % 18446744073709551616) : wrap64 hi = hiW (rnd (-(vW a b))) ∧ lo = loW (rnd (-(vW a b))) := by
  rw [u64_eq] at e3
  unfold okH okL at *
  unfold rnd vW hiW loW wrap64
  subst e1
  split at e2 <;> subst e2 <;> omega

/-! ### the reference's parts -/
def sgn (h : Int) : Int := if h < 0 then -1 else 0
theorem or_parts (a b : Int) (h1 : 0 ≤ a) (h2 : a ≤ 4294967295) (h3 : 0 ≤ b) (h4 : b ≤ 4294967295) : bits .or .u64 (a * 4294967296) b = a * 4294967296 + b := by
  obtain ⟨n, rfl⟩ := Int.eq_ofNat_of_zero_le h1
  obtain ⟨m, rfl⟩ := Int.eq_ofNat_of_zero_le h3
  rw [u64_or _ _ (by omega) (by omega) (by omega) (by omega)]
  have e1 : ((n : Int) * 4294967296).toNat = n <<< 32 := by rw [Nat.shiftLeft_eq]; omega
  rw [e1, Int.toNat_natCast, ← Nat.shiftLeft_add_eq_or_of_lt (by omega), Nat.shiftLeft_eq]
  omega
/-- Four parts and what stands above them are a number. -/
def num5 (p0 p1 p2 p3 s : Int) : Int := p0 + p1 * 4294967296 + p2 * 18446744073709551616 + p3 * 79228162514264337593543950336 + s * 340282366920938463463374607431768211456
theorem parts_num {h l : Int} (H : okH h) (L : okL l) : num5 (l % 4294967296) (l / 4294967296) (IntKind.u64.wrap h % 4294967296) (IntKind.u64.wrap h / 4294967296) (sgn h) = vW h l := by
  rw [u64_eq]
  unfold okH okL at *
  unfold num5 vW sgn
  split <;> omega
def r0 (p0 q0 : Int) : Int := (p0 + q0) % 4294967296
def r1 (p0 q0 p1 q1 : Int) : Int := (p1 + q1 + (p0 + q0) / 4294967296) % 4294967296
def r2 (p0 q0 p1 q1 p2 q2 : Int) : Int := (p2 + q2 + (p1 + q1 + (p0 + q0) / 4294967296) / 4294967296) % 4294967296
def r3 (p0 q0 p1 q1 p2 q2 p3 q3 : Int) : Int := (p3 + q3 + (p2 + q2 + (p1 + q1 + (p0 + q0) / 4294967296) / 4294967296) / 4294967296) % 4294967296
def rs (p0 q0 p1 q1 p2 q2 p3 q3 s t : Int) : Int := s + t + (p3 + q3 + (p2 + q2 + (p1 + q1 + (p0 + q0) / 4294967296) / 4294967296) / 4294967296) / 4294967296
theorem num_sum (p0 p1 p2 p3 s q0 q1 q2 q3 t : Int) :
    num5 (r0 p0 q0) (r1 p0 q0 p1 q1) (r2 p0 q0 p1 q1 p2 q2) (r3 p0 q0 p1 q1 p2 q2 p3 q3) (rs p0 q0 p1 q1 p2 q2 p3 q3 s t) = num5 p0 p1 p2 p3 s + num5 q0 q1 q2 q3 t := by
  unfold num5 r0 r1 r2 r3 rs
  generalize h0 : (p0 + q0) / 4294967296 = c0
  generalize h1 : (p1 + q1 + c0) / 4294967296 = c1
  generalize h2 : (p2 + q2 + c1) / 4294967296 = c2
  generalize h3 : (p3 + q3 + c2) / 4294967296 = c3
  omega
theorem part_bd (x : Int) : 0 ≤ x % 4294967296 ∧ x % 4294967296 ≤ 4294967295 := by omega
/-- What fits, and the number put together. -/
theorem num_back {p0 p1 p2 p3 s V : Int} (h0 : 0 ≤ p0) (h1 : p0 ≤ 4294967295) (h2 : 0 ≤ p1) (h3 : p1 ≤ 4294967295) (h4 : 0 ≤ p2) (h5 : p2 ≤ 4294967295) (h6 : 0 ≤ p3) (h7 : p3 ≤ 4294967295) (e : num5 p0 p1 p2 p3 s = V) :
    ((if 2147483648 ≤ p3 then s == -1 else s == 0) = true ↔ inW V) ∧ (inW V → wrap64 (p3 * 4294967296 + p2) = hiW V ∧ p1 * 4294967296 + p0 = loW V) := by
  subst e
  unfold num5 inW hiW loW wrap64
  refine ⟨?_, ?_⟩
  · split <;> simp only [beq_iff_eq] <;> omega
  · intro h; omega
end Go.Proofs.Ytnidaahimofppaa
