/- Layer 26 (tally): entries of values in memory (four cells an entry): made and appended to by the call itself, or read. -/
import Derived.Test.YtnidaahimofppaaGreatQpaa
namespace Go.Proofs.YtnidaahimofppaaGreat
open Go.RowKit
set_option linter.unusedVariables false
set_option linter.unusedSimpArgs false

def enV (x : En) : List Value := [.int .i64 x.v.k, .int .i64 x.v.n, .string x.v.s, .int .i64 x.n]
def enC (xs : List En) : List Value := xs.flatMap enV
theorem enC_len (xs : List En) : (enC xs).length = xs.length * 4 := by
  induction xs with
  | nil => rfl
  | cons x r ih => simp only [enC, List.flatMap_cons, List.length_append, List.length_cons] at ih ⊢; rw [ih]; simp [enV]; omega
theorem enC_app (xs ys : List En) : enC (xs ++ ys) = enC xs ++ enC ys := by simp [enC]
theorem enC_one (x : En) : enC [x] = enV x := by simp [enC]
theorem enC_cons (x : En) (r : List En) : enC (x :: r) = .int .i64 x.v.k :: .int .i64 x.v.n :: .string x.v.s :: .int .i64 x.n :: enC r := rfl
theorem enC_at (xs : List En) (i : Nat) (hi : i < xs.length) : (enC xs)[i * 4]? = some (.int .i64 (xs[i]).v.k) ∧ (enC xs)[i * 4 + 1]? = some (.int .i64 (xs[i]).v.n) ∧ (enC xs)[i * 4 + 2]? = some (.string (xs[i]).v.s) ∧ (enC xs)[i * 4 + 3]? = some (.int .i64 (xs[i]).n) := by
  induction xs generalizing i with
  | nil => simp at hi
  | cons x r ih =>
    rw [enC_cons]
    cases i with
    | zero => simp
    | succ i =>
      have h := ih i (by simpa using hi)
      rw [show (i + 1) * 4 = i * 4 + 1 + 1 + 1 + 1 by omega]
      simpa using h
theorem enC_cell (xs : List En) (j : Nat) (u : Value) (h : (enC xs)[j]? = some u) : ∃ (i : Nat) (hi : i < xs.length), (j = i * 4 ∧ u = .int .i64 (xs[i]).v.k) ∨ (j = i * 4 + 1 ∧ u = .int .i64 (xs[i]).v.n) ∨ (j = i * 4 + 2 ∧ u = .string (xs[i]).v.s) ∨ (j = i * 4 + 3 ∧ u = .int .i64 (xs[i]).n) := by
  have hj : j < xs.length * 4 := by rw [← enC_len]; exact (List.getElem?_eq_some_iff.1 h).1
  have hi : j / 4 < xs.length := by omega
  obtain ⟨h0, h1, h2, h3⟩ := enC_at xs (j / 4) hi
  refine ⟨j / 4, hi, ?_⟩
  have hm : j % 4 = 0 ∨ j % 4 = 1 ∨ j % 4 = 2 ∨ j % 4 = 3 := by omega
  rcases hm with hm | hm | hm | hm
  · refine .inl ⟨by omega, ?_⟩
    rw [show j / 4 * 4 = j by omega, h] at h0
    injection h0
  · refine .inr (.inl ⟨by omega, ?_⟩)
    rw [show j / 4 * 4 + 1 = j by omega, h] at h1
    injection h1
  · refine .inr (.inr (.inl ⟨by omega, ?_⟩))
    rw [show j / 4 * 4 + 2 = j by omega, h] at h2
    injection h2
  · refine .inr (.inr (.inr ⟨by omega, ?_⟩))
    rw [show j / 4 * 4 + 3 = j by omega, h] at h3
    injection h3
theorem enC_cells1 (xs : List En) : ∀ u ∈ enC xs, u.oneCell' = true := by
  intro u hu
  obtain ⟨j, hj⟩ := List.getElem?_of_mem hu
  obtain ⟨i, hi, h⟩ := enC_cell xs j u hj
  rcases h with ⟨_, rfl⟩ | ⟨_, rfl⟩ | ⟨_, rfl⟩ | ⟨_, rfl⟩ <;> rfl
theorem infoE : (Tryz.prog.info? 183).map (fun i => (i.zero, i.size, i.bytes)) = some (some (Value.agg #[.int .i64 0, .int .i64 0, .string ⟨#[]⟩, .int .i64 0]), 4, 40) := by kernel_rfl
/-- The slice is the call's own and holds this row. -/
def OwnE (w : World) (base : Nat) (v : Value) (xs : List En) : Prop := w.ownsRow base 183 4 v xs.length (enC xs)
theorem OwnE.below {w w1 : World} {base : Nat} {v : Value} {xs : List En} (h : OwnE w base v xs) (hb : Below w.heap.size w w1) : OwnE w1 base v xs := by
  refine ⟨h.1, ?_⟩
  rcases h.2 with h2 | ⟨g, cap, cur, h1, h2, h3, h4⟩
  · exact .inl h2
  · exact .inr ⟨g, cap, cur, h1, h2, by rw [hb.block g (Array.getElem?_eq_some_iff.1 h3).1]; exact h3, h4⟩
theorem OwnE.mono {w : World} {base b0 : Nat} {v : Value} {xs : List En} (h : OwnE w base v xs) (hb : b0 ≤ base) : OwnE w b0 v xs := by
  refine ⟨h.1, ?_⟩
  rcases h.2 with h2 | ⟨g, cap, cur, h1, h2, h3⟩
  · exact .inl h2
  · exact .inr ⟨g, cap, cur, h1, Nat.le_trans hb h2, h3⟩
theorem OwnE.nil (w : World) (base : Nat) : OwnE w base (.slice none 0 0) [] := ⟨by simp [enC], .inl ⟨rfl, rfl⟩⟩
theorem OwnE.lit (w : World) (base : Nat) (xs : List En) (hb : base ≤ w.heap.size) (hm : xs.length ≤ 100) : OwnE (w.alloc (.cells (enC xs).toArray 183)) base (.slice (some ⟨w.heap.size, 0, none⟩) xs.length xs.length) xs := by
  have h := World.ownsRow_lit (base := base) (e := 183) (size := 4) w (enC xs).toArray xs.length hb (by simp only [maxLen]; omega) (by simp [enC_len])
  simpa [OwnE] using h
theorem OwnE.base {w : World} {base : Nat} {v : Value} {xs : List En} (h : OwnE w base v xs) (k : Nat) (hk : v.ownBlock = some k) : base ≤ k := by
  rcases h.2 with ⟨rfl, _⟩ | ⟨g, cap, cur, rfl, hb, _⟩
  · simp [Value.ownBlock] at hk
  · have : g = k := by simpa [Value.ownBlock] using hk
    omega
/-- The slice holds this row, wherever it lies (in blocks below B). -/
def HasE (w : World) (B : Nat) (v : Value) (xs : List En) : Prop := ∃ A c, v = .slice A xs.length c ∧ xs.length ≤ c ∧ (xs ≠ [] → ∃ b off, A = some ⟨b, off, none⟩ ∧ b < B ∧ ∀ i, (hi : i < xs.length) → w.cell? ⟨b, off + i * 4, none⟩ = some (.int .i64 (xs[i]).v.k) ∧ w.cell? ⟨b, off + i * 4 + 1, none⟩ = some (.int .i64 (xs[i]).v.n) ∧ w.cell? ⟨b, off + i * 4 + 2, none⟩ = some (.string (xs[i]).v.s) ∧ w.cell? ⟨b, off + i * 4 + 3, none⟩ = some (.int .i64 (xs[i]).n))
theorem HasE.opn {w : World} {B : Nat} {A : Option Addr} {n c : Nat} {xs : List En} (h : HasE w B (.slice A n c) xs) : n = xs.length ∧ xs.length ≤ c ∧ (xs ≠ [] → ∃ b off, A = some ⟨b, off, none⟩ ∧ b < B ∧ ∀ i, (hi : i < xs.length) → w.cell? ⟨b, off + i * 4, none⟩ = some (.int .i64 (xs[i]).v.k) ∧ w.cell? ⟨b, off + i * 4 + 1, none⟩ = some (.int .i64 (xs[i]).v.n) ∧ w.cell? ⟨b, off + i * 4 + 2, none⟩ = some (.string (xs[i]).v.s) ∧ w.cell? ⟨b, off + i * 4 + 3, none⟩ = some (.int .i64 (xs[i]).n)) := by
  obtain ⟨A', c', hv, hlc, hA⟩ := h
  injection hv with h1 h2 h3
  subst h1 h3
  exact ⟨h2, hlc, hA⟩
theorem HasE.below {w w1 : World} {B : Nat} {v : Value} {xs : List En} (h : HasE w B v xs) (hb : Below B w w1) : HasE w1 B v xs := by
  obtain ⟨A, c, hv, hlc, hc⟩ := h
  refine ⟨A, c, hv, hlc, fun hn => ?_⟩
  obtain ⟨b, off, hA, hlt, hcell⟩ := hc hn
  refine ⟨b, off, hA, hlt, fun i hi => ?_⟩
  obtain ⟨e0, e1, e2, e3⟩ := hcell i hi
  exact ⟨(World.cell?_of_block (hb.block b hlt)).trans e0, (World.cell?_of_block (hb.block b hlt)).trans e1, (World.cell?_of_block (hb.block b hlt)).trans e2, (World.cell?_of_block (hb.block b hlt)).trans e3⟩
theorem HasE.up {w : World} {B B' : Nat} {v : Value} {xs : List En} (h : HasE w B v xs) (hB : B ≤ B') : HasE w B' v xs := by
  obtain ⟨A, c, hv, hlc, hc⟩ := h
  refine ⟨A, c, hv, hlc, fun hn => ?_⟩
  obtain ⟨b, off, hA, hlt, hcell⟩ := hc hn
  exact ⟨b, off, hA, Nat.lt_of_lt_of_le hlt hB, hcell⟩
theorem HasE.nil (w : World) (B : Nat) : HasE w B (.slice none 0 0) [] := ⟨none, 0, rfl, Nat.le_refl _, fun h => absurd rfl h⟩
theorem OwnE.has {w : World} {base : Nat} {v : Value} {xs : List En} (h : OwnE w base v xs) : HasE w w.heap.size v xs := by
  rcases h.2 with ⟨rfl, hn⟩ | ⟨g, cap, cur, rfl, hb, hh, hc, hm, _⟩
  · rw [List.eq_nil_of_length_eq_zero hn]; exact HasE.nil w _
  · refine ⟨_, cap, rfl, hc, fun hn => ⟨g, 0, rfl, (Array.getElem?_eq_some_iff.1 hh).1, fun i hi => ?_⟩⟩
    obtain ⟨e0, e1, e2, e3⟩ := enC_at xs i hi
    refine ⟨?_, ?_, ?_, ?_⟩
    · rw [Nat.zero_add, World.ownsRow.cellAt h (i * 4) (by omega), e0]
    · rw [Nat.zero_add, World.ownsRow.cellAt h (i * 4 + 1) (by omega), e1]
    · rw [Nat.zero_add, World.ownsRow.cellAt h (i * 4 + 2) (by omega), e2]
    · rw [Nat.zero_add, World.ownsRow.cellAt h (i * 4 + 3) (by omega), e3]
theorem HasE.read {w : World} {B : Nat} {A : Option Addr} {n c : Nat} {xs : List En} (h : HasE w B (.slice A n c) xs) : enC xs ≠ [] → ∃ ad, A = some ad ∧ ∀ j u, (enC xs)[j]? = some u → w.cell? (ad.add j) = some u := by
  intro hne
  obtain ⟨A', c', hv, _, hc⟩ := h
  injection hv with h1 h2 h3
  subst h1
  have hx : xs ≠ [] := by rintro rfl; exact hne rfl
  obtain ⟨b, off, rfl, hlt, hcell⟩ := hc hx
  refine ⟨_, rfl, fun j u hu => ?_⟩
  obtain ⟨i, hi, h⟩ := enC_cell xs j u hu
  obtain ⟨e0, e1, e2, e3⟩ := hcell i hi
  rw [Addr.add_lit]
  rcases h with ⟨rfl, rfl⟩ | ⟨rfl, rfl⟩ | ⟨rfl, rfl⟩ | ⟨rfl, rfl⟩
  · exact e0
  · rw [← Nat.add_assoc]; exact e1
  · rw [← Nat.add_assoc]; exact e2
  · rw [← Nat.add_assoc]; exact e3
end Go.Proofs.YtnidaahimofppaaGreat

/- Layer 26 (tally), plain: values in order, each with its copies; what a put does; what is put in can be taken out. -/
namespace Go.Proofs.YtnidaahimofppaaGreat
set_option linter.unusedVariables false
set_option linter.unusedSimpArgs false

/-- How many things stand ahead of q. -/
def posE (es : List En) (q : Vr) : Nat := es.countP fun e => decide (e.k < vcode q)
theorem posE_le (es : List En) (q : Vr) : posE es q ≤ es.length := List.countP_le_length
/-- Is q among them? (Looked at where it would stand.) -/
def isE (es : List En) (q : Vr) : Bool := if h : posE es q < es.length then decide (es[posE es q].k = vcode q) else false
def ofE (es : List En) (q : Vr) : Int := if h : posE es q < es.length then (if es[posE es q].k = vcode q then es[posE es q].n else 0) else 0
def cntE (es : List En) : Int := (es.map En.n).sum
/-- Where q stands, or would: what is ahead, these ones, what is behind. -/
def midE (es : List En) (q : Vr) (m : List En) (d : Nat) : List En := es.take (posE es q) ++ m ++ es.drop (posE es q + d)
def putL (es : List En) (q : Vr) (n : Int) : List En :=
  if n = 0 then es
  else if isE es q = true then (if ofE es q + n = 0 then midE es q [] 1 else midE es q [⟨q, ofE es q + n⟩] 1)
  else midE es q [⟨q, n⟩] 0
def putE (es : List En) (q : Vr) (n : Int) : Int × List En :=
  if n > 1048576 ∨ n < -1048576 then (2, es)
  else if ofE es q + n < 0 then (20, es)
  else if cntE es + n > 1048576 then (7, es)
  else (0, putL es q n)
def nthL : List En → Int → Vr × Bool
  | [], _ => (⟨0, 0, ⟨#[]⟩⟩, false)
  | e :: r, i => if i < e.n then (e.v, true) else nthL r (i - e.n)
def nthE (es : List En) (i : Int) : Vr × Bool := if i < 0 then (⟨0, 0, ⟨#[]⟩⟩, false) else nthL es i
/-- It may be. -/
def okV (x : Vr) : Prop := mayV x.va = true ∧ x.n ≤ 9223372036854775807
/-- In order, each with copies, not too many. -/
structure GoodE (es : List En) : Prop where
  inc : es.Pairwise fun a b => a.k < b.k
  pos : ∀ e ∈ es, 1 ≤ e.n
  cnt : cntE es ≤ 1048576
  ok : ∀ e ∈ es, okV e.v
theorem cntE_app (a b : List En) : cntE (a ++ b) = cntE a + cntE b := by simp [cntE]
theorem cntE_cons (e : En) (r : List En) : cntE (e :: r) = e.n + cntE r := by simp [cntE]
theorem cntE_nil : cntE [] = 0 := rfl
theorem len_le_cnt (es : List En) (h : ∀ e ∈ es, 1 ≤ e.n) : (es.length : Int) ≤ cntE es := by
  induction es with
  | nil => simp [cntE]
  | cons e r ih =>
    rw [cntE_cons]
    have h1 := h e (by simp)
    have h2 := ih (fun x hx => h x (by simp [hx]))
    rw [List.length_cons]
    omega
theorem GoodE.len {es : List En} (h : GoodE es) : es.length ≤ 1048576 := by
  have := len_le_cnt es h.pos
  have := h.cnt
  omega
theorem GoodE.nil : GoodE [] := ⟨List.Pairwise.nil, by simp, by simp [cntE], by simp⟩
/-- A of things ahead of q, C of things that are not. -/
theorem posE_split (A C : List En) (q : Vr) (hA : ∀ e ∈ A, e.k < vcode q) (hC : ∀ e ∈ C, vcode q ≤ e.k) : posE (A ++ C) q = A.length := by
  unfold posE
  rw [List.countP_append, List.countP_eq_length.2 (fun e he => by simpa using hA e he), List.countP_eq_zero.2 (fun e he => by simpa using hC e he)]
  rfl
/-- Each list in order parts so. -/
theorem split_at (es : List En) (q : Vr) (h : es.Pairwise fun a b => a.k < b.k) : ∃ A C, es = A ++ C ∧ (∀ e ∈ A, e.k < vcode q) ∧ (∀ e ∈ C, vcode q ≤ e.k) := by
  induction es with
  | nil => exact ⟨[], [], rfl, by simp, by simp⟩
  | cons e r ih =>
    have hp := List.pairwise_cons.1 h
    by_cases c : e.k < vcode q
    · obtain ⟨A, C, rfl, hA, hC⟩ := ih hp.2
      refine ⟨e :: A, C, rfl, ?_, hC⟩
      intro x hx
      rcases List.mem_cons.1 hx with rfl | hx
      · exact c
      · exact hA x hx
    · refine ⟨[], e :: r, rfl, by simp, ?_⟩
      intro x hx
      rcases List.mem_cons.1 hx with rfl | hx
      · omega
      · have := hp.1 x hx
        omega
section
variable {A C : List En} {q : Vr} (hA : ∀ e ∈ A, e.k < vcode q)
theorem midE_split (hA : ∀ e ∈ A, e.k < vcode q) (hC : ∀ e ∈ C, vcode q ≤ e.k) (m : List En) (d : Nat) : midE (A ++ C) q m d = A ++ m ++ C.drop d := by
  unfold midE
  rw [posE_split A C q hA hC, List.take_left, List.drop_append]
  simp
/-- q is not there. -/
theorem of_not (hA : ∀ e ∈ A, e.k < vcode q) (hC : ∀ e ∈ C, vcode q < e.k) : isE (A ++ C) q = false ∧ ofE (A ++ C) q = 0 := by
  have hp := posE_split A C q hA (fun e he => by have := hC e he; omega)
  unfold isE ofE
  rw [hp]
  cases C with
  | nil => simp
  | cons c r =>
    have h1 := hC c (by simp)
    have h2 : (A ++ c :: r)[A.length]'(by simp) = c := by simp
    simp only [List.length_append, List.length_cons]
    rw [dif_pos (by omega), dif_pos (by omega)]
    simp only [h2]
    have : c.k ≠ vcode q := by omega
    simp [this]
/-- q is there. -/
theorem of_yes (hA : ∀ e ∈ A, e.k < vcode q) (n : Int) (C : List En) (hC : ∀ e ∈ C, vcode q < e.k) : isE (A ++ ⟨q, n⟩ :: C) q = true ∧ ofE (A ++ ⟨q, n⟩ :: C) q = n := by
  have hp := posE_split A (⟨q, n⟩ :: C) q hA (fun e he => by
    rcases List.mem_cons.1 he with rfl | he
    · exact Int.le_refl _
    · have := hC e he; omega)
  unfold isE ofE
  rw [hp]
  have h2 : (A ++ (⟨q, n⟩ : En) :: C)[A.length]'(by simp) = ⟨q, n⟩ := by simp
  simp only [List.length_append, List.length_cons]
  rw [dif_pos (by omega), dif_pos (by omega)]
  simp only [h2]
  simp [En.k]
end
/-- The two cases of a list in order: q is there, or it is not. -/
theorem cases_at (es : List En) (q : Vr) (hok : okV q) (h : GoodE es) :
    (∃ A C, es = A ++ C ∧ (∀ e ∈ A, e.k < vcode q) ∧ (∀ e ∈ C, vcode q < e.k)) ∨ (∃ A n C, es = A ++ ⟨q, n⟩ :: C ∧ 1 ≤ n ∧ (∀ e ∈ A, e.k < vcode q) ∧ (∀ e ∈ C, vcode q < e.k)) := by
  obtain ⟨A, C, rfl, hA, hC⟩ := split_at es q h.inc
  cases C with
  | nil => exact .inl ⟨A, [], rfl, hA, by simp⟩
  | cons c r =>
    have hp := List.pairwise_append.1 h.inc
    have hr := (List.pairwise_cons.1 hp.2.1).1
    have h1 := hC c (by simp)
    by_cases e : c.k = vcode q
    · refine .inr ⟨A, c.n, r, by rw [← vcode_inj c.v q (h.ok c (by simp)).1 hok.1 (h.ok c (by simp)).2 hok.2 e], h.pos c (by simp), hA, ?_⟩
      intro x hx
      have := hr x hx
      omega
    · refine .inl ⟨A, c :: r, rfl, hA, ?_⟩
      intro x hx
      rcases List.mem_cons.1 hx with rfl | hx
      · omega
      · have := hr x hx; omega
theorem ofE_nonneg (es : List En) (q : Vr) (hok : okV q) (h : GoodE es) : 0 ≤ ofE es q := by
  rcases cases_at es q hok h with ⟨A, C, rfl, hA, hC⟩ | ⟨A, n, C, rfl, hn, hA, hC⟩
  · rw [(of_not hA hC).2]; omega
  · rw [(of_yes hA n C hC).2]; omega
theorem cnt_nonneg (es : List En) (h : GoodE es) : 0 ≤ cntE es := by have := len_le_cnt es h.pos; omega
theorem ofE_le (es : List En) (q : Vr) (hok : okV q) (h : GoodE es) : ofE es q ≤ 1048576 := by
  have hc := h.cnt
  rcases cases_at es q hok h with ⟨A, C, rfl, hA, hC⟩ | ⟨A, n, C, rfl, hn, hA, hC⟩
  · rw [(of_not hA hC).2]; omega
  · rw [(of_yes hA n C hC).2]
    rw [cntE_app, cntE_cons] at hc
    simp only at hc
    have h1 := len_le_cnt A (fun e he => h.pos e (by simp [he]))
    have h2 := len_le_cnt C (fun e he => h.pos e (by simp [he]))
    omega
theorem le_of_lt' {q : Vr} {C : List En} (h : ∀ e ∈ C, vcode q < e.k) : ∀ e ∈ C, vcode q ≤ e.k := fun e he => by have := h e he; omega
theorem le_cons {q : Vr} {n : Int} {C : List En} (h : ∀ e ∈ C, vcode q < e.k) : ∀ e ∈ (⟨q, n⟩ : En) :: C, vcode q ≤ e.k := fun e he => by
  rcases List.mem_cons.1 he with rfl | he
  · exact Int.le_refl _
  · have := h e he; omega
/-- q is not there: what a put makes. -/
theorem putL_not {A C : List En} {q : Vr} (hA : ∀ e ∈ A, e.k < vcode q) (hC : ∀ e ∈ C, vcode q < e.k) (n : Int) (hn : n ≠ 0) : putL (A ++ C) q n = A ++ ⟨q, n⟩ :: C := by
  unfold putL
  rw [if_neg hn, (of_not hA hC).1, if_neg (by simp), midE_split hA (le_of_lt' hC)]
  simp
theorem putL_yes {A C : List En} {q : Vr} {m : Int} (hA : ∀ e ∈ A, e.k < vcode q) (hC : ∀ e ∈ C, vcode q < e.k) (n : Int) (hn : n ≠ 0) : putL (A ++ ⟨q, m⟩ :: C) q n = if m + n = 0 then A ++ C else A ++ ⟨q, m + n⟩ :: C := by
  unfold putL
  rw [if_neg hn, (of_yes hA m C hC).1, if_pos rfl, (of_yes hA m C hC).2]
  split
  · rw [midE_split hA (le_cons hC)]; simp
  · rw [midE_split hA (le_cons hC)]; simp
theorem pairs_app {A C : List En} {q : Vr} (hA : ∀ e ∈ A, e.k < vcode q) (hC : ∀ e ∈ C, vcode q < e.k) (h1 : A.Pairwise fun a b => a.k < b.k) (h2 : C.Pairwise fun a b => a.k < b.k) : (A ++ C).Pairwise fun a b => a.k < b.k :=
  List.pairwise_append.2 ⟨h1, h2, fun a ha b hb => by have := hA a ha; have := hC b hb; omega⟩
theorem pairs_mid {A C : List En} {q : Vr} {n : Int} (hA : ∀ e ∈ A, e.k < vcode q) (hC : ∀ e ∈ C, vcode q < e.k) (h1 : A.Pairwise fun a b => a.k < b.k) (h2 : C.Pairwise fun a b => a.k < b.k) : (A ++ ⟨q, n⟩ :: C).Pairwise fun a b => a.k < b.k :=
  List.pairwise_append.2 ⟨h1, List.pairwise_cons.2 ⟨fun b hb => hC b hb, h2⟩, fun a ha b hb => by
    have := hA a ha
    rcases List.mem_cons.1 hb with rfl | hb
    · exact this
    · have := hC b hb; omega⟩
/-- What a put makes, and how many copies there are then. -/
theorem putL_good (es : List En) (q : Vr) (hok : okV q) (n : Int) (h : GoodE es) (h1 : 0 ≤ ofE es q + n) (h2 : cntE es + n ≤ 1048576) : GoodE (putL es q n) ∧ cntE (putL es q n) = cntE es + n := by
  by_cases hn : n = 0
  · have : putL es q n = es := by unfold putL; rw [if_pos hn]
    rw [this]
    exact ⟨h, by omega⟩
  · rcases cases_at es q hok h with ⟨A, C, rfl, hA, hC⟩ | ⟨A, m, C, rfl, hm, hA, hC⟩
    · rw [(of_not hA hC).2] at h1
      rw [putL_not hA hC n hn]
      have hp := List.pairwise_append.1 h.inc
      have hc : cntE (A ++ (⟨q, n⟩ : En) :: C) = cntE (A ++ C) + n := by simp only [cntE_app, cntE_cons]; omega
      refine ⟨⟨pairs_mid hA hC hp.1 hp.2.1, ?_, by omega, (by intro e he; simp only [List.mem_append, List.mem_cons] at he; rcases he with he | rfl | he; exact h.ok e (by simp [he]); exact hok; exact h.ok e (by simp [he]))⟩, hc⟩
      intro e he
      simp only [List.mem_append, List.mem_cons] at he
      rcases he with he | rfl | he
      · exact h.pos e (by simp [he])
      · show 1 ≤ n; omega
      · exact h.pos e (by simp [he])
    · rw [(of_yes hA m C hC).2] at h1
      rw [putL_yes hA hC n hn]
      have hp := List.pairwise_append.1 h.inc
      have hq := (List.pairwise_cons.1 hp.2.1).2
      split
      · rename_i h0
        have hc : cntE (A ++ C) = cntE (A ++ (⟨q, m⟩ : En) :: C) + n := by simp only [cntE_app, cntE_cons]; omega
        refine ⟨⟨pairs_app hA hC hp.1 hq, ?_, by omega, (by intro e he; simp only [List.mem_append] at he; rcases he with he | he; exact h.ok e (by simp [he]); exact h.ok e (by simp [he]))⟩, hc⟩
        intro e he
        simp only [List.mem_append] at he
        rcases he with he | he
        · exact h.pos e (by simp [he])
        · exact h.pos e (by simp [he])
      · rename_i h0
        have hc : cntE (A ++ (⟨q, m + n⟩ : En) :: C) = cntE (A ++ (⟨q, m⟩ : En) :: C) + n := by simp only [cntE_app, cntE_cons]; omega
        refine ⟨⟨pairs_mid hA hC hp.1 hq, ?_, by omega, (by intro e he; simp only [List.mem_append, List.mem_cons] at he; rcases he with he | rfl | he; exact h.ok e (by simp [he]); exact hok; exact h.ok e (by simp [he]))⟩, hc⟩
        intro e he
        simp only [List.mem_append, List.mem_cons] at he
        rcases he with he | rfl | he
        · exact h.pos e (by simp [he])
        · show 1 ≤ m + n; omega
        · exact h.pos e (by simp [he])
theorem putE_good (es : List En) (q : Vr) (hok : okV q) (n : Int) (h : GoodE es) : GoodE (putE es q n).2 := by
  unfold putE
  split
  · exact h
  · split
    · exact h
    · split
      · exact h
      · exact (putL_good es q hok n h (by omega) (by omega)).1
/-- WHAT WAS PUT IN CAN BE TAKEN OUT AGAIN. -/
theorem putE_undo (es : List En) (q : Vr) (hok : okV q) (n : Int) (h : GoodE es) (h0 : (putE es q n).1 = 0) : putE (putE es q n).2 q (-n) = (0, es) := by
  have hof := ofE_nonneg es q hok h
  have hcn := h.cnt
  unfold putE at h0 ⊢
  split at h0
  · simp at h0
  rename_i c1
  split at h0
  · simp at h0
  rename_i c2
  split at h0
  · simp at h0
  rename_i c3
  rw [if_neg c1, if_neg c2, if_neg c3]
  simp only
  have hg := putL_good es q hok n h (by omega) (by omega)
  rw [if_neg (by omega)]
  by_cases hn : n = 0
  · have hp : putL es q n = es := by unfold putL; rw [if_pos hn]
    have hq : putL es q (-n) = es := by unfold putL; rw [if_pos (by omega)]
    rw [hp, hq, if_neg (by omega), if_neg (by omega)]
  · rw [hg.2]
    rcases cases_at es q hok h with ⟨A, C, rfl, hA, hC⟩ | ⟨A, m, C, rfl, hm, hA, hC⟩
    · rw [putL_not hA hC n hn, (of_yes hA n C hC).2, if_neg (by omega), if_neg (by omega), putL_yes hA hC (-n) (by omega), if_pos (by omega)]
    · rw [putL_yes hA hC n hn]
      split
      · rename_i e0
        rw [(of_not hA hC).2, if_neg (by omega), if_neg (by omega), putL_not hA hC (-n) (by omega), show -n = m by omega]
      · rename_i e0
        rw [(of_yes hA (m + n) C hC).2, if_neg (by omega), if_neg (by omega), putL_yes hA hC (-n) (by omega), if_neg (by omega), show m + n + -n = m by omega]
end Go.Proofs.YtnidaahimofppaaGreat

/- Layer 5 (value): which values are ones, walked. -/
namespace Go.Proofs.YtnidaahimofppaaGreat
open Go.RowKit
set_option linter.unusedVariables false
set_option linter.unusedSimpArgs false

abbrev va (k n : Int) (s : ByteArray) : Value := .agg #[.int .i64 k, .int .i64 n, .string s]
theorem mayV_no {k n : Int} {s : ByteArray} (h : mayV ⟨k, n, tx s⟩ = false) (h1 : k = 1) : s.toList.isEmpty = false := by
  rw [isE_tx]
  simp only [mayV, h1, decide_true, Bool.true_and, Bool.or_eq_false_iff] at h
  exact h.1

set_option maxRecDepth 100000 in
theorem of_num (n : Int) (s : ByteArray) (h : tx s = []) (w : World) :
    Calls Tryz.prog 44 #[va 1 n s] w (fun e w' => e = .returned (.tuple #[.iface 122 (.int .i64 n), .bool true]) ∧ Below w.heap.size w w') := by
  have hE : s.toList.isEmpty = true := by rw [isE_tx, h]; rfl
  clear h
  go_enter Tryz.func44, Tryz.ntmps44
  go_wp2_with fail
  go_returns
  exact ⟨rfl, (Below.refl _ _).alloc (Nat.le_refl _) _⟩
set_option maxRecDepth 100000 in
theorem of_txt (s : ByteArray) (h : s.size ≤ 64) (w : World) :
    Calls Tryz.prog 44 #[va 2 0 s] w (fun e w' => e = .returned (.tuple #[.iface 126 (.string s), .bool true]) ∧ Below w.heap.size w w') := by
  have h' : (s.size : Int) ≤ 64 := by omega
  clear h
  go_enter Tryz.func44, Tryz.ntmps44
  go_wp2_with fail
  go_returns
  exact ⟨rfl, (Below.refl _ _).alloc (Nat.le_refl _) _⟩
set_option maxRecDepth 100000 in
theorem of_no (k n : Int) (s : ByteArray) (h : mayV ⟨k, n, tx s⟩ = false) (w : World) :
    Calls Tryz.prog 44 #[va k n s] w (fun e w' => e = .returned (.tuple #[.nilIface, .bool false]) ∧ Below w.heap.size w w') := by
  by_cases k1 : k = 1
  · have hE := mayV_no h k1
    subst k1
    clear h
    go_enter Tryz.func44, Tryz.ntmps44
    go_wp2_with fail
    go_returns
    exact ⟨rfl, (Below.refl _ _).alloc (Nat.le_refl _) _⟩
  · have b1 : (k == 1) = false := by simp [k1]
    by_cases k2 : k = 2
    · subst k2
      by_cases n0 : n = 0
      · subst n0
        have hs : ¬ ((s.size : Int) ≤ 64) := by
          simp only [mayV, tx_len] at h
          simp at h
          omega
        clear h
        go_enter Tryz.func44, Tryz.ntmps44
        go_wp2_with fail
        go_returns
        exact ⟨rfl, (Below.refl _ _).alloc (Nat.le_refl _) _⟩
      · have b0 : (n == 0) = false := by simp [n0]
        clear h
        go_enter Tryz.func44, Tryz.ntmps44
        go_wp2_with fail
        go_returns
        exact ⟨rfl, (Below.refl _ _).alloc (Nat.le_refl _) _⟩
    · have b2 : (k == 2) = false := by simp [k2]
      clear h
      go_enter Tryz.func44, Tryz.ntmps44
      go_wp2_with fail
      go_returns
      exact ⟨rfl, (Below.refl _ _).alloc (Nat.le_refl _) _⟩
end Go.Proofs.YtnidaahimofppaaGreat

/- Layer 5 (value): May, Num, Text and how values stand to each other, walked. -/
namespace Go.Proofs.YtnidaahimofppaaGreat
open Go.RowKit
set_option linter.unusedVariables false
set_option linter.unusedSimpArgs false

/-- What is a value is a number or a text. -/
theorem mayV_cases {k n : Int} {s : ByteArray} (h : mayV ⟨k, n, tx s⟩ = true) : (k = 1 ∧ tx s = []) ∨ (k = 2 ∧ n = 0 ∧ s.size ≤ 64) := by
  rw [mayV_iff] at h
  simp only [tx_len] at h
  exact h
set_option maxRecDepth 100000 in
theorem may_any (k n : Int) (s : ByteArray) (w : World) :
    Calls Tryz.prog 49 #[va k n s] w (fun e w' => e = .returned (.bool (mayV ⟨k, n, tx s⟩)) ∧ Below w.heap.size w w') := by
  cases hm : mayV ⟨k, n, tx s⟩ with
  | true =>
    rcases mayV_cases hm with ⟨rfl, h⟩ | ⟨rfl, rfl, h⟩
    · go_enter Tryz.func49, Tryz.ntmps49
      go_wp2_with (first | (go_at_call 44; refine (of_num n s h _).mono ?_; rintro e w1 ⟨rfl, hb1⟩))
      go_returns
      exact ⟨rfl, ((Below.refl _ _).alloc (Nat.le_refl _) _).trans (hb1.mono (by simp))⟩
    · go_enter Tryz.func49, Tryz.ntmps49
      go_wp2_with (first | (go_at_call 44; refine (of_txt s h _).mono ?_; rintro e w1 ⟨rfl, hb1⟩))
      go_returns
      exact ⟨rfl, ((Below.refl _ _).alloc (Nat.le_refl _) _).trans (hb1.mono (by simp))⟩
  | false =>
    go_enter Tryz.func49, Tryz.ntmps49
    go_wp2_with (first | (go_at_call 44; refine (of_no k n s hm _).mono ?_; rintro e w1 ⟨rfl, hb1⟩))
    go_returns
    exact ⟨rfl, ((Below.refl _ _).alloc (Nat.le_refl _) _).trans (hb1.mono (by simp))⟩
set_option maxRecDepth 100000 in
theorem rmay_any (k n : Int) (s : ByteArray) (w : World) :
    Calls Tryz.prog 51 #[va k n s] w (fun e w' => e = .returned (.bool (mayV ⟨k, n, tx s⟩)) ∧ Below w.heap.size w w') := by
  by_cases k1 : k = 1
  · subst k1
    have hm : Kept (mayV ⟨1, n, tx s⟩ = s.toList.isEmpty) := ⟨by rw [isE_tx]; simp [mayV]⟩
    go_enter Tryz.func51, Tryz.ntmps51
    go_wp2_with fail
    go_returns
    exact ⟨by rw [hm.out]; rfl, (Below.refl _ _).alloc (Nat.le_refl _) _⟩
  · have b1 : (k == 1) = false := by simp [k1]
    by_cases k2 : k = 2
    · subst k2
      by_cases n0 : n = 0
      · subst n0
        have hm : Kept (mayV ⟨2, 0, tx s⟩ = decide ((s.size : Int) ≤ 64)) := ⟨by simp [mayV, tx_len]; omega⟩
        go_enter Tryz.func51, Tryz.ntmps51
        go_wp2_with fail
        go_returns
        exact ⟨by rw [hm.out]; rfl, (Below.refl _ _).alloc (Nat.le_refl _) _⟩
      · have b0 : (n == 0) = false := by simp [n0]
        have hm : Kept (mayV ⟨2, n, tx s⟩ = false) := ⟨by simp [mayV, n0]⟩
        go_enter Tryz.func51, Tryz.ntmps51
        go_wp2_with fail
        go_returns
        exact ⟨by rw [hm.out]; rfl, (Below.refl _ _).alloc (Nat.le_refl _) _⟩
    · have b2 : (k == 2) = false := by simp [k2]
      have hm : Kept (mayV ⟨k, n, tx s⟩ = false) := ⟨by simp [mayV, k1, k2]⟩
      go_enter Tryz.func51, Tryz.ntmps51
      go_wp2_with fail
      go_returns
      exact ⟨by rw [hm.out]; rfl, (Below.refl _ _).alloc (Nat.le_refl _) _⟩
theorem num_any (n : Int) (w : World) :
    Calls Tryz.prog 85 #[.int .i64 n] w (fun e w' => e = .returned (va 1 n ⟨#[]⟩) ∧ Below w.heap.size w w') := by
  go_enter Tryz.func85, Tryz.ntmps85
  go_wp2_with fail
  go_returns
  exact ⟨rfl, (Below.refl _ _).alloc (Nat.le_refl _) _⟩
theorem rnum_any (n : Int) (w : World) :
    Calls Tryz.prog 36 #[.int .i64 n] w (fun e w' => e = .returned (va 1 n ⟨#[]⟩) ∧ Below w.heap.size w w') := by
  go_enter Tryz.func36, Tryz.ntmps36
  go_wp2_with fail
  go_returns
  exact ⟨rfl, (Below.refl _ _).alloc (Nat.le_refl _) _⟩
theorem nan_any (n : Int) (w : World) : Calls Tryz.prog 58 #[.int .i64 n] w (fun e w' => e = .returned (.bool false) ∧ w = w') := by
  go_enter Tryz.func58, Tryz.ntmps58
  go_wp2_with fail
  go_returns
  exact ⟨rfl, rfl⟩
theorem cmpI_any (x y : Int) (w : World) : Calls Tryz.prog 45 #[.int .i64 x, .int .i64 y] w (fun e w' => e = .returned (.int .i64 (cmpI x y)) ∧ w = w') := by
  have h1 : x < y → Kept (cmpI x y = -1) := fun h => ⟨by unfold cmpI; rw [if_pos h]⟩
  have h2 : ¬ x < y → y < x → Kept (cmpI x y = 1) := fun h h' => ⟨by unfold cmpI; rw [if_neg h, if_pos h']⟩
  have h3 : ¬ x < y → ¬ y < x → Kept (cmpI x y = 0) := fun h h' => ⟨by unfold cmpI; rw [if_neg h, if_neg h']⟩
  rcases Int.lt_trichotomy x y with c | c | c
  · have hv := h1 c
    clear h1 h2 h3
    go_enter Tryz.func45, Tryz.ntmps45
    go_wp2_with (first | (go_at_call 58; refine (nan_any _ _).mono ?_; rintro e w1 ⟨rfl, rfl⟩))
    go_returns
    exact ⟨by rw [hv.out]; rfl, rfl⟩
  · subst c
    have hv := h3 (by omega) (by omega)
    clear h1 h2 h3
    go_enter Tryz.func45, Tryz.ntmps45
    go_wp2_with (first | (go_at_call 58; refine (nan_any _ _).mono ?_; rintro e w1 ⟨rfl, rfl⟩))
    go_returns
    exact ⟨by rw [hv.out]; rfl, rfl⟩
  · have hv := h2 (by omega) c
    have c' : ¬ x < y := by omega
    clear h1 h2 h3
    go_enter Tryz.func45, Tryz.ntmps45
    go_wp2_with (first | (go_at_call 58; refine (nan_any _ _).mono ?_; rintro e w1 ⟨rfl, rfl⟩))
    go_returns
    exact ⟨by rw [hv.out]; rfl, rfl⟩
end Go.Proofs.YtnidaahimofppaaGreat

/- Layer 6 (row): rows in memory (three cells a value): made and appended to by the call itself, or read. -/
namespace Go.Proofs.YtnidaahimofppaaGreat
open Go.RowKit
set_option linter.unusedVariables false
set_option linter.unusedSimpArgs false

def valC (x : Vr) : List Value := [.int .i64 x.k, .int .i64 x.n, .string x.s]
def rowC (xs : List Vr) : List Value := xs.flatMap valC
theorem rowC_len (xs : List Vr) : (rowC xs).length = xs.length * 3 := by
  induction xs with
  | nil => rfl
  | cons x r ih => simp only [rowC, List.flatMap_cons, List.length_append, List.length_cons] at ih ⊢; rw [ih]; simp [valC]; omega
theorem rowC_app (xs ys : List Vr) : rowC (xs ++ ys) = rowC xs ++ rowC ys := by simp [rowC]
theorem rowC_one (x : Vr) : rowC [x] = valC x := by simp [rowC]
theorem rowC_at (xs : List Vr) (i : Nat) (hi : i < xs.length) : (rowC xs)[i * 3]? = some (.int .i64 (xs[i]).k) ∧ (rowC xs)[i * 3 + 1]? = some (.int .i64 (xs[i]).n) ∧ (rowC xs)[i * 3 + 2]? = some (.string (xs[i]).s) := by
  induction xs generalizing i with
  | nil => simp at hi
  | cons x r ih =>
    have e : rowC (x :: r) = .int .i64 x.k :: .int .i64 x.n :: .string x.s :: rowC r := rfl
    rw [e]
    cases i with
    | zero => simp
    | succ i =>
      have h := ih i (by simpa using hi)
      rw [show (i + 1) * 3 = i * 3 + 1 + 1 + 1 by omega]
      simpa using h
theorem rowC_cell (xs : List Vr) (j : Nat) (u : Value) (h : (rowC xs)[j]? = some u) : ∃ (i : Nat) (hi : i < xs.length), (j = i * 3 ∧ u = .int .i64 (xs[i]).k) ∨ (j = i * 3 + 1 ∧ u = .int .i64 (xs[i]).n) ∨ (j = i * 3 + 2 ∧ u = .string (xs[i]).s) := by
  have hj : j < xs.length * 3 := by rw [← rowC_len]; exact (List.getElem?_eq_some_iff.1 h).1
  have hi : j / 3 < xs.length := by omega
  obtain ⟨h0, h1, h2⟩ := rowC_at xs (j / 3) hi
  refine ⟨j / 3, hi, ?_⟩
  have hm : j % 3 = 0 ∨ j % 3 = 1 ∨ j % 3 = 2 := by omega
  rcases hm with hm | hm | hm
  · refine .inl ⟨by omega, ?_⟩
    rw [show j / 3 * 3 = j by omega, h] at h0
    injection h0
  · refine .inr (.inl ⟨by omega, ?_⟩)
    rw [show j / 3 * 3 + 1 = j by omega, h] at h1
    injection h1
  · refine .inr (.inr ⟨by omega, ?_⟩)
    rw [show j / 3 * 3 + 2 = j by omega, h] at h2
    injection h2
theorem rowC_cells1 (xs : List Vr) : ∀ u ∈ rowC xs, u.oneCell' = true := by
  intro u hu
  obtain ⟨j, hj⟩ := List.getElem?_of_mem hu
  obtain ⟨i, hi, h⟩ := rowC_cell xs j u hj
  rcases h with ⟨_, rfl⟩ | ⟨_, rfl⟩ | ⟨_, rfl⟩ <;> rfl
theorem infoV : (Tryz.prog.info? 68).map (fun i => (i.zero, i.size, i.bytes)) = some (some (.agg #[.int .i64 0, .int .i64 0, .string ⟨#[]⟩]), 3, 32) := by kernel_rfl
/-- The slice is the call's own and holds this row. -/
def OwnR (w : World) (base : Nat) (v : Value) (xs : List Vr) : Prop := w.ownsRow base 68 3 v xs.length (rowC xs)
theorem OwnR.below {w w1 : World} {base : Nat} {v : Value} {xs : List Vr} (h : OwnR w base v xs) (hb : Below w.heap.size w w1) : OwnR w1 base v xs := by
  refine ⟨h.1, ?_⟩
  rcases h.2 with h2 | ⟨g, cap, cur, h1, h2, h3, h4⟩
  · exact .inl h2
  · exact .inr ⟨g, cap, cur, h1, h2, by rw [hb.block g (Array.getElem?_eq_some_iff.1 h3).1]; exact h3, h4⟩
theorem OwnR.mono {w : World} {base b0 : Nat} {v : Value} {xs : List Vr} (h : OwnR w base v xs) (hb : b0 ≤ base) : OwnR w b0 v xs := by
  refine ⟨h.1, ?_⟩
  rcases h.2 with h2 | ⟨g, cap, cur, h1, h2, h3⟩
  · exact .inl h2
  · exact .inr ⟨g, cap, cur, h1, Nat.le_trans hb h2, h3⟩
theorem OwnR.nil (w : World) (base : Nat) : OwnR w base (.slice none 0 0) [] := ⟨by simp [rowC], .inl ⟨rfl, rfl⟩⟩
theorem OwnR.lit (w : World) (base : Nat) (xs : List Vr) (hb : base ≤ w.heap.size) (hm : xs.length ≤ 100) : OwnR (w.alloc (.cells (rowC xs).toArray 68)) base (.slice (some ⟨w.heap.size, 0, none⟩) xs.length xs.length) xs := by
  have h := World.ownsRow_lit (base := base) (e := 68) (size := 3) w (rowC xs).toArray xs.length hb (by simp only [maxLen]; omega) (by simp [rowC_len])
  simpa [OwnR] using h
theorem OwnR.base {w : World} {base : Nat} {v : Value} {xs : List Vr} (h : OwnR w base v xs) (k : Nat) (hk : v.ownBlock = some k) : base ≤ k := by
  rcases h.2 with ⟨rfl, _⟩ | ⟨g, cap, cur, rfl, hb, _⟩
  · simp [Value.ownBlock] at hk
  · have : g = k := by simpa [Value.ownBlock] using hk
    omega
/-- The slice holds this row, wherever it lies (in blocks below B). -/
def HasR (w : World) (B : Nat) (v : Value) (xs : List Vr) : Prop := ∃ A c, v = .slice A xs.length c ∧ xs.length ≤ c ∧ (xs ≠ [] → ∃ b off, A = some ⟨b, off, none⟩ ∧ b < B ∧ ∀ i, (hi : i < xs.length) → w.cell? ⟨b, off + i * 3, none⟩ = some (.int .i64 (xs[i]).k) ∧ w.cell? ⟨b, off + i * 3 + 1, none⟩ = some (.int .i64 (xs[i]).n) ∧ w.cell? ⟨b, off + i * 3 + 2, none⟩ = some (.string (xs[i]).s))
theorem HasR.opn {w : World} {B : Nat} {A : Option Addr} {n c : Nat} {xs : List Vr} (h : HasR w B (.slice A n c) xs) : n = xs.length ∧ xs.length ≤ c ∧ (xs ≠ [] → ∃ b off, A = some ⟨b, off, none⟩ ∧ b < B ∧ ∀ i, (hi : i < xs.length) → w.cell? ⟨b, off + i * 3, none⟩ = some (.int .i64 (xs[i]).k) ∧ w.cell? ⟨b, off + i * 3 + 1, none⟩ = some (.int .i64 (xs[i]).n) ∧ w.cell? ⟨b, off + i * 3 + 2, none⟩ = some (.string (xs[i]).s)) := by
  obtain ⟨A', c', hv, hlc, hA⟩ := h
  injection hv with h1 h2 h3
  subst h1 h3
  exact ⟨h2, hlc, hA⟩
theorem HasR.below {w w1 : World} {B : Nat} {v : Value} {xs : List Vr} (h : HasR w B v xs) (hb : Below B w w1) : HasR w1 B v xs := by
  obtain ⟨A, c, hv, hlc, hc⟩ := h
  refine ⟨A, c, hv, hlc, fun hn => ?_⟩
  obtain ⟨b, off, hA, hlt, hcell⟩ := hc hn
  refine ⟨b, off, hA, hlt, fun i hi => ?_⟩
  obtain ⟨e0, e1, e2⟩ := hcell i hi
  exact ⟨(World.cell?_of_block (hb.block b hlt)).trans e0, (World.cell?_of_block (hb.block b hlt)).trans e1, (World.cell?_of_block (hb.block b hlt)).trans e2⟩
theorem HasR.up {w : World} {B B' : Nat} {v : Value} {xs : List Vr} (h : HasR w B v xs) (hB : B ≤ B') : HasR w B' v xs := by
  obtain ⟨A, c, hv, hlc, hc⟩ := h
  refine ⟨A, c, hv, hlc, fun hn => ?_⟩
  obtain ⟨b, off, hA, hlt, hcell⟩ := hc hn
  exact ⟨b, off, hA, Nat.lt_of_lt_of_le hlt hB, hcell⟩
theorem HasR.nil (w : World) (B : Nat) : HasR w B (.slice none 0 0) [] := ⟨none, 0, rfl, Nat.le_refl _, fun h => absurd rfl h⟩
theorem OwnR.has {w : World} {base : Nat} {v : Value} {xs : List Vr} (h : OwnR w base v xs) : HasR w w.heap.size v xs := by
  rcases h.2 with ⟨rfl, hn⟩ | ⟨g, cap, cur, rfl, hb, hh, hc, hm, _⟩
  · rw [List.eq_nil_of_length_eq_zero hn]; exact HasR.nil w _
  · refine ⟨_, cap, rfl, hc, fun hn => ⟨g, 0, rfl, (Array.getElem?_eq_some_iff.1 hh).1, fun i hi => ?_⟩⟩
    obtain ⟨e0, e1, e2⟩ := rowC_at xs i hi
    refine ⟨?_, ?_, ?_⟩
    · rw [Nat.zero_add, World.ownsRow.cellAt h (i * 3) (by omega), e0]
    · rw [Nat.zero_add, World.ownsRow.cellAt h (i * 3 + 1) (by omega), e1]
    · rw [Nat.zero_add, World.ownsRow.cellAt h (i * 3 + 2) (by omega), e2]
theorem HasR.read {w : World} {B : Nat} {A : Option Addr} {n c : Nat} {xs : List Vr} (h : HasR w B (.slice A n c) xs) : rowC xs ≠ [] → ∃ ad, A = some ad ∧ ∀ j u, (rowC xs)[j]? = some u → w.cell? (ad.add j) = some u := by
  intro hne
  obtain ⟨A', c', hv, _, hc⟩ := h
  injection hv with h1 h2 h3
  subst h1
  have hx : xs ≠ [] := by rintro rfl; exact hne rfl
  obtain ⟨b, off, rfl, hlt, hcell⟩ := hc hx
  refine ⟨_, rfl, fun j u hu => ?_⟩
  obtain ⟨i, hi, h⟩ := rowC_cell xs j u hu
  obtain ⟨e0, e1, e2⟩ := hcell i hi
  rw [Addr.add_lit]
  rcases h with ⟨rfl, rfl⟩ | ⟨rfl, rfl⟩ | ⟨rfl, rfl⟩
  · exact e0
  · rw [← Nat.add_assoc]; exact e1
  · rw [← Nat.add_assoc]; exact e2
theorem three_new (W : World) (x y z : Value) (e : TypeId) (j : Nat) (u : Value) (hj : [x, y, z][j]? = some u) : (W.alloc (.cells #[x, y, z] e)).cell? ((⟨W.heap.size, 0, none⟩ : Addr).add j) = some u := by
  match j, hj with
  | 0, hj => simp at hj; subst hj; simp [Addr.add]
  | 1, hj => simp at hj; subst hj; simp [Addr.add]
  | 2, hj => simp at hj; subst hj; simp [Addr.add]
section
variable {ops : Array Oper} {rest : List Oper} {o : Oper} {a : Act} {Q : Exit → Act → World → Prop}
/-- append(v, x), x one value. -/
theorem app_val {w0 W : World} (hgd : o.guard = none) (s x : Operand) (t : TypeId)
    (ho : o.op = .call { callee := .builtin .append, args := #[s, x], argTypes := #[t, t] })
    (ht : Tryz.prog.underlying t = some (.slice 68))
    (v : Value) (xs : List Vr) (k n : Int) (y : ByteArray) (hs : a.eval s = v) (hx : a.eval x = .slice (some ⟨W.heap.size, 0, none⟩) 1 1)
    (HO : OwnR W w0.heap.size v xs) (HB : Below w0.heap.size w0 W) (hl : xs.length ≤ 100000)
    (h : ∀ v1 r d, OwnR (xw w0 r d) w0.heap.size v1 (xs ++ [⟨k, n, y⟩]) → (W.alloc (.cells #[.int .i64 k, .int .i64 n, .string y] 68)).grownBy (xw w0 r d) v.ownBlock → wpList Tryz.prog ops Q rest (a.put o.dst v1) (xw w0 r d)) :
    wpList Tryz.prog ops Q (o :: rest) a (W.alloc (.cells #[.int .i64 k, .int .i64 n, .string y] 68)) := by
  obtain ⟨i0, hi, hzz⟩ := Option.map_eq_some_iff.1 infoV
  simp only [Prod.mk.injEq] at hzz
  obtain ⟨hz0, hz1, hz2⟩ := hzz
  refine wpList_append_own_at (W.alloc (.cells #[.int .i64 k, .int .i64 n, .string y] 68)) hgd s x t ho w0.heap.size 68 i0 _ 3 32 ht hi hz0 hz1 hz2 (by rfl) (by omega) v xs.length (rowC xs) hs (OwnR.below HO ((Below.refl _ _).alloc (Nat.le_refl _) _)) ⟨W.heap.size, 0, none⟩ 1 1 [.int .i64 k, .int .i64 n, .string y] hx rfl
    (three_new W _ _ _ _) (by simp; exact ⟨rfl, rfl, rfl⟩) (by simp only [maxLen]; omega) (by omega) (by have := HB.size; simp; omega) ?_
  intro v1 w1 hown hg _ _
  obtain ⟨r, d, rfl⟩ := grown_xw (HB.alloc HB.size (.cells #[.int .i64 k, .int .i64 n, .string y] 68)) hg (OwnR.base HO)
  refine h v1 r d ?_ hg
  unfold OwnR
  rw [rowC_app, List.length_append]
  exact hown
set_option maxRecDepth 100000 in
/-- append(v, ys...), ys a row that is read; nil, too. -/
theorem app_vals {w0 W : World} (hgd : o.guard = none) (s x : Operand) (t : TypeId)
    (ho : o.op = .call { callee := .builtin .append, args := #[s, x], argTypes := #[t, t] })
    (ht : Tryz.prog.underlying t = some (.slice 68))
    (v : Value) (xs ys : List Vr) (A : Option Addr) (c : Nat) (hs : a.eval s = v) (hx : a.eval x = .slice A ys.length c)
    (hy : rowC ys ≠ [] → ∃ ad, A = some ad ∧ ∀ j u, (rowC ys)[j]? = some u → W.cell? (ad.add j) = some u)
    (HO : OwnR W w0.heap.size v xs) (HB : Below w0.heap.size w0 W) (hl : (xs.length + ys.length) * 32 ≤ 140737488355328)
    (h : ∀ v1 r d, OwnR (xw w0 r d) w0.heap.size v1 (xs ++ ys) → wpList Tryz.prog ops Q rest (a.put o.dst v1) (xw w0 r d)) :
    wpList Tryz.prog ops Q (o :: rest) a W := by
  obtain ⟨i0, hi, hzz⟩ := Option.map_eq_some_iff.1 infoV
  simp only [Prod.mk.injEq] at hzz
  obtain ⟨hz0, hz1, hz2⟩ := hzz
  have hrun : ∃ v1 w1, (Builtin.append_ #[t, t] o.type #[v, .slice A ys.length c]).run Tryz.prog W = .ok v1 w1 ∧ OwnR w1 w0.heap.size v1 (xs ++ ys) ∧ W.grownBy w1 v.ownBlock := by
    rcases A with _ | ad
    · have h0 : ys = [] := by
        cases ys with
        | nil => rfl
        | cons y r =>
          obtain ⟨ad, h, _⟩ := hy (by intro e; have := congrArg List.length e; rw [rowC_len] at this; simp at this)
          cases h
      subst h0
      refine ⟨v, W, ?_, by simpa using HO, World.grownBy.refl W _⟩
      rcases HO.2 with ⟨rfl, hn⟩ | ⟨g, cap, cur, rfl, _, _, hnc, _⟩
      · simp [Builtin.append_, run_underlying ht, sizeOf, typeInfo, hi, Builtin.lenOf, Builtin.firstCells]
      · simp [Builtin.append_, run_underlying ht, sizeOf, typeInfo, hi, Builtin.lenOf, Builtin.firstCells, hnc, storeCells]
    · have hc : ∀ j u, (rowC ys)[j]? = some u → W.cell? (ad.add j) = some u := by
        intro j u hu
        have hne : rowC ys ≠ [] := by intro e; rw [e] at hu; simp at hu
        obtain ⟨ad', h', hc⟩ := hy hne
        injection h' with h'
        subst h'
        exact hc j u hu
      obtain ⟨v1, w1, hr, h2, h3, _, h5⟩ := run_append_own_at (P := Tryz.prog) W w0.heap.size t o.type 68 i0 _ 3 32 ht hi hz0 hz1 hz2 (by rfl) (by omega) v xs.length (rowC xs) HO ad ys.length c (rowC ys) (by rw [rowC_len]) hc (rowC_cells1 ys) (by simp only [maxLen]; omega) hl HB.size
      exact ⟨v1, w1, hr, by unfold OwnR; rw [rowC_app, List.length_append]; exact h2, h3⟩
  obtain ⟨v1, w1, hr, hown, hg⟩ := hrun
  obtain ⟨r, d, rfl⟩ := grown_xw HB hg (OwnR.base HO)
  refine wpList_plain hgd fun K hK => ?_
  unfold Oper.wp execOp
  simp only [ho, resolve, invoke, builtin, Sem.run_bind, Sem.run_pure, Result.andThen_ok, List.map_toArray, List.map_cons, List.map_nil, hs, hx, hr]
  exact hK _ _ (h v1 r d hown)
end
end Go.Proofs.YtnidaahimofppaaGreat
