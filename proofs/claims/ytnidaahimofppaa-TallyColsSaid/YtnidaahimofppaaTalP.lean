/- Layer 26 (tally), plain words (no program in sight): aggregates, and their columns. -/
import Derived.Test.YtnidaahimofppaaSchB
namespace Go.Proofs.Ytnidaahimofppaa
set_option linter.unusedVariables false
set_option linter.unusedSimpArgs false

/-- The kind of the column at n (an aggregate is a Vr: its kind k, its column n, its name s). -/
def kAt (cs : List Cl) (n : Int) : Int := if h : n.toNat < cs.length then (cs[n.toNat]'h).k else 0
def colB (k : Int) : Bool := k != 1 && k != 7
def chkT (cs : List Cl) (a : Vr) : Int :=
  if a.k < 1 ∨ 7 < a.k ∨ nameN (tx a.s) = false then 2
  else if colB a.k = false then (if a.n = 0 then 0 else 2)
  else if a.n < 0 ∨ (cs.length : Int) ≤ a.n then 3
  else if a.k ≠ 3 ∧ a.k ≠ 4 ∧ kAt cs a.n ≠ 1 then 12 else 0
def colT (cs : List Cl) (a : Vr) : Cl := ⟨a.s, if a.k = 3 ∨ a.k = 4 then kAt cs a.n else 1⟩
def colsL (cs : List Cl) : List Cl → List Vr → List Cl × Int
  | out, [] => (out, 0)
  | out, a :: r => if chkT cs a ≠ 0 then ([], chkT cs a) else if 0 ≤ idx out a.s then ([], 9) else colsL cs (out ++ [colT cs a]) r
def colsV (cs : List Cl) (ags : List Vr) : List Cl × Int := if mayC cs = false then ([], 17) else if 8 < ags.length then ([], 6) else colsL cs [] ags
theorem colsV_no {cs : List Cl} {ags : List Vr} (h : mayC cs = false) : colsV cs ags = ([], 17) := if_pos h
theorem colsV_long {cs : List Cl} {ags : List Vr} (h : mayC cs = true) (h2 : 8 < ags.length) : colsV cs ags = ([], 6) := by
  unfold colsV
  rw [if_neg (by rw [h]; decide), if_pos h2]
theorem colsV_go {cs : List Cl} {ags : List Vr} (h : mayC cs = true) (h2 : ¬ 8 < ags.length) : colsV cs ags = colsL cs [] ags := by
  unfold colsV
  rw [if_neg (by rw [h]; decide), if_neg h2]
theorem colsL_at {cs : List Cl} {ags : List Vr} {out : List Cl} {i : Nat} (hi : i < ags.length) :
    colsL cs out (ags.drop i) = if chkT cs ags[i] ≠ 0 then ([], chkT cs ags[i]) else if 0 ≤ idx out ags[i].s then ([], 9) else colsL cs (out ++ [colT cs ags[i]]) (ags.drop (i + 1)) := by
  rw [List.drop_eq_getElem_cons hi]
  rfl
theorem colsL_end {cs : List Cl} {ags : List Vr} {out : List Cl} {i : Nat} (hi : ags.length ≤ i) : colsL cs out (ags.drop i) = (out, 0) := by
  rw [List.drop_eq_nil_of_le hi]
  rfl
/-- In a schema each column has one of two kinds. -/
theorem kAt_two {cs : List Cl} (h : mayC cs = true) {n : Int} (h0 : 0 ≤ n) (h1 : n < cs.length) : kAt cs n = 1 ∨ kAt cs n = 2 := by
  have hn : n.toNat < cs.length := by omega
  have ho := (mayC_iff.1 h).2 n.toNat hn
  unfold okAt at ho
  rw [dif_pos hn] at ho
  simp only [Bool.and_eq_true, kindB, Bool.or_eq_true, decide_eq_true_eq] at ho
  unfold kAt
  rw [dif_pos hn]
  exact ho.1.2
theorem chkT_bad {cs : List Cl} {a : Vr} (h : a.k < 1 ∨ 7 < a.k ∨ nameN (tx a.s) = false) : chkT cs a = 2 := if_pos h
theorem chkT_no {cs : List Cl} {a : Vr} (h1 : 1 ≤ a.k) (h2 : a.k ≤ 7) (h3 : nameN (tx a.s) = true) (h4 : colB a.k = false) : chkT cs a = if a.n = 0 then 0 else 2 := by
  unfold chkT
  rw [if_neg (by rw [h3]; simp; omega), if_pos h4]
theorem chkT_rng {cs : List Cl} {a : Vr} (h1 : 1 ≤ a.k) (h2 : a.k ≤ 7) (h3 : nameN (tx a.s) = true) (h4 : colB a.k = true) (h5 : a.n < 0 ∨ (cs.length : Int) ≤ a.n) : chkT cs a = 3 := by
  unfold chkT
  rw [if_neg (by rw [h3]; simp; omega), if_neg (by rw [h4]; decide), if_pos h5]
theorem chkT_kind {cs : List Cl} {a : Vr} (h1 : 1 ≤ a.k) (h2 : a.k ≤ 7) (h3 : nameN (tx a.s) = true) (h4 : colB a.k = true) (h5 : 0 ≤ a.n) (h6 : a.n < cs.length) : chkT cs a = if a.k ≠ 3 ∧ a.k ≠ 4 ∧ kAt cs a.n ≠ 1 then 12 else 0 := by
  unfold chkT
  rw [if_neg (by rw [h3]; simp; omega), if_neg (by rw [h4]; decide), if_neg (by omega)]
theorem colB_f {k : Int} : colB k = false ↔ k = 1 ∨ k = 7 := by simp only [colB, Bool.and_eq_false_iff, bne_eq_false_iff_eq]
theorem colB_t {k : Int} (h : colB k = true) : k ≠ 1 ∧ k ≠ 7 := by simpa only [colB, Bool.and_eq_true, bne_iff_ne] using h
theorem chkT_col {cs : List Cl} {a : Vr} (h : chkT cs a = 0) (hk : a.k = 3 ∨ a.k = 4) : 0 ≤ a.n ∧ a.n < cs.length := by
  unfold chkT at h
  split at h
  · simp at h
  · split at h
    · rename_i h2
      have := colB_f.1 h2
      omega
    · split at h
      · simp at h
      · omega
def TcI (cs : List Cl) (ags : List Vr) (i : Nat) (o : List Cl) : Prop := i ≤ ags.length ∧ o.length = i ∧ colsL cs [] ags = colsL cs o (ags.drop i)
theorem TcI.start (cs : List Cl) (ags : List Vr) : TcI cs ags 0 [] := ⟨Nat.zero_le _, rfl, rfl⟩
theorem TcI.bad {cs : List Cl} {ags : List Vr} {i : Nat} {o : List Cl} (h : TcI cs ags i o) (hi : i < ags.length) (hc : chkT cs ags[i] ≠ 0) : colsL cs [] ags = ([], chkT cs ags[i]) := by rw [h.2.2, colsL_at hi, if_pos hc]
theorem TcI.twice {cs : List Cl} {ags : List Vr} {i : Nat} {o : List Cl} (h : TcI cs ags i o) (hi : i < ags.length) (hc : chkT cs ags[i] = 0) (hx : 0 ≤ idx o ags[i].s) : colsL cs [] ags = ([], 9) := by rw [h.2.2, colsL_at hi, if_neg (by simp [hc]), if_pos hx]
theorem TcI.next {cs : List Cl} {ags : List Vr} {i : Nat} {o : List Cl} (h : TcI cs ags i o) (hi : i < ags.length) (hc : chkT cs ags[i] = 0) (hx : ¬ 0 ≤ idx o ags[i].s) : TcI cs ags (i + 1) (o ++ [colT cs ags[i]]) :=
  ⟨hi, by simp [h.2.1], by rw [h.2.2, colsL_at hi, if_neg (by simp [hc]), if_neg hx]⟩
theorem TcI.done {cs : List Cl} {ags : List Vr} {i : Nat} {o : List Cl} (h : TcI cs ags i o) (hi : ¬ i < ags.length) : colsL cs [] ags = (o, 0) := by rw [h.2.2, colsL_end (by omega)]
end Go.Proofs.Ytnidaahimofppaa
