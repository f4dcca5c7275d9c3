/- Layer 26 (tally): leans (sums of quarter turns), walked. -/
import Derived.Test.YtnidaahimofppaaGreatQpaa
import Derived.Test.YtnidaahimofppaaGreatQpbc
import Derived.WalkLawsBesides
import Derived.Laws.BitsLemmas
import Derived.Deep.DeepCutAuto
import Derived.Test.YtnidaahimofppaaGreatQpar
import Derived.StringKeys
namespace Go.Proofs.YtnidaahimofppaaGreat
open Go.RowKit
set_option linter.unusedVariables false
set_option linter.unusedSimpArgs false

theorem and3 (n : Int) : bits .and .i64 n 3 = n % 4 := by
  have h3 : (BitVec.ofInt 64 3).toNat = 2 ^ 2 - 1 := by decide
  have key : (BitVec.ofInt 64 n &&& BitVec.ofInt 64 3).toNat = (n % ((2 ^ 64 : Nat) : Int)).toNat % 2 ^ 2 := by
    rw [BitVec.toNat_and, BitVec.toNat_ofInt, h3, Nat.and_two_pow_sub_one_eq_mod]
  show IntKind.i64.wrap ((BitVec.ofInt 64 n &&& BitVec.ofInt 64 3).toNat : Nat) = n % 4
  rw [key, IntKind.wrap_i64]
  omega
/-- So many quarter turns on. -/
def spinZ : Nat → Int × Int → Int × Int
  | 0, z => z
  | k + 1, z => (-(spinZ k z).2, (spinZ k z).1)
theorem spinZ_lt (k : Nat) (z : Int × Int) (h1 : z.1.natAbs < 9007199254740992) (h2 : z.2.natAbs < 9007199254740992) : (spinZ k z).1.natAbs < 9007199254740992 ∧ (spinZ k z).2.natAbs < 9007199254740992 := by
  induction k with
  | zero => exact ⟨h1, h2⟩
  | succ k ih => exact ⟨by simp only [spinZ, Int.natAbs_neg]; exact ih.2, ih.1⟩
def SpI (w : World) (a b : Nat) (z : Int × Int) (m : Nat) (v0 v7 : Value) (wr : World) : Prop := ∃ (j re im : Nat), v0 = .complex .f64 re im ∧ v7 = .int .i64 (j : Int) ∧ wr = w ∧ Kept (j ≤ m ∧ FI re (spinZ j z).1 ∧ FI im (spinZ j z).2)
def SpP (w : World) (z : Int × Int) (e : Ending) (w' : World) : Prop := ∃ re im, e = .returned (.complex .f64 re im) ∧ FI re z.1 ∧ FI im z.2 ∧ w = w'
set_option maxRecDepth 100000 in
theorem spin_any (a b : Nat) (x y q : Int) (w : World) (ha : FI a x) (hb : FI b y) (hx : x.natAbs < 9007199254740992) (hy : y.natAbs < 9007199254740992) :
    Calls Tryz.prog 121 #[.complex .f64 a b, .int .i64 q] w (SpP w (spinZ (q % 4).toNat (x, y))) := by
  have hq := and3 q
  obtain ⟨m, hm⟩ : ∃ m : Nat, m = (q % 4).toNat := ⟨_, rfl⟩
  have hm4 : m ≤ 3 := by omega
  have hqm : q % 4 = (m : Int) := by omega
  rw [hqm] at hq
  rw [← hm]
  have HA := Kept.mk (And.intro ha hb)
  have HX := Kept.mk (And.intro hx hy)
  have HM := Kept.mk hm4
  clear ha hb hx hy hm hqm hm4
  go_enter Tryz.func121, Tryz.ntmps121
  go_wp2_with fail
  clear hq
  go_loopw [0, 7] (fun v0 v7 wr => SpI w a b (x, y) m v0 v7 wr) (fun v0 v7 wr => m - (intOf v7).toNat)
  case atStart => exact ⟨0, a, b, rfl, rfl, rfl, ⟨Nat.zero_le _, HA.out.1, HA.out.2⟩⟩
  case round =>
    obtain ⟨j, re, im, rfl, rfl, rfl, HI⟩ := hrel
    by_cases cj : j < m
    · have cj' : (j : Int) < (m : Int) := by omega
      have f0 : 0 ≤ (j : Int) := by omega
      have hw : wrap64 ((j : Int) + 1) = (j : Int) + 1 := by have := HM.out; simp only [wrap64]; omega
      have HCJ := Kept.mk cj
      obtain ⟨hl1, hl2⟩ := spinZ_lt j (x, y) HX.out.1 HX.out.2
      obtain ⟨re2, im2, hc, hr, hi⟩ := FI.turn HI.out.2.1 HI.out.2.2 hl1 hl2
      have HN : Kept (FI re2 (spinZ (j + 1) (x, y)).1 ∧ FI im2 (spinZ (j + 1) (x, y)).2) := ⟨hr, hi⟩
      have hmul := fun W : World => run_complex_mul (P := Tryz.prog) W 127 re im 0 4607182418800017408 re2 im2 hc
      clear hl1 hl2 hc hr hi cj
      go_wp2_with fail
      exact ⟨⟨j + 1, re2, im2, rfl, by first | rfl | (rw [hw]; rfl), rfl, ⟨HCJ.out, HN.out.1, HN.out.2⟩⟩, by first | exact less_step hw HCJ.out | exact less_bare' HCJ.out⟩
    · have hj : j = m := by have := HI.out.1; omega
      subst hj
      have cj' : ¬ ((j : Int) < (j : Int)) := by omega
      clear cj
      go_wp2_with fail
      go_returns
      exact ⟨_, _, rfl, HI.out.2.1, HI.out.2.2, rfl⟩
/-- Small enough. -/
def smZ (z : Int × Int) : Prop := z.1.natAbs ≤ 1125899906842624 ∧ z.2.natAbs ≤ 1125899906842624
theorem gt_far {b : Nat} {x : Int} (h : FI b x) (hx : x.natAbs ≤ 1125899906842624) : (FloatKind.f64.format.order b 4832362400168542208 == some .gt) = false := by
  rw [FI.order h FI.far]
  have : ¬ x > 1125899906842624 := by omega
  simp only [compare, compareOfLessAndEq]
  split
  · rfl
  · split
    · rfl
    · omega
theorem run_store_complex {P : Program} (w : World) (a : Addr) (k : FloatKind) (re im : Nat) (m : Mode) : (store a (.complex k re im) m).run P w = stored P w a (.complex k re im) m := run_store P w a _ m rfl
attribute [local go_sem] run_store_complex
theorem idx4 (W : World) (x0 x1 x2 x3 : Value) : (Instr.index 200 (.agg #[x0, x1, x2, x3]) (.int .i64 0)).run Tryz.prog W = .ok x0 W ∧ (Instr.index 200 (.agg #[x0, x1, x2, x3]) (.int .i64 1)).run Tryz.prog W = .ok x1 W ∧ (Instr.index 200 (.agg #[x0, x1, x2, x3]) (.int .i64 2)).run Tryz.prog W = .ok x2 W ∧ (Instr.index 200 (.agg #[x0, x1, x2, x3]) (.int .i64 3)).run Tryz.prog W = .ok x3 W := ⟨by kernel_rfl, by kernel_rfl, by kernel_rfl, by kernel_rfl⟩
def TkI (w : World) (v25 : Value) (wr : World) : Prop := ∃ j : Nat, v25 = .int .i64 (j : Int) ∧ wr = w ∧ Kept (j ≤ 4)
set_option maxRecDepth 100000 in
set_option maxHeartbeats 1000000 in
theorem ltake_any (g : Nat) (z u : Int × Int) (c d : Nat) (w : World) (h : LeanAt w g z) (hc : FI c u.1) (hd : FI d u.2) (hs : smZ (z.1 + u.1, z.2 + u.2)) :
    Calls Tryz.prog 120 #[.pointer (some ⟨g, 0, none⟩), .complex .f64 c d] w (fun e w' => e = .returned (.int .i64 0) ∧ LeanAt w' g (z.1 + u.1, z.2 + u.2) ∧ Chg [g] w w') := by
  obtain ⟨re, im, hb, hr, hi⟩ := h
  obtain ⟨e0, e1⟩ := box1 hb
  obtain ⟨re2, im2, hsum, hr2, hi2⟩ := FI.csum hr hi hc hd (by have := hs.1; simp only at this; omega) (by have := hs.2; simp only at this; omega)
  have hadd := fun W : World => run_complex_sum (P := Tryz.prog) W .add (.inl rfl) 127 .f64 re im c d re2 im2 hsum
  have q1 := gt_far hr2 hs.1
  have q2 := gt_far hi2 hs.2
  have q3 := gt_far hr2.neg (by rw [Int.natAbs_neg]; exact hs.1)
  have q4 := gt_far hi2.neg (by rw [Int.natAbs_neg]; exact hs.2)
  have HF : Kept (LeanAt (w.setCell ⟨g, 0, none⟩ (.complex .f64 re2 im2)) g (z.1 + u.1, z.2 + u.2)) := ⟨⟨re2, im2, heap_setCell_same w g 0 _ _ _ hb, hr2, hi2⟩⟩
  clear hb hr hi hc hd hs hsum hr2 hi2
  have hneg : ∀ (W : World) (b : Nat), (Op.unary .neg (.float .f64 b)).run Tryz.prog W = .ok (.float .f64 (Op.negFloat .f64 b)) W := fun _ _ => rfl
  have Q1 := Kept.mk (And.intro q1 q2)
  have Q2 := Kept.mk (And.intro q3 q4)
  clear q1 q2 q3 q4
  go_enter Tryz.func120, Tryz.ntmps120
  go_wp2_with fail
  generalize Op.negFloat .f64 re2 = nre at Q2 ⊢
  generalize Op.negFloat .f64 im2 = nim at Q2 ⊢
  clear hneg hadd
  go_loopw [25] (fun v25 wr => TkI w v25 wr) (fun v25 wr => 4 - (intOf v25).toNat)
  case atStart => exact ⟨0, rfl, rfl, ⟨by omega⟩⟩
  case round =>
    obtain ⟨j, rfl, rfl, HJ⟩ := hrel
    have h5 : j = 0 ∨ j = 1 ∨ j = 2 ∨ j = 3 ∨ j = 4 := by have := HJ.out; omega
    rcases h5 with rfl | rfl | rfl | rfl | rfl
    · have hi := fun W : World => idx4 W (.float .f64 re2) (.float .f64 im2) (.float .f64 nre) (.float .f64 nim) |>.1
      have q := Q1.out.1
      go_wp2_with fail
      exact ⟨⟨1, rfl, rfl, ⟨by omega⟩⟩, by simp [intOf]⟩
    · have hi := fun W : World => idx4 W (.float .f64 re2) (.float .f64 im2) (.float .f64 nre) (.float .f64 nim) |>.2.1
      have q := Q1.out.2
      go_wp2_with fail
      exact ⟨⟨2, rfl, rfl, ⟨by omega⟩⟩, by simp [intOf]⟩
    · have hi := fun W : World => idx4 W (.float .f64 re2) (.float .f64 im2) (.float .f64 nre) (.float .f64 nim) |>.2.2.1
      have q := Q2.out.1
      go_wp2_with fail
      exact ⟨⟨3, rfl, rfl, ⟨by omega⟩⟩, by simp [intOf]⟩
    · have hi := fun W : World => idx4 W (.float .f64 re2) (.float .f64 im2) (.float .f64 nre) (.float .f64 nim) |>.2.2.2
      have q := Q2.out.2
      go_wp2_with fail
      exact ⟨⟨4, rfl, rfl, ⟨by omega⟩⟩, by simp [intOf]⟩
    · go_wp2_with fail
      go_returns
      exact ⟨rfl, HF.out, chg_set _ g 0 _⟩
set_option maxRecDepth 100000 in
set_option maxHeartbeats 1000000 in
theorem lPut_any (g : Nat) (z : Int × Int) (v n : Int) (w : World) (h : LeanAt w g z) (h1 : n ≤ 1048576) (h2 : -1048576 ≤ n) (hs : smZ (z.1 + (spinZ (v % 4).toNat (n, 0)).1, z.2 + (spinZ (v % 4).toNat (n, 0)).2)) :
    Calls Tryz.prog 118 #[.pointer (some ⟨g, 0, none⟩), .int .i64 v, .int .i64 n] w (fun e w' => e = .returned (.int .i64 0) ∧ LeanAt w' g (z.1 + (spinZ (v % 4).toNat (n, 0)).1, z.2 + (spinZ (v % 4).toNat (n, 0)).2) ∧ Chg [g] w w') := by
  have HL := Kept.mk h
  have HS := Kept.mk hs
  have HN := Kept.mk (FI.ofInt n (by omega))
  have HNN : Kept (n.natAbs < 9007199254740992) := ⟨by omega⟩
  have c1 : ¬ 1048576 < n := by omega
  have c2 : ¬ n < -1048576 := by omega
  clear h hs h1 h2
  go_enter Tryz.func118, Tryz.ntmps118
  go_wp2_with (first
    | (go_at_call 121; refine (spin_any _ _ n 0 v w HN.out FI.zero HNN.out (by decide)).mono ?_; rintro e w1 ⟨re, im, rfl, hr, hi, rfl⟩; have HR := Kept.mk (And.intro hr hi); clear hr hi)
    | (go_at_call 120; refine (ltake_any g z _ _ _ _ HL.out HR.out.1 HR.out.2 HS.out).mono ?_; rintro e w2 ⟨rfl, hL2, hc2⟩))
  go_returns
  exact ⟨rfl, hL2, hc2⟩
theorem lparts_any (a b : Nat) (x y : Int) (w : World) (ha : FI a x) (hb : FI b y) (hx : x.natAbs ≤ 1125899906842624) (hy : y.natAbs ≤ 1125899906842624) :
    Calls Tryz.prog 122 #[.complex .f64 a b] w (fun e w' => e = .returned (.tuple #[.int .i64 x, .int .i64 y]) ∧ w = w') := by
  have h1 := fun W : World => run_convert_float_int (P := Tryz.prog) W 198 3 .f64 .i64 a x (by kernel_rfl) Tryz.underlying3 (ha.toInt (by omega) (by omega))
  have h2 := fun W : World => run_convert_float_int (P := Tryz.prog) W 198 3 .f64 .i64 b y (by kernel_rfl) Tryz.underlying3 (hb.toInt (by omega) (by omega))
  clear ha hb hx hy
  go_enter Tryz.func122, Tryz.ntmps122
  go_wp2_with fail
  go_returns
  exact ⟨rfl, rfl⟩
theorem lParts_any (g : Nat) (z : Int × Int) (w : World) (h : LeanAt w g z) (hs : smZ z) :
    Calls Tryz.prog 119 #[.pointer (some ⟨g, 0, none⟩)] w (fun e w' => e = .returned (.tuple #[.int .i64 z.1, .int .i64 z.2]) ∧ w = w') := by
  obtain ⟨re, im, hb, hr, hi⟩ := h
  obtain ⟨e0, e1⟩ := box1 hb
  have HR := Kept.mk (And.intro hr hi)
  have HS := Kept.mk hs
  clear hb hr hi hs
  go_enter Tryz.func119, Tryz.ntmps119
  go_wp2_with (first | (go_at_call 122; refine (lparts_any re im z.1 z.2 _ HR.out.1 HR.out.2 HS.out.1 HS.out.2).mono ?_; rintro e w1 ⟨rfl, rfl⟩))
  go_returns
  exact ⟨rfl, rfl⟩
end Go.Proofs.YtnidaahimofppaaGreat

/- Layer 26 (tally): what a put makes of a tally. -/
namespace Go.Proofs.YtnidaahimofppaaGreat
open Go.RowKit Go.Maps
set_option linter.unusedVariables false
set_option linter.unusedSimpArgs false

def keyR (r : List Vr) : List UInt8 := tx (strOfNums (bytesR r))
def updM (m : List UInt8 → Int) (k : List UInt8) (x : Int) : List UInt8 → Int := fun j => if j = k then x else m j
theorem MapIs.look {w : World} {b n : Nat} {m : List UInt8 → Int} (h : MapIs w b n m) : ∃ D : DataW Unit, w.ownsMap Tryz.prog 9 (plainElem Tryz.prog 3) b n D ∧ IsMap D ∧ ∀ k, D.atKey (.string k) (.lit (.int .i64 0)) = .lit (.int .i64 (m k)) := by
  obtain ⟨D, h1, h2⟩ := h
  refine ⟨D, h1, ?_, h2⟩
  obtain ⟨es, c, _, _, _, rfl⟩ := h1
  exact ⟨_, rfl⟩
theorem MapIs.put {w : World} {b n : Nat} {m : List UInt8 → Int} {D : DataW Unit} (hD : IsMap D) (h2 : ∀ k, D.atKey (.string k) (.lit (.int .i64 0)) = .lit (.int .i64 (m k))) (k : List UInt8) (x : Int) (h : w.ownsMap Tryz.prog 9 (plainElem Tryz.prog 3) b n (D.put (.string k) (.lit (.int .i64 x)))) : MapIs w b n (updM m k x) := by
  refine ⟨_, h, fun j => ?_⟩
  unfold updM
  by_cases e : j = k
  · subst e
    rw [if_pos rfl, atKey_put_same (k := Lit.string j) hD trivial]
  · rw [if_neg e, atKey_put_other (by intro h; injection h with h; exact e h)]
    exact h2 j
theorem MapIs.del {w : World} {b n : Nat} {m : List UInt8 → Int} {D : DataW Unit} (h2 : ∀ k, D.atKey (.string k) (.lit (.int .i64 0)) = .lit (.int .i64 (m k))) (k : List UInt8) (h : w.ownsMap Tryz.prog 9 (plainElem Tryz.prog 3) b n (D.del (.string k))) : MapIs w b n (updM m k 0) := by
  refine ⟨_, h, fun j => ?_⟩
  unfold updM
  by_cases e : j = k
  · subst e
    rw [if_pos rfl, atKey_del_same]
  · rw [if_neg e, atKey_del_other (by intro h; injection h with h; exact e h)]
    exact h2 j
theorem MapIs.mono {w : World} {b n n' : Nat} {m : List UInt8 → Int} (h : MapIs w b n m) (hn : n ≤ n') : MapIs w b n' m := by
  obtain ⟨D, h1, h2⟩ := h
  exact ⟨D, h1.mono hn, h2⟩
/-- The value in column c. -/
def valAt (r : List Vr) (c : Int) : Vr := r.getD c.toNat ⟨0, 0, ⟨#[]⟩⟩
def ptPut (x : Vr) (n : Int) : Pt → Pt
  | .cnt c => .cnt (c + n)
  | .tot T => .tot (T + x.n * n)
  | .ext last es => .ext last (putE es x n).2
  | .sid north z => .sid north (z.1 + (spinZ (x.n % 4).toNat (n, 0)).1, z.2 + (spinZ (x.n % 4).toNat (n, 0)).2)
  | .sta => .sta
/-- After M puts. -/
def okPt (M : Nat) : Pt → Prop
  | .cnt c => -((M : Int) * 1048576) ≤ c ∧ c ≤ (M : Int) * 1048576
  | .tot T => -((M : Int) * 9671406556917033397649408) ≤ T ∧ T ≤ (M : Int) * 9671406556917033397649408
  | .sid _ z => (-((M : Int) * 1048576) ≤ z.1 ∧ z.1 ≤ (M : Int) * 1048576) ∧ (-((M : Int) * 1048576) ≤ z.2 ∧ z.2 ≤ (M : Int) * 1048576)
  | _ => True
theorem spin_le (k : Nat) (n : Int) (h1 : n ≤ 1048576) (h2 : -1048576 ≤ n) : (-1048576 ≤ (spinZ k (n, 0)).1 ∧ (spinZ k (n, 0)).1 ≤ 1048576) ∧ (-1048576 ≤ (spinZ k (n, 0)).2 ∧ (spinZ k (n, 0)).2 ≤ 1048576) := by
  induction k with
  | zero => simp only [spinZ]; omega
  | succ k ih => simp only [spinZ]; omega
theorem mul_small {m n : Int} (hm : okH m) (h1 : n ≤ 1048576) (h2 : -1048576 ≤ n) : -9671406556917033397649408 ≤ m * n ∧ m * n ≤ 9671406556917033397649408 := by
  have h := Int.natAbs_mul m n
  have ha : m.natAbs ≤ 9223372036854775808 := by unfold okH at hm; omega
  have hb : n.natAbs ≤ 1048576 := by omega
  have hc := Nat.mul_le_mul ha hb
  rw [← h] at hc
  omega
theorem okPt_put {M : Nat} {p : Pt} (h : okPt M p) {x : Vr} {n : Int} (hx : okH x.n) (h1 : n ≤ 1048576) (h2 : -1048576 ≤ n) : okPt (M + 1) (ptPut x n p) := by
  have hm := mul_small hx h1 h2
  cases p with
  | cnt c => simp only [okPt, ptPut] at h ⊢; omega
  | tot T =>
    simp only [okPt, ptPut] at h ⊢
    generalize x.n * n = y at hm ⊢
    omega
  | ext _ _ => trivial
  | sid _ z =>
    have hs := spin_le (x.n % 4).toNat n h1 h2
    simp only [okPt, ptPut] at h ⊢
    generalize spinZ (x.n % 4).toNat (n, 0) = y at hs ⊢
    omega
  | sta => trivial
theorem okPt_up {M : Nat} {p : Pt} (h : okPt M p) : okPt (M + 1) p := by
  cases p with
  | cnt c => simp only [okPt] at h ⊢; omega
  | tot T => simp only [okPt] at h ⊢; omega
  | ext _ _ => trivial
  | sid _ z => simp only [okPt] at h ⊢; omega
  | sta => trivial
theorem okPt_sm {M : Nat} (hM : M ≤ 1000) {b : Bool} {z : Int × Int} (h : okPt M (.sid b z)) : smZ z := by
  simp only [okPt] at h
  unfold smZ
  omega
theorem okPt_inW {M : Nat} (hM : M ≤ 1000) {T : Int} (h : okPt M (.tot T)) : inW T := by
  simp only [okPt] at h
  unfold inW
  omega
/-- The parts behind a put. -/
def ptsPut (r : List Vr) (n : Int) (ags : List Vr) (ps : List Pt) : List Pt := List.zipWith (fun a p => ptPut (valAt r a.n) n p) ags ps
/-- The first i of them are done. -/
def mixP (r : List Vr) (n : Int) (ags : List Vr) (ps : List Pt) (i : Nat) : List Pt := (ptsPut r n ags ps).take i ++ ps.drop i
theorem mixP_0 (r : List Vr) (n : Int) (ags : List Vr) (ps : List Pt) : mixP r n ags ps 0 = ps := by simp [mixP]
theorem mixP_all {r : List Vr} {n : Int} {ags : List Vr} {ps : List Pt} (h : ags.length = ps.length) : mixP r n ags ps ps.length = ptsPut r n ags ps := by
  unfold mixP
  rw [List.drop_length, List.append_nil, List.take_of_length_le]
  simp [ptsPut, h]
theorem mixP_at {r : List Vr} {n : Int} {ags : List Vr} {ps : List Pt} (h : ags.length = ps.length) {i : Nat} (hi : i < ps.length) : (mixP r n ags ps i)[i]? = some ps[i] := by
  unfold mixP
  have hl : ((ptsPut r n ags ps).take i).length = i := by simp [ptsPut, h]; omega
  rw [List.getElem?_append_right (by omega), hl, Nat.sub_self, List.getElem?_drop]
  simp [hi]
theorem mixP_next {r : List Vr} {n : Int} {ags : List Vr} {ps : List Pt} (h : ags.length = ps.length) {i : Nat} (hi : i < ps.length) : mixP r n ags ps (i + 1) = (mixP r n ags ps i).set i (ptPut (valAt r (ags[i]'(by omega)).n) n ps[i]) := by
  unfold mixP
  have hl : ((ptsPut r n ags ps).take i).length = i := by simp [ptsPut, h]; omega
  have hz : i < (ptsPut r n ags ps).length := by simp [ptsPut, h]; omega
  rw [List.take_succ_eq_append_getElem hz, List.drop_eq_getElem_cons hi, List.set_append_right _ _ (by omega), hl, Nat.sub_self, List.set_cons_zero, List.append_assoc]
  congr 1
  simp [ptsPut]
theorem mixP_len {r : List Vr} {n : Int} {ags : List Vr} {ps : List Pt} (h : ags.length = ps.length) (i : Nat) (hi : i ≤ ps.length) : (mixP r n ags ps i).length = ps.length := by
  simp [mixP, ptsPut, h]
  omega
def errT (cs : List Cl) (m : List UInt8 → Int) (cnt : Int) (r : List Vr) (n : Int) : Int :=
  if fitsC cs r = false then 17 else if 1048576 < n ∨ n < -1048576 then 2 else if m (keyR r) + n < 0 then 20 else if 1048576 < cnt + n then 7 else 0
/-- A value in one part has changed. -/
theorem TalIn.upd {w w' : World} {B B1 g gm : Nat} {sv av pv : Value} {ts : List Trd} {cs : List Cl} {ags : List Vr} {m : List UInt8 → Int} {nm : Nat} {cnt : Int} (h : TalIn w B B1 g gm sv av pv ts cs ags m nm cnt)
    {i : Nat} (hi : i < ts.length) {v : Value} {f' : List Nat} {p' : Pt} (hv : v = ts[i].1) (hc : Chg ts[i].2.1 w w') (hp : PartAt w' f' v p') (hf : ∀ k ∈ f', k ∈ ts[i].2.1 ∨ w.heap.size ≤ k) :
    TalIn w' B B1 g gm sv av pv (ts.set i (v, f', p')) cs ags m nm cnt := by
  have hmem : ts[i] ∈ ts := List.getElem_mem hi
  have hB : B1 ≤ w.heap.size := by have := h.gB; have := h.lt; omega
  have hb : Below B1 w w' := hc.below hB (fun k hk => (h.parts _ hmem).2 k hk)
  have hdis : ∀ j, (hj : j < ts.length) → j ≠ i → ∀ k ∈ ts[j].2.1, k ∉ ts[i].2.1 := fun j hj hne k hk e => by
    rcases Nat.lt_or_gt_of_ne hne with h1 | h1
    · exact List.pairwise_iff_getElem.1 h.apart j i hj hi h1 k hk e
    · exact List.pairwise_iff_getElem.1 h.apart i j hi hj h1 k e hk
  refine ⟨h.base, h.svB, h.avB, h.gB, h.mB, by rw [hc.block g h.lt (fun e => (h.part_ne hmem e).2.1 rfl)]; exact h.box, h.sch.below hb, h.agg.below hb,
    h.map.keep (hc.block gm h.ltm (fun e => (h.part_ne hmem e).2.2.1 rfl)), ?_, ?_, ?_⟩
  · have e : (ts.set i (v, f', p')).map (·.1) = ts.map (·.1) := by
      rw [List.map_set]
      simp only [hv]
      rw [show ts[i].1 = (ts.map (·.1))[i]'(by simpa using hi) by simp, List.set_getElem_self]
    rw [e]
    exact h.row.keep (fun k hk => hc.block k (h.row_ne hk).1 (fun e => (h.part_ne hmem e).2.2.2 hk))
  · intro t ht
    obtain ⟨j, hj, rfl⟩ := List.getElem_of_mem ht
    rw [List.length_set] at hj
    rw [List.getElem_set]
    split
    · rename_i e
      subst e
      exact ⟨hp, fun k hk => (hf k hk).elim (fun e => (h.parts _ hmem).2 k e) (fun e => by omega)⟩
    · rename_i hne
      exact ⟨(h.parts _ (List.getElem_mem hj)).1.chg hc (fun k hk => hdis j hj (fun e => hne e.symm) k hk), (h.parts _ (List.getElem_mem hj)).2⟩
  · rw [List.pairwise_iff_getElem]
    intro a b ha hb' hab k hk e
    rw [List.length_set] at ha hb'
    rw [List.getElem_set] at hk e
    split at hk
    · rename_i h1
      subst h1
      rw [if_neg (by omega)] at e
      rcases hf k hk with h2 | h2
      · exact hdis b hb' (by omega) k e h2
      · have := (h.part_ne (List.getElem_mem hb') e).1
        omega
    · split at e
      · rename_i h1
        subst h1
        rcases hf k e with h2 | h2
        · exact hdis a ha (by omega) k hk h2
        · have := (h.part_ne (List.getElem_mem ha) hk).1
          omega
      · exact List.pairwise_iff_getElem.1 h.apart a b ha hb' hab k hk e
/-- The map has been written, or the count. -/
theorem TalIn.mapped {w w' : World} {B B1 g gm : Nat} {sv av pv : Value} {ts : List Trd} {cs : List Cl} {ags : List Vr} {m m' : List UInt8 → Int} {nm nm' : Nat} {cnt : Int} (h : TalIn w B B1 g gm sv av pv ts cs ags m nm cnt) (hg : w.grownBy w' (some gm)) (hm : MapIs w' gm nm' m') :
    TalIn w' B B1 g gm sv av pv ts cs ags m' nm' cnt := by
  have hc : Chg [gm] w w' := ⟨hg.os, hg.tape, hg.output, hg.size, fun k h1 h2 => hg.block k h1 (fun e => h2 (by injection e with e; simp [e]))⟩
  have hB : B1 ≤ w.heap.size := by have := h.gB; have := h.lt; omega
  have hb : Below B1 w w' := hc.below hB (fun k hk => by simp at hk; subst hk; exact h.mB)
  exact ⟨h.base, h.svB, h.avB, h.gB, h.mB, by rw [hc.block g h.lt (by simp; exact fun e => h.gm_ne e.symm)]; exact h.box, h.sch.below hb, h.agg.below hb, hm,
    h.row.keep (fun k hk => hc.block k (h.row_ne hk).1 (by simp; exact (h.row_ne hk).2.2)), fun t ht => ⟨(h.parts t ht).1.chg hc (fun k hk => by simp; exact (h.part_ne ht hk).2.2.1), (h.parts t ht).2⟩, h.apart⟩
theorem TalIn.counted {w : World} {B B1 g gm : Nat} {sv av pv : Value} {ts : List Trd} {cs : List Cl} {ags : List Vr} {m : List UInt8 → Int} {nm : Nat} {cnt : Int} (h : TalIn w B B1 g gm sv av pv ts cs ags m nm cnt) (c : Int) :
    TalIn (w.setCell ⟨g, 4, none⟩ (.int .i64 c)) B B1 g gm sv av pv ts cs ags m nm c := by
  have hc : Chg [g] w (w.setCell ⟨g, 4, none⟩ (.int .i64 c)) := chg_set w g 4 _
  have hB : B1 ≤ w.heap.size := by have := h.gB; have := h.lt; omega
  have hb : Below B1 w (w.setCell ⟨g, 4, none⟩ (.int .i64 c)) := hc.below hB (fun k hk => by simp at hk; subst hk; exact h.gB)
  exact ⟨h.base, h.svB, h.avB, h.gB, h.mB, heap_setCell_same w g 4 _ _ _ h.box, h.sch.below hb, h.agg.below hb, h.map.keep (hc.block gm h.ltm (by simp; exact h.gm_ne)),
    h.row.keep (fun k hk => hc.block k (h.row_ne hk).1 (by simp; exact (h.row_ne hk).2.1)), fun t ht => ⟨(h.parts t ht).1.chg hc (fun k hk => by simp; exact (h.part_ne ht hk).2.1), (h.parts t ht).2⟩, h.apart⟩
theorem fits_len {cs : List Cl} {r : List Vr} (h : fitsC cs r = true) : r.length = cs.length ∧ 1 ≤ cs.length ∧ cs.length ≤ 8 ∧ mayC cs = true := by
  simp only [fitsC, Bool.and_eq_true] at h
  refine ⟨?_, (mayC_iff.1 h.1.1).1.1, (mayC_iff.1 h.1.1).1.2, h.1.1⟩
  have h2 := h.2
  by_cases e : (cs.map Cl.k).length = (r.map Vr.k).length
  · simpa using e.symm
  · rw [kEq_len e] at h2
    cases h2
theorem fits_may {cs : List Cl} {r : List Vr} (h : fitsC cs r = true) (x : Vr) (hx : x ∈ r) : mayV x.va = true := by
  simp only [fitsC, Bool.and_eq_true] at h
  exact (mayR_iff.1 h.1.2).2 x hx
theorem valAt_mem {r : List Vr} {c : Int} (h0 : 0 ≤ c) (h1 : c < r.length) : valAt r c ∈ r := by
  obtain ⟨j, rfl⟩ := Int.eq_ofNat_of_zero_le h0
  have hjl : j < r.length := by omega
  have : valAt r ((j : Nat) : Int) = r[j] := by simp [valAt, hjl]
  rw [this]
  exact List.getElem_mem hjl
end Go.Proofs.YtnidaahimofppaaGreat

/- Layer 26 (tally), plain: keys of rows; copies of rows; what the aggregates of copies are. -/
namespace Go.Proofs.YtnidaahimofppaaGreat
open Go.RowKit
set_option linter.unusedVariables false
set_option linter.unusedSimpArgs false

-- TWO ROWS HAVE ONE KEY just if they are the same.
theorem enc_split (a b : Nat) (R S : List Int) (h : enc a ++ R = enc b ++ S) : a = b ∧ R = S := by
  induction a using Nat.strongRecOn generalizing b with
  | ind a ih =>
    by_cases ha : a < 128
    · rw [enc_low ha] at h
      by_cases hb : b < 128
      · rw [enc_low hb] at h
        simp only [List.cons_append, List.nil_append, List.cons.injEq] at h
        exact ⟨by omega, h.2⟩
      · rw [enc_high hb] at h
        simp only [List.cons_append, List.nil_append, List.cons.injEq] at h
        omega
    · rw [enc_high ha] at h
      by_cases hb : b < 128
      · rw [enc_low hb] at h
        simp only [List.cons_append, List.nil_append, List.cons.injEq] at h
        omega
      · rw [enc_high hb] at h
        simp only [List.cons_append, List.cons.injEq] at h
        obtain ⟨h1, h2⟩ := ih (a / 128) (by omega) (b / 128) h.2
        exact ⟨by omega, h2⟩
theorem bytesOf_back {s t : ByteArray} (h : bytesOf s = bytesOf t) : s = t := by
  have back : ∀ u : ByteArray, (bytesOf u).map (fun n => UInt8.ofNat n.toNat) = u.data.toList := fun u => by
    simp only [bytesOf, List.map_map]
    refine (List.map_congr_left (fun x _ => ?_)).trans (List.map_id _)
    simp
  have h1 := congrArg (List.map fun n : Int => UInt8.ofNat n.toNat) h
  rw [back, back] at h1
  obtain ⟨⟨l⟩⟩ := s
  obtain ⟨⟨m⟩⟩ := t
  simp only at h1
  rw [h1]
theorem bytesV_split {x y : Vr} (hx : mayV x.va = true) (hy : mayV y.va = true) {R S : List Int} (h : bytesV x.k x.n x.s ++ R = bytesV y.k y.n y.s ++ S) : x = y ∧ R = S := by
  obtain ⟨k, n, s⟩ := x
  obtain ⟨k2, n2, s2⟩ := y
  rcases mayV_cases (k := k) (n := n) (s := s) hx with ⟨rfl, h1⟩ | ⟨rfl, rfl, h1⟩ <;> rcases mayV_cases (k := k2) (n := n2) (s := s2) hy with ⟨rfl, h2⟩ | ⟨rfl, rfl, h2⟩
  · simp only at h
    rw [bytesV_num n s h1, bytesV_num n2 s2 h2] at h
    simp only [List.cons_append, List.cons.injEq, true_and] at h
    obtain ⟨e1, e2⟩ := enc_split _ _ _ _ h
    have e3 := congrArg unzig e1
    rw [unzig_zig, unzig_zig] at e3
    subst e3
    have e4 : s = s2 := tx_inj (by rw [h1, h2])
    subst e4
    exact ⟨rfl, e2⟩
  · simp only at h
    rw [bytesV_num n s h1, bytesV_txt s2 h2] at h
    simp at h
  · simp only at h
    rw [bytesV_num n2 s2 h2, bytesV_txt s h1] at h
    simp at h
  · simp only at h
    rw [bytesV_txt s h1, bytesV_txt s2 h2] at h
    simp only [List.cons_append, List.cons.injEq, true_and, textB, List.append_assoc] at h
    obtain ⟨e1, e2⟩ := enc_split _ _ _ _ h
    obtain ⟨e3, e4⟩ := List.append_inj e2 (by rw [bytesOf_len, bytesOf_len, e1])
    have e5 := bytesOf_back e3
    subst e5
    exact ⟨rfl, e4⟩
theorem catB_inj (xs ys : List Vr) (hl : xs.length = ys.length) (hx : ∀ x ∈ xs, mayV x.va = true) (hy : ∀ x ∈ ys, mayV x.va = true) (h : catB xs = catB ys) : xs = ys := by
  induction xs generalizing ys with
  | nil => cases ys with
    | nil => rfl
    | cons y b => simp at hl
  | cons x a ih =>
    cases ys with
    | nil => simp at hl
    | cons y b =>
      have h' : bytesV x.k x.n x.s ++ catB a = bytesV y.k y.n y.s ++ catB b := by simpa [catB] using h
      obtain ⟨rfl, h2⟩ := bytesV_split (hx x (by simp)) (hy y (by simp)) h'
      rw [ih b (by simpa using hl) (fun z hz => hx z (by simp [hz])) (fun z hz => hy z (by simp [hz])) h2]
theorem bytesR_inj (xs ys : List Vr) (hx : mayR xs = true) (hy : mayR ys = true) (h : bytesR xs = bytesR ys) : xs = ys := by
  unfold bytesR at h
  rw [if_pos hx, if_pos hy] at h
  injection h with h1 h2
  exact catB_inj xs ys (by omega) (mayR_iff.1 hx).2 (mayR_iff.1 hy).2 h2
theorem strOf_inj {a b : List Int} (ha : ∀ x ∈ a, 0 ≤ x ∧ x ≤ 255) (hb : ∀ x ∈ b, 0 ≤ x ∧ x ≤ 255) (h : strOfNums a = strOfNums b) : a = b := by
  have back : ∀ l : List Int, (∀ x ∈ l, 0 ≤ x ∧ x ≤ 255) → (l.map fun n => UInt8.ofNat n.toNat).map (fun u => (u.toNat : Int)) = l := by
    intro l hl
    rw [List.map_map]
    refine (List.map_congr_left (fun n hn => ?_)).trans (List.map_id _)
    have := hl n hn
    simp only [Function.comp, UInt8.toNat_ofNat']
    simp
    omega
  have h1 : (a.map fun n => UInt8.ofNat n.toNat) = b.map fun n => UInt8.ofNat n.toNat := congrArg (fun x : ByteArray => x.data.toList) h
  have h2 := congrArg (List.map (fun u : UInt8 => (u.toNat : Int))) h1
  rwa [back a ha, back b hb] at h2
theorem keyR_inj {cs : List Cl} {r q : List Vr} (hr : fitsC cs r = true) (hq : fitsC cs q = true) (h : keyR r = keyR q) : r = q := by
  simp only [fitsC, Bool.and_eq_true] at hr hq
  exact bytesR_inj r q hr.1.2 hq.1.2 (strOf_inj (bytesR_range r) (bytesR_range q) (tx_inj h))

-- COPIES
abbrev Cps := List (List Vr × Int)
/-- The sum of what f says of each copy. -/
def sumC (L : Cps) (f : List Vr → Int) : Int := (L.map fun c => c.2 * f c.1).sum
theorem sumC_nil (f : List Vr → Int) : sumC [] f = 0 := rfl
theorem sumC_cons (c : List Vr × Int) (L : Cps) (f : List Vr → Int) : sumC (c :: L) f = c.2 * f c.1 + sumC L f := by simp [sumC]
theorem sumC_app (L M : Cps) (f : List Vr → Int) : sumC (L ++ M) f = sumC L f + sumC M f := by simp [sumC]
/-- How often a row is there (the last one's number). -/
def hasC : Cps → List Vr → Int → Int
  | [], _, h => h
  | c :: L, r, h => hasC L r (if sameR c.1 r = true then c.2 else h)
def cutC (L : Cps) (r : List Vr) : Cps := L.filter fun c => !sameR c.1 r
def addC (L : Cps) (r : List Vr) (n : Int) : Cps := if hasC L r 0 + n > 0 then cutC L r ++ [(r, hasC L r 0 + n)] else cutC L r
/-- Rows that fit, each once, with copies. -/
structure GoodC (cs : List Cl) (L : Cps) : Prop where
  fit : ∀ c ∈ L, fitsC cs c.1 = true
  pos : ∀ c ∈ L, 1 ≤ c.2
  one : L.Pairwise fun a b => a.1 ≠ b.1
theorem GoodC.nil (cs : List Cl) : GoodC cs [] := ⟨by simp, by simp, List.Pairwise.nil⟩
theorem sameR_no {a b : List Vr} (h : a ≠ b) : sameR a b = false := by
  cases e : sameR a b with
  | false => rfl
  | true => exact absurd (sameR_iff.1 e) h
theorem hasC_none {L : Cps} {r : List Vr} (h : ∀ c ∈ L, c.1 ≠ r) (d : Int) : hasC L r d = d := by
  induction L generalizing d with
  | nil => rfl
  | cons c L ih =>
    rw [hasC, sameR_no (h c (by simp)), if_neg (by decide)]
    exact ih (fun x hx => h x (by simp [hx])) d
theorem cutC_none {L : Cps} {r : List Vr} (h : ∀ c ∈ L, c.1 ≠ r) : cutC L r = L := by
  unfold cutC
  rw [List.filter_eq_self]
  intro c hc
  simp [sameR_no (h c hc)]
/-- Either the row is not there, or it is there once. -/
theorem cases_C (L : Cps) (r : List Vr) (h : L.Pairwise fun a b => a.1 ≠ b.1) :
    (∀ c ∈ L, c.1 ≠ r) ∨ ∃ A m C, L = A ++ (r, m) :: C ∧ (∀ c ∈ A, c.1 ≠ r) ∧ (∀ c ∈ C, c.1 ≠ r) := by
  induction L with
  | nil => exact .inl (by simp)
  | cons c L ih =>
    have hp := List.pairwise_cons.1 h
    by_cases e : c.1 = r
    · subst e
      exact .inr ⟨[], c.2, L, rfl, by simp, fun x hx e => hp.1 x hx e.symm⟩
    · rcases ih hp.2 with h1 | ⟨A, m, C, rfl, hA, hC⟩
      · refine .inl fun x hx => ?_
        rcases List.mem_cons.1 hx with rfl | hx
        · exact e
        · exact h1 x hx
      · refine .inr ⟨c :: A, m, C, rfl, fun x hx => ?_, hC⟩
        rcases List.mem_cons.1 hx with rfl | hx
        · exact e
        · exact hA x hx
theorem hasC_app (A C : Cps) (r : List Vr) (d : Int) : hasC (A ++ C) r d = hasC C r (hasC A r d) := by
  induction A generalizing d with
  | nil => rfl
  | cons c A ih => rw [List.cons_append, hasC, ih, hasC]
theorem at_C {A C : Cps} {r : List Vr} {m : Int} (hA : ∀ c ∈ A, c.1 ≠ r) (hC : ∀ c ∈ C, c.1 ≠ r) : hasC (A ++ (r, m) :: C) r 0 = m ∧ cutC (A ++ (r, m) :: C) r = A ++ C := by
  constructor
  · rw [hasC_app, hasC, sameR_refl, if_pos rfl, hasC_none hC]
  · unfold cutC
    rw [List.filter_append, List.filter_cons]
    simp only [sameR_refl]
    have h1 := cutC_none hA
    have h2 := cutC_none hC
    unfold cutC at h1 h2
    rw [h1, h2]
    rfl
theorem has_nonneg {cs : List Cl} {L : Cps} (h : GoodC cs L) (r : List Vr) : 0 ≤ hasC L r 0 := by
  rcases cases_C L r h.one with h1 | ⟨A, m, C, rfl, hA, hC⟩
  · rw [hasC_none h1]; omega
  · rw [(at_C hA hC).1]
    have := h.pos (r, m) (by simp)
    simp only at this
    omega
theorem addC_good {cs : List Cl} {L : Cps} (h : GoodC cs L) {r : List Vr} (hr : fitsC cs r = true) (n : Int) : GoodC cs (addC L r n) := by
  have hcut : GoodC cs (cutC L r) := ⟨fun c hc => h.fit c (List.mem_filter.1 hc).1, fun c hc => h.pos c (List.mem_filter.1 hc).1, h.one.filter _⟩
  unfold addC
  split
  · rename_i hp
    refine ⟨fun c hc => ?_, fun c hc => ?_, ?_⟩
    · rcases List.mem_append.1 hc with hc | hc
      · exact hcut.fit c hc
      · simp at hc; subst hc; exact hr
    · rcases List.mem_append.1 hc with hc | hc
      · exact hcut.pos c hc
      · simp at hc; subst hc; show 1 ≤ hasC L r 0 + n; omega
    · refine List.pairwise_append.2 ⟨hcut.one, by simp, fun a ha b hb => ?_⟩
      simp at hb
      subst hb
      intro e
      have h2 := (List.mem_filter.1 ha).2
      rw [e, sameR_refl] at h2
      cases h2
  · exact hcut
theorem addC_sum {cs : List Cl} {L : Cps} (h : GoodC cs L) (r : List Vr) (n : Int) (h0 : 0 ≤ hasC L r 0 + n) (f : List Vr → Int) : sumC (addC L r n) f = sumC L f + n * f r := by
  have hz : ∀ M : Cps, sumC (if hasC L r 0 + n > 0 then M ++ [(r, hasC L r 0 + n)] else M) f = sumC M f + (hasC L r 0 + n) * f r := fun M => by
    split
    · simp only [sumC_app, sumC_cons, sumC_nil, Int.add_zero]
    · have : hasC L r 0 + n = 0 := by omega
      rw [this, Int.zero_mul, Int.add_zero]
  unfold addC
  rw [hz]
  rcases cases_C L r h.one with h1 | ⟨A, m, C, rfl, hA, hC⟩
  · rw [hasC_none h1, cutC_none h1, Int.zero_add]
  · rw [(at_C hA hC).1, (at_C hA hC).2, sumC_app, sumC_app, sumC_cons, Int.add_mul]
    simp only
    generalize m * f r = p
    generalize n * f r = q
    omega
/-- Are they one row? -/
def isR (r q : List Vr) : Int := if sameR q r = true then 1 else 0
theorem has_sum {cs : List Cl} {L : Cps} (h : GoodC cs L) (r : List Vr) : hasC L r 0 = sumC L (isR r) := by
  have hn : ∀ M : Cps, (∀ c ∈ M, c.1 ≠ r) → sumC M (isR r) = 0 := fun M hM => by
    induction M with
    | nil => rfl
    | cons c M ih =>
      rw [sumC_cons, ih (fun x hx => hM x (by simp [hx]))]
      unfold isR
      rw [sameR_no (hM c (by simp)), if_neg (by decide)]
      omega
  rcases cases_C L r h.one with h1 | ⟨A, m, C, rfl, hA, hC⟩
  · rw [hasC_none h1, hn L h1]
  · rw [(at_C hA hC).1, sumC_app, sumC_cons, hn A hA, hn C hC]
    simp only [isR, sameR_refl, if_true]
    omega
theorem sumC_nonneg {cs : List Cl} {L : Cps} (h : GoodC cs L) (f : List Vr → Int) (hf : ∀ r, 0 ≤ f r) : 0 ≤ sumC L f := by
  have : ∀ M : Cps, (∀ c ∈ M, 1 ≤ c.2) → 0 ≤ sumC M f := fun M hM => by
    induction M with
    | nil => simp [sumC]
    | cons c M ih =>
      rw [sumC_cons]
      have h1 := ih (fun x hx => hM x (by simp [hx]))
      have h2 := hM c (by simp)
      have h3 : 0 ≤ c.2 * f c.1 := Int.mul_nonneg (by omega) (hf _)
      omega
  exact this L h.pos
theorem sumC_mono {cs : List Cl} {L : Cps} (h : GoodC cs L) (f g : List Vr → Int) (hf : ∀ r, f r ≤ g r) : sumC L f ≤ sumC L g := by
  have : ∀ M : Cps, (∀ c ∈ M, 1 ≤ c.2) → sumC M f ≤ sumC M g := fun M hM => by
    induction M with
    | nil => simp [sumC]
    | cons c M ih =>
      rw [sumC_cons, sumC_cons]
      have h1 := ih (fun x hx => hM x (by simp [hx]))
      have h2 := hM c (by simp)
      have h3 : c.2 * f c.1 ≤ c.2 * g c.1 := Int.mul_le_mul_of_nonneg_left (hf _) (by omega)
      omega
  exact this L h.pos
def cntC (L : Cps) : Int := sumC L fun _ => 1
/-- Is the value in column c this one? -/
def isV (c : Int) (x : Vr) (r : List Vr) : Int := if (valAt r c).eqb x = true then 1 else 0
def spE (x : Int) : Int × Int := spinZ (x % 4).toNat (1, 0)
theorem spin_mul (k : Nat) (n : Int) : spinZ k (n, 0) = (n * (spinZ k (1, 0)).1, n * (spinZ k (1, 0)).2) := by
  induction k with
  | zero => simp [spinZ]
  | succ k ih =>
    simp only [spinZ]
    rw [ih]
    simp [Int.mul_neg]
/-- What a part of such copies is. -/
def ptIs (a : Vr) (L : Cps) : Pt → Prop
  | .cnt c => a.k = 1 ∧ c = cntC L
  | .tot T => a.k = 2 ∧ T = sumC L fun r => (valAt r a.n).n
  | .ext last es => ((a.k = 3 ∧ last = false) ∨ (a.k = 4 ∧ last = true)) ∧ GoodE es ∧ cntE es = cntC L ∧ ∀ x, okV x → ofE es x = sumC L (isV a.n x)
  | .sid north z => ((a.k = 5 ∧ north = false) ∨ (a.k = 6 ∧ north = true)) ∧ z.1 = sumC L (fun r => (spE (valAt r a.n).n).1) ∧ z.2 = sumC L (fun r => (spE (valAt r a.n).n).2)
  | .sta => a.k = 7
theorem ofE_nil (x : Vr) : ofE [] x = 0 := by unfold ofE; rw [dif_neg (by simp)]
theorem ptIs_new (a : Vr) (h0 : 1 ≤ a.k) (h1 : a.k ≤ 7) : ptIs a [] (ptOf a.k) := by
  unfold ptOf
  split
  · exact ⟨by assumption, rfl⟩
  split
  · exact ⟨by assumption, rfl⟩
  split
  · rename_i h
    refine ⟨?_, GoodE.nil, rfl, fun x _ => ofE_nil x⟩
    rcases h with h | h
    · exact .inl ⟨h, by rw [h]; rfl⟩
    · exact .inr ⟨h, by rw [h]; rfl⟩
  split
  · rename_i h
    refine ⟨?_, rfl, rfl⟩
    rcases h with h | h
    · exact .inl ⟨h, by rw [h]; rfl⟩
    · exact .inr ⟨h, by rw [h]; rfl⟩
  · show a.k = 7
    omega
/-- What a put makes of a number of copies. -/
theorem ofE_put (es : List En) (q : Vr) (hok : okV q) (n : Int) (h : GoodE es) (h1 : 0 ≤ ofE es q + n) (h2 : cntE es + n ≤ 1048576) (x : Vr) (hx : okV x) : ofE (putL es q n) x = ofE es x + n * (if q.eqb x = true then 1 else 0) := by
  by_cases hn : n = 0
  · have : putL es q n = es := by unfold putL; rw [if_pos hn]
    rw [this, hn]
    omega
  · have hg := (putL_good es q hok n h h1 h2).1
    by_cases e : q = x
    · subst e
      rw [Vr.eqb_refl, if_pos rfl]
      rcases cases_at es q hok h with ⟨A, C, rfl, hA, hC⟩ | ⟨A, m, C, rfl, hm, hA, hC⟩
      · rw [putL_not hA hC n hn, (of_yes hA n C hC).2, (of_not hA hC).2]; omega
      · rw [putL_yes hA hC n hn, (of_yes hA m C hC).2]
        split
        · rw [(of_not hA hC).2]; omega
        · rw [(of_yes hA (m + n) C hC).2]; omega
    · have he : q.eqb x = false := by
        cases e2 : q.eqb x with
        | false => rfl
        | true => exact absurd (Vr.eqb_iff.1 e2) e
      rw [he, if_neg (by decide), Int.mul_zero, Int.add_zero]
      have hne : vcode q ≠ vcode x := fun e2 => e (vcode_inj q x hok.1 hx.1 hok.2 hx.2 e2)
      -- x is there or not, before and behind, as it was
      have key : ∀ M : List En, GoodE M → ofE M x = (M.map fun e => if e.k = vcode x then e.n else 0).sum := fun M hM => by
        have hz : ∀ D : List En, (∀ e ∈ D, e.k ≠ vcode x) → (D.map fun e => if e.k = vcode x then e.n else 0).sum = 0 := fun D hD => by
          induction D with
          | nil => rfl
          | cons d D ih =>
            rw [List.map_cons, List.sum_cons, ih (fun y hy => hD y (by simp [hy])), if_neg (hD d (by simp))]
            rfl
        rcases cases_at M x hx hM with ⟨A, C, rfl, hA, hC⟩ | ⟨A, m, C, rfl, hm, hA, hC⟩
        · rw [(of_not hA hC).2, hz]
          intro e he
          rcases List.mem_append.1 he with he | he
          · have := hA e he; omega
          · have := hC e he; omega
        · rw [(of_yes hA m C hC).2, List.map_append, List.sum_append, List.map_cons, List.sum_cons, hz A (fun e he => by have := hA e he; omega), hz C (fun e he => by have := hC e he; omega), if_pos (show En.k ⟨x, m⟩ = vcode x from rfl)]
          simp only
          omega
      rw [key _ hg, key _ h]
      rcases cases_at es q hok h with ⟨A, C, rfl, hA, hC⟩ | ⟨A, m, C, rfl, hm, hA, hC⟩
      · rw [putL_not hA hC n hn]
        simp only [List.map_append, List.sum_append, List.map_cons, List.sum_cons]
        rw [if_neg (show ¬ (En.k ⟨q, n⟩ = vcode x) from hne)]
        omega
      · rw [putL_yes hA hC n hn]
        split
        · simp only [List.map_append, List.sum_append, List.map_cons, List.sum_cons]
          rw [if_neg (show ¬ (En.k ⟨q, m⟩ = vcode x) from hne)]
          omega
        · simp only [List.map_append, List.sum_append, List.map_cons, List.sum_cons]
          rw [if_neg (show ¬ (En.k ⟨q, m⟩ = vcode x) from hne), if_neg (show ¬ (En.k ⟨q, m + n⟩ = vcode x) from hne)]
theorem isV_range (c : Int) (x : Vr) (r : List Vr) : 0 ≤ isV c x r ∧ isV c x r ≤ 1 := by
  unfold isV
  split <;> omega
/-- A put into copies, a put into a part. -/
theorem ptIs_put {cs : List Cl} {a : Vr} {L : Cps} {p : Pt} (h : ptIs a L p) (hL : GoodC cs L) (r : List Vr) (n : Int) (hx : okV (valAt r a.n)) (h1 : n ≤ 1048576) (h2 : -1048576 ≤ n) (h0 : 0 ≤ hasC L r 0 + n) (hf : cntC L + n ≤ 1048576) :
    ptIs a (addC L r n) (ptPut (valAt r a.n) n p) := by
  have hs := addC_sum hL r n h0
  cases p with
  | cnt c =>
    refine ⟨h.1, ?_⟩
    show c + n = cntC _
    unfold cntC
    rw [hs, h.2]
    unfold cntC
    omega
  | tot T =>
    refine ⟨h.1, ?_⟩
    show T + (valAt r a.n).n * n = _
    rw [hs, h.2, Int.mul_comm]
  | ext last es =>
    obtain ⟨hk, hg, hc, ho⟩ := h
    have hof : 0 ≤ ofE es (valAt r a.n) + n := by
      rw [ho _ hx]
      have e1 : hasC L r 0 ≤ sumC L (isV a.n (valAt r a.n)) := by
        rw [has_sum hL]
        refine sumC_mono hL _ _ (fun q => ?_)
        unfold isR
        split
        · rename_i e
          rw [sameR_iff.1 e]
          unfold isV
          rw [Vr.eqb_refl, if_pos rfl]
          omega
        · exact (isV_range _ _ _).1
      omega
    have he : putE es (valAt r a.n) n = (0, putL es (valAt r a.n) n) := by
      unfold putE
      rw [if_neg (by omega), if_neg (by omega), if_neg (by omega)]
    have hpg := putL_good es _ hx n hg hof (by omega)
    show ptIs a (addC L r n) (.ext last (putE es (valAt r a.n) n).2)
    rw [he]
    refine ⟨hk, hpg.1, ?_, fun x hxx => ?_⟩
    · rw [hpg.2, hc]
      unfold cntC
      rw [hs]
      omega
    · rw [ofE_put es _ hx n hg hof (by omega) x hxx, hs, ho x hxx]
      rfl
  | sid north z =>
    obtain ⟨hk, hz1, hz2⟩ := h
    refine ⟨hk, ?_, ?_⟩
    · show z.1 + (spinZ _ (n, 0)).1 = _
      rw [hs, hz1, spin_mul]
      rfl
    · show z.2 + (spinZ _ (n, 0)).2 = _
      rw [hs, hz2, spin_mul]
      rfl
  | sta => exact h
/-- Two lists in order that say the same of each value are one. -/
theorem ofE_ext (es fs : List En) (h1 : GoodE es) (h2 : GoodE fs) (h : ∀ x, okV x → ofE es x = ofE fs x) : es = fs := by
  have mem : ∀ (M : List En), GoodE M → ∀ e ∈ M, ofE M e.v = e.n := fun M hM e he => by
    obtain ⟨A, C, rfl⟩ := List.append_of_mem he
    have hp := List.pairwise_append.1 hM.inc
    exact (of_yes (q := e.v) (fun y hy => hp.2.2 y hy e (by simp)) e.n C (fun y hy => (List.pairwise_cons.1 hp.2.1).1 y hy)).2
  have sub : ∀ (M K : List En), GoodE M → GoodE K → (∀ x, okV x → ofE M x = ofE K x) → ∀ e ∈ M, e ∈ K := fun M K hM hK hMK e he => by
    have e1 := mem M hM e he
    have e2 := hM.pos e he
    have hok := hM.ok e he
    rw [hMK _ hok] at e1
    rcases cases_at K e.v hok hK with ⟨A, C, rfl, hA, hC⟩ | ⟨A, m, C, rfl, hm, hA, hC⟩
    · rw [(of_not hA hC).2] at e1; omega
    · rw [(of_yes hA m C hC).2] at e1
      subst e1
      simp
  have hs : ∀ (M K : List En), M.Pairwise (fun a b => a.k < b.k) → K.Pairwise (fun a b => a.k < b.k) → (∀ e ∈ M, e ∈ K) → (∀ e ∈ K, e ∈ M) → M = K := fun M => by
    induction M with
    | nil =>
      intro K _ _ _ h4
      cases K with
      | nil => rfl
      | cons k K => exact absurd (h4 k (by simp)) (by simp)
    | cons m M ih =>
      intro K hM hK h3 h4
      cases K with
      | nil => exact absurd (h3 m (by simp)) (by simp)
      | cons k K =>
        have pm := List.pairwise_cons.1 hM
        have pk := List.pairwise_cons.1 hK
        have e : m = k := by
          rcases List.mem_cons.1 (h3 m (by simp)) with e | e
          · exact e
          · rcases List.mem_cons.1 (h4 k (by simp)) with e2 | e2
            · exact e2.symm
            · have := pk.1 m e
              have := pm.1 k e2
              omega
        subst e
        rw [ih K pm.2 pk.2 (fun x hx => ?_) (fun x hx => ?_)]
        · rcases List.mem_cons.1 (h3 x (by simp [hx])) with e | e
          · subst e; have := pm.1 x hx; omega
          · exact e
        · rcases List.mem_cons.1 (h4 x (by simp [hx])) with e | e
          · subst e; have := pk.1 x hx; omega
          · exact e
  exact hs es fs h1.inc h2.inc (sub es fs h1 h2 h) (sub fs es h2 h1 fun x hx => (h x hx).symm)
/-- What has the same sums is the same. -/
theorem ptIs_one {a : Vr} {L M : Cps} {p q : Pt} (hp : ptIs a L p) (hq : ptIs a M q) (hs : ∀ f, sumC L f = sumC M f) : p = q := by
  cases p with
  | cnt c =>
    cases q with
    | cnt d => rw [hp.2, hq.2]; unfold cntC; rw [hs]
    | tot T => have h1 := hp.1; have h2 := hq.1; omega
    | ext l es => have h1 := hp.1; have h2 := hq.1; omega
    | sid b z => have h1 := hp.1; have h2 := hq.1; omega
    | sta => have h1 := hp.1; have h2 : a.k = 7 := hq; omega
  | tot T =>
    cases q with
    | tot d => rw [hp.2, hq.2, hs]
    | cnt T => have h1 := hp.1; have h2 := hq.1; omega
    | ext l es => have h1 := hp.1; have h2 := hq.1; omega
    | sid b z => have h1 := hp.1; have h2 := hq.1; omega
    | sta => have h1 := hp.1; have h2 : a.k = 7 := hq; omega
  | ext l es =>
    cases q with
    | ext l2 fs =>
      have he := ofE_ext es fs hp.2.1 hq.2.1 (fun x hx => by rw [hp.2.2.2 x hx, hq.2.2.2 x hx, hs])
      have hl : l = l2 := by
        rcases hp.1 with ⟨h1, h2⟩ | ⟨h1, h2⟩ <;> rcases hq.1 with ⟨h3, h4⟩ | ⟨h3, h4⟩
        · rw [h2, h4]
        · omega
        · omega
        · rw [h2, h4]
      rw [he, hl]
    | cnt T => have h1 := hp.1; have h2 := hq.1; omega
    | tot T => have h1 := hp.1; have h2 := hq.1; omega
    | sid b z => have h1 := hp.1; have h2 := hq.1; omega
    | sta => have h1 := hp.1; have h2 : a.k = 7 := hq; omega
  | sid b z =>
    cases q with
    | sid b2 z2 =>
      have hl : b = b2 := by
        rcases hp.1 with ⟨h1, h2⟩ | ⟨h1, h2⟩ <;> rcases hq.1 with ⟨h3, h4⟩ | ⟨h3, h4⟩
        · rw [h2, h4]
        · omega
        · omega
        · rw [h2, h4]
      have e1 : z.1 = z2.1 := by rw [hp.2.1, hq.2.1, hs]
      have e2 : z.2 = z2.2 := by rw [hp.2.2, hq.2.2, hs]
      rw [hl, show z = z2 from Prod.ext e1 e2]
    | cnt T => have h1 := hp.1; have h2 := hq.1; omega
    | tot T => have h1 := hp.1; have h2 := hq.1; omega
    | ext l es => have h1 := hp.1; have h2 := hq.1; omega
    | sta => have h1 := hp.1; have h2 : a.k = 7 := hq; omega
  | sta =>
    cases q with
    | sta => rfl
    | cnt T => have h1 : a.k = 7 := hp; have h2 := hq.1; omega
    | tot T => have h1 : a.k = 7 := hp; have h2 := hq.1; omega
    | ext l es => have h1 : a.k = 7 := hp; have h2 := hq.1; omega
    | sid b z => have h1 : a.k = 7 := hp; have h2 := hq.1; omega
/-- A tally of these copies. -/
structure TalC (cs : List Cl) (ags : List Vr) (L : Cps) (ps : List Pt) (m : List UInt8 → Int) (cnt : Int) : Prop where
  good : GoodC cs L
  len : ags.length = ps.length
  parts : ∀ i (h1 : i < ags.length) (h2 : i < ps.length), ptIs ags[i] L ps[i]
  map : ∀ r, fitsC cs r = true → m (keyR r) = hasC L r 0
  cnt : cnt = cntC L
  full : cntC L ≤ 1048576
theorem TalC.new (cs : List Cl) (ags : List Vr) (hk : ∀ a ∈ ags, 1 ≤ a.k ∧ a.k ≤ 7) : TalC cs ags [] (partsOf ags) (fun _ => 0) 0 :=
  ⟨GoodC.nil cs, by simp [partsOf], fun i h1 h2 => by
    have h := hk ags[i] (List.getElem_mem h1)
    simp only [partsOf, List.getElem_map]
    exact ptIs_new _ h.1 h.2, fun _ _ => rfl, rfl, by decide⟩
theorem hasC_add {cs : List Cl} {L : Cps} (h : GoodC cs L) {r : List Vr} (hr : fitsC cs r = true) (n : Int) (h0 : 0 ≤ hasC L r 0 + n) (q : List Vr) : hasC (addC L r n) q 0 = hasC L q 0 + n * isR q r := by
  rw [has_sum (addC_good h hr n), addC_sum h r n h0, has_sum h]
theorem errT_iff {cs : List Cl} {m : List UInt8 → Int} {cnt : Int} {r : List Vr} {n : Int} : errT cs m cnt r n = 0 ↔ fitsC cs r = true ∧ n ≤ 1048576 ∧ -1048576 ≤ n ∧ 0 ≤ m (keyR r) + n ∧ cnt + n ≤ 1048576 := by
  unfold errT
  cases hf : fitsC cs r with
  | false => simp
  | true =>
    rw [if_neg (by decide)]
    split
    · simp; omega
    split
    · simp; omega
    split
    · simp; omega
    · simp; omega
theorem valAt_ok {cs : List Cl} {r : List Vr} {c : Int} (hr : fitsC cs r = true) (hrr : RngR r) (h0 : 0 ≤ c) (h1 : c < cs.length) : okV (valAt r c) := by
  have hl := (fits_len hr).1
  have hm := valAt_mem (r := r) h0 (by rw [hl]; exact h1)
  exact ⟨fits_may hr _ hm, (hrr _ hm).2⟩
theorem TalC.put {cs : List Cl} {ags : List Vr} {L : Cps} {ps : List Pt} {m : List UInt8 → Int} {cnt : Int} (h : TalC cs ags L ps m cnt) (hc : ∀ a ∈ ags, 0 ≤ a.n ∧ a.n < cs.length) {r : List Vr} {n : Int} (hrr : RngR r) (he : errT cs m cnt r n = 0) :
    TalC cs ags (addC L r n) (ptsPut r n ags ps) (updM m (keyR r) (m (keyR r) + n)) (cnt + n) := by
  obtain ⟨hf, h1, h2, h3, h4⟩ := errT_iff.1 he
  have h0 : 0 ≤ hasC L r 0 + n := by rw [← h.map r hf]; exact h3
  have hful : cntC L + n ≤ 1048576 := by rw [← h.cnt]; exact h4
  have hcn : cntC (addC L r n) = cntC L + n := by unfold cntC; rw [addC_sum h.good r n h0]; omega
  refine ⟨addC_good h.good hf n, by simp [ptsPut, h.len], fun i i1 i2 => ?_, fun q hq => ?_, by rw [hcn, h.cnt], by rw [hcn]; exact hful⟩
  · have i3 : i < ps.length := by rw [← h.len]; exact i1
    have e : (ptsPut r n ags ps)[i] = ptPut (valAt r (ags[i]).n) n ps[i] := by simp [ptsPut]
    rw [e]
    obtain ⟨q0, q1⟩ := hc _ (List.getElem_mem i1)
    exact ptIs_put (h.parts i i1 i3) h.good r n (valAt_ok hf hrr q0 q1) h1 h2 h0 hful
  · rw [hasC_add h.good hf n h0]
    unfold updM
    by_cases e : keyR q = keyR r
    · have := keyR_inj hq hf e
      subst this
      rw [if_pos rfl, h.map q hq]
      unfold isR
      rw [sameR_refl, if_pos rfl]
      omega
    · have hne : r ≠ q := fun e2 => e (by rw [e2])
      rw [if_neg e, h.map q hq]
      unfold isR
      rw [sameR_no hne, if_neg (by decide)]
      omega
/-- WHAT WAS PUT IN CAN BE TAKEN OUT AGAIN. -/
theorem TalC.undo_ok {cs : List Cl} {ags : List Vr} {L : Cps} {ps : List Pt} {m : List UInt8 → Int} {cnt : Int} (h : TalC cs ags L ps m cnt) {r : List Vr} {n : Int} (he : errT cs m cnt r n = 0) :
    errT cs (updM m (keyR r) (m (keyR r) + n)) (cnt + n) r (-n) = 0 := by
  obtain ⟨hf, h1, h2, h3, h4⟩ := errT_iff.1 he
  refine errT_iff.2 ⟨hf, by omega, by omega, ?_, ?_⟩
  · unfold updM
    rw [if_pos rfl, h.map r hf]
    have := has_nonneg h.good r
    omega
  · have := h.cnt
    have := h.full
    omega
theorem parts_one {cs : List Cl} {ags : List Vr} {L M : Cps} {ps qs : List Pt} {m k : List UInt8 → Int} {c d : Int} (h : TalC cs ags L ps m c) (g : TalC cs ags M qs k d) (hs : ∀ f, sumC L f = sumC M f) : ps = qs ∧ c = d := by
  refine ⟨?_, by rw [h.cnt, g.cnt]; unfold cntC; rw [hs]⟩
  apply List.ext_getElem
  · rw [← h.len, ← g.len]
  · intro i h1 h2
    have h3 : i < ags.length := by rw [h.len]; exact h1
    exact ptIs_one (h.parts i h3 h1) (g.parts i h3 h2) hs
theorem undo_sum {cs : List Cl} {ags : List Vr} {L : Cps} {ps : List Pt} {m : List UInt8 → Int} {cnt : Int} (h : TalC cs ags L ps m cnt) {r : List Vr} {n : Int} (he : errT cs m cnt r n = 0) (f : List Vr → Int) : sumC (addC (addC L r n) r (-n)) f = sumC L f := by
  obtain ⟨hf, h1, h2, h3, h4⟩ := errT_iff.1 he
  have h0 : 0 ≤ hasC L r 0 + n := by rw [← h.map r hf]; exact h3
  have hg := addC_good h.good hf n
  have hn := has_nonneg h.good r
  have hh : hasC (addC L r n) r 0 = hasC L r 0 + n := by
    rw [hasC_add h.good hf n h0]
    unfold isR
    rw [sameR_refl, if_pos rfl]
    omega
  rw [addC_sum hg r (-n) (by omega), addC_sum h.good r n h0, Int.neg_mul]
  omega
end Go.Proofs.YtnidaahimofppaaGreat

/- Layer 26 (tally): Put, walked (no extremes, no leans). -/
namespace Go.Proofs.YtnidaahimofppaaGreat
open Go.RowKit Go.Maps
set_option linter.unusedVariables false
set_option linter.unusedSimpArgs false

theorem zeroI (w : World) : (zeroValue 3).run Tryz.prog w = .ok (.int .i64 0) w := by kernel_rfl
theorem staput_any (n k m : Int) (s : ByteArray) (w : World) : Calls Tryz.prog 123 #[.agg #[], va k m s, .int .i64 n] w (fun e w' => e = .returned (.tuple #[]) ∧ Below w.heap.size w w') := by
  go_enter Tryz.func123, Tryz.ntmps123
  go_wp2_with fail
  go_returns
  exact ⟨rfl, ((Below.refl _ _).alloc (Nat.le_refl _) _).alloc (by simp) _⟩
theorem PartAt.tyV {w : World} {f : List Nat} {v : Value} {p : Pt} (h : PartAt w f v p) : ∀ k ∈ f, ∃ arr ty fr, w.heap[k]? = some (.cells arr ty fr) ∧ ty ≠ 68 := fun k hk => by
  obtain ⟨arr, ty, fr, h1, h2⟩ := h.tys k hk
  exact ⟨arr, ty, fr, h1, fun e => by subst e; exact absurd h2 (by decide)⟩
/-- A row lies there, out of the way. -/
def Apart (w : World) (B b : Nat) : Prop := b < B ∨ ∃ arr fr, w.heap[b]? = some (.cells arr 68 fr)
def HasS (w : World) (B : Nat) (v : Value) (r : List Vr) : Prop := HasR w w.heap.size v r ∧ (r ≠ [] → ∃ b off c, v = .slice (some ⟨b, off, none⟩) r.length c ∧ b < w.heap.size ∧ Apart w B b)
theorem TalIn.apt {w : World} {B B1 g gm : Nat} {sv av pv : Value} {ts : List Trd} {cs : List Cl} {ags : List Vr} {m : List UInt8 → Int} {nm : Nat} {cnt : Int} (h : TalIn w B B1 g gm sv av pv ts cs ags m nm cnt) {b : Nat} (hb : Apart w B b) :
    b ≠ g ∧ b ≠ gm ∧ ∀ t ∈ ts, b ∉ t.2.1 := by
  have h1 := h.base
  have h2 := h.gB
  have h3 := h.mB
  rcases hb with hb | ⟨arr, fr, hb⟩
  · exact ⟨by omega, by omega, fun t ht e => by have := (h.parts t ht).2 b e; omega⟩
  · refine ⟨?_, ?_, fun t ht e => ?_⟩
    · rintro rfl
      rw [h.box] at hb
      injection hb with hb
      injection hb with _ h4 _
      exact absurd h4 (by decide)
    · rintro rfl
      obtain ⟨_, _, h4⟩ := h.map.blk
      rw [h4] at hb
      injection hb with hb
      cases hb
    · obtain ⟨_, ty, _, h4, h5⟩ := (h.parts t ht).1.tyV b e
      rw [h4] at hb
      injection hb with hb
      injection hb with _ h6 _
      exact h5 h6
def TPutP (w : World) (B g : Nat) (F D : List Nat) (cs : List Cl) (ags : List Vr) (ps : List Pt) (m : List UInt8 → Int) (nm : Nat) (cnt : Int) (r : List Vr) (n : Int) (e : Ending) (w' : World) : Prop :=
  e = .returned (.int .i64 (errT cs m cnt r n)) ∧ Chg F w w' ∧ (errT cs m cnt r n ≠ 0 → TalFt w' B g F D cs ags ps m nm cnt) ∧
  (errT cs m cnt r n = 0 → ∃ F', TalFt w' B g F' D cs ags (ptsPut r n ags ps) (updM m (keyR r) (m (keyR r) + n)) (nm + 1) (cnt + n) ∧ ∀ k ∈ F', k ∈ F ∨ w.heap.size ≤ k)
def OneP (wr : World) (f : List Nat) (v : Value) (p : Pt) (wx : World) : Prop := ∃ f', PartAt wx f' v p ∧ Chg f wr wx ∧ ∀ k ∈ f', k ∈ f ∨ wr.heap.size ≤ k
def PuL (w : World) (F : List Nat) (B B1 g gm b : Nat) (sv av pv : Value) (cs : List Cl) (ags : List Vr) (ps : List Pt) (m : List UInt8 → Int) (nm : Nat) (cnt : Int) (r : List Vr) (n : Int) (v77 : Value) (wr : World) : Prop :=
  ∃ (i : Nat) (ts : List Trd), v77 = .int .i64 (i : Int) ∧ Kept (i ≤ ps.length ∧ TalIn wr B B1 g gm sv av pv ts cs ags m nm cnt ∧ ts.map (·.2.2) = mixP r n ags ps i ∧ (Chg F w wr ∧ ∀ k ∈ FW g gm ts, k ∈ F ∨ w.heap.size ≤ k) ∧ wr.heap[b]? = w.heap[b]?)
theorem errT_17 {cs : List Cl} {m : List UInt8 → Int} {cnt : Int} {r : List Vr} {n : Int} (h : fitsC cs r = false) : errT cs m cnt r n = 17 := if_pos h
theorem errT_2 {cs : List Cl} {m : List UInt8 → Int} {cnt : Int} {r : List Vr} {n : Int} (h : fitsC cs r = true) (h2 : 1048576 < n ∨ n < -1048576) : errT cs m cnt r n = 2 := by
  unfold errT
  rw [if_neg (by rw [h]; decide), if_pos h2]
theorem errT_20 {cs : List Cl} {m : List UInt8 → Int} {cnt : Int} {r : List Vr} {n : Int} (h : fitsC cs r = true) (h2 : ¬ (1048576 < n ∨ n < -1048576)) (h3 : m (keyR r) + n < 0) : errT cs m cnt r n = 20 := by
  unfold errT
  rw [if_neg (by rw [h]; decide), if_neg h2, if_pos h3]
theorem errT_7 {cs : List Cl} {m : List UInt8 → Int} {cnt : Int} {r : List Vr} {n : Int} (h : fitsC cs r = true) (h2 : ¬ (1048576 < n ∨ n < -1048576)) (h3 : ¬ m (keyR r) + n < 0) (h4 : 1048576 < cnt + n) : errT cs m cnt r n = 7 := by
  unfold errT
  rw [if_neg (by rw [h]; decide), if_neg h2, if_neg h3, if_pos h4]
theorem errT_0 {cs : List Cl} {m : List UInt8 → Int} {cnt : Int} {r : List Vr} {n : Int} (h : fitsC cs r = true) (h2 : ¬ (1048576 < n ∨ n < -1048576)) (h3 : ¬ m (keyR r) + n < 0) (h4 : ¬ 1048576 < cnt + n) : errT cs m cnt r n = 0 := by
  unfold errT
  rw [if_neg (by rw [h]; decide), if_neg h2, if_neg h3, if_neg h4]
end Go.Proofs.YtnidaahimofppaaGreat
