/- Layer 7 (schema): the reference's way to write a schema, walked; and (plain) what was written as bytes is read. -/
import Derived.Test.YthcgdlhmmgpbgaaSchF
import Derived.Test.YthcgdlhmmgpbgaaSchD
namespace Go.Proofs.Ythcgdlhmmgpbgaa
open Go.RowKit
set_option linter.unusedVariables false
set_option linter.unusedSimpArgs false

theorem less_bare {n i : Nat} (h : i < n) : n - (intOf (.int .i64 ((i : Int) + 1))).toNat < n - (intOf (.int .i64 (i : Int))).toNat := by
  simp only [intOf]
  omega
def jc (l : List Cl) : Bs := Lib.join (l.map colB) [44, 32]
theorem join_snoc (m : List Bs) (y : Bs) (hn : m ≠ []) : Lib.join (m ++ [y]) [44, 32] = Lib.join m [44, 32] ++ ([44, 32] ++ y) := by
  simp only [Lib.join]
  induction m with
  | nil => exact absurd rfl hn
  | cons a r ih =>
    cases r with
    | nil => simp [List.intercalate, List.intersperse]
    | cons b r =>
      have := ih (by simp)
      simp only [List.intercalate, List.cons_append, List.intersperse, List.flatten_cons, List.append_assoc] at this ⊢
      rw [this]
theorem jc_snoc (l : List Cl) (x : Cl) (h : l ≠ []) : jc (l ++ [x]) = jc l ++ ([44, 32] ++ colB x) := by
  unfold jc
  rw [List.map_append]
  exact join_snoc _ _ (by simpa using h)
theorem jc_one (x : Cl) : jc [x] = colB x := by simp [jc, Lib.join, List.intercalate]
theorem jc_len (l : List Cl) (h : ∀ x ∈ l, x.s.size ≤ 16) : (jc l).length ≤ 202 * l.length := by
  have h1 := join_le (l.map colB) (fun x hx => by
    obtain ⟨y, hy, rfl⟩ := List.mem_map.1 hx
    have := colB_len (h y hy)
    omega)
  rw [List.length_map] at h1
  exact h1
theorem bs_nil : (⟨#[]⟩ : ByteArray) = bs [] := rfl
theorem name_app (s : ByteArray) (k : Int) (K : ByteArray) (hK : K = bs (kindT k)) (a : Bs) : bs a ++ s ++ K = bs (a ++ colB ⟨s, k⟩) := by
  rw [hK, ← bs_tx s, bs_app, bs_app, bs_tx, List.append_assoc]
  rfl
theorem name_app0 (s : ByteArray) (k : Int) (K : ByteArray) (hK : K = bs (kindT k)) : s ++ K = bs (colB ⟨s, k⟩) := by
  rw [hK, ← bs_tx s, bs_app, bs_tx]
  rfl
theorem name_app2 (s : ByteArray) (k : Int) (K : ByteArray) (hK : K = bs (kindT k)) (a : Bs) : bs a ++ (⟨#[44, 32]⟩ : ByteArray) ++ s ++ K = bs (a ++ ([44, 32] ++ colB ⟨s, k⟩)) := by
  have h2 : (⟨#[44, 32]⟩ : ByteArray) = bs [44, 32] := rfl
  rw [h2, bs_app, name_app s k K hK, List.append_assoc]
theorem kindT1 : (⟨#[32, 110, 117, 109, 98, 101, 114]⟩ : ByteArray) = bs (kindT 1) := rfl
theorem kindT2 {k : Int} (h : ¬ k = 1) : (⟨#[32, 116, 101, 120, 116]⟩ : ByteArray) = bs (kindT k) := by unfold kindT; rw [if_neg h]; rfl
def RsC (xs : List Cl) (w : World) (v4 v3 : Value) (wr : World) : Prop := ∃ (i : Nat) (r : Array Obj) (d : Nat), v4 = .int .i64 (i : Int) ∧ wr = xw w r d ∧ v3 = .string (bs (jc (xs.take i))) ∧ Kept (i ≤ xs.length)
set_option maxRecDepth 100000 in
set_option maxHeartbeats 2000000 in
theorem rcShow_any (v : Value) (xs : List Cl) (w : World) (H : HasC w w.heap.size v xs) :
    Calls Try.prog 35 #[v] w (fun e w' => e = .returned (.string (bs (showC xs))) ∧ Below w.heap.size w w') := by
  have h1 := Kept.mk H
  obtain ⟨A, c, rfl, _, hA⟩ := H
  have HA := Kept.mk hA
  clear hA
  cases m1 : mayC xs with
  | false =>
    have hv : Kept (showC xs = []) := ⟨by simp [showC, m1]⟩
    have M1 := Kept.mk m1
    clear m1
    go_enter Try.func35, Try.ntmps35
    go_wp2_with (first
      | (go_at_call 18; refine (rcMay_any _ _ _ xs _ h1.out (fun _ _ => trivial)).mono ?_; rintro e w1 ⟨rfl, hb1⟩; obtain ⟨r1, d1, rfl⟩ := xw_of hb1; clear hb1; rewrite [M1.out]))
    go_returns
    rw [hv.out]
    exact ⟨rfl, xw_below _ _ _⟩
  | true =>
    have hv : Kept (showC xs = jc xs) := ⟨by simp [showC, m1, jc]⟩
    have M1 := Kept.mk m1
    have L1 := Kept.mk (mayC_iff.1 m1).1
    have HSZ := Kept.mk (mayC_size m1)
    clear m1
    go_enter Try.func35, Try.ntmps35
    go_wp2_with (first
      | (go_at_call 18; refine (rcMay_any _ _ _ xs _ h1.out (fun _ _ => trivial)).mono ?_; rintro e w1 ⟨rfl, hb1⟩; obtain ⟨r1, d1, rfl⟩ := xw_of hb1; clear hb1; rewrite [M1.out]))
    go_loopw [4, 3] (fun v4 v3 wr => RsC xs w v4 v3 wr) (fun v4 v3 wr => xs.length - (intOf v4).toNat)
    case atStart => exact ⟨0, _, _, rfl, rfl, rfl, ⟨Nat.zero_le _⟩⟩
    case round =>
      obtain ⟨i, r, d, rfl, rfl, rfl, HI⟩ := hrel
      by_cases ci : i < xs.length
      · have hne : xs ≠ [] := by rintro rfl; simp at ci
        obtain ⟨b1, o1, rfl, hb1, hc1⟩ := HA.out hne
        obtain ⟨e0, e1⟩ := hc1 i ci
        have ci' : (i : Int) < (xs.length : Int) := by omega
        have f0 : 0 ≤ (i : Int) := by omega
        have hw : wrap64 ((i : Int) + 1) = (i : Int) + 1 := by have := L1.out; simp only [wrap64]; omega
        have HCI := Kept.mk ci
        have HT : Kept (xs.take (i + 1) = xs.take i ++ [xs[i]]) := ⟨List.take_succ_eq_append_getElem ci⟩
        have hz2 : xs[i].s.size ≤ 16 := HSZ.out xs[i] (List.getElem_mem ci)
        have hz1 : (bs (jc (xs.take i))).size ≤ 2000 := by
          have hj := jc_len (xs.take i) (fun x hx => HSZ.out x (List.mem_of_mem_take hx))
          have := L1.out
          rw [List.length_take] at hj
          rw [bs_size]
          omega
        generalize xs[i] = x at e0 e1 HT hz2
        obtain ⟨xs', xk⟩ := x
        simp only at e0 e1 hz2
        have hz3 : (bs (jc (xs.take i))).size + 2 ≤ 2002 := by omega
        have hz4 : (bs (jc (xs.take i))).size + 2 + xs'.size ≤ 2018 := by omega
        have hz5 : (bs (jc (xs.take i))).size + xs'.size ≤ 2018 := by omega
        clear hc1 hne ci
        by_cases ck : xk = 1
        · subst ck
          by_cases c0 : i = 0
          · have HC0 := Kept.mk c0
            have hi0 : ¬ (0 < (i : Int)) := by omega
            clear c0
            go_wp2_with fail
            refine ⟨⟨i + 1, _, _, by first | rfl | (rw [hw]; rfl), rfl, congrArg Value.string ?_, ⟨HCI.out⟩⟩, by first | exact less_step hw HCI.out | exact less_bare HCI.out⟩
            rw [HT.out, HC0.out, List.take_zero, List.nil_append, jc_one]
            exact name_app xs' 1 _ kindT1 []
          · have HC0 := Kept.mk c0
            have hi0 : 0 < (i : Int) := by omega
            clear c0
            go_wp2_with fail
            refine ⟨⟨i + 1, _, _, by first | rfl | (rw [hw]; rfl), rfl, congrArg Value.string ?_, ⟨HCI.out⟩⟩, by first | exact less_step hw HCI.out | exact less_bare HCI.out⟩
            have hne2 : xs.take i ≠ [] := by
              intro e
              have h := congrArg List.length e
              rw [List.length_take, List.length_nil] at h
              have h0 := HC0.out
              have := HCI.out
              omega
            rw [HT.out, jc_snoc _ _ hne2]
            exact name_app2 xs' 1 _ kindT1 _
        · have HK := Kept.mk ck
          have hk1 : (xk == 1) = false := by simp [ck]
          by_cases c0 : i = 0
          · have HC0 := Kept.mk c0
            have hi0 : ¬ (0 < (i : Int)) := by omega
            clear c0
            go_wp2_with fail
            refine ⟨⟨i + 1, _, _, by first | rfl | (rw [hw]; rfl), rfl, congrArg Value.string ?_, ⟨HCI.out⟩⟩, by first | exact less_step hw HCI.out | exact less_bare HCI.out⟩
            rw [HT.out, HC0.out, List.take_zero, List.nil_append, jc_one]
            exact name_app xs' xk _ (kindT2 HK.out) []
          · have HC0 := Kept.mk c0
            have hi0 : 0 < (i : Int) := by omega
            clear c0
            go_wp2_with fail
            refine ⟨⟨i + 1, _, _, by first | rfl | (rw [hw]; rfl), rfl, congrArg Value.string ?_, ⟨HCI.out⟩⟩, by first | exact less_step hw HCI.out | exact less_bare HCI.out⟩
            have hne2 : xs.take i ≠ [] := by
              intro e
              have h := congrArg List.length e
              rw [List.length_take, List.length_nil] at h
              have h0 := HC0.out
              have := HCI.out
              omega
            rw [HT.out, jc_snoc _ _ hne2]
            exact name_app2 xs' xk _ (kindT2 HK.out) _
      · have ci' : ¬ ((i : Int) < (xs.length : Int)) := by omega
        have hi : i = xs.length := by have := HI.out; omega
        have HT : Kept (xs.take i = xs) := ⟨by rw [hi, List.take_length]⟩
        clear ci hi
        go_wp2_with fail
        go_returns
        refine ⟨?_, xw_below _ _ _⟩
        rw [hv.out, HT.out]
        rfl
/-! ### what was written is read (plain) -/
theorem strOf_bytes (s : ByteArray) : strOfNums (bytesOf s) = s := by
  have : ((bytesOf s).map fun n => UInt8.ofNat n.toNat) = s.data.toList := by
    simp only [bytesOf, List.map_map]
    refine (List.map_congr_left (fun u _ => ?_)).trans (List.map_id _)
    simp
  obtain ⟨⟨l⟩⟩ := s
  simp only [strOfNums, this]
theorem text16_back (s : ByteArray) (hs : s.size ≤ 16) (R : List Int) : textS 16 (0, textB s ++ R) = (bytesOf s, (0, R)) := by
  unfold textS textB grpS
  simp only [ne_eq, not_true, if_false]
  rw [List.append_assoc, grp_enc 9 0 s.size (bytesOf s ++ R) (by omega) (by omega) (by omega) (by omega) (by omega)]
  simp only [not_true, if_false]
  rw [if_neg (by omega), if_neg (by rw [List.length_append, bytesOf_len]; omega)]
  have := bytesOf_len s
  rw [← this, List.take_left, List.drop_left]
theorem readCs_back (xs : List Cl) (h : ∀ x ∈ xs, x.s.size ≤ 16) (R : List Int) (acc : List Cl) : readCs xs.length (0, catC xs ++ R) acc = (acc ++ xs, (0, R)) := by
  induction xs generalizing acc with
  | nil => simp [readCs, catC]
  | cons x r ih =>
    have e : catC (x :: r) ++ R = textB x.s ++ (x.k :: (catC r ++ R)) := by simp [catC]
    rw [List.length_cons, readCs, e, text16_back x.s (h x (by simp)), strOf_bytes]
    have e2 : byteS (0, x.k :: (catC r ++ R)) = (x.k, (0, catC r ++ R)) := by simp [byteS]
    simp only [e2]
    rw [ih (fun y hy => h y (by simp [hy]))]
    simp
theorem readC_back (xs : List Cl) (hm : mayC xs = true) (R : List Int) : readC (0, bytesC xs ++ R) = ((xs, 0), (0, R)) := by
  have h := (mayC_iff.1 hm).1
  have e : byteS (0, bytesC xs ++ R) = ((xs.length : Int), (0, catC xs ++ R)) := by
    unfold bytesC
    rw [if_pos hm]
    simp [byteS]
  unfold readC
  rw [e]
  simp only [ne_eq, not_true, if_false]
  rw [if_neg (by omega), Int.toNat_natCast, readCs_back xs (mayC_size hm) R []]
  simp [hm]
end Go.Proofs.Ythcgdlhmmgpbgaa
