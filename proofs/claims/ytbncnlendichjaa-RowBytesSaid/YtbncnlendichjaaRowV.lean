/- Layer 6 (row): rows written, walked; the program's and the reference's. -/
import Derived.Test.YtbncnlendichjaaRowU
import Derived.Test.YtbncnlendichjaaValSj
import Derived.Lib.Join
namespace Go.Proofs.Ytbncnlendichjaa
open Go.RowKit
set_option linter.unusedVariables false
set_option linter.unusedSimpArgs false

def RngR (xs : List Vr) : Prop := ∀ x ∈ xs, -9223372036854775808 ≤ x.n ∧ x.n ≤ 9223372036854775807
def jn (l : List Vr) : Bs := Lib.join (l.map fun x => showV x.va) [44, 32]
theorem jn_snoc (l : List Vr) (x : Vr) (h : l ≠ []) : jn (l ++ [x]) = jn l ++ ([44, 32] ++ showV x.va) := by
  unfold jn
  rw [List.map_append]
  generalize hm : l.map (fun x => showV x.va) = m
  have hn : m ≠ [] := by rintro rfl; exact h (by simpa using hm)
  clear hm h
  simp only [List.map_cons, List.map_nil, Lib.join]
  induction m with
  | nil => exact absurd rfl hn
  | cons a r ih =>
    cases r with
    | nil => simp [List.intercalate, List.intersperse]
    | cons b r =>
      have := ih (by simp)
      simp only [List.intercalate, List.cons_append, List.intersperse, List.flatten_cons, List.append_assoc] at this ⊢
      rw [this]
theorem jn_one (x : Vr) : jn [x] = showV x.va := by simp [jn, Lib.join, List.intercalate]
theorem jn_nil : jn [] = [] := rfl
theorem join_le (m : List Bs) (hm : ∀ x ∈ m, x.length ≤ 200) : (Lib.join m [44, 32]).length ≤ 202 * m.length := by
  induction m with
  | nil => simp [Lib.join, List.intercalate]
  | cons a r ih =>
    have ha := hm a (by simp)
    cases r with
    | nil => simp [Lib.join, List.intercalate]; omega
    | cons b r =>
      have := ih (fun x hx => hm x (by simp at hx ⊢; exact .inr hx))
      simp only [Lib.join, List.intercalate, List.intersperse, List.flatten_cons, List.length_append, List.length_cons, List.length_nil] at this ⊢
      omega
theorem jn_len (l : List Vr) (hr : RngR l) : (jn l).length ≤ 202 * l.length := by
  have h := join_le (l.map fun x => showV x.va) (fun x hx => by
    obtain ⟨y, hy, rfl⟩ := List.mem_map.1 hx
    exact showV_len y.va (hr y hy).1 (hr y hy).2)
  rwa [List.length_map] at h
def showRow (xs : List Vr) : Bs := if mayR xs = true then 40 :: (jn xs ++ [41]) else []
theorem infoS : (Try.prog.info? 9).map (fun i => (i.zero, i.size, i.bytes)) = some (some (.string ⟨#[]⟩), 1, 16) := by kernel_rfl
theorem map_bs_data (ss : List Bs) : (ss.map bs).map (fun x => x.data.toList) = ss := by
  rw [List.map_map]
  refine (List.map_congr_left (fun u _ => ?_)).trans (List.map_id _)
  exact tx_bs u
set_option maxRecDepth 100000 in
theorem join_str (v : Value) (ss : List Bs) (base : Nat) (w : World) (HO : Own w base 9 v ((ss.map bs).map Value.string)) (hN : ss.length ≤ 1000) (hl : (Lib.join ss [44, 32]).length ≤ 140737488355328) :
    Calls Try.prog 51 #[v, .string ⟨#[44, 32]⟩] w (fun e w' => e = .returned (.string (bs (Lib.join ss [44, 32]))) ∧ Below w.heap.size w w') := by
  have hlen : ((ss.map bs).map Value.string).length = (ss.map bs).length := by simp
  rcases HO.cells with ⟨rfl, hn⟩ | ⟨g, c, rfl, _, hg, hc, _, hcell⟩
  · have h0 : ss = [] := by simpa using hn
    subst h0
    refine (Try.strings_Join_none none 0 ⟨#[44, 32]⟩ w).mono ?_
    rintro e w' ⟨rfl, rfl⟩
    exact ⟨rfl, Below.refl _ _⟩
  · rw [hlen] at hcell hc ⊢
    refine (Try.strings_Join g 0 c (ss.map bs) ⟨#[44, 32]⟩ w (fun j x hj => ?_) hg (by simp; omega) hc (by rw [map_bs_data]; exact hl)).mono ?_
    · have hjl := (List.getElem?_eq_some_iff.1 hj).1
      rw [Nat.zero_add, hcell j hjl, List.getElem?_map, hj]
      rfl
    · rintro e w' ⟨rfl, hb⟩
      rw [map_bs_data]
      exact ⟨rfl, hb⟩
theorem brackets (l : Bs) : (⟨#[40]⟩ : ByteArray) ++ bs l ++ ⟨#[41]⟩ = bs (40 :: (l ++ [41])) := by
  have h1 : (⟨#[40]⟩ : ByteArray) = bs [40] := rfl
  have h2 : (⟨#[41]⟩ : ByteArray) = bs [41] := rfl
  rw [h1, h2, bs_app, bs_app]
  rfl
theorem less_bare {n i : Nat} (h : i < n) : n - (intOf (.int .i64 ((i : Int) + 1))).toNat < n - (intOf (.int .i64 (i : Int))).toNat := by
  simp only [intOf]
  omega
def SrI (xs : List Vr) (w : World) (v12 v3 : Value) (wr : World) : Prop := ∃ (i : Nat) (r : Array Obj) (d : Nat), v12 = .int .i64 (i : Int) ∧ wr = xw w r d ∧ Kept (i ≤ xs.length ∧ Own wr w.heap.size 9 v3 (((xs.take i).map (fun x => bs (showV x.va))).map Value.string))
set_option maxRecDepth 100000 in
set_option maxHeartbeats 2000000 in
theorem rowShow_any (v : Value) (xs : List Vr) (hr : RngR xs) (w : World) (H : HasR w w.heap.size v xs) :
    Calls Try.prog 28 #[v] w (fun e w' => e = .returned (.string (bs (showRow xs))) ∧ Below w.heap.size w w') := by
  have h1 := Kept.mk H
  have HRG := Kept.mk hr
  obtain ⟨A, c, rfl, _, hA⟩ := H
  have HA := Kept.mk hA
  clear hA hr
  cases m1 : mayR xs with
  | false =>
    have hv : Kept (showRow xs = []) := ⟨by simp [showRow, m1]⟩
    have M1 := Kept.mk m1
    clear m1
    go_enter Try.func28, Try.ntmps28
    go_wp2_with (first
      | (go_at_call 11; refine (May_any _ xs _ h1.out).mono ?_; rintro e w1 ⟨rfl, hb1⟩; obtain ⟨r1, d1, rfl⟩ := xw_of hb1; clear hb1; rewrite [M1.out]))
    go_returns
    rw [hv.out]
    exact ⟨rfl, xw_below _ _ _⟩
  | true =>
    have hv : Kept (showRow xs = 40 :: (jn xs ++ [41])) := ⟨by simp [showRow, m1]⟩
    have M1 := Kept.mk m1
    have L1 := Kept.mk (mayR_iff.1 m1).1
    have HJL : Kept ((jn xs).length ≤ 1616) := ⟨by have := jn_len xs HRG.out; have := L1.out; omega⟩
    clear m1
    go_enter Try.func28, Try.ntmps28
    go_wp2_with (first
      | (go_at_call 11; refine (May_any _ xs _ h1.out).mono ?_; rintro e w1 ⟨rfl, hb1⟩; obtain ⟨r1, d1, rfl⟩ := xw_of hb1; clear hb1; rewrite [M1.out]))
    have HO : Kept (Own ((xw w r1 d1).alloc (.cells #[] 9)) w.heap.size 9 (.slice (some ⟨(xw w r1 d1).heap.size, 0, none⟩) 0 0) []) := ⟨Own.empty _ _ _ (by rw [xw_size]; omega)⟩
    rewrite [alloc_xw, xw_xw] at HO
    rewrite [alloc_xw, xw_xw]
    go_loopw [12, 3] (fun v12 v3 wr => SrI xs w v12 v3 wr) (fun v12 v3 wr => xs.length - (intOf v12).toNat)
    case atStart => exact ⟨0, _, _, rfl, rfl, ⟨Nat.zero_le _, HO.out⟩⟩
    case round =>
      obtain ⟨i, r, d, rfl, rfl, HI⟩ := hrel
      clear HO
      by_cases ci : i < xs.length
      · have hne : xs ≠ [] := by rintro rfl; simp at ci
        obtain ⟨b1, o1, rfl, hb1, hc1⟩ := HA.out hne
        obtain ⟨e0, e1, e2⟩ := hc1 i ci
        have ci' : (i : Int) < (xs.length : Int) := by omega
        have f0 : 0 ≤ (i : Int) := by omega
        have hw : wrap64 ((i : Int) + 1) = (i : Int) + 1 := by have := L1.out; simp only [wrap64]; omega
        have HCI := Kept.mk ci
        have HRX := Kept.mk (HRG.out xs[i] (List.getElem_mem ci))
        have HT : Kept (xs.take (i + 1) = xs.take i ++ [xs[i]]) := ⟨List.take_succ_eq_append_getElem ci⟩
        generalize xs[i] = x at e0 e1 e2 HRX HT
        obtain ⟨xk, xn, xs'⟩ := x
        simp only at e0 e1 e2 HRX
        clear hc1 hne ci
        go_wp2_with (first
          | (go_at_call 50; refine (show_any xk xn HRX.out.1 HRX.out.2 xs' _).mono ?_; rintro e w2 ⟨rfl, hb2⟩; obtain ⟨r2, d2, rfl⟩ := xw_of hb2; clear hb2)
          | ((at_builtin); refine app_one (w0 := w) (W := xw ((xw w r d).alloc (.cells #[.int .i64 xk, .int .i64 xn, .string xs'] 39)) r2 d2) rfl (.tmp 16) (.tmp 19) 70 9 (.string ⟨#[]⟩) 16 rfl Try.underlying70 infoS rfl (by decide) _ (((xs.take i).map (fun x => bs (showV x.va))).map Value.string) (.string (bs (showV ⟨xk, xn, tx xs'⟩))) rfl rfl rfl ?c1 ?c2 ?c3 ?_; (case c1 => exact (HI.out.2.alloc _).xw r2 d2); (case c2 => exact below_xw ((xw_below w r d).alloc (by rw [xw_size]; omega) _) (by rw [World.size_alloc, xw_size]; omega) r2 d2); (case c3 => have := L1.out; have := HCI.out; simp only [List.length_map, List.length_take]; omega); intro v1 r3 d3 hO3; have HO3 := Kept.mk hO3; clear hO3))
        refine ⟨⟨i + 1, _, _, by first | rfl | (rw [hw]; rfl), rfl, ⟨HCI.out, ?_⟩⟩, by first | exact less_step hw HCI.out | exact less_bare HCI.out⟩
        rw [HT.out]
        simpa [Vr.va] using HO3.out
      · have ci' : ¬ ((i : Int) < (xs.length : Int)) := by omega
        have hi : i = xs.length := by have := HI.out.1; omega
        have HO2 := HI.out.2
        rw [hi, List.take_length] at HO2
        have e2 : xs.map (fun x => bs (showV x.va)) = (xs.map (fun x => showV x.va)).map bs := by simp
        rw [e2] at HO2
        have HO3 := Kept.mk HO2
        have hz : (bs (jn xs)).size ≤ 1616 := by rw [bs_size]; exact HJL.out
        clear ci hi HO2 e2
        go_wp2_with (first
          | (go_at_call 51; refine (join_str _ (xs.map (fun x => showV x.va)) _ _ HO3.out (by have := L1.out; simp; omega) (by have h := HJL.out; unfold jn at h; omega)).mono ?_; rintro e w2 ⟨rfl, hb2⟩; obtain ⟨r2, d2, rfl⟩ := xw_of hb2; clear hb2; rewrite [show Lib.join (xs.map (fun x => showV x.va)) [44, 32] = jn xs from rfl]))
        go_returns
        refine ⟨?_, xw_below _ _ _⟩
        rw [hv.out]
        exact congrArg (fun b => Ending.returned (Value.string b)) (brackets (jn xs))
/-! ### the reference -/
def RsJ (xs : List Vr) (w : World) (v4 v3 : Value) (wr : World) : Prop := ∃ (i : Nat) (r : Array Obj) (d : Nat), v4 = .int .i64 (i : Int) ∧ wr = xw w r d ∧ v3 = .string (bs (40 :: jn (xs.take i))) ∧ Kept (i ≤ xs.length)
theorem sep_app (a b : Bs) : bs a ++ (⟨#[44, 32]⟩ : ByteArray) ++ bs b = bs (a ++ ([44, 32] ++ b)) := by
  have h1 : (⟨#[44, 32]⟩ : ByteArray) = bs [44, 32] := rfl
  rw [h1, bs_app, bs_app]
  simp
theorem end_app (a : Bs) : bs (40 :: a) ++ (⟨#[41]⟩ : ByteArray) = bs (40 :: (a ++ [41])) := by
  have h2 : (⟨#[41]⟩ : ByteArray) = bs [41] := rfl
  rw [h2, bs_app]
  rfl
set_option maxRecDepth 100000 in
set_option maxHeartbeats 2000000 in
theorem rrowShow_any (v : Value) (xs : List Vr) (hr : RngR xs) (w : World) (H : HasR w w.heap.size v xs) (hN : xs.length ≤ 140737488355328) :
    Calls Try.prog 29 #[v] w (fun e w' => e = .returned (.string (bs (showRow xs))) ∧ Below w.heap.size w w') := by
  have h1 := Kept.mk H
  have HRG := Kept.mk hr
  have HN1 := Kept.mk hN
  obtain ⟨A, c, rfl, _, hA⟩ := H
  have HA := Kept.mk hA
  clear hA hr hN
  cases m1 : mayR xs with
  | false =>
    have hv : Kept (showRow xs = []) := ⟨by simp [showRow, m1]⟩
    have M1 := Kept.mk m1
    clear m1
    go_enter Try.func29, Try.ntmps29
    go_wp2_with (first
      | (go_at_call 12; refine (rMay_any _ xs _ h1.out HN1.out).mono ?_; rintro e w1 ⟨rfl, hb1⟩; obtain ⟨r1, d1, rfl⟩ := xw_of hb1; clear hb1; rewrite [M1.out]))
    go_returns
    rw [hv.out]
    exact ⟨rfl, xw_below _ _ _⟩
  | true =>
    have hv : Kept (showRow xs = 40 :: (jn xs ++ [41])) := ⟨by simp [showRow, m1]⟩
    have M1 := Kept.mk m1
    have L1 := Kept.mk (mayR_iff.1 m1).1
    clear m1
    go_enter Try.func29, Try.ntmps29
    go_wp2_with (first
      | (go_at_call 12; refine (rMay_any _ xs _ h1.out HN1.out).mono ?_; rintro e w1 ⟨rfl, hb1⟩; obtain ⟨r1, d1, rfl⟩ := xw_of hb1; clear hb1; rewrite [M1.out]))
    go_loopw [4, 3] (fun v4 v3 wr => RsJ xs w v4 v3 wr) (fun v4 v3 wr => xs.length - (intOf v4).toNat)
    case atStart => exact ⟨0, _, _, rfl, rfl, rfl, ⟨Nat.zero_le _⟩⟩
    case round =>
      obtain ⟨i, r, d, rfl, rfl, rfl, HI⟩ := hrel
      by_cases ci : i < xs.length
      · have hne : xs ≠ [] := by rintro rfl; simp at ci
        obtain ⟨b1, o1, rfl, hb1, hc1⟩ := HA.out hne
        obtain ⟨e0, e1, e2⟩ := hc1 i ci
        have ci' : (i : Int) < (xs.length : Int) := by omega
        have f0 : 0 ≤ (i : Int) := by omega
        have hw : wrap64 ((i : Int) + 1) = (i : Int) + 1 := by have := L1.out; simp only [wrap64]; omega
        have HCI := Kept.mk ci
        have HRX := Kept.mk (HRG.out xs[i] (List.getElem_mem ci))
        have HT : Kept (xs.take (i + 1) = xs.take i ++ [xs[i]]) := ⟨List.take_succ_eq_append_getElem ci⟩
        have hz2 : (bs (showV xs[i].va)).size ≤ 200 := by rw [bs_size]; exact showV_len _ HRX.out.1 HRX.out.2
        have hz1 : (bs (40 :: jn (xs.take i))).size ≤ 2000 := by
          have hj := jn_len (xs.take i) (fun x hx => HRG.out x (List.mem_of_mem_take hx))
          have := L1.out
          rw [List.length_take] at hj
          rw [bs_size, List.length_cons]
          omega
        generalize xs[i] = x at e0 e1 e2 HRX HT hz2
        obtain ⟨xk, xn, xs'⟩ := x
        simp only [Vr.va] at e0 e1 e2 HRX hz2
        clear hc1 hne ci
        by_cases c0 : i = 0
        · have HC0 := Kept.mk c0
          have hi0 : ¬ (0 < (i : Int)) := by omega
          clear c0
          go_wp2_with (first
            | (go_at_call 52; refine (rvshow_any xk xn HRX.out.1 HRX.out.2 xs' _).mono ?_; rintro e w2 ⟨rfl, hb2⟩; obtain ⟨r2, d2, rfl⟩ := xw_of hb2; clear hb2))
          refine ⟨⟨i + 1, _, _, by first | rfl | (rw [hw]; rfl), rfl, congrArg Value.string ?_, ⟨HCI.out⟩⟩, by first | exact less_step hw HCI.out | exact less_bare HCI.out⟩
          rw [HT.out, HC0.out, List.take_zero, List.nil_append, jn_one, jn_nil, bs_app]
          rfl
        · have HC0 := Kept.mk c0
          have hi0 : 0 < (i : Int) := by omega
          have hz3 : (bs (40 :: jn (xs.take i))).size + 2 ≤ 2002 := by omega
          clear c0
          go_wp2_with (first
            | (go_at_call 52; refine (rvshow_any xk xn HRX.out.1 HRX.out.2 xs' _).mono ?_; rintro e w2 ⟨rfl, hb2⟩; obtain ⟨r2, d2, rfl⟩ := xw_of hb2; clear hb2))
          refine ⟨⟨i + 1, _, _, by first | rfl | (rw [hw]; rfl), rfl, congrArg Value.string ?_, ⟨HCI.out⟩⟩, by first | exact less_step hw HCI.out | exact less_bare HCI.out⟩
          have hne2 : xs.take i ≠ [] := by
            intro e
            have h := congrArg List.length e
            rw [List.length_take, List.length_nil] at h
            have h0 := HC0.out
            have := HCI.out
            omega
          rw [HT.out, jn_snoc _ _ hne2]
          exact sep_app _ _
      · have ci' : ¬ ((i : Int) < (xs.length : Int)) := by omega
        have hi : i = xs.length := by have := HI.out; omega
        have HT : Kept (xs.take i = xs) := ⟨by rw [hi, List.take_length]⟩
        have hz1 : (bs (40 :: jn (xs.take i))).size ≤ 2000 := by
          have hj := jn_len (xs.take i) (fun x hx => HRG.out x (List.mem_of_mem_take hx))
          have := L1.out
          rw [List.length_take] at hj
          rw [bs_size, List.length_cons]
          omega
        clear ci hi
        go_wp2_with fail
        go_returns
        refine ⟨?_, xw_below _ _ _⟩
        rw [hv.out]
        refine (congrArg (fun b => Ending.returned (Value.string b)) (end_app (jn (xs.take i)))).trans ?_
        rw [HT.out]
end Go.Proofs.Ytbncnlendichjaa
