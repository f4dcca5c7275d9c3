/- RowKeys: the walk. -/
import Derived.Test.YtbncnlendichjaaRowLa
import Derived.Test.YtbncnlendichjaaValRb
namespace Go.Proofs.Ytbncnlendichjaa
open Go.RowKit
set_option linter.unusedVariables false
set_option linter.unusedSimpArgs false

theorem bytesV_split {x y : Vr} (hx : mayV x.va = true) (hy : mayV y.va = true) (rx : -9223372036854775808 ≤ x.n ∧ x.n ≤ 9223372036854775807) (ry : -9223372036854775808 ≤ y.n ∧ y.n ≤ 9223372036854775807) {R S : List Int} (h : bytesV x.k x.n x.s ++ R = bytesV y.k y.n y.s ++ S) : x = y ∧ R = S := by
  have h1 := readV_back x.k x.n rx.1 rx.2 x.s hx R
  have h2 := readV_back y.k y.n ry.1 ry.2 y.s hy S
  rw [h, h2] at h1
  simp only [Prod.mk.injEq, Rv.mk.injEq, true_and, and_true] at h1
  exact ⟨Vr.ext' h1.1.1.symm h1.1.2.1.symm h1.1.2.2.symm, h1.2.symm⟩
theorem catB_inj (xs ys : List Vr) (hl : xs.length = ys.length) (hx : ∀ x ∈ xs, mayV x.va = true) (hy : ∀ x ∈ ys, mayV x.va = true) (rx : RngR xs) (ry : RngR ys) (h : catB xs = catB ys) : xs = ys := by
  induction xs generalizing ys with
  | nil => cases ys with
    | nil => rfl
    | cons y b => simp at hl
  | cons x a ih =>
    cases ys with
    | nil => simp at hl
    | cons y b =>
      have h' : bytesV x.k x.n x.s ++ catB a = bytesV y.k y.n y.s ++ catB b := by simpa [catB] using h
      obtain ⟨rfl, h2⟩ := bytesV_split (hx x (by simp)) (hy y (by simp)) (rx x (by simp)) (ry y (by simp)) h'
      rw [ih b (by simpa using hl) (fun z hz => hx z (by simp [hz])) (fun z hz => hy z (by simp [hz])) (fun z hz => rx z (by simp [hz])) (fun z hz => ry z (by simp [hz])) h2]
theorem bytesR_inj (xs ys : List Vr) (hx : mayR xs = true) (hy : mayR ys = true) (rx : RngR xs) (ry : RngR ys) (h : bytesR xs = bytesR ys) : xs = ys := by
  unfold bytesR at h
  rw [if_pos hx, if_pos hy] at h
  injection h with h1 h2
  exact catB_inj xs ys (by omega) (mayR_iff.1 hx).2 (mayR_iff.1 hy).2 rx ry h2
theorem strOf_inj {a b : List Int} (ha : ∀ x ∈ a, 0 ≤ x ∧ x ≤ 255) (hb : ∀ x ∈ b, 0 ≤ x ∧ x ≤ 255) (h : strOfNums a = strOfNums b) : a = b := by
  have back : ∀ l : List Int, (∀ x ∈ l, 0 ≤ x ∧ x ≤ 255) → (l.map fun n => UInt8.ofNat n.toNat).map (fun u => (u.toNat : Int)) = l := by
    intro l hl
    rw [List.map_map]
    refine (List.map_congr_left (fun n hn => ?_)).trans (List.map_id _)
    have := hl n hn
    simp only [Function.comp, UInt8.toNat_ofNat']
    simp
    omega
  have h1 : (a.map fun n => UInt8.ofNat n.toNat) = b.map fun n => UInt8.ofNat n.toNat := congrArg (fun x : ByteArray => x.data.toList) h
  have h2 := congrArg (List.map (fun u : UInt8 => (u.toNat : Int))) h1
  rwa [back a ha, back b hb] at h2
set_option maxRecDepth 100000 in
set_option maxHeartbeats 4000000 in
theorem RowKeys_any (v u : Value) (xs ys : List Vr) (w : World) (H1 : HasR w w.heap.size v xs) (H2 : HasR w w.heap.size u ys) (hr1 : RngR xs) (hr2 : RngR ys) :
    Calls Try.prog 6 #[v, u] w (fun e w' => e = .returned (.bool true) ∧ Below w.heap.size w w') := by
  have h1 := Kept.mk H1
  have h2 := Kept.mk H2
  have R1 := Kept.mk hr1
  have R2 := Kept.mk hr2
  clear H1 H2 hr1 hr2
  go_enter Try.func6, Try.ntmps6
  go_wp2_with fail
  go_at_call 11
  refine (May_any v xs w h1.out).mono ?_
  rintro e w1 ⟨rfl, hb1⟩
  have A1 := Kept.mk (h1.out.next hb1)
  have A2 := Kept.mk (h2.out.next hb1)
  have AB := Kept.mk hb1
  clear h1 h2 hb1
  cases m1 : mayR xs with
  | false =>
    go_wp2_with fail
    go_at_call 13
    refine (live_any w1).mono ?_
    rintro e w5 ⟨rfl, hb1⟩
    have EB := Kept.mk (bel_next AB.out hb1)
    clear hb1
    go_wp2_with fail
    go_returns
    exact ⟨rfl, EB.out⟩
  | true =>
    have M1 := Kept.mk m1
    clear m1
    go_wp2_with fail
    go_at_call 11
    refine (May_any u ys w1 A2.out).mono ?_
    rintro e w2 ⟨rfl, hb1⟩
    have B1 := Kept.mk (A1.out.next hb1)
    have B2 := Kept.mk (A2.out.next hb1)
    have BB := Kept.mk (bel_next AB.out hb1)
    clear A1 A2 hb1
    cases m2 : mayR ys with
    | false =>
      go_wp2_with fail
      go_at_call 13
      refine (live_any w2).mono ?_
      rintro e w5 ⟨rfl, hb1⟩
      have EB := Kept.mk (bel_next BB.out hb1)
      clear hb1
      go_wp2_with fail
      go_returns
      exact ⟨rfl, EB.out⟩
    | true =>
      have M2 := Kept.mk m2
      have L1 := Kept.mk (mayR_iff.1 M1.out).1
      clear m2
      go_wp2_with fail
      go_at_call 13
      refine (live_any w2).mono ?_
      rintro e w3 ⟨rfl, hb1⟩
      have C1 := Kept.mk (B1.out.next hb1)
      have C2 := Kept.mk (B2.out.next hb1)
      have CB := Kept.mk (bel_next BB.out hb1)
      clear B1 B2 hb1
      go_wp2_with fail
      go_at_call 21
      refine (Key_any v xs R1.out w3 C1.out).mono ?_
      rintro e w4 ⟨rfl, hb1⟩
      have D1 := Kept.mk (C1.out.next hb1)
      have D2 := Kept.mk (C2.out.next hb1)
      have DB := Kept.mk (bel_next CB.out hb1)
      clear C1 C2 hb1
      go_wp2_with fail
      go_at_call 21
      refine (Key_any u ys R2.out w4 D2.out).mono ?_
      rintro e w5 ⟨rfl, hb1⟩
      have E1 := Kept.mk (D1.out.next hb1)
      have E2 := Kept.mk (D2.out.next hb1)
      have EB := Kept.mk (bel_next DB.out hb1)
      clear D1 D2 hb1
      by_cases he : xs = ys
      · subst he
        have HS := Kept.mk (sameR_refl xs)
        go_wp2_with fail
        go_at_call 14
        refine (rSame_any v u xs xs w5 E1.out E2.out (by have := L1.out; omega)).mono ?_
        rintro e w6 ⟨rfl, hb1⟩
        rewrite [HS.out]
        have FB := Kept.mk (bel_next EB.out hb1)
        clear hb1
        go_wp2_with fail
        go_returns
        exact ⟨rfl, FB.out⟩
      · have HS : Kept (sameR xs ys = false) := ⟨by
          cases hs : sameR xs ys with
          | false => rfl
          | true => exact absurd (sameR_iff.1 hs) he⟩
        have hne : ((strOfNums (bytesR xs)).toList == (strOfNums (bytesR ys)).toList) = false := str_ne (fun h => he (bytesR_inj xs ys M1.out M2.out R1.out R2.out (strOf_inj (bytesR_range xs) (bytesR_range ys) h)))
        clear he
        generalize strOfNums (bytesR xs) = k1 at hne ⊢
        generalize strOfNums (bytesR ys) = k2 at hne ⊢
        go_wp2_with fail
        go_at_call 14
        refine (rSame_any v u xs ys w5 E1.out E2.out (by have := L1.out; omega)).mono ?_
        rintro e w6 ⟨rfl, hb1⟩
        rewrite [HS.out]
        have FB := Kept.mk (bel_next EB.out hb1)
        clear hb1
        go_wp2_with fail
        go_returns
        exact ⟨rfl, FB.out⟩
end Go.Proofs.Ytbncnlendichjaa
