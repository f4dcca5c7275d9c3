/- Layer 6 (row): rows' bytes, walked; the program's and the reference's. -/
import Derived.Test.YtnidaahimofppaaGreatQpak
import Derived.Test.YtnidaahimofppaaGreatQpaq
namespace Go.Proofs.YtnidaahimofppaaGreat
open Go.RowKit
set_option linter.unusedVariables false
set_option linter.unusedSimpArgs false

def catB (xs : List Vr) : List Int := xs.flatMap fun x => bytesV x.k x.n x.s
theorem catB_snoc (xs : List Vr) (x : Vr) : catB (xs ++ [x]) = catB xs ++ bytesV x.k x.n x.s := by simp [catB]
theorem catB_len (xs : List Vr) (hr : RngR xs) : (catB xs).length ≤ 75 * xs.length := by
  induction xs with
  | nil => simp [catB]
  | cons x r ih =>
    have h := hr x (by simp)
    have := bytesV_len x.k x.n h.1 h.2 x.s
    have := ih (fun y hy => hr y (by simp [hy]))
    simp only [catB, List.flatMap_cons, List.length_append, List.length_cons] at this ⊢
    omega
def bytesR (xs : List Vr) : List Int := if mayR xs = true then (xs.length : Int) :: catB xs else []
theorem bytesR_len (xs : List Vr) (hr : RngR xs) : (bytesR xs).length ≤ 601 := by
  unfold bytesR
  split
  · rename_i h
    have := (mayR_iff.1 h).1
    have := catB_len xs hr
    simp only [List.length_cons]; omega
  · simp
theorem bytesR_range (xs : List Vr) : ∀ b ∈ bytesR xs, 0 ≤ b ∧ b ≤ 255 := by
  intro b hb
  unfold bytesR at hb
  split at hb
  · rename_i h
    have := (mayR_iff.1 h).1
    simp only [List.mem_cons, catB, List.mem_flatMap] at hb
    rcases hb with rfl | ⟨x, _, hx⟩
    · omega
    · exact bytesV_range _ _ _ b hx
  · simp at hb
def BtI (xs : List Vr) (w : World) (v15 v3 : Value) (wr : World) : Prop := ∃ (i : Nat) (r : Array Obj) (d : Nat), v15 = .int .i64 (i : Int) ∧ wr = xw w r d ∧ Kept (i ≤ xs.length ∧ Own wr w.heap.size 5 v3 (u8s ((xs.length : Int) :: catB (xs.take i))))
set_option maxRecDepth 100000 in
set_option maxHeartbeats 2000000 in
theorem rowBytes_any (v : Value) (xs : List Vr) (hr : RngR xs) (w : World) (H : HasR w w.heap.size v xs) :
    Calls Tryz.prog 34 #[v] w (RetB w (bytesR xs)) := by
  have h1 := Kept.mk H
  have HRG := Kept.mk hr
  obtain ⟨A, c, rfl, _, hA⟩ := H
  have HA := Kept.mk hA
  clear hA hr
  cases m1 : mayR xs with
  | false =>
    have hv : bytesR xs = [] := by simp [bytesR, m1]
    rw [hv]
    clear hv
    have M1 := Kept.mk m1
    clear m1
    go_enter Tryz.func34, Tryz.ntmps34
    go_wp2_with (first
      | (go_at_call 31; refine (May_any _ xs _ h1.out).mono ?_; rintro e w1 ⟨rfl, hb1⟩; obtain ⟨r1, d1, rfl⟩ := xw_of hb1; clear hb1; rewrite [M1.out]))
    go_ret
    exact ⟨_, rfl, Own.nil _ _ _, xw_below _ _ _⟩
  | true =>
    have hv : bytesR xs = (xs.length : Int) :: catB xs := by simp [bytesR, m1]
    rw [hv]
    clear hv
    have M1 := Kept.mk m1
    have hl8 := (mayR_iff.1 m1).1
    have L1 := Kept.mk hl8
    have hu8 : (xs.length : Int) % 256 = (xs.length : Int) := by omega
    clear m1
    go_enter Tryz.func34, Tryz.ntmps34
    go_wp2_with (first
      | (go_at_call 31; refine (May_any _ xs _ h1.out).mono ?_; rintro e w1 ⟨rfl, hb1⟩; obtain ⟨r1, d1, rfl⟩ := xw_of hb1; clear hb1; rewrite [M1.out]))
    have HO : Kept (Own ((xw w r1 d1).alloc (.cells #[.int .u8 (xs.length : Int)] 5)) w.heap.size 5 (.slice (some ⟨(xw w r1 d1).heap.size, 0, none⟩) 1 1) (u8s [(xs.length : Int)])) := ⟨Own.lit _ _ _ [.int .u8 (xs.length : Int)] (by rw [xw_size]; omega) (by simp [maxLen])⟩
    rewrite [alloc_xw, xw_xw] at HO
    rewrite [alloc_xw, xw_xw]
    clear hl8 hu8
    go_loopw [15, 3] (fun v15 v3 wr => BtI xs w v15 v3 wr) (fun v15 v3 wr => xs.length - (intOf v15).toNat)
    case atStart => exact ⟨0, _, _, rfl, rfl, ⟨Nat.zero_le _, HO.out⟩⟩
    case round =>
      obtain ⟨i, r, d, rfl, rfl, HI⟩ := hrel
      clear HO
      by_cases ci : i < xs.length
      · have hne : xs ≠ [] := by rintro rfl; simp at ci
        obtain ⟨b1, o1, rfl, hb1, hc1⟩ := HA.out hne
        obtain ⟨e0, e1, e2⟩ := hc1 i ci
        have ci' : (i : Int) < (xs.length : Int) := by omega
        have f0 : 0 ≤ (i : Int) := by omega
        have hw : wrap64 ((i : Int) + 1) = (i : Int) + 1 := by have := L1.out; simp only [wrap64]; omega
        have HCI := Kept.mk ci
        have HRX := Kept.mk (HRG.out xs[i] (List.getElem_mem ci))
        have HT : Kept (xs.take (i + 1) = xs.take i ++ [xs[i]]) := ⟨List.take_succ_eq_append_getElem ci⟩
        have HCL : Kept ((catB (xs.take i)).length ≤ 600) := ⟨by
          have hj := catB_len (xs.take i) (fun x hx => HRG.out x (List.mem_of_mem_take hx))
          have := L1.out
          rw [List.length_take] at hj
          omega⟩
        generalize xs[i] = x at e0 e1 e2 HRX HT
        obtain ⟨xk, xn, xs'⟩ := x
        simp only at e0 e1 e2 HRX
        have HBL := Kept.mk (bytesV_len xk xn HRX.out.1 HRX.out.2 xs')
        clear hc1 hne ci
        go_wp2_with (first
          | (go_at_call 50; refine (bytes_any xk xn HRX.out.1 HRX.out.2 xs' _).mono ?_; rintro e w2 ⟨vb, rfl, hOb, hb2⟩; obtain ⟨r2, d2, rfl⟩ := xw_of hb2; clear hb2; have HOb := Kept.mk hOb; clear hOb)
          | ((at_builtin); refine app_own (w0 := w) (W := xw ((xw w r d).alloc (.cells #[.int .i64 xk, .int .i64 xn, .string xs'] 68)) r2 d2) rfl (.tmp 19) (.tmp 21) 102 5 (.int .u8 0) 1 rfl Tryz.underlying102 infoB rfl (by decide) _ (u8s ((xs.length : Int) :: catB (xs.take i))) _ vb (u8s (bytesV xk xn xs')) rfl rfl (u8s_one _) ?c1 HOb.out ?c2 ?c3 ?_; (case c1 => exact (HI.out.2.alloc _).xw r2 d2); (case c2 => exact below_xw ((xw_below w r d).alloc (by rw [xw_size]; omega) _) (by rw [World.size_alloc, xw_size]; omega) r2 d2); (case c3 => have := HCL.out; have := HBL.out; simp only [u8s_len, List.length_cons]; omega); intro v1 r3 d3 hO3; have HO3 := Kept.mk hO3; clear hO3))
        refine ⟨⟨i + 1, _, _, by first | rfl | (rw [hw]; rfl), rfl, ⟨HCI.out, ?_⟩⟩, by first | exact less_step hw HCI.out | exact less_bare HCI.out⟩
        rw [HT.out, catB_snoc, ← List.cons_append, u8s_app]
        exact HO3.out
      · have ci' : ¬ ((i : Int) < (xs.length : Int)) := by omega
        have hi : i = xs.length := by have := HI.out.1; omega
        have HO2 := HI.out.2
        rw [hi, List.take_length] at HO2
        have HO3 := Kept.mk HO2
        clear ci hi HO2
        go_wp2_with fail
        go_ret
        exact ⟨_, rfl, HO3.out, xw_below _ _ _⟩
set_option maxRecDepth 100000 in
theorem Key_any (v : Value) (xs : List Vr) (hr : RngR xs) (w : World) (H : HasR w w.heap.size v xs) :
    Calls Tryz.prog 22 #[v] w (fun e w' => e = .returned (.string (strOfNums (bytesR xs))) ∧ Below w.heap.size w w') := by
  have h1 := Kept.mk H
  clear H
  go_enter Tryz.func22, Tryz.ntmps22
  go_wp2_with (first
    | (go_at_call 34; refine (rowBytes_any v xs hr _ h1.out).mono ?_; rintro e w2 ⟨vb, rfl, hOb, hb2⟩; have HB2 := Kept.mk hb2; clear hb2; have kc := own_string (P := Tryz.prog) (src := 102) (dst := 9) Tryz.underlying102 Tryz.underlying5 Tryz.underlying9 hOb; clear hOb))
  go_returns
  exact ⟨rfl, HB2.out⟩
end Go.Proofs.YtnidaahimofppaaGreat
