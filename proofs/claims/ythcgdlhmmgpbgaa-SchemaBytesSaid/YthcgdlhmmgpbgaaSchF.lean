/- Layer 7 (schema): schemas' bytes; the reference's, walked. -/
import Derived.Test.YthcgdlhmmgpbgaaSchV
import Derived.Test.YthcgdlhmmgpbgaaSchS
import Derived.Test.YthcgdlhmmgpbgaaBinX
namespace Go.Proofs.Ythcgdlhmmgpbgaa
open Go.RowKit
set_option linter.unusedVariables false
set_option linter.unusedSimpArgs false

def catC (xs : List Cl) : List Int := xs.flatMap fun x => textB x.s ++ [x.k]
theorem catC_snoc (xs : List Cl) (x : Cl) : catC (xs ++ [x]) = catC xs ++ textB x.s ++ [x.k] := by simp [catC]
theorem textB_len16 {s : ByteArray} (h : s.size ≤ 16) : (textB s).length ≤ 26 := by
  have := enc_len10 s.size (by omega)
  simp only [textB, List.length_append, bytesOf_len]
  omega
theorem catC_len (xs : List Cl) (h : ∀ x ∈ xs, x.s.size ≤ 16) : (catC xs).length ≤ 27 * xs.length := by
  induction xs with
  | nil => simp [catC]
  | cons x r ih =>
    have h0 := textB_len16 (h x (by simp))
    have := ih (fun y hy => h y (by simp [hy]))
    simp only [catC, List.flatMap_cons, List.length_append, List.length_cons, List.length_nil] at this ⊢
    omega
theorem mayC_kind {cs : List Cl} (h : mayC cs = true) : ∀ x ∈ cs, x.k = 1 ∨ x.k = 2 := by
  intro x hx
  obtain ⟨i, hi, rfl⟩ := List.getElem_of_mem hx
  have := (mayC_iff.1 h).2 i hi
  simp only [okAt, dif_pos hi, kindB, Bool.and_eq_true, Bool.or_eq_true, decide_eq_true_eq] at this
  exact this.1.2
def bytesC (xs : List Cl) : List Int := if mayC xs = true then (xs.length : Int) :: catC xs else []
theorem bytesC_len (xs : List Cl) : (bytesC xs).length ≤ 601 := by
  unfold bytesC
  split
  · rename_i h
    have := (mayC_iff.1 h).1
    have := catC_len xs (mayC_size h)
    simp only [List.length_cons]; omega
  · simp
theorem textB_range (s : ByteArray) : ∀ b ∈ textB s, 0 ≤ b ∧ b ≤ 255 := by
  intro b hb
  simp only [textB, List.mem_append] at hb
  rcases hb with h | h
  · exact enc_bytes _ b h
  · exact bytesOf_range s b h
theorem bytesC_range (xs : List Cl) : ∀ b ∈ bytesC xs, 0 ≤ b ∧ b ≤ 255 := by
  intro b hb
  unfold bytesC at hb
  split at hb
  · rename_i h
    have := (mayC_iff.1 h).1
    simp only [List.mem_cons, catC, List.mem_flatMap, List.mem_append, List.not_mem_nil, or_false] at hb
    rcases hb with rfl | ⟨x, hx, hx2⟩
    · omega
    · rcases hx2 with hx2 | rfl
      · exact textB_range _ b hx2
      · have := mayC_kind h x hx
        omega
  · simp at hb
def BtC (xs : List Cl) (w : World) (v15 v3 : Value) (wr : World) : Prop := ∃ (i : Nat) (r : Array Obj) (d : Nat), v15 = .int .i64 (i : Int) ∧ wr = xw w r d ∧ Kept (i ≤ xs.length ∧ Own wr w.heap.size 5 v3 (u8s ((xs.length : Int) :: catC (xs.take i))))
set_option maxRecDepth 100000 in
set_option maxHeartbeats 2000000 in
theorem rcBytes_any (v : Value) (xs : List Cl) (w : World) (H : HasC w w.heap.size v xs) :
    Calls Try.prog 33 #[v] w (RetB w (bytesC xs)) := by
  have h1 := Kept.mk H
  obtain ⟨A, c, rfl, _, hA⟩ := H
  have HA := Kept.mk hA
  clear hA
  cases m1 : mayC xs with
  | false =>
    have hv : bytesC xs = [] := by simp [bytesC, m1]
    rw [hv]
    clear hv
    have M1 := Kept.mk m1
    clear m1
    go_enter Try.func33, Try.ntmps33
    go_wp2_with (first
      | (go_at_call 18; refine (rcMay_any _ _ _ xs _ h1.out (fun _ _ => trivial)).mono ?_; rintro e w1 ⟨rfl, hb1⟩; obtain ⟨r1, d1, rfl⟩ := xw_of hb1; clear hb1; rewrite [M1.out]))
    go_ret
    exact ⟨_, rfl, Own.nil _ _ _, xw_below _ _ _⟩
  | true =>
    have hv : bytesC xs = (xs.length : Int) :: catC xs := by simp [bytesC, m1]
    rw [hv]
    clear hv
    have M1 := Kept.mk m1
    have hl8 := (mayC_iff.1 m1).1
    have L1 := Kept.mk hl8
    have hu8 : (xs.length : Int) % 256 = (xs.length : Int) := by omega
    have HSZ := Kept.mk (mayC_size m1)
    have HKD := Kept.mk (mayC_kind m1)
    clear m1
    go_enter Try.func33, Try.ntmps33
    go_wp2_with (first
      | (go_at_call 18; refine (rcMay_any _ _ _ xs _ h1.out (fun _ _ => trivial)).mono ?_; rintro e w1 ⟨rfl, hb1⟩; obtain ⟨r1, d1, rfl⟩ := xw_of hb1; clear hb1; rewrite [M1.out]))
    have HO : Kept (Own ((xw w r1 d1).alloc (.cells #[.int .u8 (xs.length : Int)] 5)) w.heap.size 5 (.slice (some ⟨(xw w r1 d1).heap.size, 0, none⟩) 1 1) (u8s [(xs.length : Int)])) := ⟨Own.lit _ _ _ [.int .u8 (xs.length : Int)] (by rw [xw_size]; omega) (by simp [maxLen])⟩
    rewrite [alloc_xw, xw_xw] at HO
    rewrite [alloc_xw, xw_xw]
    clear hl8 hu8
    go_loopw [4, 3] (fun v4 v3 wr => BtC xs w v4 v3 wr) (fun v4 v3 wr => xs.length - (intOf v4).toNat)
    case atStart => exact ⟨0, _, _, rfl, rfl, ⟨Nat.zero_le _, HO.out⟩⟩
    case round =>
      obtain ⟨i, r, d, rfl, rfl, HI⟩ := hrel
      clear HO
      by_cases ci : i < xs.length
      · have hne : xs ≠ [] := by rintro rfl; simp at ci
        obtain ⟨b1, o1, rfl, hb1, hc1⟩ := HA.out hne
        obtain ⟨e0, e1⟩ := hc1 i ci
        have ci' : (i : Int) < (xs.length : Int) := by omega
        have f0 : 0 ≤ (i : Int) := by omega
        have hw : wrap64 ((i : Int) + 1) = (i : Int) + 1 := by have := L1.out; simp only [wrap64]; omega
        have HCI := Kept.mk ci
        have HRX := Kept.mk (HSZ.out xs[i] (List.getElem_mem ci))
        have HKX := HKD.out xs[i] (List.getElem_mem ci)
        have hku : xs[i].k % 256 = xs[i].k := by omega
        have HT : Kept (xs.take (i + 1) = xs.take i ++ [xs[i]]) := ⟨List.take_succ_eq_append_getElem ci⟩
        have HCL : Kept ((catC (xs.take i)).length ≤ 300) := ⟨by
          have hj := catC_len (xs.take i) (fun x hx => HSZ.out x (List.mem_of_mem_take hx))
          have := L1.out
          rw [List.length_take] at hj
          omega⟩
        generalize xs[i] = x at e0 e1 HRX HT hku HKX
        obtain ⟨xs', xk⟩ := x
        simp only at e0 e1 HRX hku HKX
        have HBL := Kept.mk (textB_len16 HRX.out)
        clear hc1 hne ci HKX
        go_wp2_with (first
          | (go_at_call 57; refine (rText_any xs' (by have := HRX.out; omega) _).mono ?_; rintro e w2 ⟨vb, rfl, hOb, hb2⟩; obtain ⟨r2, d2, rfl⟩ := xw_of hb2; clear hb2; rewrite [xw_xw] at hOb; have HOb := Kept.mk hOb; clear hOb)
          | ((at_builtin); refine app_own (w0 := w) (W := _) rfl (.tmp 18) (.tmp 24) 47 5 (.int .u8 0) 1 rfl Try.underlying47 infoB rfl (by decide) _ (u8s ((xs.length : Int) :: catC (xs.take i))) _ vb (u8s (textB xs')) rfl rfl (u8s_one _) ?c1 HOb.out ?c2 ?c3 ?_; (case c1 => have h := HI.out.2.xw r2 d2; rwa [xw_xw] at h); (case c2 => exact xw_below _ _ _); (case c3 => have := HCL.out; have := HBL.out; simp only [u8s_len, List.length_cons]; omega); intro v1 r3 d3 hO3; have HO3 := Kept.mk hO3; clear hO3)
          | ((at_builtin); refine app_one (w0 := w) (W := _) rfl (.tmp 26) (.tmp 33) 47 5 (.int .u8 0) 1 rfl Try.underlying47 infoB rfl (by decide) _ (u8s ((xs.length : Int) :: catC (xs.take i)) ++ u8s (textB xs')) (.int .u8 xk) rfl rfl rfl HO3.out ?c2 ?c3 ?_; (case c2 => exact xw_below _ _ _); (case c3 => have := HCL.out; have := HBL.out; simp only [List.length_append, u8s_len, List.length_cons]; omega); intro v4 r5 d5 hO5; have HO5 := Kept.mk hO5; clear hO5))
        refine ⟨⟨i + 1, _, _, by first | rfl | (rw [hw]; rfl), rfl, ⟨HCI.out, ?_⟩⟩, by first | exact less_step hw HCI.out | exact less_bare HCI.out⟩
        rw [HT.out, catC_snoc, ← List.cons_append, ← List.cons_append, u8s_app, u8s_app]
        exact HO5.out
      · have ci' : ¬ ((i : Int) < (xs.length : Int)) := by omega
        have hi : i = xs.length := by have := HI.out.1; omega
        have HO2 := HI.out.2
        rw [hi, List.take_length] at HO2
        have HO3 := Kept.mk HO2
        clear ci hi HO2
        go_wp2_with fail
        go_ret
        exact ⟨_, rfl, HO3.out, xw_below _ _ _⟩
end Go.Proofs.Ythcgdlhmmgpbgaa
