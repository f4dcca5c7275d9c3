/- Layer 7 (schema): the reference's May and Same: walked. -/
import Derived.Test.YtnidaahimofppaaGreatQpai
namespace Go.Proofs.YtnidaahimofppaaGreat
open Go.RowKit Go.Shelf
set_option linter.unusedVariables false
set_option linter.unusedSimpArgs false

def RmC (cs : List Cl) (w : World) (v3 : Value) (wr : World) : Prop := ∃ (i nd : Nat), v3 = .int .i64 (i : Int) ∧ wr = w.drewN nd ∧ Kept (i ≤ cs.length ∧ ∀ k, k < i → okAt cs k = true)
def RnC (cs : List Cl) (i : Nat) (s : ByteArray) (w : World) (v4 : Value) (wr : World) : Prop := ∃ (j nd : Nat), v4 = .int .i64 (j : Int) ∧ wr = w.drewN nd ∧ Kept (j ≤ i ∧ ∀ m, m < j → ∀ h : m < cs.length, cs[m].s ≠ s)
theorem drewN_0 (w : World) : w = w.drewN 0 := rfl
set_option maxRecDepth 100000 in
set_option maxHeartbeats 2000000 in
theorem rcMay_any (A : Option Addr) (len cap : Nat) (cs : List Cl) (w : World) (H : HasC w w.heap.size (.slice A len cap) cs) (hz : ∀ x ∈ cs, SzB x.s) :
    Calls Tryz.prog 18 #[.slice A len cap] w (fun e w' => e = .returned (.bool (mayC cs)) ∧ Below w.heap.size w w') := by
  obtain ⟨rfl, hcap, hA⟩ := H.opn
  by_cases hl : 1 ≤ cs.length ∧ cs.length ≤ 8
  · have HL := Kept.mk hl
    have HZ := Kept.mk hz
    have i0 : ((cs.length : Int) == 0) = false := by rw [beq_eq_false_iff_ne]; omega
    have i00 : ¬ cs = [] := by rintro rfl; simp at hl
    have i1 : ¬ (8 < (cs.length : Int)) := by omega
    obtain ⟨b, off, rfl, hb, hcell⟩ := hA i00
    have HC := Kept.mk hcell
    clear hA hl hz hcell H
    go_enter Tryz.func18, Tryz.ntmps18
    go_wp2_with fail
    clear i0 i00 i1
    go_loopw [3] (fun v3 wr => RmC cs w v3 wr) (fun v3 wr => cs.length - (intOf v3).toNat)
    case atStart => exact ⟨0, 0, rfl, rfl, ⟨Nat.zero_le _, fun k hk => by omega⟩⟩
    case round =>
      obtain ⟨i, nd, rfl, rfl, HI⟩ := hrel
      by_cases ci : i < cs.length
      · have ci' : (i : Int) < (cs.length : Int) := by omega
        have f0 : 0 ≤ (i : Int) := by omega
        have hw : wrap64 ((i : Int) + 1) = (i : Int) + 1 := by have := HL.out; simp only [wrap64]; omega
        obtain ⟨e0, e1⟩ := HC.out i ci
        have hsz := HZ.out cs[i] (List.getElem_mem ci)
        have HCI := Kept.mk ci
        have HON := Kept.mk (okAt_n ci)
        have HOK := Kept.mk (okAt_k ci)
        have HOI := Kept.mk (okAt_iff ci)
        have HB := Kept.mk (mayC_bad i ci)
        unfold goodC at HOI
        generalize hx : cs[i] = x at e0 e1 hsz HON HOK HOI
        have HX := Kept.mk hx
        clear hx
        obtain ⟨xs, xk⟩ := x
        simp only at e0 e1 hsz HON HOK HOI
        cases n1 : nameN (tx xs) with
        | false =>
          have hv := HB.out (HON.out n1)
          go_wp2_with (first | (go_at_call 19; refine (rName_any xs hsz _).mono ?_; rintro e w6 ⟨rfl, rfl⟩; rewrite [n1]))
          go_returns
          first | exact ⟨congrArg Ending.returned (congrArg Value.bool hv.symm), below_drewN (Below.refl _ _) _⟩ | exact ⟨rfl, below_drewN (Below.refl _ _) _⟩
        | true =>
          cases k1 : kindB xk with
          | false =>
            have hv := HB.out (HOK.out k1)
            have k12 : ¬ xk = 1 ∧ ¬ xk = 2 := by simpa [kindB] using k1
            obtain ⟨k3, k4⟩ := k12
            have k5 : (xk == 1) = false := by rw [beq_eq_false_iff_ne]; exact k3
            have k6 : (xk == 2) = false := by rw [beq_eq_false_iff_ne]; exact k4
            have k7 : (xk != 1) = true := by simp [bne, k5]
            have k8 : (xk != 2) = true := by simp [bne, k6]
            clear k1
            go_wp2_with (first | (go_at_call 19; refine (rName_any xs hsz _).mono ?_; rintro e w6 ⟨rfl, rfl⟩; rewrite [n1]))
            go_returns
            first | exact ⟨congrArg Ending.returned (congrArg Value.bool hv.symm), below_drewN (Below.refl _ _) _⟩ | exact ⟨rfl, below_drewN (Below.refl _ _) _⟩
          | true =>
            have HG : Kept (nameN (tx xs) = true ∧ kindB xk = true) := ⟨⟨n1, k1⟩⟩
            have k12 : xk = 1 ∨ xk = 2 := by simpa [kindB] using k1
            clear k1
            have N1 := Kept.mk n1
            clear n1
            rcases k12 with rfl | rfl
            · go_wp2_with (first | (go_at_call 19; refine (rName_any xs hsz _).mono ?_; rintro e w6 ⟨rfl, rfl⟩; rewrite [N1.out]))
              go_loopw [4] (fun v4 wr => RnC cs i xs w v4 wr) (fun v4 wr => i - (intOf v4).toNat)
              case atStart => exact ⟨0, nd, rfl, rfl, ⟨Nat.zero_le _, fun k hk => by omega⟩⟩
              case round =>
                obtain ⟨j, nd2, rfl, rfl, HJ⟩ := hrel
                by_cases cj : j < i
                · have cj' : (j : Int) < (i : Int) := by omega
                  have hjl : j < cs.length := by omega
                  have cjl : (j : Int) < (cs.length : Int) := by omega
                  have g0 : 0 ≤ (j : Int) := by omega
                  have hw2 : wrap64 ((j : Int) + 1) = (j : Int) + 1 := by have := HL.out; simp only [wrap64]; omega
                  obtain ⟨p0, _⟩ := HC.out j hjl
                  have HCJ := Kept.mk cj
                  by_cases hs : cs[j].s = xs
                  · have hv : mayC cs = false := HB.out (Bool.eq_false_iff.2 (fun h => (HOI.out.1 h).2 j cj hs))
                    rw [hs] at p0
                    clear hs
                    go_wp2_with fail
                    go_quiet (fail)
                    go_wp2_with fail
                    go_returns
                    first | exact ⟨congrArg Ending.returned (congrArg Value.bool hv.symm), below_drewN (below_drewN (Below.refl _ _) _) _⟩ | exact ⟨rfl, below_drewN (below_drewN (Below.refl _ _) _) _⟩
                  · have hsb := sne hs
                    have HNE : Kept (∀ m, m < j + 1 → ∀ h : m < cs.length, cs[m].s ≠ xs) := ⟨fun m hm h => by
                      by_cases hmj : m < j
                      · exact HJ.out.2 m hmj h
                      · obtain rfl : m = j := by omega
                        exact hs⟩
                    generalize cs[j].s = ys at p0 hsb
                    clear hs
                    go_wp2_with fail
                    go_quiet (fail)
                    go_wp2_with fail
                    exact ⟨⟨j + 1, _, by first | rfl | (rw [hw2]; rfl), rfl, ⟨HCJ.out, HNE.out⟩⟩, by first | exact less_step hw2 HCJ.out | exact less_bare' HCJ.out⟩
                · have cj' : ¬ ((j : Int) < (i : Int)) := by omega
                  have hj : j = i := by have := HJ.out.1; omega
                  have HNX : Kept (∀ k, k < i + 1 → okAt cs k = true) := ⟨fun k hk => by
                    by_cases hki : k < i
                    · exact HI.out.2 k hki
                    · obtain rfl : k = i := by omega
                      exact HOI.out.2 ⟨by rw [HG.out.1, HG.out.2]; rfl, fun m hm => HJ.out.2 m (by omega) (by omega)⟩⟩
                  clear cj hj
                  go_wp2_with fail
                  exact ⟨⟨i + 1, _, by first | rfl | (rw [hw]; rfl), rfl, ⟨HCI.out, HNX.out⟩⟩, by first | exact less_step hw HCI.out | exact less_bare' HCI.out⟩
            · go_wp2_with (first | (go_at_call 19; refine (rName_any xs hsz _).mono ?_; rintro e w6 ⟨rfl, rfl⟩; rewrite [N1.out]))
              go_loopw [4] (fun v4 wr => RnC cs i xs w v4 wr) (fun v4 wr => i - (intOf v4).toNat)
              case atStart => exact ⟨0, nd, rfl, rfl, ⟨Nat.zero_le _, fun k hk => by omega⟩⟩
              case round =>
                obtain ⟨j, nd2, rfl, rfl, HJ⟩ := hrel
                by_cases cj : j < i
                · have cj' : (j : Int) < (i : Int) := by omega
                  have hjl : j < cs.length := by omega
                  have cjl : (j : Int) < (cs.length : Int) := by omega
                  have g0 : 0 ≤ (j : Int) := by omega
                  have hw2 : wrap64 ((j : Int) + 1) = (j : Int) + 1 := by have := HL.out; simp only [wrap64]; omega
                  obtain ⟨p0, _⟩ := HC.out j hjl
                  have HCJ := Kept.mk cj
                  by_cases hs : cs[j].s = xs
                  · have hv : mayC cs = false := HB.out (Bool.eq_false_iff.2 (fun h => (HOI.out.1 h).2 j cj hs))
                    rw [hs] at p0
                    clear hs
                    go_wp2_with fail
                    go_quiet (fail)
                    go_wp2_with fail
                    go_returns
                    first | exact ⟨congrArg Ending.returned (congrArg Value.bool hv.symm), below_drewN (below_drewN (Below.refl _ _) _) _⟩ | exact ⟨rfl, below_drewN (below_drewN (Below.refl _ _) _) _⟩
                  · have hsb := sne hs
                    have HNE : Kept (∀ m, m < j + 1 → ∀ h : m < cs.length, cs[m].s ≠ xs) := ⟨fun m hm h => by
                      by_cases hmj : m < j
                      · exact HJ.out.2 m hmj h
                      · obtain rfl : m = j := by omega
                        exact hs⟩
                    generalize cs[j].s = ys at p0 hsb
                    clear hs
                    go_wp2_with fail
                    go_quiet (fail)
                    go_wp2_with fail
                    exact ⟨⟨j + 1, _, by first | rfl | (rw [hw2]; rfl), rfl, ⟨HCJ.out, HNE.out⟩⟩, by first | exact less_step hw2 HCJ.out | exact less_bare' HCJ.out⟩
                · have cj' : ¬ ((j : Int) < (i : Int)) := by omega
                  have hj : j = i := by have := HJ.out.1; omega
                  have HNX : Kept (∀ k, k < i + 1 → okAt cs k = true) := ⟨fun k hk => by
                    by_cases hki : k < i
                    · exact HI.out.2 k hki
                    · obtain rfl : k = i := by omega
                      exact HOI.out.2 ⟨by rw [HG.out.1, HG.out.2]; rfl, fun m hm => HJ.out.2 m (by omega) (by omega)⟩⟩
                  clear cj hj
                  go_wp2_with fail
                  exact ⟨⟨i + 1, _, by first | rfl | (rw [hw]; rfl), rfl, ⟨HCI.out, HNX.out⟩⟩, by first | exact less_step hw HCI.out | exact less_bare' HCI.out⟩
      · have hv : mayC cs = true := mayC_iff.2 ⟨HL.out, fun k hk => HI.out.2 k (by omega)⟩
        have ci' : ¬ ((i : Int) < (cs.length : Int)) := by omega
        go_wp2_with fail
        go_returns
        first | exact ⟨congrArg Ending.returned (congrArg Value.bool hv.symm), below_drewN (Below.refl _ _) _⟩ | exact ⟨rfl, below_drewN (Below.refl _ _) _⟩
  · have hv := mayC_len0 hl
    by_cases h8 : 8 < cs.length
    · have i0 : ((cs.length : Int) == 0) = false := by rw [beq_eq_false_iff_ne]; omega
      have i00 : ¬ cs = [] := by rintro rfl; simp at h8
      have i1 : 8 < (cs.length : Int) := by omega
      go_enter Tryz.func18, Tryz.ntmps18
      go_wp2_with fail
      go_returns
      first | exact ⟨congrArg Ending.returned (congrArg Value.bool hv.symm), Below.refl _ _⟩ | exact ⟨rfl, Below.refl _ _⟩
    · have i00 : cs = [] := List.eq_nil_of_length_eq_zero (by omega)
      subst i00
      go_enter Tryz.func18, Tryz.ntmps18
      go_wp2_with fail
      go_returns
      first | exact ⟨congrArg Ending.returned (congrArg Value.bool hv.symm), Below.refl _ _⟩ | exact ⟨rfl, Below.refl _ _⟩
def SmC (xs ys : List Cl) (w : World) (v13 : Value) (wr : World) : Prop := ∃ (i nd : Nat), v13 = .int .i64 (i : Int) ∧ wr = w.drewN nd ∧ Kept (i ≤ xs.length ∧ sameC xs ys = sameC (xs.drop i) (ys.drop i))
end Go.Proofs.YtnidaahimofppaaGreat
