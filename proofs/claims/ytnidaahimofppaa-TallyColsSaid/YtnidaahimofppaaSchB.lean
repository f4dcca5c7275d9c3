/- Layer 7 (schema): the reference's Alike, Fits, Index: walked. -/
import Derived.Test.YtnidaahimofppaaSchS
namespace Go.Proofs.Ytnidaahimofppaa
open Go.RowKit Go.Shelf
set_option linter.unusedVariables false
set_option linter.unusedSimpArgs false

def RiI (cs : List Cl) (s : ByteArray) (w : World) (v5 : Value) (wr : World) : Prop := ∃ i : Nat, v5 = .int .i64 (i : Int) ∧ wr = w ∧ Kept (i ≤ cs.length ∧ ∀ j, (hj : j < i) → (hl : j < cs.length) → cs[j].s ≠ s)
set_option maxRecDepth 100000 in
set_option maxHeartbeats 2000000 in
theorem rcIndex_any (v : Value) (cs : List Cl) (s : ByteArray) (w : World) (H : HasC w w.heap.size v cs) (hN : cs.length ≤ 140737488355328) :
    Calls Try.prog 20 #[v, .string s] w (fun e w' => e = .returned (.int .i64 (idx cs s)) ∧ Below w.heap.size w w') := by
  obtain ⟨A, c, rfl, _, hA⟩ := H
  have HA := Kept.mk hA
  have HN := Kept.mk hN
  clear hA hN
  go_enter Try.func20, Try.ntmps20
  go_wp2_with fail
  go_loopw [5] (fun v5 wr => RiI cs s w v5 wr) (fun v5 wr => cs.length - (intOf v5).toNat)
  case atStart => exact ⟨0, rfl, rfl, ⟨Nat.zero_le _, fun j hj => by omega⟩⟩
  case round =>
    obtain ⟨i, rfl, rfl, HI⟩ := hrel
    by_cases ci : i < cs.length
    · have hne : cs ≠ [] := by rintro rfl; simp at ci
      obtain ⟨b1, o1, rfl, hb1, hc1⟩ := HA.out hne
      obtain ⟨e0, e1⟩ := hc1 i ci
      have ci' : (i : Int) < (cs.length : Int) := by omega
      have f0 : 0 ≤ (i : Int) := by omega
      have hw : wrap64 ((i : Int) + 1) = (i : Int) + 1 := by have := HN.out; simp only [wrap64]; omega
      have HCI := Kept.mk ci
      by_cases hs : cs[i].s = s
      · have hv : Kept (idx cs s = (i : Int)) := ⟨idx_some i ci hs (fun j hj => HI.out.2 j hj (by omega))⟩
        rw [hs] at e0
        clear hs hc1 hne
        go_wp2_with fail
        go_returns
        exact ⟨by rw [hv.out]; rfl, Below.refl _ _⟩
      · have HNX : Kept (∀ j, (hj : j < i + 1) → (hl : j < cs.length) → cs[j].s ≠ s) := ⟨fun j hj hl => by
          by_cases hji : j < i
          · exact HI.out.2 j hji hl
          · obtain rfl : j = i := by omega
            exact hs⟩
        have hsb := sne hs
        generalize cs[i].s = t at e0 hsb
        clear hs hc1 hne
        go_wp2_with fail
        exact ⟨⟨i + 1, by first | rfl | (rw [hw]; rfl), rfl, ⟨HCI.out, HNX.out⟩⟩, by first | exact less_step hw HCI.out | exact less_bare' HCI.out⟩
    · have hv : Kept (idx cs s = -1) := ⟨idx_none (fun x hx e => by
        obtain ⟨j, hj, rfl⟩ := List.getElem_of_mem hx
        exact HI.out.2 j (by omega) hj e)⟩
      have ci' : ¬ ((i : Int) < (cs.length : Int)) := by omega
      clear ci
      go_wp2_with fail
      go_returns
      exact ⟨by rw [hv.out]; rfl, Below.refl _ _⟩
end Go.Proofs.Ytnidaahimofppaa
