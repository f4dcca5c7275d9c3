/- Layer 19 (lex): tokens compared, walked. -/
import Derived.Test.YtlckgloaknjcgaaLexR
namespace Go.Proofs.Ytlckgloaknjcgaa
open Go.RowKit
set_option linter.unusedVariables false
set_option linter.unusedSimpArgs false

def AlI (n : Nat) (w : World) (v5 : Value) (wr : World) : Prop := ∃ (i nd : Nat), v5 = .int .i64 (i : Int) ∧ wr = w.drewN nd ∧ Kept (i ≤ n)
set_option maxRecDepth 100000 in
set_option maxHeartbeats 1000000 in
theorem alike_any (v u : Value) (ts : List Tok) (hn : ts.length ≤ 140737488355328) (w : World) (H1 : HasT w v ts) (H2 : HasT w u ts) :
    Calls Try.prog 10 #[v, u] w (fun e w' => e = .returned (.bool true) ∧ Below w.heap.size w w') := by
  obtain ⟨A, c, rfl, hA⟩ := H1
  obtain ⟨B, d, rfl, hB⟩ := H2
  have HA := Kept.mk hA
  have HB := Kept.mk hB
  have HN := Kept.mk hn
  clear hA hB hn
  go_enter Try.func10, Try.ntmps10
  go_wp2_with fail
  go_loopw [5] (fun v5 wr => AlI ts.length w v5 wr) (fun v5 wr => ts.length - (intOf v5).toNat)
  case atStart => exact ⟨0, 0, rfl, rfl, ⟨Nat.zero_le _⟩⟩
  case round =>
    obtain ⟨i, nd, rfl, rfl, HI⟩ := hrel
    by_cases ci : i < ts.length
    · have hne : ts ≠ [] := by rintro rfl; simp at ci
      obtain ⟨b1, o1, rfl, _, hc1⟩ := HA.out hne
      obtain ⟨b2, o2, rfl, _, hc2⟩ := HB.out hne
      obtain ⟨e0, e1⟩ := hc1 i ci
      obtain ⟨g0, g1⟩ := hc2 i ci
      generalize ts[i] = t at e0 e1 g0 g1
      obtain ⟨k, l⟩ := t
      simp only at e0 e1 g0 g1
      have ci' : (i : Int) < (ts.length : Int) := by omega
      have f0 : 0 ≤ (i : Int) := by omega
      have hw : wrap64 ((i : Int) + 1) = (i : Int) + 1 := by have := HN.out; simp only [wrap64]; omega
      have HCI := Kept.mk ci
      clear hc1 hc2 hne
      go_wp2_with fail
      go_quiet (fail)
      go_wp2_with fail
      go_roundw
      case rel => exact ⟨i + 1, _, by rw [hw]; rfl, rfl, ⟨HCI.out⟩⟩
      case measure => exact less_step hw HCI.out
    · have ci' : ¬ ((i : Int) < (ts.length : Int)) := by omega
      clear ci
      go_wp2_with fail
      go_returns
      exact ⟨rfl, below_drewN (Below.refl _ _) _⟩
end Go.Proofs.Ytlckgloaknjcgaa
