/- Layer 5 (value): bytes, texts between quotes, walked. -/
import Derived.Test.YtmibpaegcbaaaaaValE
import Derived.Test.YtmibpaegcbaaaaaValQ
import Derived.Laws.BitsAllLaws
namespace Go.Proofs.Ytmibpaegcbaaaaa
open Go.RowKit
set_option linter.unusedVariables false
set_option linter.unusedSimpArgs false

theorem hex_any (b : UInt8) (w : World) : Calls Try.prog 48 #[.int .u8 (b.toNat : Int)] w (fun e w' => e = .returned (.int .u8 (hexN b : Int)) ∧ w = w') := by
  go_enter Try.func48, Try.ntmps48
  go_wp2
  all_goals go_returns
  all_goals refine ⟨congrArg Ending.returned (congrArg (Value.int IntKind.u8) (?_ : _ = _)), rfl⟩
  all_goals (simp only [hexN]; split <;> (try split) <;> omega)
theorem plain_any (b : UInt8) (w : World) : Calls Try.prog 49 #[.int .u8 (b.toNat : Int)] w (fun e w' => e = .returned (.bool (plainB b)) ∧ w = w') := by
  go_enter Try.func49, Try.ntmps49
  go_wp2
  all_goals go_returns
  all_goals refine ⟨?_, rfl⟩
  all_goals apply congrArg Ending.returned
  all_goals apply congrArg Value.bool
  all_goals rw [Bool.eq_iff_iff]
  all_goals simp [plainB]
  all_goals try omega
theorem digN_nat (n : Nat) (h : n < 16) : (digN n).toNat = if n < 10 then 48 + n else 87 + n := by
  unfold digN
  split <;> (rw [UInt8.toNat_ofNat']; omega)
theorem digit_any (n : Nat) (h : n < 16) (w : World) : Calls Try.prog 90 #[.int .u8 (n : Int)] w (fun e w' => e = .returned (.int .u8 ((digN n).toNat : Int)) ∧ w = w') := by
  go_enter Try.func90, Try.ntmps90
  go_wp2
  all_goals go_returns
  all_goals refine ⟨congrArg Ending.returned (congrArg (Value.int IntKind.u8) (?_ : _ = _)), rfl⟩
  all_goals rw [digN_nat n h]
  all_goals (split <;> omega)
theorem shl_or : ∀ a b : Fin 16, bits .or .u8 (((a.val : Nat) : Int) * 16) ((b.val : Nat) : Int) = ((16 * a.val + b.val : Nat) : Int) := by decide +kernel
theorem byteN_nat {h l : Nat} (h1 : h ≤ 15) (h2 : l ≤ 15) : (byteN h l).toNat = 16 * h + l := by
  unfold byteN
  rw [UInt8.toNat_ofNat']
  omega
end Go.Proofs.Ytmibpaegcbaaaaa
