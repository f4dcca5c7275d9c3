/- The functions that write bytes (layer 3), as contracts of their calls: what they return holds the bytes of 'enc'. -/
import Derived.Test.YtnidaahimofppaaProg
import Derived.Test.YtnidaahimofppaaOwn
import Derived.Test.YtnidaahimofppaaBinP
import Derived.WalkLawsBesides
import Derived.Lib.Hide
import Derived.Handy
import Derived.Deep.QuietTactic
import Derived.BigQuiet
import Derived.Deep.LoopGhost
namespace Go.Proofs.Ytnidaahimofppaa
open Go.RowKit
set_option linter.unusedVariables false
set_option linter.unusedSimpArgs false

theorem infoB : (Try.prog.info? 5).map (fun i => (i.zero, i.size, i.bytes)) = some (some (.int .u8 0), 1, 1) := by kernel_rfl
/-- It returns new bytes: these. -/
def RetB (w : World) (xs : List Int) (e : Ending) (w' : World) : Prop := ∃ v, e = .returned v ∧ Own w' w.heap.size 5 v (u8s xs) ∧ Below w.heap.size w w'
theorem or128_small : ∀ z : Fin 256, bits .or .u8 ((z.val : Nat) : Int) 128 = ((z.val % 128 + 128 : Nat) : Int) := by decide +kernel
theorem or128 (y : Nat) : bits .or .u8 ((y : Int) % 256) 128 = ((y % 128 + 128 : Nat) : Int) := by
  have h := or128_small ⟨y % 256, by omega⟩
  have e : ((y % 256 : Nat) : Int) = (y : Int) % 256 := by omega
  simp only at h
  rw [← e, h]
  have : y % 256 % 128 = y % 128 := by omega
  rw [this]
theorem enc_len10 (x : Nat) (h : x < 18446744073709551616) : (enc x).length ≤ 10 := enc_len x 9 (by omega)

set_option maxRecDepth 100000 in
set_option maxHeartbeats 1000000 in
theorem groups_any (x : Nat) (hx : x < 18446744073709551616) (w : World) :
    Calls Try.prog 109 #[.int .u64 x] w (RetB w (enc x)) := by
  have hl := enc_len10 x hx
  have HX := Lib.hid hx
  clear hx
  go_enter Try.func109, Try.ntmps109
  go_wp2
  go_loopw [0, 3] (fun v0 v3 wr => ∃ (y : Nat) (dn : List Int) (r : Array Obj) (d : Nat), v0 = .int .u64 y ∧ wr = xw w r d ∧ Kept (Own (xw w r d) w.heap.size 5 v3 (u8s dn)) ∧ Kept (enc x = dn ++ enc y) ∧ Kept (y < 18446744073709551616)) (fun v0 v3 wr => (intOf v0).toNat)
  case atStart => exact ⟨x, [], _, _, rfl, alloc_xw _ _, ⟨by rw [← alloc_xw]; exact Own.empty w _ _ (Nat.le_refl _)⟩, ⟨rfl⟩, ⟨HX.out⟩⟩
  case round =>
    obtain ⟨y, dn, r, d, rfl, rfl, HO, HE, HY⟩ := hrel
    have hdl : dn.length + (enc y).length ≤ 10 := by have := HE.out ▸ hl; simpa using this
    have hd1 : 1 ≤ (enc y).length := List.length_pos_iff.2 (enc_ne y)
    have HD : Kept (dn.length + 1 ≤ 10) := ⟨by omega⟩
    clear hdl hd1
    by_cases c : y < 128
    · go_wp2_with (first | ((at_builtin); refine app_one (w0 := w) (W := xw w r d) rfl (.tmp 15) (.tmp 18) 104 5 (.int .u8 0) 1 rfl Try.underlying104 infoB rfl (by decide) _ (u8s dn) _ rfl rfl rfl HO.out (xw_below _ _ _) ?c1 ?_; (case c1 => have := HD.out; simp only [u8s_len]; omega); intro v1 r1 d1 hO1; have HO1 := Kept.mk hO1; clear hO1))
      go_ret
      refine ⟨_, rfl, ?_, xw_below _ _ _⟩
      have e : u8s (enc x) = u8s dn ++ [.int .u8 (y : Int)] := by
        rw [HE.out, enc_low c, u8s_app]; rfl
      have h1 := HO1.out
      rw [← e] at h1
      exact h1
    · go_wp2_with (first | ((at_builtin); refine app_one (w0 := w) (W := xw w r d) rfl (.tmp 7) (.tmp 11) 104 5 (.int .u8 0) 1 rfl Try.underlying104 infoB rfl (by decide) _ (u8s dn) _ rfl rfl rfl HO.out (xw_below _ _ _) ?c1 ?_; (case c1 => have := HD.out; simp only [u8s_len]; omega); intro v1 r1 d1 hO1; have HO1 := Kept.mk hO1; clear hO1))
      go_roundw
      case rel =>
        refine ⟨y / 128, dn ++ [((y % 128 + 128 : Nat) : Int)], r1, d1, ?_, rfl, ⟨?_⟩, ⟨?_⟩, ⟨?_⟩⟩
        · congr 1
        · rw [u8s_app]
          have e := HO1.out
          rw [or128] at e
          exact e
        · rw [HE.out, enc_high c, List.append_assoc]; rfl
        · have := HY.out; omega
      case measure => simp [intOf]; omega
end Go.Proofs.Ytnidaahimofppaa
