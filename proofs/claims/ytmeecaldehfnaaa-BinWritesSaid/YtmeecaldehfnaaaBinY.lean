/- BinWrites: the walk. -/
import Derived.Test.YtmeecaldehfnaaaBinV
import Derived.Deep.RegionHeld3
import Derived.Deep.DeepCutAuto
namespace Go.Proofs.Ytmeecaldehfnaaa
open Go.RowKit
set_option linter.unusedVariables false
set_option linter.unusedSimpArgs false

set_option maxRecDepth 100000 in
set_option maxHeartbeats 10000000 in
theorem BinWrites_any (n : Int) (h0 : -9223372036854775808 ≤ n) (hn : n ≤ 9223372036854775807) (s : ByteArray) (hs : s.size ≤ 140737488355328 - 4096) (w : World) :
    Calls Try.prog 4 #[.int .i64 n, .string s] w (fun e w' => e = .returned (.bool true) ∧ Below w.heap.size w w') := by
  have HN := Kept.mk hn
  have H0 := Kept.mk h0
  have HS := Kept.mk hs
  clear hn h0 hs
  go_enter Try.func4, Try.ntmps4
  go_upto_region 1 with fail
  go_region_with
    (first
      | (go_at_call 14; refine (live_any _).mono ?_; rintro e w' ⟨rfl, hb⟩; obtain ⟨r1, d1, rfl⟩ := xw_of hb; clear hb)
      | (go_at_call 11; refine (Num_any n HN.out _).mono ?_; rintro e w' ⟨v2, rfl, hO, hb⟩; obtain ⟨r2, d2, rfl⟩ := xw_of hb; clear hb; have k2 := (own_conv hO).1; have k2' := (own_conv hO).2; simp only [xw_xw, drew_xw, drewN_xw, Array.append_assoc] at k2 k2'; clear hO)
      | (go_at_call 15; refine (rNum_any n HN.out _).mono ?_; rintro e w' ⟨v3, rfl, hO, hb⟩; obtain ⟨r3, d3, rfl⟩ := xw_of hb; clear hb; have k3 := (own_conv hO).1; have k3' := (own_conv hO).2; simp only [xw_xw, drew_xw, drewN_xw, Array.append_assoc] at k3 k3'; clear hO)
      | (go_at_call 13; refine (Int_any n H0.out HN.out _).mono ?_; rintro e w' ⟨v4, rfl, hO, hb⟩; obtain ⟨r4, d4, rfl⟩ := xw_of hb; clear hb; have k4 := (own_conv hO).1; have k4' := (own_conv hO).2; simp only [xw_xw, drew_xw, drewN_xw, Array.append_assoc] at k4 k4'; clear hO)
      | (go_at_call 16; refine (rInt_any n H0.out HN.out _).mono ?_; rintro e w' ⟨v5, rfl, hO, hb⟩; obtain ⟨r5, d5, rfl⟩ := xw_of hb; clear hb; have k5 := (own_conv hO).1; have k5' := (own_conv hO).2; simp only [xw_xw, drew_xw, drewN_xw, Array.append_assoc] at k5 k5'; clear hO)
      | (go_at_call 17; refine (Text_any s HS.out _).mono ?_; rintro e w' ⟨v6, rfl, hO, hb⟩; obtain ⟨r6, d6, rfl⟩ := xw_of hb; clear hb; have k6 := (own_conv hO).1; have k6' := (own_conv hO).2; simp only [xw_xw, drew_xw, drewN_xw, Array.append_assoc] at k6 k6'; clear hO)
      | (go_at_call 18; refine (rText_any s HS.out _).mono ?_; rintro e w' ⟨v7, rfl, hO, hb⟩; obtain ⟨r7, d7, rfl⟩ := xw_of hb; clear hb; have k7 := (own_conv hO).1; have k7' := (own_conv hO).2; simp only [xw_xw, drew_xw, drewN_xw, Array.append_assoc] at k7 k7'; clear hO))
  all_goals (go_wp2; go_ret; exact ⟨rfl, xw_below _ _ _⟩)
end Go.Proofs.Ytmeecaldehfnaaa
