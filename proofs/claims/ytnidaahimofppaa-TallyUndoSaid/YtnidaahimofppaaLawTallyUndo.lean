/- What is proved: the law TallyUndo of layer 26 (tally) returns true for every input, and its arguments read afterwards as before. No condition. -/
import Derived.Test.YtnidaahimofppaaRows
import Derived.Test.YtnidaahimofppaaQubi
import Derived.Test.YtnidaahimofppaaQubf
import Derived.WalkKit
import Derived.ProofKit
import Derived.OpenShut
import Derived.ShutString
import Derived.ChangeOld
import Derived.Below
import Derived.SizedLaws
import Derived.Lib.SmallJoins
namespace Go.Proofs.Ytnidaahimofppaa.tallyUndo
open Go.ChangeShapes Go.WideShapes Go.ChangeAt Go.RowKit Go.Joins
open Go.ChangeMaps (open_string shut_string)
set_option linter.unusedVariables false
set_option linter.unusedSimpArgs false
theorem own : ownKnob Try.prog.godebug = none := by kernel_rfl
theorem laidOut : laidOutB Try.prog = true := by kernel_rfl
theorem bytes56 : Try.prog.bytesOf 56 = 24 := by kernel_rfl
theorem bytes51 : Try.prog.bytesOf 51 = 32 := by kernel_rfl
theorem bytes39 : Try.prog.bytesOf 39 = 32 := by kernel_rfl
set_option maxRecDepth 100000 in
theorem lifted (os : Os) (started : os.Started) (H : Type) (enc : TypeId × Value → H) :
    ReturnsInHanded {} Try.checked os 4 .any (Rows.tallyUndoSpec.pre6 enc Try.prog Try.f4 Rows.tallyUndoRow.domain false) (Rows.tallyUndoSpec.post enc Try.prog Try.f4 false true false false) := by
  refine returnsInHanded_of_change_sized (C := Try.checked) own started (by kernel_rfl) Try.func4
    (ChangeSpec.witness6 (enc := enc) (C := Try.checked) false ⟨#[], #[.slice none 0 0, .slice none 0 0, .slice none 0 0], []⟩ 8 (by kernel_rfl) (by kernel_rfl) (by kernel_rfl) (by kernel_rfl)) ?_
  intro W base args ds gs before hval0 hW hcnd hsz0 _
  have hsz : (DataW.weightsEach Try.prog (Try.f4.params.toList ++ Rows.tallyUndoSpec.plain.varTypes Try.prog) (ds ++ gs)).all (· ≤ reachBytes) = true := hsz0
  have hval : ∀ (j : Nat) t v, Try.f4.params[j]? = some t → args[j]? = some v → Value.okWide Try.prog W .any base t v := hval0
  have hW' := hW
  obtain ⟨p, q, hA0, hV, rfl, hfz, hnd⟩ := hW
  have hA : DataW.TrodAll enc Try.prog W 0 (fun _ => true) true Try.f4.params.toList args.toList ds p := hA0
  rw [Try.params4] at hA hval hsz
  obtain ⟨v0, vs0, d0, ds0, p0, q0, hargs, rfl, rfl, h0, r0⟩ := trodAll_cons hA
  obtain ⟨v1, vs1, d1, ds1, p1, q1, rfl, rfl, rfl, h1, r1⟩ := trodAll_cons r0
  obtain ⟨v2, vs2, d2, ds2, p2, q2, rfl, rfl, rfl, h2, r2⟩ := trodAll_cons r1
  obtain ⟨rfl, rfl, rfl⟩ := trodAll_nil r2
  obtain rfl : args = #[v0, v1, v2] := by cases args; simp_all
  obtain ⟨rfl, rfl⟩ := trodVars_none hV
  have k0 := h0
  have lt0 : ∀ x ∈ p0, x.block < W.heap.size := by obtain ⟨m, hm⟩ := k0; exact DataW.trod_lt m _ _ _ hm
  have k1 := h1
  have lt1 : ∀ x ∈ p1, x.block < W.heap.size := by obtain ⟨m, hm⟩ := k1; exact DataW.trod_lt m _ _ _ hm
  have k2 := h2
  have lt2 : ∀ x ∈ p2, x.block < W.heap.size := by obtain ⟨m, hm⟩ := k2; exact DataW.trod_lt m _ _ _ hm
  obtain ⟨xs0, hh0, hn0⟩ := open_cols (hval 0 23 v0 rfl rfl) h0 lt0 (fun elems spare hd => by subst hd; have z := sized_slice hsz (j := 0) (t := 23) (e := 56) rfl rfl Try.underlying23; rw [bytes56] at z; simpa [reachBytes] using z)
  obtain ⟨xs1, hh1, hr1, hn1⟩ := open_aggs (hval 1 24 v1 rfl rfl) h1 lt1 (fun elems spare hd => by subst hd; have z := sized_slice hsz (j := 1) (t := 24) (e := 51) rfl rfl Try.underlying24; rw [bytes51] at z; simpa [reachBytes] using z)
  obtain ⟨xs2, hh2, hn2⟩ := open_puts (hval 2 35 v2 rfl rfl) h2 lt2 (fun elems spare hd => by subst hd; have z := sized_slice hsz (j := 2) (t := 35) (e := 39) rfl rfl Try.underlying35; rw [bytes39] at z; simpa [reachBytes] using z)
  clear hA0 hval0 hsz0 hsz
  refine (TallyUndo_any v0 v1 v2 xs0 xs1 xs2 W hh0 hh1 hh2 (by omega)).mono fun e W' ⟨he, bel⟩ => ?_
  subst he
  exact ⟨_, rfl, _, _, _, [], _, [], hW', trodAll_mk1 (shut_bool Try.underlying4 _), (trodAll_cons_mk (Below.trod laidOut (by kernel_rfl) (of_decide_eq_true (by kernel_rfl)) k0 bel lt0) (trodAll_cons_mk (Below.trod laidOut (by kernel_rfl) (of_decide_eq_true (by kernel_rfl)) k1 bel lt1) (trodAll_cons_mk (Below.trod laidOut (by kernel_rfl) (of_decide_eq_true (by kernel_rfl)) k2 bel lt2) trodAll_mk0))), rfl, bel.frame _, fun h => by cases h⟩
theorem over : Rows.tallyUndoRow.holds Try.pinned (OpenSpec.ofChange Rows.tallyUndoSpec) :=
  OpenClaim.holds_of_wide 4 Try.f4 rfl rfl rfl rfl rfl rfl rfl ⟨rfl, rfl, rfl, rfl, rfl⟩ rfl rfl rfl rfl rfl (by kernel_rfl) Try.func4 (by kernel_rfl)
    (of_decide_eq_true (by kernel_rfl)) (by unfold Func.isWrapper; first | (rw [if_pos (by decide +kernel)]; kernel_rfl) | (rw [if_neg (by decide +kernel)]; exact ⟨rfl, rfl⟩))
    (fun os started H enc _ => lifted os started H enc)
theorem proved : Rows.TallyUndoSaid := over
end Go.Proofs.Ytnidaahimofppaa.tallyUndo
namespace Go.Proofs.Ytnidaahimofppaa
/-- The row, under a short name, for the claim. -/
theorem tallyUndo_holds : Rows.TallyUndoSaid := tallyUndo.proved
#print axioms tallyUndo_holds
end Go.Proofs.Ytnidaahimofppaa
