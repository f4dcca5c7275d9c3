/- What is proved: the law SchemaFits of layer 7 (schema) returns true for every input, and its arguments read afterwards as before. No condition. -/
import Derived.Test.YthcgdlhmmgpbgaaRows
import Derived.Test.YthcgdlhmmgpbgaaSchLc
import Derived.Test.YthcgdlhmmgpbgaaSchY
import Derived.WalkKit
import Derived.ProofKit
import Derived.OpenShut
import Derived.ShutString
import Derived.ChangeOld
import Derived.Below
import Derived.SizedLaws
import Derived.Lib.SmallJoins
namespace Go.Proofs.Ythcgdlhmmgpbgaa.schemaFits
open Go.ChangeShapes Go.WideShapes Go.ChangeAt Go.RowKit Go.Joins
open Go.ChangeMaps (open_string shut_string)
set_option linter.unusedVariables false
set_option linter.unusedSimpArgs false
theorem own : ownKnob Try.prog.godebug = none := by kernel_rfl
theorem laidOut : laidOutB Try.prog = true := by kernel_rfl
theorem bytes41 : Try.prog.bytesOf 41 = 24 := by kernel_rfl
theorem bytes3 : Try.prog.bytesOf 3 = 8 := by kernel_rfl
theorem bytes5 : Try.prog.bytesOf 5 = 1 := by kernel_rfl
theorem bytes73 : Try.prog.bytesOf 73 = 32 := by kernel_rfl
set_option maxRecDepth 100000 in
theorem lifted (os : Os) (started : os.Started) (H : Type) (enc : TypeId × Value → H) :
    ReturnsInHanded {} Try.checked os 6 .any (Rows.schemaFitsSpec.pre6 enc Try.prog Try.f6 Rows.schemaFitsRow.domain false) (Rows.schemaFitsSpec.post enc Try.prog Try.f6 false true false false) := by
  refine returnsInHanded_of_change_sized (C := Try.checked) own started (by kernel_rfl) Try.func6
    (ChangeSpec.witness6 (enc := enc) (C := Try.checked) false ⟨#[], #[.slice none 0 0, .slice none 0 0, .slice none 0 0, .slice none 0 0, .slice none 0 0], []⟩ 8 (by kernel_rfl) (by kernel_rfl) (by kernel_rfl) (by kernel_rfl)) ?_
  intro W base args ds gs before hval0 hW hcnd hsz0 _
  have hsz : (DataW.weightsEach Try.prog (Try.f6.params.toList ++ Rows.schemaFitsSpec.plain.varTypes Try.prog) (ds ++ gs)).all (· ≤ reachBytes) = true := hsz0
  have hval : ∀ (j : Nat) t v, Try.f6.params[j]? = some t → args[j]? = some v → Value.okWide Try.prog W .any base t v := hval0
  have hW' := hW
  obtain ⟨p, q, hA0, hV, rfl, hfz, hnd⟩ := hW
  have hA : DataW.TrodAll enc Try.prog W 0 (fun _ => true) true Try.f6.params.toList args.toList ds p := hA0
  rw [Try.params6] at hA hval hsz
  obtain ⟨v0, vs0, d0, ds0, p0, q0, hargs, rfl, rfl, h0, r0⟩ := trodAll_cons hA
  obtain ⟨v1, vs1, d1, ds1, p1, q1, rfl, rfl, rfl, h1, r1⟩ := trodAll_cons r0
  obtain ⟨v2, vs2, d2, ds2, p2, q2, rfl, rfl, rfl, h2, r2⟩ := trodAll_cons r1
  obtain ⟨v3, vs3, d3, ds3, p3, q3, rfl, rfl, rfl, h3, r3⟩ := trodAll_cons r2
  obtain ⟨v4, vs4, d4, ds4, p4, q4, rfl, rfl, rfl, h4, r4⟩ := trodAll_cons r3
  obtain ⟨rfl, rfl, rfl⟩ := trodAll_nil r4
  obtain rfl : args = #[v0, v1, v2, v3, v4] := by cases args; simp_all
  obtain ⟨rfl, rfl⟩ := trodVars_none hV
  have k0 := h0
  have lt0 : ∀ x ∈ p0, x.block < W.heap.size := by obtain ⟨m, hm⟩ := k0; exact DataW.trod_lt m _ _ _ hm
  have k1 := h1
  have lt1 : ∀ x ∈ p1, x.block < W.heap.size := by obtain ⟨m, hm⟩ := k1; exact DataW.trod_lt m _ _ _ hm
  have k2 := h2
  have lt2 : ∀ x ∈ p2, x.block < W.heap.size := by obtain ⟨m, hm⟩ := k2; exact DataW.trod_lt m _ _ _ hm
  have k3 := h3
  have lt3 : ∀ x ∈ p3, x.block < W.heap.size := by obtain ⟨m, hm⟩ := k3; exact DataW.trod_lt m _ _ _ hm
  have k4 := h4
  have lt4 : ∀ x ∈ p4, x.block < W.heap.size := by obtain ⟨m, hm⟩ := k4; exact DataW.trod_lt m _ _ _ hm
  obtain ⟨xs0, hh0, hn0⟩ := open_cols (hval 0 25 v0 rfl rfl) h0 lt0 (fun elems spare hd => by subst hd; have z := sized_slice hsz (j := 0) (t := 25) (e := 41) rfl rfl Try.underlying25; rw [bytes41] at z; simpa [reachBytes] using z)
  obtain ⟨xs1, hh1, hn1⟩ := open_cols (hval 1 25 v1 rfl rfl) h1 lt1 (fun elems spare hd => by subst hd; have z := sized_slice hsz (j := 1) (t := 25) (e := 41) rfl rfl Try.underlying25; rw [bytes41] at z; simpa [reachBytes] using z)
  obtain ⟨xs2, hh2, hr2, hn2⟩ := open_rows (hval 2 35 v2 rfl rfl) h2 lt2 (fun elems spare hd => by subst hd; have z := sized_slice hsz (j := 2) (t := 35) (e := 73) rfl rfl Try.underlying35; rw [bytes73] at z; simpa [reachBytes] using z)
  obtain ⟨xs3, hh3, hr3, hn3⟩ := open_rows (hval 3 35 v3 rfl rfl) h3 lt3 (fun elems spare hd => by subst hd; have z := sized_slice hsz (j := 3) (t := 35) (e := 73) rfl rfl Try.underlying35; rw [bytes73] at z; simpa [reachBytes] using z)
  obtain ⟨cs4, hh4, hn4⟩ := open_nums (hval 4 26 v4 rfl rfl) h4 lt4 (fun elems spare hd => by subst hd; have z := sized_slice hsz (j := 4) (t := 26) (e := 3) rfl rfl Try.underlying26; rw [bytes3] at z; simpa [reachBytes] using z)
  clear hA0 hval0 hsz0 hsz
  refine (SchemaFits_any v0 v1 v2 v3 v4 xs0 xs1 xs2 xs3 cs4 W hh0 hh1 hh2 hh3 hh4).mono fun e W' ⟨he, bel⟩ => ?_
  subst he
  exact ⟨_, rfl, _, _, _, [], _, [], hW', trodAll_mk1 (shut_bool Try.underlying4 _), (trodAll_cons_mk (Below.trod laidOut (by kernel_rfl) (of_decide_eq_true (by kernel_rfl)) k0 bel lt0) (trodAll_cons_mk (Below.trod laidOut (by kernel_rfl) (of_decide_eq_true (by kernel_rfl)) k1 bel lt1) (trodAll_cons_mk (Below.trod laidOut (by kernel_rfl) (of_decide_eq_true (by kernel_rfl)) k2 bel lt2) (trodAll_cons_mk (Below.trod laidOut (by kernel_rfl) (of_decide_eq_true (by kernel_rfl)) k3 bel lt3) (trodAll_cons_mk (Below.trod laidOut (by kernel_rfl) (of_decide_eq_true (by kernel_rfl)) k4 bel lt4) trodAll_mk0))))), rfl, bel.frame _, fun h => by cases h⟩
theorem over : Rows.schemaFitsRow.holds Try.pinned (OpenSpec.ofChange Rows.schemaFitsSpec) :=
  OpenClaim.holds_of_wide 6 Try.f6 rfl rfl rfl rfl rfl rfl rfl ⟨rfl, rfl, rfl, rfl, rfl⟩ rfl rfl rfl rfl rfl (by kernel_rfl) Try.func6 (by kernel_rfl)
    (of_decide_eq_true (by kernel_rfl)) (by unfold Func.isWrapper; first | (rw [if_pos (by decide +kernel)]; kernel_rfl) | (rw [if_neg (by decide +kernel)]; exact ⟨rfl, rfl⟩))
    (fun os started H enc _ => lifted os started H enc)
theorem proved : Rows.SchemaFitsSaid := over
end Go.Proofs.Ythcgdlhmmgpbgaa.schemaFits
namespace Go.Proofs.Ythcgdlhmmgpbgaa
/-- The row, under a short name, for the claim. -/
theorem schemaFits_holds : Rows.SchemaFitsSaid := schemaFits.proved
#print axioms schemaFits_holds
end Go.Proofs.Ythcgdlhmmgpbgaa
