/- Layer 7 (schema): what must be whatever is asked, walked. -/
import Derived.Test.YthcgdlhmmgpbgaaSchV
namespace Go.Proofs.Ythcgdlhmmgpbgaa
open Go.RowKit Go.Shelf
set_option linter.unusedVariables false
set_option linter.unusedSimpArgs false

def ls1 : List Cl := [⟨⟨#[97]⟩, 1⟩, ⟨⟨#[98]⟩, 2⟩]
def ls2 : List Cl := [⟨⟨#[98]⟩, 2⟩, ⟨⟨#[97]⟩, 1⟩]
theorem ls_may : mayC ls1 = true := by decide +kernel
theorem ls_pick : pickC ls1 [1, 0] = (ls2, 0) := by
  have h : mayC ls1 = true := ls_may
  have hb : ¬ badN ls1.length [1, 0] := by decide +kernel
  have hn : [(1 : Int), 0].Nodup := by decide +kernel
  unfold pickC
  rw [if_pos h, if_neg (by decide), if_neg hb, if_pos hn]
  rfl
theorem ls_join : joinC ls1 ls1 = ([], 9) := by
  have h : mayC ls1 = true := ls_may
  have he : ∃ y ∈ ls1, 0 ≤ idx ls1 y.s := ⟨_, List.mem_cons_self .., by decide +kernel⟩
  unfold joinC
  rw [if_pos ⟨h, h⟩, if_neg (by decide), if_pos he]
theorem ls_show : showC ls2 = [98, 32, 116, 101, 120, 116, 44, 32, 97, 32, 110, 117, 109, 98, 101, 114] := by
  have h : mayC ls2 = true := by decide +kernel
  unfold showC
  rw [if_pos h]
  rfl
theorem ls_idx : idx ls1 ⟨#[98]⟩ = 1 := by decide +kernel
theorem ls_n1 : nameN (tx ⟨#[97, 49]⟩) = true := by decide +kernel
theorem ls_n2 : nameN (tx ⟨#[49, 97]⟩) = false := by decide +kernel
theorem ls_z1 : ∀ x ∈ ls1, SzB x.s := fun _ _ => trivial
theorem ls_z2 : ∀ x ∈ ls2, SzB x.s := fun _ _ => trivial
set_option maxRecDepth 100000 in
set_option maxHeartbeats 4000000 in
theorem live_any (w : World) : Calls Try.prog 9 #[] w (fun e w' => e = .returned (.bool true) ∧ Below w.heap.size w w') := by
  go_enter Try.func9, Try.ntmps9
  go_wp2_with fail
  have hB0 : Below w.heap.size w ((w.alloc (.cells #[.string ⟨#[97]⟩, .int .i64 1, .string ⟨#[98]⟩, .int .i64 2] 41)).alloc (.cells #[.int .i64 1, .int .i64 0] 3)) := ((Below.refl _ w).alloc (Nat.le_refl _) _).alloc (by simp) _
  have HS : HasC ((w.alloc (.cells #[.string ⟨#[97]⟩, .int .i64 1, .string ⟨#[98]⟩, .int .i64 2] 41)).alloc (.cells #[.int .i64 1, .int .i64 0] 3)) ((w.alloc (.cells #[.string ⟨#[97]⟩, .int .i64 1, .string ⟨#[98]⟩, .int .i64 2] 41)).alloc (.cells #[.int .i64 1, .int .i64 0] 3)).heap.size (.slice (some ⟨w.heap.size, 0, none⟩) 2 2) ls1 := ((OwnC.lit w w.heap.size ls1 (Nat.le_refl _) (by decide)).has.below ((Below.refl _ _).alloc (Nat.le_refl _) _)).up (by simp)
  have HI : HasI ((w.alloc (.cells #[.string ⟨#[97]⟩, .int .i64 1, .string ⟨#[98]⟩, .int .i64 2] 41)).alloc (.cells #[.int .i64 1, .int .i64 0] 3)) ((w.alloc (.cells #[.string ⟨#[97]⟩, .int .i64 1, .string ⟨#[98]⟩, .int .i64 2] 41)).alloc (.cells #[.int .i64 1, .int .i64 0] 3)).heap.size (.slice (some ⟨w.heap.size + 1, 0, none⟩) 2 2) [1, 0] := ⟨_, 2, rfl, fun _ => ⟨_, 0, rfl, by simp, fun i hi => by
    match i, hi with
    | 0, _ => simp [go_sem]
    | 1, _ => simp [go_sem]⟩⟩
  generalize ((w.alloc (.cells #[.string ⟨#[97]⟩, .int .i64 1, .string ⟨#[98]⟩, .int .i64 2] 41)).alloc (.cells #[.int .i64 1, .int .i64 0] 3)) = w0 at hB0 HS HI ⊢
  refine (cPick_any _ _ ls1 [1, 0] w0 HS HI ls_z1).mono ?_
  rw [ls_pick]
  rintro e w1 ⟨v1, rfl, hO1, hb1⟩
  have HS1 := (HS.below hb1).up hb1.size
  have HP1 := hO1.has
  have hB1 := hB0.trans (hb1.mono hB0.size)
  clear HS HI hB0 hb1 hO1
  go_wp2_with fail
  go_at_call 12
  refine (cJoin_any _ _ ls1 ls1 w1 HS1 HS1 ls_z1 ls_z1).mono ?_
  rw [ls_join]
  rintro e w2 ⟨v2, rfl, hO2, hb2⟩
  have HS2 := (HS1.below hb2).up hb2.size
  have HP2 := (HP1.below hb2).up hb2.size
  have hB2 := hB1.trans (hb2.mono hB1.size)
  clear HS1 HP1 hB1 hb2 hO2
  go_wp2_with fail
  go_at_call 17
  refine (cMay_any _ _ _ ls1 w2 HS2 ls_z1).mono ?_
  rw [ls_may]
  rintro e w3 ⟨rfl, hb3⟩
  have HS3 := (HS2.below hb3).up hb3.size
  have HP3 := (HP2.below hb3).up hb3.size
  have hB3 := hB2.trans (hb3.mono hB2.size)
  clear HS2 HP2 hB2 hb3
  go_wp2_with fail
  go_at_call 34
  refine (cShow_any _ ls2 w3 HP3 ls_z2).mono ?_
  rw [ls_show]
  rintro e w4 ⟨rfl, hb4⟩
  have HS4 := (HS3.below hb4).up hb4.size
  have hB4 := hB3.trans (hb4.mono hB3.size)
  clear HS3 HP3 hB3 hb4
  rewrite [show bs [98, 32, 116, 101, 120, 116, 44, 32, 97, 32, 110, 117, 109, 98, 101, 114] = ⟨#[98, 32, 116, 101, 120, 116, 44, 32, 97, 32, 110, 117, 109, 98, 101, 114]⟩ from rfl]
  go_wp2_with fail
  go_at_call 24
  refine (cIndex_any _ _ _ ls1 ⟨#[98]⟩ w4 HS4 (by decide)).mono ?_
  rw [ls_idx]
  rintro e w5 ⟨rfl, hb5⟩
  have hB5 := hB4.trans (hb5.mono hB4.size)
  clear HS4 hB4 hb5
  go_wp2_with fail
  go_at_call 10
  refine (cName_any ⟨#[97, 49]⟩ trivial _).mono ?_
  rintro e w6 ⟨rfl, rfl⟩
  rewrite [ls_n1]
  go_wp2_with fail
  go_at_call 10
  refine (cName_any ⟨#[49, 97]⟩ trivial _).mono ?_
  rintro e w7 ⟨rfl, rfl⟩
  rewrite [ls_n2]
  go_wp2_with fail
  go_returns
  exact ⟨rfl, hB5⟩
end Go.Proofs.Ythcgdlhmmgpbgaa
