/- Layer 26 (tally): what must be whatever is asked, walked. -/
import Derived.Test.YtnidaahimofppaaGreatQpbh
import Derived.Test.YtnidaahimofppaaGreatQpbf
namespace Go.Proofs.YtnidaahimofppaaGreat
open Go.RowKit Go.Maps
set_option linter.unusedVariables false
set_option linter.unusedSimpArgs false

theorem rowLit (w : World) (B : Nat) (k n : Int) (s : ByteArray) : HasS (w.alloc (.cells #[.int .i64 k, .int .i64 n, .string s] 68)) B (.slice (some ⟨w.heap.size, 0, none⟩) 1 1) [⟨k, n, s⟩] := by
  have h := OwnR.lit w w.heap.size [⟨k, n, s⟩] (Nat.le_refl _) (by simp)
  exact ⟨h.has, fun _ => ⟨_, _, _, rfl, by rw [World.size_alloc]; omega, .inr ⟨_, _, blk_new w _⟩⟩⟩
def sA : List Cl := [⟨⟨#[97]⟩, 1⟩]
def agA : List Vr := [⟨1, 0, ⟨#[110]⟩⟩, ⟨2, 0, ⟨#[115]⟩⟩]
def rA : List Vr := [⟨1, 5, ⟨#[]⟩⟩]
def rB : List Vr := [⟨1, -1, ⟨#[]⟩⟩]
theorem colsA : (colsV sA agA).2 = 0 := by decide +kernel
theorem fitA : fitsC sA rA = true := by decide +kernel
theorem fitB : fitsC sA rB = true := by decide +kernel
theorem partsA : partsOf agA = [.cnt 0, .tot 0] := rfl
theorem putA : ptsPut rA 2 agA [.cnt 0, .tot 0] = [.cnt 2, .tot 10] := rfl
theorem putB : ptsPut rB 1 agA [.cnt 2, .tot 10] = [.cnt 3, .tot 9] := rfl
theorem rowA : rowT 3 0 [.cnt 3, .tot 9] = ([⟨1, 3, ⟨#[]⟩⟩, ⟨1, 9, ⟨#[]⟩⟩], 0) := by
  simp [rowT, rowL, tellP, in64]
theorem errA : errT sA (fun _ => 0) 0 rA 2 = 0 := errT_0 fitA (by omega) (by simp) (by omega)
theorem errB (k : List UInt8) : errT sA (updM (fun _ => 0) k (0 + 2)) 2 rB 1 = 0 := errT_0 fitB (by omega) (by simp only [updM]; split <;> omega) (by omega)
theorem rngA : RngR rA := by intro x hx; simp [rA] at hx; subst hx; simp
theorem rngB : RngR rB := by intro x hx; simp [rB] at hx; subst hx; simp
theorem aggA : ∀ a ∈ agA, 0 ≤ a.n ∧ a.n < (sA.length : Int) := by
  intro a ha
  simp [agA] at ha
  rcases ha with rfl | rfl <;> simp [sA]
set_option maxRecDepth 100000 in
set_option maxHeartbeats 4000000 in
theorem live_any (w : World) : Calls Tryz.prog 6 #[] w (fun e w' => e = .returned (.bool true) ∧ Below w.heap.size w w') := by
  have hC := (OwnC.lit w w.heap.size sA (Nat.le_refl _) (by simp [sA])).has
  have hb0 : Below w.heap.size w (w.alloc (.cells #[.string ⟨#[97]⟩, .int .i64 1] 52)) := (Below.refl _ _).alloc (Nat.le_refl _) _
  have hA := (OwnA.lit (w.alloc (.cells #[.string ⟨#[97]⟩, .int .i64 1] 52)) 0 agA (Nat.zero_le _) (by simp [agA])).has
  have hC2 := hC.to ((Below.refl _ _).alloc (Nat.le_refl _) (.cells (rowC agA).toArray 56))
  have hb1 := hb0.alloc hb0.size (.cells (rowC agA).toArray 56)
  obtain ⟨W0, hW0⟩ : ∃ W0, W0 = (w.alloc (.cells #[.string ⟨#[97]⟩, .int .i64 1] 52)).alloc (.cells #[.int .i64 1, .int .i64 0, .string ⟨#[110]⟩, .int .i64 2, .int .i64 0, .string ⟨#[115]⟩] 56) := ⟨_, rfl⟩
  have HC : Kept (HasC W0 W0.heap.size (.slice (some ⟨w.heap.size, 0, none⟩) 1 1) sA) := ⟨by rw [hW0]; exact hC2⟩
  have HA : Kept (HasR W0 W0.heap.size (.slice (some ⟨w.heap.size + 1, 0, none⟩) 2 2) agA) := ⟨by
    have h : HasR W0 W0.heap.size (.slice (some ⟨(w.alloc (.cells #[.string ⟨#[97]⟩, .int .i64 1] 52)).heap.size, 0, none⟩) 2 2) agA := by rw [hW0]; exact hA
    rw [World.size_alloc] at h
    exact h⟩
  have HB : Kept (Below w.heap.size w W0) := ⟨by rw [hW0]; exact hb1⟩
  clear hC hb0 hA hC2 hb1
  go_enter Tryz.func6, Tryz.ntmps6
  go_wp2_with fail
  rewrite [← hW0]
  clear hW0
  go_at_call 4
  refine (New_any _ _ sA agA _ HC.out HA.out).mono ?_
  rintro e w3 ⟨h3, hb3⟩
  rcases h3 with ⟨c, h1, h2, _⟩ | ⟨_, g, rfl, hT⟩
  · exact absurd (h1.symm.trans colsA) h2
  rw [partsA] at hT
  obtain ⟨F0, D0, hT⟩ := hT.ft
  have HT := Kept.mk hT
  have HB3 := Kept.mk (HB.out.trans (hb3.mono HB.out.size))
  clear hT hb3
  go_wp2_with fail
  have hR1 := rowLit w3 W0.heap.size 1 5 ⟨#[]⟩
  have hb4 : Below w3.heap.size w3 (w3.alloc (.cells #[.int .i64 1, .int .i64 5, .string ⟨#[]⟩] 68)) := (Below.refl _ _).alloc (Nat.le_refl _) _
  have HT4 := Kept.mk (HT.out.below hb4)
  have HR1 := Kept.mk hR1
  have HB4 := Kept.mk (HB3.out.trans (hb4.mono HB3.out.size))
  have HB4b : Kept (W0.heap.size ≤ (w3.alloc (.cells #[.int .i64 1, .int .i64 5, .string ⟨#[]⟩] 68)).heap.size) := ⟨Nat.le_trans (by obtain ⟨_, _, _, _, _, _, h, _⟩ := HT.out; have h1 := h.base; have h2 := h.gB; have h3 := h.lt; omega) hb4.size⟩
  clear hR1 hb4
  go_at_call 7
  refine (tPut_any _ W0.heap.size g _ _ sA agA _ _ 0 0 _ rA 2 HT4.out HR1.out rngA (by intro p hp; simp at hp; rcases hp with rfl | rfl <;> simp [okPt]) rfl (by simp) aggA (by omega) (fun k => by simp) (by omega) (by omega)).mono ?_
  rintro e w5 ⟨rfl, hc5, _, h5⟩
  obtain ⟨F5, h5, _⟩ := h5 errA
  have hb5 := hc5.below (B := W0.heap.size) HB4b.out (fun k hk => (HT4.out.inF hk).1)
  rw [errA]
  rw [putA] at h5
  have HT5 := Kept.mk h5
  have HB5 := Kept.mk (HB4.out.trans (hb5.mono HB.out.size))
  clear hb5 h5
  go_wp2_with fail
  have hR2 := rowLit w5 W0.heap.size 1 (-1) ⟨#[]⟩
  have hb6 : Below w5.heap.size w5 (w5.alloc (.cells #[.int .i64 1, .int .i64 (-1), .string ⟨#[]⟩] 68)) := (Below.refl _ _).alloc (Nat.le_refl _) _
  have HT6 := Kept.mk (HT5.out.below hb6)
  have HR2 := Kept.mk hR2
  have HB6 := Kept.mk (HB5.out.trans (hb6.mono HB5.out.size))
  have HB6b : Kept (W0.heap.size ≤ (w5.alloc (.cells #[.int .i64 1, .int .i64 (-1), .string ⟨#[]⟩] 68)).heap.size) := ⟨Nat.le_trans (by obtain ⟨_, _, _, _, _, _, h, _⟩ := HT5.out; have h1 := h.base; have h2 := h.gB; have h3 := h.lt; omega) hb6.size⟩
  clear hR2 hb6
  go_at_call 7
  refine (tPut_any _ W0.heap.size g _ _ sA agA _ _ 1 2 _ rB 1 HT6.out HR2.out rngB (by intro p hp; simp at hp; rcases hp with rfl | rfl <;> simp [okPt]) rfl (by simp) aggA (by omega) (fun k => by unfold updM; split <;> simp) (by omega) (by omega)).mono ?_
  rintro e w7 ⟨rfl, hc7, _, h7⟩
  obtain ⟨F7, h7, _⟩ := h7 (errB _)
  have hb7 := hc7.below (B := W0.heap.size) HB6b.out (fun k hk => (HT6.out.inF hk).1)
  rw [errB]
  rw [putB] at h7
  have HT7 := Kept.mk h7
  have HB7 := Kept.mk (HB6.out.trans (hb7.mono HB.out.size))
  clear hb7 h7
  go_wp2_with fail
  go_at_call 11
  refine (tRow_any _ W0.heap.size g sA agA _ _ _ _ 0 HT7.out.at 1 (by omega) (by intro p hp; simp at hp; rcases hp with rfl | rfl <;> simp [okPt]) (by simp)).mono ?_
  rintro e w8 ⟨v8, rfl, hO8, hb8⟩
  have h30 : rowT (2 + 1) 0 [.cnt 3, .tot 9] = ([⟨1, 3, ⟨#[]⟩⟩, ⟨1, 9, ⟨#[]⟩⟩], 0) := rowA
  rw [h30] at hO8 ⊢
  obtain ⟨A8, c8, rfl, _, hc8⟩ := hO8.has
  obtain ⟨b8, o8, rfl, hb9, hcl⟩ := hc8 (by simp)
  have q0 := (hcl 0 (by simp)).2.1
  have q1 := (hcl 1 (by simp)).2.1
  simp only [List.getElem_cons_zero, List.getElem_cons_succ, Nat.zero_mul, Nat.one_mul, Nat.add_zero] at q0 q1
  have HT8 := Kept.mk (HT7.out.below hb8)
  have HB8 := Kept.mk (HB7.out.trans (hb8.mono HB7.out.size))
  clear hO8 hb8 hcl hc8 hb9
  go_wp2_with (first | (go_at_call 9; refine (tCount_any _ _ _ _ _ _ _ _ _ HT8.out.at).mono ?_; rintro e w9 ⟨rfl, rfl⟩))
  go_returns
  exact ⟨rfl, HB8.out⟩
end Go.Proofs.YtnidaahimofppaaGreat
