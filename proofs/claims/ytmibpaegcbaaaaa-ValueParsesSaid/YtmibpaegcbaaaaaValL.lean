/- Layer 5 (value): what must be whatever is asked, walked. -/
import Derived.Test.YtmibpaegcbaaaaaValS
import Derived.Deep.RegionWith
namespace Go.Proofs.Ytmibpaegcbaaaaa
open Go.RowKit
set_option linter.unusedVariables false
set_option linter.unusedSimpArgs false

theorem live1 : parseB [45, 49, 50] = .ok ⟨1, -12, []⟩ := by rfl
theorem live2 : parseB [39, 97] = .error 4 := by rfl
theorem live3 : showT [105, 116, 39, 115] = [39, 105, 116, 92, 50, 55, 115, 39] := by rfl
set_option maxRecDepth 100000 in
set_option maxHeartbeats 4000000 in
theorem live_any (w : World) : Calls Try.prog 14 #[] w (fun e w' => e = .returned (.bool true) ∧ Below w.heap.size w w') := by
  go_enter Try.func14, Try.ntmps14
  go_wp2_with fail
  go_at_call 9
  refine (text_any _ _).mono ?_
  rintro e w1 ⟨rfl, hb1⟩
  rewrite [if_neg (by decide)]
  have HB1 := Kept.mk hb1
  clear hb1
  go_wp2_with fail
  go_at_call 19
  refine (parse_any _ (by decide) _).mono ?_
  rintro e w2 ⟨rfl, hb2⟩
  have b1 : w2.cell? ⟨w1.heap.size, 0, none⟩ = some (.int .i64 2) := by rw [World.cell?_of_block (hb2.block w1.heap.size (by simp))]; simp [go_sem]
  have b2 : w2.cell? ⟨w1.heap.size, 1, none⟩ = some (.int .i64 0) := by rw [World.cell?_of_block (hb2.block w1.heap.size (by simp))]; simp [go_sem]
  have b3 : w2.cell? ⟨w1.heap.size, 2, none⟩ = some (.string ⟨#[105, 116, 39, 115]⟩) := by rw [World.cell?_of_block (hb2.block w1.heap.size (by simp))]; simp [go_sem]
  have hz2 := hb2.size
  rw [World.size_alloc] at hz2
  have HB2 := Kept.mk ((HB1.out.alloc HB1.out.size _).trans (hb2.mono (by have := HB1.out.size; rw [World.size_alloc]; omega)))
  rewrite [show paV (parseB (tx ⟨#[45, 49, 50]⟩)) = .tuple #[va 1 (-12) ⟨#[]⟩, .int .i64 0] from rfl]
  generalize hg : w1.heap.size = g at b1 b2 b3 hz2 ⊢
  have hgw : w.heap.size ≤ g := by rw [← hg]; exact HB1.out.size
  clear hb2 HB1 hg
  go_wp2_with fail
  go_at_call 19
  refine (parse_any _ (by decide) _).mono ?_
  rintro e w3 ⟨rfl, hb3⟩
  have hz3 := hb3.size
  rw [World.size_alloc] at hz3
  have c1 : w3.cell? ⟨g, 0, none⟩ = some (.int .i64 2) := by rw [World.cell?_of_block (hb3.block g (by simp; omega)), World.cell?_alloc_lt _ _ _ (by simp only; omega)]; exact b1
  have c2 : w3.cell? ⟨g, 1, none⟩ = some (.int .i64 0) := by rw [World.cell?_of_block (hb3.block g (by simp; omega)), World.cell?_alloc_lt _ _ _ (by simp only; omega)]; exact b2
  have c3 : w3.cell? ⟨g, 2, none⟩ = some (.string ⟨#[105, 116, 39, 115]⟩) := by rw [World.cell?_of_block (hb3.block g (by simp; omega)), World.cell?_alloc_lt _ _ _ (by simp only; omega)]; exact b3
  have d1 : w3.cell? ⟨w2.heap.size, 0, none⟩ = some (.int .i64 1) := by rw [World.cell?_of_block (hb3.block w2.heap.size (by simp))]; simp [go_sem]
  have d2 : w3.cell? ⟨w2.heap.size, 1, none⟩ = some (.int .i64 (-12)) := by rw [World.cell?_of_block (hb3.block w2.heap.size (by simp))]; simp [go_sem]
  have d3 : w3.cell? ⟨w2.heap.size, 2, none⟩ = some (.string ⟨#[]⟩) := by rw [World.cell?_of_block (hb3.block w2.heap.size (by simp))]; simp [go_sem]
  have HB3 := Kept.mk ((HB2.out.alloc HB2.out.size _).trans (hb3.mono (by have := HB2.out.size; rw [World.size_alloc]; omega)))
  rewrite [show paV (parseB (tx ⟨#[39, 97]⟩)) = .tuple #[va 0 0 ⟨#[]⟩, .int .i64 4] from rfl]
  generalize hg : w2.heap.size = g2 at d1 d2 d3 hz2 hz3 ⊢
  clear hb3 HB2 hg b1 b2 b3
  have z1 : g < w3.heap.size := by omega
  have z2 : g2 < w3.heap.size := by omega
  go_wp2_with fail
  obtain ⟨wz, hwz⟩ : ∃ wz, wz = w3.alloc (.cells #[.int .i64 0, .int .i64 0, .string ⟨#[]⟩] 24) := ⟨_, rfl⟩
  have e1 : wz.cell? ⟨g, 0, none⟩ = some (.int .i64 2) := by rw [hwz, World.cell?_alloc_lt _ _ _ z1]; exact c1
  have e2 : wz.cell? ⟨g, 1, none⟩ = some (.int .i64 0) := by rw [hwz, World.cell?_alloc_lt _ _ _ z1]; exact c2
  have e3 : wz.cell? ⟨g, 2, none⟩ = some (.string ⟨#[105, 116, 39, 115]⟩) := by rw [hwz, World.cell?_alloc_lt _ _ _ z1]; exact c3
  have f1 : wz.cell? ⟨g2, 0, none⟩ = some (.int .i64 1) := by rw [hwz, World.cell?_alloc_lt _ _ _ z2]; exact d1
  have f2 : wz.cell? ⟨g2, 1, none⟩ = some (.int .i64 (-12)) := by rw [hwz, World.cell?_alloc_lt _ _ _ z2]; exact d2
  have f3 : wz.cell? ⟨g2, 2, none⟩ = some (.string ⟨#[]⟩) := by rw [hwz, World.cell?_alloc_lt _ _ _ z2]; exact d3
  have y1 : g < wz.heap.size := by rw [hwz, World.size_alloc]; omega
  have y2 : g2 < wz.heap.size := by rw [hwz, World.size_alloc]; omega
  have HBz : Kept (Below w.heap.size w wz) := ⟨by rw [hwz]; exact HB3.out.alloc HB3.out.size _⟩
  rewrite [← hwz]
  clear hwz c1 c2 c3 d1 d2 d3 z1 z2 hz2 hz3 hgw HB3
  go_region_with (first
    | (go_at_call 12; refine (num_any _ _).mono ?_; rintro e w5 ⟨rfl, hb5⟩; obtain ⟨r5, d5, rfl⟩ := xw_of hb5; clear hb5)
    | (go_at_call 18; refine (show_txt ⟨#[105, 116, 39, 115]⟩ (by decide) _).mono ?_; rintro e w6 ⟨rfl, hb6⟩; obtain ⟨r6, d6, rfl⟩ := xw_of hb6; clear hb6; rewrite [show bs (showT (tx ⟨#[105, 116, 39, 115]⟩)) = ⟨#[39, 105, 116, 92, 50, 55, 115, 39]⟩ from rfl])
    | (go_at_call 16; refine (comp_any 1 (-12) 2 0 ⟨#[]⟩ ⟨#[105, 116, 39, 115]⟩ _).mono ?_; rintro e w7 ⟨rfl, hb7⟩; obtain ⟨r7, d7, rfl⟩ := xw_of hb7; clear hb7; rewrite [show cmpV ⟨1, -12, tx ⟨#[]⟩⟩ ⟨2, 0, tx ⟨#[105, 116, 39, 115]⟩⟩ = -1 from rfl])
    | (go_at_call 10; refine (may_any _ _ _ _).mono ?_; rintro e w8 ⟨rfl, hb8⟩; obtain ⟨r8, d8, rfl⟩ := xw_of hb8; clear hb8; first | rewrite [show mayV ⟨1, -12, tx ⟨#[]⟩⟩ = true from rfl] | rewrite [show mayV ⟨0, 0, tx ⟨#[]⟩⟩ = false from rfl]))
  all_goals go_wp2_with fail
  all_goals go_returns
  all_goals exact ⟨rfl, below_xw HBz.out HBz.out.size _ _⟩
end Go.Proofs.Ytmibpaegcbaaaaa
