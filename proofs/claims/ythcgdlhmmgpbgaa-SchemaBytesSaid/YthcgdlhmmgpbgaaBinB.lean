/- A slice of bytes that came in; BinShort: the walk. -/
import Derived.Test.YthcgdlhmmgpbgaaBinV
import Derived.Deep.RegionHeld3
import Derived.Deep.DeepCutAuto
import Derived.ChangeSlices
import Derived.WideShapes
import Derived.SizedLaws
namespace Go.Proofs.Ythcgdlhmmgpbgaa
open Go.RowKit Go.ChangeShapes Go.WideShapes
set_option linter.unusedVariables false
set_option linter.unusedSimpArgs false

set_option maxRecDepth 100000 in
set_option maxHeartbeats 1000000 in
theorem New_arg (xs : List Int) (hl : xs.length ≤ 140737488355328) (A : Option Addr) (c : Nat) (w : World)
    (hA : u8s xs ≠ [] → ∃ ad, A = some ad ∧ ∀ j u, (u8s xs)[j]? = some u → w.cell? (ad.add j) = some u) :
    Calls Try.prog 28 #[.slice A xs.length c] w (fun e w' => ∃ g, e = .returned (.pointer (some ⟨g, 0, none⟩)) ∧ w.heap.size ≤ g ∧ Rd w' g xs 0 0 ∧ Below w.heap.size w w') := by
  have HA := Kept.mk hA
  have HL := Kept.mk hl
  clear hA hl
  go_enter Try.func28, Try.ntmps28
  go_wp2_with (first | ((at_builtin); refine app_row2 (w0 := w) (W := w.alloc (.cells #[] 5)) rfl (.tmp 3) (.tmp 4) 47 5 (.int .u8 0) 1 rfl Try.underlying47 infoB rfl (by decide) _ [] (u8s xs) A c rfl ?c0 (u8s_one _) ?c1 ?c2 (Own.empty w _ _ (Nat.le_refl _)) ((Below.refl _ _).alloc (Nat.le_refl _) _) ?c3 ?_; (case c0 => rw [u8s_len]; rfl); (case c1 => intro hne; obtain ⟨ad, e, hc⟩ := HA.out hne; exact ⟨ad, e, fun j u hu => by rw [World.cell?_alloc_lt _ _ _ (World.block_lt_of_cell? w _ (hc j u hu))]; exact hc j u hu⟩); (case c2 => intro h; cases h); (case c3 => rw [u8s_len]; have := HL.out; simp; omega); intro v1 r d HO hnn; obtain ⟨k, c2, hv, hk, hk2, hc2, hm, hcell⟩ := (HO.cells.resolve_left (fun h => hnn h.1)); simp only [List.nil_append] at hv hcell hc2; rw [u8s_len] at hv hcell hc2; have HTY := Kept.mk (Own.typ HO hv); clear HO hnn; subst hv; have HC := Kept.mk hcell; clear hcell))
  go_ret
  refine ⟨(xw w r d).heap.size, rfl, by rw [xw_size]; omega, ?_, ?_⟩
  · refine ⟨⟨k, c2, _, heap_alloc_new (xw w r d) _, by omega, by simp; omega, hc2, fun j b hj => ?_⟩, Nat.zero_le _, HL.out⟩
    have hjl : j < xs.length := (List.getElem?_eq_some_iff.1 hj).1
    obtain ⟨arr, fr, hty⟩ := HTY.out
    refine BytAt.keep (w := xw w r d) ⟨?_, arr, fr, hty⟩ (Lib.alloc_old _ _ _ hk2)
    rw [HC.out j hjl]
    simp [u8s, hj]
  · (repeat' (first | (with_reducible exact Below.refl _ _) | (with_reducible assumption) | (with_reducible refine below_xw ?_ ?_ _ _) | (with_reducible refine below_drewN ?_ _) | (with_reducible refine Below.drew ?_) | (with_reducible refine Below.setCell ?_ ?_ _) | (with_reducible refine Below.alloc ?_ ?_ _) | (simp [xw_size]; done) | (simp [xw_size]; omega) | (dsimp only; omega)))


/-- A slice of bytes that came in: what it holds. -/
def ArgB (w : World) (A : Option Addr) (xs : List Int) : Prop := u8s xs ≠ [] → ∃ b off, A = some ⟨b, off, none⟩ ∧ b < w.heap.size ∧ ∀ j, j < xs.length → w.cell? ⟨b, off + j, none⟩ = some (.int .u8 (xs.getD j 0))
theorem ArgB.read {w : World} {A : Option Addr} {xs : List Int} (h : ArgB w A xs) : u8s xs ≠ [] → ∃ ad, A = some ad ∧ ∀ j u, (u8s xs)[j]? = some u → w.cell? (ad.add j) = some u := by
  intro hne
  obtain ⟨b, off, rfl, hb, hc⟩ := h hne
  refine ⟨_, rfl, fun j u hu => ?_⟩
  have hj := (List.getElem?_eq_some_iff.1 hu).1
  rw [u8s_len] at hj
  rw [Addr.add_lit, hc j hj, ← hu]
  simp [u8s, List.getElem?_eq_getElem hj, List.getD_eq_getElem?_getD]
theorem ArgB.below {w w1 : World} {A : Option Addr} {xs : List Int} (h : ArgB w A xs) (hb : Below w.heap.size w w1) : ArgB w1 A xs := by
  intro hne
  obtain ⟨b, off, e, hb1, hc⟩ := h hne
  refine ⟨b, off, e, Nat.lt_of_lt_of_le hb1 hb.size, fun j hj => ?_⟩
  rw [← hc j hj]
  exact World.cell?_of_block (hb.block b hb1)
/-- string(b[:n]), in a later world. -/
theorem ArgB.conv {w : World} {A : Option Addr} {xs : List Int} (h : ArgB w A xs) (n c : Nat) (hn : n ≤ xs.length) (h0 : 0 < n) :
    (convert 47 9 (.slice A n c)).run Try.prog w = .ok (.string (strOfNums (xs.take n))) w := by
  have hne : u8s xs ≠ [] := by
    intro e
    have := congrArg List.length e
    rw [u8s_len] at this
    have h1 : xs.length = 0 := this
    omega
  obtain ⟨b, off, rfl, hb1, hc⟩ := h hne
  refine run_convert_bytes_arg w _ _ Try.underlying47 Try.underlying5 b off n c _ (by simp; omega) (fun i hi => ?_) _ Try.underlying9
  rw [hc i (by omega)]
  have e2 : (xs.take n)[i]? = xs[i]? := List.getElem?_take_of_lt hi
  rw [List.getD_eq_getElem?_getD, List.getD_eq_getElem?_getD, e2]
theorem ArgB.convs {w w2 : World} {A : Option Addr} {xs : List Int} (h : ArgB w A xs) (hb : Below w.heap.size w w2) (hw : w.heap.size ≤ w2.heap.size) (n c : Nat) (hn : n ≤ xs.length) (h0 : 0 < n) :
    (convert 47 9 (.slice A n c)).run Try.prog w2.drew = .ok (.string (strOfNums (xs.take n))) w2.drew ∧
    ∀ r d, (convert 47 9 (.slice A n c)).run Try.prog (xw w2 r d) = .ok (.string (strOfNums (xs.take n))) (xw w2 r d) :=
  ⟨(h.below hb.drew).conv n c hn h0, fun r d => (h.below (below_xw hb hw r d)).conv n c hn h0⟩
section
variable {H : Type} {enc : TypeId × Value → H}
theorem cellsB : Try.prog.cellsOf 5 = 1 := by kernel_rfl
set_option maxRecDepth 100000 in
theorem open_bytes {W : World} {base : Nat} {v : Value} {d : DataW H} {p : List MemPlace} (hval : Value.okWide Try.prog W .any base 47 v) (h : DataW.Trod enc Try.prog W 0 (fun _ => true) true 47 v d p) (hlt : ∀ x ∈ p, x.block < W.heap.size)
    (hsz : ∀ elems spare, d = .slice elems spare → (elems.length + spare.length) * 1 ≤ 140737488351232) :
    ∃ A xs c, v = .slice A xs.length c ∧ (∀ b ∈ xs, 0 ≤ b ∧ b ≤ 255) ∧ xs.length ≤ 140737488351232 ∧ xs.length ≤ c ∧ c ≤ maxLen ∧ ArgB W A xs := by
  obtain ⟨a1, len, cap, rfl⟩ := okWide_slice Try.underlying47 hval
  obtain ⟨fuel, hf⟩ := h
  rcases open_ints Try.underlying47 Try.underlying5 cellsB hf with ⟨hcs, hx⟩ | ⟨a, len', cap', zs, hcs, _, hl, hm, hz, hx, hcell, hwz⟩
  · simp [Value.cells] at hcs
    obtain ⟨rfl, rfl, rfl⟩ := hcs
    exact ⟨none, [], 0, rfl, by simp, by simp, by simp, by simp, fun h => absurd rfl h⟩
  · simp [Value.cells] at hcs
    obtain ⟨rfl, rfl, rfl⟩ := hcs
    simp only [Prod.mk.injEq] at hx
    obtain ⟨rfl, rfl⟩ := hx
    simp only [if_true] at hz
    have h1 := hsz _ _ rfl
    have hlen : (zs.take len).length = len := by simp; omega
    refine ⟨some a, zs.take len, cap, by rw [hlen], fun b hb => ?_, ?_, by rw [hlen]; exact hl, hm, fun hne => ?_⟩
    · have := hwz b (List.mem_of_mem_take hb)
      simpa [Lit.wf, IntKind.min, IntKind.max, IntKind.signed, IntKind.bits] using this
    · simp only [lits, List.length_map, List.length_take, List.length_drop] at h1
      rw [hlen]; omega
    · have h0 : 0 < len := by
        rcases Nat.eq_zero_or_pos len with h0 | h0
        · subst h0; exact absurd rfl hne
        · exact h0
      obtain ⟨b, off, spot⟩ := a
      have hspot : spot = none := by simpa [Addr.add] using World.cell?_spot (hcell 0 (by omega))
      subst hspot
      refine ⟨b, off, rfl, hlt (.cell b off) (MemPlace.mem_row.2 ⟨0, by omega, by simp⟩), fun j hj => ?_⟩
      rw [hlen] at hj
      have := hcell j (by omega)
      rw [Addr.add_lit] at this
      rw [this]
      have e2 : (zs.take len)[j]? = zs[j]? := List.getElem?_take_of_lt hj
      rw [List.getD_eq_getElem?_getD, List.getD_eq_getElem?_getD, e2]
end
end Go.Proofs.Ythcgdlhmmgpbgaa
