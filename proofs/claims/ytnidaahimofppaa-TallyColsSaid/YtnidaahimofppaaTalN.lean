/- Layer 26 (tally): a whole tally in memory; New, walked. -/
import Derived.Test.YtnidaahimofppaaTalB
import Derived.Deep.RegionLaw
import Derived.Laws.CopyRow
namespace Go.Proofs.Ytnidaahimofppaa
open Go.RowKit Go.Maps
set_option linter.unusedVariables false
set_option linter.unusedSimpArgs false

theorem strKey : Keyed Try.prog 9 := string_keyed Try.underlying9
/-- The map says this of each text; it has been written at most n times. -/
def MapIs (w : World) (b n : Nat) (m : List UInt8 → Int) : Prop :=
  ∃ D : DataW Unit, w.ownsMap Try.prog 9 (plainElem Try.prog 3) b n D ∧ ∀ k, D.atKey (.string k) (.lit (.int .i64 0)) = .lit (.int .i64 (m k))
theorem MapIs.blk {w : World} {b n : Nat} {m : List UInt8 → Int} (h : MapIs w b n m) : ∃ es c, w.heap[b]? = some (.map es c) := by
  obtain ⟨D, ⟨es, c, h1, _⟩, _⟩ := h
  exact ⟨es, c, h1⟩
theorem MapIs.keep {w w' : World} {b n : Nat} {m : List UInt8 → Int} (h : MapIs w b n m) (hb : w'.heap[b]? = w.heap[b]?) : MapIs w' b n m := by
  obtain ⟨D, ⟨es, c, h1, h2⟩, h3⟩ := h
  exact ⟨D, ⟨es, c, hb.trans h1, h2⟩, h3⟩
theorem MapIs.made (w : World) : MapIs (w.alloc (.map #[] 0)) w.heap.size 0 (fun _ => 0) := ⟨_, World.ownsMap_made _ _ _ _, fun k => rfl⟩
theorem PartAt.ty {w : World} {f : List Nat} {v : Value} {p : Pt} (h : PartAt w f v p) : ∀ k ∈ f, ∃ arr ty fr, w.heap[k]? = some (.cells arr ty fr) ∧ ty ≠ 65 ∧ ty ≠ 63 := by
  cases p with
  | cnt n =>
    obtain ⟨g, h1, rfl, h3⟩ := h
    intro k hk
    simp at hk
    subst hk
    exact ⟨_, _, _, h3, by decide, by decide⟩
  | tot n =>
    obtain ⟨g, h1, rfl, _, h3⟩ := h
    intro k hk
    simp at hk
    subst hk
    exact ⟨_, _, _, h3, by decide, by decide⟩
  | ext _ => intro k hk; rw [show f = [] from h] at hk; simp at hk
  | sid _ => intro k hk; rw [show f = [] from h] at hk; simp at hk
  | sta => intro k hk; rw [h.2] at hk; simp at hk
theorem Own.typ {w : World} {base : Nat} {e : TypeId} {v : Value} {xs : List Value} (h : Own w base e v xs) {k : Nat} (hk : v.ownBlock = some k) : ∃ arr fr, w.heap[k]? = some (.cells arr e fr) := by
  rcases h.2 with ⟨rfl, _⟩ | ⟨g, cap, cur, rfl, _, h3, _⟩
  · simp [Value.ownBlock] at hk
  · have : g = k := by simpa [Value.ownBlock] using hk
    subst this
    exact ⟨_, _, h3⟩
theorem Own.keep {w w' : World} {base : Nat} {e : TypeId} {v : Value} {xs : List Value} (h : Own w base e v xs) (hb : ∀ k, v.ownBlock = some k → w'.heap[k]? = w.heap[k]?) : Own w' base e v xs := by
  refine ⟨h.1, ?_⟩
  rcases h.2 with h2 | ⟨g, cap, cur, h1, h2, h3, h4⟩
  · exact .inl h2
  · exact .inr ⟨g, cap, cur, h1, h2, by rw [hb g (by rw [h1]; rfl)]; exact h3, h4⟩
abbrev Trd := Value × List Nat × Pt
structure TalIn (w : World) (B B1 g gm : Nat) (sv av pv : Value) (ts : List Trd) (cs : List Cl) (ags : List Vr) (m : List UInt8 → Int) (nm : Nat) (cnt : Int) : Prop where
  base : B ≤ B1
  gB : B1 ≤ g
  mB : B1 ≤ gm
  box : w.heap[g]? = some (.cells #[sv, av, pv, .map (some gm), .int .i64 cnt] 63 (0, 0))
  sch : HasC w B1 sv cs
  agg : HasR w B1 av ags
  map : MapIs w gm nm m
  row : Own w B1 65 pv (ts.map (·.1))
  parts : ∀ t ∈ ts, PartAt w t.2.1 t.1 t.2.2 ∧ ∀ k ∈ t.2.1, B1 ≤ k
  apart : ts.Pairwise (fun s t => ∀ k ∈ s.2.1, k ∉ t.2.1)
section
variable {w w' : World} {B B1 g gm : Nat} {sv av pv : Value} {ts : List Trd} {cs : List Cl} {ags : List Vr} {m : List UInt8 → Int} {nm : Nat} {cnt : Int}
theorem TalIn.lt (h : TalIn w B B1 g gm sv av pv ts cs ags m nm cnt) : g < w.heap.size := (Array.getElem?_eq_some_iff.1 h.box).1
theorem TalIn.ltm (h : TalIn w B B1 g gm sv av pv ts cs ags m nm cnt) : gm < w.heap.size := by
  obtain ⟨_, _, h2⟩ := h.map.blk
  exact (Array.getElem?_eq_some_iff.1 h2).1
theorem TalIn.gm_ne (h : TalIn w B B1 g gm sv av pv ts cs ags m nm cnt) : gm ≠ g := by
  rintro rfl
  obtain ⟨_, _, h2⟩ := h.map.blk
  rw [h.box] at h2
  injection h2 with h2
  cases h2
theorem TalIn.row_ne (h : TalIn w B B1 g gm sv av pv ts cs ags m nm cnt) {k : Nat} (hk : pv.ownBlock = some k) : k < w.heap.size ∧ k ≠ g ∧ k ≠ gm := by
  obtain ⟨arr, fr, h2⟩ := h.row.typ hk
  refine ⟨(Array.getElem?_eq_some_iff.1 h2).1, ?_, ?_⟩
  · rintro rfl
    rw [h.box] at h2
    injection h2 with h2
    injection h2 with _ h3 _
    exact absurd h3 (by decide)
  · rintro rfl
    obtain ⟨_, _, h3⟩ := h.map.blk
    rw [h3] at h2
    injection h2 with h2
    cases h2
theorem TalIn.part_ne (h : TalIn w B B1 g gm sv av pv ts cs ags m nm cnt) {t : Trd} (ht : t ∈ ts) {k : Nat} (hk : k ∈ t.2.1) : k < w.heap.size ∧ k ≠ g ∧ k ≠ gm ∧ pv.ownBlock ≠ some k := by
  obtain ⟨arr, ty, fr, h1, h2, h3⟩ := (h.parts t ht).1.ty k hk
  refine ⟨(Array.getElem?_eq_some_iff.1 h1).1, ?_, ?_, ?_⟩
  · rintro rfl
    rw [h.box] at h1
    injection h1 with h1
    injection h1 with _ h4 _
    exact h3 h4.symm
  · rintro rfl
    obtain ⟨_, _, h4⟩ := h.map.blk
    rw [h4] at h1
    injection h1 with h1
    cases h1
  · intro e
    obtain ⟨_, _, h4⟩ := h.row.typ e
    rw [h4] at h1
    injection h1 with h1
    injection h1 with _ h5 _
    exact h2 h5.symm
theorem TalIn.keep (h : TalIn w B B1 g gm sv av pv ts cs ags m nm cnt) {f : List Nat} (hc : Chg f w w') (hf : ∀ k ∈ f, B1 ≤ k ∧ k ≠ g ∧ k ≠ gm ∧ pv.ownBlock ≠ some k ∧ ∀ t ∈ ts, k ∉ t.2.1) : TalIn w' B B1 g gm sv av pv ts cs ags m nm cnt := by
  have hB : B1 ≤ w.heap.size := by have := h.gB; have := h.lt; omega
  have hb : Below B1 w w' := hc.below hB (fun k hk => (hf k hk).1)
  have hgg : g ∉ f := fun e => (hf g e).2.1 rfl
  have hmm : gm ∉ f := fun e => (hf gm e).2.2.1 rfl
  exact ⟨h.base, h.gB, h.mB, by rw [hc.block g h.lt hgg]; exact h.box, h.sch.below hb, h.agg.below hb, h.map.keep (hc.block gm h.ltm hmm),
    h.row.keep (fun k hk => hc.block k (h.row_ne hk).1 (fun e => (hf k e).2.2.2.1 hk)), fun t ht => ⟨(h.parts t ht).1.chg hc (fun k hk e => (hf k e).2.2.2.2 t ht hk), (h.parts t ht).2⟩, h.apart⟩
theorem TalIn.below (h : TalIn w B B1 g gm sv av pv ts cs ags m nm cnt) (hb : Below w.heap.size w w') : TalIn w' B B1 g gm sv av pv ts cs ags m nm cnt := h.keep (f := []) (Chg.of hb) (fun k hk => by simp at hk)
/-- One part more. -/
theorem TalIn.push {W w2 : World} (h : TalIn w B B1 g gm sv av pv ts cs ags m nm cnt) (hb : Below w.heap.size w W) {v pv' : Value} {f : List Nat} {p : Pt} (hp : PartAt W f v p) (hf : ∀ x ∈ f, w.heap.size ≤ x) (hgr : W.grownBy w2 pv.ownBlock)
    (hO : Own w2 B1 65 pv' (ts.map (·.1) ++ [v])) : TalIn (w2.setCell ⟨g, 2, none⟩ pv') B B1 g gm sv av pv' (ts ++ [(v, f, p)]) cs ags m nm cnt := by
  have hW := h.below hb
  have hgn : some g ≠ pv.ownBlock := fun e => (hW.row_ne e.symm).2.1 rfl
  have hmn : some gm ≠ pv.ownBlock := fun e => (hW.row_ne e.symm).2.2 rfl
  have hbx : w2.heap[g]? = some (.cells #[sv, av, pv, .map (some gm), .int .i64 cnt] 63 (0, 0)) := (hgr.block g hW.lt hgn).trans hW.box
  have hset : w2.setCell ⟨g, 2, none⟩ pv' = w2.setRow g #[sv, av, pv', .map (some gm), .int .i64 cnt] := setCell_eq_setRow w2 g 2 _ _ _ _ hbx
  have hB : B1 ≤ W.heap.size := by have := hW.gB; have := hW.lt; omega
  have hb2 : Below B1 W (w2.setCell ⟨g, 2, none⟩ pv') := ((Below.refl _ _).grown hgr hB (fun k hk => hW.row.base k hk)).setCell (p := ⟨g, 2, none⟩) hW.gB _
  have hkeep : ∀ k, k < W.heap.size → some k ≠ pv.ownBlock → k ≠ g → (w2.setCell ⟨g, 2, none⟩ pv').heap[k]? = W.heap[k]? := fun k h1 h2 h3 => by
    rw [hset, setRow_other _ _ _ _ h3]
    exact hgr.block k h1 h2
  have hchg : ∀ fx : List Nat, (∀ k ∈ fx, some k ≠ pv.ownBlock ∧ k ≠ g) → ∀ {x : Value} {q : Pt}, PartAt W fx x q → PartAt (w2.setCell ⟨g, 2, none⟩ pv') fx x q := fun fx hx x q hq => by
    have hc : Chg (g :: pv.ownBlock.toList) W (w2.setCell ⟨g, 2, none⟩ pv') := ⟨hb2.os, hb2.tape, hb2.output, hb2.size, fun k h1 h2 => hkeep k h1 (fun e => h2 (by simp [← e])) (fun e => h2 (by simp [e]))⟩
    refine hq.chg hc (fun k hk e => ?_)
    rcases List.mem_cons.1 e with e | e
    · exact (hx k hk).2 e
    · exact (hx k hk).1 (by simpa using (Option.mem_toList.1 e).symm)
  refine ⟨h.base, h.gB, h.mB, by rw [hset]; exact setRow_heap w2 g _ _ _ _ hbx, hW.sch.below hb2, hW.agg.below hb2, hW.map.keep (hkeep gm hW.ltm hmn hW.gm_ne), ?_, ?_, ?_⟩
  · rw [List.map_append]
    refine hO.keep (fun k hk => ?_)
    rw [hset]
    refine setRow_other _ _ _ _ ?_
    rintro rfl
    obtain ⟨_, _, h4⟩ := hO.typ hk
    rw [hbx] at h4
    injection h4 with h4
    injection h4 with _ h5 _
    exact absurd h5 (by decide)
  · intro t ht
    rcases List.mem_append.1 ht with ht | ht
    · exact ⟨hchg _ (fun k hk => ⟨fun e => (hW.part_ne ht hk).2.2.2 e.symm, (hW.part_ne ht hk).2.1⟩) (hW.parts t ht).1, (hW.parts t ht).2⟩
    · simp at ht
      subst ht
      refine ⟨hchg _ (fun k hk => ⟨fun e => ?_, ?_⟩) hp, fun k hk => ?_⟩
      · have := (h.row_ne e.symm).1
        have := hf k hk
        omega
      · have := hf k hk
        have := h.lt
        omega
      · have := hf k hk
        have := h.lt
        have := h.gB
        omega
  · rw [List.pairwise_append]
    refine ⟨hW.apart, by simp, fun s hs t ht => ?_⟩
    simp at ht
    subst ht
    intro k hk e
    have := (h.part_ne hs hk).1
    have := hf k e
    omega
end
end Go.Proofs.Ytnidaahimofppaa
