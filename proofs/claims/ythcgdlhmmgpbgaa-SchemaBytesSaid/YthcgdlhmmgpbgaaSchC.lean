/- Layer 7 (schema), plain words: what fits part by part fits the whole. -/
import Derived.Test.YthcgdlhmmgpbgaaSchLb
namespace Go.Proofs.Ythcgdlhmmgpbgaa
set_option linter.unusedVariables false
set_option linter.unusedSimpArgs false

theorem kEq_iff {xs ys : List Int} : kEq xs ys = true ↔ xs = ys := by
  induction xs generalizing ys with
  | nil => cases ys <;> simp [kEq]
  | cons x a ih => cases ys with
    | nil => simp [kEq]
    | cons y b => simp [kEq, ih]
theorem fitsC_iff {xs : List Cl} {r : List Vr} : fitsC xs r = true ↔ mayC xs = true ∧ mayR r = true ∧ xs.map Cl.k = r.map Vr.k := by
  simp only [fitsC, Bool.and_eq_true, kEq_iff, and_assoc]
theorem fits_len {xs : List Cl} {r : List Vr} (h : fitsC xs r = true) : xs.length = r.length := by
  have := congrArg List.length (fitsC_iff.1 h).2.2
  simpa using this
def getR (r : List Vr) (c : Int) : Vr := (r[c.toNat]?).getD ⟨0, 0, ⟨#[]⟩⟩
theorem pickL_ok {r : List Vr} {ns : List Int} (h : ∀ c ∈ ns, ¬ (c < 0 ∨ (r.length : Int) ≤ c)) : pickL r ns = some (ns.map (getR r)) := by
  induction ns with
  | nil => rfl
  | cons c t ih =>
    have hc := h c (by simp)
    have hl : c.toNat < r.length := by omega
    rw [pickL, if_neg (by omega), List.getElem?_eq_getElem hl, ih (fun x hx => h x (by simp [hx]))]
    simp [getR, hl]
theorem getR_mem {r : List Vr} {c : Int} (h : ¬ (c < 0 ∨ (r.length : Int) ≤ c)) : getR r c ∈ r := by
  have hl : c.toNat < r.length := by omega
  simp only [getR, List.getElem?_eq_getElem hl, Option.getD_some]
  exact List.getElem_mem hl
theorem fits_kind {a : List Cl} {r : List Vr} (hk : a.map Cl.k = r.map Vr.k) {c : Int} (h : ¬ (c < 0 ∨ (r.length : Int) ≤ c)) : (getC a c).k = (getR r c).k := by
  have hla : a.length = r.length := by simpa using congrArg List.length hk
  have hl : c.toNat < r.length := by omega
  have hl2 : c.toNat < a.length := by omega
  simp only [getR, getC, List.getElem?_eq_getElem hl, List.getElem?_eq_getElem hl2, Option.getD_some]
  have h1 : (a.map Cl.k)[c.toNat]'(by simpa using hl2) = (r.map Vr.k)[c.toNat]'(by simpa using hl) := by simp only [hk]
  rwa [List.getElem_map, List.getElem_map] at h1
theorem pickC_ok {a : List Cl} {ns : List Int} (h : (pickC a ns).2 = 0) : mayC a = true ∧ ns.length ≤ 8 ∧ ¬ badN a.length ns ∧ ns.Nodup ∧ (pickC a ns).1 = ns.map (getC a) := by
  unfold pickC at h ⊢
  split at h
  · rename_i m
    split at h
    · cases h
    · rename_i l
      split at h
      · cases h
      · rename_i b
        split at h
        · rename_i n
          exact ⟨m, by omega, b, n, by rw [if_pos m, if_neg l, if_neg b, if_pos n]⟩
        · cases h
  · cases h
theorem fits_pick {a : List Cl} {r : List Vr} {ns : List Int} (hf : fitsC a r = true) (hp : (pickC a ns).2 = 0) (h0 : (pickC a ns).1 ≠ []) : (pickR r ns).2 = 0 ∧ fitsC (pickC a ns).1 (pickR r ns).1 = true := by
  obtain ⟨m, l, b, n, e⟩ := pickC_ok hp
  obtain ⟨_, mr, hk⟩ := fitsC_iff.1 hf
  have hla := fits_len hf
  have hin : ∀ c ∈ ns, ¬ (c < 0 ∨ (r.length : Int) ≤ c) := fun c hc h => b ⟨c, hc, by omega⟩
  have hq : pickR r ns = (ns.map (getR r), 0) := by
    unfold pickR
    rw [if_pos mr, if_neg (by omega), pickL_ok hin]
  rw [hq, e]
  rw [e] at h0
  refine ⟨rfl, fitsC_iff.2 ⟨(mayC_pick m l (by rintro rfl; exact h0 rfl) b).2 n, ?_, ?_⟩⟩
  · refine mayR_iff.2 ⟨by simpa using l, fun x hx => ?_⟩
    obtain ⟨c, hc, rfl⟩ := List.mem_map.1 hx
    exact (mayR_iff.1 mr).2 _ (getR_mem (hin c hc))
  · rw [List.map_map, List.map_map]
    exact List.map_congr_left (fun c hc => fits_kind hk (hin c hc))
theorem joinC_ok {a b : List Cl} (h : (joinC a b).2 = 0) : mayC a = true ∧ mayC b = true ∧ a.length + b.length ≤ 8 ∧ (¬ ∃ y ∈ b, 0 ≤ idx a y.s) ∧ (joinC a b).1 = a ++ b := by
  unfold joinC at h ⊢
  split at h
  · rename_i m
    split at h
    · cases h
    · rename_i l
      split at h
      · cases h
      · rename_i n
        exact ⟨m.1, m.2, by omega, n, by rw [if_pos m, if_neg l, if_neg n]⟩
  · cases h
theorem fits_join {a b : List Cl} {r s : List Vr} (h1 : fitsC a r = true) (h2 : fitsC b s = true) (hj : (joinC a b).2 = 0) : (joinR r s).2 = 0 ∧ fitsC (joinC a b).1 (joinR r s).1 = true := by
  obtain ⟨m1, m2, l, n, e⟩ := joinC_ok hj
  obtain ⟨_, r1, k1⟩ := fitsC_iff.1 h1
  obtain ⟨_, r2, k2⟩ := fitsC_iff.1 h2
  have l1 := fits_len h1
  have l2 := fits_len h2
  have hq : joinR r s = (r ++ s, 0) := by
    unfold joinR
    rw [if_pos ⟨r1, r2⟩, if_neg (by omega)]
  rw [hq, e]
  refine ⟨rfl, fitsC_iff.2 ⟨(mayC_join m1 m2 l).2 n, mayR_iff.2 ⟨by rw [List.length_append]; omega, fun x hx => (List.mem_append.1 hx).elim ((mayR_iff.1 r1).2 x) ((mayR_iff.1 r2).2 x)⟩, ?_⟩⟩
  rw [List.map_append, List.map_append, k1, k2]
end Go.Proofs.Ythcgdlhmmgpbgaa
