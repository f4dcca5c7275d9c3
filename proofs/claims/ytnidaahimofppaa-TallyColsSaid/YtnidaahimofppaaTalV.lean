/- Layer 26 (tally): what a put makes of a tally. -/
import Derived.Test.YtnidaahimofppaaTalU
import Derived.Test.YtnidaahimofppaaRowW
import Derived.StringKeys
namespace Go.Proofs.Ytnidaahimofppaa
open Go.RowKit Go.Maps
set_option linter.unusedVariables false
set_option linter.unusedSimpArgs false

def keyR (r : List Vr) : List UInt8 := tx (strOfNums (bytesR r))
def updM (m : List UInt8 → Int) (k : List UInt8) (x : Int) : List UInt8 → Int := fun j => if j = k then x else m j
theorem MapIs.look {w : World} {b n : Nat} {m : List UInt8 → Int} (h : MapIs w b n m) : ∃ D : DataW Unit, w.ownsMap Try.prog 9 (plainElem Try.prog 3) b n D ∧ IsMap D ∧ ∀ k, D.atKey (.string k) (.lit (.int .i64 0)) = .lit (.int .i64 (m k)) := by
  obtain ⟨D, h1, h2⟩ := h
  refine ⟨D, h1, ?_, h2⟩
  obtain ⟨es, c, _, _, _, rfl⟩ := h1
  exact ⟨_, rfl⟩
theorem MapIs.put {w : World} {b n : Nat} {m : List UInt8 → Int} {D : DataW Unit} (hD : IsMap D) (h2 : ∀ k, D.atKey (.string k) (.lit (.int .i64 0)) = .lit (.int .i64 (m k))) (k : List UInt8) (x : Int) (h : w.ownsMap Try.prog 9 (plainElem Try.prog 3) b n (D.put (.string k) (.lit (.int .i64 x)))) : MapIs w b n (updM m k x) := by
  refine ⟨_, h, fun j => ?_⟩
  unfold updM
  by_cases e : j = k
  · subst e
    rw [if_pos rfl, atKey_put_same (k := Lit.string j) hD trivial]
  · rw [if_neg e, atKey_put_other (by intro h; injection h with h; exact e h)]
    exact h2 j
theorem MapIs.del {w : World} {b n : Nat} {m : List UInt8 → Int} {D : DataW Unit} (h2 : ∀ k, D.atKey (.string k) (.lit (.int .i64 0)) = .lit (.int .i64 (m k))) (k : List UInt8) (h : w.ownsMap Try.prog 9 (plainElem Try.prog 3) b n (D.del (.string k))) : MapIs w b n (updM m k 0) := by
  refine ⟨_, h, fun j => ?_⟩
  unfold updM
  by_cases e : j = k
  · subst e
    rw [if_pos rfl, atKey_del_same]
  · rw [if_neg e, atKey_del_other (by intro h; injection h with h; exact e h)]
    exact h2 j
theorem MapIs.mono {w : World} {b n n' : Nat} {m : List UInt8 → Int} (h : MapIs w b n m) (hn : n ≤ n') : MapIs w b n' m := by
  obtain ⟨D, h1, h2⟩ := h
  exact ⟨D, h1.mono hn, h2⟩
/-- The value in column c. -/
def valAt (r : List Vr) (c : Int) : Vr := r.getD c.toNat ⟨0, 0, ⟨#[]⟩⟩
def ptPut (x : Vr) (n : Int) : Pt → Pt
  | .cnt c => .cnt (c + n)
  | .tot T => .tot (T + x.n * n)
  | p => p
def simpleP : Pt → Bool
  | .ext _ => false
  | .sid _ => false
  | _ => true
/-- After M puts. -/
def okPt (M : Nat) : Pt → Prop
  | .cnt c => -((M : Int) * 1048576) ≤ c ∧ c ≤ (M : Int) * 1048576
  | .tot T => -((M : Int) * 9671406556917033397649408) ≤ T ∧ T ≤ (M : Int) * 9671406556917033397649408
  | _ => True
theorem mul_small {m n : Int} (hm : okH m) (h1 : n ≤ 1048576) (h2 : -1048576 ≤ n) : -9671406556917033397649408 ≤ m * n ∧ m * n ≤ 9671406556917033397649408 := by
  have h := Int.natAbs_mul m n
  have ha : m.natAbs ≤ 9223372036854775808 := by unfold okH at hm; omega
  have hb : n.natAbs ≤ 1048576 := by omega
  have hc := Nat.mul_le_mul ha hb
  rw [← h] at hc
  omega
theorem okPt_put {M : Nat} {p : Pt} (h : okPt M p) {x : Vr} {n : Int} (hx : okH x.n) (h1 : n ≤ 1048576) (h2 : -1048576 ≤ n) : okPt (M + 1) (ptPut x n p) := by
  have hm := mul_small hx h1 h2
  cases p with
  | cnt c => simp only [okPt, ptPut] at h ⊢; omega
  | tot T =>
    simp only [okPt, ptPut] at h ⊢
    generalize x.n * n = y at hm ⊢
    omega
  | ext _ => trivial
  | sid _ => trivial
  | sta => trivial
theorem okPt_up {M : Nat} {p : Pt} (h : okPt M p) : okPt (M + 1) p := by
  cases p with
  | cnt c => simp only [okPt] at h ⊢; omega
  | tot T => simp only [okPt] at h ⊢; omega
  | ext _ => trivial
  | sid _ => trivial
  | sta => trivial
theorem simple_put {p : Pt} (x : Vr) (n : Int) (h : simpleP p = true) : simpleP (ptPut x n p) = true := by cases p <;> simp_all [simpleP, ptPut]
theorem okPt_inW {M : Nat} (hM : M ≤ 1000) {T : Int} (h : okPt M (.tot T)) : inW T := by
  simp only [okPt] at h
  unfold inW
  omega
/-- The parts behind a put. -/
def ptsPut (r : List Vr) (n : Int) (ags : List Vr) (ps : List Pt) : List Pt := List.zipWith (fun a p => ptPut (valAt r a.n) n p) ags ps
/-- The first i of them are done. -/
def mixP (r : List Vr) (n : Int) (ags : List Vr) (ps : List Pt) (i : Nat) : List Pt := (ptsPut r n ags ps).take i ++ ps.drop i
theorem mixP_0 (r : List Vr) (n : Int) (ags : List Vr) (ps : List Pt) : mixP r n ags ps 0 = ps := by simp [mixP]
theorem mixP_all {r : List Vr} {n : Int} {ags : List Vr} {ps : List Pt} (h : ags.length = ps.length) : mixP r n ags ps ps.length = ptsPut r n ags ps := by
  unfold mixP
  rw [List.drop_length, List.append_nil, List.take_of_length_le]
  simp [ptsPut, h]
theorem mixP_at {r : List Vr} {n : Int} {ags : List Vr} {ps : List Pt} (h : ags.length = ps.length) {i : Nat} (hi : i < ps.length) : (mixP r n ags ps i)[i]? = some ps[i] := by
  unfold mixP
  have hl : ((ptsPut r n ags ps).take i).length = i := by simp [ptsPut, h]; omega
  rw [List.getElem?_append_right (by omega), hl, Nat.sub_self, List.getElem?_drop]
  simp [hi]
theorem mixP_next {r : List Vr} {n : Int} {ags : List Vr} {ps : List Pt} (h : ags.length = ps.length) {i : Nat} (hi : i < ps.length) : mixP r n ags ps (i + 1) = (mixP r n ags ps i).set i (ptPut (valAt r (ags[i]'(by omega)).n) n ps[i]) := by
  unfold mixP
  have hl : ((ptsPut r n ags ps).take i).length = i := by simp [ptsPut, h]; omega
  have hz : i < (ptsPut r n ags ps).length := by simp [ptsPut, h]; omega
  rw [List.take_succ_eq_append_getElem hz, List.drop_eq_getElem_cons hi, List.set_append_right _ _ (by omega), hl, Nat.sub_self, List.set_cons_zero, List.append_assoc]
  congr 1
  simp [ptsPut]
theorem mixP_len {r : List Vr} {n : Int} {ags : List Vr} {ps : List Pt} (h : ags.length = ps.length) (i : Nat) (hi : i ≤ ps.length) : (mixP r n ags ps i).length = ps.length := by
  simp [mixP, ptsPut, h]
  omega
def errT (cs : List Cl) (m : List UInt8 → Int) (cnt : Int) (r : List Vr) (n : Int) : Int :=
  if fitsC cs r = false then 17 else if 1048576 < n ∨ n < -1048576 then 2 else if m (keyR r) + n < 0 then 20 else if 1048576 < cnt + n then 7 else 0
/-- A value in one part has changed. -/
theorem TalIn.upd {w w' : World} {B B1 g gm : Nat} {sv av pv : Value} {ts : List Trd} {cs : List Cl} {ags : List Vr} {m : List UInt8 → Int} {nm : Nat} {cnt : Int} (h : TalIn w B B1 g gm sv av pv ts cs ags m nm cnt)
    {i : Nat} (hi : i < ts.length) {v : Value} {f' : List Nat} {p' : Pt} (hv : v = ts[i].1) (hc : Chg ts[i].2.1 w w') (hp : PartAt w' f' v p') (hf : ∀ k ∈ f', k ∈ ts[i].2.1 ∨ w.heap.size ≤ k) :
    TalIn w' B B1 g gm sv av pv (ts.set i (v, f', p')) cs ags m nm cnt := by
  have hmem : ts[i] ∈ ts := List.getElem_mem hi
  have hB : B1 ≤ w.heap.size := by have := h.gB; have := h.lt; omega
  have hb : Below B1 w w' := hc.below hB (fun k hk => (h.parts _ hmem).2 k hk)
  have hdis : ∀ j, (hj : j < ts.length) → j ≠ i → ∀ k ∈ ts[j].2.1, k ∉ ts[i].2.1 := fun j hj hne k hk e => by
    rcases Nat.lt_or_gt_of_ne hne with h1 | h1
    · exact List.pairwise_iff_getElem.1 h.apart j i hj hi h1 k hk e
    · exact List.pairwise_iff_getElem.1 h.apart i j hi hj h1 k e hk
  refine ⟨h.base, h.gB, h.mB, by rw [hc.block g h.lt (fun e => (h.part_ne hmem e).2.1 rfl)]; exact h.box, h.sch.below hb, h.agg.below hb,
    h.map.keep (hc.block gm h.ltm (fun e => (h.part_ne hmem e).2.2.1 rfl)), ?_, ?_, ?_⟩
  · have e : (ts.set i (v, f', p')).map (·.1) = ts.map (·.1) := by
      rw [List.map_set]
      simp only [hv]
      rw [show ts[i].1 = (ts.map (·.1))[i]'(by simpa using hi) by simp, List.set_getElem_self]
    rw [e]
    exact h.row.keep (fun k hk => hc.block k (h.row_ne hk).1 (fun e => (h.part_ne hmem e).2.2.2 hk))
  · intro t ht
    obtain ⟨j, hj, rfl⟩ := List.getElem_of_mem ht
    rw [List.length_set] at hj
    rw [List.getElem_set]
    split
    · rename_i e
      subst e
      exact ⟨hp, fun k hk => (hf k hk).elim (fun e => (h.parts _ hmem).2 k e) (fun e => by omega)⟩
    · rename_i hne
      exact ⟨(h.parts _ (List.getElem_mem hj)).1.chg hc (fun k hk => hdis j hj (fun e => hne e.symm) k hk), (h.parts _ (List.getElem_mem hj)).2⟩
  · rw [List.pairwise_iff_getElem]
    intro a b ha hb' hab k hk e
    rw [List.length_set] at ha hb'
    rw [List.getElem_set] at hk e
    split at hk
    · rename_i h1
      subst h1
      rw [if_neg (by omega)] at e
      rcases hf k hk with h2 | h2
      · exact hdis b hb' (by omega) k e h2
      · have := (h.part_ne (List.getElem_mem hb') e).1
        omega
    · split at e
      · rename_i h1
        subst h1
        rcases hf k e with h2 | h2
        · exact hdis a ha (by omega) k hk h2
        · have := (h.part_ne (List.getElem_mem ha) hk).1
          omega
      · exact List.pairwise_iff_getElem.1 h.apart a b ha hb' hab k hk e
/-- The map has been written, or the count. -/
theorem TalIn.mapped {w w' : World} {B B1 g gm : Nat} {sv av pv : Value} {ts : List Trd} {cs : List Cl} {ags : List Vr} {m m' : List UInt8 → Int} {nm nm' : Nat} {cnt : Int} (h : TalIn w B B1 g gm sv av pv ts cs ags m nm cnt) (hg : w.grownBy w' (some gm)) (hm : MapIs w' gm nm' m') :
    TalIn w' B B1 g gm sv av pv ts cs ags m' nm' cnt := by
  have hc : Chg [gm] w w' := ⟨hg.os, hg.tape, hg.output, hg.size, fun k h1 h2 => hg.block k h1 (fun e => h2 (by injection e with e; simp [e]))⟩
  have hB : B1 ≤ w.heap.size := by have := h.gB; have := h.lt; omega
  have hb : Below B1 w w' := hc.below hB (fun k hk => by simp at hk; subst hk; exact h.mB)
  exact ⟨h.base, h.gB, h.mB, by rw [hc.block g h.lt (by simp; exact fun e => h.gm_ne e.symm)]; exact h.box, h.sch.below hb, h.agg.below hb, hm,
    h.row.keep (fun k hk => hc.block k (h.row_ne hk).1 (by simp; exact (h.row_ne hk).2.2)), fun t ht => ⟨(h.parts t ht).1.chg hc (fun k hk => by simp; exact (h.part_ne ht hk).2.2.1), (h.parts t ht).2⟩, h.apart⟩
theorem TalIn.counted {w : World} {B B1 g gm : Nat} {sv av pv : Value} {ts : List Trd} {cs : List Cl} {ags : List Vr} {m : List UInt8 → Int} {nm : Nat} {cnt : Int} (h : TalIn w B B1 g gm sv av pv ts cs ags m nm cnt) (c : Int) :
    TalIn (w.setCell ⟨g, 4, none⟩ (.int .i64 c)) B B1 g gm sv av pv ts cs ags m nm c := by
  have hc : Chg [g] w (w.setCell ⟨g, 4, none⟩ (.int .i64 c)) := chg_set w g 4 _
  have hB : B1 ≤ w.heap.size := by have := h.gB; have := h.lt; omega
  have hb : Below B1 w (w.setCell ⟨g, 4, none⟩ (.int .i64 c)) := hc.below hB (fun k hk => by simp at hk; subst hk; exact h.gB)
  exact ⟨h.base, h.gB, h.mB, heap_setCell_same w g 4 _ _ _ h.box, h.sch.below hb, h.agg.below hb, h.map.keep (hc.block gm h.ltm (by simp; exact h.gm_ne)),
    h.row.keep (fun k hk => hc.block k (h.row_ne hk).1 (by simp; exact (h.row_ne hk).2.1)), fun t ht => ⟨(h.parts t ht).1.chg hc (fun k hk => by simp; exact (h.part_ne ht hk).2.1), (h.parts t ht).2⟩, h.apart⟩
end Go.Proofs.Ytnidaahimofppaa
