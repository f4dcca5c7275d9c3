/- Layer 7 (schema): schemas written: walked. -/
import Derived.Test.YthcgdlhmmgpbgaaSchU
import Derived.Lib.Join
namespace Go.Proofs.Ythcgdlhmmgpbgaa
open Go.RowKit Go.Shelf
set_option linter.unusedVariables false
set_option linter.unusedSimpArgs false

/-- ' number', ' text'. -/
def kindT (k : Int) : Bs := if k = 1 then [32, 110, 117, 109, 98, 101, 114] else [32, 116, 101, 120, 116]
def colB (x : Cl) : Bs := tx x.s ++ kindT x.k
def showC (cs : List Cl) : Bs := if mayC cs = true then Lib.join (cs.map colB) [44, 32] else []
theorem join_le (m : List Bs) (hm : ∀ x ∈ m, x.length ≤ 200) : (Lib.join m [44, 32]).length ≤ 202 * m.length := by
  induction m with
  | nil => simp [Lib.join, List.intercalate]
  | cons a r ih =>
    have ha := hm a (by simp)
    cases r with
    | nil => simp [Lib.join, List.intercalate]; omega
    | cons b r =>
      have := ih (fun x hx => hm x (by simp at hx ⊢; exact .inr hx))
      simp only [Lib.join, List.intercalate, List.intersperse, List.flatten_cons, List.length_append, List.length_cons, List.length_nil] at this ⊢
      omega
theorem infoS : (Try.prog.info? 9).map (fun i => (i.zero, i.size, i.bytes)) = some (some (.string ⟨#[]⟩), 1, 16) := by kernel_rfl
theorem map_bs_data (ss : List Bs) : (ss.map bs).map (fun x => x.data.toList) = ss := by
  rw [List.map_map]
  refine (List.map_congr_left (fun u _ => ?_)).trans (List.map_id _)
  exact tx_bs u
set_option maxRecDepth 100000 in
theorem join_str (v : Value) (ss : List Bs) (base : Nat) (w : World) (HO : Own w base 9 v ((ss.map bs).map Value.string)) (hN : ss.length ≤ 1000) (hl : (Lib.join ss [44, 32]).length ≤ 140737488355328) :
    Calls Try.prog 58 #[v, .string ⟨#[44, 32]⟩] w (fun e w' => e = .returned (.string (bs (Lib.join ss [44, 32]))) ∧ Below w.heap.size w w') := by
  have hlen : ((ss.map bs).map Value.string).length = (ss.map bs).length := by simp
  rcases HO.cells with ⟨rfl, hn⟩ | ⟨g, c, rfl, _, hg, hc, _, hcell⟩
  · have h0 : ss = [] := by simpa using hn
    subst h0
    refine (Try.strings_Join_none none 0 ⟨#[44, 32]⟩ w).mono ?_
    rintro e w' ⟨rfl, rfl⟩
    exact ⟨rfl, Below.refl _ _⟩
  · rw [hlen] at hcell hc ⊢
    refine (Try.strings_Join g 0 c (ss.map bs) ⟨#[44, 32]⟩ w (fun j x hj => ?_) hg (by simp; omega) hc (by rw [map_bs_data]; exact hl)).mono ?_
    · have hjl := (List.getElem?_eq_some_iff.1 hj).1
      rw [Nat.zero_add, hcell j hjl, List.getElem?_map, hj]
      rfl
    · rintro e w' ⟨rfl, hb⟩
      rw [map_bs_data]
      exact ⟨rfl, hb⟩
theorem mayC_size {cs : List Cl} (h : mayC cs = true) : ∀ x ∈ cs, x.s.size ≤ 16 := by
  intro x hx
  obtain ⟨i, hi, rfl⟩ := List.getElem_of_mem hx
  have := (mayC_iff.1 h).2 i hi
  simp only [okAt, dif_pos hi, nameN, Bool.and_eq_true, decide_eq_true_eq] at this
  have h2 := this.1.1.1.1.1
  rwa [tx_len] at h2
theorem colB_len {x : Cl} (h : x.s.size ≤ 16) : (colB x).length ≤ 23 := by
  unfold colB kindT
  rw [List.length_append, tx_len]
  split <;> simp <;> omega
theorem showC_len {cs : List Cl} (h : mayC cs = true) : (Lib.join (cs.map colB) [44, 32]).length ≤ 1616 := by
  have h1 := join_le (cs.map colB) (fun x hx => by
    obtain ⟨y, hy, rfl⟩ := List.mem_map.1 hx
    have := colB_len (mayC_size h y hy)
    omega)
  have := (mayC_iff.1 h).1
  rw [List.length_map] at h1
  omega
theorem kind1_app (s : ByteArray) : s ++ (⟨#[32, 110, 117, 109, 98, 101, 114]⟩ : ByteArray) = bs (tx s ++ [32, 110, 117, 109, 98, 101, 114]) := by
  have h2 : (⟨#[32, 110, 117, 109, 98, 101, 114]⟩ : ByteArray) = bs [32, 110, 117, 109, 98, 101, 114] := rfl
  rw [h2, ← bs_app, bs_tx]
theorem kind2_app (s : ByteArray) : s ++ (⟨#[32, 116, 101, 120, 116]⟩ : ByteArray) = bs (tx s ++ [32, 116, 101, 120, 116]) := by
  have h2 : (⟨#[32, 116, 101, 120, 116]⟩ : ByteArray) = bs [32, 116, 101, 120, 116] := rfl
  rw [h2, ← bs_app, bs_tx]
def ptS (cs : List Cl) (pre : List (Fin cs.length)) : List Value := pre.map (fun x => Value.string (bs (colB (cs[x.1]'x.2))))
section
attribute [local go_sem] Oper.semAt_some
set_option maxRecDepth 100000 in
set_option maxHeartbeats 2000000 in
theorem cShow_any (v : Value) (cs : List Cl) (w : World) (H : HasC w w.heap.size v cs) (hz : ∀ x ∈ cs, SzB x.s) :
    Calls Try.prog 34 #[v] w fun e w' => e = .returned (.string (bs (showC cs))) ∧ Below w.heap.size w w' := by
  obtain ⟨A, c, rfl, hlc, hA⟩ := id H
  have h1 := Kept.mk H
  clear H
  refine (callsIn_wide (n := 3)).1 ?_
  refine callsIn_of_wp_marks Try.func34 rfl trivial ?_ rfl
  simp only [Try.ntmps34, List.size_toArray, List.length_cons, List.length_nil, Nat.reduceAdd, Nat.reduceSub, Array.replicate_succ, Array.replicate_zero, List.push_toArray, List.append_toArray, List.nil_append, List.cons_append]
  gi_wp2
  have b0 := Boxed.new w 25 (.slice A cs.length c)
  have hB0 : Below w.heap.size w (w.alloc (.cells #[.slice A cs.length c] 25)) := (Below.refl _ w).alloc (Nat.le_refl _) _
  generalize w.alloc (.cells #[.slice A cs.length c] 25) = w0 at b0 hB0 ⊢
  refine ⟨trivial, ?_⟩
  refine (callsIn_wide.2 (cMay_any A cs.length c cs _ ((h1.out.below hB0).up hB0.size) hz)).mono ?_
  rintro e w1 ⟨rfl, hb1⟩
  have b0' := boxed_below b0 hb1
  have hB1 := hB0.trans (hb1.mono hB0.size)
  clear b0 hB0 hb1
  have hc0 := b0'.cell
  cases m1 : mayC cs with
  | false =>
    have hv : showC cs = [] := by simp [showC, m1]
    gi_wp2
    exact ⟨_, results_tmp rfl _ _ _, by rw [hv]; rfl, hB1⟩
  | true =>
    have L1 := (mayC_iff.1 m1).1
    have hs1 := b0'.lt
    have hle1 := hB1.size
    gi_wp2_with (first | (refine ⟨trivial, ?_⟩; gi_at_call 36; refine (names_in Fence.wide _ trivial rfl _ _ _ _).mono ?_; rintro e w' ⟨rfl, rfl⟩))
    obtain ⟨i0, hi, hzz⟩ := Option.map_eq_some_iff.1 infoS
    simp only [Prod.mk.injEq] at hzz
    obtain ⟨hz0, hz1, hz2⟩ := hzz
    have hE : ((w1.alloc (.cells #[] 9)).alloc (.cells #[.slice (some ⟨w1.heap.size, 0, none⟩) 0 0] 84) |>.alloc (.cells #[.slice A cs.length c] 25)).ownsRow w1.heap.size 9 1 (.slice (some ⟨w1.heap.size, 0, none⟩) 0 0) 0 [] :=
      ((Own.empty w1 w1.heap.size 9 (Nat.le_refl _)).alloc _).alloc _
    have hV := (Boxed.new (w1.alloc (.cells #[] 9)) 84 (.slice (some ⟨w1.heap.size, 0, none⟩) 0 0)).alloc (.cells #[.slice A cs.length c] 25)
    have hN := (Boxed.new ((w1.alloc (.cells #[] 9)).alloc (.cells #[.slice (some ⟨w1.heap.size, 0, none⟩) 0 0] 84)) 25 (.slice A cs.length c)).cell
    rw [World.size_alloc] at hV
    rw [World.size_alloc, World.size_alloc] at hN
    have hB4 : Below w1.heap.size w1 (((w1.alloc (.cells #[] 9)).alloc (.cells #[.slice (some ⟨w1.heap.size, 0, none⟩) 0 0] 84)).alloc (.cells #[.slice A cs.length c] 25)) := (((Below.refl _ w1).alloc (Nat.le_refl _) _).alloc (by simp) _).alloc (by simp; omega) _
    have hs4 : (((w1.alloc (.cells #[] 9)).alloc (.cells #[.slice (some ⟨w1.heap.size, 0, none⟩) 0 0] 84)).alloc (.cells #[.slice A cs.length c] 25)).heap.size = w1.heap.size + 3 := by simp
    generalize ((w1.alloc (.cells #[] 9)).alloc (.cells #[.slice (some ⟨w1.heap.size, 0, none⟩) 0 0] 84)).alloc (.cells #[.slice A cs.length c] 25) = w4 at hE hV hN hB4 hs4 ⊢
    have hH1 : HasC w1 w1.heap.size (.slice A cs.length c) cs := (h1.out.below hB1).up hle1
    obtain ⟨b, off, hA', hb, hcell⟩ := hH1.opn.2.2 (by rintro rfl; simp at L1)
    subst hA'
    have hsz := mayC_size m1
    refine wpIn_rangeFunc_ownG rfl (by omega) (gf := 59) (lb := #[.pointer (some ⟨w1.heap.size + 1 + 1, 0, none⟩)]) rfl trivial (enters_of Try.func59 (by kernel_rfl) rfl)
      (names_stops Fence.wide (3 - 1) trivial rfl (by omega) (w1.heap.size + 1 + 1) w1.heap.size _ cs (by omega) w4 (by omega) (by omega) hN (hH1.below hB4)) belowK_t (belowK_b (by omega)) (Below.refl _ _) (fun _ => rfl)
      (fun pre W => (∃ v, Boxed W (w1.heap.size + 1) 84 v ∧ W.ownsRow w1.heap.size 9 1 v pre.length (ptS cs pre) ∧ True) ∧ Below w1.heap.size w1 W)
      (fun _ _ _ => False)
      (OwnFrom.and (Own.from (holdsRow_own w1.heap.size (w1.heap.size + 1) 84 9 1 (fun pre => pre.length) (fun pre => ptS cs pre) (fun _ _ => True)) _) (ownFrom_below (Nat.le_refl _) (by omega)))
      (fun _ _ _ _ _ hs _ _ => hs)
      ⟨⟨_, hV, by simpa [ptS] using hE, trivial⟩, hB4⟩
      (fun x => { tmps := #[.slice (some ⟨b, off, none⟩) cs.length c, .pointer (some ⟨w.heap.size, 0, none⟩), .string ⟨#[]⟩, .pointer (some ⟨w1.heap.size + 1, 0, none⟩), .int .i64 ((x.1 : Nat) : Int), .string (cs[x.1]'x.2).s, .slice (some ⟨b, off, none⟩) cs.length c, .bool true, .bool false, .slice (some ⟨w1.heap.size, 0, none⟩) 0 0, .slice (some ⟨b, off, none⟩) cs.length c, .func (.func 59) #[] #[.pointer (some ⟨w1.heap.size + 1 + 1, 0, none⟩)], .int .i64 ((x.1 : Nat) : Int), .string (cs[x.1]'x.2).s, undef, undef, undef, undef, undef, undef, undef, undef, undef, undef, undef, undef, undef, undef, undef, undef, undef, undef], defers := [] }) ?assign ?body ?done ?stop
    case assign =>
      intro l x W K hK
      gi_wp2
      exact hK
    case body =>
      rintro l pre x W ⟨⟨v, hv, hrow, _⟩, hB⟩ hpl
      obtain ⟨i, hi'⟩ := x
      have e1 : W.cell? ⟨b, off + i * 2 + 1, none⟩ = some (.int .i64 (cs[i]).k) := (hB.cell (p := ⟨b, off + i * 2 + 1, none⟩) hb).trans (hcell i hi').2
      have hcb : W.cell? ⟨w.heap.size, 0, none⟩ = some (.slice (some ⟨b, off, none⟩) cs.length c) := (hB.cell (p := ⟨w.heap.size, 0, none⟩) hs1).trans hc0
      have hcv := hv.cell
      have hfv := hv.frozen
      have hzz := hsz cs[i] (List.getElem_mem hi')
      have hpt : ptS cs (pre ++ [⟨i, hi'⟩]) = ptS cs pre ++ [.string (bs (colB cs[i]))] := by simp [ptS]
      have ci' : (i : Int) < (cs.length : Int) := by omega
      have f0 : 0 ≤ (i : Int) := by omega
      dsimp only
      generalize cs[i] = x at e1 hzz hpt
      obtain ⟨xs, xk⟩ := x
      simp only at e1 hzz hpt
      dsimp only
      by_cases hk : xk = 1
      · subst hk
        gi_wp2_with (first | ((gi_at_builtin); refine wpListIn_append_own _ rfl (.tmp 20) (.tmp 23) 84 rfl w1.heap.size 9 i0 (.string ⟨#[]⟩) 1 16 Try.underlying84 hi hz0 hz1 hz2 rfl (by decide) _ _ _ rfl (hrow.alloc _) ⟨W.heap.size, 0, none⟩ 1 1 [.string (xs ++ ⟨#[32, 110, 117, 109, 98, 101, 114]⟩)] rfl rfl (cell_one_new _ _ _) (by simp [Value.oneCell']) (by simp only [maxLen]; omega) (by omega) (by have := hB.size; simp; omega) ?_; intro v' w2 hown' hgrow _; obtain ⟨g', cap', rfl⟩ := ownsRow_succ hown'; obtain ⟨hv1, hv2, hr2, hk2, hb2⟩ := hv.appended (by decide) hrow hB.size (by omega) hown' hgrow; have hc1 := hv1.cell; have hf1 := hv1.frozen))
        exact ⟨hk2.from _, hb2, ⟨_, hv2, by rw [hpt, List.length_append, show bs (colB ⟨xs, _⟩) = xs ++ ⟨#[32, 110, 117, 109, 98, 101, 114]⟩ from (by rw [kind1_app]; simp [colB, kindT, if_true])]; exact hr2, trivial⟩, hB.trans hb2⟩
      · gi_wp2_with (first | ((gi_at_builtin); refine wpListIn_append_own _ rfl (.tmp 25) (.tmp 28) 84 rfl w1.heap.size 9 i0 (.string ⟨#[]⟩) 1 16 Try.underlying84 hi hz0 hz1 hz2 rfl (by decide) _ _ _ rfl (hrow.alloc _) ⟨W.heap.size, 0, none⟩ 1 1 [.string (xs ++ ⟨#[32, 116, 101, 120, 116]⟩)] rfl rfl (cell_one_new _ _ _) (by simp [Value.oneCell']) (by simp only [maxLen]; omega) (by omega) (by have := hB.size; simp; omega) ?_; intro v' w2 hown' hgrow _; obtain ⟨g', cap', rfl⟩ := ownsRow_succ hown'; obtain ⟨hv1, hv2, hr2, hk2, hb2⟩ := hv.appended (by decide) hrow hB.size (by omega) hown' hgrow; have hc1 := hv1.cell; have hf1 := hv1.frozen))
        exact ⟨hk2.from _, hb2, ⟨_, hv2, by rw [hpt, List.length_append, show bs (colB ⟨xs, _⟩) = xs ++ ⟨#[32, 116, 101, 120, 116]⟩ from (by rw [kind2_app]; simp [colB, kindT, if_neg hk])]; exact hr2, trivial⟩, hB.trans hb2⟩
    case done =>
      rintro D zs W hD rfl ⟨⟨v, hv, hrow, _⟩, hB⟩ hK
      have hcv := hv.cell
      have hpa : ptS cs (uptoF cs.length cs.length) = ((cs.map colB).map bs).map Value.string := by
        simp only [ptS, uptoF, List.map_map]
        apply List.ext_getElem
        · simp
        · intro i g1 g2
          simp
      have hO : Own W w1.heap.size 9 v (((cs.map colB).map bs).map Value.string) := by
        rw [← hpa]
        have hl : (uptoF cs.length cs.length).length = (ptS cs (uptoF cs.length cs.length)).length := by simp [ptS]
        unfold Own
        rw [← hl]
        exact hrow
      obtain ⟨A5, c5, rfl⟩ := id hO.slice
      have hln : (((cs.map colB).map bs).map Value.string).length = cs.length := by simp
      rw [hln] at hO hcv
      have hjs := join_str (.slice A5 cs.length c5) (cs.map colB) _ W hO (by simp; omega) (by have := showC_len m1; omega)
      clear hO hpa hv hrow hln
      have hv9 : showC cs = Lib.join (cs.map colB) [44, 32] := by simp [showC, m1]
      rw [← hv9] at hjs
      clear hv9
      obtain ⟨out, hout⟩ : ∃ out, showC cs = out := ⟨_, rfl⟩
      rw [hout] at hjs
      gi_wp2_with (first | (refine ⟨trivial, ?_⟩; gi_at_call 58; refine (callsIn_wide.2 hjs).mono ?_; rintro e w5 ⟨rfl, hb5⟩))
      have hK5 := (hb5.block D (Array.getElem?_eq_some_iff.1 hK).1).trans hK
      have hle := hB.size
      refine ⟨by simp, .inl ⟨_, _, rfl, run_takeDeferred hK5, ?_⟩⟩
      exact ⟨_, results_tmp rfl _ _ _, by rw [hout]; rfl, ((hB1.trans (hB.mono hle1)).trans (hb5.mono (by omega))).trans (belowK_b (w := w) (Nat.le_refl _) w5 D _ _ (by omega) hK5 rfl rfl)⟩
    case stop =>
      rintro D cd pre W _ _ h _
      exact h.elim
end
end Go.Proofs.Ythcgdlhmmgpbgaa
