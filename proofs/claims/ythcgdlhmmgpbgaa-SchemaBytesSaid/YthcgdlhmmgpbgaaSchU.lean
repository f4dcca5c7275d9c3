/- Layer 7 (schema): slices.Grow and slices.Concat of schemas; schemas joined: walked. -/
import Derived.Test.YthcgdlhmmgpbgaaSchT
import Derived.Lib.AppendZeros
namespace Go.Proofs.Ythcgdlhmmgpbgaa
open Go.RowKit Go.Shelf
set_option linter.unusedVariables false
set_option linter.unusedSimpArgs false

set_option maxRecDepth 100000 in
set_option maxHeartbeats 1000000 in
theorem grow_any (n : Nat) (h1 : 1 ≤ n) (h2 : n ≤ 100) (w : World) :
    Calls Try.prog 60 #[.slice none 0 0, .int .i64 (n : Int)] w (RetC1 w []) := by
  obtain ⟨i0, hi, hzz⟩ := Option.map_eq_some_iff.1 infoC
  simp only [Prod.mk.injEq] at hzz
  obtain ⟨hz0, hz1, hz2⟩ := hzz
  have hr := Lib.run_append_nil_zeros (P := Try.prog) w 25 3 25 41 i0 _ .i64 .i64 Try.underlying25 Try.underlying3 hi hz0 n (by omega) (by rw [hz1]; omega) (by omega) (by rw [hz2]; omega)
  have hge := grownCap_ge w n 0 41
  have hle := grownCap_le_maxLen w n 0 41 (by simp only [maxLen]; omega)
  generalize grownCap w n 0 41 = G at hr hge hle
  have hO : Kept (OwnC (w.drew.alloc (.cells (Builtin.zeroCells (Value.agg #[.string ⟨#[]⟩, .int .i64 0]).cells n ++ Builtin.zeroCells (Value.agg #[.string ⟨#[]⟩, .int .i64 0]).cells (G - n)) 41)) w.heap.size (.slice (some ⟨w.heap.size, 0, none⟩) 0 G) []) :=
    ⟨World.ownsRow_made (base := w.heap.size) (e := 41) (size := 2) w.drew _ G (Nat.le_refl _) hle (by rw [Array.size_append, size_zeroCells, size_zeroCells]; simp [Value.cells]; omega)⟩
  have HB : Kept (Below w.heap.size w (w.drew.alloc (.cells (Builtin.zeroCells (Value.agg #[.string ⟨#[]⟩, .int .i64 0]).cells n ++ Builtin.zeroCells (Value.agg #[.string ⟨#[]⟩, .int .i64 0]).cells (G - n)) 41))) := ⟨(Below.refl _ w).drew.alloc (Nat.le_refl _) _⟩
  have HR := Kept.mk hr
  clear hr hz0 hz1 hz2 hi
  have n0 : ¬ ((n : Int) < 0) := by omega
  have n1 : 0 < (n : Int) := by omega
  have hw : wrap64 (n : Int) = (n : Int) := by simp only [wrap64]; omega
  go_enter Try.func60, Try.ntmps60
  go_wp2_with (first | ((at_builtin); refine Lib.wpList_append_run _ rfl (.tmp 20) (.tmp 21) 25 3 rfl _ _ rfl rfl _ _ HR.out ?_))
  go_returns
  exact ⟨_, rfl, hO.out, HB.out⟩
def prt (xs ys : List Cl) : Nat → List Cl
  | 0 => []
  | 1 => xs
  | _ => xs ++ ys
def CcI (xs ys : List Cl) (w : World) (v11 v3 : Value) (wr : World) : Prop := ∃ i : Nat, v11 = .int .i64 (i : Int) ∧ wr = w ∧ v3 = .int .i64 (((prt xs ys i).length : Nat) : Int) ∧ Kept (i ≤ 2)
def CdI (xs ys : List Cl) (w : World) (v27 v6 : Value) (wr : World) : Prop := ∃ (i : Nat) (r : Array Obj) (d : Nat), v27 = .int .i64 (i : Int) ∧ wr = xw w r d ∧ Kept (OwnC wr w.heap.size v6 (prt xs ys i)) ∧ Kept (i ≤ 2)
set_option maxRecDepth 100000 in
set_option maxHeartbeats 2000000 in
theorem concat_any (g : Nat) (va vb : Value) (xs ys : List Cl) (w : World) (hg : g < w.heap.size) (hg0 : w.cell? ⟨g, 0, none⟩ = some va) (hg1 : w.cell? ⟨g, 1, none⟩ = some vb) (H1 : HasC w w.heap.size va xs) (H2 : HasC w w.heap.size vb ys)
    (hl : xs.length + ys.length ≤ 8) (h1 : 1 ≤ xs.length + ys.length) :
    Calls Try.prog 37 #[.slice (some ⟨g, 0, none⟩) 2 2] w (RetC1 w (xs ++ ys)) := by
  have hh1 := Kept.mk H1
  have hh2 := Kept.mk H2
  obtain ⟨A, c, rfl, _, _⟩ := H1
  obtain ⟨B, d, rfl, _, _⟩ := H2
  have HL := Kept.mk (And.intro hl h1)
  clear hl h1
  go_enter Try.func37, Try.ntmps37
  go_wp2_with fail
  go_loopw [11, 3] (fun v11 v3 wr => CcI xs ys w v11 v3 wr) (fun v11 v3 wr => 2 - (intOf v11).toNat)
  case atStart => exact ⟨0, rfl, rfl, rfl, ⟨by omega⟩⟩
  case round =>
    obtain ⟨i, rfl, rfl, rfl, HI⟩ := hrel
    have h3 : i = 0 ∨ i = 1 ∨ i = 2 := by have := HI.out; omega
    rcases h3 with rfl | rfl | rfl
    · have hw : wrap64 ((xs.length : Nat) : Int) = (xs.length : Int) := by have := HL.out.1; simp only [wrap64]; omega
      have hn : ¬ ((xs.length : Int) < 0) := by omega
      simp only [prt, List.length_nil]
      go_wp2_with fail
      exact ⟨⟨1, rfl, rfl, by first | rfl | (rw [hw]; rfl) | (simp only [prt]; rw [hw]), ⟨by omega⟩⟩, by simp [intOf]⟩
    · have hw : wrap64 ((xs.length : Int) + (ys.length : Int)) = (xs.length : Int) + (ys.length : Int) := by have := HL.out.1; simp only [wrap64]; omega
      have hn : ¬ ((xs.length : Int) + (ys.length : Int) < 0) := by omega
      simp only [prt]
      go_wp2_with fail
      exact ⟨⟨2, rfl, rfl, by simp only [prt, List.length_append, Int.natCast_add]; first | done | rw [hw], ⟨by omega⟩⟩, by simp [intOf]⟩
    · simp only [prt, List.length_append]
      go_wp2_with (first
        | (go_at_call 60; refine (grow_any (xs.length + ys.length) HL.out.2 (by have := HL.out.1; omega) _).mono ?_; rintro e w1 ⟨v1, rfl, hO1, hb1⟩; obtain ⟨r1, d1, rfl⟩ := xw_of hb1; clear hb1; have HO1 := Kept.mk hO1; clear hO1))
      go_loopw [27, 6] (fun v27 v6 wq => CdI xs ys wr v27 v6 wq) (fun v27 v6 wq => 2 - (intOf v27).toNat)
      case atStart => exact ⟨0, _, _, rfl, rfl, HO1, ⟨by omega⟩⟩
      case round =>
        obtain ⟨i, r, d2, rfl, rfl, HO, HJ⟩ := hrel
        clear HO1
        have h3 : i = 0 ∨ i = 1 ∨ i = 2 := by have := HJ.out; omega
        rcases h3 with rfl | rfl | rfl
        · go_wp2_with (first
            | ((at_builtin); refine app_cols (w0 := wr) (W := xw wr r d2) rfl (.tmp 31) (.tmp 32) 25 rfl Try.underlying25 _ [] xs A c rfl rfl ?c2 HO.out (xw_below _ _ _) ?c3 ?_; (case c2 => exact (hh1.out.below (xw_below _ _ _)).read); (case c3 => have := HL.out; simp only [List.length_nil]; omega); intro v2 r2 d3 hO2; have HO2 := Kept.mk hO2; clear hO2))
          exact ⟨⟨1, _, _, rfl, rfl, ⟨by have h := HO2.out; rw [List.nil_append] at h; exact h⟩, ⟨by omega⟩⟩, by simp [intOf]⟩
        · go_wp2_with (first
            | ((at_builtin); refine app_cols (w0 := wr) (W := xw wr r d2) rfl (.tmp 31) (.tmp 32) 25 rfl Try.underlying25 _ xs ys B d rfl rfl ?c2 HO.out (xw_below _ _ _) ?c3 ?_; (case c2 => exact (hh2.out.below (xw_below _ _ _)).read); (case c3 => have := HL.out; omega); intro v2 r2 d3 hO2; have HO2 := Kept.mk hO2; clear hO2))
          exact ⟨⟨2, _, _, rfl, rfl, HO2, ⟨by omega⟩⟩, by simp [intOf]⟩
        · go_wp2_with fail
          go_returns
          exact ⟨_, rfl, HO.out, xw_below _ _ _⟩
def joinC (xs ys : List Cl) : List Cl × Int := if mayC xs = true ∧ mayC ys = true then (if 8 < xs.length + ys.length then ([], 6) else if ∃ y ∈ ys, 0 ≤ idx xs y.s then ([], 9) else (xs ++ ys, 0)) else ([], 17)
theorem two_set {W : World} {s1 s2 : Nat} {t1 t2 : TypeId} {u1 u2 : Value} (h1 : Boxed W s1 t1 u1) (h2 : Boxed W s2 t2 u2) (hne : s1 ≠ s2) (v1 v2 : Value) :
    Boxed ((W.setCell ⟨s1, 0, none⟩ v1).setCell ⟨s2, 0, none⟩ v2) s1 t1 v1 ∧ Boxed ((W.setCell ⟨s1, 0, none⟩ v1).setCell ⟨s2, 0, none⟩ v2) s2 t2 v2 :=
  ⟨(h1.set v1).other hne v2, (h2.other (Ne.symm hne) v1).set v2⟩
theorem below_two {B : Nat} {w W : World} {s1 s2 : Nat} (h : Below B w W) (h1 : B ≤ s1) (h2 : B ≤ s2) (v1 v2 : Value) : Below B w ((W.setCell ⟨s1, 0, none⟩ v1).setCell ⟨s2, 0, none⟩ v2) :=
  (h.setCell (p := ⟨s1, 0, none⟩) h1 _).setCell (p := ⟨s2, 0, none⟩) h2 _
/-- The boxes of Join. -/
def JB (w : World) (va r1 r2 : Value) (W : World) : Prop := (Boxed W w.heap.size 25 va ∧ Boxed W (w.heap.size + 1) 25 r1 ∧ Boxed W (w.heap.size + 1 + 1) 27 r2) ∧ Below w.heap.size w W
theorem JB.next {w W W' : World} {va r1 r2 : Value} (h : JB w va r1 r2 W) (hb : Below W.heap.size W W') : JB w va r1 r2 W' :=
  ⟨⟨boxed_below h.1.1 hb, boxed_below h.1.2.1 hb, boxed_below h.1.2.2 hb⟩, h.2.trans (hb.mono h.2.size)⟩
theorem JB.two {w W : World} {va r1 r2 : Value} (h : JB w va r1 r2 W) (v1 v2 : Value) : JB w va v1 v2 ((W.setCell ⟨w.heap.size + 1, 0, none⟩ v1).setCell ⟨w.heap.size + 1 + 1, 0, none⟩ v2) :=
  ⟨⟨(h.1.1.other (by omega) v1).other (by omega) v2, two_set h.1.2.1 h.1.2.2 (by omega) v1 v2⟩, below_two h.2 (by omega) (by omega) v1 v2⟩
theorem JB.own {β : Type} (w : World) (B : Nat) (hB : w.heap.size ≤ B) (va r1 r2 : Value) (hw : w.heap.size ≤ B) : OwnFrom B (fun (_ : β) W => JB w va r1 r2 W) :=
  OwnFrom.and (OwnFrom.and (Own.from (boxed_own _ _ _) _) (OwnFrom.and (Own.from (boxed_own _ _ _) _) (Own.from (boxed_own _ _ _) _))) (ownFrom_below (Nat.le_refl _) hB)
section
attribute [local go_sem] Oper.semAt_some
set_option maxRecDepth 100000 in
set_option maxHeartbeats 2000000 in
theorem cJoin_any (v u : Value) (xs ys : List Cl) (w : World) (H1 : HasC w w.heap.size v xs) (H2 : HasC w w.heap.size u ys) (hz1 : ∀ x ∈ xs, SzB x.s) (hz2 : ∀ x ∈ ys, SzB x.s) :
    Calls Try.prog 12 #[v, u] w (RetC w (joinC xs ys)) := by
  obtain ⟨A, c, rfl, hlc, _⟩ := id H1
  obtain ⟨B, d, rfl, hld, _⟩ := id H2
  have h1 := Kept.mk H1
  have h2 := Kept.mk H2
  clear H1 H2
  refine (callsIn_wide (n := 3)).1 ?_
  refine callsIn_of_wp_marks Try.func12 rfl trivial ?_ rfl
  simp only [Try.ntmps12, List.size_toArray, List.length_cons, List.length_nil, Nat.reduceAdd, Nat.reduceSub, Array.replicate_succ, Array.replicate_zero, List.push_toArray, List.append_toArray, List.nil_append, List.cons_append]
  gi_wp2
  have hJ0 : JB w (.slice A xs.length c) (.slice none 0 0) (.int .i64 0) (((w.alloc (.cells #[.slice A xs.length c] 25)).alloc (.cells #[.slice none 0 0] 25)).alloc (.cells #[.int .i64 0] 27)) := by
    have b1 := (Boxed.new (w.alloc (.cells #[.slice A xs.length c] 25)) 25 (.slice none 0 0)).alloc (.cells #[.int .i64 0] 27)
    have b2 := Boxed.new ((w.alloc (.cells #[.slice A xs.length c] 25)).alloc (.cells #[.slice none 0 0] 25)) 27 (.int .i64 0)
    rw [World.size_alloc] at b1
    rw [World.size_alloc, World.size_alloc] at b2
    exact ⟨⟨((Boxed.new w _ _).alloc _).alloc _, b1, b2⟩, (((Below.refl _ w).alloc (Nat.le_refl _) _).alloc (by simp) _).alloc (by simp; omega) _⟩
  generalize ((w.alloc (.cells #[.slice A xs.length c] 25)).alloc (.cells #[.slice none 0 0] 25)).alloc (.cells #[.int .i64 0] 27) = w0 at hJ0 ⊢
  refine ⟨trivial, ?_⟩
  refine (callsIn_wide.2 (cMay_any A xs.length c xs _ ((h1.out.below hJ0.2).up hJ0.2.size) hz1)).mono ?_
  rintro e w1 ⟨rfl, hb1⟩
  have hJ1 := hJ0.next hb1
  clear hJ0 hb1
  have hc0 := hJ1.1.1.cell
  have hc1 := hJ1.1.2.1.cell
  have hf1 := hJ1.1.2.1.frozen
  have hc2 := hJ1.1.2.2.cell
  have hf2 := hJ1.1.2.2.frozen
  cases m1 : mayC xs with
  | false =>
    have hv : joinC xs ys = ([], 17) := by simp [joinC, m1]
    gi_wp2_with (first | (refine ⟨(trivial : Fence.wide.fn 17), ?_⟩))
    have hJ9 := hJ1.two (.slice none 0 0) (.int .i64 17)
    have hc8 := hJ9.1.2.1.cell
    have hc9 := hJ9.1.2.2.cell
    refine ⟨.tuple #[.slice none 0 0, .int .i64 17], ?_, by rw [hv]; exact ⟨_, rfl, OwnC.nil _ _, hJ9.2⟩⟩
    simp [results, Try.f12, go_sem, hc8, hc9]
  | true =>
    have M1 := Kept.mk m1
    gi_wp2
    refine ⟨trivial, ?_⟩
    refine (callsIn_wide.2 (cMay_any B ys.length d ys _ ((h2.out.below hJ1.2).up hJ1.2.size) hz2)).mono ?_
    rintro e w2 ⟨rfl, hb2⟩
    have hJ2 := hJ1.next hb2
    clear hJ1 hb2 hc0 hc1 hf1 hc2 hf2
    have hc0 := hJ2.1.1.cell
    have hc1 := hJ2.1.2.1.cell
    have hf1 := hJ2.1.2.1.frozen
    have hc2 := hJ2.1.2.2.cell
    have hf2 := hJ2.1.2.2.frozen
    cases m2 : mayC ys with
    | false =>
      have hv : joinC xs ys = ([], 17) := by simp [joinC, m2]
      gi_wp2
      have hJ9 := hJ2.two (.slice none 0 0) (.int .i64 17)
      have hc8 := hJ9.1.2.1.cell
      have hc9 := hJ9.1.2.2.cell
      refine ⟨.tuple #[.slice none 0 0, .int .i64 17], ?_, by rw [hv]; exact ⟨_, rfl, OwnC.nil _ _, hJ9.2⟩⟩
      simp [results, Try.f12, go_sem, hc8, hc9]
    | true =>
      have M2 := Kept.mk m2
      have L1 := (mayC_iff.1 m1).1
      have L2 := (mayC_iff.1 m2).1
      have hw : wrap64 ((xs.length : Int) + (ys.length : Int)) = (xs.length : Int) + (ys.length : Int) := by simp only [wrap64]; omega
      by_cases c8 : 8 < xs.length + ys.length
      · have hv : joinC xs ys = ([], 6) := by simp only [joinC, m1, m2, and_self, if_true, if_pos c8]
        have c8' : 8 < (xs.length : Int) + (ys.length : Int) := by omega
        gi_wp2
        have hJ9 := hJ2.two (.slice none 0 0) (.int .i64 6)
        have hc8 := hJ9.1.2.1.cell
        have hc9 := hJ9.1.2.2.cell
        refine ⟨.tuple #[.slice none 0 0, .int .i64 6], ?_, by rw [hv]; exact ⟨_, rfl, OwnC.nil _ _, hJ9.2⟩⟩
        simp [results, Try.f12, go_sem, hc8, hc9]
      · have c8' : ¬ (8 < (xs.length : Int) + (ys.length : Int)) := by omega
        have HV : Kept (joinC xs ys = if ∃ y ∈ ys, 0 ≤ idx xs y.s then ([], 9) else (xs ++ ys, 0)) := ⟨by simp only [joinC, m1, m2, and_self, if_true, if_neg c8]⟩
        gi_wp2_with (first | (refine ⟨trivial, ?_⟩; gi_at_call 36; refine (names_in Fence.wide _ trivial rfl _ _ _ _).mono ?_; rintro e w' ⟨rfl, rfl⟩))
        have hJ3 := hJ2.next ((Below.refl _ w2).alloc (Nat.le_refl _) (.cells #[.slice B ys.length d] 25))
        have b3 := (Boxed.new w2 25 (.slice B ys.length d)).cell
        have hs3 : (w2.alloc (.cells #[.slice B ys.length d] 25)).heap.size = w2.heap.size + 1 := by simp
        have hs2 := hJ2.2.size
        generalize w2.alloc (.cells #[.slice B ys.length d] 25) = w3 at hJ3 b3 hs3 ⊢
        clear hc0 hc1 hf1 hc2 hf2
        refine wpIn_rangeFunc_ownG rfl (by omega) (gf := 59) (lb := #[.pointer (some ⟨w2.heap.size, 0, none⟩)]) rfl trivial (enters_of Try.func59 (by kernel_rfl) rfl)
          (names_stops Fence.wide (3 - 1) trivial rfl (by omega) w2.heap.size w.heap.size _ ys (by omega) w3 (by omega) (by omega) b3 (h2.out.below hJ3.2)) belowK_t (belowK_b (by omega)) (Below.refl _ _) (fun _ => rfl)
          (fun pre W => (∀ p ∈ pre, idx xs (ys[p.1]'p.2).s < 0) ∧ JB w (.slice A xs.length c) (.slice none 0 0) (.int .i64 0) W)
          (fun cd pre W => (cd = .ret ∧ ∃ p ∈ pre, 0 ≤ idx xs (ys[p.1]'p.2).s) ∧ JB w (.slice A xs.length c) (.slice none 0 0) (.int .i64 9) W)
          (OwnFrom.and (ownFrom_pure _ _) (JB.own w _ (by omega) _ _ _ (by omega)))
          (fun _ => OwnFrom.and (ownFrom_pure _ _) (JB.own w _ (by omega) _ _ _ (by omega)))
          ⟨by simp, hJ3⟩
          (fun x => { tmps := #[.slice A xs.length c, .slice B ys.length d, .pointer (some ⟨w.heap.size, 0, none⟩), undef, .pointer (some ⟨w.heap.size + 1, 0, none⟩), .pointer (some ⟨w.heap.size + 1 + 1, 0, none⟩), undef, .string (ys[x.1]'x.2).s, .bool false, .slice A xs.length c, .bool true, .bool false, .bool false, .slice B ys.length d, .bool true, .bool false, .bool false, .bool (decide (8 < (xs.length : Int) + (ys.length : Int))), .slice A xs.length c, .int .i64 (xs.length : Int), .slice B ys.length d, .int .i64 (ys.length : Int), .int .i64 ((xs.length : Int) + (ys.length : Int)), .bool (decide (8 < (xs.length : Int) + (ys.length : Int))), .slice B ys.length d, .func (.func 59) #[] #[.pointer (some ⟨w2.heap.size, 0, none⟩)], .int .i64 ((x.1 : Nat) : Int), .string (ys[x.1]'x.2).s, undef, undef, undef, undef, undef, undef, undef, undef], defers := [] }) ?assign ?body ?done ?stop
        case assign =>
          intro l x W K hK
          gi_wp2
          exact hK
        case body =>
          rintro l pre x W ⟨hp, hJ⟩ _
          have hc0 := hJ.1.1.cell
          have hc1 := hJ.1.2.1.cell
          have hf1 := hJ.1.2.1.frozen
          have hc2 := hJ.1.2.2.cell
          have hf2 := hJ.1.2.2.frozen
          have hix := cIndex_any A xs.length c xs (ys[x.1]'x.2).s W ((h1.out.below hJ.2).up hJ.2.size) (by omega)
          by_cases hx : 0 ≤ idx xs (ys[x.1]'x.2).s
          · gi_wp2_with (first | (refine ⟨trivial, ?_⟩; gi_at_call 24; refine (CallsIn.inRound l (callsIn_wide.2 hix)).mono ?_; clear hix; rintro e w' ⟨rfl, hbw⟩; have hJ' := hJ.next hbw; have hc1' := hJ'.1.2.1.cell; have hf1' := hJ'.1.2.1.frozen; have hc2' := hJ'.1.2.2.cell; have hf2' := hJ'.1.2.2.frozen))
            exact ⟨(keepsFrom_below hbw).trans (((KeepsOthers.setCell _ _ _).from _).trans ((KeepsOthers.setCell _ _ _).from _)), ⟨rfl, x, by simp, hx⟩, hJ'.two _ _⟩
          · have hx' : idx xs (ys[x.1]'x.2).s < 0 := by omega
            gi_wp2_with (first | (refine ⟨trivial, ?_⟩; gi_at_call 24; refine (CallsIn.inRound l (callsIn_wide.2 hix)).mono ?_; clear hix; rintro e w' ⟨rfl, hbw⟩; have hJ' := hJ.next hbw))
            exact ⟨keepsFrom_below hbw, hbw.mono hJ.2.size, fun p hp' => (List.mem_append.1 hp').elim (hp p) (fun e => by simp at e; subst e; exact hx'), hJ'⟩
        case done =>
          rintro D zs W hD rfl ⟨hp, hJ⟩ hK
          have hc0 := hJ.1.1.cell
          gi_wp2
          have hJ4 := hJ.next ((Below.refl _ W).alloc (Nat.le_refl _) (.cells #[.slice A xs.length c, .slice B ys.length d] 25))
          have g0 := two_new W (.slice A xs.length c) (.slice B ys.length d) 25 0 _ rfl
          have g1 := two_new W (.slice A xs.length c) (.slice B ys.length d) 25 1 _ rfl
          rw [Addr.add_lit] at g0 g1
          have hs4 : (W.alloc (.cells #[.slice A xs.length c, .slice B ys.length d] 25)).heap.size = W.heap.size + 1 := by simp
          have hDW := (Array.getElem?_eq_some_iff.1 hK).1
          have hK4 := (((Below.refl _ W).alloc (Nat.le_refl _) (.cells #[.slice A xs.length c, .slice B ys.length d] 25)).block D hDW).trans hK
          generalize W.alloc (.cells #[.slice A xs.length c, .slice B ys.length d] 25) = w4 at hJ4 g0 g1 hs4 hK4 ⊢
          refine ⟨trivial, ?_⟩
          refine (callsIn_wide.2 (concat_any W.heap.size _ _ xs ys w4 (by omega) g0 g1 ((h1.out.below hJ4.2).up hJ4.2.size) ((h2.out.below hJ4.2).up hJ4.2.size) (by omega) (by omega))).mono ?_
          rintro e w5 ⟨v5, rfl, hO5, hb5⟩
          have hJ5 := hJ4.next hb5
          have hK5 := (hb5.block D (by omega)).trans hK4
          have hc1 := hJ5.1.2.1.cell
          have hf1 := hJ5.1.2.1.frozen
          have hc2 := hJ5.1.2.2.cell
          have hf2 := hJ5.1.2.2.frozen
          obtain ⟨A5, c5, rfl, _⟩ := id hO5.has
          gi_wp2
          rw [List.length_append] at hO5
          have hJ6 := hJ5.two (.slice A5 (xs.length + ys.length) c5) (.int .i64 0)
          have hK6 := (KeepsOthers.setCell (w5.setCell ⟨w.heap.size + 1, 0, none⟩ (.slice A5 (xs.length + ys.length) c5)) ⟨w.heap.size + 1 + 1, 0, none⟩ (.int .i64 0)).same D _ ((KeepsOthers.setCell w5 ⟨w.heap.size + 1, 0, none⟩ (.slice A5 (xs.length + ys.length) c5)).same D _ hK5 rfl) rfl
          have hO6 := ownsRow_setCell_below (ownsRow_setCell_below hO5 (a := ⟨w.heap.size + 1, 0, none⟩) hJ4.1.2.1.lt (.slice A5 (xs.length + ys.length) c5)) (a := ⟨w.heap.size + 1 + 1, 0, none⟩) hJ4.1.2.2.lt (.int .i64 0)
          refine ⟨by simp, .inl ⟨_, _, rfl, run_takeDeferred hK6, ?_⟩⟩
          have hc7 := cell_kept hJ6.1.2.1.cell (grownBy_putObj' _ D (.deferred none)) (fun r e => by cases e; exact ⟨_, hK6, rfl⟩)
          have hc8 := cell_kept hJ6.1.2.2.cell (grownBy_putObj' _ D (.deferred none)) (fun r e => by cases e; exact ⟨_, hK6, rfl⟩)
          have hv : joinC xs ys = (xs ++ ys, 0) := by
            rw [HV.out, if_neg]
            rintro ⟨y, hy, h0⟩
            obtain ⟨j, hj, rfl⟩ := List.getElem_of_mem hy
            have := hp ⟨j, hj⟩ (uptoF_mem hj)
            simp only at this
            omega
          refine ⟨.tuple #[.slice A5 (xs.length + ys.length) c5, .int .i64 0], ?_, ?_⟩
          · simp [results, Try.f12, go_sem, hc7, hc8]
          · rw [hv]
            refine ⟨_, rfl, ?_, hJ6.2.trans (belowK_b (w := w) (Nat.le_refl _) _ D _ _ (by omega) hK6 rfl rfl)⟩
            exact OwnC.mono (ownsRow_putObj hO6 (.deferred none) hK6 rfl) (by have := hJ4.2.size; omega)
        case stop =>
          rintro D cd pre W hD ⟨k, hk, rfl⟩ ⟨⟨rfl, p, hp, hbad⟩, hJ⟩ hK
          gi_wp2
          refine ⟨by simp, .inl ⟨_, _, rfl, run_takeDeferred hK, ?_⟩⟩
          have hc5 := cell_kept hJ.1.2.1.cell (grownBy_putObj' _ D (.deferred none)) (fun r e => by cases e; exact ⟨_, hK, rfl⟩)
          have hc6 := cell_kept hJ.1.2.2.cell (grownBy_putObj' _ D (.deferred none)) (fun r e => by cases e; exact ⟨_, hK, rfl⟩)
          have hv : joinC xs ys = ([], 9) := by rw [HV.out, if_pos ⟨_, List.getElem_mem p.2, hbad⟩]
          refine ⟨.tuple #[.slice none 0 0, .int .i64 9], ?_, by rw [hv]; exact ⟨_, rfl, OwnC.nil _ _, hJ.2.trans (belowK_b (w := w) (Nat.le_refl _) W D _ _ (by omega) hK rfl rfl)⟩⟩
          simp [results, Try.f12, go_sem, hc5, hc6]
end
end Go.Proofs.Ythcgdlhmmgpbgaa
