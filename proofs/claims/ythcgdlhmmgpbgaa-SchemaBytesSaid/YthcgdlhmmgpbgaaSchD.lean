/- Layer 7 (schema): the next schema of a reader's, walked. -/
import Derived.Test.YthcgdlhmmgpbgaaSchLc
import Derived.Test.YthcgdlhmmgpbgaaBinD
namespace Go.Proofs.Ythcgdlhmmgpbgaa
open Go.RowKit Go.Shelf
set_option linter.unusedVariables false
set_option linter.unusedSimpArgs false

/-- The columns that are read, one behind the other (errors are looked at behind them all). -/
def readCs : Nat → St → List Cl → List Cl × St
  | 0, s, acc => (acc, s)
  | n + 1, s, acc => readCs n (byteS (textS 16 s).2).2 (acc ++ [⟨strOfNums (textS 16 s).1, (byteS (textS 16 s).2).1⟩])
def readC (s : St) : (List Cl × Int) × St :=
  if (byteS s).2.1 ≠ 0 then (([], (byteS s).2.1), (byteS s).2)
  else if (byteS s).1 = 0 ∨ 8 < (byteS s).1 then (([], 4), (byteS s).2)
  else if (readCs (byteS s).1.toNat (byteS s).2 []).2.1 ≠ 0 then (([], (readCs (byteS s).1.toNat (byteS s).2 []).2.1), (readCs (byteS s).1.toNat (byteS s).2 []).2)
  else if mayC (readCs (byteS s).1.toNat (byteS s).2 []).1 = true then (((readCs (byteS s).1.toNat (byteS s).2 []).1, 0), (readCs (byteS s).1.toNat (byteS s).2 []).2)
  else (([], 17), (readCs (byteS s).1.toNat (byteS s).2 []).2)
theorem OwnC.but {w w' : World} {B g : Nat} {v : Value} {xs : List Cl} (h : OwnC w B v xs) (hb : But g w w') (hg : g < B) : OwnC w' B v xs := by
  refine ⟨h.1, ?_⟩
  rcases h.2 with h2 | ⟨g', cap, cur, h1, h2, h3, h4⟩
  · exact .inl h2
  · exact .inr ⟨g', cap, cur, h1, h2, by rw [hb.block g' (Array.getElem?_eq_some_iff.1 h3).1 (by omega)]; exact h3, h4⟩
theorem OwnC.typ {w : World} {B k : Nat} {v : Value} {xs : List Cl} (h : OwnC w B v xs) (hk : v.ownBlock = some k) : ∃ arr fr, w.heap[k]? = some (.cells arr 41 fr) := by
  rcases h.2 with ⟨rfl, _⟩ | ⟨g, cap, cur, rfl, _, h3, _⟩
  · simp [Value.ownBlock] at hk
  · have : g = k := by simpa [Value.ownBlock] using hk
    subst this
    exact ⟨cur, _, h3⟩
theorem not_bytC {w : World} {B k j : Nat} {b : Int} {v : Value} {xs : List Cl} (h : OwnC w B v xs) (hb : BytAt w k j b) : some k ≠ v.ownBlock := by
  intro e
  obtain ⟨arr, fr, h1⟩ := h.typ e.symm
  obtain ⟨_, arr2, fr2, h2⟩ := hb
  rw [h1] at h2
  injection h2 with h2
  injection h2 with _ h3 _
  exact absurd h3 (by decide)
theorem Rd.grownC {w w' : World} {g B : Nat} {xs : List Int} {a : Nat} {y : Int} {v : Value} {out : List Cl} (h : Rd w g xs a y) (hO : OwnC w B v out) (hg : g < B) (hgr : w.grownBy w' v.ownBlock) : Rd w' g xs a y := by
  obtain ⟨k, c, ty, e1, e2, e3, e4, e5⟩ := h.blk
  have hne : some g ≠ v.ownBlock := fun e => by have := hO.base g e.symm; omega
  exact ⟨⟨k, c, ty, (hgr.block g h.lt hne).trans e1, e2, Nat.lt_of_lt_of_le e3 hgr.size, e4, fun j b hj => (e5 j b hj).keep (hgr.block k e3 (not_bytC hO (e5 j b hj)))⟩, h.at_le, h.len⟩
theorem Rq.grownC {w w' : World} {g B : Nat} {s : St} {v : Value} {out : List Cl} (h : Rq w g s) (hO : OwnC w B v out) (hg : g < B) (hgr : w.grownBy w' v.ownBlock) : Rq w' g s := by
  obtain ⟨A, c, ty, e1, e2, e3, e4⟩ := h.blk
  have hne : some g ≠ v.ownBlock := fun e => by have := hO.base g e.symm; omega
  refine ⟨⟨A, c, ty, (hgr.block g h.lt hne).trans e1, e2, e3, fun hn => ?_⟩, h.err, h.len⟩
  obtain ⟨b, off, f1, f2, f3, f4⟩ := e4 hn
  have hl : 0 < s.2.length := List.length_pos_iff.2 hn
  exact ⟨b, off, f1, f2, Nat.lt_of_lt_of_le f3 hgr.size, fun j hj => (f4 j hj).keep (hgr.block b f3 (not_bytC hO (f4 0 hl)))⟩
theorem But.grown {g : Nat} {w0 w w' : World} {row : Option Nat} (h : But g w0 w) (hgr : w.grownBy w' row) (hr : ∀ k, row = some k → w0.heap.size ≤ k) : But g w0 w' :=
  ⟨hgr.os.trans h.os, hgr.tape.trans h.tape, hgr.output.trans h.output, Nat.le_trans h.size hgr.size, fun k hk hg => (hgr.block k (Nat.lt_of_lt_of_le hk h.size) (fun e => by have := hr k e.symm; omega)).trans (h.block k hk hg)⟩
section
variable {ops : Array Oper} {rest : List Oper} {o : Oper} {a : Act} {Q : Exit → Act → World → Prop}
/-- append(v, x), x one value: only the row's own block has changed. -/
theorem app_col2 {B : Nat} {W : World} (hgd : o.guard = none) (s x : Operand) (t : TypeId)
    (ho : o.op = .call { callee := .builtin .append, args := #[s, x], argTypes := #[t, t] })
    (ht : Try.prog.underlying t = some (.slice 41))
    (v : Value) (xs : List Cl) (y : ByteArray) (k : Int) (N : Nat) (hN : N = W.heap.size) (hs : a.eval s = v) (hx : a.eval x = .slice (some ⟨N, 0, none⟩) 1 1)
    (HO : OwnC W B v xs) (hB : B ≤ W.heap.size) (hl : xs.length ≤ 100000)
    (h : ∀ v1 w1, OwnC w1 B v1 (xs ++ [⟨y, k⟩]) → (W.alloc (.cells #[.string y, .int .i64 k] 41)).grownBy w1 v.ownBlock → wpList Try.prog ops Q rest (a.put o.dst v1) w1) :
    wpList Try.prog ops Q (o :: rest) a (W.alloc (.cells #[.string y, .int .i64 k] 41)) := by
  obtain ⟨i0, hi, hzz⟩ := Option.map_eq_some_iff.1 infoC
  simp only [Prod.mk.injEq] at hzz
  obtain ⟨hz0, hz1, hz2⟩ := hzz
  subst hN
  refine wpList_append_own_at (W.alloc (.cells #[.string y, .int .i64 k] 41)) hgd s x t ho B 41 i0 _ 2 24 ht hi hz0 hz1 hz2 (by rfl) (by omega) v xs.length (colC xs) hs (OwnC.below HO ((Below.refl _ _).alloc (Nat.le_refl _) _)) ⟨W.heap.size, 0, none⟩ 1 1 [.string y, .int .i64 k] hx rfl
    (two_new W _ _ _) (by simp; exact ⟨rfl, rfl⟩) (by simp only [maxLen]; omega) (by omega) (by simp; omega) ?_
  intro v1 w1 hown hg _ _
  refine h v1 w1 ?_ hg
  unfold OwnC
  rw [colC_app, List.length_append]
  exact hown
end
/-- It returns a new schema; besides the reader and new memory nothing has changed. -/
def RcP (g : Nat) (xs : List Int) (w : World) (q : (List Cl × Int) × St) (e : Ending) (w' : World) : Prop :=
  ∃ (a' : Nat) (y' : Int) (v : Value), e = .returned (.tuple #[v, .int .i64 q.1.2]) ∧ OwnC w' w.heap.size v q.1.1 ∧ Rd w' g xs a' y' ∧ But g w w' ∧ stOf xs a' y' = q.2
def RcI (g : Nat) (xs : List Int) (n : Nat) (w : World) (q : List Cl × St) (v28 v6 : Value) (wr : World) : Prop :=
  ∃ (i : Nat) (out : List Cl) (a' : Nat) (y' : Int), v28 = .int .i64 (i : Int) ∧ Kept (Rd wr g xs a' y') ∧ Kept (OwnC wr w.heap.size v6 out) ∧ Kept (But g w wr) ∧ Kept (i ≤ n ∧ out.length = i ∧ q = readCs (n - i) (stOf xs a' y') out)
theorem byteS_lo (s : St) (hs : ∀ b ∈ s.2, 0 ≤ b ∧ b ≤ 255) : 0 ≤ (byteS s).1 ∧ (byteS s).1 ≤ 255 := by
  unfold byteS
  split
  · simp
  · split
    · simp
    · rename_i b t he
      exact hs b (by rw [he]; simp)
theorem stOf_fst (xs : List Int) (a : Nat) (y : Int) : (stOf xs a y).1 = y := rfl
theorem rc_no1 {s : St} (h : (byteS s).2.1 ≠ 0) : readC s = (([], (byteS s).2.1), (byteS s).2) := by unfold readC; rw [if_pos h]
theorem rc_no2 {s : St} (h : (byteS s).2.1 = 0) (h2 : (byteS s).1 = 0 ∨ 8 < (byteS s).1) : readC s = (([], 4), (byteS s).2) := by unfold readC; rw [if_neg (by simpa using h), if_pos h2]
theorem rc_in {s : St} (h : (byteS s).2.1 = 0) (h2 : ¬ ((byteS s).1 = 0 ∨ 8 < (byteS s).1)) : readC s =
    if (readCs (byteS s).1.toNat (byteS s).2 []).2.1 ≠ 0 then (([], (readCs (byteS s).1.toNat (byteS s).2 []).2.1), (readCs (byteS s).1.toNat (byteS s).2 []).2)
    else if mayC (readCs (byteS s).1.toNat (byteS s).2 []).1 = true then (((readCs (byteS s).1.toNat (byteS s).2 []).1, 0), (readCs (byteS s).1.toNat (byteS s).2 []).2)
    else (([], 17), (readCs (byteS s).1.toNat (byteS s).2 []).2) := by
  unfold readC; rw [if_neg (by simpa using h), if_neg h2]
set_option maxRecDepth 100000 in
set_option maxHeartbeats 4000000 in
theorem cRead_any (g : Nat) (xs : List Int) (hxs : ∀ b ∈ xs, 0 ≤ b ∧ b ≤ 255) (a : Nat) (y : Int) (w : World) (H : Rd w g xs a y) :
    Calls Try.prog 29 #[.pointer (some ⟨g, 0, none⟩)] w (RcP g xs w (readC (stOf xs a y))) := by
  have HX := Kept.mk hxs
  have HR := Kept.mk H
  have HG := Kept.mk H.lt
  have HLO := Kept.mk (byteS_lo _ (stOf_range xs hxs a y))
  have K1 := Kept.mk (@rc_no1 (stOf xs a y))
  have K2 := Kept.mk (@rc_no2 (stOf xs a y))
  have K3 := Kept.mk (@rc_in (stOf xs a y))
  clear hxs H
  go_enter Try.func29, Try.ntmps29
  go_wp2_with fail
  go_at_call 50
  refine (Byte_read g xs a y _ HR.out).mono ?_
  rintro e w1 ⟨b, a1, y1, rfl, hR1, hB1, hs1⟩
  have hb := HLO.out
  rw [← hs1] at hb K1 K2 K3
  simp only [stOf_fst] at hb K1 K2 K3
  obtain ⟨n, rfl⟩ : ∃ n : Nat, b = (n : Int) := ⟨b.toNat, by omega⟩
  have hn255 : (n : Int) ≤ 255 := hb.2
  have HR1 := Kept.mk hR1
  have HB1 := Kept.mk hB1
  clear hs1 hR1 hB1 hb HLO
  obtain ⟨q, hq⟩ : ∃ q, readC (stOf xs a y) = q := ⟨_, rfl⟩
  rw [hq] at K1 K2 K3
  have HQ0 := Kept.mk hq
  clear hq
  by_cases cy : y1 = 0
  · subst cy
    by_cases c8 : (n : Int) = 0 ∨ 8 < (n : Int)
    · have hv := Kept.mk (K2.out rfl c8)
      clear K1 K2 K3
      rcases c8 with c8 | c8
      · have hn : n = 0 := by omega
        subst hn
        go_wp2_with (first | (go_at_call 51; refine (Err_read g xs a1 0 _ HR1.out).mono ?_; rintro e w2 ⟨rfl, rfl⟩))
        go_returns
        rw [HQ0.out, hv.out]
        exact ⟨a1, 0, _, rfl, OwnC.nil _ _, HR1.out, HB1.out, rfl⟩
      · have c80 : ((n : Int) == 0) = false := by rw [beq_eq_false_iff_ne]; omega
        have c81 : ¬ n = 0 := by omega
        go_wp2_with (first | (go_at_call 51; refine (Err_read g xs a1 0 _ HR1.out).mono ?_; rintro e w2 ⟨rfl, rfl⟩))
        go_returns
        rw [HQ0.out, hv.out]
        exact ⟨a1, 0, _, rfl, OwnC.nil _ _, HR1.out, HB1.out, rfl⟩
    · have HV := Kept.mk (K3.out rfl c8)
      rw [Int.toNat_natCast] at HV
      clear K1 K2 K3
      have c80 : ((n : Int) == 0) = false := by rw [beq_eq_false_iff_ne]; omega
      have c81 : ¬ n = 0 := by omega
      have c8' : ¬ 8 < (n : Int) := by omega
      have H8 : Kept (n ≤ 8) := ⟨by omega⟩
      have hn0 : 0 ≤ (n : Int) := by omega
      clear c8
      obtain ⟨z, hz⟩ : ∃ z, readCs n (stOf xs a1 0) [] = z := ⟨_, rfl⟩
      rw [hz] at HV
      have HZ := Kept.mk hz
      clear hz
      go_wp2_with (first
        | (go_at_call 51; refine (Err_read g xs a1 0 _ HR1.out).mono ?_; rintro e w2 ⟨rfl, rfl⟩)
        | ((refine mk_cols (W := w1) rfl (.tmp 25) 25 _ rfl Try.underlying25 n rfl rfl ?c1 ?_); (case c1 => have := H8.out; omega); intro r2 d2 hO; have HO := Kept.mk (hO.mono HB1.out.size : OwnC _ w.heap.size _ _); clear hO))
      go_loopw [28, 6] (fun v28 v6 wr => RcI g xs n w z v28 v6 wr) (fun v28 v6 wr => n - (intOf v28).toNat)
      case atStart => exact ⟨0, [], a1, 0, rfl, ⟨HR1.out.xw _ _⟩, HO, ⟨HB1.out.xw _ _⟩, ⟨Nat.zero_le _, rfl, HZ.out.symm⟩⟩
      case round =>
        obtain ⟨i, out, a', y', rfl, HRr, HOr, HBr, HI⟩ := hrel
        clear HO HR1 HB1 HZ
        by_cases ci : i < n
        · have ci' : (i : Int) < (n : Int) := by omega
          have f0 : 0 ≤ (i : Int) := by omega
          have hw : wrap64 ((i : Int) + 1) = (i : Int) + 1 := by have := H8.out; simp only [wrap64]; omega
          have HCI := Kept.mk ci
          have HQ : Kept (z = readCs (n - (i + 1) + 1) (stOf xs a' y') out) := ⟨by rw [HI.out.2.2, show n - (i + 1) + 1 = n - i by omega]⟩
          clear ci
          go_wp2_with fail
          go_at_call 52
          refine (Text_read g xs HX.out a' y' 16 _ HRr.out).mono ?_
          rintro e w3 ⟨a3, y3, rfl, hR3, hB3, hs3⟩
          rw [readCs] at HQ
          rw [← hs3] at HQ
          generalize strOfNums (textS 16 (stOf xs a' y')).1 = tt at HQ ⊢
          have HR3 := Kept.mk hR3
          have HO3 := Kept.mk (HOr.out.but hB3 HG.out)
          have HB3 := Kept.mk (HBr.out.trans hB3)
          clear hR3 hB3 hs3 HRr HOr HBr
          go_wp2_with fail
          go_at_call 50
          refine (Byte_read g xs a3 y3 _ HR3.out).mono ?_
          rintro e w4 ⟨b4, a4, y4, rfl, hR4, hB4, hs4⟩
          have hb4 := byteS_lo _ (stOf_range xs HX.out a3 y3)
          rw [← hs4] at HQ hb4
          simp only at HQ hb4
          have hwb : wrap64 b4 = b4 := by simp only [wrap64]; omega
          have HR4 := Kept.mk hR4
          have HO4 := Kept.mk (HO3.out.but hB4 HG.out)
          have HB4 := Kept.mk (HB3.out.trans hB4)
          clear hR4 hB4 hs4 HR3 HO3 HB3
          have hal : Below w4.heap.size w4 (w4.alloc (.cells #[.string tt, .int .i64 b4] 41)) := (Below.refl _ _).alloc (Nat.le_refl _) _
          have hal2 : w4.heap.size = w4.heap.size := rfl
          go_wp2_with (first
            | ((at_builtin); refine app_col2 (B := w.heap.size) (W := w4) rfl (.tmp 32) (.tmp 38) 25 rfl Try.underlying25 _ out tt b4 _ ?c3 rfl rfl HO4.out ?c4 ?c5 ?_; (case c3 => rfl); (case c4 => have := HB4.out.size; omega); (case c5 => have := HI.out; have := H8.out; omega); intro v1 w5 hO5 hg5; have HO5 := Kept.mk hO5; have HR5 := Kept.mk ((HR4.out.below hal).grownC (HO4.out.below hal) HG.out hg5); have HB5 := Kept.mk ((HB4.out.trans (But.of hal g)).grown hg5 (OwnC.base HO4.out)); clear hO5 hg5))
          refine ⟨⟨i + 1, _, a4, y4, by first | rfl | (rw [hw]; rfl), HR5, HO5, HB5, ⟨HCI.out, by have := HI.out.2.1; simp; omega, HQ.out⟩⟩, by first | exact less_step hw HCI.out | exact less_bare' HCI.out⟩
        · have hi : i = n := by have := HI.out.1; omega
          have HQ : Kept (z = (out, stOf xs a' y')) := ⟨by rw [HI.out.2.2, hi, Nat.sub_self]; rfl⟩
          have ci' : ¬ ((i : Int) < (n : Int)) := by omega
          clear ci hi
          have HV2 := HV.out
          rw [HQ.out] at HV2
          simp only [stOf_fst] at HV2
          clear HV
          go_wp2_with fail
          go_at_call 51
          refine (Err_read g xs a' y' _ HRr.out).mono ?_
          rintro e w2 ⟨rfl, rfl⟩
          by_cases cy2 : y' = 0
          · subst cy2
            rw [if_neg (by simp)] at HV2
            have HV3 := Kept.mk HV2
            clear HV2
            go_wp2_with fail
            have HL := Kept.mk HOr.out.has
            obtain ⟨A5, c5, rfl, _⟩ := id HL.out
            go_at_call 17
            refine (cMay_any A5 _ c5 out _ HL.out (fun _ _ => trivial)).mono ?_
            rintro e w6 ⟨rfl, hb6⟩
            have HR6 := Kept.mk (HRr.out.below hb6)
            have HO6 := Kept.mk (HOr.out.below hb6)
            have HB6 := Kept.mk (HBr.out.trans (But.of hb6 g))
            clear hb6 HRr HOr HBr HL
            cases mm : mayC out with
            | true =>
              rw [mm, if_pos rfl] at HV3
              clear mm
              go_wp2_with fail
              go_returns
              rw [HQ0.out, HV3.out]
              exact ⟨a', 0, _, rfl, HO6.out, HR6.out, HB6.out, rfl⟩
            | false =>
              rw [mm, if_neg (by decide)] at HV3
              clear mm
              go_wp2_with fail
              go_returns
              rw [HQ0.out, HV3.out]
              exact ⟨a', 0, _, rfl, OwnC.nil _ _, HR6.out, HB6.out, rfl⟩
          · rw [if_pos cy2] at HV2
            have HV3 := Kept.mk HV2
            clear HV2
            have d0 : (y' != 0) = true := by simp [cy2]
            have d1 : (y' == 0) = false := by simp [cy2]
            clear cy2
            go_wp2_with fail
            go_returns
            rw [HQ0.out, HV3.out]
            exact ⟨a', y', _, rfl, OwnC.nil _ _, HRr.out, HBr.out, rfl⟩
  · have hv := Kept.mk (K1.out cy)
    clear K1 K2 K3
    have d0 : (y1 != 0) = true := by simp [cy]
    have d1 : (y1 == 0) = false := by simp [cy]
    clear cy
    go_wp2_with (first | (go_at_call 51; refine (Err_read g xs a1 y1 _ HR1.out).mono ?_; rintro e w2 ⟨rfl, rfl⟩))
    go_returns
    rw [HQ0.out, hv.out]
    exact ⟨a1, y1, _, rfl, OwnC.nil _ _, HR1.out, HB1.out, rfl⟩
end Go.Proofs.Ythcgdlhmmgpbgaa
