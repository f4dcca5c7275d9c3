/- Layer 6 (row): the next row of a reader's, walked. -/
import Derived.Test.YtbncnlendichjaaRowT
import Derived.Test.YtbncnlendichjaaValY
namespace Go.Proofs.Ytbncnlendichjaa
open Go.RowKit
set_option linter.unusedVariables false
set_option linter.unusedSimpArgs false

/-- What is read: the row, and what was wrong; and the reader's state. -/
def readN : Nat → St → List Vr → (List Vr × Int) × St
  | 0, s, acc => ((acc, 0), s)
  | n + 1, s, acc => if (readV s).1.e ≠ 0 then (([], (readV s).1.e), (readV s).2) else readN n (readV s).2 (acc ++ [⟨(readV s).1.k, (readV s).1.n, (readV s).1.t⟩])
def readR (s : St) : (List Vr × Int) × St :=
  if (byteS s).2.1 ≠ 0 then (([], (byteS s).2.1), (byteS s).2)
  else if 8 < (byteS s).1 then (([], 4), (byteS s).2)
  else readN (byteS s).1.toNat (byteS s).2 []
theorem OwnR.but {w w' : World} {B g : Nat} {v : Value} {xs : List Vr} (h : OwnR w B v xs) (hb : But g w w') (hg : g < B) : OwnR w' B v xs := by
  refine ⟨h.1, ?_⟩
  rcases h.2 with h2 | ⟨g', cap, cur, h1, h2, h3, h4⟩
  · exact .inl h2
  · exact .inr ⟨g', cap, cur, h1, h2, by rw [hb.block g' (Array.getElem?_eq_some_iff.1 h3).1 (by omega)]; exact h3, h4⟩
theorem OwnR.typ {w : World} {B k : Nat} {v : Value} {xs : List Vr} (h : OwnR w B v xs) (hk : v.ownBlock = some k) : ∃ arr fr, w.heap[k]? = some (.cells arr 39 fr) := by
  rcases h.2 with ⟨rfl, _⟩ | ⟨g, cap, cur, rfl, _, h3, _⟩
  · simp [Value.ownBlock] at hk
  · have : g = k := by simpa [Value.ownBlock] using hk
    subst this
    exact ⟨cur, _, h3⟩
theorem not_byt {w : World} {B k j : Nat} {b : Int} {v : Value} {xs : List Vr} (h : OwnR w B v xs) (hb : BytAt w k j b) : some k ≠ v.ownBlock := by
  intro e
  obtain ⟨arr, fr, h1⟩ := h.typ e.symm
  obtain ⟨_, arr2, fr2, h2⟩ := hb
  rw [h1] at h2
  injection h2 with h2
  injection h2 with _ h3 _
  exact absurd h3 (by decide)
theorem Rd.grown {w w' : World} {g B : Nat} {xs : List Int} {a : Nat} {y : Int} {v : Value} {out : List Vr} (h : Rd w g xs a y) (hO : OwnR w B v out) (hg : g < B) (hgr : w.grownBy w' v.ownBlock) : Rd w' g xs a y := by
  obtain ⟨k, c, ty, e1, e2, e3, e4, e5⟩ := h.blk
  have hne : some g ≠ v.ownBlock := fun e => by have := hO.base g e.symm; omega
  exact ⟨⟨k, c, ty, (hgr.block g h.lt hne).trans e1, e2, Nat.lt_of_lt_of_le e3 hgr.size, e4, fun j b hj => (e5 j b hj).keep (hgr.block k e3 (not_byt hO (e5 j b hj)))⟩, h.at_le, h.len⟩
theorem Rq.grown {w w' : World} {g B : Nat} {s : St} {v : Value} {out : List Vr} (h : Rq w g s) (hO : OwnR w B v out) (hg : g < B) (hgr : w.grownBy w' v.ownBlock) : Rq w' g s := by
  obtain ⟨A, c, ty, e1, e2, e3, e4⟩ := h.blk
  have hne : some g ≠ v.ownBlock := fun e => by have := hO.base g e.symm; omega
  refine ⟨⟨A, c, ty, (hgr.block g h.lt hne).trans e1, e2, e3, fun hn => ?_⟩, h.err, h.len⟩
  obtain ⟨b, off, f1, f2, f3, f4⟩ := e4 hn
  have hl : 0 < s.2.length := List.length_pos_iff.2 hn
  exact ⟨b, off, f1, f2, Nat.lt_of_lt_of_le f3 hgr.size, fun j hj => (f4 j hj).keep (hgr.block b f3 (not_byt hO (f4 0 hl)))⟩
theorem But.grown {g : Nat} {w0 w w' : World} {row : Option Nat} (h : But g w0 w) (hgr : w.grownBy w' row) (hr : ∀ k, row = some k → w0.heap.size ≤ k) : But g w0 w' :=
  ⟨hgr.os.trans h.os, hgr.tape.trans h.tape, hgr.output.trans h.output, Nat.le_trans h.size hgr.size, fun k hk hg => (hgr.block k (Nat.lt_of_lt_of_le hk h.size) (fun e => by have := hr k e.symm; omega)).trans (h.block k hk hg)⟩
section
variable {ops : Array Oper} {rest : List Oper} {o : Oper} {a : Act} {Q : Exit → Act → World → Prop}
/-- append(v, x), x one value: only the row's own block has changed. -/
theorem app_val2 {B : Nat} {W : World} (hgd : o.guard = none) (s x : Operand) (t : TypeId)
    (ho : o.op = .call { callee := .builtin .append, args := #[s, x], argTypes := #[t, t] })
    (ht : Try.prog.underlying t = some (.slice 39))
    (v : Value) (xs : List Vr) (k n : Int) (y : ByteArray) (N : Nat) (hN : N = W.heap.size) (hs : a.eval s = v) (hx : a.eval x = .slice (some ⟨N, 0, none⟩) 1 1)
    (HO : OwnR W B v xs) (hB : B ≤ W.heap.size) (hl : xs.length ≤ 100000)
    (h : ∀ v1 w1, OwnR w1 B v1 (xs ++ [⟨k, n, y⟩]) → (W.alloc (.cells #[.int .i64 k, .int .i64 n, .string y] 39)).grownBy w1 v.ownBlock → wpList Try.prog ops Q rest (a.put o.dst v1) w1) :
    wpList Try.prog ops Q (o :: rest) a (W.alloc (.cells #[.int .i64 k, .int .i64 n, .string y] 39)) := by
  obtain ⟨i0, hi, hzz⟩ := Option.map_eq_some_iff.1 infoV
  simp only [Prod.mk.injEq] at hzz
  obtain ⟨hz0, hz1, hz2⟩ := hzz
  subst hN
  refine wpList_append_own_at (W.alloc (.cells #[.int .i64 k, .int .i64 n, .string y] 39)) hgd s x t ho B 39 i0 _ 3 32 ht hi hz0 hz1 hz2 (by rfl) (by omega) v xs.length (rowC xs) hs (OwnR.below HO ((Below.refl _ _).alloc (Nat.le_refl _) _)) ⟨W.heap.size, 0, none⟩ 1 1 [.int .i64 k, .int .i64 n, .string y] hx rfl
    (three_new W _ _ _ _) (by simp; exact ⟨rfl, rfl, rfl⟩) (by simp only [maxLen]; omega) (by omega) (by simp; omega) ?_
  intro v1 w1 hown hg _ _
  refine h v1 w1 ?_ hg
  unfold OwnR
  rw [rowC_app, List.length_append]
  exact hown
end
/-- It returns a new row; besides the reader and new memory nothing has changed. -/
def RwP (g : Nat) (xs : List Int) (w : World) (q : (List Vr × Int) × St) (e : Ending) (w' : World) : Prop :=
  ∃ (a' : Nat) (y' : Int) (v : Value), e = .returned (.tuple #[v, .int .i64 q.1.2]) ∧ OwnR w' w.heap.size v q.1.1 ∧ Rd w' g xs a' y' ∧ But g w w' ∧ stOf xs a' y' = q.2
def RrI (g : Nat) (xs : List Int) (n : Nat) (w : World) (q : (List Vr × Int) × St) (v24 v6 : Value) (wr : World) : Prop :=
  ∃ (i : Nat) (out : List Vr) (a' : Nat) (y' : Int), v24 = .int .i64 (i : Int) ∧ Kept (Rd wr g xs a' y') ∧ Kept (OwnR wr w.heap.size v6 out) ∧ Kept (But g w wr) ∧ Kept (i ≤ n ∧ out.length = i ∧ q = readN (n - i) (stOf xs a' y') out)
theorem byteS_lo (s : St) (hs : ∀ b ∈ s.2, 0 ≤ b ∧ b ≤ 255) : 0 ≤ (byteS s).1 ∧ (byteS s).1 ≤ 255 := by
  unfold byteS
  split
  · simp
  · split
    · simp
    · rename_i b t he
      exact hs b (by rw [he]; simp)
set_option maxRecDepth 100000 in
set_option maxHeartbeats 4000000 in
theorem rowRead_any (g : Nat) (xs : List Int) (hxs : ∀ b ∈ xs, 0 ≤ b ∧ b ≤ 255) (a : Nat) (y : Int) (w : World) (H : Rd w g xs a y) :
    Calls Try.prog 23 #[.pointer (some ⟨g, 0, none⟩)] w (RwP g xs w (readR (stOf xs a y))) := by
  have HX := Kept.mk hxs
  have HR := Kept.mk H
  have HG := Kept.mk H.lt
  have HLO := Kept.mk (byteS_lo _ (stOf_range xs hxs a y))
  clear hxs H
  go_enter Try.func23, Try.ntmps23
  go_wp2_with fail
  go_at_call 42
  refine (Byte_read g xs a y _ HR.out).mono ?_
  rintro e w1 ⟨b, a1, y1, rfl, hR1, hB1, hs1⟩
  have hb := HLO.out
  rw [← hs1] at hb
  simp only at hb
  obtain ⟨n, rfl⟩ : ∃ n : Nat, b = (n : Int) := ⟨b.toNat, by omega⟩
  have hn255 : (n : Int) ≤ 255 := hb.2
  have HS1 := Kept.mk hs1
  have HR1 := Kept.mk hR1
  have HB1 := Kept.mk hB1
  clear hs1 hR1 hB1 hb HLO
  by_cases cy : y1 = 0
  · subst cy
    by_cases c8 : 8 < n
    · have hv : Kept (readR (stOf xs a y) = (([], 4), stOf xs a1 0)) := ⟨by
        unfold readR
        rw [← HS1.out]
        simp only [stOf_fst, ne_eq, not_true, if_false]
        rw [if_pos (by omega)]⟩
      have c8' : 8 < (n : Int) := by omega
      clear c8
      go_wp2_with (first | (go_at_call 43; refine (Err_read g xs a1 0 _ HR1.out).mono ?_; rintro e w2 ⟨rfl, rfl⟩))
      go_returns
      rw [hv.out]
      exact ⟨a1, 0, _, rfl, OwnR.nil _ _, HR1.out, HB1.out, rfl⟩
    · have HV : Kept (readR (stOf xs a y) = readN n (stOf xs a1 0) []) := ⟨by
        unfold readR
        rw [← HS1.out]
        simp only [stOf_fst, ne_eq, not_true, if_false]
        rw [if_neg (by omega), Int.toNat_natCast]⟩
      have c8' : ¬ 8 < (n : Int) := by omega
      have H8 : Kept (n ≤ 8) := ⟨by omega⟩
      have hn0 : 0 ≤ (n : Int) := by omega
      clear c8
      obtain ⟨q, hq⟩ : ∃ q, readR (stOf xs a y) = q := ⟨_, rfl⟩
      rw [hq] at HV
      have HQ0 := Kept.mk hq
      clear hq
      go_wp2_with (first
        | (go_at_call 43; refine (Err_read g xs a1 0 _ HR1.out).mono ?_; rintro e w2 ⟨rfl, rfl⟩)
        | ((refine mk_vals (W := w1) rfl (.tmp 21) 23 _ rfl Try.underlying23 n rfl rfl ?c1 ?_); (case c1 => have := H8.out; omega); intro r2 d2 hO; have HO := Kept.mk (hO.mono HB1.out.size : OwnR _ w.heap.size _ _); clear hO))
      go_loopw [24, 6] (fun v24 v6 wr => RrI g xs n w q v24 v6 wr) (fun v24 v6 wr => n - (intOf v24).toNat)
      case atStart => exact ⟨0, [], a1, 0, rfl, ⟨HR1.out.xw _ _⟩, HO, ⟨HB1.out.xw _ _⟩, ⟨Nat.zero_le _, rfl, HV.out⟩⟩
      case round =>
        obtain ⟨i, out, a', y', rfl, HRr, HOr, HBr, HI⟩ := hrel
        clear HO HR1 HB1 HV HS1
        by_cases ci : i < n
        · have ci' : (i : Int) < (n : Int) := by omega
          have f0 : 0 ≤ (i : Int) := by omega
          have hw : wrap64 ((i : Int) + 1) = (i : Int) + 1 := by have := H8.out; simp only [wrap64]; omega
          have HCI := Kept.mk ci
          have HQ : Kept (q = readN (n - (i + 1) + 1) (stOf xs a' y') out) := ⟨by rw [HI.out.2.2, show n - (i + 1) + 1 = n - i by omega]⟩
          clear ci
          go_wp2_with fail
          go_at_call 44
          refine (read_val g xs HX.out a' y' _ HRr.out).mono ?_
          rintro e w3 ⟨a3, y3, rfl, hR3, hB3, hs3⟩
          rw [readN] at HQ
          obtain ⟨⟨⟨k5, n5, t5, e5⟩, s5⟩, hq5⟩ : ∃ z, z = readV (stOf xs a' y') := ⟨_, rfl⟩
          rw [← hq5] at HQ hs3 ⊢
          simp only at HQ hs3 ⊢
          have HR3 := Kept.mk hR3
          have HO3 := Kept.mk (HOr.out.but hB3 HG.out)
          have HB3 := Kept.mk (HBr.out.trans hB3)
          have HS3 := Kept.mk hs3
          clear hR3 hB3 hs3 hq5
          by_cases ce : e5 = 0
          · subst ce
            have HQ2 : Kept (q = readN (n - (i + 1)) (stOf xs a3 y3) (out ++ [⟨k5, n5, t5⟩])) := ⟨by rw [HQ.out, HS3.out]; simp⟩
            have hal : Below w3.heap.size w3 (w3.alloc (.cells #[.int .i64 k5, .int .i64 n5, .string t5] 39)) := (Below.refl _ _).alloc (Nat.le_refl _) _
            have HR4 := Kept.mk (HR3.out.below hal)
            have HO4 := Kept.mk (HO3.out.below hal)
            have HB4 := Kept.mk (HB3.out.trans (But.of hal g))
            clear HR3 HO3 HQ hal
            go_wp2_with (first
              | ((at_builtin); refine app_val2 (B := w.heap.size) (W := w3.alloc (.cells #[.int .i64 k5, .int .i64 n5, .string t5] 39)) rfl (.tmp 34) (.tmp 36) 23 rfl Try.underlying23 _ out k5 n5 t5 _ ?c3 rfl rfl HO4.out ?c4 ?c5 ?_; (case c3 => rw [World.size_alloc]); (case c4 => have := HB3.out.size; rw [World.size_alloc]; omega); (case c5 => have := HI.out; have := H8.out; omega); intro v1 w5 hO5 hg5; have HO5 := Kept.mk hO5; have hal2 : Below (w3.alloc (.cells #[.int .i64 k5, .int .i64 n5, .string t5] 39)).heap.size (w3.alloc (.cells #[.int .i64 k5, .int .i64 n5, .string t5] 39)) ((w3.alloc (.cells #[.int .i64 k5, .int .i64 n5, .string t5] 39)).alloc (.cells #[.int .i64 k5, .int .i64 n5, .string t5] 39)) := (Below.refl _ _).alloc (Nat.le_refl _) _; have HR5 := Kept.mk ((HR4.out.below hal2).grown (HO4.out.below hal2) HG.out hg5); have HB5 := Kept.mk ((HB4.out.trans (But.of hal2 g)).grown hg5 (OwnR.base HO4.out)); clear hO5 hg5 hal2))
            refine ⟨⟨i + 1, _, a3, y3, by first | rfl | (rw [hw]; rfl), HR5, HO5, HB5, ⟨HCI.out, by have := HI.out.2.1; simp; omega, HQ2.out⟩⟩, by first | exact less_step hw HCI.out | (have := HCI.out; simp only [intOf]; omega)⟩
          · have ce' : (e5 != 0) = true := by simp [ce]
            have HQ2 : Kept (q = (([], e5), s5)) := ⟨by rw [HQ.out, if_pos ce]⟩
            clear ce
            go_wp2_with fail
            go_returns
            have hal : Below w3.heap.size w3 (w3.alloc (.cells #[.int .i64 k5, .int .i64 n5, .string t5] 39)) := (Below.refl _ _).alloc (Nat.le_refl _) _
            rw [HQ0.out, HQ2.out]
            exact ⟨a3, y3, _, rfl, OwnR.nil _ _, HR3.out.below hal, HB3.out.trans (But.of hal g), HS3.out⟩
        · have hi : i = n := by have := HI.out.1; omega
          have HQ : Kept (q = ((out, 0), stOf xs a' y')) := ⟨by rw [HI.out.2.2, hi, Nat.sub_self]; rfl⟩
          have ci' : ¬ ((i : Int) < (n : Int)) := by omega
          clear ci hi
          go_wp2_with fail
          go_returns
          rw [HQ0.out, HQ.out]
          exact ⟨a', y', _, rfl, HOr.out, HRr.out, HBr.out, rfl⟩
  · have hv : Kept (readR (stOf xs a y) = (([], y1), stOf xs a1 y1)) := ⟨by
      unfold readR
      rw [← HS1.out]
      simp only [stOf_fst]
      rw [if_pos cy]⟩
    have d0 : (y1 != 0) = true := by simp [cy]
    have d1 : (y1 == 0) = false := by simp [cy]
    clear cy
    go_wp2_with (first | (go_at_call 43; refine (Err_read g xs a1 y1 _ HR1.out).mono ?_; rintro e w2 ⟨rfl, rfl⟩))
    go_returns
    rw [hv.out]
    exact ⟨a1, y1, _, rfl, OwnR.nil _ _, HR1.out, HB1.out, rfl⟩
end Go.Proofs.Ytbncnlendichjaa
