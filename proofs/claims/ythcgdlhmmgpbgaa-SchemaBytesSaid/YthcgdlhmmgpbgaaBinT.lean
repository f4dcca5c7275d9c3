/- A reader's texts; a new reader. -/
import Derived.Test.YthcgdlhmmgpbgaaBinN
namespace Go.Proofs.Ythcgdlhmmgpbgaa
open Go.RowKit
set_option linter.unusedVariables false
set_option linter.unusedSimpArgs false

def TP (g : Nat) (xs : List Int) (w : World) (q : List Int × St) (r : Ending) (w' : World) : Prop :=
  ∃ (a' : Nat) (y' : Int), r = .returned (.string (strOfNums q.1)) ∧ Rd w' g xs a' y' ∧ But g w w' ∧ stOf xs a' y' = q.2
section
variable {P : Program} {ops : Array Oper} {C : World → Prop} {Q : Act → Prop} {a : Act} {o : Oper} {rest : List Oper}
theorem quiet_op (v : Value) (hg : o.guard = none) (h : ∀ w, C w → (execOp a.eval o).run P w = .ok (.value v) w) (hk : wpQuiet P ops C Q rest (a.put o.dst v)) : wpQuiet P ops C Q (o :: rest) a := by
  refine wpQuiet_step fun K hK => ?_
  have hw : Region.wanted o (yielded ops a.tmps) = true := by simp [Region.wanted, hg]
  rw [if_pos hw]
  refine ⟨v, fun w hw => ?_, hK _ hk⟩
  unfold Oper.quietAt
  rw [h w hw]
  exact ⟨rfl, rfl⟩
theorem quiet_conv (v u : Value) (x : Operand) (src dst : TypeId) (ho : o.op = .convert src dst x) (hg : o.guard = none) (hx : a.eval x = u) (h : ∀ w, C w → (convert src dst u).run P w = .ok v w) (hk : wpQuiet P ops C Q rest (a.put o.dst v)) : wpQuiet P ops C Q (o :: rest) a := by
  refine quiet_op v hg (fun w hw => ?_) hk
  unfold execOp
  simp only [ho, Sem.run_bind, Sem.run_pure, Result.andThen_ok, hx, h w hw]
end
theorem strOfNums_nil : strOfNums [] = ByteArray.mk #[] := rfl

set_option maxRecDepth 100000 in
set_option maxHeartbeats 1000000 in
theorem Text_read (g : Nat) (xs : List Int) (hxs : ∀ b ∈ xs, 0 ≤ b ∧ b ≤ 255) (a : Nat) (y : Int) (most : Int) (w : World) (H : Rd w g xs a y) :
    Calls Try.prog 52 #[.pointer (some ⟨g, 0, none⟩), .int .i64 most] w (TP g xs w (textS most (stOf xs a y))) := by
  have hb := (grpS_lt 9 (by decide) (stOf xs a y) (stOf_range xs hxs a y)).2 (by decide)
  go_enter Try.func52, Try.ntmps52
  go_wp2_with fail
  go_at_call 67
  refine (Num_read g xs hxs a y _ H).mono ?_
  rintro e w1 ⟨x, a2, y2, rfl, H2, hB2, hst⟩
  have hx : x < 9223372036854775808 := by rw [← hst] at hb; exact hb
  have HX := Kept.mk hst
  clear hb hst
  go_wp2_with fail
  go_at_call 51
  refine (Err_read g xs a2 y2 _ H2).mono ?_
  rintro e w2 ⟨rfl, rfl⟩
  have eS : textS most (stOf xs a y) = (let q := (x, stOf xs a2 y2); if q.2.1 ≠ 0 then ([], q.2) else if most < (q.1 : Int) then ([], (6, [])) else if q.2.2.length < q.1 then ([], (5, [])) else (q.2.2.take q.1, (0, q.2.2.drop q.1))) := by
    rw [HX.out]; rfl
  have HS := Kept.mk eS
  clear eS
  by_cases cy : y2 = 0
  · subst cy
    by_cases cm : most < (x : Int)
    · go_wp2_with (first | (go_at_call 68; refine (pFail_any g xs a2 0 6 _ H2).mono ?_; rintro r w2 ⟨⟨v, rfl⟩, H3, hB3⟩))
      go_ret
      refine ⟨a2, _, ?_, H3, hB2.trans hB3, ?_⟩
      · rw [HS.out]; simp [stOf, cm, strOfNums_nil]
      · rw [HS.out]; simp [stOf, cm]
    · go_wp2_with fail
      go_at_call 31
      refine (Left_read g xs a2 0 _ H2).mono ?_
      rintro e w2 ⟨rfl, hb2⟩
      have el : leftS (stOf xs a2 0) = (xs.length : Int) - (a2 : Int) := by have := H2.at_le; simp [leftS, stOf]; omega
      have H3 := H2.below hb2
      have hB3 := hB2.trans (But.of hb2 g)
      clear hb2
      rw [el]
      by_cases cl : (xs.length : Int) - (a2 : Int) < (x : Int)
      · go_wp2_with (first | (go_at_call 68; refine (pFail_any g xs a2 0 5 _ H3).mono ?_; rintro r w3 ⟨⟨v, rfl⟩, H4, hB4⟩))
        go_ret
        have ha := H2.at_le
        have hl : (xs.drop a2).length < x := by rw [List.length_drop]; omega
        have eT : textS most (stOf xs a y) = ([], (5, [])) := by
          rw [HS.out]
          have hl' : (stOf xs a2 0).2.length < x := by simpa [stOf] using hl
          simp only [stOf, ne_eq, not_true, if_false, if_neg (show ¬ most < (x : Int) by omega), if_true, if_pos hl]
        refine ⟨a2, _, ?_, H4, hB3.trans hB4, ?_⟩
        · rw [eT]; rfl
        · rw [eT]; rfl
      · obtain ⟨k, c, h0, h1, h2, hf1, hf2, hk, hk2, hc, hd⟩ := H3.cells
        have ha := H3.at_le
        have hlen := H3.len
        have hw : wrap64 ((a2 : Int) + (x : Int)) = (a2 : Int) + (x : Int) := by simp only [wrap64]; omega
        have HD := Kept.mk hd
        clear hd
        go_wp2_with fail
        refine wp_region_quiet_lit (by kernel_rfl) (by kernel_rfl) ?_
        repeat (quiet_step (fail))
        have f1 : (a2 : Int) + (x : Int) ≤ (c : Int) := by omega
        have f2 : 0 ≤ (a2 : Int) + (x : Int) := by omega
        have f3 : IntKind.i64.wrap (a2 : Int) = (a2 : Int) := by rw [IntKind.wrap_i64]; omega
        have f4 : (a2 : Int) ≤ max ((a2 : Int) + (x : Int)) 0 := by omega
        have f5 : ((a2 : Int) + (x : Int)).toNat - a2 = x := by omega
        have hx0 : x ≤ xs.length - a2 := by omega
        have eT : textS most (stOf xs a y) = ((xs.drop a2).take x, (0, (xs.drop a2).drop x)) := by
          rw [HS.out]
          simp only [stOf, if_true, ne_eq, not_true, if_false, if_neg (show ¬ most < (x : Int) by omega), List.length_drop]
          rw [if_neg (by omega)]
        have ET := Kept.mk eT
        clear eT
        obtain ⟨AV, hAV⟩ : ∃ A : Value, Kept (A = .slice (some (if c = a2 then ⟨k, 0, none⟩ else ⟨k, a2, none⟩)) x (c - a2)) := ⟨_, ⟨rfl⟩⟩
        refine quiet_op AV rfl (fun w hw => ?_) ?_
        · obtain ⟨n, rfl⟩ := hw
          rw [hAV.out]
          go_simp
          by_cases e : c = a2 <;> simp [e, f1, f2, f3, f4, f5] <;> (intro hh; omega)
        refine quiet_conv (.string (strOfNums ((xs.drop a2).take x))) AV (.tmp 56) 47 9 rfl rfl rfl (fun w hw => ?_) ?_
        · obtain ⟨n, rfl⟩ := hw
          have hd := HD.out
          rw [hAV.out]
          by_cases e : c = a2
          · have : x = 0 := by omega
            subst this
            simp only [List.take_zero]
            rw [if_pos e]
            exact run_convert_bytes_arg _ _ _ Try.underlying47 Try.underlying5 k 0 0 _ [] rfl (fun i hi => absurd hi (by omega)) _ Try.underlying9
          · rw [if_neg e]
            refine run_convert_bytes_arg _ _ _ Try.underlying47 Try.underlying5 k a2 x _ _ (by simp; omega) (fun i hi => ?_) _ Try.underlying9
            have hi2 : a2 + i < xs.length := by omega
            have := hd (a2 + i) xs[a2 + i] (List.getElem?_eq_getElem hi2)
            have e2 : ((xs.drop a2).take x)[i]? = some xs[a2 + i] := by
              rw [List.getElem?_take_of_lt (by omega), List.getElem?_drop, List.getElem?_eq_getElem hi2]
            rw [List.getD_eq_getElem?_getD, e2]
            have e3 := World.cell?_of_block (w := w2) (w' := (w2.setCell ⟨g, 1, none⟩ (.int .i64 ((a2 : Int) + (x : Int)))).drewN n) (a := ⟨k, a2 + i, none⟩) (by
              show (w2.setCell ⟨g, 1, none⟩ _).heap[k]? = _
              exact Below.heap_setCell w2 ⟨g, 1, none⟩ _ k hk)
            rw [e3, this]
            rfl
        repeat (quiet_step (fail))
        refine wpQuiet_nil ?_
        intro _ hw'
        obtain ⟨nq, rfl⟩ := hw'
        go_wp2
        go_ret
        refine ⟨a2 + x, 0, by rw [ET.out]; rfl, ?_, ?_, ?_⟩
        · have h := (H3.setAt (a2 + x) (by omega)).drewN nq
          simpa using h
        · exact ((hB3.set _ _).drewN _)
        · rw [ET.out]; simp [stOf, List.drop_drop]
  · go_wp2
    go_ret
    refine ⟨a2, y2, ?_, H2, hB2, ?_⟩
    · rw [HS.out]; simp [stOf, cy, strOfNums_nil]
    · rw [HS.out]; simp [stOf, cy]
end Go.Proofs.Ythcgdlhmmgpbgaa
