/- Layer 6 (row): rows copied and joined, walked; the program's and the reference's. -/
import Derived.Test.YthcgdlhmmgpbgaaRowS
import Derived.Laws.MakeOwn
namespace Go.Proofs.Ythcgdlhmmgpbgaa
open Go.RowKit
set_option linter.unusedVariables false
set_option linter.unusedSimpArgs false

theorem make_vals (t : TypeId) (ht : Try.prog.underlying t = some (.slice 73)) (W : World) (n : Nat) (hn : n * 32 ≤ 281474976710656) : ∃ r d, (Instr.makeSlice t (.int .i64 0) (.int .i64 (n : Int))).run Try.prog W = .ok (.slice (some ⟨W.heap.size, 0, none⟩) 0 n) (xw W r d) ∧ OwnR (xw W r d) W.heap.size (.slice (some ⟨W.heap.size, 0, none⟩) 0 n) [] := by
  obtain ⟨i0, hi, hzz⟩ := Option.map_eq_some_iff.1 infoV
  simp only [Prod.mk.injEq] at hzz
  obtain ⟨hz0, hz1, hz2⟩ := hzz
  obtain ⟨w', hr, ho, hg⟩ := run_make_own (P := Try.prog) W W.heap.size t 73 i0 _ 3 ht hi hz0 hz1 .i64 .i64 n (by rw [hz2]; omega) (by simp only [maxLen]; omega) (Nat.le_refl _)
  obtain ⟨r, d, rfl⟩ := xw_of ((Below.refl W.heap.size W).grown hg (Nat.le_refl _) (fun k hk => by cases hk))
  exact ⟨r, d, hr, ho⟩
section
variable {ops : Array Oper} {rest : List Oper} {o : Oper} {a : Act} {Q : Exit → Act → World → Prop}
/-- make(T, 0, n). -/
theorem mk_vals {W : World} (hgd : o.guard = none) (x : Operand) (t : TypeId) (l : Operand)
    (ho : o.op = .makeSlice t l x) (ht : Try.prog.underlying t = some (.slice 73)) (n : Nat) (hl : a.eval l = .int .i64 0) (hx : a.eval x = .int .i64 (n : Int)) (hn : n * 32 ≤ 281474976710656)
    (h : ∀ r d, OwnR (xw W r d) W.heap.size (.slice (some ⟨W.heap.size, 0, none⟩) 0 n) [] → wpList Try.prog ops Q rest (a.put o.dst (.slice (some ⟨W.heap.size, 0, none⟩) 0 n)) (xw W r d)) :
    wpList Try.prog ops Q (o :: rest) a W := by
  obtain ⟨r, d, hr, hO⟩ := make_vals t ht W n hn
  refine wpList_plain hgd fun K hK => ?_
  unfold Oper.wp execOp
  simp only [ho, hl, hx, Sem.run_bind, Sem.run_pure, Result.andThen_ok, hr]
  exact hK _ _ (h r d hO)
end
/-- It returns a new row. -/
def RetR1 (w : World) (xs : List Vr) (e : Ending) (w' : World) : Prop := ∃ v, e = .returned v ∧ OwnR w' w.heap.size v xs ∧ Below w.heap.size w w'
def RetR (w : World) (q : List Vr × Int) (e : Ending) (w' : World) : Prop := ∃ v, e = .returned (.tuple #[v, .int .i64 q.2]) ∧ OwnR w' w.heap.size v q.1 ∧ Below w.heap.size w w'
def joinR (a b : List Vr) : List Vr × Int := if mayR a = true ∧ mayR b = true then (if 8 < a.length + b.length then ([], 6) else (a ++ b, 0)) else ([], 2)
set_option maxRecDepth 100000 in
set_option maxHeartbeats 1000000 in
theorem Copy_any (v : Value) (xs : List Vr) (w : World) (H : HasR w w.heap.size v xs) (hN : xs.length * 32 ≤ 140737488355328) :
    Calls Try.prog 49 #[v] w (RetR1 w xs) := by
  have HH := Kept.mk H
  obtain ⟨A, c, rfl, _, _⟩ := H
  have HN := Kept.mk hN
  clear hN
  go_enter Try.func49, Try.ntmps49
  go_wp2_with (first
    | ((refine mk_vals (W := w) rfl (.tmp 4) 35 _ rfl Try.underlying35 xs.length rfl rfl ?c1 ?_); (case c1 => have := HN.out; omega); intro r1 d1 hO; have HO := Kept.mk hO; clear hO)
    | ((at_builtin); refine app_vals (w0 := w) (W := xw w r1 d1) rfl (.tmp 5) (.tmp 6) 35 rfl Try.underlying35 _ [] xs A c rfl rfl ?c2 HO.out (xw_below _ _ _) ?c3 ?_; (case c2 => exact (HH.out.below (xw_below _ _ _)).read); (case c3 => have := HN.out; simp only [List.length_nil]; omega); intro v1 r2 d2 hO2))
  go_ret
  exact ⟨_, rfl, by simpa using hO2, xw_below _ _ _⟩
set_option maxRecDepth 100000 in
set_option maxHeartbeats 1000000 in
theorem Join_any (v u : Value) (xs ys : List Vr) (w : World) (H1 : HasR w w.heap.size v xs) (H2 : HasR w w.heap.size u ys) :
    Calls Try.prog 27 #[v, u] w (RetR w (joinR xs ys)) := by
  have h1 := Kept.mk H1
  have h2 := Kept.mk H2
  obtain ⟨A, c, rfl, _, _⟩ := H1
  obtain ⟨B, d, rfl, _, _⟩ := H2
  cases m1 : mayR xs with
  | false =>
    have hv : Kept (joinR xs ys = ([], 2)) := ⟨by simp [joinR, m1]⟩
    have M1 := Kept.mk m1
    clear m1
    go_enter Try.func27, Try.ntmps27
    go_wp2_with (first
      | (go_at_call 45; refine (May_any _ xs _ h1.out).mono ?_; rintro e w1 ⟨rfl, hb1⟩; obtain ⟨r1, d1, rfl⟩ := xw_of hb1; clear hb1; rewrite [M1.out]))
    go_returns
    rw [hv.out]
    exact ⟨_, rfl, OwnR.nil _ _, xw_below _ _ _⟩
  | true =>
    have M1 := Kept.mk m1
    cases m2 : mayR ys with
    | false =>
      have hv : Kept (joinR xs ys = ([], 2)) := ⟨by simp [joinR, m2]⟩
      have M2 := Kept.mk m2
      clear m1 m2
      go_enter Try.func27, Try.ntmps27
      go_wp2_with fail
      go_at_call 45
      refine (May_any _ xs _ h1.out).mono ?_
      rintro e w1 ⟨rfl, hb1⟩
      obtain ⟨r1, d1, rfl⟩ := xw_of hb1
      clear hb1
      rewrite [M1.out]
      go_wp2_with fail
      go_at_call 45
      refine (May_any _ ys _ ((h2.out.below (xw_below _ r1 d1)).up (by rw [xw_size]; omega))).mono ?_
      rintro e w1 ⟨rfl, hb1⟩
      obtain ⟨r2, d2, rfl⟩ := xw_of hb1
      clear hb1
      rewrite [M2.out]
      go_wp2_with fail
      go_returns
      rw [hv.out]
      exact ⟨_, rfl, OwnR.nil _ _, xw_below _ _ _⟩
    | true =>
      have M2 := Kept.mk m2
      have l1 := (mayR_iff.1 m1).1
      have l2 := (mayR_iff.1 m2).1
      clear m1 m2
      by_cases c8 : 8 < xs.length + ys.length
      · have hv : Kept (joinR xs ys = ([], 6)) := ⟨by simp [joinR, M1.out, M2.out, c8]⟩
        have c8' : 8 < (xs.length : Int) + (ys.length : Int) := by omega
        clear c8
        go_enter Try.func27, Try.ntmps27
        go_wp2_with fail
        go_at_call 45
        refine (May_any _ xs _ h1.out).mono ?_
        rintro e w1 ⟨rfl, hb1⟩
        obtain ⟨r1, d1, rfl⟩ := xw_of hb1
        clear hb1
        rewrite [M1.out]
        go_wp2_with fail
        go_at_call 45
        refine (May_any _ ys _ ((h2.out.below (xw_below _ r1 d1)).up (by rw [xw_size]; omega))).mono ?_
        rintro e w1 ⟨rfl, hb1⟩
        obtain ⟨r2, d2, rfl⟩ := xw_of hb1
        clear hb1
        rewrite [M2.out]
        go_wp2_with fail
        go_returns
        rw [hv.out]
        exact ⟨_, rfl, OwnR.nil _ _, xw_below _ _ _⟩
      · have hv : Kept (joinR xs ys = (xs ++ ys, 0)) := ⟨by simp [joinR, M1.out, M2.out, c8]⟩
        have c8' : ¬ 8 < (xs.length : Int) + (ys.length : Int) := by omega
        have HL : Kept (xs.length + ys.length ≤ 8) := ⟨by omega⟩
        clear c8
        go_enter Try.func27, Try.ntmps27
        go_wp2_with fail
        go_at_call 45
        refine (May_any _ xs _ h1.out).mono ?_
        rintro e w1 ⟨rfl, hb1⟩
        obtain ⟨r1, d1, rfl⟩ := xw_of hb1
        clear hb1
        rewrite [M1.out]
        go_wp2_with fail
        go_at_call 45
        refine (May_any _ ys _ ((h2.out.below (xw_below _ r1 d1)).up (by rw [xw_size]; omega))).mono ?_
        rintro e w1 ⟨rfl, hb1⟩
        obtain ⟨r2, d2, rfl⟩ := xw_of hb1
        clear hb1
        rewrite [M2.out]
        go_wp2_with (first
          | (go_at_call 49; refine (Copy_any _ xs _ ((h1.out.below (xw_below w (r1 ++ r2) d2)).up (by rw [xw_size]; omega)) (by have := HL.out; omega)).mono ?_; rintro e w3 ⟨v3, rfl, hO3, hb3⟩; obtain ⟨r3, d3, rfl⟩ := xw_of hb3; clear hb3; rewrite [xw_xw, Array.append_assoc] at hO3; have HO3 := Kept.mk (hO3.mono (by rw [xw_size]; omega) : OwnR _ w.heap.size _ _); clear hO3)
          | ((at_builtin); refine app_vals (w0 := w) (W := _) rfl (.tmp 23) (.tmp 24) 35 rfl Try.underlying35 v3 xs ys B d rfl rfl ?c2 HO3.out (xw_below _ _ _) ?c3 ?_; (case c2 => exact (h2.out.below (xw_below _ _ _)).read); (case c3 => have := HL.out; omega); intro v1 r4 d4 hO4))
        go_returns
        rw [hv.out]
        exact ⟨_, rfl, hO4, xw_below _ _ _⟩
end Go.Proofs.Ythcgdlhmmgpbgaa
