/- Layer 19 (lex): tokens joined, walked. -/
import Derived.Test.YtlckgloaknjcgaaLexB
namespace Go.Proofs.Ytlckgloaknjcgaa
open Go.RowKit
set_option linter.unusedVariables false
set_option linter.unusedSimpArgs false

def jl : List Bs → Nat
  | [] => 0
  | x :: r => x.length + 1 + jl r
theorem jl_app (xs ys : List Bs) : jl (xs ++ ys) = jl xs + jl ys := by
  induction xs with
  | nil => simp [jl]
  | cons x r ih => simp only [List.cons_append, jl, ih]; omega
theorem join_len (xs : List Bs) : (joinB xs).length ≤ jl xs := by
  induction xs with
  | nil => simp [joinB]
  | cons x r ih =>
    cases r with
    | nil => simp [joinB, jl]
    | cons y r => simp only [joinB, jl, List.length_append, List.length_cons] at ih ⊢; omega
theorem join_snoc (xs : List Bs) (l : Bs) (h : xs ≠ []) : joinB (xs ++ [l]) = joinB xs ++ 32 :: l := by
  induction xs with
  | nil => exact absurd rfl h
  | cons x r ih =>
    cases r with
    | nil => rfl
    | cons y r =>
      have := ih (by simp)
      simp only [List.cons_append, joinB] at this ⊢
      rw [this]
      simp
def texts (ts : List Tok) : List Bs := ts.map Prod.snd
def JI (ts : List Tok) (w : World) (i : Nat) (wr : World) : Prop :=
  i ≤ ts.length ∧ Lib.IsBuilder 48 5 w.heap.size w.heap.size (Lib.byteCells (joinB (texts (ts.take i)))) wr ∧ Below w.heap.size w wr
def JJ (ts : List Tok) (w : World) (v8 : Value) (wr : World) : Prop := ∃ i : Nat, v8 = .int .i64 (i : Int) ∧ Kept (JI ts w i wr)

set_option maxRecDepth 100000 in
set_option maxHeartbeats 1000000 in
theorem join_any (v : Value) (ts : List Tok) (w : World) (H : HasT w v ts) (hn : ts.length ≤ 140737488355328) (hj : jl (texts ts) ≤ 140737488355328) :
    Calls Try.prog 13 #[v] w (fun e w' => e = .returned (.string (bs (joinB (texts ts)))) ∧ Below w.heap.size w w') := by
  have HT := Kept.mk H
  obtain ⟨A, c, rfl, hA⟩ := H
  have HA := Kept.mk hA
  have HN := Kept.mk hn
  have HJ := Kept.mk hj
  clear hA hn hj
  go_enter Try.func13, Try.ntmps13
  go_wp2_with fail
  go_loopw [8] (fun v8 wr => JJ ts w v8 wr) (fun v8 wr => ts.length - (intOf v8).toNat)
  case atStart => exact ⟨0, rfl, ⟨⟨Nat.zero_le _, Lib.fresh_isBuilder _ _ w, (Below.refl _ _).alloc (Nat.le_refl _) _⟩⟩⟩
  case round =>
    obtain ⟨i, rfl, HI⟩ := hrel
    obtain ⟨hi, hBu, hBe⟩ := HI.out
    have HBU := Kept.mk hBu
    have HBE := Kept.mk hBe
    clear HI hBu
    by_cases ci : i < ts.length
    · have hne : ts ≠ [] := by rintro rfl; simp at ci
      obtain ⟨b1, o1, rfl, hb1, hc1⟩ := HA.out hne
      obtain ⟨e0, e1⟩ := hc1 i ci
      rw [← World.cell?_of_block (w' := wr) (hBe.block b1 hb1)] at e0 e1
      have htake : ts.take (i + 1) = ts.take i ++ [ts[i]] := by rw [List.take_add_one, List.getElem?_eq_getElem ci]; rfl
      have hjt : jl (texts (ts.take (i + 1))) ≤ 140737488355328 := by
        have h := HJ.out
        have e : texts ts = texts (ts.take (i + 1)) ++ texts (ts.drop (i + 1)) := by
          simp only [texts]
          rw [← List.map_append, List.take_append_drop]
        rw [e, jl_app] at h
        omega
      rw [htake] at hjt
      have HTK := Kept.mk htake
      generalize ts[i] = t at e0 e1 HTK hjt
      clear htake
      obtain ⟨k, l⟩ := t
      simp only at e0 e1
      have e2 : texts (ts.take i ++ [(k, l)]) = texts (ts.take i) ++ [l] := by simp [texts]
      rw [e2, jl_app] at hjt
      have hjl := join_len (texts (ts.take i))
      have hjl2 : (joinB (texts (ts.take i))).length + l.length + 1 ≤ 140737488355328 := by simp only [jl] at hjt; omega
      have HJL := Kept.mk hjl2
      have HE2 := Kept.mk e2
      have ci' : (i : Int) < (ts.length : Int) := by omega
      have f0 : 0 ≤ (i : Int) := by omega
      have hw : wrap64 ((i : Int) + 1) = (i : Int) + 1 := by have := HN.out; simp only [wrap64]; omega
      have HCI := Kept.mk ci
      clear hc1 hne hjt hjl hjl2 e2 hi hBe
      by_cases i0 : i = 0
      · subst i0
        simp only [Nat.zero_mul, Nat.add_zero] at e0 e1
        have ci'' : 0 < ts.length := HCI.out
        go_wp2_with fail
        go_at_call 20
        refine (wstr_any w.heap.size w.heap.size _ (bs l) _ (IsB.below HBU.out ((Below.refl _ _).alloc (Nat.le_refl _) _)) (by rw [Lib.byteCells_length, bs_size]; have := HJL.out; omega) (by have := HBE.out.size; rw [World.size_alloc]; omega)).mono ?_
        rintro e w2 ⟨rfl, hB2, hb2⟩
        have HB2 := Kept.mk hB2
        have HBE2 := Kept.mk ((HBE.out.alloc HBE.out.size _).trans hb2)
        clear hB2 hb2
        go_wp2_with fail
        go_roundw
        case rel =>
          refine ⟨1, rfl, ⟨⟨HCI.out, .inr ?_, HBE2.out⟩⟩⟩
          have h := HB2.out
          rw [HTK.out]
          simpa [texts, joinB, Lib.byteCells, bs, Lib.strCells] using h
        case measure => have := HCI.out; simp only [intOf]; omega
      · have i1 : 0 < (i : Int) := by omega
        have I0 := Kept.mk i0
        clear i0
        go_wp2_with fail
        go_at_call 19
        refine (wbyte_any w.heap.size w.heap.size _ 32 wr #[.int .i64 k, .string (bs l)] HBU.out (by rw [Lib.byteCells_length]; have := HJL.out; omega) (HBE.out.size)).mono ?_
        rintro e w2 ⟨rfl, hB2, hb2, hbox⟩
        have hc5 : w2.cell? ⟨wr.heap.size, 1, none⟩ = some (.string (bs l)) := by rw [Lib.cell_of_heap hbox]; rfl
        have HB2 := Kept.mk hB2
        have HBE2 := Kept.mk (HBE.out.trans hb2)
        clear hB2 hb2 hbox
        go_wp2_with fail
        go_at_call 20
        refine (wstr_any w.heap.size w.heap.size _ (bs l) _ (.inr HB2.out) (by rw [List.length_append, Lib.byteCells_length, bs_size]; have := HJL.out; simp only [List.length_cons, List.length_nil]; omega) HBE2.out.size).mono ?_
        rintro e w3 ⟨rfl, hB3, hb3⟩
        have HB3 := Kept.mk hB3
        have HBE3 := Kept.mk (HBE2.out.trans hb3)
        clear hB3 hb3
        go_wp2_with fail
        go_roundw
        case rel =>
          refine ⟨i + 1, by rw [hw]; rfl, ⟨⟨HCI.out, .inr ?_, HBE3.out⟩⟩⟩
          have h := HB3.out
          rw [HTK.out, HE2.out, join_snoc _ _ (by
            intro e
            have h2 : (texts (ts.take i)).length = i := by simp only [texts, List.length_map, List.length_take]; have := HCI.out; omega
            rw [e] at h2
            exact I0.out h2.symm)]
          have e : Lib.byteCells (joinB (texts (ts.take i)) ++ 32 :: l) = Lib.byteCells (joinB (texts (ts.take i))) ++ [.int .u8 32] ++ Lib.strCells (bs l) := by
            simp [Lib.byteCells, Lib.strCells, bs]
          rw [e]
          exact h
        case measure => exact less_step hw HCI.out
    · have hie : i = ts.length := by omega
      subst hie
      go_wp2_with fail
      go_at_call 21
      refine (Try.Builder_String_any w.heap.size w.heap.size _ _ HBU.out HBE.out.size).mono ?_
      rintro e w2 ⟨rfl, hb2⟩
      have HBE2 := Kept.mk (HBE.out.trans hb2)
      clear hb2
      go_wp2_with fail
      go_returns
      exact ⟨rfl, HBE2.out⟩
end Go.Proofs.Ytlckgloaknjcgaa
