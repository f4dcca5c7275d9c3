/- Layer 19 (lex): a strings.Builder of the call's own; tokens joined, walked. -/
import Derived.Test.YtlckgloaknjcgaaLexA
namespace Go.Proofs.Ytlckgloaknjcgaa
open Go.RowKit
set_option linter.unusedVariables false
set_option linter.unusedSimpArgs false

/-- Of what was there only the block g may have changed. -/
structure But (g : Nat) (w w' : World) : Prop where
  os : w'.os = w.os
  tape : w'.tape = w.tape
  output : w'.output = w.output
  size : w.heap.size ≤ w'.heap.size
  block : ∀ k, k < w.heap.size → k ≠ g → w'.heap[k]? = w.heap[k]?
theorem But.refl (g : Nat) (w : World) : But g w w := ⟨rfl, rfl, rfl, Nat.le_refl _, fun _ _ _ => rfl⟩
theorem But.set {g : Nat} {w w' : World} (h : But g w w') (i : Nat) (v : Value) : But g w (w'.setCell ⟨g, i, none⟩ v) :=
  ⟨h.os, h.tape, h.output, by simpa using h.size, fun k hk hg => (Below.heap_setCell w' ⟨g, i, none⟩ v k hg).trans (h.block k hk hg)⟩
theorem But.below {g B : Nat} {w0 w w' : World} (h : But g w w') (hb : Below B w0 w) (hg : B ≤ g) (hB : B ≤ w.heap.size) : Below B w0 w' :=
  ⟨h.os.trans hb.os, h.tape.trans hb.tape, h.output.trans hb.output, Nat.le_trans hb.size h.size, fun k hk => (h.block k (by omega) (by omega)).trans (hb.block k hk)⟩
theorem sizeTB : (Try.prog.info? 48).map (·.size) = some 2 := by kernel_rfl
theorem liesTB : liesAt Try.prog Try.prog.depth 48 (2 / Try.prog.cellsOf 48) 0 48 1 = true := by kernel_rfl
theorem infoU8 : (Try.prog.info? 5).map (fun i => (i.zero, i.size, i.bytes)) = some (some (.int .u8 0), 1, 1) := by kernel_rfl
theorem Built.below {B b : Nat} {p : Value} {xs : List Value} {w w1 : World} (h : Lib.BuilderAt 48 5 B b p xs w) (hb : Below w.heap.size w w1) : Lib.BuilderAt 48 5 B b p xs w1 := by
  have hlt := h.lt
  obtain ⟨hB, v, hbk, hown, hne⟩ := h
  refine ⟨hB, v, (hb.block b hlt).trans hbk, ⟨hown.1, ?_⟩, hne⟩
  rcases hown.2 with h2 | ⟨g, cap, cur, h1, h2, h3, h4⟩
  · exact .inl h2
  · exact .inr ⟨g, cap, cur, h1, h2, by rw [hb.block g (Array.getElem?_eq_some_iff.1 h3).1]; exact h3, h4⟩
theorem IsB.below {B b : Nat} {xs : List Value} {w w1 : World} (h : Lib.IsBuilder 48 5 B b xs w) (hb : Below w.heap.size w w1) : Lib.IsBuilder 48 5 B b xs w1 := by
  rcases h with h | h
  · exact .inl (Built.below h hb)
  · exact .inr (Built.below h hb)

set_option maxRecDepth 100000 in
set_option maxHeartbeats 1000000 in
theorem copy_used (b : Nat) (w : World) (h0 : w.cell? ⟨b, 0, none⟩ = some (.pointer (some ⟨b, 0, none⟩))) :
    Calls Try.prog 31 #[.pointer (some ⟨b, 0, none⟩)] w (fun e w' => e = .returned (.tuple #[]) ∧ w' = w) := by
  obtain ⟨j, hj, _⟩ := Option.map_eq_some_iff.1 sizeTB
  go_enter Try.func31, Try.ntmps31
  go_wp2
  rw [Lib.run_neq_ptr_same w _ Try.underlying46 hj]
  go_wp2
  go_end0
  exact ⟨rfl, rfl⟩
set_option maxRecDepth 100000 in
set_option maxHeartbeats 1000000 in
theorem copy_fresh (b : Nat) (w : World) (h0 : w.cell? ⟨b, 0, none⟩ = some (.pointer none)) (hsh : w.shape? b = some (48, 2)) (hfz : w.frozen? ⟨b, 0, none⟩ = false) :
    Calls Try.prog 31 #[.pointer (some ⟨b, 0, none⟩)] w (fun e w' => e = .returned (.tuple #[]) ∧ w' = w.setCell ⟨b, 0, none⟩ (.pointer (some ⟨b, 0, none⟩))) := by
  obtain ⟨j, hj, hjs⟩ := Option.map_eq_some_iff.1 sizeTB
  go_enter Try.func31, Try.ntmps31
  go_wp2
  rw [Lib.run_to_unsafe w ⟨b, 0, none⟩ Try.underlying46 Try.underlying60 hj (by rw [hjs]; decide) hsh (Nat.zero_lt_succ 1)]
  simp only [Result.andThen]
  rw [Oper.upon_value]
  go_wp2
  rw [run_callFunc_extern Try.func33 (by kernel_rfl) (by kernel_rfl) (by kernel_rfl) (e := Extern.AbiNoEscape.same) (by kernel_rfl)]
  rw [Lib.run_noEscape]
  simp only [Result.andThen]
  rw [Oper.upon_value]
  go_wp2
  rw [Lib.run_from_unsafe w ⟨b, 0, none⟩ Try.underlying60 Try.underlying46 hj hsh liesTB]
  simp only [Result.andThen]
  rw [Oper.upon_value]
  go_wp2
  go_end0
  exact ⟨rfl, rfl⟩

/-- copyCheck: behind it the builder is used; besides its own block nothing has changed. -/
theorem copy_any (B b : Nat) (xs : List Value) (w : World) (h : Lib.IsBuilder 48 5 B b xs w) :
    Calls Try.prog 31 #[.pointer (some ⟨b, 0, none⟩)] w (fun e w' => e = .returned (.tuple #[]) ∧ Lib.BuilderAt 48 5 B b (.pointer (some ⟨b, 0, none⟩)) xs w' ∧ But b w w') := by
  rcases h with h | h
  · refine (copy_fresh b w h.cell0 h.shape h.frozen0).mono ?_
    rintro e w' ⟨rfl, rfl⟩
    exact ⟨rfl, h.used _, (But.refl b w).set _ _⟩
  · refine (copy_used b w h.cell0).mono ?_
    rintro e w' ⟨rfl, rfl⟩
    exact ⟨rfl, h, But.refl b _⟩

set_option maxRecDepth 100000 in
set_option maxHeartbeats 1000000 in
theorem wbyte_any (B b : Nat) (xs : List Value) (c : Int) (w0 : World) (cs : Array Value) (h : Lib.IsBuilder 48 5 B b xs w0) (hlen : xs.length + 1 ≤ 140737488355328) (hBw : B ≤ w0.heap.size) :
    Calls Try.prog 19 #[.pointer (some ⟨b, 0, none⟩), .int .u8 c] (w0.alloc (.cells cs 34)) (fun e w' => e = .returned .nilIface ∧ Lib.BuilderAt 48 5 B b (.pointer (some ⟨b, 0, none⟩)) (xs ++ [.int .u8 c]) w' ∧ Below B w0 w' ∧ w'.heap[w0.heap.size]? = some (.cells cs 34 (0, 0))) := by
  obtain ⟨i0, hi, hzz⟩ := Option.map_eq_some_iff.1 infoU8
  simp only [Prod.mk.injEq] at hzz
  obtain ⟨hz0, hz1, hz2⟩ := hzz
  have hlt0 : b < w0.heap.size := by rcases h with h | h <;> exact h.lt
  have HA := IsB.below h ((Below.refl _ _).alloc (Nat.le_refl _) (.cells cs 34))
  have HAK := Kept.mk HA
  have HL0 := Kept.mk hlt0
  have HBW := Kept.mk hBw
  have HLEN := Kept.mk hlen
  clear h HA hlt0 hBw hlen
  go_enter Try.func19, Try.ntmps19
  go_wp2_with fail
  go_at_call 31
  refine (copy_any B b xs _ HAK.out).mono ?_
  rintro e w1 ⟨rfl, h1, hb1⟩
  obtain ⟨hB, v, hbk, hown, hne⟩ := h1
  have hs1 := hb1.size
  rw [World.size_alloc] at hs1
  have hbox : w1.heap[w0.heap.size]? = some (.cells cs 34 (0, 0)) := by
    rw [hb1.block _ (by rw [World.size_alloc]; omega) (by have := HL0.out; omega)]
    exact Array.getElem?_push_size
  have hnb := Lib.ownBlock_ne hown hbox (by decide)
  have hbel : Below B w0 w1 := hb1.below ((Below.refl B w0).alloc HBW.out _) hB (by rw [World.size_alloc]; have := HBW.out; omega)
  have HK := Kept.mk (And.intro hbox (And.intro hnb hbel))
  have HNE := Kept.mk hne
  have HBK := Kept.mk hbk
  have c0 : w1.cell? ⟨b, 0, none⟩ = some (.pointer (some ⟨b, 0, none⟩)) := by rw [Lib.cell_of_heap hbk]; rfl
  have c1 : w1.cell? ⟨b, 1, none⟩ = some v := by rw [Lib.cell_of_heap hbk]; rfl
  have HS := Kept.mk hs1
  clear hb1 hbox hnb hbel hbk hne hs1
  go_wp2_with (at_builtin; refine wpList_append_own _ rfl _ _ 45 rfl B 5 i0 (.int .u8 0) 1 1 Try.underlying45 hi hz0 hz1 hz2 rfl (by decide) _ _ _ rfl (hown.alloc _) ⟨w1.heap.size, 0, none⟩ 1 1 [.int .u8 c] rfl rfl ?c1 ?c2 ?c3 ?c4 ?c5 ?_)
  case c1 =>
    intro j u hj
    match j, hj with
    | 0, hj => simp at hj; subst hj; simp [Addr.add]
  case c2 => intro u hu; simp at hu; subst hu; rfl
  case c3 => have := HLEN.out; unfold maxLen; omega
  case c4 => have := HLEN.out; omega
  case c5 => have := HS.out; have := HBW.out; rw [World.size_alloc]; omega
  intro v' w2 hown' hgrow _
  have hlt : b < w1.heap.size := (Array.getElem?_eq_some_iff.1 HBK.out).1
  have hb2 : w2.heap[b]? = some (.cells #[.pointer (some ⟨b, 0, none⟩), v] 48 (0, 0)) := by
    rw [hgrow.block b (by rw [World.size_alloc]; omega) (fun e => HNE.out e.symm), Lib.alloc_old w1 _ b hlt]
    exact HBK.out
  have hk2 : w2.heap[w0.heap.size]? = some (.cells cs 34 (0, 0)) := by
    have hs := HS.out
    rw [hgrow.block _ (by rw [World.size_alloc]; omega) (fun e => HK.out.2.1 e.symm), Lib.alloc_old w1 _ _ (by omega)]
    exact HK.out.1
  have d0 : w2.cell? ⟨b, 0, none⟩ = some (.pointer (some ⟨b, 0, none⟩)) := by rw [Lib.cell_of_heap hb2]; rfl
  have d1 : w2.cell? ⟨b, 1, none⟩ = some v := by rw [Lib.cell_of_heap hb2]; rfl
  have f1 : w2.frozen? ⟨b, 1, none⟩ = false := Lib.frozen_of_heap hb2 1
  obtain ⟨g, cap, rfl⟩ : ∃ g cap, v' = .slice (some ⟨g, 0, none⟩) (xs.length + 1) cap := by
    rcases hown'.2 with ⟨_, h0⟩ | ⟨g, cap, cur, hv, _⟩
    · omega
    · exact ⟨g, cap, hv⟩
  have H2 := Kept.mk (And.intro hb2 hk2)
  have HO' := Kept.mk hown'
  have HG := Kept.mk hgrow
  clear hb2 hk2 hown' hgrow
  go_wp2_with fail
  go_ret
  have hs := HS.out
  have hbw := HBW.out
  refine ⟨rfl, ?_, ?_, ?_⟩
  · exact Lib.BuilderAt.put (T := 48) (e := 5) hB H2.out.1 (bs' := xs ++ [.int .u8 c]) (by simpa using HO'.out) (by decide)
  · exact ((HK.out.2.2.alloc (by omega) _).grown HG.out (by rw [World.size_alloc]; omega) (fun k hk => (hown.lt k hk).1)).setCell (p := ⟨b, 1, none⟩) hB _
  · rw [Below.heap_setCell w2 ⟨b, 1, none⟩ _ _ (by have := HL0.out; simp only; omega)]
    exact H2.out.2
set_option maxRecDepth 100000 in
set_option maxHeartbeats 1000000 in
theorem wstr_any (B b : Nat) (xs : List Value) (s : ByteArray) (w : World) (h : Lib.IsBuilder 48 5 B b xs w) (hlen : xs.length + s.size ≤ 140737488355328) (hBw : B ≤ w.heap.size) :
    Calls Try.prog 20 #[.pointer (some ⟨b, 0, none⟩), .string s] w (fun e w' => e = .returned (.tuple #[.int .i64 s.size, .nilIface]) ∧ Lib.BuilderAt 48 5 B b (.pointer (some ⟨b, 0, none⟩)) (xs ++ Lib.strCells s) w' ∧ Below B w w') := by
  obtain ⟨i0, hi, hzz⟩ := Option.map_eq_some_iff.1 infoU8
  simp only [Prod.mk.injEq] at hzz
  obtain ⟨hz0, hz1, hz2⟩ := hzz
  have HH := Kept.mk h
  have HBW := Kept.mk hBw
  have HLEN := Kept.mk hlen
  clear h hBw hlen
  go_enter Try.func20, Try.ntmps20
  go_wp2_with fail
  go_at_call 31
  refine (copy_any B b xs _ HH.out).mono ?_
  rintro e w1 ⟨rfl, h1, hb1⟩
  obtain ⟨hB, v, hbk, hown, hne⟩ := h1
  have hbel : Below B w w1 := hb1.below (Below.refl B w) hB HBW.out
  have HK := Kept.mk hbel
  have HNE := Kept.mk hne
  have HBK := Kept.mk hbk
  have HS := Kept.mk hb1.size
  have c0 : w1.cell? ⟨b, 0, none⟩ = some (.pointer (some ⟨b, 0, none⟩)) := by rw [Lib.cell_of_heap hbk]; rfl
  have c1 : w1.cell? ⟨b, 1, none⟩ = some v := by rw [Lib.cell_of_heap hbk]; rfl
  clear hb1 hbel hbk hne
  go_wp2_with (at_builtin; refine Lib.wpList_append_own_string _ rfl _ _ 45 9 rfl B 5 i0 Try.underlying45 Try.underlying9 hi hz0 hz1 hz2 _ _ _ rfl hown s rfl ?c3 ?c4 ?c5 ?_)
  case c3 => have := HLEN.out; unfold maxLen; omega
  case c4 => have := HLEN.out; omega
  case c5 => have := HS.out; have := HBW.out; omega
  intro v' w2 hown' hgrow _
  have hlt : b < w1.heap.size := (Array.getElem?_eq_some_iff.1 HBK.out).1
  have hb2 : w2.heap[b]? = some (.cells #[.pointer (some ⟨b, 0, none⟩), v] 48 (0, 0)) := by
    rw [hgrow.block b hlt (fun e => HNE.out e.symm)]
    exact HBK.out
  have d0 : w2.cell? ⟨b, 0, none⟩ = some (.pointer (some ⟨b, 0, none⟩)) := by rw [Lib.cell_of_heap hb2]; rfl
  have d1 : w2.cell? ⟨b, 1, none⟩ = some v := by rw [Lib.cell_of_heap hb2]; rfl
  have f1 : w2.frozen? ⟨b, 1, none⟩ = false := Lib.frozen_of_heap hb2 1
  obtain ⟨ao, n', cap, rfl⟩ : ∃ ao n' cap, v' = .slice ao n' cap := by
    rcases hown'.2 with ⟨hv, _⟩ | ⟨g, cap, cur, hv, _⟩
    · exact ⟨_, _, _, hv⟩
    · exact ⟨_, _, _, hv⟩
  have H2 := Kept.mk hb2
  have HO' := Kept.mk hown'
  have HG := Kept.mk hgrow
  clear hb2 hown' hgrow
  go_wp2_with fail
  go_returns
  have hs := HS.out
  have hbw := HBW.out
  refine ⟨rfl, ?_, ?_⟩
  · exact Lib.BuilderAt.put (T := 48) (e := 5) hB H2.out (bs' := xs ++ Lib.strCells s) (by simpa [Lib.strCells_length] using HO'.out) (by decide)
  · exact (HK.out.grown HG.out (by omega) (fun k hk => (hown.lt k hk).1)).setCell (p := ⟨b, 1, none⟩) hB _
end Go.Proofs.Ytlckgloaknjcgaa
