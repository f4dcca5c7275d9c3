/- Layer 7 (schema): columns picked out of a schema, schemas joined: walked. -/
import Derived.Test.YthcgdlhmmgpbgaaSchM
import Derived.Test.YthcgdlhmmgpbgaaRowU
import Derived.Laws.MakeOwn
namespace Go.Proofs.Ythcgdlhmmgpbgaa
open Go.RowKit Go.Shelf
set_option linter.unusedVariables false
set_option linter.unusedSimpArgs false

theorem make_cols (t : TypeId) (ht : Try.prog.underlying t = some (.slice 41)) (W : World) (n : Nat) (hn : n * 24 ≤ 281474976710656) : ∃ r d, (Instr.makeSlice t (.int .i64 0) (.int .i64 (n : Int))).run Try.prog W = .ok (.slice (some ⟨W.heap.size, 0, none⟩) 0 n) (xw W r d) ∧ OwnC (xw W r d) W.heap.size (.slice (some ⟨W.heap.size, 0, none⟩) 0 n) [] := by
  obtain ⟨i0, hi, hzz⟩ := Option.map_eq_some_iff.1 infoC
  simp only [Prod.mk.injEq] at hzz
  obtain ⟨hz0, hz1, hz2⟩ := hzz
  obtain ⟨w', hr, ho, hg⟩ := run_make_own (P := Try.prog) W W.heap.size t 41 i0 _ 2 ht hi hz0 hz1 .i64 .i64 n (by rw [hz2]; omega) (by simp only [maxLen]; omega) (Nat.le_refl _)
  obtain ⟨r, d, rfl⟩ := xw_of ((Below.refl W.heap.size W).grown hg (Nat.le_refl _) (fun k hk => by cases hk))
  exact ⟨r, d, hr, ho⟩
section
variable {ops : Array Oper} {rest : List Oper} {o : Oper} {a : Act} {Q : Exit → Act → World → Prop}
/-- make(T, 0, n). -/
theorem mk_cols {W : World} (hgd : o.guard = none) (x : Operand) (t : TypeId) (l : Operand)
    (ho : o.op = .makeSlice t l x) (ht : Try.prog.underlying t = some (.slice 41)) (n : Nat) (hl : a.eval l = .int .i64 0) (hx : a.eval x = .int .i64 (n : Int)) (hn : n * 24 ≤ 281474976710656)
    (h : ∀ r d, OwnC (xw W r d) W.heap.size (.slice (some ⟨W.heap.size, 0, none⟩) 0 n) [] → wpList Try.prog ops Q rest (a.put o.dst (.slice (some ⟨W.heap.size, 0, none⟩) 0 n)) (xw W r d)) :
    wpList Try.prog ops Q (o :: rest) a W := by
  obtain ⟨r, d, hr, hO⟩ := make_cols t ht W n hn
  refine wpList_plain hgd fun K hK => ?_
  unfold Oper.wp execOp
  simp only [ho, hl, hx, Sem.run_bind, Sem.run_pure, Result.andThen_ok, hr]
  exact hK _ _ (h r d hO)
end
/-- It returns a new schema. -/
def RetC1 (w : World) (xs : List Cl) (e : Ending) (w' : World) : Prop := ∃ v, e = .returned v ∧ OwnC w' w.heap.size v xs ∧ Below w.heap.size w w'
def RetC (w : World) (q : List Cl × Int) (e : Ending) (w' : World) : Prop := ∃ v, e = .returned (.tuple #[v, .int .i64 q.2]) ∧ OwnC w' w.heap.size v q.1 ∧ Below w.heap.size w w'

/-! ### Pick -/
/-- Which numbers are no columns' (as the machine asks it). -/
def idxB (n : Nat) : List Int → Nat → Int
  | [], _ => -1
  | c :: r, i => if c < 0 ∨ (n : Int) ≤ c then (i : Int) else idxB n r (i + 1)
theorem idxB_pos (n : Nat) (cs : List Int) (i : Nat) : (0 ≤ idxB n cs i) ↔ ∃ c ∈ cs, c < 0 ∨ (n : Int) ≤ c := by
  induction cs generalizing i with
  | nil => simp [idxB]
  | cons x r ih =>
    have e : idxB n (x :: r) i = if x < 0 ∨ (n : Int) ≤ x then (i : Int) else idxB n r (i + 1) := rfl
    by_cases h : x < 0 ∨ (n : Int) ≤ x
    · rw [if_pos h] at e
      rw [e]
      exact ⟨fun _ => ⟨x, by simp, h⟩, fun _ => by omega⟩
    · rw [if_neg h] at e
      rw [e, ih]
      constructor
      · rintro ⟨c, hc, hx⟩; exact ⟨c, by simp [hc], hx⟩
      · rintro ⟨c, hc, hx⟩
        rcases List.mem_cons.1 hc with rfl | hc
        · exact absurd hx h
        · exact ⟨c, hc, hx⟩
theorem pickf_any (k : Int) (b : Nat) (A : Option Addr) (n c : Nat) (w : World) (hc : w.cell? ⟨b, 0, none⟩ = some (.slice A n c)) :
    Calls Try.prog 39 #[.int .i64 k, .pointer (some ⟨b, 0, none⟩)] w (fun e w' => e = .returned (.bool (decide (k < 0 ∨ (n : Int) ≤ k))) ∧ w = w') := by
  go_enter Try.func39, Try.ntmps39
  go_wp2
  all_goals go_returns
  all_goals refine ⟨?_, rfl⟩
  all_goals apply congrArg Ending.returned
  all_goals apply congrArg Value.bool
  all_goals rw [Bool.eq_iff_iff]
  all_goals simp
  all_goals try omega
def IxB (n : Nat) (cs : List Int) (w : World) (v8 : Value) (wr : World) : Prop := ∃ i : Nat, v8 = .int .i64 (i : Int) ∧ wr = w ∧ Kept (i ≤ cs.length ∧ idxB n cs 0 = idxB n (cs.drop i) i)
theorem idxB_step {n : Nat} {cs : List Int} {i : Nat} (hi : i < cs.length) : idxB n (cs.drop i) i = if cs[i] < 0 ∨ (n : Int) ≤ cs[i] then (i : Int) else idxB n (cs.drop (i + 1)) (i + 1) := by
  rw [List.drop_eq_getElem_cons hi]
  rfl
theorem idxB_end {n : Nat} {cs : List Int} {i : Nat} (hi : cs.length ≤ i) : idxB n (cs.drop i) i = -1 := by
  rw [List.drop_of_length_le hi]
  rfl
set_option maxRecDepth 100000 in
set_option maxHeartbeats 2000000 in
theorem idxpick_any (B : Option Addr) (d : Nat) (cs : List Int) (h8 : cs.length ≤ 8) (b : Nat) (A : Option Addr) (n c : Nat) (w : World) (hc : w.cell? ⟨b, 0, none⟩ = some (.slice A n c)) (H : HasI w w.heap.size (.slice B cs.length d) cs) :
    Calls Try.prog 61 #[.slice B cs.length d, .func (Fn.func 39) #[] #[.pointer (some ⟨b, 0, none⟩)]] w (fun e w' => e = .returned (.int .i64 (idxB n cs 0)) ∧ w' = w) := by
  obtain ⟨B', d', hv, hA⟩ := H
  injection hv with hv1 hv2 hv3
  subst hv1
  have HA := Kept.mk hA
  have H8 := Kept.mk h8
  clear hA h8 hv2 hv3
  go_enter Try.func61, Try.ntmps61
  go_wp2_with fail
  go_loopw [8] (fun v8 wr => IxB n cs w v8 wr) (fun v8 wr => cs.length - (intOf v8).toNat)
  case atStart => exact ⟨0, rfl, rfl, ⟨Nat.zero_le _, rfl⟩⟩
  case round =>
    obtain ⟨i, rfl, rfl, HI⟩ := hrel
    by_cases ci : i < cs.length
    · have hne : cs ≠ [] := by rintro rfl; simp at ci
      obtain ⟨b1, o1, rfl, hb1, hc1⟩ := HA.out hne
      have e0 := hc1 i ci
      have hst := HI.out.2.trans (idxB_step ci)
      have ci' : (i : Int) < (cs.length : Int) := by omega
      have f0 : 0 ≤ (i : Int) := by omega
      have hw : wrap64 ((i : Int) + 1) = (i : Int) + 1 := by have := H8.out; simp only [wrap64]; omega
      have HCI := Kept.mk ci
      generalize cs[i] = k at e0 hst
      by_cases hk : k < 0 ∨ (n : Int) ≤ k
      · rw [if_pos hk] at hst
        have HST := Kept.mk hst
        have HK : Kept (decide (k < 0 ∨ (n : Int) ≤ k) = true) := ⟨decide_eq_true hk⟩
        clear hst hk hc1 hne
        go_wp2_with (first | (go_at_call 39; refine (pickf_any k b A n c _ hc).mono ?_; rintro e w1 ⟨rfl, rfl⟩; rewrite [HK.out]))
        go_returns
        exact ⟨by rw [HST.out]; rfl, rfl⟩
      · rw [if_neg hk] at hst
        have HST := Kept.mk hst
        have HK : Kept (decide (k < 0 ∨ (n : Int) ≤ k) = false) := ⟨decide_eq_false hk⟩
        clear hst hk hc1 hne
        go_wp2_with (first | (go_at_call 39; refine (pickf_any k b A n c _ hc).mono ?_; rintro e w1 ⟨rfl, rfl⟩; rewrite [HK.out]))
        exact ⟨⟨i + 1, by first | rfl | (rw [hw]; rfl), rfl, ⟨HCI.out, HST.out⟩⟩, by first | exact less_step hw HCI.out | exact less_bare' HCI.out⟩
    · have hst := HI.out.2.trans (idxB_end (by omega))
      have ci' : ¬ ((i : Int) < (cs.length : Int)) := by omega
      have HST := Kept.mk hst
      clear ci hst
      go_wp2_with fail
      go_returns
      exact ⟨by rw [HST.out]; rfl, rfl⟩
set_option maxRecDepth 100000 in
set_option maxHeartbeats 1000000 in
theorem contpick_any (B : Option Addr) (d : Nat) (cs : List Int) (h8 : cs.length ≤ 8) (b : Nat) (A : Option Addr) (n c : Nat) (w : World) (hc : w.cell? ⟨b, 0, none⟩ = some (.slice A n c)) (H : HasI w w.heap.size (.slice B cs.length d) cs) :
    Calls Try.prog 38 #[.slice B cs.length d, .func (Fn.func 39) #[] #[.pointer (some ⟨b, 0, none⟩)]] w (fun e w' => e = .returned (.bool (decide (0 ≤ idxB n cs 0))) ∧ w' = w) := by
  have HH := Kept.mk H
  clear H
  go_enter Try.func38, Try.ntmps38
  go_wp2_with (first | (go_at_call 61; refine (idxpick_any B d cs h8 b A n c _ hc HH.out).mono ?_; rintro e w1 ⟨rfl, rfl⟩))
  go_returns
  exact ⟨rfl, rfl⟩
theorem idxFrom_before (x : Int) (zs : List Int) (i k : Nat) (h : Lib.idxFrom zs x i = ((i + k : Nat) : Int)) : ∀ j, (hj : j < k) → (hl : j < zs.length) → zs[j] ≠ x := by
  induction zs generalizing i k with
  | nil => intro j hj hl; simp at hl
  | cons z r ih =>
    intro j hj hl
    rw [Lib.idxFrom] at h
    split at h
    · omega
    · rename_i hx
      cases j with
      | zero => exact hx
      | succ j =>
        have h2 : Lib.idxFrom r x (i + 1) = (((i + 1) + (k - 1) : Nat) : Int) := by rw [h]; congr 1; omega
        exact ih (i + 1) (k - 1) h2 j (by omega) (by simpa using hl)
theorem idxOf_dup {ns : List Int} {i : Nat} (hi : i < ns.length) (h : ns[i] ∈ ns.take i) : Lib.idxOf ns ns[i] ≠ (i : Int) := by
  intro e
  obtain ⟨j, hj, he⟩ := List.getElem_of_mem h
  rw [List.getElem_take] at he
  rw [List.length_take] at hj
  exact idxFrom_before ns[i] ns 0 i (by rw [Nat.zero_add]; exact e) j (by omega) (by omega) he
theorem idxOf_new {ns : List Int} {i : Nat} (hi : i < ns.length) (h : ns[i] ∉ ns.take i) : Lib.idxOf ns ns[i] = (i : Int) := by
  have := Lib.idxOf_hit ns ns.length i ns[i] hi (Nat.le_refl _) (by simp [hi]) (fun j hj e => h (by
    have hjl : j < ns.length := by omega
    rw [List.getD_eq_getElem?_getD, List.getElem?_eq_getElem hjl] at e
    rw [← e, List.mem_take_iff_getElem]
    exact ⟨j, by omega, rfl⟩))
  rwa [List.take_length] at this
theorem HasI.opn' {w : World} {B : Nat} {A : Option Addr} {n c : Nat} {ns : List Int} (h : HasI w B (.slice A n c) ns) (hne : ns ≠ []) : ∃ b off, A = some ⟨b, off, none⟩ ∧ b < B ∧ ∀ i, (hi : i < ns.length) → w.cell? ⟨b, off + i, none⟩ = some (.int .i64 ns[i]) := by
  obtain ⟨A', c', hv, hA⟩ := h
  injection hv with h1 h2 h3
  subst h1
  exact hA hne
def getC (cs : List Cl) (c : Int) : Cl := (cs[c.toNat]?).getD ⟨⟨#[]⟩, 0⟩
theorem getC_at {cs : List Cl} {m : Nat} (h : m < cs.length) : getC cs (m : Int) = cs[m] := by simp [getC, h]
def badN (n : Nat) (ns : List Int) : Prop := ∃ c ∈ ns, c < 0 ∨ (n : Int) ≤ c
instance (n : Nat) (ns : List Int) : Decidable (badN n ns) := by unfold badN; infer_instance
def pickC (cs : List Cl) (ns : List Int) : List Cl × Int := if mayC cs = true then (if 8 < ns.length then ([], 6) else if badN cs.length ns then ([], 3) else if ns.Nodup then (ns.map (getC cs), 0) else ([], 9)) else ([], 17)
def PcI (cs : List Cl) (ns : List Int) (w : World) (v26 v6 : Value) (wr : World) : Prop := ∃ (i : Nat) (r : Array Obj) (d : Nat), v26 = .int .i64 (i : Int) ∧ wr = xw w r d ∧ Kept (OwnC wr w.heap.size v6 ((ns.take i).map (getC cs))) ∧ Kept (i ≤ ns.length ∧ (ns.take i).Nodup)
set_option maxRecDepth 100000 in
set_option maxHeartbeats 2000000 in
theorem cPick_any (v u : Value) (cs : List Cl) (ns : List Int) (w : World) (H1 : HasC w w.heap.size v cs) (H2 : HasI w w.heap.size u ns) (hz : ∀ x ∈ cs, SzB x.s) :
    Calls Try.prog 14 #[v, u] w (RetC w (pickC cs ns)) := by
  have HZ := Kept.mk hz
  have hh1 := Kept.mk H1
  have hh2 := Kept.mk H2
  obtain ⟨A, c, rfl, hlc, _⟩ := H1
  obtain ⟨B, d, rfl, _⟩ := H2
  clear hz
  go_enter Try.func14, Try.ntmps14
  go_wp2_with fail
  generalize hw0 : w.alloc (.cells #[.slice A cs.length c] 25) = w0
  have B0 : Below w.heap.size w w0 := by rw [← hw0]; exact (Below.refl _ w).alloc (Nat.le_refl _) _
  have hsz : w.heap.size < w0.heap.size := by rw [← hw0]; simp
  have hc0 : w0.cell? ⟨w.heap.size, 0, none⟩ = some (.slice A cs.length c) := by rw [← hw0]; simp
  have h1 := Kept.mk ((hh1.out.below B0).up B0.size)
  have h2 := Kept.mk ((hh2.out.below B0).up B0.size)
  have HB0 := Kept.mk B0
  clear hw0 B0 hh1 hh2
  go_at_call 17
  refine (cMay_any A cs.length c cs _ h1.out HZ.out).mono ?_
  rintro e w1 ⟨rfl, hb1⟩
  obtain ⟨r1, d1, rfl⟩ := xw_of hb1
  clear hb1
  cases m1 : mayC cs with
  | false =>
    have hv : Kept (pickC cs ns = ([], 17)) := ⟨by simp [pickC, m1]⟩
    go_wp2_with fail
    go_returns
    rw [hv.out]
    exact ⟨_, rfl, OwnC.nil _ _, HB0.out.trans ((xw_below _ _ _).mono HB0.out.size)⟩
  | true =>
    have M1 := Kept.mk m1
    have L1 := Kept.mk (mayC_iff.1 m1).1
    clear m1
    by_cases c8 : 8 < ns.length
    · have hv : Kept (pickC cs ns = ([], 6)) := ⟨by simp [pickC, M1.out, c8]⟩
      have c8' : 8 < (ns.length : Int) := by omega
      clear c8
      go_wp2_with fail
      go_returns
      rw [hv.out]
      exact ⟨_, rfl, OwnC.nil _ _, HB0.out.trans ((xw_below _ _ _).mono HB0.out.size)⟩
    · have H8 : Kept (ns.length ≤ 8) := ⟨by omega⟩
      have c8' : ¬ 8 < (ns.length : Int) := by omega
      have hcb := hc0
      have h2' := Kept.mk ((h2.out.below (xw_below w0 r1 d1)).up (xw_below w0 r1 d1).size)
      have hcx : (xw w0 r1 d1).cell? ⟨w.heap.size, 0, none⟩ = some (.slice A cs.length c) := by rw [xw_cell _ _ _ _ _ hsz]; exact hc0
      go_wp2_with fail
      go_at_call 38
      refine (contpick_any B d ns H8.out w.heap.size A cs.length c _ hcx h2'.out).mono ?_
      rintro e w1 ⟨rfl, rfl⟩
      clear hcx
      by_cases hb : badN cs.length ns
      · have hv : Kept (pickC cs ns = ([], 3)) := ⟨by simp only [pickC, M1.out, if_true, if_neg c8, if_pos hb]⟩
        have hd : decide (0 ≤ idxB cs.length ns 0) = true := decide_eq_true ((idxB_pos _ _ _).2 hb)
        rewrite [hd]
        clear c8
        go_wp2_with fail
        go_returns
        rw [hv.out]
        exact ⟨_, rfl, OwnC.nil _ _, HB0.out.trans ((xw_below _ _ _).mono HB0.out.size)⟩
      · have HV : Kept (pickC cs ns = if ns.Nodup then (ns.map (getC cs), 0) else ([], 9)) := ⟨by simp only [pickC, M1.out, if_true, if_neg c8, if_neg hb]⟩
        have hd : decide (0 ≤ idxB cs.length ns 0) = false := decide_eq_false (fun h => hb ((idxB_pos _ _ _).1 h))
        rewrite [hd]
        have HNB := Kept.mk hb
        clear c8 hb
        have hcr : ∀ r d, (xw w0 r d).cell? ⟨w.heap.size, 0, none⟩ = some (.slice A cs.length c) := fun r d => by rw [xw_cell _ _ _ _ _ hsz]; exact hc0
        go_wp2_with (first
          | ((refine mk_cols (W := xw w0 r1 d1) rfl (.tmp 22) 25 _ rfl Try.underlying25 ns.length rfl rfl ?c1 ?_); (case c1 => have := H8.out; omega); intro r2 d2 hO; rewrite [xw_xw] at hO; rewrite [xw_xw]; have HO := Kept.mk (hO.mono (by rw [xw_size]; omega) : OwnC _ w0.heap.size _ _); clear hO))
        go_loopw [26, 6] (fun v26 v6 wr => PcI cs ns w0 v26 v6 wr) (fun v26 v6 wr => ns.length - (intOf v26).toNat)
        case atStart => exact ⟨0, _, _, rfl, rfl, HO, ⟨Nat.zero_le _, by simp⟩⟩
        case round =>
          obtain ⟨i, r, d', rfl, rfl, HOR, HI⟩ := hrel
          clear HO
          have hcx := hcr r d'
          by_cases ci : i < ns.length
          · have hne : ns ≠ [] := by rintro rfl; simp at ci
            obtain ⟨b2, o2, hB2, hb2, hc2⟩ := h2.out.opn' hne
            subst hB2
            have g0 := hc2 i ci
            have ci' : (i : Int) < (ns.length : Int) := by omega
            have f0 : 0 ≤ (i : Int) := by omega
            have hw : wrap64 ((i : Int) + 1) = (i : Int) + 1 := by have := H8.out; simp only [wrap64]; omega
            have HCI := Kept.mk ci
            have HIX : Kept (∀ x, Calls Try.prog 40 #[.slice (some ⟨b2, o2, none⟩) ns.length d, .int .i64 x] (xw w0 r d') fun e w' => e = .returned (.int .i64 (Lib.idxOf ns x)) ∧ w' = xw w0 r d') := ⟨fun x => by
              have h := Try.slices_Index_int b2 o2 ns.length d ns x (xw w0 r d') (Nat.le_refl _) (by have := H8.out; omega) (fun j hj => by
                rw [xw_cell _ _ _ _ _ hb2, hc2 j hj, List.getD_eq_getElem?_getD, List.getElem?_eq_getElem hj]; rfl)
              rwa [List.take_length] at h⟩
            by_cases hd' : ns[i] ∈ ns.take i
            · have hx := idxOf_dup ci hd'
              have hv : Kept (pickC cs ns = ([], 9)) := ⟨by
                rw [HV.out, if_neg]
                intro hn
                have h := hn.sublist (List.take_sublist (i + 1) ns)
                rw [List.take_succ_eq_append_getElem ci, List.nodup_append] at h
                exact h.2.2 _ hd' _ (by simp) rfl⟩
              clear hd' hc2 hne
              generalize ns[i] = k at g0 hx
              go_wp2_with (first | (go_at_call 40; refine (HIX.out k).mono ?_; rintro e w1 ⟨rfl, rfl⟩))
              go_returns
              rw [hv.out]
              exact ⟨_, rfl, OwnC.nil _ _, HB0.out.trans ((xw_below _ _ _).mono HB0.out.size)⟩
            · have hx := idxOf_new ci hd'
              have hND : Kept ((ns.take (i + 1)).Nodup) := ⟨by
                rw [List.take_succ_eq_append_getElem ci, List.nodup_append]
                exact ⟨HI.out.2, by simp, fun a ha b hb e => by simp at hb; subst hb; subst e; exact hd' ha⟩⟩
              have hin : ¬ (ns[i] < 0 ∨ (cs.length : Int) ≤ ns[i]) := fun h => HNB.out ⟨_, List.getElem_mem ci, h⟩
              obtain ⟨m, hm⟩ : ∃ m : Nat, ns[i] = (m : Int) := ⟨ns[i].toNat, by omega⟩
              have hml : m < cs.length := by omega
              have hml' : (m : Int) < (cs.length : Int) := by omega
              have m0 : 0 ≤ (m : Int) := by omega
              have hgc : Kept ((ns.take (i + 1)).map (getC cs) = (ns.take i).map (getC cs) ++ [cs[m]]) := ⟨by rw [List.take_succ_eq_append_getElem ci, List.map_append, List.map_cons, List.map_nil, hm, getC_at hml]⟩
              rw [hm] at g0 hx
              have HX := Kept.mk hx
              obtain ⟨b1, o1, hB1, hb1, hc1⟩ := h1.out.opn.2.2 (by rintro rfl; simp at hml)
              subst hB1
              obtain ⟨e0, e1⟩ := hc1 m hml
              generalize cs[m] = x at e0 e1 hgc
              obtain ⟨xs', xk⟩ := x
              simp only at e0 e1
              clear hc1 hc2 hne hd' hin hm hml hx
              go_wp2_with (first
                | (go_at_call 40; refine (HIX.out (m : Int)).mono ?_; rintro e w1 ⟨rfl, rfl⟩; rewrite [HX.out])
                | ((at_builtin); refine app_col (w0 := w0) (W := xw w0 r d') rfl (.tmp 36) (.tmp 41) 25 rfl Try.underlying25 _ ((ns.take i).map (getC cs)) xs' xk rfl rfl HOR.out (xw_below _ _ _) ?c4 ?_; (case c4 => have := H8.out; simp only [List.length_map, List.length_take]; omega); intro v1 r3 d3 hO3 _; have HO3 := Kept.mk hO3; clear hO3))
              refine ⟨⟨i + 1, _, _, by first | rfl | (rw [hw]; rfl), rfl, ⟨by rw [hgc.out]; exact HO3.out⟩, ⟨HCI.out, hND.out⟩⟩, by first | exact less_step hw HCI.out | exact less_bare' HCI.out⟩
          · have hi : i = ns.length := by have := HI.out.1; omega
            have hN := HI.out.2
            rw [hi, List.take_length] at hN
            have hv : Kept (pickC cs ns = (ns.map (getC cs), 0)) := ⟨by rw [HV.out, if_pos hN]⟩
            have hoe := HOR.out
            rw [hi, List.take_length] at hoe
            have HOE := Kept.mk hoe
            have ci' : ¬ ((i : Int) < (ns.length : Int)) := by omega
            clear ci hi hN HOR hoe
            go_wp2_with fail
            go_returns
            rw [hv.out]
            exact ⟨_, rfl, HOE.out.mono HB0.out.size, HB0.out.trans ((xw_below _ _ _).mono HB0.out.size)⟩
end Go.Proofs.Ythcgdlhmmgpbgaa
