/- Layer 26 (tally): New, walked. -/
import Derived.Test.YtnidaahimofppaaGreatQpba
import Derived.Deep.RegionLaw
import Derived.Deep.DeepCutAuto
namespace Go.Proofs.YtnidaahimofppaaGreat
open Go.RowKit Go.Maps
set_option linter.unusedVariables false
set_option linter.unusedSimpArgs false

theorem infoP : (Tryz.prog.info? 62).map (fun i => (i.zero, i.size, i.bytes)) = some (some .nilIface, 1, 16) := by kernel_rfl
section
variable {P : Program} {ops : Array Oper} {o : Oper} {a : Act} {K : Act → World → Prop} {Q : Exit → Act → World → Prop} {E : Prop}
/-- append(v, ys...) inside of a region that draws: what has changed is the row's own block alone. -/
theorem step_rowG {W : World} {B : Nat} (hgd : o.guard = none) (s x : Operand) (t e : TypeId) (z : Value) (bytes : Nat)
    (ho : o.op = .call { callee := .builtin .append, args := #[s, x], argTypes := #[t, t] })
    (ht : P.underlying t = some (.slice e)) (hinfo : (P.info? e).map (fun i => (i.zero, i.size, i.bytes)) = some (some z, 1, bytes)) (hz : z.cells.size = 1) (hb0 : 0 < bytes)
    (v : Value) (xs ys : List Value) (ad : Addr) (c : Nat) (hs : a.eval s = v) (hx : a.eval x = .slice (some ad) ys.length c) (h1 : ∀ y ∈ ys, y.oneCell' = true)
    (hy : ∀ j u, ys[j]? = some u → W.cell? (ad.add j) = some u)
    (HO : Own W B e v xs) (HB : B ≤ W.heap.size) (hl : (xs.length + ys.length) * bytes ≤ 140737488355328)
    (h : ∀ v1 w1, Own w1 B e v1 (xs ++ ys) → W.grownBy w1 v.ownBlock → K (a.put o.dst v1) w1) :
    if Region.wanted o (yielded ops a.tmps) = true then Oper.wp P o a W K Q else E := by
  obtain ⟨i0, hi, hzz⟩ := Option.map_eq_some_iff.1 hinfo
  simp only [Prod.mk.injEq] at hzz
  obtain ⟨hz0, hz1, hz2⟩ := hzz
  have hlen : xs.length + ys.length ≤ 140737488355328 := Nat.le_trans (Nat.le_mul_of_pos_right _ hb0) hl
  have hw : Region.wanted o (yielded ops a.tmps) = true := by simp [Region.wanted, hgd]
  rw [if_pos hw]
  refine wp_append_own W s x t ho B e i0 z 1 bytes ht hi hz0 hz1 hz2 hz (by omega) v xs.length xs hs HO ad ys.length c ys hx (by simp)
    hy (by simpa using h1) (by simp only [maxLen]; omega) hl HB ?_
  intro v1 w1 hown hg _
  refine h v1 w1 ?_ hg
  unfold Own
  simpa using hown
end
theorem one_at {W : World} {M : Nat} {y : Value} (h : W.cell? ⟨M, 0, none⟩ = some y) : ∀ j u, [y][j]? = some u → W.cell? ((⟨M, 0, none⟩ : Addr).add j) = some u := by
  intro j u hu
  match j, hu with
  | 0, hu => simp at hu; subst hu; rw [add_lit0]; exact h
theorem box5 {w : World} {g : Nat} {a b c d e : Value} {t : TypeId} (h : w.heap[g]? = some (.cells #[a, b, c, d, e] t (0, 0))) : w.cell? ⟨g, 0, none⟩ = some a ∧ w.cell? ⟨g, 1, none⟩ = some b ∧ w.cell? ⟨g, 2, none⟩ = some c ∧ w.cell? ⟨g, 3, none⟩ = some d ∧ w.cell? ⟨g, 4, none⟩ = some e := by
  simp [World.cell?, h]
theorem box5f {w : World} {g : Nat} {a b c d e : Value} {t : TypeId} (h : w.heap[g]? = some (.cells #[a, b, c, d, e] t (0, 0))) (i : Nat) : w.frozen? ⟨g, i, none⟩ = false := by
  simp [World.frozen?, h]
theorem ownsRow_blk {w : World} {base : Nat} {e : TypeId} {size : Nat} {v : Value} {n : Nat} {xs : List Value} (h : w.ownsRow base e size v n xs) {k : Nat} (hk : v.ownBlock = some k) : base ≤ k ∧ k < w.heap.size := by
  rcases h.2 with ⟨rfl, _⟩ | ⟨g, cap, cur, rfl, hb, h3, _⟩
  · simp [Value.ownBlock] at hk
  · have : g = k := by simpa [Value.ownBlock] using hk
    subst this
    exact ⟨hb, (Array.getElem?_eq_some_iff.1 h3).1⟩
/-- A tally, and the blocks that its puts write (F) or read alone (D). -/
def TalFt (w : World) (B g : Nat) (F D : List Nat) (cs : List Cl) (ags : List Vr) (ps : List Pt) (m : List UInt8 → Int) (nm : Nat) (cnt : Int) : Prop :=
  ∃ (B1 gm : Nat) (sv av pv : Value) (ts : List Trd), TalIn w B B1 g gm sv av pv ts cs ags m nm cnt ∧ ts.map (·.2.2) = ps ∧ F = FW g gm ts ∧ D = FD sv av pv
theorem TalFt.below {w w' : World} {B g : Nat} {F D : List Nat} {cs : List Cl} {ags : List Vr} {ps : List Pt} {m : List UInt8 → Int} {nm : Nat} {cnt : Int} (h : TalFt w B g F D cs ags ps m nm cnt) (hb : Below w.heap.size w w') : TalFt w' B g F D cs ags ps m nm cnt := by
  obtain ⟨B1, gm, sv, av, pv, ts, h1, h2⟩ := h
  exact ⟨B1, gm, sv, av, pv, ts, h1.below hb, h2⟩
theorem TalFt.keep {w w' : World} {B g : Nat} {F D f : List Nat} {cs : List Cl} {ags : List Vr} {ps : List Pt} {m : List UInt8 → Int} {nm : Nat} {cnt : Int} (h : TalFt w B g F D cs ags ps m nm cnt) (hc : Chg f w w') (hf : ∀ k ∈ f, k ∉ F ∧ k ∉ D) : TalFt w' B g F D cs ags ps m nm cnt := by
  obtain ⟨B1, gm, sv, av, pv, ts, h1, h2, rfl, rfl⟩ := h
  exact ⟨B1, gm, sv, av, pv, ts, h1.keepF hc hf, h2, rfl, rfl⟩
theorem TalFt.inF {w : World} {B g : Nat} {F D : List Nat} {cs : List Cl} {ags : List Vr} {ps : List Pt} {m : List UInt8 → Int} {nm : Nat} {cnt : Int} (h : TalFt w B g F D cs ags ps m nm cnt) {k : Nat} (hk : k ∈ F) : B ≤ k ∧ k < w.heap.size := by
  obtain ⟨B1, gm, sv, av, pv, ts, h1, h2, rfl, rfl⟩ := h
  exact h1.ofFW hk
theorem TalFt.inD {w : World} {B g : Nat} {F D : List Nat} {cs : List Cl} {ags : List Vr} {ps : List Pt} {m : List UInt8 → Int} {nm : Nat} {cnt : Int} (h : TalFt w B g F D cs ags ps m nm cnt) {k : Nat} (hk : k ∈ D) : B ≤ k ∧ k < w.heap.size := by
  obtain ⟨B1, gm, sv, av, pv, ts, h1, h2, rfl, rfl⟩ := h
  exact h1.ofFD hk
/-- A tally, of the call's own. -/
def TalAt (w : World) (B g : Nat) (cs : List Cl) (ags : List Vr) (ps : List Pt) (m : List UInt8 → Int) (nm : Nat) (cnt : Int) : Prop :=
  ∃ (B1 gm : Nat) (sv av pv : Value) (ts : List Trd), TalIn w B B1 g gm sv av pv ts cs ags m nm cnt ∧ ts.map (·.2.2) = ps
theorem TalAt.below {w w' : World} {B g : Nat} {cs : List Cl} {ags : List Vr} {ps : List Pt} {m : List UInt8 → Int} {nm : Nat} {cnt : Int} (h : TalAt w B g cs ags ps m nm cnt) (hb : Below w.heap.size w w') : TalAt w' B g cs ags ps m nm cnt := by
  obtain ⟨B1, gm, sv, av, pv, ts, h1, h2⟩ := h
  exact ⟨B1, gm, sv, av, pv, ts, h1.below hb, h2⟩
theorem TalFt.at {w : World} {B g : Nat} {F D : List Nat} {cs : List Cl} {ags : List Vr} {ps : List Pt} {m : List UInt8 → Int} {nm : Nat} {cnt : Int} (h : TalFt w B g F D cs ags ps m nm cnt) : TalAt w B g cs ags ps m nm cnt := by
  obtain ⟨B1, gm, sv, av, pv, ts, h1, h2, _⟩ := h
  exact ⟨B1, gm, sv, av, pv, ts, h1, h2⟩
theorem TalAt.ft {w : World} {B g : Nat} {cs : List Cl} {ags : List Vr} {ps : List Pt} {m : List UInt8 → Int} {nm : Nat} {cnt : Int} (h : TalAt w B g cs ags ps m nm cnt) : ∃ F D, TalFt w B g F D cs ags ps m nm cnt := by
  obtain ⟨B1, gm, sv, av, pv, ts, h1, h2⟩ := h
  exact ⟨_, _, B1, gm, sv, av, pv, ts, h1, h2, rfl, rfl⟩
def partsOf (ags : List Vr) : List Pt := ags.map (fun a => ptOf a.k)
def NewP (w : World) (cs : List Cl) (ags : List Vr) (e : Ending) (w' : World) : Prop :=
  ((∃ c, (colsV cs ags).2 = c ∧ c ≠ 0 ∧ e = .returned (.tuple #[.pointer none, .int .i64 c])) ∨
   ((colsV cs ags).2 = 0 ∧ ∃ g, e = .returned (.tuple #[.pointer (some ⟨g, 0, none⟩), .int .i64 0]) ∧ TalAt w' w.heap.size g cs ags (partsOf ags) (fun _ => 0) 0 0)) ∧ Below w.heap.size w w'
def NwL (w w4 : World) (B1 g gm : Nat) (sv av : Value) (cs : List Cl) (ags : List Vr) (v29 : Value) (wr : World) : Prop :=
  ∃ (i : Nat) (pv : Value) (ts : List Trd), v29 = .int .i64 (i : Int) ∧ Kept (i ≤ ags.length ∧ TalIn wr w.heap.size B1 g gm sv av pv ts cs ags (fun _ => 0) 0 0 ∧ ts.map (·.2.2) = partsOf (ags.take i) ∧ Below w.heap.size w wr)
set_option maxRecDepth 100000 in
set_option maxHeartbeats 4000000 in
theorem New_any (v u : Value) (cs : List Cl) (ags : List Vr) (w : World) (H1 : HasC w w.heap.size v cs) (H2 : HasR w w.heap.size u ags) :
    Calls Tryz.prog 4 #[v, u] w (NewP w cs ags) := by
  have HH := Kept.mk H1
  have HR := Kept.mk H2
  obtain ⟨B, d, rfl, hld, hA⟩ := id H2
  have HA := Kept.mk hA
  clear H1 H2 hld hA
  have hmm := @run_makeMap Tryz.prog
  go_enter Tryz.func4, Tryz.ntmps4
  go_wp2_with fail
  go_at_call 14
  refine (tCols_any v _ cs ags w HH.out HR.out).mono ?_
  rintro e w1 ⟨v1, rfl, hO, hb1⟩
  have HB1 := Kept.mk hb1
  have h8 : (colsV cs ags).2 = 0 → cs.length ≤ 8 ∧ ags.length ≤ 8 := fun h => by
    unfold colsV at h
    split at h
    · simp at h
    · rename_i m1
      split at h
      · simp at h
      · have hm : mayC cs = true := by simpa using m1
        exact ⟨(mayC_iff.1 hm).1.2, by omega⟩
  have H8 := Kept.mk h8
  clear hO hb1 h8
  obtain ⟨c, hc⟩ : ∃ c, c = (colsV cs ags).2 := ⟨_, rfl⟩
  have HC := Kept.mk hc.symm
  rewrite [← hc]
  clear hc
  by_cases cz : c = 0
  · subst cz
    obtain ⟨h8, h9⟩ := H8.out HC.out
    have HL := Kept.mk (And.intro h8 h9)
    clear h8 h9
    go_wp2_with fail
    go_at_call 15
    refine (cloneC_any v cs _ (HH.out.to HB1.out) HL.out.1).mono ?_
    rintro e w2 ⟨sv, rfl, hO2, hb2⟩
    have HB2 := Kept.mk (HB1.out.trans (hb2.mono HB1.out.size))
    have HS2 := Kept.mk hO2.has
    have HSO : Kept (∀ k, sv.ownBlock = some k → w1.heap.size ≤ k ∧ k < w2.heap.size) := ⟨fun k hk => ownsRow_blk hO2 hk⟩
    obtain ⟨A2, c2, rfl, _, _⟩ := id HS2.out
    clear hO2 hb2
    go_wp2_with fail
    go_at_call 16
    refine (cloneA_any _ ags _ (HR.out.to HB2.out) HL.out.2).mono ?_
    rintro e w3 ⟨av, rfl, hO3, hb3⟩
    have HB3 := Kept.mk (HB2.out.trans (hb3.mono HB2.out.size))
    have HS3 := Kept.mk (HS2.out.to hb3)
    have HA3 := Kept.mk hO3.has
    have HSB : Kept ((∀ k, (Value.slice A2 cs.length c2).ownBlock = some k → w.heap.size ≤ k ∧ k < w3.heap.size) ∧ ∀ k, av.ownBlock = some k → w.heap.size ≤ k ∧ k < w3.heap.size) := ⟨by
      have q1 := HB1.out.size
      have q2 := HB2.out.size
      have q3 := hb3.size
      exact ⟨fun k hk => by have := HSO.out k hk; omega, fun k hk => by have := ownsRow_blk hO3 hk; omega⟩⟩
    clear HSO
    obtain ⟨A3, c3, rfl, _, _⟩ := id HA3.out
    clear hO3 hb3
    have hT : Kept (TalIn ((w3.alloc (.map #[] 0)).alloc (.cells #[.slice A2 cs.length c2, .slice A3 ags.length c3, .slice none 0 0, .map (some w3.heap.size), .int .i64 0] 60)) w.heap.size w3.heap.size (w3.heap.size + 1) w3.heap.size (.slice A2 cs.length c2) (.slice A3 ags.length c3) (.slice none 0 0) [] cs ags (fun _ => 0) 0 0) := ⟨by
      have hbb : Below w3.heap.size w3 ((w3.alloc (.map #[] 0)).alloc (.cells #[.slice A2 cs.length c2, .slice A3 ags.length c3, .slice none 0 0, .map (some w3.heap.size), .int .i64 0] 60)) := ((Below.refl _ _).alloc (Nat.le_refl _) _).alloc (by simp) _
      refine ⟨HB3.out.size, HSB.out.1, HSB.out.2, by omega, Nat.le_refl _, ?_, HS3.out.below hbb, HA3.out.below hbb, (MapIs.made w3).keep ?_, Own.nil _ _ _, by simp, .nil⟩
      · have h := blk_new (w3.alloc (.map #[] 0)) (.cells #[.slice A2 cs.length c2, .slice A3 ags.length c3, .slice none 0 0, .map (some w3.heap.size), .int .i64 0] 60)
        rw [World.size_alloc] at h
        exact h
      · exact ((Below.refl _ (w3.alloc (.map #[] 0))).alloc (Nat.le_refl _) _).block _ (by rw [World.size_alloc]; omega)⟩
    have HBT : Kept (Below w.heap.size w ((w3.alloc (.map #[] 0)).alloc (.cells #[.slice A2 cs.length c2, .slice A3 ags.length c3, .slice none 0 0, .map (some w3.heap.size), .int .i64 0] 60))) := ⟨(HB3.out.alloc HB3.out.size _).alloc (by have := HB3.out.size; simp; omega) _⟩
    go_wp2_with fail
    obtain ⟨g, hg⟩ : ∃ g, g = (w3.alloc (.map #[] 0)).heap.size := ⟨_, rfl⟩
    have hg2 : g = w3.heap.size + 1 := by rw [hg, World.size_alloc]
    rw [← hg2] at hT
    rewrite [← hg2]
    generalize (w3.alloc (.map #[] 0)).alloc (.cells #[.slice A2 cs.length c2, .slice A3 ags.length c3, .slice none 0 0, .map (some w3.heap.size), .int .i64 0] 60) = w4 at hT HBT ⊢
    generalize w3.heap.size = gm at hT ⊢
    have HT := hT
    clear hT hg hg2 hmm HSB HS3 HA3 HB3 HS2 HB2 HB1
    go_loopw [29] (fun v29 wr => NwL w w4 gm g gm (.slice A2 cs.length c2) (.slice A3 ags.length c3) cs ags v29 wr) (fun v29 wr => ags.length - (intOf v29).toNat)
    case atStart => exact ⟨0, _, _, rfl, ⟨Nat.zero_le _, HT.out, rfl, HBT.out⟩⟩
    case round =>
      obtain ⟨i, pv, ts, rfl, HI⟩ := hrel
      clear HT
      by_cases ci : i < ags.length
      · have hne : ags ≠ [] := by rintro rfl; simp at ci
        obtain ⟨b, off, rfl, hb, hcl⟩ := HA.out hne
        obtain ⟨e0, e1, e2⟩ := hcl i ci
        have hk := HI.out.2.2.2.block b hb
        have e0' : wr.cell? ⟨b, off + i * 3, none⟩ = some (.int .i64 (ags[i]).k) := (World.cell?_of_block hk).trans e0
        have e1' : wr.cell? ⟨b, off + i * 3 + 1, none⟩ = some (.int .i64 (ags[i]).n) := (World.cell?_of_block hk).trans e1
        have e2' : wr.cell? ⟨b, off + i * 3 + 2, none⟩ = some (.string (ags[i]).s) := (World.cell?_of_block hk).trans e2
        have ci' : (i : Int) < (ags.length : Int) := by omega
        have f0 : 0 ≤ (i : Int) := by omega
        have hw : wrap64 ((i : Int) + 1) = (i : Int) + 1 := by have := HL.out.2; simp only [wrap64]; omega
        have HCI := Kept.mk ci
        have HTK : Kept (partsOf (ags.take (i + 1)) = partsOf (ags.take i) ++ [ptOf (ags[i]).k]) := ⟨by
          unfold partsOf
          rw [List.take_succ_eq_append_getElem ci, List.map_append]
          rfl⟩
        generalize ags[i] = ag at e0' e1' e2' HTK
        obtain ⟨k, n, s⟩ := ag
        dsimp only at e0' e1' e2'
        clear hcl hne ci e0 e1 e2 hk
        have bk := box5 HI.out.2.1.box
        have hgl := HI.out.2.1.lt
        have HLEN : Kept (ts.length = i) := ⟨by
          have h := congrArg List.length HI.out.2.2.1
          have := HCI.out
          simp only [List.length_map, partsOf, List.length_take] at h
          omega⟩
        go_upto_region 8 with fail
        obtain ⟨N, hN⟩ : ∃ N, N = wr.heap.size := ⟨_, rfl⟩
        obtain ⟨W, hW⟩ : ∃ W, W = wr.alloc (.cells #[.int .i64 k, .int .i64 n, .string s] 56) := ⟨_, rfl⟩
        have k0 : W.cell? ⟨N, 0, none⟩ = some (.int .i64 k) := by rw [hW, hN]; simp [go_sem]
        have k2 : W.cell? ⟨g, 2, none⟩ = some pv := by rw [hW, World.cell?_alloc_lt _ _ _ hgl]; exact bk.2.2.1
        have hNW : N < W.heap.size := by rw [hW, hN, World.size_alloc]; omega
        have hgW : g < W.heap.size := by rw [hW, World.size_alloc]; omega
        have hbW : Below wr.heap.size wr W := by rw [hW]; exact (Below.refl _ _).alloc (Nat.le_refl _) _
        have HTW := Kept.mk (HI.out.2.1.below hbW)
        have HBW := Kept.mk (HI.out.2.2.2.trans (hbW.mono HI.out.2.2.2.size))
        have HIT := Kept.mk HI.out.2.2.1
        rewrite [← hW]
        rewrite [← hN]
        clear hW hN bk hgl e0' e1' e2' hbW HI
        go_region_law (first
          | (go_simp; go_at_call 17; refine (begin_any k _).mono ?_; rintro e w5 ⟨_, rfl, ⟨⟨f5, hp5, hf5⟩, t5, p5, rfl⟩, hb5⟩; obtain ⟨r5, d5, rfl⟩ := xw_of hb5; have HF : Kept (PartAt (xw W r5 d5) f5 (.iface t5 p5) (ptOf k) ∧ ∀ x ∈ f5, W.heap.size ≤ x) := ⟨hp5, fun x hx => (hf5 x hx).1⟩; clear hb5 hp5 hf5)
          | (refine step_rowG (B := gm) (W := _) rfl (.tmp 37) (.tmp 41) 58 62 .nilIface 16 rfl Tryz.underlying58 infoP rfl (by decide) pv (ts.map (·.1)) [.iface t5 p5] _ 1 rfl rfl (by intro y hy; simp at hy; subst hy; rfl) (one_at ?c1) ?c3 ?c4 ?c5 ?_; (case c1 => simp [go_sem, *]); (case c3 => exact (HTW.out.below (by (repeat' (first | (with_reducible exact Below.refl _ _) | (with_reducible assumption) | (with_reducible refine below_xw ?_ ?_ _ _) | (with_reducible refine below_drewN ?_ _) | (with_reducible refine Below.drew ?_) | (with_reducible refine Below.setCell ?_ ?_ _) | (with_reducible refine Below.alloc ?_ ?_ _) | (simp [xw_size]; done) | (simp [xw_size]; omega) | (dsimp only; omega))))).row); (case c4 => have := HTW.out.gB; have := HTW.out.lt; simp [xw_size]; omega); (case c5 => have := HLEN.out; have := HCI.out; have := HL.out.2; simp; omega); intro v6 w6 hO6 hg6; obtain ⟨A6, c6, rfl⟩ := hO6.slice; have hbx6 : w6.heap[g]? = some (.cells #[.slice A2 cs.length c2, .slice A3 ags.length c3, pv, .map (some gm), .int .i64 0] 60 (0, 0)) := (hg6.block g (by simp [xw_size]; omega) (fun e => (HTW.out.row_ne e.symm).2.1 rfl)).trans ((HTW.out.below (by (repeat' (first | (with_reducible exact Below.refl _ _) | (with_reducible assumption) | (with_reducible refine below_xw ?_ ?_ _ _) | (with_reducible refine below_drewN ?_ _) | (with_reducible refine Below.drew ?_) | (with_reducible refine Below.setCell ?_ ?_ _) | (with_reducible refine Below.alloc ?_ ?_ _) | (simp [xw_size]; done) | (simp [xw_size]; omega) | (dsimp only; omega))))).box); have m2 := (box5 hbx6).2.2.1; have m3 := box5f hbx6 2; have HFIN := Kept.mk (HTW.out.push (by (repeat' (first | (with_reducible exact Below.refl _ _) | (with_reducible assumption) | (with_reducible refine below_xw ?_ ?_ _ _) | (with_reducible refine below_drewN ?_ _) | (with_reducible refine Below.drew ?_) | (with_reducible refine Below.setCell ?_ ?_ _) | (with_reducible refine Below.alloc ?_ ?_ _) | (simp [xw_size]; done) | (simp [xw_size]; omega) | (dsimp only; omega)))) (HF.out.1.below ((Below.refl _ _).alloc (Nat.le_refl _) _)) HF.out.2 hg6 hO6); have HBF : Kept (Below w.heap.size w w6) := ⟨Below.grown ((below_xw HBW.out HBW.out.size r5 d5).alloc (by rw [xw_size]; have := HBW.out.size; omega) _) hg6 (by rw [World.size_alloc, xw_size]; have := HBW.out.size; omega) (fun k hk => by have h1 := HTW.out.row.base k hk; have h2 := HTW.out.base; omega)⟩; clear hO6 hg6 hbx6))
        all_goals go_wp2_with fail
        all_goals
          refine ⟨⟨i + 1, .slice A6 (ts.length + 1) c6, ts ++ [(.iface t5 p5, f5, ptOf k)], by first | rfl | (rw [hw]; rfl), ⟨HCI.out, ?_, ?_, HBF.out.setCell (p := ⟨g, 2, none⟩) (by have h1 := HTW.out.gB; have h2 := HTW.out.base; simp only; omega) _⟩⟩, by first | exact less_step hw HCI.out | exact less_bare' HCI.out⟩
          · have h := HFIN.out
            rw [show (List.map (fun x : Trd => x.1) ts ++ [Value.iface t5 p5]).length = ts.length + 1 by simp] at h
            exact h
          · rw [List.map_append, HIT.out, HTK.out]
            rfl
      · have hi : i = ags.length := by have := HI.out.1; omega
        have ci' : ¬ ((i : Int) < (ags.length : Int)) := by omega
        have hpt := HI.out.2.2.1
        rw [hi, List.take_length] at hpt
        have HPT := Kept.mk hpt
        clear ci hi hpt
        go_wp2_with fail
        go_returns
        exact ⟨.inr ⟨HC.out, g, rfl, _, _, _, _, _, _, HI.out.2.1, HPT.out⟩, HI.out.2.2.2⟩
  · have dz : (c != 0) = true := by simp [cz]
    have HZ := Kept.mk cz
    clear cz
    go_wp2_with fail
    go_returns
    exact ⟨.inl ⟨c, HC.out, HZ.out, rfl⟩, HB1.out⟩
end Go.Proofs.YtnidaahimofppaaGreat
