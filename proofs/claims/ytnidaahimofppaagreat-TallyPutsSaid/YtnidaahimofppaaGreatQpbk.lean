/- Layer 26 (tally): the reference's Put, walked. -/
import Derived.Test.YtnidaahimofppaaGreatQpbi
namespace Go.Proofs.YtnidaahimofppaaGreat
open Go.RowKit
set_option linter.unusedVariables false
set_option linter.unusedSimpArgs false

theorem HasP.up {w : World} {B B' : Nat} {v : Value} {xs : List Pv} (h : HasP w B v xs) (hB : B ≤ B') : HasP w B' v xs := by
  obtain ⟨A, c, hv, hlc, hp, hc⟩ := h
  refine ⟨A, c, hv, hlc, fun p hp2 => ⟨(hp p hp2).1.up hB, (hp p hp2).2⟩, fun hn => ?_⟩
  obtain ⟨b, off, hA, hlt, hcell⟩ := hc hn
  exact ⟨b, off, hA, by omega, hcell⟩
theorem HasP.to {w w' : World} {v : Value} {xs : List Pv} (h : HasP w w.heap.size v xs) (hb : Below w.heap.size w w') : HasP w' w'.heap.size v xs := (h.below hb).up hb.size
/-- What is there is old or new. -/
def NewK (w : World) (v : Value) (Ks : List Pv) (v' : Value) (Ks' : List Pv) : Prop := ((v' = v ∧ Ks' = Ks) ∨ ∀ k, v'.ownBlock = some k → w.heap.size ≤ k) ∧ ∀ p ∈ Ks', p ∈ Ks ∨ ∀ k, p.v.ownBlock = some k → w.heap.size ≤ k
theorem has_le {cs : List Cl} {L : Cps} (h : GoodC cs L) (r : List Vr) : hasC L r 0 ≤ cntC L := by
  rw [has_sum h]
  refine sumC_mono h _ _ (fun q => ?_)
  unfold isR
  split <;> omega
theorem hasC_snoc (L : Cps) (c : List Vr × Int) (r : List Vr) : hasC (L ++ [c]) r 0 = if sameR c.1 r = true then c.2 else hasC L r 0 := by
  rw [hasC_app]
  rfl
def keepK (r : List Vr) (p : Pv) : Bool := !sameR p.r r
theorem cut_filter (Ks : List Pv) (r : List Vr) : toC (Ks.filter (keepK r)) = cutC (toC Ks) r := by
  unfold toC cutC
  rw [List.filter_map]
  rfl
def RpI (Ks : List Pv) (r : List Vr) (w : World) (v10 v11 v12 : Value) (wr : World) : Prop :=
  ∃ (i : Nat) (rr : Array Obj) (d : Nat), v10 = .int .i64 (hasC (toC (Ks.take i)) r 0) ∧ v12 = .int .i64 (i : Int) ∧ wr = xw w rr d ∧ Kept (OwnK wr w.heap.size v11 ((Ks.take i).filter (keepK r))) ∧ Kept (i ≤ Ks.length)
def RpP (w : World) (cs : List Cl) (v : Value) (Ks : List Pv) (r : List Vr) (n : Int) (e : Ending) (w' : World) : Prop :=
  ∃ v' Ks', e = .returned (.tuple #[v', .int .i64 (errC cs (toC Ks) r n)]) ∧ HasP w' w'.heap.size v' Ks' ∧ toC Ks' = putC cs (toC Ks) r n ∧ NewK w v Ks v' Ks' ∧ Below w.heap.size w w'
theorem RpP.err {w w' : World} {cs : List Cl} {v : Value} {Ks : List Pv} {r : List Vr} {n c : Int} (hc : errC cs (toC Ks) r n = c) (h0 : c ≠ 0) (H : HasP w w.heap.size v Ks) (hb : Below w.heap.size w w') : RpP w cs v Ks r n (.returned (.tuple #[v, .int .i64 c])) w' :=
  ⟨v, Ks, by rw [hc], H.to hb, by unfold putC; rw [if_neg (by rw [hc]; exact h0)], ⟨.inl ⟨rfl, rfl⟩, fun p hp => .inl hp⟩, hb⟩
set_option maxRecDepth 100000 in
set_option maxHeartbeats 4000000 in
theorem rPut_any (sv v rv : Value) (cs : List Cl) (Ks : List Pv) (r : List Vr) (n : Int) (w : World) (H1 : HasC w w.heap.size sv cs) (H2 : HasP w w.heap.size v Ks) (H3 : HasR w w.heap.size rv r) (hr : RngR r) (hg : GoodC cs (toC Ks)) (hful : cntC (toC Ks) ≤ 1048576) (hn : -9223372036854775808 ≤ n ∧ n ≤ 9223372036854775807) :
    Calls Tryz.prog 8 #[sv, v, rv, .int .i64 n] w (RpP w cs v Ks r n) := by
  have HS := Kept.mk H1
  have HP := Kept.mk H2
  have HR := Kept.mk H3
  have HRR := Kept.mk hr
  have HG := Kept.mk hg
  have HK : Kept (KsOk Ks) := ⟨⟨hg.pos, hful⟩⟩
  have HF := Kept.mk hful
  have HN := Kept.mk hn
  obtain ⟨A, c, rfl, _, hpo, hA⟩ := id H2
  obtain ⟨Ar, cr, rfl, _, _⟩ := id H3
  have HA := Kept.mk (And.intro hpo hA)
  clear H1 H2 H3 hr hg hful hpo hA
  cases hfit : fitsC cs r with
  | false =>
    have HE : Kept (errC cs (toC Ks) r n = 17) := ⟨if_pos hfit⟩
    have HFT := Kept.mk hfit
    clear hfit
    go_enter Tryz.func8, Tryz.ntmps8
    go_wp2_with (first | (go_at_call 23; refine (rcFits_any sv _ cs r w HS.out HR.out).mono ?_; rintro e w1 ⟨rfl, hb1⟩; rewrite [HFT.out]; have HB := Kept.mk hb1; clear hb1))
    go_returns
    exact RpP.err HE.out (by decide) HP.out HB.out
  | true =>
    have HFT := Kept.mk hfit
    have h8 : r.length ≤ 8 := by have := fits_len hfit; omega
    have H8 := Kept.mk h8
    clear hfit h8
    by_cases c2 : 1048576 < n ∨ n < -1048576
    · have HE : Kept (errC cs (toC Ks) r n = 2) := ⟨by unfold errC; rw [if_neg (by rw [HFT.out]; decide), if_pos c2]⟩
      by_cases c3 : 1048576 < n
      · clear c2
        go_enter Tryz.func8, Tryz.ntmps8
        go_wp2_with (first | (go_at_call 23; refine (rcFits_any sv _ cs r w HS.out HR.out).mono ?_; rintro e w1 ⟨rfl, hb1⟩; rewrite [HFT.out]; have HB := Kept.mk hb1; clear hb1))
        go_returns
        exact RpP.err HE.out (by decide) HP.out HB.out
      · have c4 : n < -1048576 := by omega
        clear c2
        go_enter Tryz.func8, Tryz.ntmps8
        go_wp2_with (first | (go_at_call 23; refine (rcFits_any sv _ cs r w HS.out HR.out).mono ?_; rintro e w1 ⟨rfl, hb1⟩; rewrite [HFT.out]; have HB := Kept.mk hb1; clear hb1))
        go_returns
        exact RpP.err HE.out (by decide) HP.out HB.out
    · have c3 : ¬ 1048576 < n := by omega
      have c4 : ¬ n < -1048576 := by omega
      have HC2 := Kept.mk c2
      clear c2
      go_enter Tryz.func8, Tryz.ntmps8
      go_wp2_with (first | (go_at_call 23; refine (rcFits_any sv _ cs r w HS.out HR.out).mono ?_; rintro e w1 ⟨rfl, hb1⟩; rewrite [HFT.out]; obtain ⟨r1, d1, rfl⟩ := xw_of hb1; clear hb1))
      have hO0 : OwnK ((xw w r1 d1).alloc (.cells #[] 72)) w.heap.size (.slice (some ⟨(xw w r1 d1).heap.size, 0, none⟩) 0 0) [] := OwnK.lit _ _ [] (by rw [xw_size]; omega) (by simp)
      have hbo : Below w.heap.size w ((xw w r1 d1).alloc (.cells #[] 72)) := (xw_below w r1 d1).alloc (by rw [xw_size]; omega) _
      have HO0 := Kept.mk hO0
      have HBO := Kept.mk hbo
      clear hO0 hbo
      generalize (xw w r1 d1).alloc (.cells #[] 72) = w3 at HO0 HBO ⊢
      obtain ⟨r2, d2, rfl⟩ := xw_of HBO.out
      generalize (Value.slice (some ⟨(xw w r1 d1).heap.size, 0, none⟩) 0 0) = vo at HO0 ⊢
      clear HBO
      go_wp2_with fail
      go_loopw [10, 11, 12] (fun v10 v11 v12 wr => RpI Ks r w v10 v11 v12 wr) (fun v10 v11 v12 wr => Ks.length - (intOf v12).toNat)
      case atStart => exact ⟨0, r2, d2, rfl, rfl, rfl, HO0, ⟨Nat.zero_le _⟩⟩
      case round =>
        obtain ⟨i, rr, d, rfl, rfl, rfl, HO2, HI⟩ := hrel
        clear HO0
        have HO := HO2
        clear HO2
        by_cases ci : i < Ks.length
        · have hne : Ks ≠ [] := by rintro rfl; simp at ci
          obtain ⟨b, off, rfl, hb, hc⟩ := HA.out.2 hne
          obtain ⟨e0, e1⟩ := hc i ci
          have hpk := HA.out.1 _ (List.getElem_mem ci)
          have hfk := HG.out.fit (Ks[i].r, Ks[i].n) (List.mem_map.2 ⟨Ks[i], List.getElem_mem ci, rfl⟩)
          have hlk : (Ks[i]).r.length ≤ 8 := by obtain ⟨h1, h2, h3, _⟩ := fits_len hfk; simp only at h1; omega
          have hl := HK.out.len
          have ci' : (i : Int) < (Ks.length : Int) := by omega
          have f0 : 0 ≤ (i : Int) := by omega
          have hw : wrap64 ((i : Int) + 1) = (i : Int) + 1 := by simp only [wrap64]; omega
          have HTK : Kept (hasC (toC (Ks.take (i + 1))) r 0 = (if sameR (Ks[i]).r r = true then (Ks[i]).n else hasC (toC (Ks.take i)) r 0)) := ⟨by rw [toC_take Ks i ci, hasC_snoc]⟩
          have HFK : Kept ((Ks.take (i + 1)).filter (keepK r) = (Ks.take i).filter (keepK r) ++ (if sameR (Ks[i]).r r = true then [] else [Ks[i]])) := ⟨by
            rw [List.take_succ_eq_append_getElem ci, List.filter_append, List.filter_cons, List.filter_nil]
            congr 1
            unfold keepK
            cases sameR (Ks[i]).r r <;> rfl⟩
          have HCI := Kept.mk ci
          have HLF : Kept (((Ks.take i).filter (keepK r)).length ≤ 2000000) := ⟨by
            have h1 := List.length_filter_le (keepK r) (Ks.take i)
            have h2 : (Ks.take i).length ≤ Ks.length := by simp; omega
            omega⟩
          generalize hq : Ks[i] = q at e0 e1 hpk hlk HTK HFK
          clear hq
          obtain ⟨kv, kr, kn⟩ := q
          obtain ⟨Ak, ck, hkv, _⟩ := id hpk.1
          dsimp only at hkv
          subst hkv
          have HPK := Kept.mk hpk
          have HLK := Kept.mk hlk
          dsimp only at e0 e1 HTK HFK HLK
          clear hfk hlk hl hne hc hpk ci
          generalize (Ks.take i).filter (keepK r) = out at HO HLF HFK
          generalize hasC (toC (Ks.take i)) r 0 = h0 at HTK
          by_cases hs : sameR kr r = true
          · have HSM := Kept.mk hs
            have ht := HTK.out
            rw [if_pos hs] at ht
            have hf := HFK.out
            rw [if_pos hs, List.append_nil] at hf
            have HT := Kept.mk (And.intro ht hf)
            clear hs ht hf HTK HFK
            go_wp2_with (first | (go_at_call 13; refine (rSame_any _ _ kr r _ (HPK.out.1.to (xw_below _ _ _)) (HR.out.to (xw_below _ _ _)) (by have := HLK.out; omega)).mono ?_; rintro e w5 ⟨rfl, hb5⟩; rewrite [HSM.out]; have HO3 := Kept.mk (OwnK.below HO.out hb5); obtain ⟨r5, d5, rfl⟩ := xw_of hb5; rw [xw_xw] at HO3; clear hb5))
            exact ⟨⟨i + 1, _, _, by rw [HT.out.1], by first | rfl | (rw [hw]; rfl), rfl, by rw [HT.out.2]; exact HO3, ⟨HCI.out⟩⟩, by first | exact less_step hw HCI.out | (have := HCI.out; simp only [intOf]; omega)⟩
          · have hs2 : sameR kr r = false := by simpa using hs
            have HSM := Kept.mk hs2
            have ht := HTK.out
            rw [if_neg hs] at ht
            have hf := HFK.out
            rw [if_neg hs] at hf
            have HT := Kept.mk (And.intro ht hf)
            clear hs hs2 ht hf HTK HFK
            go_wp2_with (first
              | (go_at_call 13; refine (rSame_any _ _ kr r _ (HPK.out.1.to (xw_below _ _ _)) (HR.out.to (xw_below _ _ _)) (by have := HLK.out; omega)).mono ?_; rintro e w5 ⟨rfl, hb5⟩; rewrite [HSM.out]; have HO3 := Kept.mk (OwnK.below HO.out hb5); obtain ⟨r5, d5, rfl⟩ := xw_of hb5; rw [xw_xw] at HO3; clear hb5)
              | ((at_builtin); refine app_cp (w0 := w) (W := _) rfl (.tmp 44) (.tmp 49) 33 rfl Tryz.underlying33 _ out Ak kr.length ck kr kn rfl rfl HO3.out (xw_below _ _ _) HLF.out ?_; intro v1 r3 d3 hO _; have HO1 := Kept.mk hO; clear hO))
            exact ⟨⟨i + 1, _, _, by rw [HT.out.1], by first | rfl | (rw [hw]; rfl), rfl, by rw [HT.out.2]; exact HO1, ⟨HCI.out⟩⟩, by first | exact less_step hw HCI.out | (have := HCI.out; simp only [intOf]; omega)⟩
        · have hi : i = Ks.length := by have := HI.out; omega
          subst hi
          have ci' : ¬ ((Ks.length : Int) < (Ks.length : Int)) := by omega
          have htk : Ks.take Ks.length = Ks := List.take_length
          rw [htk] at HO ⊢
          have h1 := has_nonneg HG.out r
          have h2 := has_le HG.out r
          have h3 := HF.out
          have hcn := (part_cnt HK.out.pos 0).1
          have hfull := HK.out
          have hc0 : 0 ≤ cntC (toC Ks) := by have := part_cnt HK.out.pos (toC Ks).length; rw [List.take_length] at this; exact this.1
          obtain ⟨x, hx⟩ : ∃ x, x = hasC (toC Ks) r 0 := ⟨_, rfl⟩
          obtain ⟨y, hy⟩ : ∃ y, y = cntC (toC Ks) := ⟨_, rfl⟩
          rw [← hx] at h1 h2 ⊢
          rw [← hy] at h2 h3 hc0
          have HX := Kept.mk (And.intro hx hy)
          have hw : wrap64 (x + n) = x + n := by have := HC2.out; simp only [wrap64]; omega
          have hwy : wrap64 (y + n) = y + n := by have := HC2.out; simp only [wrap64]; omega
          have HXB := Kept.mk (And.intro h1 (And.intro h2 h3))
          have HOL : Kept (((Ks.filter (keepK r))).length ≤ 2000000) := ⟨by
            have h1 := List.length_filter_le (keepK r) Ks
            have h2 := HK.out.len
            omega⟩
          have HOF : Kept (∀ p ∈ Ks.filter (keepK r), p ∈ Ks) := ⟨fun p hp => (List.mem_filter.1 hp).1⟩
          have HCF : Kept (toC (Ks.filter (keepK r)) = cutC (toC Ks) r) := ⟨cut_filter Ks r⟩
          clear ci htk hcn hfull hc0 hx hy h1 h2 h3
          generalize Ks.filter (keepK r) = out at HO HOL HOF HCF
          by_cases k1 : x + n < 0
          · have HE : Kept (errC cs (toC Ks) r n = 20) := ⟨by unfold errC; rw [if_neg (by rw [HFT.out]; decide), if_neg HC2.out, if_pos (by rw [← HX.out.1]; exact k1)]⟩
            go_wp2_with fail
            go_returns
            exact RpP.err HE.out (by decide) HP.out (xw_below _ _ _)
          by_cases k2 : 1048576 < y + n
          · have HE : Kept (errC cs (toC Ks) r n = 7) := ⟨by unfold errC; rw [if_neg (by rw [HFT.out]; decide), if_neg HC2.out, if_neg (by rw [← HX.out.1]; exact k1), if_pos (by rw [← HX.out.2]; exact k2)]⟩
            go_wp2_with (first | (go_at_call 10; refine (rCount_any _ Ks _ (HP.out.to (xw_below _ _ _)) HK.out).mono ?_; rintro e w5 ⟨rfl, hb5⟩; rewrite [← HX.out.2]; obtain ⟨r5, d5, rfl⟩ := xw_of hb5; clear hb5))
            go_returns
            exact RpP.err HE.out (by decide) HP.out (by (repeat' (first | (with_reducible exact Below.refl _ _) | (with_reducible assumption) | (with_reducible refine below_xw ?_ ?_ _ _) | (with_reducible refine below_drewN ?_ _) | (with_reducible refine Below.drew ?_) | (with_reducible refine Below.setCell ?_ ?_ _) | (with_reducible refine Below.alloc ?_ ?_ _) | (simp [xw_size]; done) | (simp [xw_size]; omega) | (dsimp only; omega))))
          have HE : Kept (errC cs (toC Ks) r n = 0) := ⟨by unfold errC; rw [if_neg (by rw [HFT.out]; decide), if_neg HC2.out, if_neg (by rw [← HX.out.1]; exact k1), if_neg (by rw [← HX.out.2]; exact k2)]⟩
          by_cases k3 : 0 < x + n
          · have HPC : Kept (putC cs (toC Ks) r n = cutC (toC Ks) r ++ [(r, x + n)]) := ⟨by unfold putC; rw [if_pos HE.out]; unfold addC; rw [← HX.out.1, if_pos k3]⟩
            go_wp2_with (first
              | (go_at_call 10; refine (rCount_any _ Ks _ (HP.out.to (xw_below _ _ _)) HK.out).mono ?_; rintro e w5 ⟨rfl, hb5⟩; rewrite [← HX.out.2]; have HO3 := Kept.mk (OwnK.below HO.out hb5); obtain ⟨r5, d5, rfl⟩ := xw_of hb5; rw [xw_xw] at HO3; clear hb5)
              | ((at_builtin); refine app_vals (w0 := xw w (rr ++ r5) d5) (W := _) rfl (.tmp 67) (.tmp 68) 36 rfl Tryz.underlying36 _ [] r Ar cr rfl rfl ?c1 ?c2 ?c3 ?c4 ?_; (case c1 => exact (HR.out.below (by (repeat' (first | (with_reducible exact Below.refl _ _) | (with_reducible assumption) | (with_reducible refine below_xw ?_ ?_ _ _) | (with_reducible refine below_drewN ?_ _) | (with_reducible refine Below.drew ?_) | (with_reducible refine Below.setCell ?_ ?_ _) | (with_reducible refine Below.alloc ?_ ?_ _) | (simp [xw_size]; done) | (simp [xw_size]; omega) | (dsimp only; omega))))).read); (case c2 => exact OwnR.lit _ _ [] (Nat.le_refl _) (by simp)); (case c3 => exact (Below.refl _ _).alloc (Nat.le_refl _) _); (case c4 => have := H8.out; simp only [List.length_nil]; omega); intro v3 r3 d3 hO3; rewrite [List.nil_append] at hO3; have hO4 := OwnK.below HO3.out (xw_below (xw w (rr ++ r5) d5) r3 d3); obtain ⟨A3, c3', rfl, _, _⟩ := id hO3.has; have hbx : Below w.heap.size w (xw (xw w (rr ++ r5) d5) r3 d3) := below_xw (xw_below _ _ _) (xw_below _ _ _).size r3 d3; have hsx : w.heap.size ≤ (xw w (rr ++ r5) d5).heap.size := (xw_below _ _ _).size; obtain ⟨r6, d6, hxw⟩ := xw_of hbx; rewrite [hxw] at hO3 hO4; rewrite [hxw]; have HV3 := Kept.mk (And.intro hO3 hsx); have HO4 := Kept.mk hO4; clear hO3 hO4 hbx hsx hxw)
              | ((at_builtin); refine app_cp (w0 := w) (W := xw w r6 d6) rfl (.tmp 66) (.tmp 74) 33 rfl Tryz.underlying33 _ out A3 r.length c3' r (x + n) rfl rfl HO4.out (xw_below _ _ _) HOL.out ?_; intro v7 r7 d7 hO7 hg7; have HO7 := Kept.mk hO7; have HG7 := Kept.mk hg7; clear hO7 hg7))
            go_returns
            have hb7 : Below w.heap.size w (xw w r7 d7) := xw_below _ _ _
            have hg := HG7.out
            have hc7 : Chg u11.ownBlock.toList ((xw w r6 d6).alloc (.cells #[.slice A3 r.length c3', .int .i64 (x + n)] 72)) (xw w r7 d7) := ⟨hg.os, hg.tape, hg.output, hg.size, fun k h1 h2 => hg.block k h1 (fun e => h2 (Option.mem_toList.2 (show u11.ownBlock = some k from e.symm)))⟩
            have hrow : HasR (xw w r7 d7) (xw w r7 d7).heap.size (.slice A3 r.length c3') r := by
              have q := (HV3.out.1.has.below ((Below.refl _ _).alloc (Nat.le_refl _) (.cells #[.slice A3 r.length c3', .int .i64 (x + n)] 72))).chg hc7 (by rw [World.size_alloc]; omega) (fun k hk e => by
                have h1 := ownsRow_blk HV3.out.1 hk
                have h2 := ownsRow_blk HO3.out (k := k) (by simpa using e)
                omega)
              exact q.up (Nat.le_trans (by rw [World.size_alloc]; omega) hc7.size)
            have hxn : -9223372036854775808 ≤ x + n ∧ x + n ≤ 9223372036854775807 := by have := HXB.out; have := HC2.out; omega
            refine ⟨v7, out ++ [⟨.slice A3 r.length c3', r, x + n⟩], by rw [HE.out]; rfl, HO7.out.hasP (fun p hp => ?_), by rw [HPC.out, toC_app, HCF.out]; rfl, ⟨.inr fun k hk => HO7.out.base k hk, fun p hp => ?_⟩, hb7⟩
            · rcases List.mem_append.1 hp with hp | hp
              · exact ⟨((HA.out.1 p (HOF.out p hp)).1.below hb7).up hb7.size, (HA.out.1 p (HOF.out p hp)).2⟩
              · simp at hp
                subst hp
                exact ⟨hrow, HRR.out, hxn⟩
            · rcases List.mem_append.1 hp with hp | hp
              · exact .inl (HOF.out p hp)
              · simp at hp
                subst hp
                exact .inr fun k hk => by
                  have h1 := (ownsRow_blk HV3.out.1 hk).1
                  have h2 := HV3.out.2
                  omega
          · have HPC : Kept (putC cs (toC Ks) r n = cutC (toC Ks) r) := ⟨by unfold putC; rw [if_pos HE.out]; unfold addC; rw [← HX.out.1, if_neg k3]⟩
            go_wp2_with (first
              | (go_at_call 10; refine (rCount_any _ Ks _ (HP.out.to (xw_below _ _ _)) HK.out).mono ?_; rintro e w5 ⟨rfl, hb5⟩; rewrite [← HX.out.2]; have HO3 := Kept.mk (OwnK.below HO.out hb5); obtain ⟨r5, d5, rfl⟩ := xw_of hb5; rw [xw_xw] at HO3; clear hb5))
            go_returns
            refine ⟨_, out, by rw [HE.out]; rfl, HO3.out.hasP (fun p hp => ⟨((HA.out.1 p (HOF.out p hp)).1.below (xw_below _ _ _)).up (xw_below _ _ _).size, (HA.out.1 p (HOF.out p hp)).2⟩), by rw [HPC.out, HCF.out], ⟨.inr fun k hk => HO3.out.base k hk, fun p hp => .inl (HOF.out p hp)⟩, xw_below _ _ _⟩
end Go.Proofs.YtnidaahimofppaaGreat
