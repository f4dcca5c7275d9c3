/- Layer 26 (tally): the reference's Row, walked. -/
import Derived.Test.YtnidaahimofppaaGreatQpbr
import Derived.Test.YtnidaahimofppaaGreatQpbs
import Derived.Test.YtnidaahimofppaaGreatQpbt
import Derived.Test.YtnidaahimofppaaGreatQpbu
namespace Go.Proofs.YtnidaahimofppaaGreat
open Go.RowKit
set_option linter.unusedVariables false
set_option linter.unusedSimpArgs false

theorem rOne_any (a : Vr) (v : Value) (Ks : List Pv) (start : Int) (p : Pt) (cs : List Cl) (w : World) (H : HasP w w.heap.size v Ks) (hne : Ks ≠ []) (hk : KsOk Ks) (hg : GoodC cs (toC Ks)) (hpv : ∀ q ∈ Ks, RngR q.r) (hc : 0 ≤ a.n ∧ a.n < cs.length) (hpt : ptIs a (toC Ks) p) :
    Calls Tryz.prog 24 #[va a.k a.n a.s, v, .int .i64 start] w (OneR w start p) := by
  obtain ⟨k, n, s⟩ := a
  have hfit : ∀ q ∈ Ks, fitsC cs q.r = true := fun q hq => hg.fit (q.r, q.n) (List.mem_map.2 ⟨q, hq, rfl⟩)
  have hco : ColOk Ks n := ⟨hk, hpv, fun q hq => ⟨hc.1, by rw [(fits_len (hfit q hq)).1]; exact hc.2⟩⟩
  cases p with
  | cnt c =>
    obtain ⟨rfl, rfl⟩ := hpt
    exact one_cnt n s v Ks start w H hk
  | tot T =>
    obtain ⟨rfl, rfl⟩ := hpt
    exact one_tot n s v Ks start w H hco
  | ext last es =>
    obtain ⟨hkl, hge, hce, ho⟩ := hpt
    obtain ⟨p0, K0, rfl⟩ : ∃ p0 K0, Ks = p0 :: K0 := by
      cases Ks with
      | nil => exact absurd rfl hne
      | cons p0 K0 => exact ⟨p0, K0, rfl⟩
    have hok : ∀ x ∈ toC (p0 :: K0), okV (valAt x.1 n) := fun x hx => by
      obtain ⟨q, hq, rfl⟩ := toC_mem hx
      exact valAt_ok (hfit q hq) (hpv q hq) hc.1 hc.2
    rcases hkl with ⟨rfl, rfl⟩ | ⟨rfl, rfl⟩
    · exact one_ext3 n s v p0 K0 start w H hco es (best_ext hk.pos hge ho hok (d := (p0.r, p0.n)) (M := toC K0) rfl false)
    · exact one_ext4 n s v p0 K0 start w H hco es (best_ext hk.pos hge ho hok (d := (p0.r, p0.n)) (M := toC K0) rfl true)
  | sid north z =>
    obtain ⟨hkl, h1, h2⟩ := hpt
    obtain rfl : z = (sumC (toC Ks) (eaF n), sumC (toC Ks) (noF n)) := Prod.ext h1 h2
    rcases hkl with ⟨rfl, rfl⟩ | ⟨rfl, rfl⟩
    · exact one_sid5 n s v Ks start w H hco
    · exact one_sid6 n s v Ks start w H hco
  | sta =>
    obtain rfl : k = 7 := hpt
    exact one_sta n s v start w
def RrI (ags : List Vr) (ps : List Pt) (start : Int) (w : World) (v8 v9 : Value) (wr : World) : Prop := ∃ (i : Nat) (out : List Vr) (r : Array Obj) (d : Nat), v9 = .int .i64 (i : Int) ∧ wr = xw w r d ∧ Kept (OwnR wr w.heap.size v8 out) ∧ Kept (i ≤ ags.length ∧ out.length = i ∧ rowL start [] ps = rowL start out (ps.drop i))
set_option maxRecDepth 100000 in
set_option maxHeartbeats 4000000 in
theorem rRow_any (u v : Value) (ags : List Vr) (Ks : List Pv) (start : Int) (ps : List Pt) (cs : List Cl) (w : World) (HA : HasR w w.heap.size u ags) (H : HasP w w.heap.size v Ks) (hag : AgOk cs ags) (hg : GoodC cs (toC Ks)) (hk : KsOk Ks) (hl : ags.length = ps.length) (hpt : ∀ i (h1 : i < ags.length) (h2 : i < ps.length), ptIs ags[i] (toC Ks) ps[i]) (hpv : ∀ q ∈ Ks, RngR q.r) :
    Calls Tryz.prog 12 #[u, v, .int .i64 start] w (RetR w (rowT (cntC (toC Ks)) start ps)) := by
  have HP := Kept.mk H
  have HG := Kept.mk (And.intro hag (And.intro hg (And.intro hk hpv)))
  have HPT := Kept.mk hpt
  have HL := Kept.mk hl
  obtain ⟨A, c, rfl, _, _, _⟩ := id H
  obtain ⟨U, d, rfl, _, hU⟩ := HA
  have HU := Kept.mk hU
  clear H hag hg hk hpt hpv hU hl
  have hlc := len_cntC (cs := []) HG.out.2.2.1.pos
  rw [toC_len] at hlc
  by_cases hne : Ks = []
  · subst hne
    have hv : rowT (cntC (toC [])) start ps = ([], 8) := rfl
    rw [hv]
    clear hv hlc
    go_enter Tryz.func12, Tryz.ntmps12
    go_wp2_with fail
    go_returns
    exact ⟨_, rfl, OwnR.nil _ _, Below.refl _ _⟩
  · have hpos : 0 < Ks.length := List.length_pos_iff.2 hne
    have hv : rowT (cntC (toC Ks)) start ps = rowL start [] ps := if_neg (by omega)
    rw [hv]
    have hz : ((Ks.length : Int) == 0) = false := by rw [beq_eq_false_iff_ne]; omega
    have HNE := Kept.mk hne
    clear hv hpos hlc
    go_enter Tryz.func12, Tryz.ntmps12
    go_wp2_with fail
    have hO0 : OwnR (w.alloc (.cells #[] 68)) w.heap.size (.slice (some ⟨w.heap.size, 0, none⟩) 0 0) [] := OwnR.lit _ _ [] (Nat.le_refl _) (by simp)
    obtain ⟨r0, d0, hw0⟩ := xw_of ((Below.refl w.heap.size w).alloc (Nat.le_refl _) (.cells #[] 68))
    rw [hw0] at hO0
    rewrite [hw0]
    have HO0 := Kept.mk hO0
    clear hO0 hw0
    go_loopw [8, 9] (fun v8 v9 wr => RrI ags ps start w v8 v9 wr) (fun v8 v9 wr => ags.length - (intOf v9).toNat)
    case atStart => exact ⟨0, [], r0, d0, rfl, rfl, HO0, ⟨Nat.zero_le _, rfl, rfl⟩⟩
    case round =>
      obtain ⟨i, out, r, d, rfl, rfl, HO2, HI⟩ := hrel
      clear HO0
      have HO := HO2
      clear HO2
      by_cases ci : i < ags.length
      · have hane : ags ≠ [] := by rintro rfl; simp at ci
        obtain ⟨b, off, rfl, hb, hc⟩ := HU.out hane
        obtain ⟨e0, e1, e2⟩ := hc i ci
        have ci' : (i : Int) < (ags.length : Int) := by omega
        have f0 : 0 ≤ (i : Int) := by omega
        have h8 := HG.out.1.len
        have hw : wrap64 ((i : Int) + 1) = (i : Int) + 1 := by simp only [wrap64]; omega
        have HW := Kept.mk hw
        have hip : i < ps.length := by have := HL.out; omega
        have hst := HI.out.2.2
        rw [rowL_at hip] at hst
        have HPI := Kept.mk (HPT.out i ci hip)
        have HCA := Kept.mk (HG.out.1.each _ (List.getElem_mem ci)).1
        have HCI := Kept.mk (And.intro ci h8)
        generalize ags[i] = ag at e0 e1 e2 HPI HCA
        generalize ps[i] = pt at hst HPI
        have HONE : Kept (∀ r d, Calls Tryz.prog 24 #[va ag.k ag.n ag.s, .slice A Ks.length c, .int .i64 start] (xw w r d) (OneR (xw w r d) start pt)) := ⟨fun r d => rOne_any ag _ Ks start pt cs _ (HP.out.to (xw_below _ _ _)) HNE.out HG.out.2.2.1 HG.out.2.1 HG.out.2.2.2 HCA.out HPI.out⟩
        unfold OneR at HONE
        generalize tellP start pt = q at hst HONE
        obtain ⟨⟨xk, xn, xs⟩, ec⟩ := q
        dsimp only at hst HONE
        have HST := Kept.mk hst
        obtain ⟨ak, an, az⟩ := ag
        dsimp only at e0 e1 e2 HONE
        clear hst hc hane h8 hip ci hw HPI HCA
        by_cases cz : ec = 0
        · subst cz
          have hst := HST.out
          rw [if_neg (by simp)] at hst
          have HS2 := Kept.mk hst
          have hw := HW.out
          clear hst HST
          go_wp2_with (first
            | (go_at_call 24; refine (HONE.out _ _).mono ?_; rintro e w1 ⟨rfl, hb1⟩; have HO3 := Kept.mk (OwnR.below HO.out hb1); obtain ⟨r1, d1, rfl⟩ := xw_of hb1; rw [xw_xw] at HO3; clear hb1)
            | ((at_builtin); refine app_val3 (w0 := w) rfl (.tmp 35) (.tmp 37) 36 rfl Tryz.underlying36 _ out xk xn _ _ ?c1 rfl rfl ?c2 ?c3 (by have h1 := HI.out.1; have h2 := HI.out.2.1; have := HCI.out.2; omega) ?_; (case c1 => simp [World.size_alloc, xw_size]); (case c2 => exact OwnR.below HO3.out (by (repeat' (first | (with_reducible exact Below.refl _ _) | (with_reducible assumption) | (with_reducible refine below_xw ?_ ?_ _ _) | (with_reducible refine below_drewN ?_ _) | (with_reducible refine Below.drew ?_) | (with_reducible refine Below.setCell ?_ ?_ _) | (with_reducible refine Below.alloc ?_ ?_ _) | (simp [xw_size]; done) | (simp [xw_size]; omega) | (dsimp only; omega))))); (case c3 => (repeat' (first | (with_reducible exact Below.refl _ _) | (with_reducible assumption) | (with_reducible refine below_xw ?_ ?_ _ _) | (with_reducible refine below_drewN ?_ _) | (with_reducible refine Below.drew ?_) | (with_reducible refine Below.setCell ?_ ?_ _) | (with_reducible refine Below.alloc ?_ ?_ _) | (simp [xw_size]; done) | (simp [xw_size]; omega) | (dsimp only; omega)))); intro v1 r3 d3 hO; have HO1 := Kept.mk hO; clear hO))
          exact ⟨⟨i + 1, _, _, _, by first | rfl | (rw [HW.out]; rfl), rfl, HO1, ⟨HCI.out.1, by have := HI.out.2.1; simp; omega, HS2.out⟩⟩, by first | exact less_step HW.out HCI.out.1 | exact less_bareK HCI.out.1⟩
        · have hst := HST.out
          rw [if_pos cz] at hst
          have HS2 := Kept.mk hst
          have hcz : (ec != 0) = true := by simp [cz]
          clear hst HST cz
          go_wp2_with (first
            | (go_at_call 24; refine (HONE.out _ _).mono ?_; rintro e w1 ⟨rfl, hb1⟩; obtain ⟨r1, d1, rfl⟩ := xw_of hb1; clear hb1))
          go_returns
          rw [HS2.out]
          exact ⟨_, rfl, OwnR.nil _ _, by (repeat' (first | (with_reducible exact Below.refl _ _) | (with_reducible assumption) | (with_reducible refine below_xw ?_ ?_ _ _) | (with_reducible refine below_drewN ?_ _) | (with_reducible refine Below.drew ?_) | (with_reducible refine Below.setCell ?_ ?_ _) | (with_reducible refine Below.alloc ?_ ?_ _) | (simp [xw_size]; done) | (simp [xw_size]; omega) | (dsimp only; omega)))⟩
      · have hi : i = ags.length := by have := HI.out.1; omega
        have hv : rowL start [] ps = (out, 0) := by rw [HI.out.2.2, rowL_end (by have := HL.out; omega)]
        have HV := Kept.mk hv
        have ci' : ¬ ((i : Int) < (ags.length : Int)) := by omega
        clear ci hv hi
        go_wp2_with fail
        go_returns
        rw [HV.out]
        exact ⟨_, rfl, HO.out, xw_below _ _ _⟩
end Go.Proofs.YtnidaahimofppaaGreat
