/- BinBack: the walk. -/
import Derived.Test.YtmeecaldehfnaaaBinB
namespace Go.Proofs.Ytmeecaldehfnaaa
open Go.RowKit
set_option linter.unusedVariables false
set_option linter.unusedSimpArgs false

theorem strOf_bytes (s : ByteArray) : strOfNums (bytesOf s) = s := by
  have : ((bytesOf s).map fun n => UInt8.ofNat n.toNat) = s.data.toList := by
    simp only [bytesOf, List.map_map]
    refine (List.map_congr_left (fun u _ => ?_)).trans (List.map_id _)
    simp
  obtain ⟨⟨l⟩⟩ := s
  simp only [strOfNums, this]
theorem back_num (n : Int) (h0 : 0 ≤ n) (hn : n ≤ 9223372036854775807) (R : List Int) : grpS 9 (0, numB n ++ R) = (n.toNat, (0, R)) := by
  unfold grpS numB
  simp only [ne_eq, not_true, if_false, if_neg (show ¬ n < 0 by omega)]
  rw [grp_enc 9 0 n.toNat R (by omega) (by omega) (by omega) (by omega) (by omega)]
theorem back_int (n : Int) (h0 : -9223372036854775808 ≤ n) (hn : n ≤ 9223372036854775807) (R : List Int) : grpS 10 (0, intB n ++ R) = (zig n, (0, R)) := by
  have hz := zig_lt n h0 hn
  unfold grpS intB
  simp only [ne_eq, not_true, if_false]
  rw [grp_enc 10 0 (zig n) R (by omega) (by omega) (fun _ => by omega) (by omega) (by omega)]
theorem back_text (s : ByteArray) (hs : s.size ≤ 140737488355328) (R : List Int) : textS (s.size : Int) (0, textB s ++ R) = (bytesOf s, (0, R)) := by
  unfold textS textB grpS
  simp only [ne_eq, not_true, if_false]
  rw [List.append_assoc, grp_enc 9 0 s.size (bytesOf s ++ R) (by omega) (by omega) (by omega) (by omega) (by omega)]
  simp only [not_true, if_false]
  rw [if_neg (by omega), if_neg (by rw [List.length_append, bytesOf_len]; omega)]
  have := bytesOf_len s
  rw [← this, List.take_left, List.drop_left]
theorem numB_range (n : Int) : ∀ b ∈ numB n, 0 ≤ b ∧ b ≤ 255 := by
  unfold numB; split
  · simp
  · exact enc_bytes _
theorem back_range (n : Int) (s : ByteArray) (R : List Int) (hR : ∀ b ∈ R, 0 ≤ b ∧ b ≤ 255) : ∀ b ∈ numB n ++ intB n ++ textB s ++ R, 0 ≤ b ∧ b ≤ 255 := by
  intro b hb
  simp only [List.mem_append, textB] at hb
  rcases hb with ((h | h) | (h | h)) | h
  · exact numB_range n b h
  · exact enc_bytes _ b h
  · exact enc_bytes _ b h
  · exact bytesOf_range s b h
  · exact hR b h
theorem own_read {w : World} {base : Nat} {v : Value} {xs : List Int} (h : Own w base 5 v (u8s xs)) : ∃ A c, v = .slice A xs.length c ∧ (u8s xs ≠ [] → ∃ ad, A = some ad ∧ ∀ j u, (u8s xs)[j]? = some u → w.cell? (ad.add j) = some u) := by
  rcases h.cells with ⟨rfl, hn⟩ | ⟨g, c, rfl, _, _, _, _, hc⟩
  · have hx : xs.length = 0 := by have := congrArg List.length hn; rwa [u8s_len] at this
    exact ⟨none, 0, by rw [hx], fun h => absurd hn h⟩
  · refine ⟨some ⟨g, 0, none⟩, c, by rw [u8s_len], fun _ => ⟨_, rfl, fun j u hu => ?_⟩⟩
    rw [add_lit0, hc j (List.getElem?_eq_some_iff.1 hu).1, hu]

set_option maxRecDepth 100000 in
set_option maxHeartbeats 1000000 in
theorem BinBack_any (n : Int) (h0 : -9223372036854775808 ≤ n) (hn : n ≤ 9223372036854775807) (s : ByteArray) (hs : s.size ≤ 2097152) (R : List Int) (hR : ∀ b ∈ R, 0 ≤ b ∧ b ≤ 255) (hl : R.length ≤ 2097152) (A : Option Addr) (c : Nat) (w : World) (hA : ArgB w A R) :
    Calls Try.prog 5 #[.int .i64 n, .string s, .slice A R.length c] w (fun e w' => e = .returned (.bool true) ∧ Below w.heap.size w w') := by
  have HN := Kept.mk hn
  have H0 := Kept.mk h0
  have HS := Kept.mk hs
  have HR := Kept.mk hR
  have HL := Kept.mk hl
  have HA := Kept.mk hA
  have L1 := Kept.mk (numB_len n hn)
  have L2 : Kept ((intB n).length ≤ 10) := ⟨enc_len10 _ (zig_lt n h0 hn)⟩
  have L3 : Kept ((textB s).length ≤ 10 + s.size) := ⟨by have := enc_len10 s.size (by omega); simp only [textB, List.length_append, bytesOf_len]; omega⟩
  clear hn h0 hs hR hl hA
  go_enter Try.func5, Try.ntmps5
  go_wp2_with (first
    | (go_at_call 11; refine (Num_any n HN.out _).mono ?_; rintro e w1 ⟨v1, rfl, hO, hb⟩; obtain ⟨r1, d1, rfl⟩ := xw_of hb; have hO1 := Kept.mk hO; clear hO hb)
    | ((at_builtin); refine app_own (w0 := w) (W := xw (w.alloc _) r1 d1) rfl (.tmp 11) (.tmp 13) 22 5 (.int .u8 0) 1 rfl Try.underlying22 infoB rfl (by decide) _ [] (w.heap.size + 1) v1 (u8s (numB n)) rfl rfl (u8s_one _) ?c1 ?c2 ?c3 ?c4 ?_; (case c1 => exact (Own.empty w _ _ (Nat.le_refl _)).xw r1 d1); (case c2 => simpa using hO1.out); (case c3 => exact below_xw ((Below.refl _ _).alloc (Nat.le_refl _) _) (by simp) r1 d1); (case c4 => have := L1.out; simp only [u8s_len, List.length_nil]; omega); intro a1 r2 d2 hP; rw [List.nil_append] at hP; have hP1 := Kept.mk hP; clear hP)
    | (go_at_call 13; refine (Int_any n H0.out HN.out _).mono ?_; rintro e w1 ⟨v2, rfl, hO, hb⟩; obtain ⟨r3, d3, rfl⟩ := xw_of hb; have hQ2 := Kept.mk (hP1.out.below hb); have hO2 := Kept.mk hO; clear hO hb; rewrite [xw_xw] at hO2 hQ2)
    | ((at_builtin); refine app_own (w0 := w) (W := xw w (r2 ++ r3) d3) rfl (.tmp 15) (.tmp 17) 22 5 (.int .u8 0) 1 rfl Try.underlying22 infoB rfl (by decide) _ (u8s (numB n)) (xw w r2 d2).heap.size v2 (u8s (intB n)) rfl rfl (u8s_one _) hQ2.out hO2.out (xw_below _ _ _) ?c4 ?_; (case c4 => have := L1.out; have := L2.out; simp only [u8s_len]; omega); intro a2 r4 d4 hP; rw [← u8s_app] at hP; have hP2 := Kept.mk hP; clear hP)
    | (go_at_call 17; refine (Text_any s (by have := HS.out; omega) _).mono ?_; rintro e w1 ⟨v3, rfl, hO, hb⟩; obtain ⟨r5, d5, rfl⟩ := xw_of hb; have hQ3 := Kept.mk (hP2.out.below hb); have hO3 := Kept.mk hO; clear hO hb; rewrite [xw_xw] at hO3 hQ3)
    | ((at_builtin); refine app_own (w0 := w) (W := xw w (r4 ++ r5) d5) rfl (.tmp 19) (.tmp 21) 22 5 (.int .u8 0) 1 rfl Try.underlying22 infoB rfl (by decide) _ (u8s (numB n ++ intB n)) (xw w r4 d4).heap.size v3 (u8s (textB s)) rfl rfl (u8s_one _) hQ3.out hO3.out (xw_below _ _ _) ?c4 ?_; (case c4 => have := L1.out; have := L2.out; have := L3.out; have := HS.out; simp only [u8s_len, List.length_append]; omega); intro a3 r6 d6 hP; rw [← u8s_app] at hP; have hP3 := Kept.mk hP; clear hP)
    | ((at_builtin); refine app_row (w0 := w) (W := xw w r6 d6) rfl (.tmp 23) (.tmp 24) 22 5 (.int .u8 0) 1 rfl Try.underlying22 infoB rfl (by decide) _ (u8s (numB n ++ intB n ++ textB s)) (u8s R) A c rfl ?c0 (u8s_one _) ((HA.out.below (xw_below _ _ _)).read) hP3.out (xw_below _ _ _) ?c4 ?_; (case c0 => rw [u8s_len]; rfl); (case c4 => have := L1.out; have := L2.out; have := L3.out; have := HS.out; have := HL.out; simp only [u8s_len, List.length_append]; omega); intro a4 r7 d7 hP; rw [← u8s_app] at hP; have hP4 := Kept.mk hP; clear hP))
  go_at_call 7
  obtain ⟨A4, c4, hv4, hread⟩ := own_read hP4.out
  subst hv4
  refine (New_arg _ (by have := L1.out; have := L2.out; have := L3.out; have := HS.out; have := HL.out; simp only [List.length_append]; omega) A4 c4 _ hread).mono ?_
  rintro e wa ⟨g, rfl, hg, HRd, HBa⟩
  have HBW := Kept.mk ((xw_below w r7 d7).trans (HBa.mono (by rw [xw_size]; omega)))
  have HG : Kept (w.heap.size ≤ g) := ⟨by rw [xw_size] at hg; omega⟩
  have HXB := Kept.mk (back_range n s R HR.out)
  have HLR := Kept.mk HRd
  clear hg HBa hread HRd
  have eB : stOf (numB n ++ intB n ++ textB s ++ R) 0 0 = (0, numB n ++ (intB n ++ (textB s ++ R))) := by simp [stOf, List.append_assoc]
  have EB := Kept.mk eB
  clear eB
  generalize hB : numB n ++ intB n ++ textB s ++ R = B at EB HXB HLR
  clear hB
  by_cases cn : n < 0
  · have EB2 : Kept (stOf B 0 0 = (0, intB n ++ (textB s ++ R))) := ⟨by
      have h := EB.out
      unfold numB at h
      rw [if_pos cn, List.nil_append] at h
      exact h⟩
    go_wp2_with fail
    go_at_call 12
    refine (Int_read g B HXB.out 0 0 _ HLR.out).mono ?_
    rintro e w3 ⟨x3, a3, y3, rfl, hR3, hB3, hs3⟩
    rw [EB2.out, back_int n H0.out HN.out] at hs3
    have e3 : x3 = zig n := congrArg Prod.fst hs3
    have EB3 := Kept.mk (congrArg Prod.snd hs3)
    simp only at EB3
    subst e3
    clear hs3
    have ez := unzig_zig n
    simp only [ez]
    have HB3 := Kept.mk (hB3.below HBW.out HG.out HBW.out.size)
    have HR3 := Kept.mk hR3
    clear hB3 hR3
    go_wp2_with fail
    go_at_call 19
    refine (Text_read g B HXB.out a3 y3 (s.size : Int) _ HR3.out).mono ?_
    rintro e w4 ⟨a4', y4, rfl, hR4, hB4, hs4⟩
    have hq := back_text s (by have := HS.out; omega) R
    rw [EB3.out, hq] at hs4 ⊢
    have es := strOf_bytes s
    simp only [es]
    have HB4 := Kept.mk (hB4.below HB3.out HG.out HB3.out.size)
    have HR4 := Kept.mk hR4
    have hy4 : y4 = 0 := congrArg Prod.fst hs4
    subst hy4
    have hl4 : leftS (stOf B a4' 0) = (R.length : Int) := by rw [hs4]; rfl
    have HL4 := Kept.mk hl4
    clear hB4 hR4 hs4 hq es hl4 ez
    go_wp2_with (first
      | (go_at_call 14; refine (live_any _).mono ?_; rintro e w5 ⟨rfl, hb5⟩; have HB5 := Kept.mk (HB4.out.trans (hb5.mono HB4.out.size)); have HR5 := Kept.mk (HR4.out.below hb5); clear hb5)
      | (go_at_call 10; refine (Left_read g B a4' 0 _ HR5.out).mono ?_; rintro e w6 ⟨rfl, hb6⟩; rewrite [HL4.out]; have HB6 := Kept.mk (HB5.out.trans (hb6.mono HB5.out.size)); have HR6 := Kept.mk (HR5.out.below hb6); clear hb6)
      | (go_at_call 9; refine (Err_read g B a4' 0 _ HR6.out).mono ?_; rintro e w7 ⟨rfl, rfl⟩))
    go_ret
    exact ⟨rfl, HB6.out⟩
  · have cn' : 0 ≤ n := by omega
    go_wp2_with fail
    go_at_call 8
    refine (Num_read g B HXB.out 0 0 _ HLR.out).mono ?_
    rintro e w2 ⟨x2, a2, y2, rfl, hR2, hB2, hs2⟩
    rw [EB.out, back_num n cn' HN.out] at hs2
    have e2 : x2 = n.toNat := congrArg Prod.fst hs2
    have EB2 := Kept.mk (congrArg Prod.snd hs2)
    simp only at EB2
    have e3 : (x2 : Int) = n := by omega
    clear hs2 e2
    simp only [e3]
    have HB2 := Kept.mk (hB2.below HBW.out HG.out HBW.out.size)
    have HR2 := Kept.mk hR2
    clear hB2 hR2
    go_wp2_with fail
    go_at_call 12
    refine (Int_read g B HXB.out a2 y2 _ HR2.out).mono ?_
    rintro e w3 ⟨x3, a3, y3, rfl, hR3, hB3, hs3⟩
    rw [EB2.out, back_int n H0.out HN.out] at hs3
    have e3 : x3 = zig n := congrArg Prod.fst hs3
    have EB3 := Kept.mk (congrArg Prod.snd hs3)
    simp only at EB3
    subst e3
    clear hs3
    have ez := unzig_zig n
    simp only [ez]
    have HB3 := Kept.mk (hB3.below HB2.out HG.out HB2.out.size)
    have HR3 := Kept.mk hR3
    clear hB3 hR3
    go_wp2_with fail
    go_at_call 19
    refine (Text_read g B HXB.out a3 y3 (s.size : Int) _ HR3.out).mono ?_
    rintro e w4 ⟨a4', y4, rfl, hR4, hB4, hs4⟩
    have hq := back_text s (by have := HS.out; omega) R
    rw [EB3.out, hq] at hs4 ⊢
    have es := strOf_bytes s
    simp only [es]
    have HB4 := Kept.mk (hB4.below HB3.out HG.out HB3.out.size)
    have HR4 := Kept.mk hR4
    have hy4 : y4 = 0 := congrArg Prod.fst hs4
    subst hy4
    have hl4 : leftS (stOf B a4' 0) = (R.length : Int) := by rw [hs4]; rfl
    have HL4 := Kept.mk hl4
    clear hB4 hR4 hs4 hq es hl4 ez
    go_wp2_with (first
      | (go_at_call 14; refine (live_any _).mono ?_; rintro e w5 ⟨rfl, hb5⟩; have HB5 := Kept.mk (HB4.out.trans (hb5.mono HB4.out.size)); have HR5 := Kept.mk (HR4.out.below hb5); clear hb5)
      | (go_at_call 10; refine (Left_read g B a4' 0 _ HR5.out).mono ?_; rintro e w6 ⟨rfl, hb6⟩; rewrite [HL4.out]; have HB6 := Kept.mk (HB5.out.trans (hb6.mono HB5.out.size)); have HR6 := Kept.mk (HR5.out.below hb6); clear hb6)
      | (go_at_call 9; refine (Err_read g B a4' 0 _ HR6.out).mono ?_; rintro e w7 ⟨rfl, rfl⟩))
    go_ret
    exact ⟨rfl, HB6.out⟩
section
open Go.ChangeShapes Go.WideShapes
variable {H : Type} {enc : TypeId × Value → H}
theorem open_bytesN (N : Nat) {W : World} {base : Nat} {v : Value} {d : DataW H} {p : List MemPlace} (hval : Value.okWide Try.prog W .any base 22 v) (h : DataW.Trod enc Try.prog W 0 (fun _ => true) true 22 v d p) (hlt : ∀ x ∈ p, x.block < W.heap.size)
    (hsz : ∀ elems spare, d = .slice elems spare → (elems.length + spare.length) * 1 ≤ N) :
    ∃ A xs c, v = .slice A xs.length c ∧ (∀ b ∈ xs, 0 ≤ b ∧ b ≤ 255) ∧ xs.length ≤ N ∧ xs.length ≤ c ∧ c ≤ maxLen ∧ ArgB W A xs := by
  obtain ⟨a1, len, cap, rfl⟩ := okWide_slice Try.underlying22 hval
  obtain ⟨fuel, hf⟩ := h
  rcases open_ints Try.underlying22 Try.underlying5 cellsB hf with ⟨hcs, hx⟩ | ⟨a, len', cap', zs, hcs, _, hl, hm, hz, hx, hcell, hwz⟩
  · simp [Value.cells] at hcs
    obtain ⟨rfl, rfl, rfl⟩ := hcs
    exact ⟨none, [], 0, rfl, by simp, Nat.zero_le _, by simp, by simp, fun h => absurd rfl h⟩
  · simp [Value.cells] at hcs
    obtain ⟨rfl, rfl, rfl⟩ := hcs
    simp only [Prod.mk.injEq] at hx
    obtain ⟨rfl, rfl⟩ := hx
    simp only [if_true] at hz
    have h1 := hsz _ _ rfl
    have hlen : (zs.take len).length = len := by simp; omega
    refine ⟨some a, zs.take len, cap, by rw [hlen], fun b hb => ?_, ?_, by rw [hlen]; exact hl, hm, fun hne => ?_⟩
    · have := hwz b (List.mem_of_mem_take hb)
      simpa [Lit.wf, IntKind.min, IntKind.max, IntKind.signed, IntKind.bits] using this
    · simp only [lits, List.length_map, List.length_take, List.length_drop] at h1
      rw [hlen]; omega
    · have h0 : 0 < len := by
        rcases Nat.eq_zero_or_pos len with h0 | h0
        · subst h0; exact absurd rfl hne
        · exact h0
      obtain ⟨b, off, spot⟩ := a
      have hspot : spot = none := by simpa [Addr.add] using World.cell?_spot (hcell 0 (by omega))
      subst hspot
      refine ⟨b, off, rfl, hlt (.cell b off) (MemPlace.mem_row.2 ⟨0, by omega, by simp⟩), fun j hj => ?_⟩
      rw [hlen] at hj
      have := hcell j (by omega)
      rw [Addr.add_lit] at this
      rw [this]
      have e2 : (zs.take len)[j]? = zs[j]? := List.getElem?_take_of_lt hj
      rw [List.getD_eq_getElem?_getD, List.getD_eq_getElem?_getD, e2]
end
end Go.Proofs.Ytmeecaldehfnaaa
