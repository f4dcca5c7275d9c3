/- ValueBytes: the walk. -/
import Derived.Test.YtmibpaegcbaaaaaValY
import Derived.Test.YtmibpaegcbaaaaaValBy
namespace Go.Proofs.Ytmibpaegcbaaaaa
open Go.RowKit
set_option linter.unusedVariables false
set_option linter.unusedSimpArgs false

theorem strOf_bytes (s : ByteArray) : strOfNums (bytesOf s) = s := by
  have : ((bytesOf s).map fun n => UInt8.ofNat n.toNat) = s.data.toList := by
    simp only [bytesOf, List.map_map]
    refine (List.map_congr_left (fun u _ => ?_)).trans (List.map_id _)
    simp
  obtain ⟨⟨l⟩⟩ := s
  simp only [strOfNums, this]
theorem back_int (n : Int) (h0 : -9223372036854775808 ≤ n) (hn : n ≤ 9223372036854775807) (R : List Int) : grpS 10 (0, intB n ++ R) = (zig n, (0, R)) := by
  have hz := zig_lt n h0 hn
  unfold grpS intB
  simp only [ne_eq, not_true, if_false]
  rw [grp_enc 10 0 (zig n) R (by omega) (by omega) (fun _ => by omega) (by omega) (by omega)]
theorem back_text (s : ByteArray) (most : Int) (hm : (s.size : Int) ≤ most) (hs : s.size ≤ 140737488355328) (R : List Int) : textS most (0, textB s ++ R) = (bytesOf s, (0, R)) := by
  unfold textS textB grpS
  simp only [ne_eq, not_true, if_false]
  rw [List.append_assoc, grp_enc 9 0 s.size (bytesOf s ++ R) (by omega) (by omega) (by omega) (by omega) (by omega)]
  simp only [not_true, if_false]
  rw [if_neg (by omega), if_neg (by rw [List.length_append, bytesOf_len]; omega)]
  have := bytesOf_len s
  rw [← this, List.take_left, List.drop_left]
theorem readV_back (k n : Int) (h0 : -9223372036854775808 ≤ n) (hn : n ≤ 9223372036854775807) (s : ByteArray) (hm : mayV ⟨k, n, tx s⟩ = true) (R : List Int) :
    readV (0, bytesV k n s ++ R) = (⟨k, n, s, 0⟩, (0, R)) := by
  rcases mayV_cases hm with ⟨rfl, h⟩ | ⟨rfl, rfl, h⟩
  · rw [bytesV_num n s h]
    have e1 : byteS (0, (1 :: intB n) ++ R) = (1, (0, intB n ++ R)) := by simp [byteS]
    have e2 : s = ⟨#[]⟩ := tx_inj (by rw [h])
    unfold readV
    rw [e1]
    simp only [back_int n h0 hn R]
    simp [unzig_zig, e2]
  · rw [bytesV_txt s h]
    have e1 : byteS (0, (2 :: textB s) ++ R) = (2, (0, textB s ++ R)) := by simp [byteS]
    unfold readV
    rw [e1]
    simp only [back_text s 64 (by omega) (by omega) R]
    simp [strOf_bytes]
theorem own_read {w : World} {base : Nat} {v : Value} {xs : List Int} (h : Own w base 5 v (u8s xs)) : ∃ A c, v = .slice A xs.length c ∧ (u8s xs ≠ [] → ∃ ad, A = some ad ∧ ∀ j u, (u8s xs)[j]? = some u → w.cell? (ad.add j) = some u) := by
  rcases h.cells with ⟨rfl, hn⟩ | ⟨g, c, rfl, _, _, _, _, hc⟩
  · have hx : xs.length = 0 := by have := congrArg List.length hn; rwa [u8s_len] at this
    exact ⟨none, 0, by rw [hx], fun h => absurd hn h⟩
  · refine ⟨some ⟨g, 0, none⟩, c, by rw [u8s_len], fun _ => ⟨_, rfl, fun j u hu => ?_⟩⟩
    rw [add_lit0, hc j (List.getElem?_eq_some_iff.1 hu).1, hu]

set_option maxRecDepth 100000 in
set_option maxHeartbeats 4000000 in
theorem ValueBytes_any (k n : Int) (h0 : -9223372036854775808 ≤ n) (hn : n ≤ 9223372036854775807) (s : ByteArray) (R : List Int) (hR : ∀ b ∈ R, 0 ≤ b ∧ b ≤ 255) (hl : R.length ≤ 140737488351232) (A : Option Addr) (c : Nat) (w : World) (hA : ArgB w A R) :
    Calls Try.prog 8 #[va k n s, .slice A R.length c] w (fun e w' => e = .returned (.bool true) ∧ Below w.heap.size w w') := by
  have HN := Kept.mk hn
  have H0 := Kept.mk h0
  have HR := Kept.mk hR
  have HL := Kept.mk hl
  have HA := Kept.mk hA
  have L1 := Kept.mk (bytesV_len k n h0 hn s)
  clear hn h0 hR hl hA
  go_enter Try.func8, Try.ntmps8
  go_wp2_with fail
  go_at_call 26
  have HBX : Kept (Box (w.alloc (.cells #[.int .i64 k, .int .i64 n, .string s] 24)) w.heap.size k n s) := ⟨box1 w k n s⟩
  have HBW : Kept (Below w.heap.size w (w.alloc (.cells #[.int .i64 k, .int .i64 n, .string s] 24))) := ⟨(Below.refl _ _).alloc (Nat.le_refl _) _⟩
  have HZ : Kept (w.heap.size < (w.alloc (.cells #[.int .i64 k, .int .i64 n, .string s] 24)).heap.size) := ⟨by rw [World.size_alloc]; omega⟩
  generalize w.alloc (.cells #[.int .i64 k, .int .i64 n, .string s] 24) = wa at HBX HBW HZ ⊢
  refine (bytes_any k n H0.out HN.out s wa).mono ?_
  rintro e w1 ⟨vb, rfl, hO, hb⟩
  obtain ⟨r1, d1, rfl⟩ := xw_of hb
  clear hb
  have HO := Kept.mk hO
  have k2 := (own_conv hO).1
  have k2' := (own_conv hO).2
  clear hO
  obtain ⟨x0, x1, x2, _⟩ := HBX.out.c0
  have hz := HZ.out
  go_upto_region 2 with fail
  go_cut [16] (fun sx wx => sx = .bool false ∧ ∃ r d, wx = xw wa (r1 ++ r) d)
  case first =>
    go_region_with (first
      | (go_at_call 27; refine (rbytes_any k n H0.out HN.out s _).mono ?_; rintro e w3 ⟨v3, rfl, hO3, hb3⟩; obtain ⟨r3, d3, rfl⟩ := xw_of hb3; clear hb3; have k3 := (own_conv hO3).1; have k3' := (own_conv hO3).2; simp only [xw_xw, drew_xw, drewN_xw, Array.append_assoc] at k3 k3'; clear hO3))
    all_goals go_wp2_with fail
    all_goals
      go_meet
      exact ⟨rfl, _, _, rfl⟩
  case rest =>
    obtain ⟨rfl, r, d, rfl⟩ := hcut
    clear k2 k2'
    have hO2 : Own (xw wa (r1 ++ r) d) wa.heap.size 5 vb (u8s (bytesV k n s)) := by
      have h := HO.out.xw r d
      rwa [xw_xw] at h
    have HO2 := Kept.mk hO2
    have HBW2 := Kept.mk (below_xw HBW.out (Nat.le_of_lt HZ.out) (r1 ++ r) d)
    have HBX2 := Kept.mk (HBX.out.but (But.of (xw_below wa (r1 ++ r) d) (w.heap.size + 1)) (by omega))
    have HZ2 : Kept (w.heap.size < (xw wa (r1 ++ r) d).heap.size) := ⟨by rw [xw_size]; have := HZ.out; omega⟩
    have HBS : Kept (w.heap.size ≤ wa.heap.size) := ⟨by have := HZ.out; omega⟩
    clear hO2 HO HBW HBX HZ x0 x1 x2 hz
    generalize xw wa (r1 ++ r) d = wz at HO2 HBW2 HBX2 HZ2 ⊢
    obtain ⟨x0, x1, x2, _⟩ := HBX2.out.c0
    have hz := HZ2.out
    cases hm : mayV ⟨k, n, tx s⟩ with
    | false =>
      have HM := Kept.mk hm
      have e0 := bytesV_no k n s hm
      obtain ⟨A2, c2, hv, _⟩ := own_read HO2.out
      rw [e0] at hv
      subst hv
      clear hm e0
      go_wp2_with (first
        | (go_at_call 10; refine (may_any k n s _).mono ?_; rintro e w8 ⟨rfl, hb8⟩; obtain ⟨r8, d8, rfl⟩ := xw_of hb8; clear hb8; rewrite [HM.out])
        | (go_at_call 14; refine (live_any _).mono ?_; rintro e w9 ⟨rfl, hb9⟩; obtain ⟨r9, d9, rfl⟩ := xw_of hb9; clear hb9))
      go_returns
      exact ⟨rfl, below_xw HBW2.out HBW2.out.size _ _⟩
    | true =>
      have HM := Kept.mk hm
      clear hm
      go_wp2_with (first
        | (go_at_call 10; refine (may_any k n s _).mono ?_; rintro e w8 ⟨rfl, hb8⟩; obtain ⟨r8, d8, rfl⟩ := xw_of hb8; clear hb8; rewrite [HM.out])
        | ((at_builtin); refine app_own (w0 := xw wz r8 d8) (W := _) rfl (.tmp 26) (.tmp 27) 37 5 (.int .u8 0) 1 rfl Try.underlying37 infoB rfl (by decide) _ [] wa.heap.size vb (u8s (bytesV k n s)) rfl rfl (u8s_one _) ?c1 ?c2 ?c3 ?c4 ?_; (case c1 => exact Own.empty _ _ _ (Nat.le_refl _)); (case c2 => exact (HO2.out.xw r8 d8).alloc _); (case c3 => exact (Below.refl _ _).alloc (Nat.le_refl _) _); (case c4 => have := L1.out; simp only [u8s_len, List.length_nil]; omega); intro a1 r2 d2 hP; rw [List.nil_append] at hP; rewrite [xw_xw] at hP; have hP1 := Kept.mk hP; clear hP)
        | ((at_builtin); refine app_row (w0 := xw wz r8 d8) (W := _) rfl (.tmp 28) (.tmp 29) 37 5 (.int .u8 0) 1 rfl Try.underlying37 infoB rfl (by decide) _ (u8s (bytesV k n s)) (u8s R) A c rfl ?c0 (u8s_one _) ?c5 hP1.out ?c6 ?c7 ?_; (case c0 => rw [u8s_len]; rfl); (case c5 => exact ((HA.out.below HBW2.out).below (xw_below _ _ _)).read); (case c6 => rw [← xw_xw]; exact xw_below _ _ _); (case c7 => have := L1.out; have := HL.out; simp only [u8s_len]; omega); intro a4 r7 d7 hP; rw [← u8s_app] at hP; rewrite [xw_xw] at hP; have hP4 := Kept.mk hP; clear hP))
      go_at_call 22
      obtain ⟨A4, c4, hv4, hread⟩ := own_read hP4.out
      subst hv4
      refine (New_arg _ (by have := L1.out; have := HL.out; simp only [List.length_append]; omega) A4 c4 _ hread).mono ?_
      rintro e wn ⟨g, rfl, hg, HRd, HBn⟩
      rw [xw_size] at hg
      have HBW5 := Kept.mk ((below_xw HBW2.out HBW2.out.size (r8 ++ r7) d7).trans (HBn.mono (by rw [xw_size]; have := HBW2.out.size; omega)))
      have HG : Kept (w.heap.size < g) := ⟨by omega⟩
      have HX5 := Kept.mk ((HBX2.out.but (But.of (xw_below wz (r8 ++ r7) d7) g) (by omega)).but (But.of HBn g) (by omega))
      have HLR := Kept.mk HRd
      have hEV : readV (stOf (bytesV k n s ++ R) 0 0) = (⟨k, n, s, 0⟩, (0, R)) := readV_back k n H0.out HN.out s HM.out R
      have HEV := Kept.mk hEV
      have hXB : ∀ b ∈ bytesV k n s ++ R, 0 ≤ b ∧ b ≤ 255 := by
        intro b hb
        rcases List.mem_append.1 hb with h | h
        · exact bytesV_range k n s b h
        · exact HR.out b h
      have HXB := Kept.mk hXB
      clear hg HBn hread HRd hEV hXB hP4 hP1 HO2 HBW2 HBX2 HZ2 x0 x1 x2 hz
      generalize bytesV k n s ++ R = B at HEV HXB HLR
      go_wp2_with fail
      go_at_call 23
      refine (read_val g B HXB.out 0 0 _ HLR.out).mono ?_
      rintro e w6 ⟨a6, y6, rfl, hR6, hB6, hs6⟩
      rw [HEV.out] at hs6 ⊢
      have hy6 : y6 = 0 := congrArg Prod.fst hs6
      subst hy6
      have hl6 : leftS (stOf B a6 0) = (R.length : Int) := by rw [hs6]; rfl
      have HL6 := Kept.mk hl6
      have hal : Below w6.heap.size w6 (w6.alloc (.cells #[.int .i64 k, .int .i64 n, .string s] 24)) := (Below.refl _ _).alloc (Nat.le_refl _) _
      have HB6 := Kept.mk (hB6.below HBW5.out (Nat.le_of_lt HG.out) HBW5.out.size)
      have HB7 := Kept.mk (HB6.out.trans (hal.mono HB6.out.size))
      have HR7 := Kept.mk (hR6.below hal)
      have HX6 := HX5.out.but hB6 (by have := HG.out; omega)
      have HX7 := Kept.mk (HX6.but (But.of hal g) (by have := HG.out; omega))
      have HX8 := Kept.mk (box1 w6 k n s)
      have hlt7 : w.heap.size < w6.heap.size := HX6.lt
      clear hB6 hR6 hs6 hal HX6 hl6
      obtain ⟨y0, y1, y2, _⟩ := HX7.out.c0
      obtain ⟨z0, z1, z2, _⟩ := HX8.out.c0
      have hz7 := HX7.out.lt
      have hz8 := HX8.out.lt
      go_wp2_with fail
      generalize w6.alloc (.cells #[.int .i64 k, .int .i64 n, .string s] 24) = w7 at HB7 HR7 HX7 HX8 y0 y1 y2 z0 z1 z2 hz7 hz8 ⊢
      go_wp2_with (first
        | (go_at_call 14; refine (live_any _).mono ?_; rintro e w9 ⟨rfl, hb9⟩; have HB9 := Kept.mk (HB7.out.trans (hb9.mono HB7.out.size)); have HR9 := Kept.mk (HR7.out.below hb9); obtain ⟨r9, d9, rfl⟩ := xw_of hb9; clear hb9)
        | (go_at_call 25; refine (Left_read g B a6 0 _ HR9.out).mono ?_; rintro e wk ⟨rfl, hbk⟩; rewrite [HL6.out]; have HBK := Kept.mk (HB9.out.trans (hbk.mono HB9.out.size)); clear hbk))
      go_returns
      exact ⟨rfl, HBK.out⟩
end Go.Proofs.Ytmibpaegcbaaaaa
