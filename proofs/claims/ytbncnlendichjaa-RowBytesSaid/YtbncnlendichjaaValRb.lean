/- What was written of a value is read as it (plain). -/
import Derived.Test.YtbncnlendichjaaValY
import Derived.Test.YtbncnlendichjaaValBy
namespace Go.Proofs.Ytbncnlendichjaa
open Go.RowKit
set_option linter.unusedVariables false
set_option linter.unusedSimpArgs false

theorem strOf_bytes (s : ByteArray) : strOfNums (bytesOf s) = s := by
  have : ((bytesOf s).map fun n => UInt8.ofNat n.toNat) = s.data.toList := by
    simp only [bytesOf, List.map_map]
    refine (List.map_congr_left (fun u _ => ?_)).trans (List.map_id _)
    simp
  obtain ⟨⟨l⟩⟩ := s
  simp only [strOfNums, this]
theorem back_int (n : Int) (h0 : -9223372036854775808 ≤ n) (hn : n ≤ 9223372036854775807) (R : List Int) : grpS 10 (0, intB n ++ R) = (zig n, (0, R)) := by
  have hz := zig_lt n h0 hn
  unfold grpS intB
  simp only [ne_eq, not_true, if_false]
  rw [grp_enc 10 0 (zig n) R (by omega) (by omega) (fun _ => by omega) (by omega) (by omega)]
theorem back_text (s : ByteArray) (most : Int) (hm : (s.size : Int) ≤ most) (hs : s.size ≤ 140737488355328) (R : List Int) : textS most (0, textB s ++ R) = (bytesOf s, (0, R)) := by
  unfold textS textB grpS
  simp only [ne_eq, not_true, if_false]
  rw [List.append_assoc, grp_enc 9 0 s.size (bytesOf s ++ R) (by omega) (by omega) (by omega) (by omega) (by omega)]
  simp only [not_true, if_false]
  rw [if_neg (by omega), if_neg (by rw [List.length_append, bytesOf_len]; omega)]
  have := bytesOf_len s
  rw [← this, List.take_left, List.drop_left]
theorem readV_back (k n : Int) (h0 : -9223372036854775808 ≤ n) (hn : n ≤ 9223372036854775807) (s : ByteArray) (hm : mayV ⟨k, n, tx s⟩ = true) (R : List Int) :
    readV (0, bytesV k n s ++ R) = (⟨k, n, s, 0⟩, (0, R)) := by
  rcases mayV_cases hm with ⟨rfl, h⟩ | ⟨rfl, rfl, h⟩
  · rw [bytesV_num n s h]
    have e1 : byteS (0, (1 :: intB n) ++ R) = (1, (0, intB n ++ R)) := by simp [byteS]
    have e2 : s = ⟨#[]⟩ := tx_inj (by rw [h])
    unfold readV
    rw [e1]
    simp only [back_int n h0 hn R]
    simp [unzig_zig, e2]
  · rw [bytesV_txt s h]
    have e1 : byteS (0, (2 :: textB s) ++ R) = (2, (0, textB s ++ R)) := by simp [byteS]
    unfold readV
    rw [e1]
    simp only [back_text s 64 (by omega) (by omega) R]
    simp [strOf_bytes]
theorem own_read {w : World} {base : Nat} {v : Value} {xs : List Int} (h : Own w base 5 v (u8s xs)) : ∃ A c, v = .slice A xs.length c ∧ (u8s xs ≠ [] → ∃ ad, A = some ad ∧ ∀ j u, (u8s xs)[j]? = some u → w.cell? (ad.add j) = some u) := by
  rcases h.cells with ⟨rfl, hn⟩ | ⟨g, c, rfl, _, _, _, _, hc⟩
  · have hx : xs.length = 0 := by have := congrArg List.length hn; rwa [u8s_len] at this
    exact ⟨none, 0, by rw [hx], fun h => absurd hn h⟩
  · refine ⟨some ⟨g, 0, none⟩, c, by rw [u8s_len], fun _ => ⟨_, rfl, fun j u hu => ?_⟩⟩
    rw [add_lit0, hc j (List.getElem?_eq_some_iff.1 hu).1, hu]

end Go.Proofs.Ytbncnlendichjaa
