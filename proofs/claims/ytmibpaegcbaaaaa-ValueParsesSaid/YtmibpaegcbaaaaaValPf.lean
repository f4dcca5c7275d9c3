/- ValueParses: the walk. -/
import Derived.Test.YtmibpaegcbaaaaaValPe
import Derived.Test.YtmibpaegcbaaaaaValSi
import Derived.Test.YtmibpaegcbaaaaaValL
namespace Go.Proofs.Ytmibpaegcbaaaaa
open Go.RowKit
set_option linter.unusedVariables false
set_option linter.unusedSimpArgs false

theorem parseB_err {l : Bs} {e : Int} (h : parseB l = .error e) : e ≠ 0 := by
  unfold parseB at h
  split at h
  · injection h with h; omega
  split at h
  · split at h
    · injection h with h; omega
    · split at h
      · injection h with h; omega
      · cases h
  · split at h
    · rename_i er hn
      injection h with h
      subst h
      exact numR_err hn
    · cases h
set_option maxRecDepth 100000 in
set_option maxHeartbeats 2000000 in
theorem ValueParses_any (s : ByteArray) (hs : s.size ≤ 140737488351232) (w : World) :
    Calls Try.prog 6 #[.string s] w (fun e w' => e = .returned (.bool true) ∧ Below w.heap.size w w') := by
  cases hq : parseB (tx s) with
  | error er =>
    have hne := parseB_err hq
    have HP : Kept (∀ W, Calls Try.prog 19 #[.string s] W (fun e w' => e = .returned (.tuple #[va 0 0 ⟨#[]⟩, .int .i64 er]) ∧ Below W.heap.size W w')) := ⟨fun W => by
      have h := parse_any s hs W
      rw [hq] at h
      exact h⟩
    have HR : Kept (∀ W, Calls Try.prog 21 #[.string s] W (fun e w' => e = .returned (.tuple #[va 0 0 ⟨#[]⟩, .int .i64 er]) ∧ Below W.heap.size W w')) := ⟨fun W => by
      have h := rparse_any s hs W
      rw [hq] at h
      exact h⟩
    have hb : (er != 0) = true := by simp [hne]
    clear hq hne hs
    go_enter Try.func6, Try.ntmps6
    go_wp2_with (first
      | (go_at_call 19; refine (HP.out _).mono ?_; rintro e w1 ⟨rfl, hb1⟩; obtain ⟨r1, d1, rfl⟩ := xw_of hb1; clear hb1)
      | (go_at_call 21; refine (HR.out _).mono ?_; rintro e w2 ⟨rfl, hb2⟩; obtain ⟨r2, d2, rfl⟩ := xw_of hb2; clear hb2)
      | (go_at_call 14; refine (live_any _).mono ?_; rintro e w9 ⟨rfl, hb9⟩; obtain ⟨r9, d9, rfl⟩ := xw_of hb9; clear hb9))
    go_returns
    refine ⟨rfl, ?_⟩
    repeat' (first | (with_reducible exact Below.refl _ _) | (with_reducible assumption) | (with_reducible refine below_xw ?_ ?_ _ _) | (with_reducible refine below_drewN ?_ _) | (with_reducible refine Below.drew ?_) | (with_reducible refine Below.setCell ?_ ?_ _) | (with_reducible refine Below.alloc ?_ ?_ _) | (simp [xw_size]; done) | (simp [xw_size]; omega) | (dsimp only; omega))
  | ok v =>
    obtain ⟨hsh, hm, hn0, hn1⟩ := showV_parse hq
    obtain ⟨k, n, t⟩ := v
    simp only at hn0 hn1
    have HP : Kept (∀ W, Calls Try.prog 19 #[.string s] W (fun e w' => e = .returned (.tuple #[va k n (bs t), .int .i64 0]) ∧ Below W.heap.size W w')) := ⟨fun W => by
      have h := parse_any s hs W
      rw [hq] at h
      exact h⟩
    have HR : Kept (∀ W, Calls Try.prog 21 #[.string s] W (fun e w' => e = .returned (.tuple #[va k n (bs t), .int .i64 0]) ∧ Below W.heap.size W w')) := ⟨fun W => by
      have h := rparse_any s hs W
      rw [hq] at h
      exact h⟩
    have HS : Kept (∀ W, Calls Try.prog 18 #[va k n (bs t)] W (fun e w' => e = .returned (.string s) ∧ Below W.heap.size W w')) := ⟨fun W => by
      have h := show_any k n hn0 hn1 (bs t) W
      rw [tx_bs, hsh, bs_tx] at h
      exact h⟩
    generalize bs t = y at HP HR HS
    clear hq hsh hm hn0 hn1 hs
    go_enter Try.func6, Try.ntmps6
    go_wp2_with (first
      | (go_at_call 19; refine (HP.out _).mono ?_; rintro e w1 ⟨rfl, hb1⟩; obtain ⟨r1, d1, rfl⟩ := xw_of hb1; clear hb1)
      | (go_at_call 21; refine (HR.out _).mono ?_; rintro e w2 ⟨rfl, hb2⟩; obtain ⟨r2, d2, rfl⟩ := xw_of hb2; clear hb2)
      | (go_at_call 18; refine (HS.out _).mono ?_; rintro e w3 ⟨rfl, hb3⟩; obtain ⟨r3, d3, rfl⟩ := xw_of hb3; clear hb3)
      | (go_at_call 14; refine (live_any _).mono ?_; rintro e w9 ⟨rfl, hb9⟩; obtain ⟨r9, d9, rfl⟩ := xw_of hb9; clear hb9))
    go_returns
    refine ⟨rfl, ?_⟩
    repeat' (first | (with_reducible exact Below.refl _ _) | (with_reducible assumption) | (with_reducible refine below_xw ?_ ?_ _ _) | (with_reducible refine below_drewN ?_ _) | (with_reducible refine Below.drew ?_) | (with_reducible refine Below.setCell ?_ ?_ _) | (with_reducible refine Below.alloc ?_ ?_ _) | (simp [xw_size]; done) | (simp [xw_size]; omega) | (dsimp only; omega))
end Go.Proofs.Ytmibpaegcbaaaaa
