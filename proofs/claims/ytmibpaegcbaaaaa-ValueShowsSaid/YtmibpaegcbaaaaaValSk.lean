/- ValueShows: the walk. -/
import Derived.Test.YtmibpaegcbaaaaaValY
import Derived.Test.YtmibpaegcbaaaaaValSj
namespace Go.Proofs.Ytmibpaegcbaaaaa
open Go.RowKit
set_option linter.unusedVariables false
set_option linter.unusedSimpArgs false

theorem paV_ok (k n : Int) (s : ByteArray) : paV (.ok ⟨k, n, tx s⟩) = .tuple #[va k n s, .int .i64 0] := by
  show Value.tuple #[va k n (bs (tx s)), .int .i64 0] = _
  rw [bs_tx]
set_option maxRecDepth 100000 in
set_option maxHeartbeats 4000000 in
theorem ValueShows_any (k n : Int) (h0 : -9223372036854775808 ≤ n) (hn : n ≤ 9223372036854775807) (s : ByteArray) (w : World) :
    Calls Try.prog 5 #[va k n s] w (fun e w' => e = .returned (.bool true) ∧ Below w.heap.size w w') := by
  have HN := Kept.mk hn
  have H0 := Kept.mk h0
  have HZ2 : Kept ((bs (showV ⟨k, n, tx s⟩)).size ≤ 140737488351232) := ⟨by rw [bs_size]; have := showV_len ⟨k, n, tx s⟩ h0 hn; omega⟩
  have HPS : Kept (mayV ⟨k, n, tx s⟩ = true → parseB (tx (bs (showV ⟨k, n, tx s⟩))) = .ok ⟨k, n, tx s⟩) := ⟨fun hm => by rw [tx_bs]; exact parse_show _ h0 hn hm⟩
  clear hn h0
  go_enter Try.func5, Try.ntmps5
  go_wp2_with fail
  go_at_call 18
  have HBX : Kept (Box (w.alloc (.cells #[.int .i64 k, .int .i64 n, .string s] 24)) w.heap.size k n s) := ⟨box1 w k n s⟩
  have HBW : Kept (Below w.heap.size w (w.alloc (.cells #[.int .i64 k, .int .i64 n, .string s] 24))) := ⟨(Below.refl _ _).alloc (Nat.le_refl _) _⟩
  have HZ : Kept (w.heap.size < (w.alloc (.cells #[.int .i64 k, .int .i64 n, .string s] 24)).heap.size) := ⟨by rw [World.size_alloc]; omega⟩
  generalize w.alloc (.cells #[.int .i64 k, .int .i64 n, .string s] 24) = wa at HBX HBW HZ ⊢
  refine (show_any k n H0.out HN.out s wa).mono ?_
  rintro e w1 ⟨rfl, hb⟩
  obtain ⟨r1, d1, rfl⟩ := xw_of hb
  clear hb
  go_wp2_with fail
  go_at_call 19
  refine (parse_any (bs (showV ⟨k, n, tx s⟩)) HZ2.out _).mono ?_
  rintro e w2 ⟨rfl, hb2⟩
  obtain ⟨r2, d2, rfl⟩ := xw_of hb2
  clear hb2
  cases hm : mayV ⟨k, n, tx s⟩ with
  | false =>
    have HM := Kept.mk hm
    rewrite [showV_no k n s hm]
    rewrite [show paV (parseB (tx (bs []))) = .tuple #[va 0 0 ⟨#[]⟩, .int .i64 4] from rfl]
    clear hm
    have hRV : Kept (∀ W, Calls Try.prog 20 #[va k n s] W (fun e w' => e = .returned (.string (bs [])) ∧ Below W.heap.size W w')) := ⟨fun W => by
      have h := rvshow_any k n H0.out HN.out s W
      rw [showV_no k n s HM.out] at h
      exact h⟩
    obtain ⟨x0, x1, x2, _⟩ := HBX.out.c0
    have hz := HZ.out
    have ht : (bs []).toList.isEmpty = true := by rw [isE_tx, tx_bs]; rfl
    go_wp2_with (first
      | (go_at_call 20; refine (hRV.out _).mono ?_; rintro e w3 ⟨rfl, hb3⟩; obtain ⟨r3, d3, rfl⟩ := xw_of hb3; clear hb3)
      | (go_at_call 10; refine (may_any k n s _).mono ?_; rintro e w8 ⟨rfl, hb8⟩; obtain ⟨r8, d8, rfl⟩ := xw_of hb8; clear hb8; rewrite [HM.out])
      | (go_at_call 14; refine (live_any _).mono ?_; rintro e w9 ⟨rfl, hb9⟩; obtain ⟨r9, d9, rfl⟩ := xw_of hb9; clear hb9))
    go_returns
    exact ⟨rfl, below_xw ((below_xw HBW.out HBW.out.size _ _).alloc (by rw [xw_size]; have := HBW.out.size; omega) _) (by rw [World.size_alloc, xw_size]; have := HBW.out.size; omega) _ _⟩
  | true =>
    have HM := Kept.mk hm
    rewrite [HPS.out hm, paV_ok]
    clear hm
    generalize hS : bs (showV ⟨k, n, tx s⟩) = S
    have HRV : Kept (∀ W, Calls Try.prog 20 #[va k n s] W (fun e w' => e = .returned (.string S) ∧ Below W.heap.size W w')) := ⟨fun W => by
      have h := rvshow_any k n H0.out HN.out s W
      rw [hS] at h
      exact h⟩
    clear hS
    obtain ⟨x0, x1, x2, _⟩ := HBX.out.c0
    have hz := HZ.out
    go_wp2_with (first
      | (go_at_call 20; refine (HRV.out _).mono ?_; rintro e w3 ⟨rfl, hb3⟩; obtain ⟨r3, d3, rfl⟩ := xw_of hb3; clear hb3)
      | (go_at_call 10; refine (may_any k n s _).mono ?_; rintro e w8 ⟨rfl, hb8⟩; obtain ⟨r8, d8, rfl⟩ := xw_of hb8; clear hb8; rewrite [HM.out])
      | (go_at_call 14; refine (live_any _).mono ?_; rintro e w9 ⟨rfl, hb9⟩; obtain ⟨r9, d9, rfl⟩ := xw_of hb9; clear hb9))
    go_returns
    exact ⟨rfl, below_xw ((below_xw HBW.out HBW.out.size _ _).alloc (by rw [xw_size]; have := HBW.out.size; omega) _) (by rw [World.size_alloc, xw_size]; have := HBW.out.size; omega) _ _⟩
end Go.Proofs.Ytmibpaegcbaaaaa
