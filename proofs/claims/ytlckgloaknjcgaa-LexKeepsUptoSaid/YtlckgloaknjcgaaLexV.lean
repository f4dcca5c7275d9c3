/- Layer 19 (lex): what must be whatever is asked, walked. -/
import Derived.Test.YtlckgloaknjcgaaLexJ
namespace Go.Proofs.Ytlckgloaknjcgaa
open Go.RowKit
set_option linter.unusedVariables false
set_option linter.unusedSimpArgs false

theorem SpP.ok {ty : TypeId} {w : World} {q : Except Int (List Tok)} {en : Ending} {w' : World} {us : List Tok} (h : SpP ty w q en w') (hq : q = .ok us) : Below w.heap.size w w' ∧ ∃ v, en = .returned (.tuple #[v, .int .i64 0]) ∧ HasT w' v us := by
  obtain ⟨hb, v, er, ts, he, hT, h2, h3⟩ := h
  rw [hq] at h2
  by_cases c : er = 0
  · rw [if_pos c] at h2
    injection h2 with h2
    subst h2 c
    exact ⟨hb, v, he, hT⟩
  · rw [if_neg c] at h2; cases h2
theorem SpP.err {ty : TypeId} {w : World} {q : Except Int (List Tok)} {en : Ending} {w' : World} {e : Int} (h : SpP ty w q en w') (hq : q = .error e) : Below w.heap.size w w' ∧ ∃ v, en = .returned (.tuple #[v, .int .i64 e]) := by
  obtain ⟨hb, v, er, ts, he, hT, h2, h3⟩ := h
  rw [hq] at h2
  by_cases c : er = 0
  · rw [if_pos c] at h2; cases h2
  · rw [if_neg c] at h2
    injection h2 with h2
    subst h2
    exact ⟨hb, v, he⟩
def liveT : List Tok := [(1, [97]), (4, [60, 61]), (2, [49, 50]), (4, [43]), (3, [39, 98, 32, 99, 39])]
theorem live1 : splitB [97, 60, 61, 49, 50, 43, 39, 98, 32, 99, 39] = .ok liveT := by rfl
theorem live2 : splitB [97, 32, 33] = .error 24 := by rfl
theorem live3 : splitB [39, 97] = .error 5 := by rfl

set_option maxRecDepth 100000 in
set_option maxHeartbeats 1000000 in
theorem live_any (w : World) : Calls Try.prog 7 #[] w (fun e w' => e = .returned (.bool true) ∧ Below w.heap.size w w') := by
  go_enter Try.func7, Try.ntmps7
  go_wp2_with fail
  go_at_call 8
  refine (split_any _ (by decide) _).mono ?_
  rintro e w1 hS1
  obtain ⟨hb1, v1, rfl, hT1⟩ := hS1.ok live1
  have HB1 := Kept.mk hb1
  clear hS1 hb1
  go_wp2_with fail
  go_at_call 8
  refine (split_any _ (by decide) _).mono ?_
  rintro e w2 hS2
  obtain ⟨hb2, v2, rfl⟩ := hS2.err live2
  have hT2 := hT1.below hb2
  have HB2 := Kept.mk (HB1.out.trans (hb2.mono HB1.out.size))
  clear hS2 hb2 hT1
  go_wp2_with fail
  go_at_call 8
  refine (split_any _ (by decide) _).mono ?_
  rintro e w3 hS3
  obtain ⟨hb3, v3, rfl⟩ := hS3.err live3
  have hT3 := hT2.below hb3
  have HB3 := Kept.mk (HB2.out.trans (hb3.mono HB2.out.size))
  clear hS3 hb3 hT2
  have HT := Kept.mk hT3
  obtain ⟨A, c, rfl, hA⟩ := hT3
  obtain ⟨b, off, rfl, _, hc⟩ := hA (by decide)
  obtain ⟨_, e1⟩ := hc 1 (by decide)
  obtain ⟨e2, _⟩ := hc 2 (by decide)
  have f1 : w3.cell? ⟨b, off + 2 + 1, none⟩ = some (.string ⟨#[60, 61]⟩) := e1
  have f2 : w3.cell? ⟨b, off + 4, none⟩ = some (.int .i64 2) := e2
  have e5 : liveT.length = 5 := rfl
  rewrite [e5] at HT ⊢
  clear hc hA e1 e2
  go_wp2_with fail
  go_at_call 13
  refine (join_any _ liveT _ HT.out (by decide) (by decide)).mono ?_
  rintro e w4 ⟨rfl, hb4⟩
  have HB4 := Kept.mk (HB3.out.trans (hb4.mono HB3.out.size))
  clear hb4
  rewrite [show bs (joinB (texts liveT)) = ⟨#[97, 32, 60, 61, 32, 49, 50, 32, 43, 32, 39, 98, 32, 99, 39]⟩ from rfl]
  go_wp2_with fail
  go_returns
  exact ⟨rfl, HB4.out⟩

/-! ### the law -/
theorem SpP.same {t1 t2 : TypeId} {w w' u u' : World} {q : Except Int (List Tok)} {en en' : Ending} (h : SpP t1 w q en w') (h' : SpP t2 u q en' u') :
    Below w.heap.size w w' ∧ Below u.heap.size u u' ∧ ∃ v v' er ts, en = .returned (.tuple #[v, .int .i64 er]) ∧ en' = .returned (.tuple #[v', .int .i64 er]) ∧ HasT w' v ts ∧ HasT u' v' ts ∧ (q = .ok ts ∨ ts = []) := by
  cases hq : q with
  | error e =>
    obtain ⟨hb, v, er, ts, he, hT, h2, h3⟩ := h
    obtain ⟨hb', v', er', ts', he', hT', h2', h3'⟩ := h'
    rw [hq] at h2 h2'
    by_cases c : er = 0
    · rw [if_pos c] at h2; cases h2
    · by_cases c' : er' = 0
      · rw [if_pos c'] at h2'; cases h2'
      · rw [if_neg c] at h2
        rw [if_neg c'] at h2'
        injection h2 with h2
        injection h2' with h2'
        have e1 := h3 c
        have e2 := h3' c'
        subst h2 e1 e2
        subst h2'
        exact ⟨hb, hb', v, v', _, [], he, he', hT, hT', .inr rfl⟩
  | ok us =>
    obtain ⟨hb, v, he, hT⟩ := h.ok hq
    obtain ⟨hb', v', he', hT'⟩ := h'.ok hq
    exact ⟨hb, hb', v, v', 0, us, he, he', hT, hT', .inl rfl⟩
theorem split_count (f : Nat) (l : Bs) (us : List Tok) (h : splitF f l = .ok us) : us.length ≤ l.length := by
  induction f generalizing l us with
  | zero => simp only [splitF, Except.ok.injEq] at h; subst h; simp
  | succ f ih =>
    cases l with
    | nil => simp only [splitF, Except.ok.injEq] at h; subst h; simp
    | cons b t =>
      simp only [splitF] at h
      split at h
      · have := ih t us h; simp; omega
      · split at h
        · cases h
        · rename_i k n hf
          obtain ⟨h1, h2⟩ := first_len hf
          split at h
          · cases h
          · rename_i r hr
            simp only [Except.ok.injEq] at h
            subst h
            have := ih _ _ hr
            simp only [List.length_drop, List.length_cons] at this ⊢
            omega
set_option maxRecDepth 100000 in
set_option maxHeartbeats 1000000 in
theorem LexSplits_any (s : ByteArray) (hs : s.size ≤ 140737488355328) (w : World) :
    Calls Try.prog 3 #[.string s] w (fun e w' => e = .returned (.bool true) ∧ Below w.heap.size w w') := by
  have HS := Kept.mk hs
  clear hs
  go_enter Try.func3, Try.ntmps3
  by_cases c : 200 < s.size
  · have c' : 200 < (s.size : Int) := by omega
    clear c
    go_wp2_with (first | (go_at_call 7; refine (live_any _).mono ?_; rintro e w1 ⟨rfl, hb1⟩))
    go_returns
    exact ⟨rfl, hb1⟩
  · have c' : ¬ (200 < (s.size : Int)) := by omega
    have HC := Kept.mk c
    clear c
    go_wp2_with fail
    go_at_call 8
    refine (split_any s (by have := HC.out; omega) _).mono ?_
    rintro e w1 hS1
    have HS1 := Kept.mk hS1
    obtain ⟨hb1, v1, er1, ts1, rfl, hT1, _⟩ := hS1
    have HB1 := Kept.mk hb1
    clear hb1 hT1
    go_wp2_with fail
    go_at_call 9
    refine (rsplit_any s (by have := HC.out; omega) _).mono ?_
    rintro e w2 hS2
    obtain ⟨_, hb2, v, v', er, ts, h1, rfl, hT1, hT2, hq⟩ := HS1.out.same hS2
    injection h1 with h1
    injection h1 with h1
    simp only [Array.mk.injEq, List.cons.injEq, Value.int.injEq, true_and, and_true] at h1
    obtain ⟨rfl, rfl⟩ := h1
    have hts : ts.length ≤ 140737488355328 := by
      rcases hq with hq | rfl
      · have := split_count _ _ _ hq
        rw [tx_len] at this
        have := HC.out
        omega
      · simp
    have HT1 := Kept.mk (hT1.below hb2)
    have HT2 := Kept.mk hT2
    have HTS := Kept.mk hts
    have HB2 := Kept.mk (HB1.out.trans (hb2.mono HB1.out.size))
    clear hS2 hb2 hT1 hT2 hts hq
    go_wp2_with fail
    go_at_call 7
    refine (live_any _).mono ?_
    rintro e w3 ⟨rfl, hb3⟩
    have HB3 := Kept.mk (HB2.out.trans (hb3.mono HB2.out.size))
    have HT1' := Kept.mk (HT1.out.below hb3)
    have HT2' := Kept.mk (HT2.out.below hb3)
    clear hb3
    go_wp2_with fail
    go_at_call 10
    refine (alike_any _ _ ts HTS.out _ HT1'.out HT2'.out).mono ?_
    rintro e w4 ⟨rfl, hb4⟩
    have HB4 := Kept.mk (HB3.out.trans (hb4.mono HB3.out.size))
    clear hb4
    go_wp2_with fail
    go_returns
    exact ⟨rfl, HB4.out⟩
end Go.Proofs.Ytlckgloaknjcgaa
