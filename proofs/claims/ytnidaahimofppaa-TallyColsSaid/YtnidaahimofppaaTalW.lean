/- Layer 26 (tally): Put, walked (no extremes, no leans). -/
import Derived.Test.YtnidaahimofppaaTalV
import Derived.Deep.DeepCutAuto
namespace Go.Proofs.Ytnidaahimofppaa
open Go.RowKit Go.Maps
set_option linter.unusedVariables false
set_option linter.unusedSimpArgs false

theorem zeroI (w : World) : (zeroValue 3).run Try.prog w = .ok (.int .i64 0) w := by kernel_rfl
theorem staput_any (n k m : Int) (s : ByteArray) (w : World) : Calls Try.prog 104 #[.agg #[], va k m s, .int .i64 n] w (fun e w' => e = .returned (.tuple #[]) ∧ Below w.heap.size w w') := by
  go_enter Try.func104, Try.ntmps104
  go_wp2_with fail
  go_returns
  exact ⟨rfl, ((Below.refl _ _).alloc (Nat.le_refl _) _).alloc (by simp) _⟩
theorem PartAt.tyV {w : World} {f : List Nat} {v : Value} {p : Pt} (h : PartAt w f v p) : ∀ k ∈ f, ∃ arr ty fr, w.heap[k]? = some (.cells arr ty fr) ∧ ty ≠ 68 := by
  cases p with
  | cnt n =>
    obtain ⟨g, h1, rfl, h3⟩ := h
    intro k hk
    simp at hk
    subst hk
    exact ⟨_, _, _, h3, by decide⟩
  | tot n =>
    obtain ⟨g, h1, rfl, _, h3⟩ := h
    intro k hk
    simp at hk
    subst hk
    exact ⟨_, _, _, h3, by decide⟩
  | ext _ => intro k hk; rw [show f = [] from h] at hk; simp at hk
  | sid _ => intro k hk; rw [show f = [] from h] at hk; simp at hk
  | sta => intro k hk; rw [h.2] at hk; simp at hk
/-- A row lies there, out of the way. -/
def Apart (w : World) (B b : Nat) : Prop := b < B ∨ ∃ arr fr, w.heap[b]? = some (.cells arr 68 fr)
def HasS (w : World) (B : Nat) (v : Value) (r : List Vr) : Prop := HasR w w.heap.size v r ∧ (r ≠ [] → ∃ b off c, v = .slice (some ⟨b, off, none⟩) r.length c ∧ b < w.heap.size ∧ Apart w B b)
theorem TalIn.apt {w : World} {B B1 g gm : Nat} {sv av pv : Value} {ts : List Trd} {cs : List Cl} {ags : List Vr} {m : List UInt8 → Int} {nm : Nat} {cnt : Int} (h : TalIn w B B1 g gm sv av pv ts cs ags m nm cnt) {b : Nat} (hb : Apart w B b) :
    b ≠ g ∧ b ≠ gm ∧ ∀ t ∈ ts, b ∉ t.2.1 := by
  have h1 := h.base
  have h2 := h.gB
  have h3 := h.mB
  rcases hb with hb | ⟨arr, fr, hb⟩
  · exact ⟨by omega, by omega, fun t ht e => by have := (h.parts t ht).2 b e; omega⟩
  · refine ⟨?_, ?_, fun t ht e => ?_⟩
    · rintro rfl
      rw [h.box] at hb
      injection hb with hb
      injection hb with _ h4 _
      exact absurd h4 (by decide)
    · rintro rfl
      obtain ⟨_, _, h4⟩ := h.map.blk
      rw [h4] at hb
      injection hb with hb
      cases hb
    · obtain ⟨_, ty, _, h4, h5⟩ := (h.parts t ht).1.tyV b e
      rw [h4] at hb
      injection hb with hb
      injection hb with _ h6 _
      exact h5 h6
def TPutP (w : World) (B g : Nat) (cs : List Cl) (ags : List Vr) (ps : List Pt) (m : List UInt8 → Int) (nm : Nat) (cnt : Int) (r : List Vr) (n : Int) (e : Ending) (w' : World) : Prop :=
  e = .returned (.int .i64 (errT cs m cnt r n)) ∧ Below B w w' ∧ (errT cs m cnt r n ≠ 0 → TalAt w' B g cs ags ps m nm cnt) ∧
  (errT cs m cnt r n = 0 → TalAt w' B g cs ags (ptsPut r n ags ps) (updM m (keyR r) (m (keyR r) + n)) (nm + 1) (cnt + n))
def OneP (wr : World) (f : List Nat) (v : Value) (p : Pt) (wx : World) : Prop := ∃ f', PartAt wx f' v p ∧ Chg f wr wx ∧ ∀ k ∈ f', k ∈ f ∨ wr.heap.size ≤ k
def PuL (w : World) (B B1 g gm b : Nat) (sv av pv : Value) (cs : List Cl) (ags : List Vr) (ps : List Pt) (m : List UInt8 → Int) (nm : Nat) (cnt : Int) (r : List Vr) (n : Int) (v77 : Value) (wr : World) : Prop :=
  ∃ (i : Nat) (ts : List Trd), v77 = .int .i64 (i : Int) ∧ Kept (i ≤ ps.length ∧ TalIn wr B B1 g gm sv av pv ts cs ags m nm cnt ∧ ts.map (·.2.2) = mixP r n ags ps i ∧ Below B w wr ∧ wr.heap[b]? = w.heap[b]?)
theorem errT_17 {cs : List Cl} {m : List UInt8 → Int} {cnt : Int} {r : List Vr} {n : Int} (h : fitsC cs r = false) : errT cs m cnt r n = 17 := if_pos h
theorem errT_2 {cs : List Cl} {m : List UInt8 → Int} {cnt : Int} {r : List Vr} {n : Int} (h : fitsC cs r = true) (h2 : 1048576 < n ∨ n < -1048576) : errT cs m cnt r n = 2 := by
  unfold errT
  rw [if_neg (by rw [h]; decide), if_pos h2]
theorem errT_20 {cs : List Cl} {m : List UInt8 → Int} {cnt : Int} {r : List Vr} {n : Int} (h : fitsC cs r = true) (h2 : ¬ (1048576 < n ∨ n < -1048576)) (h3 : m (keyR r) + n < 0) : errT cs m cnt r n = 20 := by
  unfold errT
  rw [if_neg (by rw [h]; decide), if_neg h2, if_pos h3]
theorem errT_7 {cs : List Cl} {m : List UInt8 → Int} {cnt : Int} {r : List Vr} {n : Int} (h : fitsC cs r = true) (h2 : ¬ (1048576 < n ∨ n < -1048576)) (h3 : ¬ m (keyR r) + n < 0) (h4 : 1048576 < cnt + n) : errT cs m cnt r n = 7 := by
  unfold errT
  rw [if_neg (by rw [h]; decide), if_neg h2, if_neg h3, if_pos h4]
theorem errT_0 {cs : List Cl} {m : List UInt8 → Int} {cnt : Int} {r : List Vr} {n : Int} (h : fitsC cs r = true) (h2 : ¬ (1048576 < n ∨ n < -1048576)) (h3 : ¬ m (keyR r) + n < 0) (h4 : ¬ 1048576 < cnt + n) : errT cs m cnt r n = 0 := by
  unfold errT
  rw [if_neg (by rw [h]; decide), if_neg h2, if_neg h3, if_neg h4]
end Go.Proofs.Ytnidaahimofppaa
