/- Layer 26 (tally): a tally told by the copies that are in it: New, Put, Count, Row. -/
import Derived.Test.YtnidaahimofppaaQuba
import Derived.Test.YtnidaahimofppaaQube
import Derived.Test.YtnidaahimofppaaQubc
import Derived.Test.YtnidaahimofppaaQual
import Derived.Test.YtnidaahimofppaaQuaj
namespace Go.Proofs.Ytnidaahimofppaa
open Go.RowKit Go.Maps
set_option linter.unusedVariables false
set_option linter.unusedSimpArgs false

/-- Aggregates that may be. -/
structure AgOk (cs : List Cl) (ags : List Vr) : Prop where
  len : ags.length ≤ 8
  one : 1 ≤ cs.length
  each : ∀ a ∈ ags, (0 ≤ a.n ∧ a.n < cs.length) ∧ 1 ≤ a.k ∧ a.k ≤ 7
theorem chkT_ok {cs : List Cl} {a : Vr} (h1 : 1 ≤ cs.length) (h : chkT cs a = 0) : (0 ≤ a.n ∧ a.n < cs.length) ∧ 1 ≤ a.k ∧ a.k ≤ 7 := by
  unfold chkT at h
  split at h
  · simp at h
  · rename_i c1
    have hk : 1 ≤ a.k ∧ a.k ≤ 7 := ⟨by omega, by omega⟩
    split at h
    · split at h
      · rename_i c3
        exact ⟨by omega, hk⟩
      · simp at h
    · split at h
      · simp at h
      · exact ⟨by omega, hk⟩
theorem colsL_each {cs out : List Cl} {ags : List Vr} (h : (colsL cs out ags).2 = 0) : ∀ a ∈ ags, chkT cs a = 0 := by
  induction ags generalizing out with
  | nil => simp
  | cons a r ih =>
    unfold colsL at h
    split at h
    · rename_i c; exact absurd h c
    · rename_i c
      split at h
      · simp at h
      · intro x hx
        rcases List.mem_cons.1 hx with rfl | hx
        · omega
        · exact ih h x hx
theorem AgOk.of {cs : List Cl} {ags : List Vr} (h : (colsV cs ags).2 = 0) : AgOk cs ags := by
  unfold colsV at h
  split at h
  · simp at h
  · rename_i m1
    have hm : mayC cs = true := by simpa using m1
    have h1 := (mayC_iff.1 hm).1.1
    split at h
    · simp at h
    · exact ⟨by omega, h1, fun a ha => chkT_ok h1 (colsL_each h a ha)⟩
/-- Not too much yet, after nm puts. -/
structure TalBd (nm : Nat) (ps : List Pt) (m : List UInt8 → Int) (cnt : Int) : Prop where
  parts : ∀ p ∈ ps, okPt nm p
  map : ∀ k, -((nm : Int) * 1048576) ≤ m k ∧ m k ≤ (nm : Int) * 1048576
  cnt : -((nm : Int) * 1048576) ≤ cnt ∧ cnt ≤ (nm : Int) * 1048576
theorem TalBd.up {nm : Nat} {ps : List Pt} {m : List UInt8 → Int} {cnt : Int} (h : TalBd nm ps m cnt) : TalBd (nm + 1) ps m cnt :=
  ⟨fun p hp => okPt_up (h.parts p hp), fun k => by have := h.map k; omega, by have := h.cnt; omega⟩
theorem TalBd.put {cs : List Cl} {nm : Nat} {ags : List Vr} {ps : List Pt} {m : List UInt8 → Int} {cnt : Int} {r : List Vr} {n : Int} (h : TalBd nm ps m cnt) (hx : ∀ a ∈ ags, okH (valAt r a.n).n) (h1 : n ≤ 1048576) (h2 : -1048576 ≤ n) :
    TalBd (nm + 1) (ptsPut r n ags ps) (updM m (keyR r) (m (keyR r) + n)) (cnt + n) := by
  refine ⟨fun p hp => ?_, fun k => ?_, by have := h.cnt; omega⟩
  · unfold ptsPut at hp
    rw [List.zipWith_eq_zipWith_take_min] at hp
    obtain ⟨i, hi, rfl⟩ := List.getElem_of_mem hp
    rw [List.getElem_zipWith]
    exact okPt_put (h.parts _ (by rw [List.getElem_take]; exact List.getElem_mem _)) (hx _ (by rw [List.getElem_take]; exact List.getElem_mem _)) h1 h2
  · have h3 := h.map (keyR r)
    have h4 := h.map k
    unfold updM
    split <;> omega
theorem ptOf_ok (k : Int) : okPt 0 (ptOf k) := by
  unfold ptOf
  split
  · simp [okPt]
  split
  · simp [okPt]
  split
  · trivial
  split
  · simp [okPt]
  · trivial
theorem TalBd.new (ags : List Vr) : TalBd 0 (partsOf ags) (fun _ => 0) 0 := by
  refine ⟨fun p hp => ?_, fun k => by simp, by simp⟩
  unfold partsOf at hp
  obtain ⟨a, _, rfl⟩ := List.mem_map.1 hp
  exact ptOf_ok a.k
theorem TalIn.mono {w : World} {B B1 g gm : Nat} {sv av pv : Value} {ts : List Trd} {cs : List Cl} {ags : List Vr} {m : List UInt8 → Int} {nm nm' : Nat} {cnt : Int} (h : TalIn w B B1 g gm sv av pv ts cs ags m nm cnt) (hn : nm ≤ nm') : TalIn w B B1 g gm sv av pv ts cs ags m nm' cnt :=
  ⟨h.base, h.svB, h.avB, h.gB, h.mB, h.box, h.sch, h.agg, h.map.mono hn, h.row, h.parts, h.apart⟩
theorem TalFt.mono {w : World} {B g : Nat} {F D : List Nat} {cs : List Cl} {ags : List Vr} {ps : List Pt} {m : List UInt8 → Int} {nm nm' : Nat} {cnt : Int} (h : TalFt w B g F D cs ags ps m nm cnt) (hn : nm ≤ nm') : TalFt w B g F D cs ags ps m nm' cnt := by
  obtain ⟨B1, gm, sv, av, pv, ts, h1, h2⟩ := h
  exact ⟨B1, gm, sv, av, pv, ts, h1.mono hn, h2⟩
/-- A tally of these copies, after nm puts at most. -/
def TalS (w : World) (B g : Nat) (F D : List Nat) (cs : List Cl) (ags : List Vr) (L : Cps) (ps : List Pt) (nm : Nat) : Prop :=
  ∃ m cnt, TalFt w B g F D cs ags ps m nm cnt ∧ TalC cs ags L ps m cnt ∧ TalBd nm ps m cnt
theorem TalS.keep {w w' : World} {B g : Nat} {F D f : List Nat} {cs : List Cl} {ags : List Vr} {L : Cps} {ps : List Pt} {nm : Nat} (h : TalS w B g F D cs ags L ps nm) (hc : Chg f w w') (hf : ∀ k ∈ f, k ∉ F ∧ k ∉ D) : TalS w' B g F D cs ags L ps nm := by
  obtain ⟨m, cnt, h1, h2⟩ := h
  exact ⟨m, cnt, h1.keep hc hf, h2⟩
theorem TalS.below {w w' : World} {B g : Nat} {F D : List Nat} {cs : List Cl} {ags : List Vr} {L : Cps} {ps : List Pt} {nm : Nat} (h : TalS w B g F D cs ags L ps nm) (hb : Below w.heap.size w w') : TalS w' B g F D cs ags L ps nm := h.keep (f := []) (Chg.of hb) (by simp)
theorem TalS.inF {w : World} {B g : Nat} {F D : List Nat} {cs : List Cl} {ags : List Vr} {L : Cps} {ps : List Pt} {nm : Nat} (h : TalS w B g F D cs ags L ps nm) {k : Nat} (hk : k ∈ F) : B ≤ k ∧ k < w.heap.size := by
  obtain ⟨m, cnt, h1, h2⟩ := h
  exact h1.inF hk
theorem TalS.inD {w : World} {B g : Nat} {F D : List Nat} {cs : List Cl} {ags : List Vr} {L : Cps} {ps : List Pt} {nm : Nat} (h : TalS w B g F D cs ags L ps nm) {k : Nat} (hk : k ∈ D) : B ≤ k ∧ k < w.heap.size := by
  obtain ⟨m, cnt, h1, h2⟩ := h
  exact h1.inD hk
theorem TalS.sz {w : World} {B g : Nat} {F D : List Nat} {cs : List Cl} {ags : List Vr} {L : Cps} {ps : List Pt} {nm : Nat} (h : TalS w B g F D cs ags L ps nm) : B ≤ w.heap.size := by
  obtain ⟨m, cnt, ⟨B1, gm, sv, av, pv, ts, h1, h2⟩, _⟩ := h
  have := h1.base
  have := h1.gB
  have := h1.lt
  omega
theorem TalS.good {w : World} {B g : Nat} {F D : List Nat} {cs : List Cl} {ags : List Vr} {L : Cps} {ps : List Pt} {nm : Nat} (h : TalS w B g F D cs ags L ps nm) : GoodC cs L ∧ cntC L ≤ 1048576 ∧ ags.length = ps.length := by
  obtain ⟨m, cnt, _, h1, _⟩ := h
  exact ⟨h1.good, h1.full, h1.len⟩
theorem TalS.parts {w : World} {B g : Nat} {F D : List Nat} {cs : List Cl} {ags : List Vr} {L : Cps} {ps : List Pt} {nm : Nat} (h : TalS w B g F D cs ags L ps nm) : ∀ i (h1 : i < ags.length) (h2 : i < ps.length), ptIs ags[i] L ps[i] := by
  obtain ⟨m, cnt, _, h1, _⟩ := h
  exact h1.parts
/-- Tallies with the same sums have the same parts. -/
theorem TalS.one {w u : World} {B B' g g' : Nat} {F D F' D' : List Nat} {cs : List Cl} {ags : List Vr} {L M : Cps} {ps qs : List Pt} {nm nm' : Nat} (h : TalS w B g F D cs ags L ps nm) (h' : TalS u B' g' F' D' cs ags M qs nm') (hs : ∀ f, sumC L f = sumC M f) : ps = qs ∧ cntC L = cntC M := by
  obtain ⟨m, cnt, _, h1, _⟩ := h
  obtain ⟨m', cnt', _, h2, _⟩ := h'
  exact ⟨(parts_one h1 h2 hs).1, hs _⟩
def errC (cs : List Cl) (L : Cps) (r : List Vr) (n : Int) : Int :=
  if fitsC cs r = false then 17 else if 1048576 < n ∨ n < -1048576 then 2 else if hasC L r 0 + n < 0 then 20 else if 1048576 < cntC L + n then 7 else 0
def putC (cs : List Cl) (L : Cps) (r : List Vr) (n : Int) : Cps := if errC cs L r n = 0 then addC L r n else L
theorem errC_T {cs : List Cl} {ags : List Vr} {L : Cps} {ps : List Pt} {m : List UInt8 → Int} {cnt : Int} (h : TalC cs ags L ps m cnt) (r : List Vr) (n : Int) : errT cs m cnt r n = errC cs L r n := by
  unfold errT errC
  cases hf : fitsC cs r with
  | false => rfl
  | true => rw [h.map r hf, h.cnt]
/-- What New leaves. -/
def NewS (w : World) (cs : List Cl) (ags : List Vr) (e : Ending) (w' : World) : Prop :=
  ((∃ c, (colsV cs ags).2 = c ∧ c ≠ 0 ∧ e = .returned (.tuple #[.pointer none, .int .i64 c])) ∨
   ((colsV cs ags).2 = 0 ∧ ∃ g F D, e = .returned (.tuple #[.pointer (some ⟨g, 0, none⟩), .int .i64 0]) ∧ TalS w' w.heap.size g F D cs ags [] (partsOf ags) 0)) ∧ Below w.heap.size w w'
theorem sNew_any (v u : Value) (cs : List Cl) (ags : List Vr) (w : World) (H1 : HasC w w.heap.size v cs) (H2 : HasR w w.heap.size u ags) :
    Calls Try.prog 8 #[v, u] w (NewS w cs ags) := by
  refine (New_any v u cs ags w H1 H2).mono ?_
  rintro e w' ⟨h | ⟨h0, g, rfl, hT⟩, hb⟩
  · exact ⟨.inl h, hb⟩
  · obtain ⟨F, D, hF⟩ := hT.ft
    exact ⟨.inr ⟨h0, g, F, D, rfl, _, _, hF, TalC.new cs ags (fun a ha => ((AgOk.of h0).each a ha).2), TalBd.new ags⟩, hb⟩
def PutS (w : World) (B g : Nat) (F D : List Nat) (cs : List Cl) (ags : List Vr) (L : Cps) (ps : List Pt) (nm : Nat) (r : List Vr) (n : Int) (e : Ending) (w' : World) : Prop :=
  e = .returned (.int .i64 (errC cs L r n)) ∧ Chg F w w' ∧ ∃ F' ps', TalS w' B g F' D cs ags (putC cs L r n) ps' (nm + 1) ∧ (∀ k ∈ F', k ∈ F ∨ w.heap.size ≤ k) ∧ (errC cs L r n ≠ 0 → ps' = ps)
theorem sPut_any (w : World) (B g : Nat) (F D : List Nat) (cs : List Cl) (ags : List Vr) (L : Cps) (ps : List Pt) (nm : Nat) (v : Value) (r : List Vr) (n : Int)
    (H : TalS w B g F D cs ags L ps nm) (HA : AgOk cs ags) (HR : HasS w B v r) (hr : RngR r) (hnm : nm ≤ 900) (hn : -9223372036854775808 ≤ n ∧ n ≤ 9223372036854775807) :
    Calls Try.prog 11 #[.pointer (some ⟨g, 0, none⟩), v, .int .i64 n] w (PutS w B g F D cs ags L ps nm r n) := by
  obtain ⟨m, cnt, hF, hC, hB⟩ := H
  have he := errC_T hC r n
  refine (tPut_any w B g F D cs ags ps m nm cnt v r n hF HR hr hB.parts hC.len (by rw [← hC.len]; exact HA.len) (fun a ha => (HA.each a ha).1) hnm hB.map hB.cnt hn).mono ?_
  rintro e w' ⟨rfl, hc, h1, h2⟩
  rw [he] at h1 h2 ⊢
  refine ⟨rfl, hc, ?_⟩
  by_cases h0 : errC cs L r n = 0
  · obtain ⟨F', hF', hf⟩ := h2 h0
    rw [h0] at he
    obtain ⟨q1, q2, q3, q4, q5⟩ := errT_iff.1 he
    refine ⟨F', _, ⟨_, _, hF', by unfold putC; rw [if_pos h0]; exact hC.put (fun a ha => (HA.each a ha).1) hr he, hB.put (cs := cs) (fun a ha => ?_) q2 q3⟩, hf, fun h => absurd h0 h⟩
    obtain ⟨q6, q7⟩ := (HA.each a ha).1
    exact hr _ (valAt_mem q6 (by rw [(fits_len q1).1]; exact q7))
  · exact ⟨F, ps, ⟨m, cnt, (h1 h0).mono (by omega), by unfold putC; rw [if_neg h0]; exact hC, hB.up⟩, fun k hk => .inl hk, fun _ => rfl⟩
theorem sCount_any (w : World) (B g : Nat) (F D : List Nat) (cs : List Cl) (ags : List Vr) (L : Cps) (ps : List Pt) (nm : Nat) (H : TalS w B g F D cs ags L ps nm) :
    Calls Try.prog 12 #[.pointer (some ⟨g, 0, none⟩)] w (fun e w' => e = .returned (.int .i64 (cntC L)) ∧ w = w') := by
  obtain ⟨m, cnt, hF, hC, hB⟩ := H
  rw [← hC.cnt]
  exact tCount_any w B g cs ags ps m nm cnt hF.at
theorem sRow_any (w : World) (B g : Nat) (F D : List Nat) (cs : List Cl) (ags : List Vr) (L : Cps) (ps : List Pt) (nm : Nat) (start : Int) (H : TalS w B g F D cs ags L ps nm) (HA : AgOk cs ags) (hnm : nm ≤ 1000) :
    Calls Try.prog 13 #[.pointer (some ⟨g, 0, none⟩), .int .i64 start] w (RetR w (rowT (cntC L) start ps)) := by
  obtain ⟨m, cnt, hF, hC, hB⟩ := H
  rw [← hC.cnt]
  exact tRow_any w B g cs ags ps m nm cnt start hF.at nm hnm hB.parts (by rw [← hC.len]; exact HA.len)
theorem rowL_len (start : Int) (out : List Vr) (ps : List Pt) : (rowL start out ps).1.length ≤ out.length + ps.length := by
  induction ps generalizing out with
  | nil => simp [rowL]
  | cons p q ih =>
    unfold rowL
    split
    · simp
    · have := ih (out ++ [(tellP start p).1])
      simp at this ⊢
      omega
theorem rowT_len (cnt start : Int) (ps : List Pt) : (rowT cnt start ps).1.length ≤ ps.length := by
  unfold rowT
  split
  · simp
  · have := rowL_len start [] ps
    simpa using this
/-- A slice that a tally's puts leave alone. -/
def Off (w : World) (F : List Nat) (v : Value) : Prop := ∀ k, v.ownBlock = some k → k ∉ F ∧ k < w.heap.size
theorem Off.next {w w' : World} {F F' : List Nat} {v : Value} (h : Off w F v) (hc : Chg F w w') (hf : ∀ k ∈ F', k ∈ F ∨ w.heap.size ≤ k) : Off w' F' v := fun k hk => by
  obtain ⟨h1, h2⟩ := h k hk
  exact ⟨fun e => (hf k e).elim h1 (fun e => by omega), Nat.lt_of_lt_of_le h2 hc.size⟩
theorem Off.below {w w' : World} {F : List Nat} {v : Value} (h : Off w F v) (hb : Below w.heap.size w w') : Off w' F v := fun k hk => ⟨(h k hk).1, Nat.lt_of_lt_of_le (h k hk).2 hb.size⟩
theorem Off.of {w w' : World} {B g : Nat} {F D : List Nat} {cs : List Cl} {ags : List Vr} {L : Cps} {ps : List Pt} {nm : Nat} (h : TalS w B g F D cs ags L ps nm) {v : Value} {xs : List Vr} (hO : OwnR w' w.heap.size v xs) : Off w' F v := fun k hk => by
  have h1 := ownsRow_blk hO hk
  exact ⟨fun e => by have := (h.inF e).2; omega, h1.2⟩
theorem HasR.off {w w' : World} {F : List Nat} {v : Value} {xs : List Vr} (h : HasR w w.heap.size v xs) (ho : Off w F v) (hc : Chg F w w') : HasR w' w'.heap.size v xs :=
  (h.chg hc (Nat.le_refl _) (fun k hk => (ho k hk).1)).up hc.size
end Go.Proofs.Ytnidaahimofppaa

/- Layer 26 (tally): lists of puts, and of rows, in memory. -/
namespace Go.Proofs.Ytnidaahimofppaa
open Go.RowKit Go.Maps
set_option linter.unusedVariables false
set_option linter.unusedSimpArgs false

/-- A put: the row, where it lies, how many times. -/
structure Pv where
  v : Value
  r : List Vr
  n : Int
def PvOk (w : World) (B : Nat) (p : Pv) : Prop := HasR w B p.v p.r ∧ RngR p.r ∧ (-9223372036854775808 ≤ p.n ∧ p.n ≤ 9223372036854775807)
theorem PvOk.below {w w' : World} {B : Nat} {p : Pv} (h : PvOk w B p) (hb : Below B w w') : PvOk w' B p := ⟨h.1.below hb, h.2⟩
/-- The slice holds these puts, in blocks below B. -/
def HasP (w : World) (B : Nat) (v : Value) (xs : List Pv) : Prop := ∃ A c, v = .slice A xs.length c ∧ xs.length ≤ c ∧ (∀ p ∈ xs, PvOk w B p) ∧ (xs ≠ [] → ∃ b off, A = some ⟨b, off, none⟩ ∧ b < B ∧ ∀ i, (hi : i < xs.length) → w.cell? ⟨b, off + i * 2, none⟩ = some (xs[i]).v ∧ w.cell? ⟨b, off + i * 2 + 1, none⟩ = some (.int .i64 (xs[i]).n))
theorem HasP.below {w w' : World} {B : Nat} {v : Value} {xs : List Pv} (h : HasP w B v xs) (hb : Below B w w') : HasP w' B v xs := by
  obtain ⟨A, c, hv, hlc, hp, hc⟩ := h
  refine ⟨A, c, hv, hlc, fun p hp2 => (hp p hp2).below hb, fun hn => ?_⟩
  obtain ⟨b, off, hA, hlt, hcell⟩ := hc hn
  refine ⟨b, off, hA, hlt, fun i hi => ?_⟩
  obtain ⟨e0, e1⟩ := hcell i hi
  exact ⟨(World.cell?_of_block (hb.block b hlt)).trans e0, (World.cell?_of_block (hb.block b hlt)).trans e1⟩
/-- The slice holds these rows, in blocks below B (the numbers are not looked at). -/
def HasL (w : World) (B : Nat) (v : Value) (xs : List Pv) : Prop := ∃ A c, v = .slice A xs.length c ∧ xs.length ≤ c ∧ (∀ p ∈ xs, PvOk w B p) ∧ (xs ≠ [] → ∃ b off, A = some ⟨b, off, none⟩ ∧ b < B ∧ ∀ i, (hi : i < xs.length) → w.cell? ⟨b, off + i, none⟩ = some (xs[i]).v)
theorem HasL.below {w w' : World} {B : Nat} {v : Value} {xs : List Pv} (h : HasL w B v xs) (hb : Below B w w') : HasL w' B v xs := by
  obtain ⟨A, c, hv, hlc, hp, hc⟩ := h
  refine ⟨A, c, hv, hlc, fun p hp2 => (hp p hp2).below hb, fun hn => ?_⟩
  obtain ⟨b, off, hA, hlt, hcell⟩ := hc hn
  exact ⟨b, off, hA, hlt, fun i hi => (World.cell?_of_block (hb.block b hlt)).trans (hcell i hi)⟩
theorem HasR.own_lt {w : World} {B : Nat} {v : Value} {r : List Vr} (h : HasR w B v r) (hne : r ≠ []) : ∃ b off c, v = .slice (some ⟨b, off, none⟩) r.length c ∧ b < B := by
  obtain ⟨A, c, rfl, _, hc⟩ := h
  obtain ⟨b, off, rfl, hb, _⟩ := hc hne
  exact ⟨b, off, c, rfl, hb⟩
/-- A row that came in, as a put wants it. -/
theorem HasS.of {w w0 : World} {B0 B : Nat} {v : Value} {r : List Vr} (h : HasR w0 B0 v r) (hb : Below B0 w0 w) (hB0 : B0 ≤ B) (hB : B ≤ w.heap.size) : HasS w B v r := by
  refine ⟨(h.below hb).up (by omega), fun hne => ?_⟩
  obtain ⟨b, off, c, hv, hlt⟩ := h.own_lt hne
  exact ⟨b, off, c, hv, by omega, .inl (by omega)⟩
end Go.Proofs.Ytnidaahimofppaa

/- Layer 26 (tally): lists of puts, and of rows, that came in, opened. -/
namespace Go.Proofs.Ytnidaahimofppaa
open Go.RowKit
set_option linter.unusedVariables false
set_option linter.unusedSimpArgs false
section
open Go.ChangeShapes Go.WideShapes Go.Deep
variable {H : Type} {enc : TypeId × Value → H}
theorem cellsRW : Try.prog.cellsOf 37 = 1 := by kernel_rfl
instance : Inhabited Pv := ⟨⟨.slice none 0 0, [], 0⟩⟩
set_option maxRecDepth 100000 in
/-- A row that lies within something else. -/
theorem open_rowIn {W : World} {n : Nat} {cs : List Value} {x : DataW H × List MemPlace} (h : DataW.trod enc Try.prog W 0 (fun _ => true) true n 37 cs = some x) : ∃ v xs, cs = [v] ∧ HasR W W.heap.size v xs ∧ RngR xs := by
  have hlt := DataW.trod_lt _ _ _ _ h
  rcases open_slice Try.underlying37 h with ⟨hcs, hx⟩ | ⟨a, len, cap, m, n, D, Pl, hcs, _, hl, hm, hmm, hx, hcell⟩
  · exact ⟨_, [], hcs, HasR.nil W _, by intro x hx; simp at hx⟩
  · simp only [if_true] at hmm
    subst hmm
    rw [hx] at hlt
    have each : ∀ i, i < len → ∃ q : Vr, (W.cell? (a.add (i * 3)) = some (.int .i64 q.k) ∧ W.cell? (a.add (i * 3 + 1)) = some (.int .i64 q.n) ∧ W.cell? (a.add (i * 3 + 2)) = some (.string q.s)) ∧ -9223372036854775808 ≤ q.n ∧ q.n ≤ 9223372036854775807 := by
      intro i hi
      obtain ⟨cs', hc, ht⟩ := hcell i (by omega)
      rw [cellsV] at hc
      obtain ⟨q, rfl, r0, r1⟩ := open_value ht
      obtain ⟨_, _, hat⟩ := World.cells?_some hc
      refine ⟨q, ⟨?_, ?_, ?_⟩, r0, r1⟩
      · have := hat 0 (by omega)
        rw [Go.Deep.add_add] at this
        exact this
      · have := hat 1 (by omega)
        rw [Go.Deep.add_add] at this
        exact this
      · have := hat 2 (by omega)
        rw [Go.Deep.add_add] at this
        exact this
    obtain ⟨q, hq⟩ := choose_lt each
    refine ⟨_, (List.range len).map q, hcs, ⟨some a, m, by simp, by simpa using hl, fun hne => ?_⟩, ?_⟩
    · obtain ⟨b, off, spot⟩ := a
      have h0 : 0 < len := by
        rcases Nat.eq_zero_or_pos len with h0 | h0
        · subst h0; exact absurd rfl hne
        · exact h0
      have hspot : spot = none := by simpa [Addr.add] using World.cell?_spot (hq 0 h0).1.1
      subst hspot
      refine ⟨b, off, rfl, hlt (.cell b off) (List.mem_append_left _ (MemPlace.mem_row.2 ⟨0, by rw [cellsV]; omega, by simp⟩)), fun j hj => ?_⟩
      simp only [List.length_map, List.length_range] at hj
      obtain ⟨⟨e0, e1, e2⟩, _⟩ := hq j hj
      rw [Addr.add_lit] at e0 e1 e2
      rw [← Nat.add_assoc] at e1 e2
      simp only [List.getElem_map, List.getElem_range]
      exact ⟨e0, e1, e2⟩
    · intro x hx
      simp only [List.mem_map, List.mem_range] at hx
      obtain ⟨i, hi, rfl⟩ := hx
      exact (hq i hi).2
--IFPUT
theorem cellsPT : Try.prog.cellsOf 39 = 2 := by kernel_rfl
set_option maxRecDepth 100000 in
theorem open_putv {W : World} {n : Nat} {cs : List Value} {x : DataW H × List MemPlace} (h : DataW.trod enc Try.prog W 0 (fun _ => true) true n 39 cs = some x) : ∃ p : Pv, cs = [p.v, .int .i64 p.n] ∧ PvOk W W.heap.size p := by
  obtain ⟨ys, m, _, _, hl, hyl, hf⟩ := DataW.trod_struct Try.underlying39 h
  rw [cellsPT] at hl
  match cs, hl with
  | [c0, c1], _ =>
    have f0 := hf 0 _ rfl
    have f1 := hf 1 _ rfl
    match ys, hyl with
    | [y0, y1], _ =>
      have t0 : DataW.trod enc Try.prog W 0 (fun _ => true) true m 37 (([c0, c1].drop 0).take (Try.prog.cellsOf 37)) = some y0 := f0
      have t1 : DataW.trod enc Try.prog W 0 (fun _ => true) true m 3 (([c0, c1].drop 1).take (Try.prog.cellsOf 3)) = some y1 := f1
      rw [cellsRW] at t0
      rw [cellsN] at t1
      obtain ⟨v, xs, e0, h1, h2⟩ := open_rowIn t0
      obtain ⟨a1, z1, _, w1⟩ := DataW.trod_int Try.underlying3 t1
      simp at e0 z1
      subst e0 z1
      have hw : -9223372036854775808 ≤ a1 ∧ a1 ≤ 9223372036854775807 := by simpa [Lit.wf, IntKind.min, IntKind.max, IntKind.signed, IntKind.bits] using w1
      exact ⟨⟨c0, xs, a1⟩, rfl, h1, h2, hw⟩
set_option maxRecDepth 100000 in
theorem open_puts {W : World} {base : Nat} {v : Value} {d : DataW H} {p : List MemPlace} (hval : Value.okWide Try.prog W .any base 35 v) (h : DataW.Trod enc Try.prog W 0 (fun _ => true) true 35 v d p) (hlt : ∀ x ∈ p, x.block < W.heap.size)
    (hsz : ∀ elems spare, d = .slice elems spare → (elems.length + spare.length) * 32 ≤ 140737488351232) :
    ∃ xs : List Pv, HasP W W.heap.size v xs ∧ xs.length * 32 ≤ 140737488351232 := by
  obtain ⟨a1, len, cap, rfl⟩ := okWide_slice Try.underlying35 hval
  obtain ⟨fuel, hf⟩ := h
  rcases open_slice Try.underlying35 hf with ⟨hcs, hx⟩ | ⟨a, len', cap', m, n, D, Pl, hcs, _, hl, hm, hmm, hx, hcell⟩
  · simp [Value.cells] at hcs
    obtain ⟨rfl, rfl, rfl⟩ := hcs
    exact ⟨[], ⟨none, 0, rfl, Nat.le_refl _, by simp, fun h => absurd rfl h⟩, by simp⟩
  · simp [Value.cells] at hcs
    obtain ⟨rfl, rfl, rfl⟩ := hcs
    simp only [Prod.mk.injEq] at hx
    obtain ⟨rfl, rfl⟩ := hx
    simp only [if_true] at hmm
    subst hmm
    have h1 := hsz _ _ rfl
    simp only [List.length_map, List.length_range] at h1
    have each : ∀ i, i < len → ∃ q : Pv, (W.cell? (a.add (i * 2)) = some q.v ∧ W.cell? (a.add (i * 2 + 1)) = some (.int .i64 q.n)) ∧ PvOk W W.heap.size q := by
      intro i hi
      obtain ⟨cs', hc, ht⟩ := hcell i (by omega)
      rw [cellsPT] at hc
      obtain ⟨q, rfl, r0⟩ := open_putv ht
      obtain ⟨_, _, hat⟩ := World.cells?_some hc
      refine ⟨q, ⟨?_, ?_⟩, r0⟩
      · have := hat 0 (by omega)
        rw [Go.Deep.add_add] at this
        exact this
      · have := hat 1 (by omega)
        rw [Go.Deep.add_add] at this
        exact this
    obtain ⟨q, hq⟩ := choose_lt each
    refine ⟨(List.range len).map q, ⟨some a, m, by simp, by simpa using hl, ?_, fun hne => ?_⟩, ?_⟩
    · intro x hx
      simp only [List.mem_map, List.mem_range] at hx
      obtain ⟨i, hi, rfl⟩ := hx
      exact (hq i hi).2
    · obtain ⟨b, off, spot⟩ := a
      have h0 : 0 < len := by
        rcases Nat.eq_zero_or_pos len with h0 | h0
        · subst h0; exact absurd rfl hne
        · exact h0
      have hspot : spot = none := by simpa [Addr.add] using World.cell?_spot (hq 0 h0).1.1
      subst hspot
      refine ⟨b, off, rfl, hlt (.cell b off) (List.mem_append_left _ (MemPlace.mem_row.2 ⟨0, by rw [cellsPT]; omega, by simp⟩)), fun j hj => ?_⟩
      simp only [List.length_map, List.length_range] at hj
      obtain ⟨⟨e0, e1⟩, _⟩ := hq j hj
      rw [Addr.add_lit] at e0 e1
      rw [← Nat.add_assoc] at e1
      simp only [List.getElem_map, List.getElem_range]
      exact ⟨e0, e1⟩
    · simp only [List.length_map, List.length_range]
      omega
--IFROWS
set_option maxRecDepth 100000 in
theorem open_rowsL {W : World} {base : Nat} {v : Value} {d : DataW H} {p : List MemPlace} (hval : Value.okWide Try.prog W .any base 46 v) (h : DataW.Trod enc Try.prog W 0 (fun _ => true) true 46 v d p) (hlt : ∀ x ∈ p, x.block < W.heap.size)
    (hsz : ∀ elems spare, d = .slice elems spare → (elems.length + spare.length) * 24 ≤ 140737488351232) :
    ∃ xs : List Pv, HasL W W.heap.size v xs ∧ xs.length * 24 ≤ 140737488351232 := by
  obtain ⟨a1, len, cap, rfl⟩ := okWide_slice Try.underlying46 hval
  obtain ⟨fuel, hf⟩ := h
  rcases open_slice Try.underlying46 hf with ⟨hcs, hx⟩ | ⟨a, len', cap', m, n, D, Pl, hcs, _, hl, hm, hmm, hx, hcell⟩
  · simp [Value.cells] at hcs
    obtain ⟨rfl, rfl, rfl⟩ := hcs
    exact ⟨[], ⟨none, 0, rfl, Nat.le_refl _, by simp, fun h => absurd rfl h⟩, by simp⟩
  · simp [Value.cells] at hcs
    obtain ⟨rfl, rfl, rfl⟩ := hcs
    simp only [Prod.mk.injEq] at hx
    obtain ⟨rfl, rfl⟩ := hx
    simp only [if_true] at hmm
    subst hmm
    have h1 := hsz _ _ rfl
    simp only [List.length_map, List.length_range] at h1
    have each : ∀ i, i < len → ∃ q : Pv, W.cell? (a.add (i * 1)) = some q.v ∧ PvOk W W.heap.size q := by
      intro i hi
      obtain ⟨cs', hc, ht⟩ := hcell i (by omega)
      rw [cellsRW] at hc
      obtain ⟨v, xs, rfl, r0, r1⟩ := open_rowIn ht
      obtain ⟨_, _, hat⟩ := World.cells?_some hc
      refine ⟨⟨v, xs, 1⟩, ?_, r0, r1, by simp⟩
      have := hat 0 (by omega)
      rw [Go.Deep.add_add] at this
      exact this
    obtain ⟨q, hq⟩ := choose_lt each
    refine ⟨(List.range len).map q, ⟨some a, m, by simp, by simpa using hl, ?_, fun hne => ?_⟩, ?_⟩
    · intro x hx
      simp only [List.mem_map, List.mem_range] at hx
      obtain ⟨i, hi, rfl⟩ := hx
      exact (hq i hi).2
    · obtain ⟨b, off, spot⟩ := a
      have h0 : 0 < len := by
        rcases Nat.eq_zero_or_pos len with h0 | h0
        · subst h0; exact absurd rfl hne
        · exact h0
      have hspot : spot = none := by simpa [Addr.add] using World.cell?_spot (hq 0 h0).1
      subst hspot
      refine ⟨b, off, rfl, hlt (.cell b off) (List.mem_append_left _ (MemPlace.mem_row.2 ⟨0, by rw [cellsRW]; omega, by simp⟩)), fun j hj => ?_⟩
      simp only [List.length_map, List.length_range] at hj
      have e0 := (hq j hj).1
      rw [Addr.add_lit, Nat.mul_one] at e0
      simp only [List.getElem_map, List.getElem_range]
      exact e0
    · simp only [List.length_map, List.length_range]
      omega
end
end Go.Proofs.Ytnidaahimofppaa
