/- Layer 26 (tally): a tally told by the copies that are in it: New, Put, Count, Row. -/
import Derived.Test.YtnidaahimofppaaGreatQpbd
import Derived.Test.YtnidaahimofppaaGreatQpbh
import Derived.Test.YtnidaahimofppaaGreatQpbf
import Derived.Test.YtnidaahimofppaaGreatQpam
import Derived.Test.YtnidaahimofppaaGreatQpak
import Derived.Deep.DeepCutAuto
import Derived.Deep.CutBlock
namespace Go.Proofs.YtnidaahimofppaaGreat
open Go.RowKit Go.Maps
set_option linter.unusedVariables false
set_option linter.unusedSimpArgs false

/-- Aggregates that may be. -/
structure AgOk (cs : List Cl) (ags : List Vr) : Prop where
  len : ags.length ≤ 8
  one : 1 ≤ cs.length
  each : ∀ a ∈ ags, (0 ≤ a.n ∧ a.n < cs.length) ∧ 1 ≤ a.k ∧ a.k ≤ 7
theorem chkT_ok {cs : List Cl} {a : Vr} (h1 : 1 ≤ cs.length) (h : chkT cs a = 0) : (0 ≤ a.n ∧ a.n < cs.length) ∧ 1 ≤ a.k ∧ a.k ≤ 7 := by
  unfold chkT at h
  split at h
  · simp at h
  · rename_i c1
    have hk : 1 ≤ a.k ∧ a.k ≤ 7 := ⟨by omega, by omega⟩
    split at h
    · split at h
      · rename_i c3
        exact ⟨by omega, hk⟩
      · simp at h
    · split at h
      · simp at h
      · exact ⟨by omega, hk⟩
theorem colsL_each {cs out : List Cl} {ags : List Vr} (h : (colsL cs out ags).2 = 0) : ∀ a ∈ ags, chkT cs a = 0 := by
  induction ags generalizing out with
  | nil => simp
  | cons a r ih =>
    unfold colsL at h
    split at h
    · rename_i c; exact absurd h c
    · rename_i c
      split at h
      · simp at h
      · intro x hx
        rcases List.mem_cons.1 hx with rfl | hx
        · omega
        · exact ih h x hx
theorem AgOk.of {cs : List Cl} {ags : List Vr} (h : (colsV cs ags).2 = 0) : AgOk cs ags := by
  unfold colsV at h
  split at h
  · simp at h
  · rename_i m1
    have hm : mayC cs = true := by simpa using m1
    have h1 := (mayC_iff.1 hm).1.1
    split at h
    · simp at h
    · exact ⟨by omega, h1, fun a ha => chkT_ok h1 (colsL_each h a ha)⟩
/-- Not too much yet, after nm puts. -/
structure TalBd (nm : Nat) (ps : List Pt) (m : List UInt8 → Int) (cnt : Int) : Prop where
  parts : ∀ p ∈ ps, okPt nm p
  map : ∀ k, -((nm : Int) * 1048576) ≤ m k ∧ m k ≤ (nm : Int) * 1048576
  cnt : -((nm : Int) * 1048576) ≤ cnt ∧ cnt ≤ (nm : Int) * 1048576
theorem TalBd.up {nm : Nat} {ps : List Pt} {m : List UInt8 → Int} {cnt : Int} (h : TalBd nm ps m cnt) : TalBd (nm + 1) ps m cnt :=
  ⟨fun p hp => okPt_up (h.parts p hp), fun k => by have := h.map k; omega, by have := h.cnt; omega⟩
theorem TalBd.put {cs : List Cl} {nm : Nat} {ags : List Vr} {ps : List Pt} {m : List UInt8 → Int} {cnt : Int} {r : List Vr} {n : Int} (h : TalBd nm ps m cnt) (hx : ∀ a ∈ ags, okH (valAt r a.n).n) (h1 : n ≤ 1048576) (h2 : -1048576 ≤ n) :
    TalBd (nm + 1) (ptsPut r n ags ps) (updM m (keyR r) (m (keyR r) + n)) (cnt + n) := by
  refine ⟨fun p hp => ?_, fun k => ?_, by have := h.cnt; omega⟩
  · unfold ptsPut at hp
    rw [List.zipWith_eq_zipWith_take_min] at hp
    obtain ⟨i, hi, rfl⟩ := List.getElem_of_mem hp
    rw [List.getElem_zipWith]
    exact okPt_put (h.parts _ (by rw [List.getElem_take]; exact List.getElem_mem _)) (hx _ (by rw [List.getElem_take]; exact List.getElem_mem _)) h1 h2
  · have h3 := h.map (keyR r)
    have h4 := h.map k
    unfold updM
    split <;> omega
theorem ptOf_ok (k : Int) : okPt 0 (ptOf k) := by
  unfold ptOf
  split
  · simp [okPt]
  split
  · simp [okPt]
  split
  · trivial
  split
  · simp [okPt]
  · trivial
theorem TalBd.new (ags : List Vr) : TalBd 0 (partsOf ags) (fun _ => 0) 0 := by
  refine ⟨fun p hp => ?_, fun k => by simp, by simp⟩
  unfold partsOf at hp
  obtain ⟨a, _, rfl⟩ := List.mem_map.1 hp
  exact ptOf_ok a.k
theorem TalIn.mono {w : World} {B B1 g gm : Nat} {sv av pv : Value} {ts : List Trd} {cs : List Cl} {ags : List Vr} {m : List UInt8 → Int} {nm nm' : Nat} {cnt : Int} (h : TalIn w B B1 g gm sv av pv ts cs ags m nm cnt) (hn : nm ≤ nm') : TalIn w B B1 g gm sv av pv ts cs ags m nm' cnt :=
  ⟨h.base, h.svB, h.avB, h.gB, h.mB, h.box, h.sch, h.agg, h.map.mono hn, h.row, h.parts, h.apart⟩
theorem TalFt.mono {w : World} {B g : Nat} {F D : List Nat} {cs : List Cl} {ags : List Vr} {ps : List Pt} {m : List UInt8 → Int} {nm nm' : Nat} {cnt : Int} (h : TalFt w B g F D cs ags ps m nm cnt) (hn : nm ≤ nm') : TalFt w B g F D cs ags ps m nm' cnt := by
  obtain ⟨B1, gm, sv, av, pv, ts, h1, h2⟩ := h
  exact ⟨B1, gm, sv, av, pv, ts, h1.mono hn, h2⟩
/-- A tally of these copies, after nm puts at most. -/
def TalS (w : World) (B g : Nat) (F D : List Nat) (cs : List Cl) (ags : List Vr) (L : Cps) (ps : List Pt) (nm : Nat) : Prop :=
  ∃ m cnt, TalFt w B g F D cs ags ps m nm cnt ∧ TalC cs ags L ps m cnt ∧ TalBd nm ps m cnt
theorem TalS.keep {w w' : World} {B g : Nat} {F D f : List Nat} {cs : List Cl} {ags : List Vr} {L : Cps} {ps : List Pt} {nm : Nat} (h : TalS w B g F D cs ags L ps nm) (hc : Chg f w w') (hf : ∀ k ∈ f, k ∉ F ∧ k ∉ D) : TalS w' B g F D cs ags L ps nm := by
  obtain ⟨m, cnt, h1, h2⟩ := h
  exact ⟨m, cnt, h1.keep hc hf, h2⟩
theorem TalS.below {w w' : World} {B g : Nat} {F D : List Nat} {cs : List Cl} {ags : List Vr} {L : Cps} {ps : List Pt} {nm : Nat} (h : TalS w B g F D cs ags L ps nm) (hb : Below w.heap.size w w') : TalS w' B g F D cs ags L ps nm := h.keep (f := []) (Chg.of hb) (by simp)
theorem TalS.inF {w : World} {B g : Nat} {F D : List Nat} {cs : List Cl} {ags : List Vr} {L : Cps} {ps : List Pt} {nm : Nat} (h : TalS w B g F D cs ags L ps nm) {k : Nat} (hk : k ∈ F) : B ≤ k ∧ k < w.heap.size := by
  obtain ⟨m, cnt, h1, h2⟩ := h
  exact h1.inF hk
theorem TalS.inD {w : World} {B g : Nat} {F D : List Nat} {cs : List Cl} {ags : List Vr} {L : Cps} {ps : List Pt} {nm : Nat} (h : TalS w B g F D cs ags L ps nm) {k : Nat} (hk : k ∈ D) : B ≤ k ∧ k < w.heap.size := by
  obtain ⟨m, cnt, h1, h2⟩ := h
  exact h1.inD hk
theorem TalS.sz {w : World} {B g : Nat} {F D : List Nat} {cs : List Cl} {ags : List Vr} {L : Cps} {ps : List Pt} {nm : Nat} (h : TalS w B g F D cs ags L ps nm) : B ≤ w.heap.size := by
  obtain ⟨m, cnt, ⟨B1, gm, sv, av, pv, ts, h1, h2⟩, _⟩ := h
  have := h1.base
  have := h1.gB
  have := h1.lt
  omega
theorem TalS.good {w : World} {B g : Nat} {F D : List Nat} {cs : List Cl} {ags : List Vr} {L : Cps} {ps : List Pt} {nm : Nat} (h : TalS w B g F D cs ags L ps nm) : GoodC cs L ∧ cntC L ≤ 1048576 ∧ ags.length = ps.length := by
  obtain ⟨m, cnt, _, h1, _⟩ := h
  exact ⟨h1.good, h1.full, h1.len⟩
theorem TalS.parts {w : World} {B g : Nat} {F D : List Nat} {cs : List Cl} {ags : List Vr} {L : Cps} {ps : List Pt} {nm : Nat} (h : TalS w B g F D cs ags L ps nm) : ∀ i (h1 : i < ags.length) (h2 : i < ps.length), ptIs ags[i] L ps[i] := by
  obtain ⟨m, cnt, _, h1, _⟩ := h
  exact h1.parts
/-- Tallies with the same sums have the same parts. -/
theorem TalS.one {w u : World} {B B' g g' : Nat} {F D F' D' : List Nat} {cs : List Cl} {ags : List Vr} {L M : Cps} {ps qs : List Pt} {nm nm' : Nat} (h : TalS w B g F D cs ags L ps nm) (h' : TalS u B' g' F' D' cs ags M qs nm') (hs : ∀ f, sumC L f = sumC M f) : ps = qs ∧ cntC L = cntC M := by
  obtain ⟨m, cnt, _, h1, _⟩ := h
  obtain ⟨m', cnt', _, h2, _⟩ := h'
  exact ⟨(parts_one h1 h2 hs).1, hs _⟩
def errC (cs : List Cl) (L : Cps) (r : List Vr) (n : Int) : Int :=
  if fitsC cs r = false then 17 else if 1048576 < n ∨ n < -1048576 then 2 else if hasC L r 0 + n < 0 then 20 else if 1048576 < cntC L + n then 7 else 0
def putC (cs : List Cl) (L : Cps) (r : List Vr) (n : Int) : Cps := if errC cs L r n = 0 then addC L r n else L
theorem errC_T {cs : List Cl} {ags : List Vr} {L : Cps} {ps : List Pt} {m : List UInt8 → Int} {cnt : Int} (h : TalC cs ags L ps m cnt) (r : List Vr) (n : Int) : errT cs m cnt r n = errC cs L r n := by
  unfold errT errC
  cases hf : fitsC cs r with
  | false => rfl
  | true => rw [h.map r hf, h.cnt]
/-- What New leaves. -/
def NewS (w : World) (cs : List Cl) (ags : List Vr) (e : Ending) (w' : World) : Prop :=
  ((∃ c, (colsV cs ags).2 = c ∧ c ≠ 0 ∧ e = .returned (.tuple #[.pointer none, .int .i64 c])) ∨
   ((colsV cs ags).2 = 0 ∧ ∃ g F D, e = .returned (.tuple #[.pointer (some ⟨g, 0, none⟩), .int .i64 0]) ∧ TalS w' w.heap.size g F D cs ags [] (partsOf ags) 0)) ∧ Below w.heap.size w w'
theorem sNew_any (v u : Value) (cs : List Cl) (ags : List Vr) (w : World) (H1 : HasC w w.heap.size v cs) (H2 : HasR w w.heap.size u ags) :
    Calls Tryz.prog 4 #[v, u] w (NewS w cs ags) := by
  refine (New_any v u cs ags w H1 H2).mono ?_
  rintro e w' ⟨h | ⟨h0, g, rfl, hT⟩, hb⟩
  · exact ⟨.inl h, hb⟩
  · obtain ⟨F, D, hF⟩ := hT.ft
    exact ⟨.inr ⟨h0, g, F, D, rfl, _, _, hF, TalC.new cs ags (fun a ha => ((AgOk.of h0).each a ha).2), TalBd.new ags⟩, hb⟩
def PutS (w : World) (B g : Nat) (F D : List Nat) (cs : List Cl) (ags : List Vr) (L : Cps) (ps : List Pt) (nm : Nat) (r : List Vr) (n : Int) (e : Ending) (w' : World) : Prop :=
  e = .returned (.int .i64 (errC cs L r n)) ∧ Chg F w w' ∧ ∃ F' ps', TalS w' B g F' D cs ags (putC cs L r n) ps' (nm + 1) ∧ (∀ k ∈ F', k ∈ F ∨ w.heap.size ≤ k) ∧ (errC cs L r n ≠ 0 → ps' = ps)
theorem sPut_any (w : World) (B g : Nat) (F D : List Nat) (cs : List Cl) (ags : List Vr) (L : Cps) (ps : List Pt) (nm : Nat) (v : Value) (r : List Vr) (n : Int)
    (H : TalS w B g F D cs ags L ps nm) (HA : AgOk cs ags) (HR : HasS w B v r) (hr : RngR r) (hnm : nm ≤ 900) (hn : -9223372036854775808 ≤ n ∧ n ≤ 9223372036854775807) :
    Calls Tryz.prog 7 #[.pointer (some ⟨g, 0, none⟩), v, .int .i64 n] w (PutS w B g F D cs ags L ps nm r n) := by
  obtain ⟨m, cnt, hF, hC, hB⟩ := H
  have he := errC_T hC r n
  refine (tPut_any w B g F D cs ags ps m nm cnt v r n hF HR hr hB.parts hC.len (by rw [← hC.len]; exact HA.len) (fun a ha => (HA.each a ha).1) hnm hB.map hB.cnt hn).mono ?_
  rintro e w' ⟨rfl, hc, h1, h2⟩
  rw [he] at h1 h2 ⊢
  refine ⟨rfl, hc, ?_⟩
  by_cases h0 : errC cs L r n = 0
  · obtain ⟨F', hF', hf⟩ := h2 h0
    rw [h0] at he
    obtain ⟨q1, q2, q3, q4, q5⟩ := errT_iff.1 he
    refine ⟨F', _, ⟨_, _, hF', by unfold putC; rw [if_pos h0]; exact hC.put (fun a ha => (HA.each a ha).1) hr he, hB.put (cs := cs) (fun a ha => ?_) q2 q3⟩, hf, fun h => absurd h0 h⟩
    obtain ⟨q6, q7⟩ := (HA.each a ha).1
    exact hr _ (valAt_mem q6 (by rw [(fits_len q1).1]; exact q7))
  · exact ⟨F, ps, ⟨m, cnt, (h1 h0).mono (by omega), by unfold putC; rw [if_neg h0]; exact hC, hB.up⟩, fun k hk => .inl hk, fun _ => rfl⟩
theorem sCount_any (w : World) (B g : Nat) (F D : List Nat) (cs : List Cl) (ags : List Vr) (L : Cps) (ps : List Pt) (nm : Nat) (H : TalS w B g F D cs ags L ps nm) :
    Calls Tryz.prog 9 #[.pointer (some ⟨g, 0, none⟩)] w (fun e w' => e = .returned (.int .i64 (cntC L)) ∧ w = w') := by
  obtain ⟨m, cnt, hF, hC, hB⟩ := H
  rw [← hC.cnt]
  exact tCount_any w B g cs ags ps m nm cnt hF.at
theorem sRow_any (w : World) (B g : Nat) (F D : List Nat) (cs : List Cl) (ags : List Vr) (L : Cps) (ps : List Pt) (nm : Nat) (start : Int) (H : TalS w B g F D cs ags L ps nm) (HA : AgOk cs ags) (hnm : nm ≤ 1000) :
    Calls Tryz.prog 11 #[.pointer (some ⟨g, 0, none⟩), .int .i64 start] w (RetR w (rowT (cntC L) start ps)) := by
  obtain ⟨m, cnt, hF, hC, hB⟩ := H
  rw [← hC.cnt]
  exact tRow_any w B g cs ags ps m nm cnt start hF.at nm hnm hB.parts (by rw [← hC.len]; exact HA.len)
theorem rowL_len (start : Int) (out : List Vr) (ps : List Pt) : (rowL start out ps).1.length ≤ out.length + ps.length := by
  induction ps generalizing out with
  | nil => simp [rowL]
  | cons p q ih =>
    unfold rowL
    split
    · simp
    · have := ih (out ++ [(tellP start p).1])
      simp at this ⊢
      omega
theorem rowT_len (cnt start : Int) (ps : List Pt) : (rowT cnt start ps).1.length ≤ ps.length := by
  unfold rowT
  split
  · simp
  · have := rowL_len start [] ps
    simpa using this
/-- A slice that a tally's puts leave alone. -/
def Off (w : World) (F : List Nat) (v : Value) : Prop := ∀ k, v.ownBlock = some k → k ∉ F ∧ k < w.heap.size
theorem Off.next {w w' : World} {F F' : List Nat} {v : Value} (h : Off w F v) (hc : Chg F w w') (hf : ∀ k ∈ F', k ∈ F ∨ w.heap.size ≤ k) : Off w' F' v := fun k hk => by
  obtain ⟨h1, h2⟩ := h k hk
  exact ⟨fun e => (hf k e).elim h1 (fun e => by omega), Nat.lt_of_lt_of_le h2 hc.size⟩
theorem Off.below {w w' : World} {F : List Nat} {v : Value} (h : Off w F v) (hb : Below w.heap.size w w') : Off w' F v := fun k hk => ⟨(h k hk).1, Nat.lt_of_lt_of_le (h k hk).2 hb.size⟩
theorem Off.of {w w' : World} {B g : Nat} {F D : List Nat} {cs : List Cl} {ags : List Vr} {L : Cps} {ps : List Pt} {nm : Nat} (h : TalS w B g F D cs ags L ps nm) {v : Value} {xs : List Vr} (hO : OwnR w' w.heap.size v xs) : Off w' F v := fun k hk => by
  have h1 := ownsRow_blk hO hk
  exact ⟨fun e => by have := (h.inF e).2; omega, h1.2⟩
theorem HasR.off {w w' : World} {F : List Nat} {v : Value} {xs : List Vr} (h : HasR w w.heap.size v xs) (ho : Off w F v) (hc : Chg F w w') : HasR w' w'.heap.size v xs :=
  (h.chg hc (Nat.le_refl _) (fun k hk => (ho k hk).1)).up hc.size
end Go.Proofs.YtnidaahimofppaaGreat

/- Layer 26 (tally): lists of puts, and of rows, in memory. -/
namespace Go.Proofs.YtnidaahimofppaaGreat
open Go.RowKit Go.Maps
set_option linter.unusedVariables false
set_option linter.unusedSimpArgs false

/-- A put: the row, where it lies, how many times. -/
structure Pv where
  v : Value
  r : List Vr
  n : Int
def PvOk (w : World) (B : Nat) (p : Pv) : Prop := HasR w B p.v p.r ∧ RngR p.r ∧ (-9223372036854775808 ≤ p.n ∧ p.n ≤ 9223372036854775807)
theorem PvOk.below {w w' : World} {B : Nat} {p : Pv} (h : PvOk w B p) (hb : Below B w w') : PvOk w' B p := ⟨h.1.below hb, h.2⟩
/-- The slice holds these puts, in blocks below B. -/
def HasP (w : World) (B : Nat) (v : Value) (xs : List Pv) : Prop := ∃ A c, v = .slice A xs.length c ∧ xs.length ≤ c ∧ (∀ p ∈ xs, PvOk w B p) ∧ (xs ≠ [] → ∃ b off, A = some ⟨b, off, none⟩ ∧ b < B ∧ ∀ i, (hi : i < xs.length) → w.cell? ⟨b, off + i * 2, none⟩ = some (xs[i]).v ∧ w.cell? ⟨b, off + i * 2 + 1, none⟩ = some (.int .i64 (xs[i]).n))
theorem HasP.below {w w' : World} {B : Nat} {v : Value} {xs : List Pv} (h : HasP w B v xs) (hb : Below B w w') : HasP w' B v xs := by
  obtain ⟨A, c, hv, hlc, hp, hc⟩ := h
  refine ⟨A, c, hv, hlc, fun p hp2 => (hp p hp2).below hb, fun hn => ?_⟩
  obtain ⟨b, off, hA, hlt, hcell⟩ := hc hn
  refine ⟨b, off, hA, hlt, fun i hi => ?_⟩
  obtain ⟨e0, e1⟩ := hcell i hi
  exact ⟨(World.cell?_of_block (hb.block b hlt)).trans e0, (World.cell?_of_block (hb.block b hlt)).trans e1⟩
/-- The slice holds these rows, in blocks below B (the numbers are not looked at). -/
def HasL (w : World) (B : Nat) (v : Value) (xs : List Pv) : Prop := ∃ A c, v = .slice A xs.length c ∧ xs.length ≤ c ∧ (∀ p ∈ xs, PvOk w B p) ∧ (xs ≠ [] → ∃ b off, A = some ⟨b, off, none⟩ ∧ b < B ∧ ∀ i, (hi : i < xs.length) → w.cell? ⟨b, off + i, none⟩ = some (xs[i]).v)
theorem HasL.below {w w' : World} {B : Nat} {v : Value} {xs : List Pv} (h : HasL w B v xs) (hb : Below B w w') : HasL w' B v xs := by
  obtain ⟨A, c, hv, hlc, hp, hc⟩ := h
  refine ⟨A, c, hv, hlc, fun p hp2 => (hp p hp2).below hb, fun hn => ?_⟩
  obtain ⟨b, off, hA, hlt, hcell⟩ := hc hn
  exact ⟨b, off, hA, hlt, fun i hi => (World.cell?_of_block (hb.block b hlt)).trans (hcell i hi)⟩
theorem HasR.own_lt {w : World} {B : Nat} {v : Value} {r : List Vr} (h : HasR w B v r) (hne : r ≠ []) : ∃ b off c, v = .slice (some ⟨b, off, none⟩) r.length c ∧ b < B := by
  obtain ⟨A, c, rfl, _, hc⟩ := h
  obtain ⟨b, off, rfl, hb, _⟩ := hc hne
  exact ⟨b, off, c, rfl, hb⟩
/-- A row that came in, as a put wants it. -/
theorem HasS.of {w w0 : World} {B0 B : Nat} {v : Value} {r : List Vr} (h : HasR w0 B0 v r) (hb : Below B0 w0 w) (hB0 : B0 ≤ B) (hB : B ≤ w.heap.size) : HasS w B v r := by
  refine ⟨(h.below hb).up (by omega), fun hne => ?_⟩
  obtain ⟨b, off, c, hv, hlt⟩ := h.own_lt hne
  exact ⟨b, off, c, hv, by omega, .inl (by omega)⟩
end Go.Proofs.YtnidaahimofppaaGreat

/- Layer 26 (tally): lists of puts, and of rows, that came in, opened. -/
namespace Go.Proofs.YtnidaahimofppaaGreat
open Go.RowKit
set_option linter.unusedVariables false
set_option linter.unusedSimpArgs false
section
open Go.ChangeShapes Go.WideShapes Go.Deep
variable {H : Type} {enc : TypeId × Value → H}
theorem cellsRW : Tryz.prog.cellsOf 36 = 1 := by kernel_rfl
instance : Inhabited Pv := ⟨⟨.slice none 0 0, [], 0⟩⟩
set_option maxRecDepth 100000 in
/-- A row that lies within something else. -/
theorem open_rowIn {W : World} {n : Nat} {cs : List Value} {x : DataW H × List MemPlace} (h : DataW.trod enc Tryz.prog W 0 (fun _ => true) true n 36 cs = some x) : ∃ v xs, cs = [v] ∧ HasR W W.heap.size v xs ∧ RngR xs := by
  have hlt := DataW.trod_lt _ _ _ _ h
  rcases open_slice Tryz.underlying36 h with ⟨hcs, hx⟩ | ⟨a, len, cap, m, n, D, Pl, hcs, _, hl, hm, hmm, hx, hcell⟩
  · exact ⟨_, [], hcs, HasR.nil W _, by intro x hx; simp at hx⟩
  · simp only [if_true] at hmm
    subst hmm
    rw [hx] at hlt
    have each : ∀ i, i < len → ∃ q : Vr, (W.cell? (a.add (i * 3)) = some (.int .i64 q.k) ∧ W.cell? (a.add (i * 3 + 1)) = some (.int .i64 q.n) ∧ W.cell? (a.add (i * 3 + 2)) = some (.string q.s)) ∧ -9223372036854775808 ≤ q.n ∧ q.n ≤ 9223372036854775807 := by
      intro i hi
      obtain ⟨cs', hc, ht⟩ := hcell i (by omega)
      rw [cellsV] at hc
      obtain ⟨q, rfl, r0, r1⟩ := open_value ht
      obtain ⟨_, _, hat⟩ := World.cells?_some hc
      refine ⟨q, ⟨?_, ?_, ?_⟩, r0, r1⟩
      · have := hat 0 (by omega)
        rw [Go.Deep.add_add] at this
        exact this
      · have := hat 1 (by omega)
        rw [Go.Deep.add_add] at this
        exact this
      · have := hat 2 (by omega)
        rw [Go.Deep.add_add] at this
        exact this
    obtain ⟨q, hq⟩ := choose_lt each
    refine ⟨_, (List.range len).map q, hcs, ⟨some a, m, by simp, by simpa using hl, fun hne => ?_⟩, ?_⟩
    · obtain ⟨b, off, spot⟩ := a
      have h0 : 0 < len := by
        rcases Nat.eq_zero_or_pos len with h0 | h0
        · subst h0; exact absurd rfl hne
        · exact h0
      have hspot : spot = none := by simpa [Addr.add] using World.cell?_spot (hq 0 h0).1.1
      subst hspot
      refine ⟨b, off, rfl, hlt (.cell b off) (List.mem_append_left _ (MemPlace.mem_row.2 ⟨0, by rw [cellsV]; omega, by simp⟩)), fun j hj => ?_⟩
      simp only [List.length_map, List.length_range] at hj
      obtain ⟨⟨e0, e1, e2⟩, _⟩ := hq j hj
      rw [Addr.add_lit] at e0 e1 e2
      rw [← Nat.add_assoc] at e1 e2
      simp only [List.getElem_map, List.getElem_range]
      exact ⟨e0, e1, e2⟩
    · intro x hx
      simp only [List.mem_map, List.mem_range] at hx
      obtain ⟨i, hi, rfl⟩ := hx
      exact (hq i hi).2
--IFPUT
theorem cellsPT : Tryz.prog.cellsOf 38 = 2 := by kernel_rfl
set_option maxRecDepth 100000 in
theorem open_putv {W : World} {n : Nat} {cs : List Value} {x : DataW H × List MemPlace} (h : DataW.trod enc Tryz.prog W 0 (fun _ => true) true n 38 cs = some x) : ∃ p : Pv, cs = [p.v, .int .i64 p.n] ∧ PvOk W W.heap.size p := by
  obtain ⟨ys, m, _, _, hl, hyl, hf⟩ := DataW.trod_struct Tryz.underlying38 h
  rw [cellsPT] at hl
  match cs, hl with
  | [c0, c1], _ =>
    have f0 := hf 0 _ rfl
    have f1 := hf 1 _ rfl
    match ys, hyl with
    | [y0, y1], _ =>
      have t0 : DataW.trod enc Tryz.prog W 0 (fun _ => true) true m 36 (([c0, c1].drop 0).take (Tryz.prog.cellsOf 36)) = some y0 := f0
      have t1 : DataW.trod enc Tryz.prog W 0 (fun _ => true) true m 3 (([c0, c1].drop 1).take (Tryz.prog.cellsOf 3)) = some y1 := f1
      rw [cellsRW] at t0
      rw [cellsN] at t1
      obtain ⟨v, xs, e0, h1, h2⟩ := open_rowIn t0
      obtain ⟨a1, z1, _, w1⟩ := DataW.trod_int Tryz.underlying3 t1
      simp at e0 z1
      subst e0 z1
      have hw : -9223372036854775808 ≤ a1 ∧ a1 ≤ 9223372036854775807 := by simpa [Lit.wf, IntKind.min, IntKind.max, IntKind.signed, IntKind.bits] using w1
      exact ⟨⟨c0, xs, a1⟩, rfl, h1, h2, hw⟩
set_option maxRecDepth 100000 in
theorem open_puts {W : World} {base : Nat} {v : Value} {d : DataW H} {p : List MemPlace} (hval : Value.okWide Tryz.prog W .any base 25 v) (h : DataW.Trod enc Tryz.prog W 0 (fun _ => true) true 25 v d p) (hlt : ∀ x ∈ p, x.block < W.heap.size)
    (hsz : ∀ elems spare, d = .slice elems spare → (elems.length + spare.length) * 32 ≤ 140737488351232) :
    ∃ xs : List Pv, HasP W W.heap.size v xs ∧ xs.length * 32 ≤ 140737488351232 := by
  obtain ⟨a1, len, cap, rfl⟩ := okWide_slice Tryz.underlying25 hval
  obtain ⟨fuel, hf⟩ := h
  rcases open_slice Tryz.underlying25 hf with ⟨hcs, hx⟩ | ⟨a, len', cap', m, n, D, Pl, hcs, _, hl, hm, hmm, hx, hcell⟩
  · simp [Value.cells] at hcs
    obtain ⟨rfl, rfl, rfl⟩ := hcs
    exact ⟨[], ⟨none, 0, rfl, Nat.le_refl _, by simp, fun h => absurd rfl h⟩, by simp⟩
  · simp [Value.cells] at hcs
    obtain ⟨rfl, rfl, rfl⟩ := hcs
    simp only [Prod.mk.injEq] at hx
    obtain ⟨rfl, rfl⟩ := hx
    simp only [if_true] at hmm
    subst hmm
    have h1 := hsz _ _ rfl
    simp only [List.length_map, List.length_range] at h1
    have each : ∀ i, i < len → ∃ q : Pv, (W.cell? (a.add (i * 2)) = some q.v ∧ W.cell? (a.add (i * 2 + 1)) = some (.int .i64 q.n)) ∧ PvOk W W.heap.size q := by
      intro i hi
      obtain ⟨cs', hc, ht⟩ := hcell i (by omega)
      rw [cellsPT] at hc
      obtain ⟨q, rfl, r0⟩ := open_putv ht
      obtain ⟨_, _, hat⟩ := World.cells?_some hc
      refine ⟨q, ⟨?_, ?_⟩, r0⟩
      · have := hat 0 (by omega)
        rw [Go.Deep.add_add] at this
        exact this
      · have := hat 1 (by omega)
        rw [Go.Deep.add_add] at this
        exact this
    obtain ⟨q, hq⟩ := choose_lt each
    refine ⟨(List.range len).map q, ⟨some a, m, by simp, by simpa using hl, ?_, fun hne => ?_⟩, ?_⟩
    · intro x hx
      simp only [List.mem_map, List.mem_range] at hx
      obtain ⟨i, hi, rfl⟩ := hx
      exact (hq i hi).2
    · obtain ⟨b, off, spot⟩ := a
      have h0 : 0 < len := by
        rcases Nat.eq_zero_or_pos len with h0 | h0
        · subst h0; exact absurd rfl hne
        · exact h0
      have hspot : spot = none := by simpa [Addr.add] using World.cell?_spot (hq 0 h0).1.1
      subst hspot
      refine ⟨b, off, rfl, hlt (.cell b off) (List.mem_append_left _ (MemPlace.mem_row.2 ⟨0, by rw [cellsPT]; omega, by simp⟩)), fun j hj => ?_⟩
      simp only [List.length_map, List.length_range] at hj
      obtain ⟨⟨e0, e1⟩, _⟩ := hq j hj
      rw [Addr.add_lit] at e0 e1
      rw [← Nat.add_assoc] at e1
      simp only [List.getElem_map, List.getElem_range]
      exact ⟨e0, e1⟩
    · simp only [List.length_map, List.length_range]
      omega
--IFROWS
end
end Go.Proofs.YtnidaahimofppaaGreat

/- Layer 26 (tally): the reference's lists of copies, in memory. -/
namespace Go.Proofs.YtnidaahimofppaaGreat
open Go.RowKit
set_option linter.unusedVariables false
set_option linter.unusedSimpArgs false

def cpV (x : Pv) : List Value := [x.v, .int .i64 x.n]
def cpC (xs : List Pv) : List Value := xs.flatMap cpV
theorem cpC_len (xs : List Pv) : (cpC xs).length = xs.length * 2 := by
  induction xs with
  | nil => rfl
  | cons x r ih => simp only [cpC, List.flatMap_cons, List.length_append, List.length_cons] at ih ⊢; rw [ih]; simp [cpV]; omega
theorem cpC_app (xs ys : List Pv) : cpC (xs ++ ys) = cpC xs ++ cpC ys := by simp [cpC]
theorem cpC_one (x : Pv) : cpC [x] = cpV x := by simp [cpC]
theorem cpC_at (xs : List Pv) (i : Nat) (hi : i < xs.length) : (cpC xs)[i * 2]? = some (xs[i]).v ∧ (cpC xs)[i * 2 + 1]? = some (.int .i64 (xs[i]).n) := by
  induction xs generalizing i with
  | nil => simp at hi
  | cons x r ih =>
    have e : cpC (x :: r) = x.v :: .int .i64 x.n :: cpC r := rfl
    rw [e]
    cases i with
    | zero => simp
    | succ i =>
      have h := ih i (by simpa using hi)
      rw [show (i + 1) * 2 = i * 2 + 1 + 1 by omega]
      simpa using h
theorem cpC_cell (xs : List Pv) (j : Nat) (u : Value) (h : (cpC xs)[j]? = some u) : ∃ (i : Nat) (hi : i < xs.length), (j = i * 2 ∧ u = (xs[i]).v) ∨ (j = i * 2 + 1 ∧ u = .int .i64 (xs[i]).n) := by
  have hj : j < xs.length * 2 := by rw [← cpC_len]; exact (List.getElem?_eq_some_iff.1 h).1
  have hi : j / 2 < xs.length := by omega
  obtain ⟨h0, h1⟩ := cpC_at xs (j / 2) hi
  refine ⟨j / 2, hi, ?_⟩
  have hm : j % 2 = 0 ∨ j % 2 = 1 := by omega
  rcases hm with hm | hm
  · refine .inl ⟨by omega, ?_⟩
    rw [show j / 2 * 2 = j by omega, h] at h0
    injection h0
  · refine .inr ⟨by omega, ?_⟩
    rw [show j / 2 * 2 + 1 = j by omega, h] at h1
    injection h1
theorem infoK : (Tryz.prog.info? 72).map (fun i => (i.zero, i.size, i.bytes)) = some (some (.agg #[.slice none 0 0, .int .i64 0]), 2, 32) := by kernel_rfl
/-- The slice is the call's own and holds this row. -/
def OwnK (w : World) (base : Nat) (v : Value) (xs : List Pv) : Prop := w.ownsRow base 72 2 v xs.length (cpC xs)
theorem OwnK.below {w w1 : World} {base : Nat} {v : Value} {xs : List Pv} (h : OwnK w base v xs) (hb : Below w.heap.size w w1) : OwnK w1 base v xs := by
  refine ⟨h.1, ?_⟩
  rcases h.2 with h2 | ⟨g, cap, cur, h1, h2, h3, h4⟩
  · exact .inl h2
  · exact .inr ⟨g, cap, cur, h1, h2, by rw [hb.block g (Array.getElem?_eq_some_iff.1 h3).1]; exact h3, h4⟩
theorem OwnK.mono {w : World} {base b0 : Nat} {v : Value} {xs : List Pv} (h : OwnK w base v xs) (hb : b0 ≤ base) : OwnK w b0 v xs := by
  refine ⟨h.1, ?_⟩
  rcases h.2 with h2 | ⟨g, cap, cur, h1, h2, h3⟩
  · exact .inl h2
  · exact .inr ⟨g, cap, cur, h1, Nat.le_trans hb h2, h3⟩
theorem OwnK.nil (w : World) (base : Nat) : OwnK w base (.slice none 0 0) [] := ⟨by simp [cpC], .inl ⟨rfl, rfl⟩⟩
theorem OwnK.lit (w : World) (base : Nat) (xs : List Pv) (hb : base ≤ w.heap.size) (hm : xs.length ≤ 100) : OwnK (w.alloc (.cells (cpC xs).toArray 72)) base (.slice (some ⟨w.heap.size, 0, none⟩) xs.length xs.length) xs := by
  have h := World.ownsRow_lit (base := base) (e := 72) (size := 2) w (cpC xs).toArray xs.length hb (by simp only [maxLen]; omega) (by simp [cpC_len])
  simpa [OwnK] using h
theorem OwnK.base {w : World} {base : Nat} {v : Value} {xs : List Pv} (h : OwnK w base v xs) (k : Nat) (hk : v.ownBlock = some k) : base ≤ k := by
  rcases h.2 with ⟨rfl, _⟩ | ⟨g, cap, cur, rfl, hb, _⟩
  · simp [Value.ownBlock] at hk
  · have : g = k := by simpa [Value.ownBlock] using hk
    omega
theorem OwnK.hasP {w : World} {base : Nat} {v : Value} {xs : List Pv} (h : OwnK w base v xs) (hp : ∀ p ∈ xs, PvOk w w.heap.size p) : HasP w w.heap.size v xs := by
  rcases h.2 with ⟨rfl, hn⟩ | ⟨g, cap, cur, rfl, hb, hh, hc, hm, _⟩
  · obtain rfl := List.eq_nil_of_length_eq_zero hn
    exact ⟨none, 0, rfl, Nat.le_refl _, by simp, fun h => absurd rfl h⟩
  · refine ⟨_, cap, rfl, hc, hp, fun hn => ⟨g, 0, rfl, (Array.getElem?_eq_some_iff.1 hh).1, fun i hi => ?_⟩⟩
    obtain ⟨e0, e1⟩ := cpC_at xs i hi
    refine ⟨?_, ?_⟩
    · rw [Nat.zero_add, World.ownsRow.cellAt h (i * 2) (by omega), e0]
    · rw [Nat.zero_add, World.ownsRow.cellAt h (i * 2 + 1) (by omega), e1]
section
variable {ops : Array Oper} {rest : List Oper} {o : Oper} {a : Act} {Q : Exit → Act → World → Prop}
/-- append(v, x), x one value. -/
theorem app_cp {w0 W : World} (hgd : o.guard = none) (s x : Operand) (t : TypeId)
    (ho : o.op = .call { callee := .builtin .append, args := #[s, x], argTypes := #[t, t] })
    (ht : Tryz.prog.underlying t = some (.slice 72))
    (v : Value) (xs : List Pv) (Ay : Option Addr) (ny cy : Nat) (ry : List Vr) (k : Int) (hs : a.eval s = v) (hx : a.eval x = .slice (some ⟨W.heap.size, 0, none⟩) 1 1)
    (HO : OwnK W w0.heap.size v xs) (HB : Below w0.heap.size w0 W) (hl : xs.length ≤ 2000000)
    (h : ∀ v1 r d, OwnK (xw w0 r d) w0.heap.size v1 (xs ++ [⟨.slice Ay ny cy, ry, k⟩]) → (W.alloc (.cells #[.slice Ay ny cy, .int .i64 k] 72)).grownBy (xw w0 r d) v.ownBlock → wpList Tryz.prog ops Q rest (a.put o.dst v1) (xw w0 r d)) :
    wpList Tryz.prog ops Q (o :: rest) a (W.alloc (.cells #[.slice Ay ny cy, .int .i64 k] 72)) := by
  obtain ⟨i0, hi, hzz⟩ := Option.map_eq_some_iff.1 infoK
  simp only [Prod.mk.injEq] at hzz
  obtain ⟨hz0, hz1, hz2⟩ := hzz
  refine wpList_append_own_at (W.alloc (.cells #[.slice Ay ny cy, .int .i64 k] 72)) hgd s x t ho w0.heap.size 72 i0 _ 2 32 ht hi hz0 hz1 hz2 (by rfl) (by omega) v xs.length (cpC xs) hs (OwnK.below HO ((Below.refl _ _).alloc (Nat.le_refl _) _)) ⟨W.heap.size, 0, none⟩ 1 1 [.slice Ay ny cy, .int .i64 k] hx rfl
    (two_new W _ _ _) (by simp; exact ⟨rfl, rfl⟩) (by simp only [maxLen]; omega) (by omega) (by have := HB.size; simp; omega) ?_
  intro v1 w1 hown hg _ _
  obtain ⟨r, d, rfl⟩ := grown_xw (HB.alloc HB.size (.cells #[.slice Ay ny cy, .int .i64 k] 72)) hg (OwnK.base HO)
  refine h v1 r d ?_ hg
  unfold OwnK
  rw [cpC_app, List.length_append]
  exact hown
end
end Go.Proofs.YtnidaahimofppaaGreat

/- Layer 26 (tally): the reference's Count and Put, walked. -/
namespace Go.Proofs.YtnidaahimofppaaGreat
open Go.RowKit
set_option linter.unusedVariables false
set_option linter.unusedSimpArgs false

def toC (Ks : List Pv) : Cps := Ks.map fun p => (p.r, p.n)
theorem toC_len (Ks : List Pv) : (toC Ks).length = Ks.length := by simp [toC]
theorem toC_app (a b : List Pv) : toC (a ++ b) = toC a ++ toC b := by simp [toC]
theorem toC_take (Ks : List Pv) (i : Nat) (hi : i < Ks.length) : toC (Ks.take (i + 1)) = toC (Ks.take i) ++ [(Ks[i].r, Ks[i].n)] := by
  rw [List.take_succ_eq_append_getElem hi, toC_app]
  rfl
theorem cntC_app (a b : Cps) : cntC (a ++ b) = cntC a + cntC b := sumC_app a b _
theorem cntC_one (r : List Vr) (n : Int) : cntC [(r, n)] = n := by simp [cntC, sumC]
theorem len_cntC {cs : List Cl} {L : Cps} (h : ∀ c ∈ L, 1 ≤ c.2) : (L.length : Int) ≤ cntC L := by
  induction L with
  | nil => simp [cntC, sumC]
  | cons c L ih =>
    have h1 := ih (fun x hx => h x (by simp [hx]))
    have h2 := h c (by simp)
    have h3 : cntC (c :: L) = c.2 * 1 + cntC L := sumC_cons c L _
    rw [h3, List.length_cons]
    omega
theorem part_cnt {L : Cps} (h : ∀ c ∈ L, 1 ≤ c.2) (i : Nat) : 0 ≤ cntC (L.take i) ∧ cntC (L.take i) ≤ cntC L := by
  have e : cntC L = cntC (L.take i) + cntC (L.drop i) := by rw [← cntC_app, List.take_append_drop]
  have h1 := len_cntC (cs := []) (L := L.take i) (fun c hc => h c (List.mem_of_mem_take hc))
  have h2 := len_cntC (cs := []) (L := L.drop i) (fun c hc => h c (List.mem_of_mem_drop hc))
  omega
theorem toC_take' (Ks : List Pv) (i : Nat) : toC (Ks.take i) = (toC Ks).take i := by simp [toC, List.map_take]
/-- The reference's lists of copies may be. -/
structure KsOk (Ks : List Pv) : Prop where
  pos : ∀ c ∈ toC Ks, 1 ≤ c.2
  full : cntC (toC Ks) ≤ 1048576
theorem KsOk.len {Ks : List Pv} (h : KsOk Ks) : Ks.length ≤ 1048576 := by
  have h1 := len_cntC (cs := []) h.pos
  have h2 := h.full
  rw [toC_len] at h1
  omega
def CnI (Ks : List Pv) (w : World) (v3 v4 : Value) (wr : World) : Prop := ∃ i : Nat, v3 = .int .i64 (cntC (toC (Ks.take i))) ∧ v4 = .int .i64 (i : Int) ∧ (∃ r d, wr = xw w r d) ∧ Kept (i ≤ Ks.length)
set_option maxRecDepth 100000 in
theorem rCount_any (v : Value) (Ks : List Pv) (w : World) (H : HasP w w.heap.size v Ks) (hk : KsOk Ks) :
    Calls Tryz.prog 10 #[v] w (fun e w' => e = .returned (.int .i64 (cntC (toC Ks))) ∧ Below w.heap.size w w') := by
  obtain ⟨A, c, rfl, _, _, hA⟩ := H
  have HA := Kept.mk hA
  have HK := Kept.mk hk
  clear hA hk
  go_enter Tryz.func10, Tryz.ntmps10
  go_wp2_with fail
  go_loopw [3, 4] (fun v3 v4 wr => CnI Ks w v3 v4 wr) (fun v3 v4 wr => Ks.length - (intOf v4).toNat)
  case atStart => exact ⟨0, rfl, rfl, ⟨_, _, self_xw w⟩, ⟨Nat.zero_le _⟩⟩
  case round =>
    obtain ⟨i, rfl, rfl, ⟨r, d, rfl⟩, HI⟩ := hrel
    by_cases ci : i < Ks.length
    · have hne : Ks ≠ [] := by rintro rfl; simp at ci
      obtain ⟨b, off, rfl, hb, hc⟩ := HA.out hne
      have e1 := (hc i ci).2
      have ci' : (i : Int) < (Ks.length : Int) := by omega
      have f0 : 0 ≤ (i : Int) := by omega
      have hl := HK.out.len
      have hw : wrap64 ((i : Int) + 1) = (i : Int) + 1 := by simp only [wrap64]; omega
      have hs : cntC (toC (Ks.take (i + 1))) = cntC (toC (Ks.take i)) + (Ks[i]).n := by rw [toC_take Ks i ci, cntC_app, cntC_one]
      have h1 := part_cnt HK.out.pos (i + 1)
      have hp := part_cnt HK.out.pos i
      rw [← toC_take'] at h1 hp
      have hf := HK.out.full
      have hw2 : wrap64 (cntC (toC (Ks.take i)) + (Ks[i]).n) = cntC (toC (Ks.take i)) + (Ks[i]).n := by simp only [wrap64]; omega
      have HS := Kept.mk hs
      have HCI := Kept.mk ci
      generalize cntC (toC (Ks.take i)) = x at hw2 HS
      generalize (Ks[i]).n = y at e1 hw2 HS
      clear hs h1 hp hf hl hc hne ci
      go_wp2_with fail
      exact ⟨⟨i + 1, by rw [HS.out, hw2], by first | rfl | (rw [hw]; rfl), ⟨_, _, rfl⟩, ⟨HCI.out⟩⟩, by first | exact less_step hw HCI.out | (have := HCI.out; simp only [intOf]; omega)⟩
    · have hi : i = Ks.length := by have := HI.out; omega
      subst hi
      have ci' : ¬ ((Ks.length : Int) < (Ks.length : Int)) := by omega
      have HT : Kept (Ks.take Ks.length = Ks) := ⟨List.take_length⟩
      rw [HT.out]
      clear ci
      go_wp2_with fail
      go_returns
      exact ⟨rfl, xw_below _ _ _⟩
end Go.Proofs.YtnidaahimofppaaGreat

/- Layer 26 (tally), plain: the first and the last value of copies. -/
namespace Go.Proofs.YtnidaahimofppaaGreat
open Go.RowKit
set_option linter.unusedVariables false
set_option linter.unusedSimpArgs false

def betV (mx : Bool) (x b : Vr) : Bool := if mx = true then decide (0 < cmpV x.va b.va) else decide (cmpV x.va b.va < 0)
/-- The first (or the last) value of column c. -/
def bestL (mx : Bool) (c : Int) : Vr → Cps → Vr
  | b, [] => b
  | b, x :: r => bestL mx c (if betV mx (valAt x.1 c) b = true then valAt x.1 c else b) r
theorem cmpV_lt {x y : Vr} (hx : okV x) (hy : okV y) : cmpV x.va y.va < 0 ↔ vcode x < vcode y := by
  rw [vcode_cmp x y hx.1 hy.1 hx.2 hy.2]
  unfold cmpI
  split
  · simp; omega
  · split <;> simp <;> omega
theorem cmpV_gt {x y : Vr} (hx : okV x) (hy : okV y) : 0 < cmpV x.va y.va ↔ vcode y < vcode x := by
  rw [vcode_cmp x y hx.1 hy.1 hx.2 hy.2]
  unfold cmpI
  split
  · simp; omega
  · split <;> simp <;> omega
/-- How far in the order that is asked. -/
def sgC (mx : Bool) (x : Vr) : Int := if mx = true then -vcode x else vcode x
theorem betV_iff {mx : Bool} {x b : Vr} (hx : okV x) (hb : okV b) : betV mx x b = true ↔ sgC mx x < sgC mx b := by
  unfold betV sgC
  cases mx
  · simp only [Bool.false_eq_true, if_false, decide_eq_true_eq]
    exact cmpV_lt hx hb
  · simp only [if_true, decide_eq_true_eq]
    rw [cmpV_gt hx hb]
    omega
theorem bestL_spec (mx : Bool) (c : Int) (L : Cps) (b : Vr) (hb : okV b) (hL : ∀ x ∈ L, okV (valAt x.1 c)) : (bestL mx c b L = b ∨ ∃ x ∈ L, bestL mx c b L = valAt x.1 c) ∧ sgC mx (bestL mx c b L) ≤ sgC mx b ∧ ∀ x ∈ L, sgC mx (bestL mx c b L) ≤ sgC mx (valAt x.1 c) := by
  induction L generalizing b with
  | nil => exact ⟨.inl rfl, Int.le_refl _, by simp⟩
  | cons x r ih =>
    have hx := hL x (by simp)
    have hr : ∀ y ∈ r, okV (valAt y.1 c) := fun y hy => hL y (by simp [hy])
    have hi := betV_iff (mx := mx) hx hb
    unfold bestL
    by_cases e : betV mx (valAt x.1 c) b = true
    · rw [if_pos e]
      obtain ⟨h1, h2, h3⟩ := ih (valAt x.1 c) hx hr
      have hlt := hi.1 e
      refine ⟨.inr ?_, by omega, fun y hy => ?_⟩
      · rcases h1 with h1 | ⟨y, hy, h1⟩
        · exact ⟨x, by simp, h1⟩
        · exact ⟨y, by simp [hy], h1⟩
      · rcases List.mem_cons.1 hy with rfl | hy
        · exact h2
        · exact h3 y hy
    · rw [if_neg e]
      obtain ⟨h1, h2, h3⟩ := ih b hb hr
      have hge : ¬ sgC mx (valAt x.1 c) < sgC mx b := fun h => e (hi.2 h)
      refine ⟨?_, h2, fun y hy => ?_⟩
      · rcases h1 with h1 | ⟨y, hy, h1⟩
        · exact .inl h1
        · exact .inr ⟨y, by simp [hy], h1⟩
      · rcases List.mem_cons.1 hy with rfl | hy
        · omega
        · exact h3 y hy
theorem sgC_inj {mx : Bool} {x y : Vr} (hx : okV x) (hy : okV y) (h : sgC mx x = sgC mx y) : x = y := by
  refine vcode_inj x y hx.1 hy.1 hx.2 hy.2 ?_
  unfold sgC at h
  split at h <;> omega
theorem isV_self (c : Int) (r : List Vr) : isV c (valAt r c) r = 1 := by unfold isV; rw [Vr.eqb_refl, if_pos rfl]
theorem isV_one {c : Int} {x : Vr} {r : List Vr} (h : isV c x r ≠ 0) : valAt r c = x := by
  unfold isV at h
  split at h
  · rename_i e
    exact Vr.eqb_iff.1 e
  · exact absurd rfl h
theorem sumC_pos {L : Cps} (hp : ∀ c ∈ L, 1 ≤ c.2) (f : List Vr → Int) (hf : ∀ r, 0 ≤ f r) : (0 < sumC L f → ∃ c ∈ L, f c.1 ≠ 0) ∧ ∀ c ∈ L, f c.1 ≤ sumC L f := by
  induction L with
  | nil => simp [sumC]
  | cons c L ih =>
    obtain ⟨h1, h2⟩ := ih (fun x hx => hp x (by simp [hx]))
    have hc := hp c (by simp)
    have h3 := hf c.1
    have h4 : f c.1 ≤ c.2 * f c.1 := by
      have := Int.mul_le_mul_of_nonneg_right hc h3
      omega
    have h5 : 0 ≤ sumC L f := by
      have : ∀ M : Cps, (∀ c ∈ M, 1 ≤ c.2) → 0 ≤ sumC M f := fun M hM => by
        induction M with
        | nil => simp [sumC]
        | cons d M ihM =>
          rw [sumC_cons]
          have g1 := ihM (fun x hx => hM x (by simp [hx]))
          have g2 : 0 ≤ d.2 * f d.1 := Int.mul_nonneg (by have := hM d (by simp); omega) (hf _)
          omega
      exact this L (fun x hx => hp x (by simp [hx]))
    rw [sumC_cons]
    refine ⟨fun h => ?_, fun d hd => ?_⟩
    · by_cases e : f c.1 = 0
      · rw [e, Int.mul_zero, Int.zero_add] at h
        obtain ⟨d, hd, h6⟩ := h1 h
        exact ⟨d, by simp [hd], h6⟩
      · exact ⟨c, by simp, e⟩
    · rcases List.mem_cons.1 hd with rfl | hd
      · omega
      · have := h2 d hd
        omega
theorem nthL_last (es : List En) (h : ∀ e ∈ es, 1 ≤ e.n) (hne : es ≠ []) : nthL es (cntE es - 1) = ((es.getLast hne).v, true) := by
  induction es with
  | nil => exact absurd rfl hne
  | cons e r ih =>
    by_cases hr : r = []
    · subst hr
      rw [nthL, cntE_cons, cntE_nil, if_pos (by omega)]
      rfl
    · have h1 := len_le_cnt r (fun x hx => h x (by simp [hx]))
      have h2 : 0 < r.length := List.length_pos_iff.2 hr
      rw [nthL, cntE_cons, if_neg (by omega), show e.n + cntE r - 1 - e.n = cntE r - 1 by omega, ih (fun x hx => h x (by simp [hx])) hr, List.getLast_cons hr]
/-- What an extreme tells is the best of the copies. -/
theorem best_ext {L : Cps} {c : Int} {es : List En} (hp : ∀ c ∈ L, 1 ≤ c.2) (hg : GoodE es) (ho : ∀ x, okV x → ofE es x = sumC L (isV c x)) (hok : ∀ x ∈ L, okV (valAt x.1 c)) {d : List Vr × Int} {M : Cps} (hL : L = d :: M) (mx : Bool) :
    (nthE es (if mx = true then cntE es - 1 else 0)).1 = bestL mx c (valAt d.1 c) M := by
  subst hL
  have hA : ∀ e ∈ es, ∃ x ∈ d :: M, valAt x.1 c = e.v := fun e he => by
    have h1 : ofE es e.v = e.n := by
      obtain ⟨A, C, rfl⟩ := List.append_of_mem he
      have hpw := List.pairwise_append.1 hg.inc
      exact (of_yes (q := e.v) (fun y hy => hpw.2.2 y hy e (by simp)) e.n C (fun y hy => (List.pairwise_cons.1 hpw.2.1).1 y hy)).2
    have h2 := hg.pos e he
    rw [ho _ (hg.ok e he)] at h1
    obtain ⟨x, hx, h3⟩ := (sumC_pos hp (isV c e.v) (fun r => (isV_range _ _ _).1)).1 (by omega)
    exact ⟨x, hx, isV_one h3⟩
  have hB : ∀ x ∈ d :: M, ∃ e ∈ es, e.v = valAt x.1 c := fun x hx => by
    have h1 := (sumC_pos hp (isV c (valAt x.1 c)) (fun r => (isV_range _ _ _).1)).2 x hx
    rw [isV_self, ← ho _ (hok x hx)] at h1
    rcases cases_at es _ (hok x hx) hg with ⟨A, C, rfl, hA1, hC1⟩ | ⟨A, m, C, rfl, hm, hA1, hC1⟩
    · rw [(of_not hA1 hC1).2] at h1; omega
    · exact ⟨⟨_, m⟩, List.mem_append_right _ List.mem_cons_self, rfl⟩
  obtain ⟨hs1, hs2, hs3⟩ := bestL_spec mx c M (valAt d.1 c) (hok d (by simp)) (fun x hx => hok x (by simp [hx]))
  have hin : ∃ x ∈ d :: M, bestL mx c (valAt d.1 c) M = valAt x.1 c := by
    rcases hs1 with h | ⟨x, hx, h⟩
    · exact ⟨d, by simp, h⟩
    · exact ⟨x, by simp [hx], h⟩
  have hle : ∀ x ∈ d :: M, sgC mx (bestL mx c (valAt d.1 c) M) ≤ sgC mx (valAt x.1 c) := fun x hx => by
    rcases List.mem_cons.1 hx with rfl | hx
    · exact hs2
    · exact hs3 x hx
  obtain ⟨x0, hx0, hb0⟩ := hin
  obtain ⟨e0, he0, hv0⟩ := hB x0 hx0
  have hne : es ≠ [] := by rintro rfl; simp at he0
  have hokb : okV (bestL mx c (valAt d.1 c) M) := by rw [hb0]; exact hok x0 hx0
  have hlen : 0 < es.length := List.length_pos_iff.2 hne
  -- which entry it is
  have key : ∀ e ∈ es, (∀ e' ∈ es, sgC mx e.v ≤ sgC mx e'.v) → e.v = bestL mx c (valAt d.1 c) M := fun e he hmin => by
    obtain ⟨y, hy, h1⟩ := hA e he
    have h2 := hle y hy
    have h3 := hmin e0 he0
    rw [hv0, ← hb0] at h3
    rw [h1] at h2
    exact sgC_inj (mx := mx) (hg.ok e he) hokb (by omega)
  cases mx with
  | false =>
    have hn : (nthE es (if false = true then cntE es - 1 else 0)).1 = es[0].v := by
      cases es with
      | nil => exact absurd rfl hne
      | cons e r =>
        have := hg.pos e (by simp)
        simp only [Bool.false_eq_true, if_false, nthE, nthL]
        rw [if_neg (by omega), if_pos (by omega)]
        rfl
    rw [hn]
    refine key _ (List.getElem_mem hlen) (fun e' he' => ?_)
    obtain ⟨i, hi, rfl⟩ := List.getElem_of_mem he'
    simp only [sgC, Bool.false_eq_true, if_false]
    rcases Nat.eq_zero_or_pos i with h | h
    · subst h; exact Int.le_refl _
    · have := List.pairwise_iff_getElem.1 hg.inc 0 i hlen hi h
      unfold En.k at this
      omega
  | true =>
    have hc := len_le_cnt es hg.pos
    have hn : (nthE es (if true = true then cntE es - 1 else 0)).1 = (es.getLast hne).v := by
      simp only [if_true]
      unfold nthE
      rw [if_neg (by omega), nthL_last es hg.pos hne]
    rw [hn]
    refine key _ (List.getLast_mem hne) (fun e' he' => ?_)
    obtain ⟨i, hi, rfl⟩ := List.getElem_of_mem he'
    rw [List.getLast_eq_getElem]
    simp only [sgC, if_true]
    by_cases h : i = es.length - 1
    · subst h; exact Int.le_refl _
    · have := List.pairwise_iff_getElem.1 hg.inc i (es.length - 1) hi (by omega) (by omega)
      unfold En.k at this
      omega
end Go.Proofs.YtnidaahimofppaaGreat
