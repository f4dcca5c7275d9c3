/- Slices of tokens (two cells each): made and appended to by the call itself, or read. -/
import Derived.Test.YtlckgloaknjcgaaLexL
namespace Go.Proofs.Ytlckgloaknjcgaa
open Go.RowKit
set_option linter.unusedVariables false
set_option linter.unusedSimpArgs false

/-- A text of these bytes. -/
def bs (l : Bs) : ByteArray := ⟨l.toArray⟩
theorem tx_bs (l : Bs) : tx (bs l) = l := by simp [tx, bs]
theorem bs_tx (s : ByteArray) : bs (tx s) = s := tx_inj (tx_bs _)
theorem bs_size (l : Bs) : (bs l).size = l.length := by rw [← tx_len, tx_bs]
theorem bs_take (s : ByteArray) (n : Nat) : s.extract 0 n = bs ((tx s).take n) := tx_inj (by rw [tx_take, tx_bs])
theorem bs_drop (s : ByteArray) (n : Nat) : s.extract n s.size = bs ((tx s).drop n) := tx_inj (by rw [tx_drop, tx_bs])
theorem bs_inj {l m : Bs} (h : bs l = bs m) : l = m := by rw [← tx_bs l, h, tx_bs]
/-- A token: a kind and bytes. -/
abbrev Tok := Int × Bs
def tokV (t : Tok) : List Value := [.int .i64 t.1, .string (bs t.2)]
def toksV (ts : List Tok) : List Value := ts.flatMap tokV
theorem toksV_len (ts : List Tok) : (toksV ts).length = ts.length * 2 := by
  induction ts with
  | nil => rfl
  | cons t r ih => simp only [toksV, List.flatMap_cons, List.length_append, List.length_cons] at ih ⊢; rw [ih]; simp [tokV]; omega
theorem toksV_app (ts us : List Tok) : toksV (ts ++ us) = toksV ts ++ toksV us := by simp [toksV]
theorem toksV_at (ts : List Tok) (i : Nat) (hi : i < ts.length) : (toksV ts)[i * 2]? = some (.int .i64 (ts[i]).1) ∧ (toksV ts)[i * 2 + 1]? = some (.string (bs (ts[i]).2)) := by
  induction ts generalizing i with
  | nil => simp at hi
  | cons t r ih =>
    have e : toksV (t :: r) = .int .i64 t.1 :: .string (bs t.2) :: toksV r := rfl
    rw [e]
    cases i with
    | zero => simp
    | succ i =>
      have h := ih i (by simpa using hi)
      rw [show (i + 1) * 2 = i * 2 + 1 + 1 by omega]
      simpa using h
/-- The slice is the call's own and holds these tokens. -/
def OwnT (w : World) (base : Nat) (e : TypeId) (v : Value) (ts : List Tok) : Prop := w.ownsRow base e 2 v ts.length (toksV ts)
theorem OwnT.below {w w1 : World} {base : Nat} {e : TypeId} {v : Value} {ts : List Tok} (h : OwnT w base e v ts) (hb : Below w.heap.size w w1) : OwnT w1 base e v ts := by
  refine ⟨h.1, ?_⟩
  rcases h.2 with h2 | ⟨g, cap, cur, h1, h2, h3, h4⟩
  · exact .inl h2
  · exact .inr ⟨g, cap, cur, h1, h2, by rw [hb.block g (Array.getElem?_eq_some_iff.1 h3).1]; exact h3, h4⟩
theorem OwnT.empty (w : World) (base : Nat) (e : TypeId) (hb : base ≤ w.heap.size) : OwnT (w.alloc (.cells #[] e)) base e (.slice (some ⟨w.heap.size, 0, none⟩) 0 0) [] := by
  have h := World.ownsRow_lit (base := base) (e := e) (size := 2) w #[] 0 hb (by simp) (by simp)
  simpa [OwnT, toksV] using h
theorem OwnT.base {w : World} {base : Nat} {e : TypeId} {v : Value} {ts : List Tok} (h : OwnT w base e v ts) (k : Nat) (hk : v.ownBlock = some k) : base ≤ k := by
  rcases h.2 with ⟨rfl, _⟩ | ⟨g, cap, cur, rfl, hb, _⟩
  · simp [Value.ownBlock] at hk
  · have : g = k := by simpa [Value.ownBlock] using hk
    omega
theorem OwnT.far {w : World} {base : Nat} {e : TypeId} {v : Value} {ts : List Tok} (h : OwnT w base e v ts) (k : Nat) (hk : w.heap.size ≤ k) : some k ≠ v.ownBlock := by
  rcases h.2 with ⟨rfl, _⟩ | ⟨g, cap, cur, rfl, hb, hh, _⟩
  · simp [Value.ownBlock]
  · have := (Array.getElem?_eq_some_iff.1 hh).1
    simp [Value.ownBlock]
    omega
/-- The slice holds these tokens, wherever it lies. -/
def HasT (w : World) (v : Value) (ts : List Tok) : Prop := ∃ A c, v = .slice A ts.length c ∧ (ts ≠ [] → ∃ b off, A = some ⟨b, off, none⟩ ∧ b < w.heap.size ∧ ∀ i, (hi : i < ts.length) → w.cell? ⟨b, off + i * 2, none⟩ = some (.int .i64 (ts[i]).1) ∧ w.cell? ⟨b, off + i * 2 + 1, none⟩ = some (.string (bs (ts[i]).2)))
theorem HasT.below {w w1 : World} {v : Value} {ts : List Tok} (h : HasT w v ts) (hb : Below w.heap.size w w1) : HasT w1 v ts := by
  obtain ⟨A, c, hv, hc⟩ := h
  refine ⟨A, c, hv, fun hn => ?_⟩
  obtain ⟨b, off, hA, hlt, hcell⟩ := hc hn
  refine ⟨b, off, hA, Nat.lt_of_lt_of_le hlt hb.size, fun i hi => ?_⟩
  obtain ⟨e0, e1⟩ := hcell i hi
  exact ⟨(World.cell?_of_block (hb.block b hlt)).trans e0, (World.cell?_of_block (hb.block b hlt)).trans e1⟩
theorem HasT.nil (w : World) : HasT w (.slice none 0 0) [] := ⟨none, 0, rfl, fun h => absurd rfl h⟩
theorem OwnT.has {w : World} {base : Nat} {e : TypeId} {v : Value} {ts : List Tok} (h : OwnT w base e v ts) : HasT w v ts := by
  rcases h.2 with ⟨rfl, hn⟩ | ⟨g, cap, cur, rfl, hb, hh, hc, hm, _⟩
  · rw [List.eq_nil_of_length_eq_zero hn]; exact HasT.nil w
  · refine ⟨_, cap, rfl, fun hn => ⟨g, 0, rfl, (Array.getElem?_eq_some_iff.1 hh).1, fun i hi => ?_⟩⟩
    obtain ⟨e0, e1⟩ := toksV_at ts i hi
    refine ⟨?_, ?_⟩
    · rw [Nat.zero_add, World.ownsRow.cellAt h (i * 2) (by omega), e0]
    · rw [Nat.zero_add, World.ownsRow.cellAt h (i * 2 + 1) (by omega), e1]
theorem two_new (W : World) (x y : Value) (e : TypeId) (j : Nat) (u : Value) (hj : [x, y][j]? = some u) : (W.alloc (.cells #[x, y] e)).cell? ((⟨W.heap.size, 0, none⟩ : Addr).add j) = some u := by
  match j, hj with
  | 0, hj => simp at hj; subst hj; simp [Addr.add]
  | 1, hj => simp at hj; subst hj; simp [Addr.add]
section
variable {P : Program} {ops : Array Oper} {rest : List Oper} {o : Oper} {a : Act} {Q : Exit → Act → World → Prop}
theorem app_tok {w0 W : World} (hgd : o.guard = none) (s x : Operand) (t e : TypeId) (z : Value) (bytes : Nat)
    (ho : o.op = .call { callee := .builtin .append, args := #[s, x], argTypes := #[t, t] })
    (ht : P.underlying t = some (.slice e)) (hinfo : (P.info? e).map (fun i => (i.zero, i.size, i.bytes)) = some (some z, 2, bytes)) (hz : z.cells.size = 2) (hb0 : 0 < bytes)
    (v : Value) (ts : List Tok) (k : Int) (y : ByteArray) (hs : a.eval s = v) (hx : a.eval x = .slice (some ⟨W.heap.size, 0, none⟩) 1 1)
    (HO : OwnT W w0.heap.size e v ts) (HB : Below w0.heap.size w0 W) (hl : (ts.length + 1) * bytes ≤ 140737488355328)
    (h : ∀ v1 r d, OwnT (xw w0 r d) w0.heap.size e v1 (ts ++ [(k, tx y)]) → (W.alloc (.cells #[.int .i64 k, .string y] e)).grownBy (xw w0 r d) v.ownBlock → wpList P ops Q rest (a.put o.dst v1) (xw w0 r d)) :
    wpList P ops Q (o :: rest) a (W.alloc (.cells #[.int .i64 k, .string y] e)) := by
  obtain ⟨i0, hi, hzz⟩ := Option.map_eq_some_iff.1 hinfo
  simp only [Prod.mk.injEq] at hzz
  obtain ⟨hz0, hz1, hz2⟩ := hzz
  have hlen : ts.length + 1 ≤ 140737488355328 := Nat.le_trans (Nat.le_mul_of_pos_right _ hb0) hl
  refine wpList_append_own_at (W.alloc (.cells #[.int .i64 k, .string y] e)) hgd s x t ho w0.heap.size e i0 z 2 bytes ht hi hz0 hz1 hz2 hz (by omega) v ts.length (toksV ts) hs (OwnT.below HO ((Below.refl _ _).alloc (Nat.le_refl _) _)) ⟨W.heap.size, 0, none⟩ 1 1 [.int .i64 k, .string y] hx rfl
    (two_new W _ _ e) (by simp; exact ⟨rfl, rfl⟩) (by simp only [maxLen]; omega) hl (by have := HB.size; simp; omega) ?_
  intro v1 w1 hown hg _ hat
  obtain ⟨r, d, rfl⟩ := grown_xw (HB.alloc HB.size (.cells #[.int .i64 k, .string y] e)) hg (OwnT.base HO)
  refine h v1 r d ?_ hg
  unfold OwnT
  rw [toksV_app, List.length_append]
  have e2 : toksV [(k, tx y)] = [.int .i64 k, .string y] := by simp [toksV, tokV, bs_tx]
  rw [e2]
  exact hown
end
end Go.Proofs.Ytlckgloaknjcgaa
