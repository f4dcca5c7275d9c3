/- Plain words on wide numbers (no program in sight): the halves of a whole number, what fits 128 bits, and the sums part by part. -/
import Derived.WalkKit
namespace Go.Proofs.YtnidaahimofppaaGreat
open Go.RowKit
set_option linter.unusedVariables false
set_option linter.unusedSimpArgs false

def vW (h l : Int) : Int := h * 18446744073709551616 + l
def hiW (V : Int) : Int := V / 18446744073709551616
def loW (V : Int) : Int := V % 18446744073709551616
def inW (V : Int) : Prop := -170141183460469231731687303715884105728 ≤ V ∧ V < 170141183460469231731687303715884105728
instance (V : Int) : Decidable (inW V) := by unfold inW; exact inferInstance
def addH (V : Int) : Int := if inW V then hiW V else 0
def addL (V : Int) : Int := if inW V then loW V else 0
def addE (V : Int) : Int := if inW V then 0 else 10
def in64 (V : Int) : Prop := -9223372036854775808 ≤ V ∧ V < 9223372036854775808
instance (V : Int) : Decidable (in64 V) := by unfold in64; exact inferInstance
def intN (V : Int) : Int := if in64 V then V else 0
def intE (V : Int) : Int := if in64 V then 0 else 10
def cmpW (A C : Int) : Int := if A < C then -1 else if A = C then 0 else 1
/-- A field Hi. -/
def okH (h : Int) : Prop := -9223372036854775808 ≤ h ∧ h ≤ 9223372036854775807
/-- A field Lo. -/
def okL (l : Int) : Prop := 0 ≤ l ∧ l ≤ 18446744073709551615

theorem u64_eq (n : Int) : IntKind.u64.wrap n = n % 18446744073709551616 := by
  simp [IntKind.wrap, IntKind.bits, IntKind.signed]
theorem u64_bd (h : Int) : 0 ≤ IntKind.u64.wrap h ∧ IntKind.u64.wrap h ≤ 18446744073709551615 := by
  rw [u64_eq]; omega
theorem vW_in {h l : Int} (H : okH h) (L : okL l) : inW (vW h l) := by
  unfold okH okL inW vW at *; omega
theorem hi_val {h l : Int} (L : okL l) : hiW (vW h l) = h := by
  unfold okL hiW vW at *; omega
theorem lo_val {h l : Int} (L : okL l) : loW (vW h l) = l := by
  unfold okL loW vW at *; omega
theorem val_hl (V : Int) : vW (hiW V) (loW V) = V := by
  unfold hiW loW vW; omega
theorem okL_lo (V : Int) : okL (loW V) := by unfold okL loW; omega
theorem okH_hi {V : Int} (h : inW V) : okH (hiW V) := by unfold okH hiW inW at *; omega
theorem okH_add (V : Int) : okH (addH V) := by
  unfold addH; split
  · exact okH_hi (by assumption)
  · unfold okH; omega
theorem okL_add (V : Int) : okL (addL V) := by
  unfold addL; split
  · exact okL_lo _
  · unfold okL; omega
theorem addH_in {V : Int} (h : inW V) : addH V = hiW V := if_pos h
theorem addL_in {V : Int} (h : inW V) : addL V = loW V := if_pos h
theorem addE_in {V : Int} (h : inW V) : addE V = 0 := if_pos h
theorem addH_out {V : Int} (h : ¬ inW V) : addH V = 0 := if_neg h
theorem addL_out {V : Int} (h : ¬ inW V) : addL V = 0 := if_neg h
theorem addE_out {V : Int} (h : ¬ inW V) : addE V = 10 := if_neg h
theorem in64_inW {V : Int} (h : in64 V) : inW V := by unfold in64 inW at *; omega

/-! ### the program's sum, by its halves -/
theorem half_sum {a b c d : Int} (ha : okH a) (hb : okL b) (hc : okH c) (hd : okL d) (lo cy hi : Int) (e1 : lo = (b + d) % 18446744073709551616) (e2 : cy = (b + d) / 18446744073709551616)
    (e3 : hi = (IntKind.u64.wrap a + IntKind.u64.wrap c + cy) % 18446744073709551616) :
    ((((a < 0 ↔ c < 0) ∧ ¬ (wrap64 hi < 0 ↔ a < 0)) ↔ ¬ inW (vW a b + vW c d)) ∧ (inW (vW a b + vW c d) → wrap64 hi = hiW (vW a b + vW c d) ∧ lo = loW (vW a b + vW c d))) := by
  rw [u64_eq, u64_eq] at e3
  unfold okH okL at *
  unfold inW vW hiW loW wrap64
  subst e1 e2
  refine ⟨?_, ?_⟩
  · by_cases h1 : a < 0 <;> by_cases h2 : c < 0 <;> simp only [h1, h2, true_iff, false_iff, iff_true, iff_false, Classical.not_not, true_and, false_and, not_true, not_false_iff] <;> omega
  · intro h
    omega

/-- The number that goes round. -/
def rnd (V : Int) : Int := (V + 170141183460469231731687303715884105728) % 340282366920938463463374607431768211456 - 170141183460469231731687303715884105728
theorem rnd_in {V : Int} (h : inW V) : rnd V = V := by unfold rnd inW at *; omega
theorem half_neg {a b : Int} (ha : okH a) (hb : okL b) (lo bw hi : Int) (e1 : lo = (18446744073709551616 - b) % 18446744073709551616) (e2 : bw = if b = 0 then 0 else 1)
    (e3 : hi = (18446744073709551616 - IntKind.u64.wrap a - bw) % 18446744073709551616) : wrap64 hi = hiW (rnd (-(vW a b))) ∧ lo = loW (rnd (-(vW a b))) := by
  rw [u64_eq] at e3
  unfold okH okL at *
  unfold rnd vW hiW loW wrap64
  subst e1
  split at e2 <;> subst e2 <;> omega

/-! ### the reference's parts -/
def sgn (h : Int) : Int := if h < 0 then -1 else 0
theorem or_parts (a b : Int) (h1 : 0 ≤ a) (h2 : a ≤ 4294967295) (h3 : 0 ≤ b) (h4 : b ≤ 4294967295) : bits .or .u64 (a * 4294967296) b = a * 4294967296 + b := by
  obtain ⟨n, rfl⟩ := Int.eq_ofNat_of_zero_le h1
  obtain ⟨m, rfl⟩ := Int.eq_ofNat_of_zero_le h3
  rw [u64_or _ _ (by omega) (by omega) (by omega) (by omega)]
  have e1 : ((n : Int) * 4294967296).toNat = n <<< 32 := by rw [Nat.shiftLeft_eq]; omega
  rw [e1, Int.toNat_natCast, ← Nat.shiftLeft_add_eq_or_of_lt (by omega), Nat.shiftLeft_eq]
  omega
/-- Four parts and what stands above them are a number. -/
def num5 (p0 p1 p2 p3 s : Int) : Int := p0 + p1 * 4294967296 + p2 * 18446744073709551616 + p3 * 79228162514264337593543950336 + s * 340282366920938463463374607431768211456
theorem parts_num {h l : Int} (H : okH h) (L : okL l) : num5 (l % 4294967296) (l / 4294967296) (IntKind.u64.wrap h % 4294967296) (IntKind.u64.wrap h / 4294967296) (sgn h) = vW h l := by
  rw [u64_eq]
  unfold okH okL at *
  unfold num5 vW sgn
  split <;> omega
def r0 (p0 q0 : Int) : Int := (p0 + q0) % 4294967296
def r1 (p0 q0 p1 q1 : Int) : Int := (p1 + q1 + (p0 + q0) / 4294967296) % 4294967296
def r2 (p0 q0 p1 q1 p2 q2 : Int) : Int := (p2 + q2 + (p1 + q1 + (p0 + q0) / 4294967296) / 4294967296) % 4294967296
def r3 (p0 q0 p1 q1 p2 q2 p3 q3 : Int) : Int := (p3 + q3 + (p2 + q2 + (p1 + q1 + (p0 + q0) / 4294967296) / 4294967296) / 4294967296) % 4294967296
def rs (p0 q0 p1 q1 p2 q2 p3 q3 s t : Int) : Int := s + t + (p3 + q3 + (p2 + q2 + (p1 + q1 + (p0 + q0) / 4294967296) / 4294967296) / 4294967296) / 4294967296
theorem num_sum (p0 p1 p2 p3 s q0 q1 q2 q3 t : Int) :
    num5 (r0 p0 q0) (r1 p0 q0 p1 q1) (r2 p0 q0 p1 q1 p2 q2) (r3 p0 q0 p1 q1 p2 q2 p3 q3) (rs p0 q0 p1 q1 p2 q2 p3 q3 s t) = num5 p0 p1 p2 p3 s + num5 q0 q1 q2 q3 t := by
  unfold num5 r0 r1 r2 r3 rs
  generalize h0 : (p0 + q0) / 4294967296 = c0
  generalize h1 : (p1 + q1 + c0) / 4294967296 = c1
  generalize h2 : (p2 + q2 + c1) / 4294967296 = c2
  generalize h3 : (p3 + q3 + c2) / 4294967296 = c3
  omega
theorem part_bd (x : Int) : 0 ≤ x % 4294967296 ∧ x % 4294967296 ≤ 4294967295 := by omega
/-- What fits, and the number put together. -/
theorem num_back {p0 p1 p2 p3 s V : Int} (h0 : 0 ≤ p0) (h1 : p0 ≤ 4294967295) (h2 : 0 ≤ p1) (h3 : p1 ≤ 4294967295) (h4 : 0 ≤ p2) (h5 : p2 ≤ 4294967295) (h6 : 0 ≤ p3) (h7 : p3 ≤ 4294967295) (e : num5 p0 p1 p2 p3 s = V) :
    ((if 2147483648 ≤ p3 then s == -1 else s == 0) = true ↔ inW V) ∧ (inW V → wrap64 (p3 * 4294967296 + p2) = hiW V ∧ p1 * 4294967296 + p0 = loW V) := by
  subst e
  unfold num5 inW hiW loW wrap64
  refine ⟨?_, ?_⟩
  · split <;> simp only [beq_iff_eq] <;> omega
  · intro h; omega
end Go.Proofs.YtnidaahimofppaaGreat
