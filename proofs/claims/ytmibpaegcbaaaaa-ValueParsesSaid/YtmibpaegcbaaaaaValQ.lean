/- Plain words on numbers and texts as they are written (no program in sight). -/
import Derived.Test.YtmibpaegcbaaaaaValP
namespace Go.Proofs.Ytmibpaegcbaaaaa
set_option linter.unusedVariables false
set_option linter.unusedSimpArgs false

def isD (b : UInt8) : Bool := decide (48 ≤ b.toNat) && decide (b.toNat ≤ 57)
theorem isD_iff {b : UInt8} : isD b = true ↔ 48 ≤ b.toNat ∧ b.toNat ≤ 57 := by simp [isD]
def runB (p : UInt8 → Bool) : Bs → Nat
  | [] => 0
  | b :: t => if p b then runB p t + 1 else 0
theorem run_le (p : UInt8 → Bool) (l : Bs) : runB p l ≤ l.length := by
  induction l with
  | nil => simp [runB]
  | cons b t ih => simp only [runB]; split <;> simp <;> omega
theorem run_at (p : UInt8 → Bool) (l : Bs) (i : Nat) (hi : i ≤ runB p l) (b : UInt8) (hb : l[i]? = some b) : p b = true ↔ i < runB p l := by
  induction l generalizing i with
  | nil => simp at hb
  | cons c t ih =>
    cases i with
    | zero =>
      simp at hb
      subst hb
      cases h : p c with
      | false => simp [runB, h]
      | true => simp [runB, h]
    | succ i =>
      simp at hb
      simp only [runB] at hi ⊢
      by_cases h : p c = true
      · rw [if_pos h] at hi ⊢
        rw [ih i (by omega) hb]
        omega
      · rw [if_neg h] at hi; omega
/-- The number of these digits. -/
def decB (l : Bs) : Nat := l.foldl (fun x b => x * 10 + (b.toNat - 48)) 0
theorem decB_snoc (l : Bs) (b : UInt8) : decB (l ++ [b]) = decB l * 10 + (b.toNat - 48) := by simp [decB]
theorem decB_take (l : Bs) (i : Nat) (b : UInt8) (hb : l[i]? = some b) : decB (l.take (i + 1)) = decB (l.take i) * 10 + (b.toNat - 48) := by
  rw [List.take_add_one, hb, Option.toList_some, decB_snoc]
/-- A number as it is written, without its sign, or what is wrong. -/
def numD (below : Bool) (d : Bs) : Except Int Int :=
  if d = [] then .error 4
  else if d.head? = some 48 ∧ (1 < d.length ∨ below = true) then .error 4
  else if runB isD d ≠ d.length then .error 4
  else if 19 < d.length then .error 10
  else if below = true then (if decB d ≤ 9223372036854775808 then .ok (-(decB d : Int)) else .error 10)
  else (if decB d ≤ 9223372036854775807 then .ok (decB d : Int) else .error 10)
def numR (l : Bs) : Except Int Int := if l.head? = some 45 then numD true l.tail else numD false l
def plainB (b : UInt8) : Bool := decide (32 ≤ b.toNat) && decide (b.toNat ≤ 126) && decide (b.toNat ≠ 39) && decide (b.toNat ≠ 92)
def hexN (b : UInt8) : Nat := if 48 ≤ b.toNat ∧ b.toNat ≤ 57 then b.toNat - 48 else if 97 ≤ b.toNat ∧ b.toNat ≤ 102 then b.toNat - 87 else 16
def digN (n : Nat) : UInt8 := if n < 10 then UInt8.ofNat (48 + n) else UInt8.ofNat (87 + n)
/-- A text between quotes. -/
def bodyB : Bs → Bs
  | [] => []
  | b :: t => if plainB b then b :: bodyB t else 92 :: digN (b.toNat / 16) :: digN (b.toNat % 16) :: bodyB t
def showT (l : Bs) : Bs := 39 :: (bodyB l ++ [39])
/-- What is written between quotes, read: as it is, behind a stroke, behind a stroke and a digit. -/
inductive Us
  | plain
  | hi
  | lo (h : Nat)
def byteN (h l : Nat) : UInt8 := UInt8.ofNat (16 * h + l)
def unqS : Us → Bs → Option Bs
  | .plain, [] => some []
  | .hi, [] => none
  | .lo _, [] => none
  | .plain, b :: t => if b = 92 then unqS .hi t else if plainB b then (unqS .plain t).map (b :: ·) else none
  | .hi, x :: t => if hexN x ≤ 15 then unqS (.lo (hexN x)) t else none
  | .lo h, y :: t => if hexN y ≤ 15 then (if plainB (byteN h (hexN y)) then none else (unqS .plain t).map (byteN h (hexN y) :: ·)) else none
def unqB (l : Bs) : Option Bs := if l.length < 2 ∨ l.getLast? ≠ some 39 then none else unqS .plain (l.tail.dropLast)
/-- What is written, as a value, or what is wrong. -/
def parseB (l : Bs) : Except Int Va :=
  if l = [] then .error 4
  else if l.head? = some 39 then (match unqB l with
    | none => .error 4
    | some t => if 64 < t.length then .error 6 else .ok ⟨2, 0, t⟩)
  else match numR l with
    | .error e => .error e
    | .ok n => .ok ⟨1, n, []⟩
end Go.Proofs.Ytmibpaegcbaaaaa
