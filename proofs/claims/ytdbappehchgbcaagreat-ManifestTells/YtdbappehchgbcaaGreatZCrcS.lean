/- The walk over the document's Sum for crc: long division. -/
import Derived.Test.YtdbappehchgbcaaGreatZCrcR
namespace Go.Proofs.YtdbappehchgbcaaGreat
open Go.RowKit

def polyAt (i : Nat) : Bool := (4374732215 : Nat).testBit (32 - i)
/-- One step of the long division at place a, as far as its first m bits. -/
def divPart (a m : Nat) (L : Nat → Bool) : Nat → Bool := fun j => if a ≤ j ∧ j < a + m then L j != polyAt (j - a) else L j
def divTo (L : Nat → Bool) : Nat → Nat → Bool
  | 0 => L
  | a + 1 => if divTo L a a then divPart a 33 (divTo L a) else divTo L a
/-- What is read off at the end, from the highest bit on. -/
def readOff (L : Nat → Bool) (a : Nat) : Nat → Nat
  | 0 => 0
  | m + 1 => readOff L a m * 2 + (if L (a + (31 - m)) then 0 else 1)
theorem readOff_lt (L : Nat → Bool) (a m : Nat) : readOff L a m < 2 ^ m := by
  induction m with
  | zero => simp [readOff]
  | succ m ih => simp only [readOff, Nat.pow_succ]; split <;> omega
def longStart (l : List UInt8) (j : Nat) : Bool := if j < 32 then !(if j < 8 * l.length then bitAt l j else false) else if j < 8 * l.length then bitAt l j else false
def longSum (l : List UInt8) : Nat := readOff (divTo (longStart l) (8 * l.length)) (8 * l.length) 32

end Go.Proofs.YtdbappehchgbcaaGreat
