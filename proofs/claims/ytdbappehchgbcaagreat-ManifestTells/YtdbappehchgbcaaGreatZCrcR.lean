/- The walks over the document's answer for crc: Bits, Step, More, Join. -/
import Derived.Test.YtdbappehchgbcaaGreatProg
import Derived.Test.YtdbappehchgbcaaGreatZPack
import Derived.Test.YtdbappehchgbcaaGreatZCrcA
import Derived.Deep.RegionWith
import Derived.RegionTactic
import Derived.ChangeAlike
import Derived.Deep.QuietTactic
import Derived.BigQuiet
namespace Go.Proofs.YtdbappehchgbcaaGreat
open Go.RowKit

/-- Bit j of a text. -/
def bitAt (l : List UInt8) (j : Nat) : Bool := (l.getD (j / 8) 0).toNat.testBit (j % 8)
theorem bit_of_div (x m : Nat) : (((x / 2 ^ m : Nat) : Int) % 2 == 1) = x.testBit m := by
  rw [Nat.testBit_eq_decide_div_mod_eq]
  generalize x / 2 ^ m = d
  by_cases h : d % 2 = 1
  · simp [h]; omega
  · simp [h]; omega
/-- 'More' by bits: the bits of l from 0 to n, one by one. -/
def bitsTo (l : List UInt8) (c : Nat) : Nat → Nat
  | 0 => c
  | n + 1 => stepN (bitsTo l c n ^^^ (if bitAt l n then 1 else 0))
theorem bitsTo_lt (l : List UInt8) (c : Nat) (hc : c < 4294967296) (n : Nat) : bitsTo l c n < 4294967296 := by
  induction n with
  | zero => exact hc
  | succ n ih => exact stepN_lt _ (xor_lt32 ih (by split <;> omega))
end Go.Proofs.YtdbappehchgbcaaGreat
