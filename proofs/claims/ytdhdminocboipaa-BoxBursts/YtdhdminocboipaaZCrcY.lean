/- The walks: Apart of crc, Apart of the document. -/
import Derived.Test.YtdhdminocboipaaZCrcX
namespace Go.Proofs.Ytdhdminocboipaa
open Go.RowKit

/-- The first and the last place, of n, at which d holds; (-1, -1): none. -/
def fl (d : Nat → Bool) : Nat → Int × Int
  | 0 => (-1, -1)
  | p + 1 => if d p then (if (fl d p).1 < 0 then (p : Int) else (fl d p).1, (p : Int)) else fl d p
theorem fl_bd (d : Nat → Bool) (n : Nat) : -1 ≤ (fl d n).1 ∧ -1 ≤ (fl d n).2 ∧ (fl d n).1 < n ∧ (fl d n).2 < n ∧ (fl d n).1 ≤ (fl d n).2 := by
  induction n with
  | zero => simp [fl]
  | succ n ih =>
    simp only [fl]
    split
    · split <;> simp <;> omega
    · omega
def apartBL (a b : List UInt8) : Int × Bool :=
  if a.length = b.length then
    (if (fl (fun p => bitAt a p != bitAt b p) (8 * a.length)).1 < 0 then 0 else (fl (fun p => bitAt a p != bitAt b p) (8 * a.length)).2 - (fl (fun p => bitAt a p != bitAt b p) (8 * a.length)).1 + 1, true)
  else (0, false)
theorem u8_xbit (x y r : Nat) (hx : x < 256) (hy : y < 256) : bits BinOp.and IntKind.u8 (bits BinOp.xor IntKind.u8 (x : Int) (y : Int) / 2 ^ r) 1 = if x.testBit r != y.testBit r then 1 else 0 := by
  have hxy : x ^^^ y < 256 := Nat.xor_lt_two_pow (n := 8) hx hy
  rw [u8_xor_nat _ _ hx hy]
  have h : (((x ^^^ y : Nat) : Int) / 2 ^ r) = (((x ^^^ y) / 2 ^ r : Nat) : Int) := by simp
  rw [h, show (1 : Int) = ((1 : Nat) : Int) from rfl, u8_and_nat _ _ (Nat.lt_of_le_of_lt (Nat.div_le_self _ _) hxy) (by omega), Nat.and_one_is_mod]
  have hb : (x ^^^ y).testBit r = (x.testBit r != y.testBit r) := by rw [Nat.testBit_xor]
  rw [← hb, Nat.testBit_eq_decide_div_mod_eq]
  have := Nat.mod_two_eq_zero_or_one ((x ^^^ y) / 2 ^ r)
  rcases this with h | h <;> simp [h]
theorem getD_byte (s : ByteArray) (q : Nat) (h : q < s.size) : s.data.toList.getD q 0 = s[q] := by
  simp [List.getD, h]
  rfl
end Go.Proofs.Ytdhdminocboipaa
