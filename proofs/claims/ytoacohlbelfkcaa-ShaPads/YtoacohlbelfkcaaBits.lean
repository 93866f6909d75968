/- Plain facts on numbers and bits, and rules for the walk: no program is named here. -/
import Derived.WalkKit
import Derived.Lib.Hide
import Derived.Lib.Strings
import Derived.WalkSpells
import Derived.WalkLawsBesides
namespace Go.Proofs.Ytoacohlbelfkcaa
open Go.RowKit

theorem ret_int {k : IntKind} {a b : Int} (h : a = b) : Ending.returned (.int k a) = .returned (.int k b) := by rw [h]
theorem ret_str {a b : ByteArray} (h : a = b) : Ending.returned (.string a) = .returned (.string b) := by rw [h]
theorem ret_bool {a b : Bool} (h : a = b) : Ending.returned (.bool a) = .returned (.bool b) := by rw [h]
theorem ret_si {a b : ByteArray} {c d : Int} {k : IntKind} (h : a = b) (h' : c = d) : Ending.returned (.tuple #[.string a, .int k c]) = .returned (.tuple #[.string b, .int k d]) := by rw [h, h']
theorem ret_ib {a b : Int} {c d : Bool} {k : IntKind} (h : a = b) (h' : c = d) : Ending.returned (.tuple #[.int k a, .bool c]) = .returned (.tuple #[.int k b, .bool d]) := by rw [h, h']
theorem xor_lt32 {a b : Nat} (ha : a < 4294967296) (hb : b < 4294967296) : a ^^^ b < 4294967296 := Nat.xor_lt_two_pow (n := 32) ha hb
theorem take_snoc (s : ByteArray) (k : Nat) (h : k < s.size) : s.data.toList.take (k + 1) = s.data.toList.take k ++ [s[k]] := by
  rw [List.take_succ_eq_append_getElem (by simpa using h)]; rfl
theorem byte_lt (b : UInt8) : b.toNat < 256 := b.toNat_lt

theorem u32_max : IntKind.u32.max = 4294967295 := rfl
theorem u32_signed : IntKind.u32.signed = false := rfl
theorem not_xor32 (x : Nat) (hx : x < 4294967296) : 4294967295 ^^^ x = 4294967295 - x := by
  have h1 := BitVec.toNat_not (x := BitVec.ofNat 32 x)
  have h2 := BitVec.toNat_xor (BitVec.allOnes 32) (BitVec.ofNat 32 x)
  rw [BitVec.allOnes_xor] at h2
  rw [h2] at h1
  simpa [Nat.mod_eq_of_lt hx] using h1
theorem u32_not (x : Nat) (hx : x < 4294967296) : bits BinOp.xor IntKind.u32 4294967295 (x : Int) = ((4294967295 - x : Nat) : Int) := by
  rw [show (4294967295 : Int) = ((4294967295 : Nat) : Int) from rfl, u32_xor_nat _ _ (by omega) hx, not_xor32 x hx]
theorem u32_xorc (x y : Nat) (hx : x < 4294967296) (hy : y < 4294967296) : bits BinOp.xor IntKind.u32 (x : Int) (y : Int) = ((x ^^^ y : Nat) : Int) := u32_xor_nat _ _ hx hy
attribute [go_sem] u32_max u32_signed u32_not u32_xorc

def iter {α : Type} (f : α → α) : Nat → α → α
  | 0, x => x
  | n + 1, x => f (iter f n x)
theorem iter_add {α : Type} (f : α → α) (n m : Nat) (x : α) : iter f (n + m) x = iter f n (iter f m x) := by
  induction n with
  | zero => rw [Nat.zero_add]; rfl
  | succ n ih => rw [Nat.succ_add]; simp [iter, ih]
theorem iter_succ' {α : Type} (f : α → α) (n : Nat) (x : α) : iter f (n + 1) x = iter f n (f x) := iter_add f n 1 x
end Go.Proofs.Ytoacohlbelfkcaa
