/- The reader of package pack, and the document's. -/
import Derived.Test.YtcpbgacdoigpnaaZSxT
import Derived.Test.YtcpbgacdoigpnaaZSxb
import Derived.Test.YtcpbgacdoigpnaaZPack
import Derived.Laws.BitsAllLaws
namespace Go.Proofs.Ytcpbgacdoigpnaa
open Go.RowKit

/-- A number, the lowest byte first. -/
def leV : List UInt8 → Nat
  | [] => 0
  | b :: r => b.toNat + 256 * leV r
theorem leV_lt : ∀ l : List UInt8, leV l < 2 ^ (8 * l.length)
  | [] => by simp [leV]
  | b :: r => by
    have h := leV_lt r
    have hb := b.toNat_lt
    rw [List.length_cons, show 8 * (r.length + 1) = 8 * r.length + 8 from by omega, Nat.pow_add]
    simp only [leV]
    generalize 2 ^ (8 * r.length) = q at h ⊢
    omega
theorem leV_snoc : ∀ (l : List UInt8) (b : UInt8), leV (l ++ [b]) = leV l + 2 ^ (8 * l.length) * b.toNat
  | [], b => by simp [leV]
  | c :: r, b => by
    rw [List.cons_append, leV, leV_snoc r b, leV, List.length_cons, show 8 * (r.length + 1) = 8 * r.length + 8 from by omega, Nat.pow_add]
    generalize 2 ^ (8 * r.length) = q
    rw [Nat.mul_add, Nat.add_assoc, show 256 * (q * b.toNat) = q * 2 ^ 8 * b.toNat from by rw [show (256 : Nat) = 2 ^ 8 from rfl]; ac_rfl]
/-- What is read, what is left, and the error. -/
def takeR (n : Nat) (l : List UInt8) (e : Int) : List UInt8 × List UInt8 × Int := if e ≠ 0 then ([], l, e) else if l.length < n then ([], [], 10) else (l.take n, l.drop n, 0)
theorem mk_extract (l : List UInt8) (a b : Nat) : (⟨l.toArray⟩ : ByteArray).extract a b = ⟨((l.take b).drop a).toArray⟩ := by
  apply ByteArray.ext
  apply Array.ext'
  rw [Go.Lib.extract_data]
  simp [List.drop_take]
theorem mk_size (l : List UInt8) : (⟨l.toArray⟩ : ByteArray).size = l.length := rfl
theorem or_byte (m b i : Nat) (hm : m < 2 ^ (8 * i)) (hb : b < 256) (hi : i < 8) : bitI .or .u64 (m : Nat) ((2 ^ (8 * i) * b : Nat) : Int) = ((m + 2 ^ (8 * i) * b : Nat) : Int) := by
  have hq : 2 ^ (8 * i) * 256 ≤ 18446744073709551616 := by
    have : 2 ^ (8 * i) * 2 ^ 8 ≤ 2 ^ 64 := by rw [← Nat.pow_add]; exact Nat.pow_le_pow_right (by omega) (by omega)
    simpa using this
  have hor : m ||| 2 ^ (8 * i) * b = m + 2 ^ (8 * i) * b := by rw [Nat.or_comm, ← Nat.two_pow_add_eq_or_of_lt hm b, Nat.add_comm]
  have hs : m + 2 ^ (8 * i) * b < 18446744073709551616 := by
    have : 2 ^ (8 * i) * b + 2 ^ (8 * i) ≤ 2 ^ (8 * i) * 256 := by rw [← Nat.mul_succ]; exact Nat.mul_le_mul_left _ hb
    omega
  have h := u64_or_nat m (2 ^ (8 * i) * b) (by omega) (by omega)
  rw [hor] at h
  exact h
theorem leV_take (l : List UInt8) (i : Nat) (hi : i < l.length) : leV (l.take (i + 1)) = leV (l.take i) + 2 ^ (8 * i) * (l.getD i 0).toNat := by
  rw [List.take_add_one, List.getElem?_eq_getElem hi]
  simp only [Option.toList_some]
  rw [leV_snoc, List.length_take, Nat.min_eq_left (by omega)]
  simp [List.getD, List.getElem?_eq_getElem hi]
section
variable {W : World} {M : List Nat} {H : Hp} {w : World}
theorem takeR_len (n : Nat) (l : List UInt8) (e : Int) : (takeR n l e).1.length ≤ n := by
  unfold takeR
  split
  · simp
  · split
    · simp
    · simp; omega
theorem leV_take2 (l : List UInt8) (e : Int) : leV (takeR 2 l e).1 < 65536 := by
  have h := leV_lt (takeR 2 l e).1
  have h2 := takeR_len 2 l e
  have : 2 ^ (8 * (takeR 2 l e).1.length) ≤ 2 ^ 16 := Nat.pow_le_pow_right (by omega) (by omega)
  simp only [Nat.reducePow] at this
  omega
theorem leV_take4 (l : List UInt8) (e : Int) : leV (takeR 4 l e).1 < 4294967296 := by
  have h := leV_lt (takeR 4 l e).1
  have h2 := takeR_len 4 l e
  have : 2 ^ (8 * (takeR 4 l e).1.length) ≤ 2 ^ 32 := Nat.pow_le_pow_right (by omega) (by omega)
  simp only [Nat.reducePow] at this
  omega
end
end Go.Proofs.Ytcpbgacdoigpnaa
