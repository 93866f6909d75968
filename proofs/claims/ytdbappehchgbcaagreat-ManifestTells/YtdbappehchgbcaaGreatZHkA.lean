/- Fingerprints: 32 bytes; bits. -/
import Derived.Test.YtdbappehchgbcaaGreatZSxT
import Derived.Test.YtdbappehchgbcaaGreatZSxb
import Derived.Laws.BitsAllLaws
namespace Go.Proofs.YtdbappehchgbcaaGreat
open Go.RowKit

def bV (b : UInt8) : Value := .int .u8 (b.toNat : Int)
def fpC (f : List UInt8) : List Value := f.map bV
def fpV (f : List UInt8) : Value := .agg (fpC f).toArray
def txH (l : List UInt8) : Value := .string ⟨l.toArray⟩
theorem mkh_size (l : List UInt8) : (⟨l.toArray⟩ : ByteArray).size = l.length := by simp [ByteArray.size]
theorem mkh_extract (l : List UInt8) (a b : Nat) : (⟨l.toArray⟩ : ByteArray).extract a b = ⟨((l.drop a).take (b - a)).toArray⟩ := by
  apply ByteArray.ext
  rw [ByteArray.data_extract]
  simp
theorem mkh_append (l m : List UInt8) : (⟨l.toArray⟩ : ByteArray) ++ (⟨m.toArray⟩ : ByteArray) = ⟨(l ++ m).toArray⟩ := by
  apply ByteArray.ext; simp
theorem fpC_get {f : List UInt8} {i : Nat} (h : i < f.length) : (fpC f)[i]? = some (bV (f.getD i 0)) := by
  unfold fpC
  rw [List.getElem?_map, List.getD_eq_getElem?_getD, List.getElem?_eq_getElem h]
  rfl
theorem fpC_len (f : List UInt8) : (fpC f).length = f.length := List.length_map ..
theorem getD_lt (f : List UInt8) (i : Nat) : (f.getD i 0).toNat < 256 := (f.getD i 0).toNat_lt
theorem take_succD {f : List UInt8} {i : Nat} (h : i < f.length) : f.take (i + 1) = f.take i ++ [f.getD i 0] := by
  rw [List.take_add_one, List.getD_eq_getElem?_getD, List.getElem?_eq_getElem h]; rfl
theorem bitI_or32 (a y : Nat) (ha : a < 4294967296) (h8 : a % 256 = 0) (hy : y < 256) : bitI .or .u32 (a : Nat) (y : Nat) = ((a + y : Nat) : Int) := by
  have h : a ||| y = a + y := by
    have := Nat.two_pow_add_eq_or_of_lt (i := 8) hy (a / 256)
    rw [show 2 ^ 8 * (a / 256) = a by omega] at this
    exact this.symm
  have h2 := u32_or_nat a y ha (by omega)
  rw [h] at h2
  exact h2
theorem bitI_or8 (a y : Nat) (ha : a < 256) (h4 : a % 16 = 0) (hy : y < 16) : bitI .or .u8 (a : Nat) (y : Nat) = ((a + y : Nat) : Int) := by
  have h : a ||| y = a + y := by
    have := Nat.two_pow_add_eq_or_of_lt (i := 4) hy (a / 16)
    rw [show 2 ^ 4 * (a / 16) = a by omega] at this
    exact this.symm
  have h2 := u8_or_nat a y ha (by omega)
  rw [h] at h2
  exact h2
theorem bitI_and15 (a : Nat) (ha : a < 256) : bitI .and .u8 (a : Nat) 15 = ((a % 16 : Nat) : Int) := by
  have h : a &&& 15 = a % 16 := Nat.and_two_pow_sub_one_eq_mod a 4
  have h2 := u8_and_nat a 15 ha (by omega)
  rw [h] at h2
  exact h2
/-- The first bytes as a number. -/
def beV (l : List UInt8) : Nat := l.foldl (fun n b => n * 256 + b.toNat) 0
theorem beV_snoc (l : List UInt8) (b : UInt8) : beV (l ++ [b]) = beV l * 256 + b.toNat := by simp [beV, List.foldl_append]
theorem beV_lt : ∀ (k : Nat) (f : List UInt8), beV (f.take k) < 256 ^ k
  | 0, f => by simp [beV]
  | k + 1, f => by
    have ih := beV_lt k f
    by_cases h : k < f.length
    · rw [take_succD h, beV_snoc, Nat.pow_succ]
      have := getD_lt f k
      omega
    · rw [List.take_of_length_le (by omega)]
      rw [List.take_of_length_le (by omega)] at ih
      rw [Nat.pow_succ]; omega
/-- The digits of base 16. -/
def digs : List UInt8 := [48, 49, 50, 51, 52, 53, 54, 55, 56, 57, 97, 98, 99, 100, 101, 102]
def hexB (b : UInt8) : List UInt8 := [digs.getD (b.toNat / 16) 0, digs.getD (b.toNat % 16) 0]
def hexL (f : List UInt8) : List UInt8 := f.flatMap hexB
theorem hexL_snoc (l : List UInt8) (b : UInt8) : hexL (l ++ [b]) = hexL l ++ hexB b := by simp [hexL]
theorem hexL_len : ∀ f : List UInt8, (hexL f).length = 2 * f.length
  | [] => rfl
  | b :: f => by
    have := hexL_len f
    unfold hexL at this ⊢
    rw [List.flatMap_cons, List.length_append, this, List.length_cons]
    simp only [hexB, List.length_cons, List.length_nil]
    omega
theorem digs_cut (x : Nat) (hx : x < 16) : (digs.drop x).take (x + 1 - x) = [digs.getD x 0] := by
  have : x = 0 ∨ x = 1 ∨ x = 2 ∨ x = 3 ∨ x = 4 ∨ x = 5 ∨ x = 6 ∨ x = 7 ∨ x = 8 ∨ x = 9 ∨ x = 10 ∨ x = 11 ∨ x = 12 ∨ x = 13 ∨ x = 14 ∨ x = 15 := by omega
  rcases this with h | h | h | h | h | h | h | h | h | h | h | h | h | h | h | h <;> subst h <;> rfl
end Go.Proofs.YtdbappehchgbcaaGreat
