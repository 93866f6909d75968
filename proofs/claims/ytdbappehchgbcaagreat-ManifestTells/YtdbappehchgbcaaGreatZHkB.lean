/- The walks of hook.Text and hook.Parse. -/
import Derived.Test.YtdbappehchgbcaaGreatZHkA
import Derived.Test.YtdbappehchgbcaaGreatZStr
namespace Go.Proofs.YtdbappehchgbcaaGreat
open Go.RowKit

theorem all_bytes {P : UInt8 → Prop} (h : ∀ n : Nat, n < 256 → P (UInt8.ofNat n)) (c : UInt8) : P c := by
  have := h c.toNat c.toNat_lt
  rwa [UInt8.ofNat_toNat] at this
theorem bV_nat (b : UInt8) : (b.toNat : Int).toNat.toUInt8 = b := by
  rw [Int.toNat_natCast]; exact UInt8.ofNat_toNat
theorem hexL_take (f : List UInt8) : ∀ k, k < f.length → hexL (f.take (k + 1)) = hexL (f.take k) ++ hexB (f.getD k 0) := fun k h => by rw [take_succD h, hexL_snoc]
theorem fp_vs {f : List UInt8} (hf : f.length = 32) : ((fpC f).drop 0).take 32 = fpC f := by
  rw [List.drop_zero, List.take_of_length_le (by rw [fpC_len, hf]; exact Nat.le_refl _)]
theorem byteC_snoc (l : List UInt8) (c : UInt8) : Go.Lib.byteCells l ++ [bV c] = Go.Lib.byteCells (l ++ [c]) := by
  simp [Go.Lib.byteCells, bV]
theorem splice_one {l : List Value} {i : Nat} (h : i < l.length) (x : Value) : splice i [x] l = l.set i x := by
  rw [List.set_eq_take_append_cons_drop, if_pos h]
  simp [splice]
theorem ofNat_toNat {n : Nat} (h : n < 256) : (UInt8.ofNat n).toNat = n := by simp [UInt8.toNat_ofNat']; omega
def zF : List UInt8 := List.replicate 32 0
end Go.Proofs.YtdbappehchgbcaaGreat
