/- The walks over package pack: number, U32; and the document's Num. -/
import Derived.Test.YtcpbgacdoigpnaaProg
import Derived.Test.YtcpbgacdoigpnaaZBase
import Derived.Deep.RegionWith
namespace Go.Proofs.Ytcpbgacdoigpnaa
open Go.RowKit

/-- A number's bytes, the lowest first. -/
def numAt (n j : Nat) : UInt8 := UInt8.ofNat (n / 2 ^ (8 * j) % 256)
def numL (n k : Nat) : List UInt8 := tab k (numAt n)
theorem numAt_toNat (n j : Nat) : (numAt n j).toNat = n / 2 ^ (8 * j) % 256 := by
  unfold numAt; simp
theorem numL_succ (n k : Nat) : numL n (k + 1) = numAt n 0 :: numL (n / 256) k := by
  apply List.ext_getElem?
  intro j
  cases j with
  | zero => simp [numL, tab]
  | succ j =>
    by_cases hj : j < k
    · simp only [numL, List.getElem?_cons_succ]
      rw [tab_get _ _ _ (by omega), tab_get _ _ _ hj]
      unfold numAt
      rw [show 8 * (j + 1) = 8 + 8 * j from by omega, Nat.pow_add, Nat.div_div_eq_div_mul]
    · simp [numL, tab, hj]
end Go.Proofs.Ytcpbgacdoigpnaa
