/- Package slices at api.Entry. -/
import Derived.Test.YtcpbgacdoigpnaaZGen
import Derived.Test.YtcpbgacdoigpnaaZEnA
namespace Go.Proofs.Ytcpbgacdoigpnaa
open Go.RowKit

theorem rowEn_at {l : List En} {k : Nat} {x : En} (h : l[k]? = some x) : ((enE.fl l).drop (k * 35)).take 35 = enE.enc x := enE.fl_at h
theorem rowEn_cell {l : List En} {k j : Nat} {x : En} {v : Value} (h : l[k]? = some x) (hj : (enE.enc x)[j]? = some v) : (enE.fl l)[k * 35 + j]? = some v := enE.fl_cell h hj
theorem rowEn_all (x : En) : ((enE.enc x).drop 0).take 35 = enE.enc x := by
  have h : (enE.enc x).length ≤ 35 := Nat.le_of_eq (enE.len x)
  rw [List.drop_zero, List.take_of_length_le h]
theorem rowEn_len (l : List En) : (enE.fl l).length = l.length * 35 := enE.fl_len l
end Go.Proofs.Ytcpbgacdoigpnaa
