/- The walks over the lists of texts: few, Same. -/
import Derived.Test.YtcpbgacdoigpnaaZBoxA
import Derived.Test.YtcpbgacdoigpnaaZSxb
import Derived.Test.YtcpbgacdoigpnaaZRead
namespace Go.Proofs.Ytcpbgacdoigpnaa
open Go.RowKit

def txV (l : List UInt8) : Value := .string ⟨l.toArray⟩
theorem txV_get {ls : List (List UInt8)} {k : Nat} {x : List UInt8} (h : ls[k]? = some x) : (ls.map txV)[k]? = some (txV x) := by simp [h]
def fewL (ls : List (List UInt8)) : List (List UInt8) := (ls.take 260).map (·.take 4100)
theorem fewL_snoc (ls : List (List UInt8)) (k : Nat) (x : List UInt8) (h : ls[k]? = some x) : (ls.take (k + 1)).map (·.take 4100) = (ls.take k).map (·.take 4100) ++ [x.take 4100] := by
  rw [List.take_add_one, h]; simp
theorem mk_inj {a b : List UInt8} (h : (⟨a.toArray⟩ : ByteArray) = ⟨b.toArray⟩) : a = b := by
  have := congrArg (fun x : ByteArray => x.data.toList) h
  simpa using this
end Go.Proofs.Ytcpbgacdoigpnaa
