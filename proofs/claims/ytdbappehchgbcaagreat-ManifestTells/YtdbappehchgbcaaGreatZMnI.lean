/- The walk of layer 15: the document's Turn. -/
import Derived.Test.YtdbappehchgbcaaGreatZMnH
import Derived.Test.YtdbappehchgbcaaGreatZSlPl
namespace Go.Proofs.YtdbappehchgbcaaGreat
open Go.RowKit

/-- Moves by two lists of places. -/
def mvZ (fs ts : List Pl) : List Mv := List.zipWith Mv.mk fs ts
theorem mvZ_len (fs ts : List Pl) : (mvZ fs ts).length = min fs.length ts.length := List.length_zipWith
theorem mvZ_at {fs ts : List Pl} {k : Nat} {f t : Pl} (hf : fs[k]? = some f) (ht : ts[k]? = some t) : (mvZ fs ts)[k]? = some ⟨f, t⟩ := by
  unfold mvZ
  rw [List.getElem?_zipWith, hf, ht]
theorem mvZ_fr {fs ts : List Pl} {k : Nat} {m : Mv} (h : (mvZ fs ts)[k]? = some m) : fs[k]? = some m.fr ∧ ts[k]? = some m.to := by
  unfold mvZ at h
  rw [List.getElem?_zipWith] at h
  split at h
  · rename_i a b ha hb
    obtain rfl := Option.some.inj h
    exact ⟨ha, hb⟩
  · cases h
end Go.Proofs.YtdbappehchgbcaaGreat
