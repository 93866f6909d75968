/- Package slices at api.Place. -/
import Derived.Test.YtdififdnnpgjoaaZGen
import Derived.Test.YtdififdnnpgjoaaZPlA
namespace Go.Proofs.Ytdififdnnpgjoaa
open Go.RowKit

theorem rowPl_at {l : List Pl} {k : Nat} {x : Pl} (h : l[k]? = some x) : ((plE.fl l).drop (k * 2)).take 2 = plE.enc x := plE.fl_at h
theorem rowPl_cell {l : List Pl} {k j : Nat} {x : Pl} {v : Value} (h : l[k]? = some x) (hj : (plE.enc x)[j]? = some v) : (plE.fl l)[k * 2 + j]? = some v := plE.fl_cell h hj
theorem rowPl_all (x : Pl) : ((plE.enc x).drop 0).take 2 = plE.enc x := by
  have h : (plE.enc x).length ≤ 2 := Nat.le_of_eq (plE.len x)
  rw [List.drop_zero, List.take_of_length_le h]
theorem rowPl_len (l : List Pl) : (plE.fl l).length = l.length * 2 := plE.fl_len l
end Go.Proofs.Ytdififdnnpgjoaa
