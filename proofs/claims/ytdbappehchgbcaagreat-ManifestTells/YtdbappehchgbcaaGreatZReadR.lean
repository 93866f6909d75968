/- The document's reader. -/
import Derived.Test.YtdbappehchgbcaaGreatZRead
namespace Go.Proofs.YtdbappehchgbcaaGreat
open Go.RowKit

section
variable {W : World} {M : List Nat} {H : Hp} {w : World}
/-- What the document's reader reads. -/
def takeS (n : Nat) (s : ByteArray) (a : Nat) (e : Int) : List UInt8 × Nat × Int := if e ≠ 0 then ([], a, e) else if s.size - a < n then ([], s.size, 10) else ((s.data.toList.drop a).take n, a + n, 0)
theorem ext_take (s : ByteArray) (a n : Nat) : s.extract a (a + n) = ⟨((s.data.toList.drop a).take n).toArray⟩ := by
  apply ByteArray.ext
  apply Array.ext'
  rw [Go.Lib.extract_data]
  simp
/-- The document's number: from the highest byte on. -/
theorem leV_drop (l : List UInt8) (i : Nat) (hi : i < l.length) : leV (l.drop i) = (l.getD i 0).toNat + 256 * leV (l.drop (i + 1)) := by
  rw [List.drop_eq_getElem_cons hi, leV]
  simp [List.getD, List.getElem?_eq_getElem hi]
theorem takeS_len (n : Nat) (s : ByteArray) (a : Nat) (e : Int) : (takeS n s a e).1.length ≤ n := by
  unfold takeS
  split
  · simp
  · split
    · simp
    · simp; omega
end
end Go.Proofs.YtdbappehchgbcaaGreat
