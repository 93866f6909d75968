/- A block that is read in a region that draws its order, between calls that make memory. No program is named here. -/
import Derived.Test.YtigfioknmcjbbaaOwnD
import Derived.Deep.RegionHeld3
import Derived.Deep.MidRow
namespace Go.Proofs.Ytigfioknmcjbbaa
open Go.RowKit

theorem rangeAt_kept {w w' : World} {g o : Nat} {cs : List Value} (h : w.rangeAt g o cs) (hb : Below w.heap.size w w') : w'.rangeAt g o cs := fun j v hv => by
  have h1 := h j v hv
  have h2 := World.block_lt_of_cell? w _ h1
  rw [hb.cell (p := ⟨g, o + j, none⟩) h2]
  exact h1
theorem rangeAt_blk {w : World} {g : Nat} {e : TypeId} {cs : List Value} (h : Blk w g e cs) : w.rangeAt g 0 cs := fun j v hv => by
  rw [Nat.zero_add, h.cell]; exact hv
theorem keepR {w w1 w2 : World} {g o : Nat} {cs : List Value} (h : w1.rangeAt g o cs ∧ Below w.heap.size w w1) (hb : Below w1.heap.size w1 w2) : w2.rangeAt g o cs ∧ Below w.heap.size w w2 :=
  ⟨rangeAt_kept h.1 hb, kp_step h.2 hb⟩
theorem keepD {w w1 : World} {g o : Nat} {cs : List Value} (h : w1.rangeAt g o cs ∧ Below w.heap.size w w1) : w1.drew.rangeAt g o cs ∧ Below w.heap.size w w1.drew := ⟨(World.rangeAt_drew _ _ _ _).2 h.1, h.2.drew⟩
theorem keepR2 {w w1 w2 : World} {g o : Nat} {cs : List Value} (h : w1.rangeAt g o cs) (h2 : Below w.heap.size w w1) (hb : Below w1.heap.size w1 w2) : w2.rangeAt g o cs ∧ Below w.heap.size w w2 :=
  ⟨rangeAt_kept h hb, kp_step h2 hb⟩
end Go.Proofs.Ytigfioknmcjbbaa
