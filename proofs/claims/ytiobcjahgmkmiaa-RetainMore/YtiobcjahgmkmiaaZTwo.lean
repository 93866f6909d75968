/- Two rows that one call has made, to be read. -/
import Derived.Test.YtiobcjahgmkmiaaZRow
namespace Go.Proofs.Ytiobcjahgmkmiaa
open Go.RowKit

section
variable {W : World} {M : List Nat} {H : Hp} {w w' : World}
theorem NewRow.above {ao : Option Addr} {n cap e k : Nat} {cs : List Value} (h : NewRow w w' ao n cap e k cs) {g : Nat} (hg : (Ent.rd ao cs).uses g) : w.heap.size ≤ g := by
  refine (World.ownsRow.lt h.owns g ?_).1
  cases ao with
  | none => have := hg.2; cases this
  | some a => simpa [Ent.uses, Value.ownBlock] using hg.2
theorem Sat.addRd (hs : Sat W M H w) {ao : Option Addr} {n cap e k : Nat} {cs : List Value} (h : NewRow w w' ao n cap e k cs) (hm : cs.length ≤ maxLen) : Sat W M (.rd ao cs :: H) w' :=
  hs.cons (Below.toGrown h.below) (e := .rd ao cs) ((hs.addNew h).rowRd 0 rfl hm) fun _ hg => h.above hg
theorem Sat.twoNew (hs : Sat W M H w) {a1 a2 : Option Addr} {n1 n2 c1 c2 e1 e2 k1 k2 : Nat} {cs1 cs2 : List Value} (h1 : NewRow w w' a1 n1 c1 e1 k1 cs1) (h2 : NewRow w w' a2 n2 c2 e2 k2 cs2) (hm1 : cs1.length ≤ maxLen) (hm2 : cs2.length ≤ maxLen) :
    Sat W M (.rd a1 cs1 :: .rd a2 cs2 :: H) w' := by
  refine (hs.addRd h2 hm2).cons_rd ((hs.addNew h1).rowRd 0 rfl hm1) fun i e g hi ho hu => ?_
  cases i with
  | zero => simp at hi; subst hi; cases ho
  | succ i =>
    have a := Ent.uses_lt (hs.holds i e (by simpa using hi)) (Ent.own_uses ho)
    have b := h1.above hu
    omega
end
end Go.Proofs.Ytiobcjahgmkmiaa
