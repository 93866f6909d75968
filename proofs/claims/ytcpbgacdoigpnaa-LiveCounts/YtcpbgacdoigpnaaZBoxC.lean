/- The walks over the document's heads: Lens, ID, May, Good, front, Size, Where. -/
import Derived.Test.YtcpbgacdoigpnaaZBoxB
namespace Go.Proofs.Ytcpbgacdoigpnaa
open Go.RowKit

def inV (x : Int) : Value := .int .i64 x
theorem inV_get {ls : List Int} {k : Nat} {x : Int} (h : ls[k]? = some x) : (ls.map inV)[k]? = some (inV x) := by simp [h]
def okL (l : List Int) : Prop := ∀ n ∈ l, 1 ≤ n ∧ n ≤ 4096
def lensP (l : List Int) : Prop := 1 ≤ l.length ∧ l.length ≤ 256 ∧ okL l ∧ l.sum ≤ 65536
noncomputable def lensB (l : List Int) : Bool := @decide (lensP l) (Classical.propDecidable _)
theorem lensB_t {l : List Int} (h : lensP l) : lensB l = true := by simp [lensB, h]
theorem lensB_f {l : List Int} (h : ¬ lensP l) : lensB l = false := by simp [lensB, h]
theorem sum_snoc (l : List Int) (k : Nat) (x : Int) (h : l[k]? = some x) : (l.take (k + 1)).sum = (l.take k).sum + x := by
  rw [List.take_add_one, h]; simp
theorem okL_snoc (l : List Int) (k : Nat) (x : Int) (h : l[k]? = some x) (h1 : okL (l.take k)) (h2 : 1 ≤ x) (h3 : x ≤ 4096) : okL (l.take (k + 1)) := by
  rw [List.take_add_one, h]
  intro s hs
  rcases List.mem_append.1 hs with h | h
  · exact h1 s h
  · simp at h; subst h; exact ⟨h2, h3⟩
def idP (id : Int) : Prop := 1 ≤ id ∧ id ≤ 4294967294
instance (id : Int) : Decidable (idP id) := by unfold idP; infer_instance
/-- How long the texts are. -/
def lenL (ls : List (List UInt8)) : List Int := ls.map fun x => (x.length : Int)
theorem map_snoc {α β : Type} (f : α → β) (l : List α) (k : Nat) (x : α) (h : l[k]? = some x) : (l.take (k + 1)).map f = (l.take k).map f ++ [f x] := by
  rw [List.take_add_one, h]; simp
noncomputable def mayB (id : Int) (ls : List (List UInt8)) : Bool := decide (idP id) && lensB (lenL ls)
end Go.Proofs.Ytcpbgacdoigpnaa
