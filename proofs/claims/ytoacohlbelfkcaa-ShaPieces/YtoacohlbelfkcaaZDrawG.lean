/- '==' of an array of integers with itself. No program is named here. -/
import Derived.Test.YtoacohlbelfkcaaZDrawF
import Derived.ChangeKeysEq
namespace Go.Proofs.Ytoacohlbelfkcaa
open Go.RowKit

theorem run_eqItems_same {P : Program} (w : World) (d n : Nat) (e : TypeId) (ki : IntKind) (f : Nat → Int) (he : P.underlying e = some (.int ki)) (hc : P.cellsOf e = 1) :
    ∀ is : List Nat, (∀ i ∈ is, i < n) → (Op.eqItems (d + 1) e (P.cellsOf e) (tab n fun j => Value.int ki (f j)).toArray (tab n fun j => Value.int ki (f j)).toArray is).run P w = .ok true w
  | [], _ => by simp [Op.eqItems]
  | i :: is, h => by
    have hx : (tab n fun j => Value.int ki (f j)).toArray[i * P.cellsOf e]? = some (.int ki (f i)) := by rw [hc, Nat.mul_one, List.getElem?_toArray]; exact tab_get n _ i (h i (by simp))
    have hp : P.plainKey e = true := by unfold Program.plainKey; rw [he]
    simp only [Op.eqItems, Sem.run_bind, run_part_plain w hp hx, Result.andThen_ok, run_equalIn_int w d e ki ki (f i) (f i) he]
    simp [run_eqItems_same w d n e ki f he hc is fun j hj => h j (by simp [hj])]
theorem run_eql_same {P : Program} (w : World) (t e n : Nat) (ki : IntKind) (f : Nat → Int) (i : TypeInfo) (ht : P.underlying t = some (.array n e)) (he : P.underlying e = some (.int ki)) (hi : P.info? e = some i) (hc : P.cellsOf e = 1) :
    (binOp .eql t (.agg (tab n fun j => Value.int ki (f j)).toArray) (.agg (tab n fun j => Value.int ki (f j)).toArray)).run P w = .ok (.bool true) w := by
  have h1 := run_equalIn_array (P := P) (w := w) 9999 (tab n fun j => Value.int ki (f j)).toArray (tab n fun j => Value.int ki (f j)).toArray ht hi
  rw [run_eqItems_same w 9998 n e ki f he hc (List.range n) (fun i hi => by simpa using hi)] at h1
  simp only [binOp]
  simp only [Op.equal, Op.maxDepth]
  simp [h1]
end Go.Proofs.Ytoacohlbelfkcaa
