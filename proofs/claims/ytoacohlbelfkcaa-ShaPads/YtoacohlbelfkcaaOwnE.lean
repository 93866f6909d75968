/- Parameters and values that are boxed: a struct by value, laid into a block. No program is named here. -/
import Derived.Test.YtoacohlbelfkcaaOwnD
namespace Go.Proofs.Ytoacohlbelfkcaa
open Go.RowKit

theorem wpList_box_blk {P : Program} {ops : Array Oper} {rest : List Oper} {o : Oper} {a : Act} {w : World} {Q : Exit → Act → World → Prop} (hgd : o.guard = none) (ty : TypeId) (x : Operand) (ho : o.op = .box ty x)
    (cells : Array Value) (hx : a.eval x = .agg cells)
    (h : ∀ w', Blk w' w.heap.size ty cells.toList → Below w.heap.size w w' → w.heap.size < w'.heap.size → wpList P ops Q rest (a.put o.dst (.pointer (some ⟨w.heap.size, 0, none⟩))) w') : wpList P ops Q (o :: rest) a w := by
  refine wpList_plain hgd fun K hK => ?_
  unfold Oper.wp execOp
  simp [ho, hx, newVar, newRow, Value.cells]
  exact hK _ _ (h _ (Blk.new w cells ty) ((Below.refl _ _).alloc (Nat.le_refl _) _) (by simp))
theorem wpList_box_tab {P : Program} {ops : Array Oper} {rest : List Oper} {o : Oper} {a : Act} {w : World} {Q : Exit → Act → World → Prop} (hgd : o.guard = none) (ty : TypeId) (x : Operand) (ho : o.op = .box ty x)
    (n : Nat) (f : Nat → Value) (hx : a.eval x = .agg (tab n f).toArray)
    (h : ∀ w', Blk w' w.heap.size ty (tab n f) → Below w.heap.size w w' → w.heap.size < w'.heap.size → wpList P ops Q rest (a.put o.dst (.pointer (some ⟨w.heap.size, 0, none⟩))) w') : wpList P ops Q (o :: rest) a w :=
  wpList_box_blk hgd ty x ho (tab n f).toArray hx fun w' h1 h2 h3 => h w' h1 h2 h3
end Go.Proofs.Ytoacohlbelfkcaa
