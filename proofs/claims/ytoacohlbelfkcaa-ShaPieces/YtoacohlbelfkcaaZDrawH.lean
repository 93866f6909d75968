/- Laws at one operation of a drawn region: guards, picks, tests, an element's address. No program is named here. -/
import Derived.Test.YtoacohlbelfkcaaZDrawG
namespace Go.Proofs.Ytoacohlbelfkcaa
open Go.RowKit

theorem wpOp_yes {P : Program} {ops : Array Oper} {Q : Exit → Act → World → Prop} {i : Nat} {o : Oper} {K : Act → World → Prop} {a : Act} {w : World} (ho : ops[i]? = some o) (j sl : Nat) (b : Bool) (hg : o.guard = some (j, b)) (hj : ((ops[j]?).bind (·.dst)) = some sl) (hv : a.tmps.getD sl undef = .bool b)
    (h : o.wp P a w K Q) : wpOp P ops Q i K a w := by
  unfold wpOp
  rw [ho]
  have ht : a.tmps[sl]? = some (.bool b) := by
    rw [Array.getD_eq_getD_getElem?] at hv
    cases hx : a.tmps[sl]? with
    | none => rw [hx] at hv; simp [undef] at hv
    | some x => rw [hx] at hv; simp at hv; rw [hv]
  have hw : Region.wanted o (yielded ops a.tmps) = true := by simp [Region.wanted, hg, yielded, hj, ht]
  simp only [hw, if_true]
  exact .inl h
section
variable {P : Program} {o : Oper} {a : Act} {w : World} {K : Act → World → Prop} {Q : Exit → Act → World → Prop}
theorem wp_pick_true (c x y : Operand) (ho : o.op = .pick c x y) (v : Value) (hc : a.eval c = .bool true) (hx : a.eval x = v) (h : K (a.put o.dst v) w) : o.wp P a w K Q := by
  unfold Oper.wp execOp
  simp [ho, hc, hx, asBool]
  exact h
theorem wp_indexAddr (t : TypeId) (x y : Operand) (ho : o.op = .indexAddr t x y) (vx vy : Value) (ad : Addr) (hx : a.eval x = vx) (hy : a.eval y = vy) (hr : (Instr.indexAt t vx vy).run P w = .ok (.pointer (some ad)) w) (h : K (a.put o.dst (.pointer (some ad))) w) : o.wp P a w K Q := by
  unfold Oper.wp execOp
  simp only [ho, hx, hy, hr, Sem.run_pure, Oper.upon, Result.andThen_ok, Sem.run_bind]
  exact h
theorem wp_test (op : BinOp) (t : TypeId) (x y : Operand) (t2 : TypeId) (ho : o.op = .binOp op t x y t2) (vx vy : Value) (b : Bool) (hx : a.eval x = vx) (hy : a.eval y = vy) (hg : (eqGuard op t x y vx vy).run P w = .ok () w) (hr : (binOp op t vx vy).run P w = .ok (.bool b) w) (h : K (a.put o.dst (.bool b)) w) : o.wp P a w K Q := by
  unfold Oper.wp execOp
  simp only [ho, hx, hy, hg, hr, Sem.run_pure, Oper.upon, Result.andThen_ok, Sem.run_bind]
  exact h
end
end Go.Proofs.Ytoacohlbelfkcaa
