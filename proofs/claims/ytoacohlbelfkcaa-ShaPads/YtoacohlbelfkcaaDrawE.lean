/- Laws at one operation of a region that draws its order: a nil check, one cell read, one cell written. No program is named here. -/
import Derived.Test.YtoacohlbelfkcaaDrawD
namespace Go.Proofs.Ytoacohlbelfkcaa
open Go.RowKit

section
variable {P : Program} {o : Oper} {a : Act} {w : World} {K : Act → World → Prop} {Q : Exit → Act → World → Prop}
theorem wp_nilCheck (x : Operand) (ho : o.op = .nilCheck x) (ad : Addr) (hx : a.eval x = .pointer (some ad)) (h : K (a.put o.dst (.pointer (some ad))) w) : o.wp P a w K Q := by
  unfold Oper.wp execOp
  simp only [ho, hx, Sem.run_pure, Oper.upon, Result.andThen_ok, Sem.run_bind]
  exact h
theorem wp_fieldAddr (t : TypeId) (x : Operand) (i : Nat) (ho : o.op = .fieldAddr t x i) (ad ad' : Addr) (hx : a.eval x = .pointer (some ad)) (hf : (Instr.fieldAt t (.pointer (some ad)) i).run P w = .ok (.pointer (some ad')) w) (h : K (a.put o.dst (.pointer (some ad'))) w) : o.wp P a w K Q := by
  unfold Oper.wp execOp
  simp only [ho, hx, hf, Sem.run_pure, Oper.upon, Result.andThen_ok, Sem.run_bind]
  exact h
theorem run_loadVar_cell {P : Program} (w : World) (ad : Addr) (ty : TypeId) (v : Value) (d : TypeDesc) (hc : w.cell? ad = some v) (hu : P.underlying ty = some d) (hd : (match d with | .struct _ | .array _ _ => true | _ => false) = false) :
    (loadVar ty ad).run P w = .ok v w := by
  have hagg : (isAgg ty).run P w = .ok false w := by
    unfold isAgg
    rw [Sem.run_bind, run_underlying hu w]
    cases d <;> simp_all
  simp [loadVar, Sem.run_bind, hagg, run_load, hc]
theorem wp_load_cell (ty : TypeId) (x : Operand) (ho : o.op = .load ty x) (ad : Addr) (hx : a.eval x = .pointer (some ad)) (v : Value) (d : TypeDesc) (hc : w.cell? ad = some v)
    (hu : P.underlying ty = some d) (hd : (match d with | .struct _ | .array _ _ => true | _ => false) = false)
    (h : K (a.put o.dst v) w) : o.wp P a w K Q := by
  unfold Oper.wp execOp
  simp only [ho, hx, Instr.loadAt, Instr.sureAddr, Sem.run_bind, Sem.run_pure, Result.andThen_ok, run_loadVar_cell w ad ty v d hc hu hd]
  exact h
theorem run_storeVar_cell {P : Program} (w : World) (g o e : Nat) (ty : TypeId) (cs : List Value) (v : Value) (hb : Blk w g e cs) (hi : (P.info? ty).map (·.size) = some 1) (ho : o < cs.length) (h1 : v.oneCell' = true) (hv : v.cells = #[v]) :
    (storeVar ty ⟨g, o, none⟩ v).run P w = .ok () (w.setCell ⟨g, o, none⟩ v) := by
  have hcell : w.cell? ⟨g, o, none⟩ = some cs[o] := by rw [hb.cell]; simp [ho]
  have hst : (store ((⟨g, o, none⟩ : Addr).add 0) v).run P w = .ok () (w.setCell ⟨g, o, none⟩ v) := by
    rw [Addr.add_lit, run_store P w _ v _ h1, Nat.add_zero, hcell]
    simp [hb.free o ho]
  cases hq : P.info? ty with
  | none => simp [hq] at hi
  | some i =>
    have hs : i.size = 1 := by simpa [hq] using hi
    simp [storeVar, sizeOf, typeInfo, hq, hv, hs, storeCells, hst]
theorem wp_store_cell (ty : TypeId) (x y : Operand) (ho : o.op = .store ty x y) (g off e : Nat) (v : Value) (hx : a.eval x = .pointer (some ⟨g, off, none⟩)) (hy : a.eval y = v)
    (cs : List Value) (hb : Blk w g e cs) (hi : (P.info? ty).map (·.size) = some 1) (hn : off < cs.length) (h1 : v.oneCell' = true) (hv : v.cells = #[v])
    (h : K (a.put o.dst undef) (w.setCell ⟨g, off, none⟩ v)) : o.wp P a w K Q := by
  unfold Oper.wp execOp
  simp only [ho, hx, hy, Instr.storeAt, Instr.sureAddr, Sem.run_bind, Sem.run_pure, Result.andThen_ok, run_storeVar_cell w g off e ty cs v hb hi hn h1 hv]
  exact h
theorem wpList_load_cell {ops : Array Oper} {rest : List Oper} {o : Oper} {a : Act} {w : World} {Q : Exit → Act → World → Prop} (hgd : o.guard = none) (ty : TypeId) (x : Operand) (ho : o.op = .load ty x) (ad : Addr) (hx : a.eval x = .pointer (some ad)) (v : Value) (d : TypeDesc) (hc : w.cell? ad = some v)
    (hu : P.underlying ty = some d) (hd : (match d with | .struct _ | .array _ _ => true | _ => false) = false)
    (h : wpList P ops Q rest (a.put o.dst v) w) : wpList P ops Q (o :: rest) a w :=
  wpList_plain hgd fun _ hK => wp_load_cell ty x ho ad hx v d hc hu hd (hK _ _ h)
theorem wpList_store_cell {ops : Array Oper} {rest : List Oper} {o : Oper} {a : Act} {w : World} {Q : Exit → Act → World → Prop} (hgd : o.guard = none) (ty : TypeId) (x y : Operand) (ho : o.op = .store ty x y) (g off e : Nat) (v : Value) (hx : a.eval x = .pointer (some ⟨g, off, none⟩)) (hy : a.eval y = v)
    (cs : List Value) (hb : Blk w g e cs) (hi : (P.info? ty).map (·.size) = some 1) (hn : off < cs.length) (h1 : v.oneCell' = true) (hv : v.cells = #[v])
    (h : ∀ w', Blk w' g e (cs.set off v) → Only g w w' → wpList P ops Q rest (a.put o.dst undef) w') : wpList P ops Q (o :: rest) a w :=
  wpList_plain hgd fun _ hK => wp_store_cell ty x y ho g off e v hx hy cs hb hi hn h1 hv (hK _ _ (h _ (hb.set off v) (Only.setCell off v)))
end
theorem run_equalIn_func_nil {P : Program} (w : World) (n : Nat) (t : TypeId) (ps rs : Array TypeId) (v : Bool) (fn : Fn) (x y : Array Value) (h : P.underlying t = some (.func ps rs v)) :
    (Op.equalIn (n + 1) t (.func fn x y) .nilFunc).run P w = .ok false w := by
  unfold Op.equalIn
  simp [run_underlying h]
theorem run_eql_func_nil {P : Program} (w : World) (t : TypeId) (ps rs : Array TypeId) (v : Bool) (fn : Fn) (x y : Array Value) (h : P.underlying t = some (.func ps rs v)) :
    (binOp .eql t (.func fn x y) .nilFunc).run P w = .ok (.bool false) w := by
  simp only [binOp]
  simp [Op.equal, Op.maxDepth, run_equalIn_func_nil w 9999 t ps rs v fn x y h]
end Go.Proofs.Ytoacohlbelfkcaa
