/- Laws at one operation of a region that draws its order. No program is named here. -/
import Derived.Test.YtoacohlbelfkcaaDraw
namespace Go.Proofs.Ytoacohlbelfkcaa
open Go.RowKit

section
variable {P : Program} {o : Oper} {a : Act} {w : World} {K : Act → World → Prop} {Q : Exit → Act → World → Prop}
theorem wp_call (f : Nat) (args : Array Operand) (tys : Array TypeId) (ho : o.op = Op.call { callee := Callee.value (Operand.func f), args := args, argTypes := tys }) (fn : Func) (hf : P.funcs[f]? = some fn) (hn : (fn.name == "runtime.NumGoroutine") = false) (hbo : fn.body.isNone = false) (vs : Array Value) (hv : args.map a.eval = vs)
    (h : Calls P f vs w fun e w' => ∃ u, e = .returned u ∧ K (a.put o.dst u) w') : o.wp P a w K Q := by
  unfold Oper.wp execOp
  subst hv
  simp only [ho, resolve, invoke, Sem.run_bind, Sem.run_pure, Result.andThen_ok, Act.eval, Oper.upon]
  simp only [Deferred.ofValue, callFunc, Sem.run_bind, Sem.run_pure, Result.andThen_ok, Array.append_empty, Array.empty_append, run_program, hf, hn, hbo, Bool.false_eq_true, if_false]
  refine Calls.mono h fun e w' he => ?_
  obtain ⟨u, rfl, hk⟩ := he
  exact hk
theorem wp_move (x : Operand) (ho : o.op = .move x) (h : K (a.put o.dst (a.eval x)) w) : o.wp P a w K Q := by
  unfold Oper.wp execOp
  simp only [ho, Sem.run_pure, Oper.upon, Result.andThen_ok, Sem.run_bind]
  exact h
theorem wp_alloc_blk (ty : TypeId) (ho : o.op = .alloc ty) (z : Value) (hz : (P.info? ty).map (·.zero) = some (some z))
    (h : ∀ w', Blk w' w.heap.size ty z.cells.toList → Below w.heap.size w w' → w.heap.size < w'.heap.size → K (a.put o.dst (.pointer (some ⟨w.heap.size, 0, none⟩))) w') : o.wp P a w K Q := by
  obtain ⟨i, hi, hzz⟩ := Option.map_eq_some_iff.1 hz
  unfold Oper.wp execOp
  simp [ho, Instr.alloc, zeroValue, typeInfo, hi, hzz, newVar, newRow]
  exact h _ (Blk.new w z.cells ty) ((Below.refl _ _).alloc (Nat.le_refl _) _) (by simp)
theorem wp_load_agg (ty : TypeId) (x : Operand) (ho : o.op = .load ty x)
    (g off e : Nat) (hx : a.eval x = .pointer (some ⟨g, off, none⟩)) (cs : List Value) (n : Nat) (d : TypeDesc) (hb : Blk w g e cs)
    (hu : P.underlying ty = some d) (hd : (match d with | .struct _ | .array _ _ => true | _ => false) = true) (hi : (P.info? ty).map (·.size) = some n) (hn : off + n ≤ cs.length)
    (h : K (a.put o.dst (.agg ((cs.drop off).take n).toArray)) w) : o.wp P a w K Q := by
  unfold Oper.wp execOp
  simp only [ho, hx, Instr.loadAt, Instr.sureAddr, Sem.run_bind, Sem.run_pure, Result.andThen_ok, run_loadVar_blk w g off e ty cs n d hb hu hd hi hn]
  exact h
theorem wp_load_tab (ty : TypeId) (x : Operand) (ho : o.op = .load ty x)
    (g e : Nat) (hx : a.eval x = .pointer (some ⟨g, 0, none⟩)) (n : Nat) (f : Nat → Value) (d : TypeDesc) (hb : Blk w g e (tab n f))
    (hu : P.underlying ty = some d) (hd : (match d with | .struct _ | .array _ _ => true | _ => false) = true) (hi : (P.info? ty).map (·.size) = some n)
    (h : K (a.put o.dst (.agg (tab n f).toArray)) w) : o.wp P a w K Q := by
  refine wp_load_agg ty x ho g 0 e hx (tab n f) n d hb hu hd hi (by rw [tab_length]; omega) ?_
  rw [List.drop_zero, List.take_of_length_le (by rw [tab_length]; omega)]
  exact h
theorem wp_store_agg (ty : TypeId) (x y : Operand) (ho : o.op = .store ty x y)
    (g off e : Nat) (cells : Array Value) (hx : a.eval x = .pointer (some ⟨g, off, none⟩)) (hy : a.eval y = .agg cells)
    (cs : List Value) (hb : Blk w g e cs) (hi : (P.info? ty).map (·.size) = some cells.size) (hn : off + cells.size ≤ cs.length) (h1 : ∀ v ∈ cells.toList, v.oneCell' = true)
    (h : ∀ w', Blk w' g e (cs.take off ++ cells.toList ++ cs.drop (off + cells.size)) → Only g w w' → K (a.put o.dst undef) w') : o.wp P a w K Q := by
  obtain ⟨w', hr, hb', hoo⟩ := run_storeVar_blk (P := P) w g off e ty cs cells hb hi hn h1
  unfold Oper.wp execOp
  simp only [ho, hx, hy, Instr.storeAt, Instr.sureAddr, Sem.run_bind, Sem.run_pure, Result.andThen_ok, hr]
  exact h w' hb' hoo
theorem wp_store_tab (ty : TypeId) (x y : Operand) (ho : o.op = .store ty x y)
    (g e n : Nat) (f f0 : Nat → Value) (hx : a.eval x = .pointer (some ⟨g, 0, none⟩)) (hy : a.eval y = .agg (tab n f).toArray)
    (hb : Blk w g e (tab n f0)) (hi : (P.info? ty).map (·.size) = some n) (h1 : ∀ j, (f j).oneCell' = true)
    (h : ∀ w', Blk w' g e (tab n f) → Only g w w' → K (a.put o.dst undef) w') : o.wp P a w K Q := by
  have hs : (tab n f).toArray.size = n := by rw [List.size_toArray, tab_length]
  refine wp_store_agg ty x y ho g 0 e _ hx hy (tab n f0) hb (by rw [hs]; exact hi) (by rw [hs, tab_length]; omega) (oneCell_tab h1) fun w' hb' ho' => h w' (hb'.congr ?_) ho'
  rw [hs, List.take_zero, List.nil_append, Nat.zero_add, List.drop_of_length_le (by rw [tab_length]; omega), List.append_nil]
end
end Go.Proofs.Ytoacohlbelfkcaa
