/- Whole arrays and structs: loaded from, and stored into, a block of the call's own. No program is named here. -/
import Derived.Test.YtoacohlbelfkcaaOwn
namespace Go.Proofs.Ytoacohlbelfkcaa
open Go.RowKit

/-- Block g alone may have been written. -/
structure Only (g : Nat) (w w' : World) : Prop where
  os : w'.os = w.os
  tape : w'.tape = w.tape
  output : w'.output = w.output
  size : w'.heap.size = w.heap.size
  block : ∀ k, k ≠ g → w'.heap[k]? = w.heap[k]?
section
variable {g : Nat} {w w' w'' : World}
theorem Only.refl : Only g w w := ⟨rfl, rfl, rfl, rfl, fun _ _ => rfl⟩
theorem Only.trans (h : Only g w w') (k : Only g w' w'') : Only g w w'' := ⟨k.os.trans h.os, k.tape.trans h.tape, k.output.trans h.output, k.size.trans h.size, fun i hi => (k.block i hi).trans (h.block i hi)⟩
theorem Only.setCell (j : Nat) (u : Value) : Only g w (w.setCell ⟨g, j, none⟩ u) := ⟨rfl, rfl, rfl, by simp [World.setCell], fun k hk => Below.heap_setCell _ _ _ _ hk⟩
theorem Only.below {B : Nat} (h : Only g w w') (hB : B ≤ g) : Below B w w' := ⟨h.os, h.tape, h.output, Nat.le_of_eq h.size.symm, fun k hk => h.block k (by omega)⟩
theorem Only.other {g' : Nat} {e : TypeId} {cs : List Value} (h : Only g w w') (hb : Blk w g' e cs) (hne : g' ≠ g) : Blk w' g' e cs := by
  obtain ⟨cur, lo, hi, h1, h2⟩ := hb
  exact ⟨cur, lo, hi, by rw [h.block g' hne]; exact h1, h2⟩
end

theorem put_step (cs : List Value) (k : Nat) (v : Value) (rest : List Value) (h : k + (v :: rest).length ≤ cs.length) :
    (cs.set k v).take (k + 1) ++ rest ++ (cs.set k v).drop (k + 1 + rest.length) = cs.take k ++ (v :: rest) ++ cs.drop (k + (v :: rest).length) := by
  apply List.ext_getElem?
  intro j
  simp only [List.length_cons] at h ⊢
  simp only [List.append_assoc, List.getElem?_append, List.length_take, List.length_set, List.getElem?_take, List.getElem?_set, List.getElem?_drop, List.length_cons, List.cons_append, List.getElem?_cons]
  by_cases h1 : j < k
  · simp [h1, show j < k + 1 by omega, show min (k + 1) cs.length = k + 1 by omega, show min k cs.length = k by omega, show k ≠ j by omega]
  · by_cases h2 : j = k
    · subst h2
      simp [show min (j + 1) cs.length = j + 1 by omega, show min j cs.length = j by omega, show j < cs.length by omega]
    · by_cases h3 : j < k + 1 + rest.length
      · simp [h1, show ¬ j < k + 1 by omega, show min (k + 1) cs.length = k + 1 by omega, show min k cs.length = k by omega, show j - k ≠ 0 by omega, show j - (k + 1) < rest.length by omega, show j - k - 1 = j - (k + 1) by omega]
      · simp [h1, show ¬ j < k + 1 by omega, show min (k + 1) cs.length = k + 1 by omega, show min k cs.length = k by omega, show j - k ≠ 0 by omega, show ¬ j - (k + 1) < rest.length by omega, show j - k - 1 = j - (k + 1) by omega]
        rw [if_neg (by omega)]
        congr 1
        omega
theorem run_storeCells_blk {P : Program} (g o e : Nat) : ∀ (vs : List Value) (i : Nat) (cs : List Value) (w : World), Blk w g e cs → o + i + vs.length ≤ cs.length → (∀ v ∈ vs, v.oneCell' = true) →
    ∃ w', (storeCells ⟨g, o, none⟩ vs i).run P w = .ok () w' ∧ Blk w' g e (cs.take (o + i) ++ vs ++ cs.drop (o + i + vs.length)) ∧ Only g w w'
  | [], i, cs, w, hb, _, _ => ⟨w, rfl, by simpa using hb, Only.refl⟩
  | v :: rest, i, cs, w, hb, hl, h1 => by
    have hi : o + i < cs.length := by simp at hl; omega
    have hcell : w.cell? ⟨g, o + i, none⟩ = some cs[o + i] := by rw [hb.cell]; simp [hi]
    have hfro := hb.free (o + i) hi
    have hst : (store ((⟨g, o, none⟩ : Addr).add i) v).run P w = .ok () (w.setCell ⟨g, o + i, none⟩ v) := by
      rw [Addr.add_lit, run_store P w _ v _ (h1 v (by simp)), hcell]
      simp [hfro]
    obtain ⟨w', hr, hb', ho⟩ := run_storeCells_blk (P := P) g o e rest (i + 1) (cs.set (o + i) v) (w.setCell ⟨g, o + i, none⟩ v) (hb.set (o + i) v) (by simp at hl ⊢; omega) (fun x hx => h1 x (by simp [hx]))
    refine ⟨w', ?_, hb'.congr ?_, (Only.setCell _ _).trans ho⟩
    · simp only [storeCells, Sem.run_bind, hst, Result.andThen_ok, hr]
    · have := put_step cs (o + i) v rest hl
      simpa [Nat.add_assoc] using this

/-- A struct or an array, read whole out of a block, from place o on. -/
theorem run_loadVar_blk {P : Program} (w : World) (g o e : Nat) (ty : TypeId) (cs : List Value) (n : Nat) (d : TypeDesc) (hb : Blk w g e cs)
    (hu : P.underlying ty = some d) (hd : (match d with | .struct _ | .array _ _ => true | _ => false) = true) (hi : (P.info? ty).map (·.size) = some n) (hn : o + n ≤ cs.length) :
    (loadVar ty ⟨g, o, none⟩).run P w = .ok (.agg ((cs.drop o).take n).toArray) w := by
  have hlen : ((cs.drop o).take n).length = n := by simp; omega
  have hl := run_loadCells_list (P := P) w ⟨g, o, none⟩ ((cs.drop o).take n) (fun j v hv => by
    rw [Addr.add_lit, hb.cell]
    rw [List.getElem?_take] at hv
    split at hv
    · rw [List.getElem?_drop] at hv; exact hv
    · simp at hv)
  rw [hlen] at hl
  cases hq : P.info? ty with
  | none => simp [hq] at hi
  | some i =>
    have hs : i.size = n := by simpa [hq] using hi
    have hagg : (isAgg ty).run P w = .ok true w := by
      unfold isAgg
      rw [Sem.run_bind, run_underlying hu w]
      cases d <;> simp_all
    simp [loadVar, Sem.run_bind, hagg, sizeOf, typeInfo, hq, hs, hl]
theorem wpList_load_agg {P : Program} {ops : Array Oper} {rest : List Oper} {o : Oper} {a : Act} {w : World} {Q : Exit → Act → World → Prop} (hgd : o.guard = none) (ty : TypeId) (x : Operand) (ho : o.op = .load ty x)
    (g off e : Nat) (hx : a.eval x = .pointer (some ⟨g, off, none⟩)) (cs : List Value) (n : Nat) (d : TypeDesc) (hb : Blk w g e cs)
    (hu : P.underlying ty = some d) (hd : (match d with | .struct _ | .array _ _ => true | _ => false) = true) (hi : (P.info? ty).map (·.size) = some n) (hn : off + n ≤ cs.length)
    (h : wpList P ops Q rest (a.put o.dst (.agg ((cs.drop off).take n).toArray)) w) : wpList P ops Q (o :: rest) a w := by
  refine wpList_plain hgd fun K hK => ?_
  unfold Oper.wp execOp
  simp only [ho, hx, Instr.loadAt, Instr.sureAddr, Sem.run_bind, Sem.run_pure, Result.andThen_ok, run_loadVar_blk w g off e ty cs n d hb hu hd hi hn]
  exact hK _ _ h
/-- A struct or an array, stored whole into a block, from place o on. -/
theorem run_storeVar_blk {P : Program} (w : World) (g o e : Nat) (ty : TypeId) (cs : List Value) (cells : Array Value) (hb : Blk w g e cs) (hi : (P.info? ty).map (·.size) = some cells.size)
    (hn : o + cells.size ≤ cs.length) (h1 : ∀ v ∈ cells.toList, v.oneCell' = true) :
    ∃ w', (storeVar ty ⟨g, o, none⟩ (.agg cells)).run P w = .ok () w' ∧ Blk w' g e (cs.take o ++ cells.toList ++ cs.drop (o + cells.size)) ∧ Only g w w' := by
  obtain ⟨w', hr, hb', hoo⟩ := run_storeCells_blk (P := P) g o e cells.toList 0 cs w hb (by simp; omega) h1
  refine ⟨w', ?_, by simpa using hb', hoo⟩
  cases hq : P.info? ty with
  | none => simp [hq] at hi
  | some i =>
    have hs : cells.size = i.size := by simp [hq] at hi; omega
    simp [storeVar, sizeOf, typeInfo, hq, Value.cells, hs, hr]
theorem wpList_store_agg {P : Program} {ops : Array Oper} {rest : List Oper} {o : Oper} {a : Act} {w : World} {Q : Exit → Act → World → Prop} (hgd : o.guard = none) (ty : TypeId) (x y : Operand) (ho : o.op = .store ty x y)
    (g off e : Nat) (cells : Array Value) (hx : a.eval x = .pointer (some ⟨g, off, none⟩)) (hy : a.eval y = .agg cells)
    (cs : List Value) (hb : Blk w g e cs) (hi : (P.info? ty).map (·.size) = some cells.size) (hn : off + cells.size ≤ cs.length) (h1 : ∀ v ∈ cells.toList, v.oneCell' = true)
    (h : ∀ w', Blk w' g e (cs.take off ++ cells.toList ++ cs.drop (off + cells.size)) → Only g w w' → wpList P ops Q rest (a.put o.dst undef) w') : wpList P ops Q (o :: rest) a w := by
  obtain ⟨w', hr, hb', hoo⟩ := run_storeVar_blk (P := P) w g off e ty cs cells hb hi hn h1
  refine wpList_plain hgd fun K hK => ?_
  unfold Oper.wp execOp
  simp only [ho, hx, hy, Instr.storeAt, Instr.sureAddr, Sem.run_bind, Sem.run_pure, Result.andThen_ok, hr]
  exact hK _ _ (h w' hb' hoo)
theorem results_cell_blk {P : Program} {fn : Func} {p : Tmp} {ty : TypeId} (h : fn.results = #[.cell p ty]) (tmps : Array Value) (w : World) (g e : Nat) (cs : List Value) (d : TypeDesc)
    (hp : tmps.getD p undef = .pointer (some ⟨g, 0, none⟩)) (hb : Blk w g e cs)
    (hu : P.underlying ty = some d) (hd : (match d with | .struct _ | .array _ _ => true | _ => false) = true) (hi : (P.info? ty).map (·.size) = some cs.length) :
    (results fn tmps).run P w = .ok (.agg cs.toArray) w := by
  have hp' : tmps[p]?.getD undef = .pointer (some ⟨g, 0, none⟩) := by simpa using hp
  have := run_loadVar_blk (P := P) w g 0 e ty cs cs.length d hb hu hd hi (by omega)
  simp only [List.drop_zero, List.take_length] at this
  simp [results, h, hp', asAddr, this]
theorem oneCell_tab {n : Nat} {f : Nat → Value} (h : ∀ j, (f j).oneCell' = true) : ∀ v ∈ (tab n f).toArray.toList, v.oneCell' = true := by
  intro v hv
  simp [tab] at hv
  obtain ⟨j, _, rfl⟩ := hv
  exact h j
/-- The same of a whole block, its cells told by a function. -/
theorem wpList_load_tab {P : Program} {ops : Array Oper} {rest : List Oper} {o : Oper} {a : Act} {w : World} {Q : Exit → Act → World → Prop} (hgd : o.guard = none) (ty : TypeId) (x : Operand) (ho : o.op = .load ty x)
    (g e : Nat) (hx : a.eval x = .pointer (some ⟨g, 0, none⟩)) (n : Nat) (f : Nat → Value) (d : TypeDesc) (hb : Blk w g e (tab n f))
    (hu : P.underlying ty = some d) (hd : (match d with | .struct _ | .array _ _ => true | _ => false) = true) (hi : (P.info? ty).map (·.size) = some n)
    (h : wpList P ops Q rest (a.put o.dst (.agg (tab n f).toArray)) w) : wpList P ops Q (o :: rest) a w := by
  refine wpList_load_agg hgd ty x ho g 0 e hx (tab n f) n d hb hu hd hi (by rw [tab_length]; omega) ?_
  rw [List.drop_zero, List.take_of_length_le (by rw [tab_length]; omega)]
  exact h
theorem wpList_store_tab {P : Program} {ops : Array Oper} {rest : List Oper} {o : Oper} {a : Act} {w : World} {Q : Exit → Act → World → Prop} (hgd : o.guard = none) (ty : TypeId) (x y : Operand) (ho : o.op = .store ty x y)
    (g e n : Nat) (f f0 : Nat → Value) (hx : a.eval x = .pointer (some ⟨g, 0, none⟩)) (hy : a.eval y = .agg (tab n f).toArray)
    (hb : Blk w g e (tab n f0)) (hi : (P.info? ty).map (·.size) = some n) (h1 : ∀ j, (f j).oneCell' = true)
    (h : ∀ w', Blk w' g e (tab n f) → Only g w w' → wpList P ops Q rest (a.put o.dst undef) w') : wpList P ops Q (o :: rest) a w := by
  have hs : (tab n f).toArray.size = n := by rw [List.size_toArray, tab_length]
  refine wpList_store_agg hgd ty x y ho g 0 e _ hx hy (tab n f0) hb (by rw [hs]; exact hi) (by rw [hs, tab_length]; omega) (oneCell_tab h1) fun w' hb' ho' => h w' (hb'.congr ?_) ho'
  rw [hs, List.take_zero, List.nil_append, Nat.zero_add, List.drop_of_length_le (by rw [tab_length]; omega), List.append_nil]
theorem results_cell_tab {P : Program} {fn : Func} {p : Tmp} {ty : TypeId} (h : fn.results = #[.cell p ty]) (tmps : Array Value) (w : World) (g e n : Nat) (f : Nat → Value) (d : TypeDesc)
    (hp : tmps.getD p undef = .pointer (some ⟨g, 0, none⟩)) (hb : Blk w g e (tab n f))
    (hu : P.underlying ty = some d) (hd : (match d with | .struct _ | .array _ _ => true | _ => false) = true) (hi : (P.info? ty).map (·.size) = some n) :
    (results fn tmps).run P w = .ok (.agg (tab n f).toArray) w := results_cell_blk h tmps w g e (tab n f) d hp hb hu hd (by rw [tab_length]; exact hi)

/-- A local variable whose address is taken: a new block of its zero. -/
theorem wpList_alloc_blk {P : Program} {ops : Array Oper} {rest : List Oper} {o : Oper} {a : Act} {w : World} {Q : Exit → Act → World → Prop} (hgd : o.guard = none) (ty : TypeId) (ho : o.op = .alloc ty)
    (z : Value) (hz : (P.info? ty).map (·.zero) = some (some z))
    (h : ∀ w', Blk w' w.heap.size ty z.cells.toList → Below w.heap.size w w' → w.heap.size < w'.heap.size → wpList P ops Q rest (a.put o.dst (.pointer (some ⟨w.heap.size, 0, none⟩))) w') : wpList P ops Q (o :: rest) a w := by
  obtain ⟨i, hi, hzz⟩ := Option.map_eq_some_iff.1 hz
  refine wpList_plain hgd fun K hK => ?_
  unfold Oper.wp execOp
  simp [ho, Instr.alloc, zeroValue, typeInfo, hi, hzz, newVar, newRow]
  exact hK _ _ (h _ (Blk.new w z.cells ty) ((Below.refl _ _).alloc (Nat.le_refl _) _) (by simp))
end Go.Proofs.Ytoacohlbelfkcaa
