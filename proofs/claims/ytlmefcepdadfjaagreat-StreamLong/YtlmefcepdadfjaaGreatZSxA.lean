/- Texts of this claim, one behind the other. -/
import Derived.Test.YtlmefcepdadfjaaGreatZDraw
import Derived.Maps.AppendAt
import Derived.Deep.RegionLaw
import Derived.Laws.StructEq
/- Laws at one operation of a region that draws its order. No program is named here. -/
namespace Go.Proofs.YtlmefcepdadfjaaGreat
open Go.RowKit

section
variable {P : Program} {o : Oper} {a : Act} {w : World} {K : Act → World → Prop} {Q : Exit → Act → World → Prop}
theorem wp_call (f : Nat) (args : Array Operand) (tys : Array TypeId) (ho : o.op = Op.call { callee := Callee.value (Operand.func f), args := args, argTypes := tys }) (fn : Func) (hf : P.funcs[f]? = some fn) (hn : (fn.name == "runtime.NumGoroutine") = false) (hbo : fn.body.isNone = false) (vs : Array Value) (hv : args.map a.eval = vs)
    (h : Calls P f vs w fun e w' => ∃ u, e = .returned u ∧ K (a.put o.dst u) w') : o.wp P a w K Q := by
  unfold Oper.wp execOp
  subst hv
  simp only [ho, resolve, invoke, Sem.run_bind, Sem.run_pure, Result.andThen_ok, Act.eval, Oper.upon]
  simp only [Deferred.ofValue, callFunc, Sem.run_bind, Sem.run_pure, Result.andThen_ok, Array.append_empty, Array.empty_append, run_program, hf, hn, hbo, Bool.false_eq_true, if_false]
  refine Calls.mono h fun e w' he => ?_
  obtain ⟨u, rfl, hk⟩ := he
  exact hk
theorem wp_move (x : Operand) (ho : o.op = .move x) (h : K (a.put o.dst (a.eval x)) w) : o.wp P a w K Q := by
  unfold Oper.wp execOp
  simp only [ho, Sem.run_pure, Oper.upon, Result.andThen_ok, Sem.run_bind]
  exact h
theorem wp_alloc_blk (ty : TypeId) (ho : o.op = .alloc ty) (z : Value) (hz : (P.info? ty).map (·.zero) = some (some z))
    (h : ∀ w', Blk w' w.heap.size ty z.cells.toList → Below w.heap.size w w' → w.heap.size < w'.heap.size → K (a.put o.dst (.pointer (some ⟨w.heap.size, 0, none⟩))) w') : o.wp P a w K Q := by
  obtain ⟨i, hi, hzz⟩ := Option.map_eq_some_iff.1 hz
  unfold Oper.wp execOp
  simp [ho, Instr.alloc, zeroValue, typeInfo, hi, hzz, newVar, newRow]
  exact h _ (Blk.new w z.cells ty) ((Below.refl _ _).alloc (Nat.le_refl _) _) (by simp)
theorem wp_load_agg (ty : TypeId) (x : Operand) (ho : o.op = .load ty x)
    (g off e : Nat) (hx : a.eval x = .pointer (some ⟨g, off, none⟩)) (cs : List Value) (n : Nat) (d : TypeDesc) (hb : Blk w g e cs)
    (hu : P.underlying ty = some d) (hd : (match d with | .struct _ | .array _ _ => true | _ => false) = true) (hi : (P.info? ty).map (·.size) = some n) (hn : off + n ≤ cs.length)
    (h : K (a.put o.dst (.agg ((cs.drop off).take n).toArray)) w) : o.wp P a w K Q := by
  unfold Oper.wp execOp
  simp only [ho, hx, Instr.loadAt, Instr.sureAddr, Sem.run_bind, Sem.run_pure, Result.andThen_ok, run_loadVar_blk w g off e ty cs n d hb hu hd hi hn]
  exact h
theorem wp_load_tab (ty : TypeId) (x : Operand) (ho : o.op = .load ty x)
    (g e : Nat) (hx : a.eval x = .pointer (some ⟨g, 0, none⟩)) (n : Nat) (f : Nat → Value) (d : TypeDesc) (hb : Blk w g e (tab n f))
    (hu : P.underlying ty = some d) (hd : (match d with | .struct _ | .array _ _ => true | _ => false) = true) (hi : (P.info? ty).map (·.size) = some n)
    (h : K (a.put o.dst (.agg (tab n f).toArray)) w) : o.wp P a w K Q := by
  refine wp_load_agg ty x ho g 0 e hx (tab n f) n d hb hu hd hi (by rw [tab_length]; omega) ?_
  rw [List.drop_zero, List.take_of_length_le (by rw [tab_length]; omega)]
  exact h
theorem wp_store_agg (ty : TypeId) (x y : Operand) (ho : o.op = .store ty x y)
    (g off e : Nat) (cells : Array Value) (hx : a.eval x = .pointer (some ⟨g, off, none⟩)) (hy : a.eval y = .agg cells)
    (cs : List Value) (hb : Blk w g e cs) (hi : (P.info? ty).map (·.size) = some cells.size) (hn : off + cells.size ≤ cs.length) (h1 : ∀ v ∈ cells.toList, v.oneCell' = true)
    (h : ∀ w', Blk w' g e (cs.take off ++ cells.toList ++ cs.drop (off + cells.size)) → Only g w w' → K (a.put o.dst undef) w') : o.wp P a w K Q := by
  obtain ⟨w', hr, hb', hoo⟩ := run_storeVar_blk (P := P) w g off e ty cs cells hb hi hn h1
  unfold Oper.wp execOp
  simp only [ho, hx, hy, Instr.storeAt, Instr.sureAddr, Sem.run_bind, Sem.run_pure, Result.andThen_ok, hr]
  exact h w' hb' hoo
theorem wp_store_tab (ty : TypeId) (x y : Operand) (ho : o.op = .store ty x y)
    (g e n : Nat) (f f0 : Nat → Value) (hx : a.eval x = .pointer (some ⟨g, 0, none⟩)) (hy : a.eval y = .agg (tab n f).toArray)
    (hb : Blk w g e (tab n f0)) (hi : (P.info? ty).map (·.size) = some n) (h1 : ∀ j, (f j).oneCell' = true)
    (h : ∀ w', Blk w' g e (tab n f) → Only g w w' → K (a.put o.dst undef) w') : o.wp P a w K Q := by
  have hs : (tab n f).toArray.size = n := by rw [List.size_toArray, tab_length]
  refine wp_store_agg ty x y ho g 0 e _ hx hy (tab n f0) hb (by rw [hs]; exact hi) (by rw [hs, tab_length]; omega) (oneCell_tab h1) fun w' hb' ho' => h w' (hb'.congr ?_) ho'
  rw [hs, List.take_zero, List.nil_append, Nat.zero_add, List.drop_of_length_le (by rw [tab_length]; omega), List.append_nil]
end
end Go.Proofs.YtlmefcepdadfjaaGreat
/- Slots and variables of a drawn region, in its midst. No program is named here. -/
namespace Go.Proofs.YtlmefcepdadfjaaGreat
open Go.RowKit

theorem wp_region_inv2 {P : Program} {ops : Array Oper} {Q : Exit → Act → World → Prop} {id : Nat} {a : Act} {w : World} (hm : P.follows .mixedOrders = true) (hu : upward .any ops = true) (I : Array Value → (Nat → Bool) → Act → World → Prop)
    (h0 : I a.tmps (fun _ => false) a w.drew)
    (hstep : ∀ (L : Nat → Bool) (a' : Act) (w : World) (i : Nat) (o : Oper), I a.tmps L a' w → ops[i]? = some o → L i = false → (∀ e ∈ o.after, Region.binds .any e = true → L e.on = true) → wpOp P ops Q i (I a.tmps (setL L i)) a' w)
    (hdone : ∀ (L : Nat → Bool) (a' : Act) (w : World), I a.tmps L a' w → (∀ i, i < ops.size → L i = true) → Q .normal a' w) : (Code.region id ops true).wp P Q a w :=
  wp_region_inv hm hu (I a.tmps) h0 hstep hdone
theorem imp_set {L : Nat → Bool} {i j : Nat} {p q : Prop} (h : L j = true → p) (hne : j ≠ i) (hpq : p → q) : setL L i j = true → q := by
  unfold setL; rw [if_neg hne]; exact fun hl => hpq (h hl)
theorem setL_ne {L : Nat → Bool} {i j : Nat} (hne : j ≠ i) : setL L i j = L j := by unfold setL; rw [if_neg hne]
theorem setL_eq {L : Nat → Bool} {i : Nat} : setL L i i = true := by unfold setL; rw [if_pos rfl]
theorem absF {p : Prop} (h : false = true) : p := by cases h
theorem slot_same {a : Act} {d : Nat} {u : Value} (hd : d < a.tmps.size) : (a.put (some d) u).tmps.getD d undef = u := by rw [put_getD a d u d hd, if_pos rfl]
theorem slot_other {a : Act} {d s : Nat} {u v : Value} (h : a.tmps.getD s undef = v) (hne : s ≠ d) : (a.put (some d) u).tmps.getD s undef = v := by
  rw [← h]
  unfold Act.put
  by_cases hs : s < a.tmps.size
  · simp [hs, Array.getElem_setIfInBounds, Ne.symm hne]
  · simp [hs]
/-- A variable that an operation of a drawn region makes, and another one fills. -/
def Cell3 (made filled : Bool) (v : Value) (B g : Nat) (w : World) (T : TypeId) (n : Nat) (fin zero : Nat → Value) : Prop :=
  (filled = true → made = true) ∧ (made = true → v = .pointer (some ⟨g, 0, none⟩) ∧ B ≤ g ∧ (filled = true → Blk w g T (tab n fin)) ∧ (filled = false → Blk w g T (tab n zero)))
section
variable {made filled : Bool} {v : Value} {B g : Nat} {w w' : World} {T : TypeId} {n : Nat} {fin zero : Nat → Value}
theorem Cell3.start (v : Value) (B g : Nat) (w : World) (T : TypeId) (n : Nat) (fin zero : Nat → Value) : Cell3 false false v B g w T n fin zero := ⟨fun h => h, fun h => by cases h⟩
theorem Cell3.lt (h : Cell3 made filled v B g w T n fin zero) (hm : made = true) : g < w.heap.size := by
  obtain ⟨_, _, h1, h2⟩ := h.2 hm
  cases filled
  · exact (h2 rfl).lt
  · exact (h1 rfl).lt
theorem Cell3.kept (h : Cell3 made filled v B g w T n fin zero) (hb : Below w.heap.size w w') : Cell3 made filled v B g w' T n fin zero :=
  ⟨h.1, fun hm => ⟨(h.2 hm).1, (h.2 hm).2.1, fun hf => ((h.2 hm).2.2.1 hf).kept hb, fun hf => ((h.2 hm).2.2.2 hf).kept hb⟩⟩
theorem Cell3.only {g' : Nat} (h : Cell3 made filled v B g w T n fin zero) (ho : Only g' w w') (hne : made = true → g ≠ g') : Cell3 made filled v B g w' T n fin zero :=
  ⟨h.1, fun hm => ⟨(h.2 hm).1, (h.2 hm).2.1, fun hf => ho.other ((h.2 hm).2.2.1 hf) (hne hm), fun hf => ho.other ((h.2 hm).2.2.2 hf) (hne hm)⟩⟩
theorem Cell3.slot {v' : Value} (h : Cell3 made filled v B g w T n fin zero) (hv : v' = v) : Cell3 made filled v' B g w T n fin zero := hv ▸ h
theorem Cell3.new (hf : filled = false) (hv : v = .pointer (some ⟨g, 0, none⟩)) (hB : B ≤ g) (hb : Blk w g T (tab n zero)) : Cell3 true filled v B g w T n fin zero :=
  ⟨fun _ => rfl, fun _ => ⟨hv, hB, (fun h => by rw [hf] at h; cases h), fun _ => hb⟩⟩
theorem Cell3.fill (h : Cell3 made filled v B g w T n fin zero) (hm : made = true) (hb : Blk w' g T (tab n fin)) : Cell3 made true v B g w' T n fin zero :=
  ⟨fun _ => hm, fun _ => ⟨(h.2 hm).1, (h.2 hm).2.1, fun _ => hb, fun h => by cases h⟩⟩
theorem Cell3.empty (h : Cell3 made filled v B g w T n fin zero) (hm : made = false) : filled = false := by
  cases hf : filled with
  | false => rfl
  | true => have := h.1 hf; rw [hm] at this; cases this
end
end Go.Proofs.YtlmefcepdadfjaaGreat
/- Laws at one operation of a region that draws its order: a nil check, one cell read, one cell written. No program is named here. -/
namespace Go.Proofs.YtlmefcepdadfjaaGreat
open Go.RowKit

section
variable {P : Program} {o : Oper} {a : Act} {w : World} {K : Act → World → Prop} {Q : Exit → Act → World → Prop}
theorem wp_nilCheck (x : Operand) (ho : o.op = .nilCheck x) (ad : Addr) (hx : a.eval x = .pointer (some ad)) (h : K (a.put o.dst (.pointer (some ad))) w) : o.wp P a w K Q := by
  unfold Oper.wp execOp
  simp only [ho, hx, Sem.run_pure, Oper.upon, Result.andThen_ok, Sem.run_bind]
  exact h
theorem wp_fieldAddr (t : TypeId) (x : Operand) (i : Nat) (ho : o.op = .fieldAddr t x i) (ad ad' : Addr) (hx : a.eval x = .pointer (some ad)) (hf : (Instr.fieldAt t (.pointer (some ad)) i).run P w = .ok (.pointer (some ad')) w) (h : K (a.put o.dst (.pointer (some ad'))) w) : o.wp P a w K Q := by
  unfold Oper.wp execOp
  simp only [ho, hx, hf, Sem.run_pure, Oper.upon, Result.andThen_ok, Sem.run_bind]
  exact h
theorem run_loadVar_cell {P : Program} (w : World) (ad : Addr) (ty : TypeId) (v : Value) (d : TypeDesc) (hc : w.cell? ad = some v) (hu : P.underlying ty = some d) (hd : (match d with | .struct _ | .array _ _ => true | _ => false) = false) :
    (loadVar ty ad).run P w = .ok v w := by
  have hagg : (isAgg ty).run P w = .ok false w := by
    unfold isAgg
    rw [Sem.run_bind, run_underlying hu w]
    cases d <;> simp_all
  simp [loadVar, Sem.run_bind, hagg, run_load, hc]
theorem wp_load_cell (ty : TypeId) (x : Operand) (ho : o.op = .load ty x) (ad : Addr) (hx : a.eval x = .pointer (some ad)) (v : Value) (d : TypeDesc) (hc : w.cell? ad = some v)
    (hu : P.underlying ty = some d) (hd : (match d with | .struct _ | .array _ _ => true | _ => false) = false)
    (h : K (a.put o.dst v) w) : o.wp P a w K Q := by
  unfold Oper.wp execOp
  simp only [ho, hx, Instr.loadAt, Instr.sureAddr, Sem.run_bind, Sem.run_pure, Result.andThen_ok, run_loadVar_cell w ad ty v d hc hu hd]
  exact h
theorem run_storeVar_cell {P : Program} (w : World) (g o e : Nat) (ty : TypeId) (cs : List Value) (v : Value) (hb : Blk w g e cs) (hi : (P.info? ty).map (·.size) = some 1) (ho : o < cs.length) (h1 : v.oneCell' = true) (hv : v.cells = #[v]) :
    (storeVar ty ⟨g, o, none⟩ v).run P w = .ok () (w.setCell ⟨g, o, none⟩ v) := by
  have hcell : w.cell? ⟨g, o, none⟩ = some cs[o] := by rw [hb.cell]; simp [ho]
  have hst : (store ((⟨g, o, none⟩ : Addr).add 0) v).run P w = .ok () (w.setCell ⟨g, o, none⟩ v) := by
    rw [Addr.add_lit, run_store P w _ v _ h1, Nat.add_zero, hcell]
    simp [hb.free o ho]
  cases hq : P.info? ty with
  | none => simp [hq] at hi
  | some i =>
    have hs : i.size = 1 := by simpa [hq] using hi
    simp [storeVar, sizeOf, typeInfo, hq, hv, hs, storeCells, hst]
theorem wp_store_cell (ty : TypeId) (x y : Operand) (ho : o.op = .store ty x y) (g off e : Nat) (v : Value) (hx : a.eval x = .pointer (some ⟨g, off, none⟩)) (hy : a.eval y = v)
    (cs : List Value) (hb : Blk w g e cs) (hi : (P.info? ty).map (·.size) = some 1) (hn : off < cs.length) (h1 : v.oneCell' = true) (hv : v.cells = #[v])
    (h : K (a.put o.dst undef) (w.setCell ⟨g, off, none⟩ v)) : o.wp P a w K Q := by
  unfold Oper.wp execOp
  simp only [ho, hx, hy, Instr.storeAt, Instr.sureAddr, Sem.run_bind, Sem.run_pure, Result.andThen_ok, run_storeVar_cell w g off e ty cs v hb hi hn h1 hv]
  exact h
theorem wpList_store_cell {ops : Array Oper} {rest : List Oper} {o : Oper} {a : Act} {w : World} {Q : Exit → Act → World → Prop} (hgd : o.guard = none) (ty : TypeId) (x y : Operand) (ho : o.op = .store ty x y) (g off e : Nat) (v : Value) (hx : a.eval x = .pointer (some ⟨g, off, none⟩)) (hy : a.eval y = v)
    (cs : List Value) (hb : Blk w g e cs) (hi : (P.info? ty).map (·.size) = some 1) (hn : off < cs.length) (h1 : v.oneCell' = true) (hv : v.cells = #[v])
    (h : ∀ w', Blk w' g e (cs.set off v) → Only g w w' → wpList P ops Q rest (a.put o.dst undef) w') : wpList P ops Q (o :: rest) a w :=
  wpList_plain hgd fun _ hK => wp_store_cell ty x y ho g off e v hx hy cs hb hi hn h1 hv (hK _ _ (h _ (hb.set off v) (Only.setCell off v)))
end
theorem run_equalIn_func_nil {P : Program} (w : World) (n : Nat) (t : TypeId) (ps rs : Array TypeId) (v : Bool) (fn : Fn) (x y : Array Value) (h : P.underlying t = some (.func ps rs v)) :
    (Op.equalIn (n + 1) t (.func fn x y) .nilFunc).run P w = .ok false w := by
  unfold Op.equalIn
  simp [run_underlying h]
theorem run_eql_func_nil {P : Program} (w : World) (t : TypeId) (ps rs : Array TypeId) (v : Bool) (fn : Fn) (x y : Array Value) (h : P.underlying t = some (.func ps rs v)) :
    (binOp .eql t (.func fn x y) .nilFunc).run P w = .ok (.bool false) w := by
  simp only [binOp]
  simp [Op.equal, Op.maxDepth, run_equalIn_func_nil w 9999 t ps rs v fn x y h]
end Go.Proofs.YtlmefcepdadfjaaGreat
/- A symbolic walk: what a stretch of code asks, computed from its text; the words. No program is named here. -/
namespace Go.Proofs.YtlmefcepdadfjaaGreat
open Go.RowKit

/-- A frame of which some slots are known. -/
abbrev Fr := List (Nat × Option Value)
def look : Fr → Nat → Option Value
  | [], _ => none
  | (s, v) :: r, t => bif Nat.beq s t then v else look r t
def ev (F : Fr) : Operand → Option Value
  | .tmp t => look F t
  | .const v => some v
  | .global g => some (.pointer (some ⟨g, 0, none⟩))
  | .func f => some (.func (.func f) #[] #[])
def evs (F : Fr) : List Operand → Option (List Value)
  | [] => some []
  | x :: r => match ev F x with
    | some v => match evs F r with
      | some vs => some (v :: vs)
      | none => none
    | none => none
structure Agree (N : Nat) (F : Fr) (a : Act) : Prop where
  size : a.tmps.size = N
  defers : a.defers = []
  slots : ∀ t v, look F t = some v → a.tmps.getD t undef = v
def upd (d : Option Nat) (v : Value) (F : Fr) : Fr := match d with | some d => (d, some v) :: F | none => F
def dstOk (N : Nat) : Option Nat → Bool
  | some d => Nat.blt d N
  | none => true

/-- Anything else that is known of memory, by what it is, where it lies, and that it stays while nobody writes there. -/
structure GEnt where
  own : Option Nat
  uses : Nat → Prop
  holds : World → Prop
  own_uses : ∀ g, own = some g → uses g
  uses_lt : ∀ w g, holds w → uses g → g < w.heap.size
  kept : ∀ w w' row, holds w → w.grownBy w' row → (∀ g, row = some g → ¬ uses g) → holds w'
/-- What is known of memory: a block that is known whole and may be written; cells that are read; a slice of the call's own that may grow. -/
inductive Ent where
  | blk (g e : Nat) (cs : List Value)
  | rd (ao : Option Addr) (cs : List Value)
  | row (ao : Option Addr) (n cap e k : Nat) (cs : List Value)
  | gen (x : GEnt)
abbrev Hp := List Ent
def Ent.Holds (w : World) : Ent → Prop
  | .blk g e cs => Blk w g e cs
  | .rd ao cs => Rd w ao cs
  | .row ao n cap e k cs => w.ownsRow 0 e k (.slice ao n cap) n cs
  | .gen x => x.holds w
def Ent.own : Ent → Option Nat
  | .blk g _ _ => some g
  | .rd _ _ => none
  | .row ao _ _ _ _ _ => ao.map (·.block)
  | .gen x => x.own
def Ent.uses : Ent → Nat → Prop
  | .blk g _ _, b => b = g
  | .rd ao cs, b => cs ≠ [] ∧ ao.map (·.block) = some b
  | .row ao _ _ _ _ _, b => ao.map (·.block) = some b
  | .gen x, b => x.uses b
/-- Of what was there, only the blocks M may have been written. -/
structure Touch (M : List Nat) (W w : World) : Prop where
  os : w.os = W.os
  tape : w.tape = W.tape
  output : w.output = W.output
  size : W.heap.size ≤ w.heap.size
  block : ∀ k, k < W.heap.size → k ∉ M → w.heap[k]? = W.heap[k]?
structure Sat (W : World) (M : List Nat) (H : Hp) (w : World) : Prop where
  touch : Touch M W w
  holds : ∀ (i : Nat) (e : Ent), H[i]? = some e → e.Holds w
  own : ∀ (i : Nat) (e : Ent), H[i]? = some e → ∀ g, e.own = some g → W.heap.size ≤ g ∨ g ∈ M
  sep : ∀ (i j : Nat) (a b : Ent), i ≠ j → H[i]? = some a → H[j]? = some b → ∀ g, a.own = some g → ¬ b.uses g

/-- What the types are. -/
inductive TD where
  | bool | int (k : IntKind) | string | slice (e : Nat) | array (n e : Nat) | struct (fs : List (Nat × Nat)) | other
def tdOf : TypeDesc → TD
  | .bool => .bool
  | .int k => .int k
  | .string => .string
  | .slice e => .slice e
  | .array n e => .array n e
  | .struct fs => .struct (fs.toList.map fun f => (f.offset, f.type))
  | _ => .other
structure TInf where
  d : TD
  size : Nat
  bytes : Nat
  zero : Value
def tl : List (Nat × TInf) → Nat → Option TInf
  | [], _ => none
  | (s, v) :: r, t => bif Nat.beq s t then some v else tl r t
structure Sx where
  P : Program
  T : List (Nat × TInf)
  ty : ∀ t i, tl T t = some i → (P.underlying t).map tdOf = some i.d ∧ (P.info? t).map (fun x => (x.zero, x.size, x.bytes)) = some (some i.zero, i.size, i.bytes)
  mixed : P.follows .mixedOrders = true
  /-- Variables of these types are taken for rows of one element. -/
  rows : List Nat
  cmp : List Nat
  cmpOk : (cmp.all fun t => !P.stoodInHeld t && !P.eqGuardType P.depth t && (P.fieldsOf t).all (fun f => f.name != "_")) = true
  fns : List Nat
  fnsOk : (fns.all fun f => match P.funcs[f]? with | some fn => !(fn.name == "runtime.NumGoroutine") && !fn.body.isNone | none => false) = true
def Sx.desc (S : Sx) (t : Nat) : Option TD := match tl S.T t with | some ⟨d, _, _, _⟩ => some d | none => none
def Sx.sz (S : Sx) (t : Nat) : Option Nat := match tl S.T t with | some ⟨_, n, _, _⟩ => some n | none => none
/-- Values of one cell. -/
def allOne : List Value → Bool
  | [] => true
  | v :: r => v.oneCell' && allOne r
theorem allOne_mem : ∀ {l : List Value}, allOne l = true → ∀ v ∈ l, v.oneCell' = true
  | [], _, v, hv => by simp at hv
  | u :: r, h, v, hv => by
    simp only [allOne, Bool.and_eq_true] at h
    rcases List.mem_cons.1 hv with e | e
    · exact e ▸ h.1
    · exact allOne_mem h.2 v e

/-- The stops of the walk. -/
inductive SxIf (t : Bool) (A B : Prop) : Prop
  | mk (h1 : t = true → A) (h2 : t = false → B)
theorem SxIf.tt {A B : Prop} (h : A) : SxIf true A B := ⟨fun _ => h, fun h' => (by cases h')⟩
theorem SxIf.ff {A B : Prop} (h : B) : SxIf false A B := ⟨fun h' => (by cases h'), fun _ => h⟩
inductive SxNew (A : Nat → Prop) : Prop
  | mk (h : ∀ g, A g)
inductive SxRng (k : IntKind) (x : Int) (A : Int → Prop) : Prop
  | mk (h : A (k.wrap x))
inductive SxNz (y : Int) (A : Prop) : Prop
  | mk (h : y ≠ 0) (h' : A)
inductive SxQ (x : Int) (A : Int → Prop) : Prop
  | mk (r : Int) (h : x = r) (h' : A r)
inductive SxSh (y : Int) (A : Nat → Prop) : Prop
  | mk (n : Nat) (h : y = n) (h' : A n)
inductive SxLe (m n : Nat) (A : Prop) : Prop
  | mk (h : m ≤ n) (h' : A)
inductive SxIdx (i : Int) (n : Nat) (A : Nat → Prop) : Prop
  | mk (j : Nat) (h : i = j) (hj : j < n) (h' : A j)
inductive SxBnd (lo hi : Int) (m : Nat) (A : Nat → Nat → Prop) : Prop
  | mk (a b : Nat) (h1 : lo = a) (h2 : hi = b) (h3 : a ≤ b) (h4 : b ≤ m) (h' : A a b)
/-- The address of an element of a slice that is read, or is the call's own. -/
inductive SxIA (H : Hp) (ao : Option Addr) (n k : Nat) (i : Int) (A : Nat → Nat → Prop) : Prop
  | rd (p : Nat) (cs : List Value) (hp : H[p]? = some (.rd ao cs)) (j : Nat) (h : i = j) (hj : j < n) (hc : j * k < cs.length) (h' : ∀ g off, ao = some ⟨g, off, none⟩ → A g (off + j * k))
  | row (p cap e : Nat) (cs : List Value) (hp : H[p]? = some (.row ao n cap e k cs)) (j : Nat) (h : i = j) (hj : j < n) (h' : ∀ g, ao = some ⟨g, 0, none⟩ → A g (0 + j * k))
  | ptr (g off : Nat) (ha : ao = some ⟨g, off, none⟩) (j : Nat) (h : i = j) (hj : j < n) (h' : A g (off + j * k))
  | any (cs : List Value) (hx : ∀ W M w, Sat W M H w → Rd w ao cs) (j : Nat) (h : i = j) (hj : j < n) (hc : j * k < cs.length) (h' : ∀ g off, ao = some ⟨g, off, none⟩ → A g (off + j * k))
/-- One cell is read. -/
inductive SxLd (H : Hp) (g off : Nat) (A : Value → Prop) : Prop
  | blk (p : Nat) {e : Nat} {cs : List Value} (hp : H[p]? = some (.blk g e cs)) {v : Value} (hv : cs[off]? = some v) (h' : A v)
  | rd (p : Nat) {ao : Option Addr} {cs : List Value} (hp : H[p]? = some (.rd ao cs)) {o : Nat} (ha : ao = some ⟨g, o, none⟩) {j : Nat} (hj : off = o + j) {v : Value} (hv : cs[j]? = some v) (h' : A v)
  | row (p : Nat) {ao : Option Addr} {n cap e k : Nat} {cs : List Value} (hp : H[p]? = some (.row ao n cap e k cs)) (ha : ao = some ⟨g, 0, none⟩) {v : Value} {j : Nat} (hj : off = 0 + j) (hv : cs[j]? = some v) (h' : A v)
  | from_ {ao : Option Addr} {cs : List Value} (hx : ∀ W M w, Sat W M H w → Rd w ao cs) {o : Nat} (ha : ao = some ⟨g, o, none⟩) {j : Nat} (hj : off = o + j) {v : Value} (hv : cs[j]? = some v) (h' : A v)
/-- Several cells are read: a struct, an array. -/
inductive SxLdN (H : Hp) (g off n : Nat) (A : List Value → Prop) : Prop
  | blk (p : Nat) {e : Nat} {cs : List Value} (hp : H[p]? = some (.blk g e cs)) {vs : List Value} (hl : vs.length = n) (hv : (cs.drop off).take n = vs) (h' : A vs)
  | rd (p : Nat) {ao : Option Addr} {cs : List Value} (hp : H[p]? = some (.rd ao cs)) {o : Nat} (ha : ao = some ⟨g, o, none⟩) {j : Nat} (hj : off = o + j) {vs : List Value} (hl : vs.length = n) (hv : (cs.drop j).take n = vs) (h' : A vs)
  | row (p : Nat) {ao : Option Addr} {m cap e k : Nat} {cs : List Value} (hp : H[p]? = some (.row ao m cap e k cs)) (ha : ao = some ⟨g, 0, none⟩) {j : Nat} (hj : off = 0 + j) {vs : List Value} (hl : vs.length = n) (hv : (cs.drop j).take n = vs) (h' : A vs)
  | from_ {ao : Option Addr} {cs : List Value} (hx : ∀ W M w, Sat W M H w → Rd w ao cs) {o : Nat} (ha : ao = some ⟨g, o, none⟩) {j : Nat} (hj : off = o + j) {vs : List Value} (hl : vs.length = n) (hv : (cs.drop j).take n = vs) (h' : A vs)
def splice (off : Nat) (vs cs : List Value) : List Value := cs.take off ++ vs ++ cs.drop (off + vs.length)
/-- Cells are written. -/
inductive SxSt (H : Hp) (g off : Nat) (vs : List Value) (A : Hp → Prop) : Prop
  | blk (p : Nat) {e : Nat} {cs : List Value} (hp : H[p]? = some (.blk g e cs)) (hl : Nat.ble (off + vs.length) cs.length = true) (h1 : allOne vs = true) {cs' : List Value} (hc : splice off vs cs = cs') (h' : A (H.set p (.blk g e cs')))
  | row (p : Nat) {ao : Option Addr} {n cap e k : Nat} {cs : List Value} (hp : H[p]? = some (.row ao n cap e k cs)) (ha : ao = some ⟨g, 0, none⟩) {j : Nat} (hj : off = 0 + j) (hl : j + vs.length ≤ cs.length) (h1 : allOne vs = true) {cs' : List Value} (hc : splice j vs cs = cs') (h' : A (H.set p (.row ao n cap e k cs')))
/-- string(b). -/
inductive SxStr (H : Hp) (ao : Option Addr) (n : Nat) (A : List UInt8 → Prop) : Prop
  | rd (p : Nat) {cs : List Value} (hp : H[p]? = some (.rd ao cs)) (l : List UInt8) (hn : l.length = n) (hl : cs.take n = l.map fun b => .int .u8 (b.toNat : Int)) (h' : A l)
  | blk (p : Nat) {g o e : Nat} {cs : List Value} (ha : ao = some ⟨g, o, none⟩) (hp : H[p]? = some (.blk g e cs)) (l : List UInt8) (hn : l.length = n) (hl : (cs.drop o).take n = l.map fun b => .int .u8 (b.toNat : Int)) (h' : A l)
  | row (p : Nat) {m cap e : Nat} {cs : List Value} (hp : H[p]? = some (.row ao m cap e 1 cs)) (l : List UInt8) (hn : l.length = n) (hl : cs.take n = l.map fun b => .int .u8 (b.toNat : Int)) (h' : A l)
/-- append(s, x..), s the call's own. -/
inductive SxApp (H : Hp) (ao : Option Addr) (n cap e k bytes : Nat) (xo : Option Addr) (m xcap : Nat) (A : Option Addr → Nat → Hp → Prop) : Prop
  | mk (p : Nat) {cs : List Value} (hp : H[p]? = some (.row ao n cap e k cs)) (q : Nat) {vs : List Value}
      (hx : (xo = none ∧ vs = [] ∧ m = 0) ∨ H[q]? = some (.rd xo vs) ∨ (∃ g e', xo = some ⟨g, 0, none⟩ ∧ ∃ all, H[q]? = some (.blk g e' all) ∧ all.take (m * k) = vs) ∨ (p ≠ q ∧ ∃ e', H[q]? = some (.row xo m xcap e' k vs)))
      (hm : vs.length = m * k) (h1 : allOne vs = true) (h63 : n + m ≤ maxLen) (hb : (n + m) * bytes ≤ 140737488355328)
      {cs' : List Value} (hc : cs ++ vs = cs')
      (h' : ∀ ao' cap', A ao' cap' (H.set p (.row ao' (n + m) cap' e k cs')))
  | from_ (p : Nat) {cs : List Value} (hp : H[p]? = some (.row ao n cap e k cs)) {vs : List Value} (hx : ∀ W M w, Sat W M H w → Rd w xo vs)
      (hm : vs.length = m * k) (h1 : allOne vs = true) (h63 : n + m ≤ maxLen) (hb : (n + m) * bytes ≤ 140737488355328)
      {cs' : List Value} (hc : cs ++ vs = cs')
      (h' : ∀ ao' cap', A ao' cap' (H.set p (.row ao' (n + m) cap' e k cs')))
  | sem (h : ∀ (P : Program) (W : World) (M : List Nat) (w : World) (t ty : TypeId) (x : TypeInfo) (z : Value), Sat W M H w → P.underlying t = some (.slice e) → P.info? e = some x → x.zero = some z → x.size = k → x.bytes = bytes → z.cells.size = k → 0 < k →
      ∃ ao' cap' H' w', A ao' cap' H' ∧ (Builtin.append_ #[t, t] ty #[.slice ao n cap, .slice xo m xcap]).run P w = .ok (.slice ao' (n + m) cap') w' ∧ Sat W M H' w')
/-- append(s, x...), x a string. -/
inductive SxAppS (H : Hp) (ao : Option Addr) (n cap e : Nat) (s : ByteArray) (A : Option Addr → Nat → Hp → Prop) : Prop
  | mk (p : Nat) {cs : List Value} (hp : H[p]? = some (.row ao n cap e 1 cs)) (h63 : n + s.size ≤ 140737488355328) {cs' : List Value} (hc : cs ++ Go.Lib.strCells s = cs') (h' : ∀ ao' cap', A ao' cap' (H.set p (.row ao' (n + s.size) cap' e 1 cs')))
inductive SxCall (S : Sx) (W : World) (M : List Nat) (f : Nat) (args : Array Value) (H : Hp) (A : Value → Hp → Prop) : Prop
  | mk (h : ∀ w, Sat W M H w → Calls S.P f args w fun e w' => ∃ v H', e = .returned v ∧ Sat W M H' w' ∧ A v H')
/-- A function without a body. -/
inductive SxExt (S : Sx) (W : World) (M : List Nat) (f : Nat) (args : Array Value) (H : Hp) (A : Value → Hp → Prop) : Prop
  | mk (v : Value) (h : ∀ w, Sat W M H w → (callFunc f args).run S.P w = .ok (.value v) w) (h' : A v H)
/-- Any other operation. -/
inductive SxSem (S : Sx) (W : World) (M : List Nat) (N : Nat) (o : Oper) (F : Fr) (H : Hp) (A : Value → Hp → Prop) : Prop
  | mk (h : ∀ a w (Q : Exit → Act → World → Prop), Agree N F a → Sat W M H w → o.wp S.P a w (fun a' w' => ∃ v H', a' = a.put o.dst v ∧ Sat W M H' w' ∧ A v H') Q)
/-- A value that is computed. -/
inductive SxRun (P : Program) (s : Sem Value) (A : Value → Prop) : Prop
  | mk (v : Value) (h : ∀ w, s.run P w = .ok v w) (h' : A v)
/-- A builtin that leaves memory as it is. -/
inductive SxBI (P : Program) (b : Builtin) (tys : List TypeId) (vs : List Value) (A : Value → Prop) : Prop
  | mk (v : Value) (h : ∀ ty cst w, (builtin b tys.toArray ty cst vs.toArray).run P w = .ok (.value v) w) (h' : A v)
/-- The length of what lies in memory. -/
inductive SxLenV (S : Sx) (tys : List TypeId) (v : Value) (H : Hp) (A : Nat → Prop) : Prop
  | mk (n : Nat) (h : ∀ (W : World) (M : List Nat) (w : World) (ty : TypeId), Sat W M H w → (Builtin.len_ tys.toArray ty #[v]).run S.P w = .ok (goInt n) w) (h' : A n)
inductive SxNth (cs : List Value) (j : Nat) (A : Value → Prop) : Prop
  | mk {v : Value} (h : cs[j]? = some v) (h' : A v)
inductive SxSub (cs : List Value) (off n : Nat) (A : List Value → Prop) : Prop
  | mk {vs : List Value} (hl : vs.length = n) (h : (cs.drop off).take n = vs) (h' : A vs)

def sameK : IntKind → IntKind → Bool
  | .i8, .i8 | .i16, .i16 | .i32, .i32 | .i64, .i64 | .u8, .u8 | .u16, .u16 | .u32, .u32 | .u64, .u64 => true
  | _, _ => false
theorem sameK_eq {a b : IntKind} (h : sameK a b = true) : a = b := by cases a <;> cases b <;> first | rfl | cases h
def bitI (op : BinOp) (k : IntKind) (x y : Int) : Int :=
  match op with
  | .and => k.wrap (BitVec.ofInt k.bits x &&& BitVec.ofInt k.bits y).toNat
  | .or => k.wrap (BitVec.ofInt k.bits x ||| BitVec.ofInt k.bits y).toNat
  | .xor => k.wrap (BitVec.ofInt k.bits x ^^^ BitVec.ofInt k.bits y).toNat
  | _ => k.wrap (BitVec.ofInt k.bits x &&& ~~~ BitVec.ofInt k.bits y).toNat
def strEq (a b : ByteArray) : Bool := a.toList == b.toList
def strLt (a b : ByteArray) : Bool := Op.bytesLess a.toList b.toList
def sxInt (op : BinOp) (k : IntKind) (x y : Int) (A : Value → Prop) : Prop :=
  match op with
  | .add => SxRng k (x + y) fun r => A (.int k r)
  | .sub => SxRng k (x - y) fun r => A (.int k r)
  | .mul => SxRng k (x * y) fun r => A (.int k r)
  | .quo => SxNz y (SxQ (x.tdiv y) fun q => SxRng k q fun r => A (.int k r))
  | .rem => SxNz y (SxQ (x.tmod y) fun q => A (.int k q))
  | .and => A (.int k (bitI .and k x y))
  | .or => A (.int k (bitI .or k x y))
  | .xor => A (.int k (bitI .xor k x y))
  | .andNot => A (.int k (bitI .andNot k x y))
  | .eql => A (.bool (x == y))
  | .neq => A (.bool (x != y))
  | .lss => A (.bool (decide (x < y)))
  | .leq => A (.bool (decide (x ≤ y)))
  | .gtr => A (.bool (decide (x > y)))
  | .geq => A (.bool (decide (x ≥ y)))
  | _ => False
def sxString (op : BinOp) (x y : ByteArray) (A : Value → Prop) : Prop :=
  match op with
  | .add => SxLe (x.size + y.size) 9223372036854775807 (A (.string (x ++ y)))
  | .eql => A (.bool (strEq x y))
  | .neq => A (.bool (!strEq x y))
  | .lss => A (.bool (strLt x y))
  | .leq => A (.bool (strLt x y || strEq x y))
  | .gtr => A (.bool (!(strLt x y || strEq x y)))
  | .geq => A (.bool (!strLt x y))
  | _ => False
def isShift : BinOp → Bool
  | .shl | .shr => true
  | _ => false
def sxBin (S : Sx) (op : BinOp) (t : Nat) (x y : Operand) (a b : Value) (A : Value → Prop) : Prop :=
  match a, b with
  | .int k m, .int k' n => bif isShift op then
        SxSh n fun j => match op with
          | .shl => SxQ (m * 2 ^ (min j k.bits)) fun q => SxRng k q fun r => A (.int k r)
          | .shr => SxQ (m.fdiv (2 ^ (min j k.bits))) fun q => A (.int k q)
          | _ => False
      else bif sameK k k' then sxInt op k m n A else False
  | .string m, .string n => sxString op m n A
  | a, b => SxRun S.P (do eqGuard op t x y a b; binOp op t a b) A
def sxOpt (S : Sx) (F : Fr) (x : Option Operand) (d : Int) : Option Int :=
  match x with
  | none => some d
  | some x => match ev F x with
    | some (.int _ i) => some i
    | _ => none
def nthV : List Value → Nat → Option Value
  | [], _ => none
  | v :: _, 0 => some v
  | _ :: r, n + 1 => nthV r n
def nthF : List (Nat × Nat) → Nat → Option (Nat × Nat)
  | [], _ => none
  | v :: _, 0 => some v
  | _ :: r, n + 1 => nthF r n
def isAggD : TD → Bool
  | .struct _ | .array _ _ => true
  | _ => false
inductive SxP (p : Prop) (A : Prop) : Prop
  | mk (h : p) (h' : A)
/-- The parts of a literal, laid over zeros. -/
def fillC (place : Nat → Option (Nat × Nat)) : List Value → List (Nat × List Value) → Option (List Value)
  | cs, [] => some cs
  | cs, (i, vs) :: r => match place i with
    | some (off, _) => fillC place (splice off vs cs) r
    | none => none
def fillP (place : Nat → Option (Nat × Nat)) : List Value → List (Nat × List Value) → Prop
  | _, [] => True
  | cs, (i, vs) :: r => match place i with
    | some (off, size) => (vs.length = size ∧ off + size ≤ cs.length) ∧ fillP place (splice off vs cs) r
    | none => False
def fillB (place : Nat → Option (Nat × Nat)) : List Value → List (Nat × List Value) → Bool
  | _, [] => true
  | cs, (i, vs) :: r => match place i with
    | some (off, size) => bif Nat.beq vs.length size then (bif Nat.ble (off + size) cs.length then fillB place (splice off vs cs) r else false) else false
    | none => false
theorem fillB_P {place : Nat → Option (Nat × Nat)} : ∀ {ps : List (Nat × List Value)} {cs : List Value}, fillB place cs ps = true → fillP place cs ps
  | [], cs, _ => trivial
  | (i, vs) :: r, cs, h => by
    unfold fillB at h
    unfold fillP
    split at h
    · rename_i off size hp
      cases h1 : Nat.beq vs.length size with
      | false => rw [h1] at h; cases h
      | true =>
        cases h2 : Nat.ble (off + size) cs.length with
        | false => rw [h1, h2] at h; cases h
        | true =>
          rw [h1, h2] at h
          exact ⟨⟨Nat.eq_of_beq_eq_true h1, Nat.le_of_ble_eq_true h2⟩, fillB_P h⟩
    · cases h
inductive SxFill (place : Nat → Option (Nat × Nat)) (cs : List Value) (ps : List (Nat × List Value)) (A : List Value → Prop) : Prop
  | mk (h : fillP place cs ps) {cs' : List Value} (hc : fillC place cs ps = some cs') (h' : A cs')
theorem SxFill.ok {place : Nat → Option (Nat × Nat)} {cs : List Value} {ps : List (Nat × List Value)} {A : List Value → Prop} (h : fillB place cs ps = true) {cs' : List Value} (hc : fillC place cs ps = some cs') (h' : A cs') : SxFill place cs ps A := ⟨fillB_P h, hc, h'⟩
def evParts (F : Fr) : List (Nat × Operand) → Option (List (Nat × List Value))
  | [] => some []
  | (i, x) :: r => match ev F x with
    | some v => match evParts F r with
      | some vs => some ((i, v.cells.toList) :: vs)
      | none => none
    | none => none
def placeF (S : Sx) (fs : List (Nat × Nat)) (i : Nat) : Option (Nat × Nat) :=
  match nthF fs i with
  | some (o, t) => match S.sz t with
    | some n => some (o, n)
    | none => none
  | none => none
def zerosL (z : List Value) : Nat → List Value
  | 0 => []
  | n + 1 => z ++ zerosL z n

def sxSlice (S : Sx) (t : Nat) (v : Value) (lo hi : Option Operand) (F : Fr) (H : Hp) (A : Value → Hp → Prop) : Prop :=
  match S.desc t, v with
  | some .string, .string s => match sxOpt S F lo 0, sxOpt S F hi s.size with
    | some l, some h => SxBnd l h s.size fun a b => A (.string (s.extract a b)) H
    | _, _ => False
  | some (.slice e), .slice ao n cap => match sxOpt S F lo 0, sxOpt S F hi n, S.sz e with
    | some l, some h, some k => SxBnd l h cap fun a b => ∀ ao', (a < cap → ao' = ao.map (·.add (a * k))) → (a = cap → ao' = ao) → A (.slice ao' (b - a) (cap - a)) H
    | _, _, _ => False
  | some (.array n e), .pointer (some ⟨g, off, none⟩) => match sxOpt S F lo 0, sxOpt S F hi n, S.sz e with
    | some l, some h, some k => SxBnd l h n fun a b => ∀ off', (a < n → off' = off + a * k) → A (.slice (some ⟨g, off', none⟩) (b - a) (n - a)) H
    | _, _, _ => False
  | _, _ => False
def sxConv (S : Sx) (src dst : Nat) (v : Value) (H : Hp) (A : Value → Hp → Prop) : Prop :=
  match S.desc src, S.desc dst, v with
  | some (.int _), some (.int k), .int _ n => SxRng k n fun r => A (.int k r) H
  | some .string, some .string, .string s => A (.string s) H
  | some .string, some (.slice e), .string s => match S.desc e with
    | some (.int .u8) => SxNew fun g => SxNew fun cap => s.size ≤ cap → A (.slice (some ⟨g, 0, none⟩) s.size cap) (.blk g e (tab cap fun j => .int .u8 ((s.data.toList.getD j 0).toNat : Int)) :: H)
    | _ => False
  | some (.slice e), some .string, .slice ao n _ => match S.desc e with
    | some (.int .u8) => SxStr H ao n fun l => A (.string ⟨l.toArray⟩) H
    | _ => False
  | _, _, v => SxRun S.P (convert src dst v) fun r => A r H
def sxBuiltin (S : Sx) (b : Builtin) (tys : List TypeId) (vs : List Value) (H : Hp) (A : Value → Hp → Prop) : Prop :=
  match b, tys, vs with
  | .len, t :: _, [v] => match S.desc t, v with
    | some .string, .string s => A (.int .i64 (s.size : Nat)) H
    | some (.slice _), .slice _ n _ => A (.int .i64 (n : Nat)) H
    | some (.array n _), _ => A (.int .i64 (n : Nat)) H
    | _, _ => SxLenV S tys v H fun n => A (.int .i64 (n : Nat)) H
  | .min, _, [.int k x, .int k' y] => bif sameK k k' then A (.int k (if y < x then y else x)) H else False
  | .max, _, [.int k x, .int k' y] => bif sameK k k' then A (.int k (if x < y then y else x)) H else False
  | .append, [t, u], [.slice ao n cap, .slice xo m xcap] => bif Nat.beq t u then (match S.desc t with
    | some (.slice e) => match tl S.T e with
      | some ⟨_, k, bt, z⟩ => SxP (z.cells.size = k ∧ 0 < k) (SxApp H ao n cap e k bt xo m xcap fun ao' cap' H' => A (.slice ao' (n + m) cap') H')
      | none => False
    | _ => False) else False
  | .append, [t, u], [.slice ao n cap, .string s] => match S.desc t, S.desc u with
    | some (.slice e), some .string => match tl S.T e with
      | some ⟨.int .u8, 1, 1, .int .u8 0⟩ => SxAppS H ao n cap e s fun ao' cap' H' => A (.slice ao' (n + s.size) cap') H'
      | _ => False
    | _, _ => False
  | b, tys, vs => SxBI S.P b tys vs fun v => A v H
def sxCallee (S : Sx) (W : World) (M : List Nat) (f : Value) (vs : List Value) (H : Hp) (A : Value → Hp → Prop) : Prop :=
  match f with
  | .func (.func n) first captured => bif S.fns.any (Nat.beq n) then (match first.toList, captured.toList with | [], [] => SxCall S W M n vs.toArray H A | u, v => SxCall S W M n (u ++ vs ++ v).toArray H A) else (match first.toList, captured.toList with | [], [] => SxExt S W M n vs.toArray H A | u, v => SxExt S W M n (u ++ vs ++ v).toArray H A)
  | _ => False
/-- A builtin that is about maps, or writes memory. -/
def useSem : Builtin → List Value → Bool
  | .delete, _ => true
  | .clear, _ => true
  | .copy, _ => true
  | _, _ => false
/-- What an operation asks. -/
def sxOp (S : Sx) (W : World) (M : List Nat) (N : Nat) (o : Oper) (F : Fr) (H : Hp) (A : Value → Hp → Prop) : Prop :=
  match o.op with
  | .move x | .assign x => match ev F x with
    | some v => A v H
    | none => False
  | .pick c x y => match ev F c with
    | some (.bool t) => SxIf t (match ev F x with | some v => A v H | none => False) (match ev F y with | some v => A v H | none => False)
    | _ => False
  | .binOp op t x y _ => match ev F x, ev F y with
    | some a, some b => sxBin S op t x y a b fun v => A v H
    | _, _ => False
  | .unOp op _ x => match op, ev F x with
    | .not, some (.bool b) => A (.bool !b) H
    | op, some v => SxRun S.P (Op.unary op v) fun v => A v H
    | _, none => False
  | .convert src dst x => match ev F x with
    | some v => sxConv S src dst v H A
    | none => False
  | .alloc t => match tl S.T t with
    | some ⟨_, n, _, z⟩ => bif S.rows.any (Nat.beq t) then SxP (z.cells.size = n) (SxNew fun g => A (.pointer (some ⟨g, 0, none⟩)) (.row (some ⟨g, 0, none⟩) 1 1 t n z.cells.toList :: H))
      else SxNew fun g => A (.pointer (some ⟨g, 0, none⟩)) (.blk g t z.cells.toList :: H)
    | none => False
  | .box t x => match ev F x with
    | some v => SxNew fun g => A (.pointer (some ⟨g, 0, none⟩)) (.blk g t v.cells.toList :: H)
    | none => False
  | .build t ps => match tl S.T t, evParts F ps.toList with
    | some ⟨d, _, _, z⟩, some vs => match d with
      | .struct fs => bif fs.all (fun f => (S.sz f.2).isSome) then SxFill (placeF S fs) z.cells.toList vs (fun cs => A (.agg cs.toArray) H) else False
      | .array _ e => match S.sz e with
        | some k => SxFill (fun j => some (j * k, k)) z.cells.toList vs (fun cs => A (.agg cs.toArray) H)
        | none => False
      | _ => False
    | _, _ => False
  | .buildSlice t n ps => match S.desc t, evParts F ps.toList with
    | some (.slice e), some vs => match tl S.T e with
      | some ⟨_, k, _, z⟩ => SxP (n * k ≤ 16777216 ∧ z.cells.size = k ∧ 0 < k)
          (SxFill (fun j => some (j * k, k)) (zerosL z.cells.toList n) vs (fun cs => SxNew fun g => A (.slice (some ⟨g, 0, none⟩) n n) (.row (some ⟨g, 0, none⟩) n n e k cs :: H)))
      | none => False
    | _, _ => False
  | .load t x => match tl S.T t, ev F x with
    | some ⟨d, n, _, _⟩, some (.pointer (some ⟨g, off, none⟩)) => bif isAggD d then SxLdN H g off n fun vs => A (.agg vs.toArray) H else SxLd H g off fun v => A v H
    | _, _ => False
  | .store t x y => match S.sz t, ev F x, ev F y with
    | some k, some (.pointer (some ⟨g, off, none⟩)), some v => SxP (v.cells.size = k) (SxSt H g off v.cells.toList fun H' => A undef H')
    | _, _, _ => False
  | .fieldAddr t x f => match S.desc t, ev F x with
    | some (.struct fs), some (.pointer (some ⟨g, off, none⟩)) => match placeF S fs f with
      | some (d, n) => bif Nat.blt 0 n then A (.pointer (some ⟨g, off + d, none⟩)) H else False
      | none => False
    | _, _ => False
  | .nilCheck x => match ev F x with
    | some (.pointer (some a)) => A (.pointer (some a)) H
    | some (.func (.func f) first captured) => A (.func (.func f) first captured) H
    | _ => False
  | .indexAddr t x ix => match S.desc t, ev F x, ev F ix with
    | some (.slice e), some (.slice ao n _), some (.int _ i) => match S.sz e with
      | some k => SxIA H ao n k i fun g off => A (.pointer (some ⟨g, off, none⟩)) H
      | none => False
    | some (.array n e), some (.pointer (some ⟨g, off, none⟩)), some (.int _ i) => match S.sz e with
      | some k => SxIdx i n fun j => A (.pointer (some ⟨g, off + j * k, none⟩)) H
      | none => False
    | _, _, _ => False
  | .index t x ix => match S.desc t, ev F x, ev F ix with
    | some .string, some (.string s), some (.int _ i) => SxIdx i s.size fun j => A (.int .u8 ((s.data.toList.getD j 0).toNat : Int)) H
    | some (.array n e), some (.agg cs), some (.int _ i) => match tl S.T e with
      | some ⟨d, k, _, _⟩ => SxIdx i n fun j => bif isAggD d then SxSub cs.toList (j * k) k fun vs => A (.agg vs.toArray) H else SxNth cs.toList (j * k) fun v => A v H
      | none => False
    | _, _, _ => False
  | .field t x f => match S.desc t, ev F x with
    | some (.struct fs), some (.agg cs) => match nthF fs f with
      | some (o, ft) => match tl S.T ft with
        | some ⟨d, k, _, _⟩ => bif isAggD d then SxSub cs.toList o k fun vs => A (.agg vs.toArray) H else SxNth cs.toList o fun v => A v H
        | none => False
      | none => False
    | _, _ => False
  | .extract x i => match ev F x with
    | some (.tuple vs) => match nthV vs.toList i with
      | some v => A v H
      | none => False
    | _ => False
  | .slice t x lo hi none => match ev F x with
    | some v => sxSlice S t v lo hi F H A
    | none => False
  | .makeSlice t x y => match S.desc t, ev F x, ev F y with
    | some (.slice e), some (.int .i64 l), some (.int .i64 c) => match tl S.T e with
      | some ⟨_, k, bt, z⟩ => SxBnd l c maxLen fun a b => SxP (b * bt ≤ 140737488355328 ∧ z.cells.size = k ∧ 0 < k)
          (SxNew fun g => A (.slice (some ⟨g, 0, none⟩) a b) (.row (some ⟨g, 0, none⟩) a b e k (zerosL z.cells.toList a) :: H))
      | none => False
    | _, _, _ => False
  | .makeFunc fn first captured => match evs F first.toList, evs F captured.toList with
    | some u, some v => A (.func fn u.toArray v.toArray) H
    | _, _ => False
  | .call c => match c.callee, evs F c.args.toList with
    | .builtin b, some vs => bif useSem b vs then SxSem S W M N o F H A else sxBuiltin S b c.argTypes.toList vs H A
    | .value f, some vs => match ev F f with
      | some f => sxCallee S W M f vs H A
      | none => False
    | _, _ => False
  | _ => SxSem S W M N o F H A
end Go.Proofs.YtlmefcepdadfjaaGreat
