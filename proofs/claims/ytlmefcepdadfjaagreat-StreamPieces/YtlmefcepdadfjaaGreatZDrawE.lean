/- Texts of this claim, one behind the other. -/
import Derived.Orders
import Derived.Deep.RegionHeld3
import Derived.Test.YtlmefcepdadfjaaGreatZOwnF
import Derived.Maps.AppendAt
import Derived.Deep.RegionLaw
/- A region that draws its order, by what holds behind each of its operations: one proof an operation, none an order. No program is named here. -/
namespace Go.Proofs.YtlmefcepdadfjaaGreat
open Go.RowKit

theorem mem_ready' {md : Region.Mode} {ops : Array Oper} {listed : Array Bool} {i : Nat} (h : i ∈ Region.ready md ops listed) :
    i < ops.size ∧ listed.getD i true = false ∧ ∃ o, ops[i]? = some o ∧ ∀ e ∈ o.after, Region.binds md e = true → listed.getD e.on false = true := by
  unfold Region.ready at h
  rw [List.mem_filter, List.mem_range] at h
  obtain ⟨h1, h2⟩ := h
  simp only [Bool.and_eq_true, Bool.not_eq_true'] at h2
  obtain ⟨h2, h3⟩ := h2
  have ho : ops[i]? = some ops[i] := Array.getElem?_eq_getElem h1
  rw [ho] at h3
  simp only [Option.map_some, Option.getD_some, Array.all_eq_true'] at h3
  refine ⟨h1, h2, _, ho, fun e he hb => ?_⟩
  have := h3 e he
  simpa [hb] using this
def upward (md : Region.Mode) (ops : Array Oper) : Bool := (List.range ops.size).all fun i => ((ops[i]?).map (·.after.all fun e => !Region.binds md e || decide (e.on < i))).getD true
theorem ready_nil {md : Region.Mode} {ops : Array Oper} {listed : Array Bool} (hu : upward md ops = true) (hs : listed.size = ops.size) (h : Region.ready md ops listed = []) : ∀ i, i < ops.size → listed.getD i false = true := by
  intro i
  induction i using Nat.strongRecOn with
  | _ i ih =>
    intro hi
    cases hl : listed.getD i false with
    | true => rfl
    | false =>
      exfalso
      have ho : ops[i]? = some ops[i] := Array.getElem?_eq_getElem hi
      have hup := List.all_eq_true.1 hu i (List.mem_range.2 hi)
      rw [ho] at hup
      simp only [Option.map_some, Option.getD_some, Array.all_eq_true'] at hup
      have : i ∈ Region.ready md ops listed := by
        unfold Region.ready
        rw [List.mem_filter, List.mem_range]
        refine ⟨hi, ?_⟩
        rw [ho]
        simp only [Bool.and_eq_true, Bool.not_eq_true', Option.map_some, Option.getD_some, Array.all_eq_true']
        refine ⟨?_, fun e he => ?_⟩
        · have hlt : i < listed.size := by omega
          simp [hlt] at hl ⊢
          exact hl
        · have := hup e he
          simp only [Bool.or_eq_true, Bool.not_eq_true', decide_eq_true_eq] at this ⊢
          rcases this with h1 | h1
          · exact .inl h1
          · exact .inr (ih e.on h1 (by omega))
      rw [h] at this
      cases this
def setL (L : Nat → Bool) (i : Nat) : Nat → Bool := fun j => if j = i then true else L j
theorem getD_set {listed : Array Bool} {i : Nat} (hi : i < listed.size) : (fun j => (listed.setIfInBounds i true).getD j false) = setL (fun j => listed.getD j false) i := by
  funext j
  unfold setL
  by_cases h : j = i
  · subst h; simp [hi]
  · rw [if_neg h]
    by_cases hj : j < listed.size
    · simp [hj, Ne.symm h]
    · simp [hj]
def unlisted (listed : Array Bool) : Nat := (listed.toList.filter (! ·)).length
theorem filter_set (l : List Bool) : ∀ (i : Nat), l[i]? = some false → ((l.set i true).filter (! ·)).length + 1 = (l.filter (! ·)).length := by
  induction l with
  | nil => intro i h; simp at h
  | cons b l ih =>
    intro i h
    cases i with
    | zero => simp at h; subst h; simp
    | succ i =>
      simp at h
      have := ih i h
      cases b <;> simp_all
theorem unlisted_set {listed : Array Bool} {i : Nat} (h : listed.getD i true = false) : unlisted (listed.setIfInBounds i true) + 1 = unlisted listed := by
  unfold unlisted
  have hi : listed.toList[i]? = some false := by
    by_cases hlt : i < listed.size
    · simp [hlt] at h ⊢; exact h
    · simp [hlt] at h
  rw [Array.toList_setIfInBounds]
  exact filter_set _ i hi
theorem unlisted_zero {listed : Array Bool} (h : unlisted listed = 0) (i : Nat) (hi : i < listed.size) : listed.getD i true = true := by
  unfold unlisted at h
  have h1 := List.eq_nil_of_length_eq_zero h
  rw [List.filter_eq_nil_iff] at h1
  have h2 := h1 listed[i] (by simp)
  simpa [hi] using h2
theorem unlisted_replicate (n : Nat) : unlisted (Array.replicate n false) = n := by
  unfold unlisted
  rw [Array.toList_replicate]
  induction n with
  | zero => rfl
  | succ n ih => simp [List.replicate_succ]
section
variable {P : Program} {ops : Array Oper} {Q : Exit → Act → World → Prop} {md : Region.Mode}
theorem wpAny_inv (hu : upward md ops = true) (I : (Nat → Bool) → Act → World → Prop)
    (hstep : ∀ (L : Nat → Bool) (a : Act) (w : World) (i : Nat) (o : Oper), I L a w → ops[i]? = some o → L i = false → (∀ e ∈ o.after, Region.binds md e = true → L e.on = true) → wpOp P ops Q i (I (setL L i)) a w)
    (hdone : ∀ (L : Nat → Bool) (a : Act) (w : World), I L a w → (∀ i, i < ops.size → L i = true) → Q .normal a w) :
    ∀ (fuel : Nat) (listed : Array Bool) (a : Act) (w : World), listed.size = ops.size → unlisted listed = fuel → I (fun i => listed.getD i false) a w → wpAny P md ops Q fuel listed a w
  | 0, listed, a, w, hs, hf, hI => by
    have hr : Region.ready md ops listed = [] := by
      rw [List.eq_nil_iff_forall_not_mem]
      intro i hi
      obtain ⟨h1, h2, _⟩ := mem_ready' hi
      rw [unlisted_zero hf i (by omega)] at h2
      cases h2
    exact ⟨hr, hdone _ _ _ hI (ready_nil hu hs hr)⟩
  | fuel + 1, listed, a, w, hs, hf, hI => by
    refine ⟨fun hr => hdone _ _ _ hI (ready_nil hu hs hr), fun i hi => ?_⟩
    obtain ⟨h1, h2, o, ho, h3⟩ := mem_ready' hi
    have hlt : i < listed.size := by omega
    have h2' : listed.getD i false = false := by simp [hlt] at h2 ⊢; exact h2
    refine wpOp_mono (fun a' w' hI' => ?_) (hstep _ a w i o hI ho h2' h3)
    refine wpAny_inv hu I hstep hdone fuel _ a' w' (by simp [hs]) (by have := unlisted_set h2; omega) ?_
    rw [getD_set hlt]
    exact hI'
theorem wp_region_inv {id : Nat} {a : Act} {w : World} (hm : P.follows .mixedOrders = true) (hu : upward .any ops = true) (I : (Nat → Bool) → Act → World → Prop)
    (h0 : I (fun _ => false) a w.drew)
    (hstep : ∀ (L : Nat → Bool) (a : Act) (w : World) (i : Nat) (o : Oper), I L a w → ops[i]? = some o → L i = false → (∀ e ∈ o.after, Region.binds .any e = true → L e.on = true) → wpOp P ops Q i (I (setL L i)) a w)
    (hdone : ∀ (L : Nat → Bool) (a : Act) (w : World), I L a w → (∀ i, i < ops.size → L i = true) → Q .normal a w) : (Code.region id ops true).wp P Q a w := by
  refine wp_region_any hm (wpAny_inv hu I hstep hdone _ _ _ _ (by simp) (unlisted_replicate _) ?_)
  have : (fun i => (Array.replicate ops.size false).getD i false) = fun _ => false := by
    funext i
    by_cases h : i < ops.size <;> simp [h]
  rw [this]
  exact h0
theorem wpOp_of {i : Nat} {o : Oper} {K : Act → World → Prop} {a : Act} {w : World} (ho : ops[i]? = some o) (hg : o.guard = none) (h : o.wp P a w K Q) : wpOp P ops Q i K a w := by
  unfold wpOp
  rw [ho]
  have hw : Region.wanted o (yielded ops a.tmps) = true := by simp [Region.wanted, hg]
  simp only [hw, if_true]
  exact .inl h
end
structure FrameI (A : Array Value) (D : List Nat) (a : Act) : Prop where
  size : a.tmps.size = A.size
  defers : a.defers = []
  keep : ∀ s, s ∉ D → a.tmps.getD s undef = A.getD s undef
theorem FrameI.refl (A : Array Value) (D : List Nat) : FrameI A D ⟨A, []⟩ := ⟨rfl, rfl, fun _ _ => rfl⟩
theorem put_getD (a : Act) (d : Nat) (v : Value) (s : Nat) (hd : d < a.tmps.size) : (a.put (some d) v).tmps.getD s undef = if s = d then v else a.tmps.getD s undef := by
  unfold Act.put
  by_cases h : s = d
  · subst h; simp [hd]
  · simp only [h, if_false]
    by_cases hs : s < a.tmps.size
    · simp [hs, Ne.symm h]
    · simp [hs]
theorem FrameI.put {A : Array Value} {D : List Nat} {a : Act} (h : FrameI A D a) {d : Nat} (hd : d ∈ D) (v : Value) : FrameI A D (a.put (some d) v) := by
  refine ⟨by simp [Act.put, h.size], h.defers, fun s hs => ?_⟩
  have hne : s ≠ d := fun e => hs (e ▸ hd)
  rw [← h.keep s hs]
  unfold Act.put
  by_cases hlt : s < a.tmps.size
  · simp [hlt, Ne.symm hne]
  · simp [hlt]
def putAll (A : Array Value) : List (Nat × Value) → Array Value
  | [] => A
  | (s, v) :: r => (putAll A r).setIfInBounds s v
theorem putAll_size (A : Array Value) (r : List (Nat × Value)) : (putAll A r).size = A.size := by
  induction r with
  | nil => rfl
  | cons x r ih => simp [putAll, ih]
theorem putAll_get (A : Array Value) : ∀ (r : List (Nat × Value)) (s : Nat), (∀ x ∈ r, x.1 < A.size) → (putAll A r).getD s undef = ((r.find? (·.1 == s)).map (·.2)).getD (A.getD s undef)
  | [], s, _ => by simp [putAll]
  | (t, v) :: r, s, h => by
    have ht : t < A.size := h (t, v) (by simp)
    have ih := putAll_get A r s (fun x hx => h x (by simp [hx]))
    simp only [putAll, List.find?_cons]
    by_cases e : t = s
    · subst e; simp [putAll_size, ht]
    · have e' : (t == s) = false := by simpa using e
      rw [e', ← ih]
      by_cases hs : s < (putAll A r).size
      · simp [hs, e]
      · simp [hs]
theorem FrameI.eq {A : Array Value} {D : List Nat} {a : Act} (h : FrameI A D a) (r : List (Nat × Value)) (hr : ∀ x ∈ r, x.1 < A.size ∧ a.tmps.getD x.1 undef = x.2) (hD : ∀ s ∈ D, (r.find? (·.1 == s)).isSome = true) : a = ⟨putAll A r, []⟩ := by
  obtain ⟨tm, df⟩ := a
  have hd := h.defers
  have hs := h.size
  dsimp only at hd hs hr
  subst hd
  congr 1
  have hget : ∀ s, tm.getD s undef = (putAll A r).getD s undef := by
    intro s
    rw [putAll_get A r s (fun x hx => (hr x hx).1)]
    cases hf : r.find? (·.1 == s) with
    | none =>
      have : s ∉ D := fun hs' => by have := hD s hs'; rw [hf] at this; cases this
      exact h.keep s this
    | some x =>
      have h1 := List.mem_of_find?_eq_some hf
      have h2 := List.find?_some hf
      have h3 : x.1 = s := by simpa using h2
      rw [← h3]
      exact (hr x h1).2
  apply Array.ext
  · rw [hs, putAll_size]
  · intro i h1 h2
    have := hget i
    simpa [h1, h2] using this
end Go.Proofs.YtlmefcepdadfjaaGreat
/- Laws at one operation of a region that draws its order. No program is named here. -/
namespace Go.Proofs.YtlmefcepdadfjaaGreat
open Go.RowKit

section
variable {P : Program} {o : Oper} {a : Act} {w : World} {K : Act → World → Prop} {Q : Exit → Act → World → Prop}
theorem wp_call (f : Nat) (args : Array Operand) (tys : Array TypeId) (ho : o.op = Op.call { callee := Callee.value (Operand.func f), args := args, argTypes := tys }) (fn : Func) (hf : P.funcs[f]? = some fn) (hn : (fn.name == "runtime.NumGoroutine") = false) (hbo : fn.body.isNone = false) (vs : Array Value) (hv : args.map a.eval = vs)
    (h : Calls P f vs w fun e w' => ∃ u, e = .returned u ∧ K (a.put o.dst u) w') : o.wp P a w K Q := by
  unfold Oper.wp execOp
  subst hv
  simp only [ho, resolve, invoke, Sem.run_bind, Act.eval, Oper.upon]
  simp only [Deferred.ofValue, callFunc, Sem.run_bind, Sem.run_pure, Result.andThen_ok, Array.append_empty, Array.empty_append, run_program, hf, hn, hbo, Bool.false_eq_true, if_false]
  refine Calls.mono h fun e w' he => ?_
  obtain ⟨u, rfl, hk⟩ := he
  exact hk
theorem wp_move (x : Operand) (ho : o.op = .move x) (h : K (a.put o.dst (a.eval x)) w) : o.wp P a w K Q := by
  unfold Oper.wp execOp
  simp only [ho, Sem.run_pure, Oper.upon]
  exact h
theorem wp_alloc_blk (ty : TypeId) (ho : o.op = .alloc ty) (z : Value) (hz : (P.info? ty).map (·.zero) = some (some z))
    (h : ∀ w', Blk w' w.heap.size ty z.cells.toList → Below w.heap.size w w' → w.heap.size < w'.heap.size → K (a.put o.dst (.pointer (some ⟨w.heap.size, 0, none⟩))) w') : o.wp P a w K Q := by
  obtain ⟨i, hi, hzz⟩ := Option.map_eq_some_iff.1 hz
  unfold Oper.wp execOp
  simp [ho, Instr.alloc, zeroValue, typeInfo, hi, hzz, newVar, newRow]
  exact h _ (Blk.new w z.cells ty) ((Below.refl _ _).alloc (Nat.le_refl _) _) (by simp)
theorem wp_load_agg (ty : TypeId) (x : Operand) (ho : o.op = .load ty x)
    (g off e : Nat) (hx : a.eval x = .pointer (some ⟨g, off, none⟩)) (cs : List Value) (n : Nat) (d : TypeDesc) (hb : Blk w g e cs)
    (hu : P.underlying ty = some d) (hd : (match d with | .struct _ | .array _ _ => true | _ => false) = true) (hi : (P.info? ty).map (·.size) = some n) (hn : off + n ≤ cs.length)
    (h : K (a.put o.dst (.agg ((cs.drop off).take n).toArray)) w) : o.wp P a w K Q := by
  unfold Oper.wp execOp
  simp only [ho, hx, Instr.loadAt, Instr.sureAddr, Sem.run_bind, Sem.run_pure, Result.andThen_ok, run_loadVar_blk w g off e ty cs n d hb hu hd hi hn]
  exact h
theorem wp_load_tab (ty : TypeId) (x : Operand) (ho : o.op = .load ty x)
    (g e : Nat) (hx : a.eval x = .pointer (some ⟨g, 0, none⟩)) (n : Nat) (f : Nat → Value) (d : TypeDesc) (hb : Blk w g e (tab n f))
    (hu : P.underlying ty = some d) (hd : (match d with | .struct _ | .array _ _ => true | _ => false) = true) (hi : (P.info? ty).map (·.size) = some n)
    (h : K (a.put o.dst (.agg (tab n f).toArray)) w) : o.wp P a w K Q := by
  refine wp_load_agg ty x ho g 0 e hx (tab n f) n d hb hu hd hi (by rw [tab_length]; omega) ?_
  rw [List.drop_zero, List.take_of_length_le (by rw [tab_length]; omega)]
  exact h
theorem wp_store_agg (ty : TypeId) (x y : Operand) (ho : o.op = .store ty x y)
    (g off e : Nat) (cells : Array Value) (hx : a.eval x = .pointer (some ⟨g, off, none⟩)) (hy : a.eval y = .agg cells)
    (cs : List Value) (hb : Blk w g e cs) (hi : (P.info? ty).map (·.size) = some cells.size) (hn : off + cells.size ≤ cs.length) (h1 : ∀ v ∈ cells.toList, v.oneCell' = true)
    (h : ∀ w', Blk w' g e (cs.take off ++ cells.toList ++ cs.drop (off + cells.size)) → Only g w w' → K (a.put o.dst undef) w') : o.wp P a w K Q := by
  obtain ⟨w', hr, hb', hoo⟩ := run_storeVar_blk (P := P) w g off e ty cs cells hb hi hn h1
  unfold Oper.wp execOp
  simp only [ho, hx, hy, Instr.storeAt, Instr.sureAddr, Sem.run_bind, Sem.run_pure, Result.andThen_ok, hr]
  exact h w' hb' hoo
theorem wp_store_tab (ty : TypeId) (x y : Operand) (ho : o.op = .store ty x y)
    (g e n : Nat) (f f0 : Nat → Value) (hx : a.eval x = .pointer (some ⟨g, 0, none⟩)) (hy : a.eval y = .agg (tab n f).toArray)
    (hb : Blk w g e (tab n f0)) (hi : (P.info? ty).map (·.size) = some n) (h1 : ∀ j, (f j).oneCell' = true)
    (h : ∀ w', Blk w' g e (tab n f) → Only g w w' → K (a.put o.dst undef) w') : o.wp P a w K Q := by
  have hs : (tab n f).toArray.size = n := by rw [List.size_toArray, tab_length]
  refine wp_store_agg ty x y ho g 0 e _ hx hy (tab n f0) hb (by rw [hs]; exact hi) (by rw [hs, tab_length]; omega) (oneCell_tab h1) fun w' hb' ho' => h w' (hb'.congr ?_) ho'
  rw [hs, List.take_zero, List.nil_append, Nat.zero_add, List.drop_of_length_le (by rw [tab_length]; omega), List.append_nil]
end
end Go.Proofs.YtlmefcepdadfjaaGreat
/- Slots and variables of a drawn region, in its midst. No program is named here. -/
namespace Go.Proofs.YtlmefcepdadfjaaGreat
open Go.RowKit

theorem wp_region_inv2 {P : Program} {ops : Array Oper} {Q : Exit → Act → World → Prop} {id : Nat} {a : Act} {w : World} (hm : P.follows .mixedOrders = true) (hu : upward .any ops = true) (I : Array Value → (Nat → Bool) → Act → World → Prop)
    (h0 : I a.tmps (fun _ => false) a w.drew)
    (hstep : ∀ (L : Nat → Bool) (a' : Act) (w : World) (i : Nat) (o : Oper), I a.tmps L a' w → ops[i]? = some o → L i = false → (∀ e ∈ o.after, Region.binds .any e = true → L e.on = true) → wpOp P ops Q i (I a.tmps (setL L i)) a' w)
    (hdone : ∀ (L : Nat → Bool) (a' : Act) (w : World), I a.tmps L a' w → (∀ i, i < ops.size → L i = true) → Q .normal a' w) : (Code.region id ops true).wp P Q a w :=
  wp_region_inv hm hu (I a.tmps) h0 hstep hdone
theorem imp_set {L : Nat → Bool} {i j : Nat} {p q : Prop} (h : L j = true → p) (hne : j ≠ i) (hpq : p → q) : setL L i j = true → q := by
  unfold setL; rw [if_neg hne]; exact fun hl => hpq (h hl)
theorem setL_ne {L : Nat → Bool} {i j : Nat} (hne : j ≠ i) : setL L i j = L j := by unfold setL; rw [if_neg hne]
theorem setL_eq {L : Nat → Bool} {i : Nat} : setL L i i = true := by unfold setL; rw [if_pos rfl]
theorem absF {p : Prop} (h : false = true) : p := by cases h
theorem slot_same {a : Act} {d : Nat} {u : Value} (hd : d < a.tmps.size) : (a.put (some d) u).tmps.getD d undef = u := by rw [put_getD a d u d hd, if_pos rfl]
theorem slot_other {a : Act} {d s : Nat} {u v : Value} (h : a.tmps.getD s undef = v) (hne : s ≠ d) : (a.put (some d) u).tmps.getD s undef = v := by
  rw [← h]
  unfold Act.put
  by_cases hs : s < a.tmps.size
  · simp [hs, Ne.symm hne]
  · simp [hs]
def Cell3 (made filled : Bool) (v : Value) (B g : Nat) (w : World) (T : TypeId) (n : Nat) (fin zero : Nat → Value) : Prop :=
  (filled = true → made = true) ∧ (made = true → v = .pointer (some ⟨g, 0, none⟩) ∧ B ≤ g ∧ (filled = true → Blk w g T (tab n fin)) ∧ (filled = false → Blk w g T (tab n zero)))
section
variable {made filled : Bool} {v : Value} {B g : Nat} {w w' : World} {T : TypeId} {n : Nat} {fin zero : Nat → Value}
theorem Cell3.start (v : Value) (B g : Nat) (w : World) (T : TypeId) (n : Nat) (fin zero : Nat → Value) : Cell3 false false v B g w T n fin zero := ⟨fun h => h, fun h => by cases h⟩
theorem Cell3.lt (h : Cell3 made filled v B g w T n fin zero) (hm : made = true) : g < w.heap.size := by
  obtain ⟨_, _, h1, h2⟩ := h.2 hm
  cases filled
  · exact (h2 rfl).lt
  · exact (h1 rfl).lt
theorem Cell3.kept (h : Cell3 made filled v B g w T n fin zero) (hb : Below w.heap.size w w') : Cell3 made filled v B g w' T n fin zero :=
  ⟨h.1, fun hm => ⟨(h.2 hm).1, (h.2 hm).2.1, fun hf => ((h.2 hm).2.2.1 hf).kept hb, fun hf => ((h.2 hm).2.2.2 hf).kept hb⟩⟩
theorem Cell3.only {g' : Nat} (h : Cell3 made filled v B g w T n fin zero) (ho : Only g' w w') (hne : made = true → g ≠ g') : Cell3 made filled v B g w' T n fin zero :=
  ⟨h.1, fun hm => ⟨(h.2 hm).1, (h.2 hm).2.1, fun hf => ho.other ((h.2 hm).2.2.1 hf) (hne hm), fun hf => ho.other ((h.2 hm).2.2.2 hf) (hne hm)⟩⟩
theorem Cell3.slot {v' : Value} (h : Cell3 made filled v B g w T n fin zero) (hv : v' = v) : Cell3 made filled v' B g w T n fin zero := hv ▸ h
theorem Cell3.new (hf : filled = false) (hv : v = .pointer (some ⟨g, 0, none⟩)) (hB : B ≤ g) (hb : Blk w g T (tab n zero)) : Cell3 true filled v B g w T n fin zero :=
  ⟨fun _ => rfl, fun _ => ⟨hv, hB, (fun h => by rw [hf] at h; cases h), fun _ => hb⟩⟩
theorem Cell3.fill (h : Cell3 made filled v B g w T n fin zero) (hm : made = true) (hb : Blk w' g T (tab n fin)) : Cell3 made true v B g w' T n fin zero :=
  ⟨fun _ => hm, fun _ => ⟨(h.2 hm).1, (h.2 hm).2.1, fun _ => hb, fun h => by cases h⟩⟩
theorem Cell3.empty (h : Cell3 made filled v B g w T n fin zero) (hm : made = false) : filled = false := by
  cases hf : filled with
  | false => rfl
  | true => have := h.1 hf; rw [hm] at this; cases this
end
end Go.Proofs.YtlmefcepdadfjaaGreat
/- append at one operation of a region that draws its order. No program is named here. -/
namespace Go.Proofs.YtlmefcepdadfjaaGreat
open Go.RowKit

section
variable {P : Program} {o : Oper} {a : Act} {w : World} {K : Act → World → Prop} {Q : Exit → Act → World → Prop}
theorem wp_append_blk (s x : Operand) (t : TypeId) (ho : o.op = .call { callee := .builtin .append, args := #[s, x], argTypes := #[t, t] })
    (base e : Nat) (z : Value) (size bytes : Nat) (ht : P.underlying t = some (.slice e)) (hinf : (P.info? e).map (fun i => (i.zero, i.size, i.bytes)) = some (some z, size, bytes)) (hz : z.cells.size = size) (hs0 : 0 < size)
    (v : Value) (n : Nat) (xs : List Value) (hs : a.eval s = v) (hown : w.ownsRow base e size v n xs) (g2 m c : Nat) (news : List Value) (hx : a.eval x = .slice (some ⟨g2, 0, none⟩) m c) (hl : news.length = m * size) (hb : Blk w g2 e news) (h1 : ∀ u ∈ news, u.oneCell' = true)
    (h63 : n + m ≤ maxLen) (hbytes : (n + m) * bytes ≤ 140737488355328) (hbase : base ≤ w.heap.size)
    (h : ∀ v' w', w'.ownsRow base e size v' (n + m) (xs ++ news) → Below base w w' → w.grownBy w' v.ownBlock → K (a.put o.dst v') w') : o.wp P a w K Q := by
  obtain ⟨i, hi, hz0, hz1, hz2⟩ := info_parts hinf
  have hrow : ∀ k, v.ownBlock = some k → base ≤ k := fun k hk => (hown.lt k hk).1
  obtain ⟨v', w', hrun, h2, h3, _, _⟩ := run_append_own_at (P := P) w base t o.type e i z size bytes ht hi hz0 hz1 hz2 hz hs0 v n xs hown ⟨g2, 0, none⟩ m c news hl
    (fun j u hj => by rw [Addr.add_lit, Nat.zero_add, hb.cell]; exact hj) h1 h63 hbytes hbase
  unfold Oper.wp execOp
  simp only [ho, resolve, invoke, builtin, Sem.run_bind, Sem.run_pure, Result.andThen_ok, List.map_toArray, List.map_cons, List.map_nil, hs, hx, hrun]
  exact h v' w' h2 ((Below.refl base w).grown h3 hbase hrow) h3
theorem step_append_blk {ops : Array Oper} {E : Prop} (hgd : o.guard = none) (s x : Operand) (t : TypeId) (ho : o.op = .call { callee := .builtin .append, args := #[s, x], argTypes := #[t, t] })
    (base e : Nat) (z : Value) (size bytes : Nat) (ht : P.underlying t = some (.slice e)) (hinf : (P.info? e).map (fun i => (i.zero, i.size, i.bytes)) = some (some z, size, bytes)) (hz : z.cells.size = size) (hs0 : 0 < size)
    (v : Value) (n : Nat) (xs : List Value) (hs : a.eval s = v) (hown : w.ownsRow base e size v n xs) (g2 m c : Nat) (news : List Value) (hx : a.eval x = .slice (some ⟨g2, 0, none⟩) m c) (hl : news.length = m * size) (hb : Blk w g2 e news) (h1 : ∀ u ∈ news, u.oneCell' = true)
    (h63 : n + m ≤ maxLen) (hbytes : (n + m) * bytes ≤ 140737488355328) (hbase : base ≤ w.heap.size)
    (h : ∀ v' w', w'.ownsRow base e size v' (n + m) (xs ++ news) → Below base w w' → w.grownBy w' v.ownBlock → K (a.put o.dst v') w') : if Region.wanted o (yielded ops a.tmps) = true then Oper.wp P o a w K Q else E := by
  have hw : Region.wanted o (yielded ops a.tmps) = true := by simp [Region.wanted, hgd]
  rw [if_pos hw]
  exact wp_append_blk s x t ho base e z size bytes ht hinf hz hs0 v n xs hs hown g2 m c news hx hl hb h1 h63 hbytes hbase h
end
end Go.Proofs.YtlmefcepdadfjaaGreat
/- Laws at one operation of a region that draws its order: a nil check, one cell read, one cell written. No program is named here. -/
namespace Go.Proofs.YtlmefcepdadfjaaGreat
open Go.RowKit

section
variable {P : Program} {o : Oper} {a : Act} {w : World} {K : Act → World → Prop} {Q : Exit → Act → World → Prop}
theorem wp_nilCheck (x : Operand) (ho : o.op = .nilCheck x) (ad : Addr) (hx : a.eval x = .pointer (some ad)) (h : K (a.put o.dst (.pointer (some ad))) w) : o.wp P a w K Q := by
  unfold Oper.wp execOp
  simp only [ho, hx, Sem.run_pure, Oper.upon]
  exact h
theorem wp_fieldAddr (t : TypeId) (x : Operand) (i : Nat) (ho : o.op = .fieldAddr t x i) (ad ad' : Addr) (hx : a.eval x = .pointer (some ad)) (hf : (Instr.fieldAt t (.pointer (some ad)) i).run P w = .ok (.pointer (some ad')) w) (h : K (a.put o.dst (.pointer (some ad'))) w) : o.wp P a w K Q := by
  unfold Oper.wp execOp
  simp only [ho, hx, hf, Sem.run_pure, Oper.upon, Result.andThen_ok, Sem.run_bind]
  exact h
theorem run_loadVar_cell {P : Program} (w : World) (ad : Addr) (ty : TypeId) (v : Value) (d : TypeDesc) (hc : w.cell? ad = some v) (hu : P.underlying ty = some d) (hd : (match d with | .struct _ | .array _ _ => true | _ => false) = false) :
    (loadVar ty ad).run P w = .ok v w := by
  have hagg : (isAgg ty).run P w = .ok false w := by
    unfold isAgg
    rw [Sem.run_bind, run_underlying hu w]
    cases d <;> simp_all
  simp [loadVar, Sem.run_bind, hagg, run_load, hc]
theorem wp_load_cell (ty : TypeId) (x : Operand) (ho : o.op = .load ty x) (ad : Addr) (hx : a.eval x = .pointer (some ad)) (v : Value) (d : TypeDesc) (hc : w.cell? ad = some v)
    (hu : P.underlying ty = some d) (hd : (match d with | .struct _ | .array _ _ => true | _ => false) = false)
    (h : K (a.put o.dst v) w) : o.wp P a w K Q := by
  unfold Oper.wp execOp
  simp only [ho, hx, Instr.loadAt, Instr.sureAddr, Sem.run_bind, Sem.run_pure, Result.andThen_ok, run_loadVar_cell w ad ty v d hc hu hd]
  exact h
theorem run_storeVar_cell {P : Program} (w : World) (g o e : Nat) (ty : TypeId) (cs : List Value) (v : Value) (hb : Blk w g e cs) (hi : (P.info? ty).map (·.size) = some 1) (ho : o < cs.length) (h1 : v.oneCell' = true) (hv : v.cells = #[v]) :
    (storeVar ty ⟨g, o, none⟩ v).run P w = .ok () (w.setCell ⟨g, o, none⟩ v) := by
  have hcell : w.cell? ⟨g, o, none⟩ = some cs[o] := by rw [hb.cell]; simp [ho]
  have hst : (store ((⟨g, o, none⟩ : Addr).add 0) v).run P w = .ok () (w.setCell ⟨g, o, none⟩ v) := by
    rw [Addr.add_lit, run_store P w _ v _ h1, Nat.add_zero, hcell]
    simp [hb.free o ho]
  cases hq : P.info? ty with
  | none => simp [hq] at hi
  | some i =>
    have hs : i.size = 1 := by simpa [hq] using hi
    simp [storeVar, sizeOf, typeInfo, hq, hv, hs, storeCells, hst]
theorem wp_store_cell (ty : TypeId) (x y : Operand) (ho : o.op = .store ty x y) (g off e : Nat) (v : Value) (hx : a.eval x = .pointer (some ⟨g, off, none⟩)) (hy : a.eval y = v)
    (cs : List Value) (hb : Blk w g e cs) (hi : (P.info? ty).map (·.size) = some 1) (hn : off < cs.length) (h1 : v.oneCell' = true) (hv : v.cells = #[v])
    (h : K (a.put o.dst undef) (w.setCell ⟨g, off, none⟩ v)) : o.wp P a w K Q := by
  unfold Oper.wp execOp
  simp only [ho, hx, hy, Instr.storeAt, Instr.sureAddr, Sem.run_bind, Sem.run_pure, Result.andThen_ok, run_storeVar_cell w g off e ty cs v hb hi hn h1 hv]
  exact h
theorem wpList_store_cell {ops : Array Oper} {rest : List Oper} {o : Oper} {a : Act} {w : World} {Q : Exit → Act → World → Prop} (hgd : o.guard = none) (ty : TypeId) (x y : Operand) (ho : o.op = .store ty x y) (g off e : Nat) (v : Value) (hx : a.eval x = .pointer (some ⟨g, off, none⟩)) (hy : a.eval y = v)
    (cs : List Value) (hb : Blk w g e cs) (hi : (P.info? ty).map (·.size) = some 1) (hn : off < cs.length) (h1 : v.oneCell' = true) (hv : v.cells = #[v])
    (h : ∀ w', Blk w' g e (cs.set off v) → Only g w w' → wpList P ops Q rest (a.put o.dst undef) w') : wpList P ops Q (o :: rest) a w :=
  wpList_plain hgd fun _ hK => wp_store_cell ty x y ho g off e v hx hy cs hb hi hn h1 hv (hK _ _ (h _ (hb.set off v) (Only.setCell off v)))
end
theorem run_equalIn_func_nil {P : Program} (w : World) (n : Nat) (t : TypeId) (ps rs : Array TypeId) (v : Bool) (fn : Fn) (x y : Array Value) (h : P.underlying t = some (.func ps rs v)) :
    (Op.equalIn (n + 1) t (.func fn x y) .nilFunc).run P w = .ok false w := by
  unfold Op.equalIn
  simp [run_underlying h]
theorem run_eql_func_nil {P : Program} (w : World) (t : TypeId) (ps rs : Array TypeId) (v : Bool) (fn : Fn) (x y : Array Value) (h : P.underlying t = some (.func ps rs v)) :
    (binOp .eql t (.func fn x y) .nilFunc).run P w = .ok (.bool false) w := by
  simp only [binOp]
  simp [Op.equal, Op.maxDepth, run_equalIn_func_nil w 9999 t ps rs v fn x y h]
end Go.Proofs.YtlmefcepdadfjaaGreat
