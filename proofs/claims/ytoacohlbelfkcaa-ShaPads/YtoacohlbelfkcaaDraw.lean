/- A region that draws its order, by what holds behind each of its operations: one proof an operation, none an order. No program is named here. -/
import Derived.Test.YtoacohlbelfkcaaOwnE
import Derived.Orders
import Derived.Deep.RegionHeld3
namespace Go.Proofs.Ytoacohlbelfkcaa
open Go.RowKit

theorem mem_ready' {md : Region.Mode} {ops : Array Oper} {listed : Array Bool} {i : Nat} (h : i ∈ Region.ready md ops listed) :
    i < ops.size ∧ listed.getD i true = false ∧ ∃ o, ops[i]? = some o ∧ ∀ e ∈ o.after, Region.binds md e = true → listed.getD e.on false = true := by
  unfold Region.ready at h
  rw [List.mem_filter, List.mem_range] at h
  obtain ⟨h1, h2⟩ := h
  simp only [Bool.and_eq_true, Bool.not_eq_true'] at h2
  obtain ⟨h2, h3⟩ := h2
  have ho : ops[i]? = some ops[i] := Array.getElem?_eq_getElem h1
  rw [ho] at h3
  simp only [Option.map_some, Option.getD_some, Array.all_eq_true'] at h3
  refine ⟨h1, h2, _, ho, fun e he hb => ?_⟩
  have := h3 e he
  simpa [hb] using this
/-- Each operation waits for earlier ones alone. -/
def upward (md : Region.Mode) (ops : Array Oper) : Bool := (List.range ops.size).all fun i => ((ops[i]?).map (·.after.all fun e => !Region.binds md e || decide (e.on < i))).getD true
theorem ready_nil {md : Region.Mode} {ops : Array Oper} {listed : Array Bool} (hu : upward md ops = true) (hs : listed.size = ops.size) (h : Region.ready md ops listed = []) : ∀ i, i < ops.size → listed.getD i false = true := by
  intro i
  induction i using Nat.strongRecOn with
  | _ i ih =>
    intro hi
    cases hl : listed.getD i false with
    | true => rfl
    | false =>
      exfalso
      have ho : ops[i]? = some ops[i] := Array.getElem?_eq_getElem hi
      have hup := List.all_eq_true.1 hu i (List.mem_range.2 hi)
      rw [ho] at hup
      simp only [Option.map_some, Option.getD_some, Array.all_eq_true'] at hup
      have : i ∈ Region.ready md ops listed := by
        unfold Region.ready
        rw [List.mem_filter, List.mem_range]
        refine ⟨hi, ?_⟩
        rw [ho]
        simp only [Bool.and_eq_true, Bool.not_eq_true', Option.map_some, Option.getD_some, Array.all_eq_true']
        refine ⟨?_, fun e he => ?_⟩
        · have hlt : i < listed.size := by omega
          simp [hlt] at hl ⊢
          exact hl
        · have := hup e he
          simp only [Bool.or_eq_true, Bool.not_eq_true', decide_eq_true_eq] at this ⊢
          rcases this with h1 | h1
          · exact .inl h1
          · exact .inr (ih e.on h1 (by omega))
      rw [h] at this
      cases this
def setL (L : Nat → Bool) (i : Nat) : Nat → Bool := fun j => if j = i then true else L j
theorem getD_set {listed : Array Bool} {i : Nat} (hi : i < listed.size) : (fun j => (listed.setIfInBounds i true).getD j false) = setL (fun j => listed.getD j false) i := by
  funext j
  unfold setL
  by_cases h : j = i
  · subst h; simp [hi]
  · rw [if_neg h]
    by_cases hj : j < listed.size
    · simp [hj, Array.getElem_setIfInBounds, Ne.symm h]
    · simp [hj]
def unlisted (listed : Array Bool) : Nat := (listed.toList.filter (! ·)).length
theorem filter_set (l : List Bool) : ∀ (i : Nat), l[i]? = some false → ((l.set i true).filter (! ·)).length + 1 = (l.filter (! ·)).length := by
  induction l with
  | nil => intro i h; simp at h
  | cons b l ih =>
    intro i h
    cases i with
    | zero => simp at h; subst h; simp
    | succ i =>
      simp at h
      have := ih i h
      cases b <;> simp_all
theorem unlisted_set {listed : Array Bool} {i : Nat} (h : listed.getD i true = false) : unlisted (listed.setIfInBounds i true) + 1 = unlisted listed := by
  unfold unlisted
  have hi : listed.toList[i]? = some false := by
    by_cases hlt : i < listed.size
    · simp [hlt] at h ⊢; exact h
    · simp [hlt] at h
  rw [Array.toList_setIfInBounds]
  exact filter_set _ i hi
theorem unlisted_zero {listed : Array Bool} (h : unlisted listed = 0) (i : Nat) (hi : i < listed.size) : listed.getD i true = true := by
  unfold unlisted at h
  have h1 := List.eq_nil_of_length_eq_zero h
  rw [List.filter_eq_nil_iff] at h1
  have h2 := h1 listed[i] (by simp)
  simpa [hi] using h2
theorem unlisted_replicate (n : Nat) : unlisted (Array.replicate n false) = n := by
  unfold unlisted
  rw [Array.toList_replicate]
  induction n with
  | zero => rfl
  | succ n ih => simp [List.replicate_succ, ih]
section
variable {P : Program} {ops : Array Oper} {Q : Exit → Act → World → Prop} {md : Region.Mode}
theorem wpAny_inv (hu : upward md ops = true) (I : (Nat → Bool) → Act → World → Prop)
    (hstep : ∀ (L : Nat → Bool) (a : Act) (w : World) (i : Nat) (o : Oper), I L a w → ops[i]? = some o → L i = false → (∀ e ∈ o.after, Region.binds md e = true → L e.on = true) → wpOp P ops Q i (I (setL L i)) a w)
    (hdone : ∀ (L : Nat → Bool) (a : Act) (w : World), I L a w → (∀ i, i < ops.size → L i = true) → Q .normal a w) :
    ∀ (fuel : Nat) (listed : Array Bool) (a : Act) (w : World), listed.size = ops.size → unlisted listed = fuel → I (fun i => listed.getD i false) a w → wpAny P md ops Q fuel listed a w
  | 0, listed, a, w, hs, hf, hI => by
    have hr : Region.ready md ops listed = [] := by
      rw [List.eq_nil_iff_forall_not_mem]
      intro i hi
      obtain ⟨h1, h2, _⟩ := mem_ready' hi
      rw [unlisted_zero hf i (by omega)] at h2
      cases h2
    exact ⟨hr, hdone _ _ _ hI (ready_nil hu hs hr)⟩
  | fuel + 1, listed, a, w, hs, hf, hI => by
    refine ⟨fun hr => hdone _ _ _ hI (ready_nil hu hs hr), fun i hi => ?_⟩
    obtain ⟨h1, h2, o, ho, h3⟩ := mem_ready' hi
    have hlt : i < listed.size := by omega
    have h2' : listed.getD i false = false := by simp [hlt] at h2 ⊢; exact h2
    refine wpOp_mono (fun a' w' hI' => ?_) (hstep _ a w i o hI ho h2' h3)
    refine wpAny_inv hu I hstep hdone fuel _ a' w' (by simp [hs]) (by have := unlisted_set h2; omega) ?_
    rw [getD_set hlt]
    exact hI'
theorem wp_region_inv {id : Nat} {a : Act} {w : World} (hm : P.follows .mixedOrders = true) (hu : upward .any ops = true) (I : (Nat → Bool) → Act → World → Prop)
    (h0 : I (fun _ => false) a w.drew)
    (hstep : ∀ (L : Nat → Bool) (a : Act) (w : World) (i : Nat) (o : Oper), I L a w → ops[i]? = some o → L i = false → (∀ e ∈ o.after, Region.binds .any e = true → L e.on = true) → wpOp P ops Q i (I (setL L i)) a w)
    (hdone : ∀ (L : Nat → Bool) (a : Act) (w : World), I L a w → (∀ i, i < ops.size → L i = true) → Q .normal a w) : (Code.region id ops true).wp P Q a w := by
  refine wp_region_any hm (wpAny_inv hu I hstep hdone _ _ _ _ (by simp) (unlisted_replicate _) ?_)
  have : (fun i => (Array.replicate ops.size false).getD i false) = fun _ => false := by
    funext i
    by_cases h : i < ops.size <;> simp [h]
  rw [this]
  exact h0
theorem wpOp_of {i : Nat} {o : Oper} {K : Act → World → Prop} {a : Act} {w : World} (ho : ops[i]? = some o) (hg : o.guard = none) (h : o.wp P a w K Q) : wpOp P ops Q i K a w := by
  unfold wpOp
  rw [ho]
  have hw : Region.wanted o (yielded ops a.tmps) = true := by simp [Region.wanted, hg]
  simp only [hw, if_true]
  exact .inl h
end
/-- The frame is A but for the slots D. -/
structure FrameI (A : Array Value) (D : List Nat) (a : Act) : Prop where
  size : a.tmps.size = A.size
  defers : a.defers = []
  keep : ∀ s, s ∉ D → a.tmps.getD s undef = A.getD s undef
theorem FrameI.refl (A : Array Value) (D : List Nat) : FrameI A D ⟨A, []⟩ := ⟨rfl, rfl, fun _ _ => rfl⟩
theorem put_getD (a : Act) (d : Nat) (v : Value) (s : Nat) (hd : d < a.tmps.size) : (a.put (some d) v).tmps.getD s undef = if s = d then v else a.tmps.getD s undef := by
  unfold Act.put
  by_cases h : s = d
  · subst h; simp [hd]
  · simp only [h, if_false]
    by_cases hs : s < a.tmps.size
    · simp [hs, Array.getElem_setIfInBounds, Ne.symm h]
    · simp [hs]
theorem FrameI.put {A : Array Value} {D : List Nat} {a : Act} (h : FrameI A D a) {d : Nat} (hd : d ∈ D) (v : Value) : FrameI A D (a.put (some d) v) := by
  refine ⟨by simp [Act.put, h.size], h.defers, fun s hs => ?_⟩
  have hne : s ≠ d := fun e => hs (e ▸ hd)
  rw [← h.keep s hs]
  unfold Act.put
  by_cases hlt : s < a.tmps.size
  · simp [hlt, Array.getElem_setIfInBounds, Ne.symm hne]
  · simp [hlt]
/-- The frame, written out. -/
def putAll (A : Array Value) : List (Nat × Value) → Array Value
  | [] => A
  | (s, v) :: r => (putAll A r).setIfInBounds s v
theorem putAll_size (A : Array Value) (r : List (Nat × Value)) : (putAll A r).size = A.size := by
  induction r with
  | nil => rfl
  | cons x r ih => simp [putAll, ih]
theorem putAll_get (A : Array Value) : ∀ (r : List (Nat × Value)) (s : Nat), (∀ x ∈ r, x.1 < A.size) → (putAll A r).getD s undef = ((r.find? (·.1 == s)).map (·.2)).getD (A.getD s undef)
  | [], s, _ => by simp [putAll]
  | (t, v) :: r, s, h => by
    have ht : t < A.size := h (t, v) (by simp)
    have ih := putAll_get A r s (fun x hx => h x (by simp [hx]))
    simp only [putAll, List.find?_cons]
    by_cases e : t = s
    · subst e; simp [putAll_size, ht]
    · have e' : (t == s) = false := by simpa using e
      rw [e', ← ih]
      by_cases hs : s < (putAll A r).size
      · simp [hs, Array.getElem_setIfInBounds, e]
      · simp [hs]
theorem FrameI.eq {A : Array Value} {D : List Nat} {a : Act} (h : FrameI A D a) (r : List (Nat × Value)) (hr : ∀ x ∈ r, x.1 < A.size ∧ a.tmps.getD x.1 undef = x.2) (hD : ∀ s ∈ D, (r.find? (·.1 == s)).isSome = true) : a = ⟨putAll A r, []⟩ := by
  obtain ⟨tm, df⟩ := a
  have hd := h.defers
  have hs := h.size
  dsimp only at hd hs hr
  subst hd
  congr 1
  have hget : ∀ s, tm.getD s undef = (putAll A r).getD s undef := by
    intro s
    rw [putAll_get A r s (fun x hx => (hr x hx).1)]
    cases hf : r.find? (·.1 == s) with
    | none =>
      have : s ∉ D := fun hs' => by have := hD s hs'; rw [hf] at this; cases this
      exact h.keep s this
    | some x =>
      have h1 := List.mem_of_find?_eq_some hf
      have h2 := List.find?_some hf
      have h3 : x.1 = s := by simpa using h2
      rw [← h3]
      exact (hr x h1).2
  apply Array.ext
  · rw [hs, putAll_size]
  · intro i h1 h2
    have := hget i
    simpa [h1, h2] using this
end Go.Proofs.Ytoacohlbelfkcaa
