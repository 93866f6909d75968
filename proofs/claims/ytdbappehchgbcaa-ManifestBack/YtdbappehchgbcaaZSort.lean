/- slices.SortFunc over a call's own row, met in the symbolic walk. No program is named here. -/
import Derived.Test.YtdbappehchgbcaaZFlat
import Derived.Test.YtdbappehchgbcaaZMono
import Derived.Shelf.SlSortCmp.NoneTotal
namespace Go.Proofs.Ytdbappehchgbcaa
open Go.RowKit Go.Sort Go.Shelf

/-- A comparison of which nothing is left open. -/
structure CmpOk {α : Type} (cf : α → α → Int) : Prop where
  swo : SWO (ltOf cf)
  tot : ∀ x y, ltOf cf x y = false → ltOf cf y x = false → x = y
theorem CmpOk.of {α : Type} {cf : α → α → Int} (lt : α → α → Prop) (h : ∀ x y, cf x y < 0 ↔ lt x y) (irr : ∀ x, ¬ lt x x) (tr : ∀ x y z, lt x y → lt y z → lt x z) (tri : ∀ x y, ¬ lt x y → ¬ lt y x → x = y) : CmpOk cf := by
  have e : ∀ x y, ltOf cf x y = true ↔ lt x y := fun x y => by unfold ltOf; rw [decide_eq_true_iff, h]
  have f : ∀ x y, ltOf cf x y = false ↔ ¬ lt x y := fun x y => by unfold ltOf; rw [decide_eq_false_iff_not, h]
  refine ⟨⟨fun x => (f x x).2 (irr x), fun x y z h1 h2 => (e x z).2 (tr x y z ((e x y).1 h1) ((e y z).1 h2)), fun x y z h1 h2 => (f x z).2 fun h3 => ?_⟩, fun x y h1 h2 => tri x y ((f x y).1 h1) ((f y x).1 h2)⟩
  have n1 := (f x y).1 h1
  have n2 := (f y z).1 h2
  by_cases h4 : lt y x
  · exact n2 (tr y x z h4 h3)
  · have := tri x y n1 h4
    subst this
    exact n2 h3
/-- In order. -/
def sorted {α : Type} (cf : α → α → Int) (l : List α) : List α := l.mergeSort fun x y => !ltOf cf y x
theorem sorted_nil {α : Type} (cf : α → α → Int) : sorted cf ([] : List α) = [] := by unfold sorted; simp
theorem sorted_perm {α : Type} (cf : α → α → Int) (l : List α) : (sorted cf l).Perm l := List.mergeSort_perm ..
theorem sorted_len {α : Type} (cf : α → α → Int) (l : List α) : (sorted cf l).length = l.length := (sorted_perm cf l).length_eq
theorem sorted_pair {α : Type} {cf : α → α → Int} (h : CmpOk cf) (l : List α) : (sorted cf l).Pairwise fun x y => ltOf cf y x = false := by
  have := List.pairwise_mergeSort (le := fun x y => !ltOf cf y x) (fun a b c h1 h2 => ?_) (fun a b => ?_) l
  · exact this.imp fun h => by simpa using h
  · simp only [Bool.not_eq_true'] at h1 h2 ⊢
    exact h.swo.ntrans c b a h2 h1
  · simp only [Bool.or_eq_true, Bool.not_eq_true']
    cases h1 : ltOf cf b a with
    | false => exact .inl rfl
    | true =>
      right
      cases h2 : ltOf cf a b with
      | false => rfl
      | true => have := h.swo.trans a b a h2 h1; rw [h.swo.irrefl] at this; cases this
theorem putRow_grown {w : World} {blk : Nat} {F : Array Value} (m : Nat) (os : Array Obj) : w.grownBy (grow (putRow id (Sort.ahead w m) blk 0 F) os) (some blk) := by
  refine ⟨rfl, rfl, rfl, ?_, fun k hk hne => ?_⟩
  · simp [grow, putRow, mapBlock, Sort.ahead]
  · show ((w.heap.modify blk _) ++ os)[k]? = w.heap[k]?
    rw [Array.getElem?_append_left (by simpa using hk), Array.getElem?_modify, if_neg (fun e => hne (by rw [e]))]
theorem drew_of_below {w w' : World} (h : Below w.heap.size w w') (hd : w.drawn ≤ w'.drawn) : ∃ q os, w' = grow (w.drewN q) os := by
  refine ⟨w'.drawn - w.drawn, w'.heap.extract w.heap.size w'.heap.size, ?_⟩
  obtain ⟨heap, tape, drawn, os, output⟩ := w
  obtain ⟨heap', tape', drawn', os', output'⟩ := w'
  obtain ⟨h1, h2, h3, h4, h5⟩ := h
  dsimp only at h1 h2 h3 h4 h5 hd
  subst h1 h2 h3
  show World.mk _ _ _ _ _ = World.mk _ _ _ _ _
  congr 1
  · show heap' = heap ++ heap'.extract heap.size heap'.size
    apply Array.ext_getElem?
    intro i
    by_cases hi : i < heap.size
    · rw [Array.getElem?_append_left hi]; exact h5 i hi
    · rw [Array.getElem?_append_right (by omega), Array.getElem?_extract]
      by_cases hj : i < heap'.size
      · rw [if_pos (by omega), show heap.size + (i - heap.size) = i by omega]
      · rw [if_neg (by omega), Array.getElem?_eq_none (by omega)]
  · show drawn' = drawn + (drawn' - drawn)
    omega
section
variable {α : Type} [Inhabited α]
theorem flatK_get (E : Enc α) (d : Array α) (j : Nat) (h : j < d.size * E.k) : (flatK E.enc E.k d)[j]? = (E.fl d.toList)[j]? := by
  have h0 := E.k0
  have hi : j / E.k < d.size := (Nat.div_lt_iff_lt_mul h0).2 h
  have hm : j % E.k < E.k := Nat.mod_lt _ h0
  have e1 : (flatK E.enc E.k d)[j]? = some (flatK E.enc E.k d)[j]! := by
    rw [getElem!_pos _ j (by rw [size_flatK]; exact h), Array.getElem?_eq_getElem (by rw [size_flatK]; exact h)]
  rw [e1, get_flatK _ _ _ _ h]
  have hx : d.toList[j / E.k]? = some d[j / E.k]! := by
    rw [Array.getElem?_toList, getElem!_pos d (j / E.k) hi, Array.getElem?_eq_getElem hi]
  have hv : (E.enc d[j / E.k]!)[j % E.k]? = some (E.enc d[j / E.k]!)[j % E.k]! := by
    have hm2 : j % E.k < (E.enc d[j / E.k]!).length := by rw [E.len]; exact hm
    rw [getElem!_pos (E.enc d[j / E.k]!) (j % E.k) hm2, List.getElem?_eq_getElem hm2]
  have := E.fl_cell hx hv
  rw [Nat.div_add_mod'] at this
  exact this.symm
theorem putRow_own (E : Enc α) {w : World} {e g n cap : Nat} {cs : List Value} (hr : w.ownsRow 0 e E.k (.slice (some ⟨g, 0, none⟩) n cap) n cs) (d : Array α) (hd : d.size = n) (m : Nat) (os : Array Obj) :
    (grow (putRow id (Sort.ahead w m) g 0 (flatK E.enc E.k d)) os).ownsRow 0 e E.k (.slice (some ⟨g, 0, none⟩) n cap) n (E.fl d.toList) := by
  refine ⟨by rw [E.fl_len, Array.length_toList, hd], .inr ?_⟩
  rcases hr.2 with ⟨h, _⟩ | ⟨g', c', cur, hv, _, hh, hnc, hcm, hs, _⟩
  · cases h
  · simp only [Value.slice.injEq, Option.some.injEq, Addr.mk.injEq, and_true, true_and] at hv
    obtain ⟨rfl, rfl⟩ := hv
    have hg := (Array.getElem?_eq_some_iff.1 hh).1
    refine ⟨g, cap, putCells id 0 (flatK E.enc E.k d) cur, rfl, Nat.zero_le _, ?_, hnc, hcm, by simp [putCells, hs], ?_⟩
    · show ((w.heap.modify g _) ++ os)[g]? = _
      rw [Array.getElem?_append_left (by simpa using hg), Array.getElem?_modify, if_pos rfl, hh]
      rfl
    · apply List.ext_getElem?
      intro j
      rw [List.getElem?_take]
      by_cases hj : j < n * E.k
      · rw [if_pos hj, Array.getElem?_toList]
        have hjc : j < cur.size := by rw [hs]; exact Nat.lt_of_lt_of_le hj (Nat.mul_le_mul_right _ hnc)
        have hjf : j < d.size * E.k := by rw [hd]; exact hj
        simp only [putCells, Array.getElem?_mapIdx, Array.getElem?_eq_getElem hjc, Option.map_some, Nat.zero_le, true_and, Nat.zero_add, Nat.sub_zero, size_flatK]
        rw [if_pos hjf, ← flatK_get E d j hjf, Array.getElem?_eq_getElem (by rw [size_flatK]; exact hjf), getElem!_pos _ j (by rw [size_flatK]; exact hjf)]
        rfl
      · rw [if_neg hj, List.getElem?_eq_none (by rw [E.fl_len, Array.length_toList, hd]; omega)]
theorem allOne_all {l : List Value} (h : allOne l = true) : ∀ v ∈ l, v.oneCell' = true := allOne_mem h
theorem sort_calls {P : Program} {ρ : Ren} (L : SlLaysF0.n6 P ρ) (E : Enc α) (aE : ∀ w, (isAgg (ρ.t 24)).run P w = .ok true w) (zE : ∀ w, (Go.sizeOf (ρ.t 24)).run P w = .ok E.k w)
    {cf : α → α → Int} (hO : CmpOk cf) (g : Nat) (cb : Array Value) (eg : ∀ args w, (callFunc g args).run P w = .ok (.enter g args) w) {w : World} {e cap n : Nat} {ao : Option Addr} {l : List α}
    (hr : w.ownsRow 0 e E.k (.slice ao n cap) n (E.fl l)) (hn : n < 4611686018427387904)
    (hc : ∀ x y w', w.grownBy w' (ao.map (·.block)) → Calls P g (#[.agg (E.enc x).toArray, .agg (E.enc y).toArray] ++ cb) w' fun e w'' => e = .returned (.int .i64 (cf x y)) ∧ Below w'.heap.size w' w'') :
    Calls P (ρ.f 6) #[.slice ao n cap, .func (.func g) #[] cb] w fun en w' => en = .returned (.tuple #[]) ∧ w.grownBy w' (ao.map (·.block)) ∧ w'.ownsRow 0 e E.k (.slice ao n cap) n (E.fl (sorted cf l)) := by
  have hnl : n = l.length := by
    have := hr.1
    rw [E.fl_len] at this
    exact (Nat.eq_of_mul_eq_mul_right E.k0 this).symm
  cases ao with
  | none =>
    have h0 : n = 0 := by
      rcases hr.2 with ⟨_, h⟩ | ⟨_, _, _, h, _⟩
      · exact h
      · cases h
    subst h0
    have hl : l = [] := List.eq_nil_of_length_eq_zero hnl.symm
    subst hl
    refine (AnyF.slices_SortFunc_none L none cap _ w).mono fun en w' h => ?_
    obtain ⟨h1, rfl⟩ := h
    exact ⟨h1, ⟨rfl, rfl, rfl, Nat.le_refl _, fun _ _ _ => rfl⟩, by rw [sorted_nil]; exact hr⟩
  | some a =>
    obtain ⟨b, hb⟩ : ∃ b, a = ⟨b, 0, none⟩ := by
      rcases hr.2 with ⟨h, _⟩ | ⟨g', c', cur, hv, _⟩
      · cases h
      · simp only [Value.slice.injEq, Option.some.injEq] at hv; exact ⟨g', hv.1⟩
    subst hb
    subst hnl
    have hlt : b < w.heap.size := (World.ownsRow.lt hr b (by simp [Value.ownBlock])).2
    have hH : HoldsK E.enc E.k w b 0 l.toArray := by
      intro j hj
      rw [size_flatK] at hj
      rcases hr.2 with ⟨h, _⟩ | ⟨g', c', cur, hv, _, hh, hnc, hcm, hs, ht⟩
      · cases h
      · simp only [Value.slice.injEq, Option.some.injEq, Addr.mk.injEq, and_true, true_and] at hv
        obtain ⟨rfl, rfl⟩ := hv
        have hjc : j < cur.size := by rw [hs]; exact Nat.lt_of_lt_of_le hj (Nat.mul_le_mul_right _ (by simpa using hnc))
        refine ⟨?_, ?_⟩
        · rw [World.cell?, Nat.zero_add]
          dsimp only
          rw [hh]
          dsimp only
          have e1 := flatK_get E l.toArray j hj
          rw [← ht, List.getElem?_take, if_pos (by simpa using hj), Array.getElem?_toList] at e1
          rw [← e1]
          show (if (Option.isSome _) = true then none else (flatK E.enc E.k l.toArray)[j]?) = _
          rw [Array.getElem?_eq_getElem (by rw [size_flatK]; exact hj), getElem!_pos _ j (by rw [size_flatK]; exact hj)]
          rfl
        · unfold World.frozen?
          dsimp only
          rw [hh]
          simp
    have hcmp : CmpLays P g cb E.enc E.k cf b 0 l.toArray.size w := by
      intro m os dk hdk x y
      have h := Calls.drawn (hc x y (sortWorldK E.enc E.k w b 0 m dk os) (putRow_grown m os))
      exact h.mono fun en w'' hh => ⟨hh.1.1, drew_of_below hh.1.2 (hh.2 _ hh.1.1)⟩
    have h := AnyQ.slices_SortFunc_total L E.k aE zE E.enc E.len (fun x v hv => allOne_all (E.one x) v hv) cf hO.swo g cb b 0 cap l.toArray w eg hcmp hH hlt (by simpa using hn) hO.tot
    refine h.mono fun en w' hh => ?_
    obtain ⟨h1, m, os, rfl⟩ := hh
    refine ⟨h1, putRow_grown m os, ?_⟩
    exact putRow_own E hr (sorted cf l).toArray (by simp [sorted_len]) m os
end
section
variable {α : Type} [Inhabited α] {S : Sx} {W : World} {M : List Nat} {H : Hp} {A : Value → Hp → Prop}
theorem SxCall.sort {ρ : Ren} (L : SlLaysF0.n6 S.P ρ) (E : Enc α) (aE : ∀ w, (isAgg (ρ.t 24)).run S.P w = .ok true w) (zE : ∀ w, (Go.sizeOf (ρ.t 24)).run S.P w = .ok E.k w)
    {cf : α → α → Int} (hO : CmpOk cf) {g : Nat} {cb : Array Value} (eg : ∀ args w, (callFunc g args).run S.P w = .ok (.enter g args) w) (p : Nat) {e cap n : Nat} {ao : Option Addr} {l : List α}
    (hp : H[p]? = some (.row ao n cap e E.k (E.fl l))) (hn : n < 4611686018427387904)
    (hc : ∀ x y w w', Sat W M H w → w.grownBy w' (ao.map (·.block)) → Calls S.P g (#[.agg (E.enc x).toArray, .agg (E.enc y).toArray] ++ cb) w' fun e w'' => e = .returned (.int .i64 (cf x y)) ∧ Below w'.heap.size w' w'')
    (h : A (.tuple #[]) (H.set p (.row ao n cap e E.k (E.fl (sorted cf l))))) : SxCall S W M (ρ.f 6) #[.slice ao n cap, .func (.func g) #[] cb] H A :=
  ⟨fun w hs => (sort_calls L E aE zE hO g cb eg (hs.row p hp) hn (fun x y w' hg => hc x y w w' hs hg)).mono fun en w' hh => by
    obtain ⟨h1, h2, h3⟩ := hh
    exact ⟨_, _, h1, hs.set hp h2 (e' := .row ao n cap e E.k (E.fl (sorted cf l))) h3 (fun g hg => .inl hg), h⟩⟩
end
end Go.Proofs.Ytdbappehchgbcaa
