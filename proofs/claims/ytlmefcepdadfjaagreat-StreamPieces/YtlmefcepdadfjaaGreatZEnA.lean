/- Texts of this claim, one behind the other. -/
import Derived.Shelf.SlSortCmp.NoneTotal
import Derived.Test.YtlmefcepdadfjaaGreatZGen
import Derived.Test.YtlmefcepdadfjaaGreatZMono
import Derived.OpenShut
import Derived.ShutString
import Derived.ChangeArms
import Derived.WideShapes
import Derived.Test.YtlmefcepdadfjaaGreatZOwnF
import Derived.Lib.Small
import Derived.Test.YtlmefcepdadfjaaGreatZHkC
/- slices.SortFunc over a call's own row, met in the symbolic walk. No program is named here. -/
namespace Go.Proofs.YtlmefcepdadfjaaGreat
open Go.RowKit Go.Sort Go.Shelf

structure CmpOk {α : Type} (cf : α → α → Int) : Prop where
  swo : SWO (ltOf cf)
  tot : ∀ x y, ltOf cf x y = false → ltOf cf y x = false → x = y
theorem CmpOk.of {α : Type} {cf : α → α → Int} (lt : α → α → Prop) (h : ∀ x y, cf x y < 0 ↔ lt x y) (irr : ∀ x, ¬ lt x x) (tr : ∀ x y z, lt x y → lt y z → lt x z) (tri : ∀ x y, ¬ lt x y → ¬ lt y x → x = y) : CmpOk cf := by
  have e : ∀ x y, ltOf cf x y = true ↔ lt x y := fun x y => by unfold ltOf; rw [decide_eq_true_iff, h]
  have f : ∀ x y, ltOf cf x y = false ↔ ¬ lt x y := fun x y => by unfold ltOf; rw [decide_eq_false_iff_not, h]
  refine ⟨⟨fun x => (f x x).2 (irr x), fun x y z h1 h2 => (e x z).2 (tr x y z ((e x y).1 h1) ((e y z).1 h2)), fun x y z h1 h2 => (f x z).2 fun h3 => ?_⟩, fun x y h1 h2 => tri x y ((f x y).1 h1) ((f y x).1 h2)⟩
  have n1 := (f x y).1 h1
  have n2 := (f y z).1 h2
  by_cases h4 : lt y x
  · exact n2 (tr y x z h4 h3)
  · have := tri x y n1 h4
    subst this
    exact n2 h3
def sorted {α : Type} (cf : α → α → Int) (l : List α) : List α := l.mergeSort fun x y => !ltOf cf y x
theorem sorted_nil {α : Type} (cf : α → α → Int) : sorted cf ([] : List α) = [] := by unfold sorted; simp
theorem sorted_perm {α : Type} (cf : α → α → Int) (l : List α) : (sorted cf l).Perm l := List.mergeSort_perm ..
theorem sorted_len {α : Type} (cf : α → α → Int) (l : List α) : (sorted cf l).length = l.length := (sorted_perm cf l).length_eq
theorem sorted_pair {α : Type} {cf : α → α → Int} (h : CmpOk cf) (l : List α) : (sorted cf l).Pairwise fun x y => ltOf cf y x = false := by
  have := List.pairwise_mergeSort (le := fun x y => !ltOf cf y x) (fun a b c h1 h2 => ?_) (fun a b => ?_) l
  · exact this.imp fun h => by simpa using h
  · simp only [Bool.not_eq_true'] at h1 h2 ⊢
    exact h.swo.ntrans c b a h2 h1
  · simp only [Bool.or_eq_true, Bool.not_eq_true']
    cases h1 : ltOf cf b a with
    | false => exact .inl rfl
    | true =>
      right
      cases h2 : ltOf cf a b with
      | false => rfl
      | true => have := h.swo.trans a b a h2 h1; rw [h.swo.irrefl] at this; cases this
theorem putRow_grown {w : World} {blk : Nat} {F : Array Value} (m : Nat) (os : Array Obj) : w.grownBy (grow (putRow id (Sort.ahead w m) blk 0 F) os) (some blk) := by
  refine ⟨rfl, rfl, rfl, ?_, fun k hk hne => ?_⟩
  · simp [grow, putRow, mapBlock, Sort.ahead]
  · show ((w.heap.modify blk _) ++ os)[k]? = w.heap[k]?
    rw [Array.getElem?_append_left (by simpa using hk), Array.getElem?_modify, if_neg (fun e => hne (by rw [e]))]
theorem drew_of_below {w w' : World} (h : Below w.heap.size w w') (hd : w.drawn ≤ w'.drawn) : ∃ q os, w' = grow (w.drewN q) os := by
  refine ⟨w'.drawn - w.drawn, w'.heap.extract w.heap.size w'.heap.size, ?_⟩
  obtain ⟨heap, tape, drawn, os, output⟩ := w
  obtain ⟨heap', tape', drawn', os', output'⟩ := w'
  obtain ⟨h1, h2, h3, h4, h5⟩ := h
  dsimp only at h1 h2 h3 h4 h5 hd
  subst h1 h2 h3
  show World.mk _ _ _ _ _ = World.mk _ _ _ _ _
  congr 1
  · show heap' = heap ++ heap'.extract heap.size heap'.size
    apply Array.ext_getElem?
    intro i
    by_cases hi : i < heap.size
    · rw [Array.getElem?_append_left hi]; exact h5 i hi
    · rw [Array.getElem?_append_right (by omega), Array.getElem?_extract]
      by_cases hj : i < heap'.size
      · rw [if_pos (by omega), show heap.size + (i - heap.size) = i by omega]
      · rw [if_neg (by omega), Array.getElem?_eq_none (by omega)]
  · show drawn' = drawn + (drawn' - drawn)
    omega
section
variable {α : Type} [Inhabited α]
theorem flatK_get (E : Enc α) (d : Array α) (j : Nat) (h : j < d.size * E.k) : (flatK E.enc E.k d)[j]? = (E.fl d.toList)[j]? := by
  have h0 := E.k0
  have hi : j / E.k < d.size := (Nat.div_lt_iff_lt_mul h0).2 h
  have hm : j % E.k < E.k := Nat.mod_lt _ h0
  have e1 : (flatK E.enc E.k d)[j]? = some (flatK E.enc E.k d)[j]! := by
    rw [getElem!_pos _ j (by rw [size_flatK]; exact h), Array.getElem?_eq_getElem (by rw [size_flatK]; exact h)]
  rw [e1, get_flatK _ _ _ _ h]
  have hx : d.toList[j / E.k]? = some d[j / E.k]! := by
    rw [Array.getElem?_toList, getElem!_pos d (j / E.k) hi, Array.getElem?_eq_getElem hi]
  have hv : (E.enc d[j / E.k]!)[j % E.k]? = some (E.enc d[j / E.k]!)[j % E.k]! := by
    have hm2 : j % E.k < (E.enc d[j / E.k]!).length := by rw [E.len]; exact hm
    rw [getElem!_pos (E.enc d[j / E.k]!) (j % E.k) hm2, List.getElem?_eq_getElem hm2]
  have := E.fl_cell hx hv
  rw [Nat.div_add_mod'] at this
  exact this.symm
theorem putRow_own (E : Enc α) {w : World} {e g n cap : Nat} {cs : List Value} (hr : w.ownsRow 0 e E.k (.slice (some ⟨g, 0, none⟩) n cap) n cs) (d : Array α) (hd : d.size = n) (m : Nat) (os : Array Obj) :
    (grow (putRow id (Sort.ahead w m) g 0 (flatK E.enc E.k d)) os).ownsRow 0 e E.k (.slice (some ⟨g, 0, none⟩) n cap) n (E.fl d.toList) := by
  refine ⟨by rw [E.fl_len, Array.length_toList, hd], .inr ?_⟩
  rcases hr.2 with ⟨h, _⟩ | ⟨g', c', cur, hv, _, hh, hnc, hcm, hs, _⟩
  · cases h
  · simp only [Value.slice.injEq, Option.some.injEq, Addr.mk.injEq, and_true, true_and] at hv
    obtain ⟨rfl, rfl⟩ := hv
    have hg := (Array.getElem?_eq_some_iff.1 hh).1
    refine ⟨g, cap, putCells id 0 (flatK E.enc E.k d) cur, rfl, Nat.zero_le _, ?_, hnc, hcm, by simp [putCells, hs], ?_⟩
    · show ((w.heap.modify g _) ++ os)[g]? = _
      rw [Array.getElem?_append_left (by simpa using hg), Array.getElem?_modify, if_pos rfl, hh]
      rfl
    · apply List.ext_getElem?
      intro j
      rw [List.getElem?_take]
      by_cases hj : j < n * E.k
      · rw [if_pos hj, Array.getElem?_toList]
        have hjc : j < cur.size := by rw [hs]; exact Nat.lt_of_lt_of_le hj (Nat.mul_le_mul_right _ hnc)
        have hjf : j < d.size * E.k := by rw [hd]; exact hj
        simp only [putCells, Array.getElem?_mapIdx, Array.getElem?_eq_getElem hjc, Option.map_some, Nat.zero_le, true_and, Nat.zero_add, Nat.sub_zero, size_flatK]
        rw [if_pos hjf, ← flatK_get E d j hjf, Array.getElem?_eq_getElem (by rw [size_flatK]; exact hjf), getElem!_pos _ j (by rw [size_flatK]; exact hjf)]
        rfl
      · rw [if_neg hj, List.getElem?_eq_none (by rw [E.fl_len, Array.length_toList, hd]; omega)]
theorem allOne_all {l : List Value} (h : allOne l = true) : ∀ v ∈ l, v.oneCell' = true := allOne_mem h
theorem sort_calls {P : Program} {ρ : Ren} (L : SlLaysF0.n6 P ρ) (E : Enc α) (aE : ∀ w, (isAgg (ρ.t 24)).run P w = .ok true w) (zE : ∀ w, (Go.sizeOf (ρ.t 24)).run P w = .ok E.k w)
    {cf : α → α → Int} (hO : CmpOk cf) (g : Nat) (cb : Array Value) (eg : ∀ args w, (callFunc g args).run P w = .ok (.enter g args) w) {w : World} {e cap n : Nat} {ao : Option Addr} {l : List α}
    (hr : w.ownsRow 0 e E.k (.slice ao n cap) n (E.fl l)) (hn : n < 4611686018427387904)
    (hc : ∀ x y w', w.grownBy w' (ao.map (·.block)) → Calls P g (#[.agg (E.enc x).toArray, .agg (E.enc y).toArray] ++ cb) w' fun e w'' => e = .returned (.int .i64 (cf x y)) ∧ Below w'.heap.size w' w'') :
    Calls P (ρ.f 6) #[.slice ao n cap, .func (.func g) #[] cb] w fun en w' => en = .returned (.tuple #[]) ∧ w.grownBy w' (ao.map (·.block)) ∧ w'.ownsRow 0 e E.k (.slice ao n cap) n (E.fl (sorted cf l)) := by
  have hnl : n = l.length := by
    have := hr.1
    rw [E.fl_len] at this
    exact (Nat.eq_of_mul_eq_mul_right E.k0 this).symm
  cases ao with
  | none =>
    have h0 : n = 0 := by
      rcases hr.2 with ⟨_, h⟩ | ⟨_, _, _, h, _⟩
      · exact h
      · cases h
    subst h0
    have hl : l = [] := List.eq_nil_of_length_eq_zero hnl.symm
    subst hl
    refine (AnyF.slices_SortFunc_none L none cap _ w).mono fun en w' h => ?_
    obtain ⟨h1, rfl⟩ := h
    exact ⟨h1, ⟨rfl, rfl, rfl, Nat.le_refl _, fun _ _ _ => rfl⟩, by rw [sorted_nil]; exact hr⟩
  | some a =>
    obtain ⟨b, hb⟩ : ∃ b, a = ⟨b, 0, none⟩ := by
      rcases hr.2 with ⟨h, _⟩ | ⟨g', c', cur, hv, _⟩
      · cases h
      · simp only [Value.slice.injEq, Option.some.injEq] at hv; exact ⟨g', hv.1⟩
    subst hb
    subst hnl
    have hlt : b < w.heap.size := (World.ownsRow.lt hr b (by simp [Value.ownBlock])).2
    have hH : HoldsK E.enc E.k w b 0 l.toArray := by
      intro j hj
      rw [size_flatK] at hj
      rcases hr.2 with ⟨h, _⟩ | ⟨g', c', cur, hv, _, hh, hnc, hcm, hs, ht⟩
      · cases h
      · simp only [Value.slice.injEq, Option.some.injEq, Addr.mk.injEq, and_true, true_and] at hv
        obtain ⟨rfl, rfl⟩ := hv
        have hjc : j < cur.size := by rw [hs]; exact Nat.lt_of_lt_of_le hj (Nat.mul_le_mul_right _ (by simpa using hnc))
        refine ⟨?_, ?_⟩
        · rw [World.cell?, Nat.zero_add]
          dsimp only
          rw [hh]
          dsimp only
          have e1 := flatK_get E l.toArray j hj
          rw [← ht, List.getElem?_take, if_pos (by simpa using hj), Array.getElem?_toList] at e1
          rw [← e1]
          show (if (Option.isSome _) = true then none else (flatK E.enc E.k l.toArray)[j]?) = _
          rw [Array.getElem?_eq_getElem (by rw [size_flatK]; exact hj), getElem!_pos _ j (by rw [size_flatK]; exact hj)]
          rfl
        · unfold World.frozen?
          dsimp only
          rw [hh]
          simp
    have hcmp : CmpLays P g cb E.enc E.k cf b 0 l.toArray.size w := by
      intro m os dk hdk x y
      have h := Calls.drawn (hc x y (sortWorldK E.enc E.k w b 0 m dk os) (putRow_grown m os))
      exact h.mono fun en w'' hh => ⟨hh.1.1, drew_of_below hh.1.2 (hh.2 _ hh.1.1)⟩
    have h := AnyQ.slices_SortFunc_total L E.k aE zE E.enc E.len (fun x v hv => allOne_all (E.one x) v hv) cf hO.swo g cb b 0 cap l.toArray w eg hcmp hH hlt (by simpa using hn) hO.tot
    refine h.mono fun en w' hh => ?_
    obtain ⟨h1, m, os, rfl⟩ := hh
    refine ⟨h1, putRow_grown m os, ?_⟩
    exact putRow_own E hr (sorted cf l).toArray (by simp [sorted_len]) m os
end
section
variable {α : Type} [Inhabited α] {S : Sx} {W : World} {M : List Nat} {H : Hp} {A : Value → Hp → Prop}
theorem SxCall.sort {ρ : Ren} (L : SlLaysF0.n6 S.P ρ) (E : Enc α) (aE : ∀ w, (isAgg (ρ.t 24)).run S.P w = .ok true w) (zE : ∀ w, (Go.sizeOf (ρ.t 24)).run S.P w = .ok E.k w)
    {cf : α → α → Int} (hO : CmpOk cf) {g : Nat} {cb : Array Value} (eg : ∀ args w, (callFunc g args).run S.P w = .ok (.enter g args) w) (p : Nat) {e cap n : Nat} {ao : Option Addr} {l : List α}
    (hp : H[p]? = some (.row ao n cap e E.k (E.fl l))) (hn : n < 4611686018427387904)
    (hc : ∀ x y w w', Sat W M H w → w.grownBy w' (ao.map (·.block)) → Calls S.P g (#[.agg (E.enc x).toArray, .agg (E.enc y).toArray] ++ cb) w' fun e w'' => e = .returned (.int .i64 (cf x y)) ∧ Below w'.heap.size w' w'')
    (h : A (.tuple #[]) (H.set p (.row ao n cap e E.k (E.fl (sorted cf l))))) : SxCall S W M (ρ.f 6) #[.slice ao n cap, .func (.func g) #[] cb] H A :=
  ⟨fun w hs => (sort_calls L E aE zE hO g cb eg (hs.row p hp) hn (fun x y w' hg => hc x y w w' hs hg)).mono fun en w' hh => by
    obtain ⟨h1, h2, h3⟩ := hh
    exact ⟨_, _, h1, hs.set hp h2 (e' := .row ao n cap e E.k (E.fl (sorted cf l))) h3 (fun g hg => .inl hg), h⟩⟩
end
end Go.Proofs.YtlmefcepdadfjaaGreat
/- Lists in strict order. No program is named here. -/
namespace Go.Proofs.YtlmefcepdadfjaaGreat
open Go.RowKit

structure Ordr {α : Type} (lt : α → α → Prop) : Prop where
  irr : ∀ x, ¬ lt x x
  tr : ∀ x y z, lt x y → lt y z → lt x z
  tri : ∀ x y, ¬ lt x y → ¬ lt y x → x = y
section
variable {α : Type} {lt : α → α → Prop}
theorem strict_ext (h : Ordr lt) : ∀ {l m : List α}, l.Pairwise lt → m.Pairwise lt → (∀ x, x ∈ l ↔ x ∈ m) → l = m
  | [], [], _, _, _ => rfl
  | [], y :: m, _, _, he => absurd ((he y).2 (by simp)) (by simp)
  | x :: l, [], _, _, he => absurd ((he x).1 (by simp)) (by simp)
  | x :: l, y :: m, h1, h2, he => by
    rw [List.pairwise_cons] at h1 h2
    have hxy : x = y := by
      rcases List.mem_cons.1 ((he x).1 (by simp)) with e | e
      · exact e
      · rcases List.mem_cons.1 ((he y).2 (by simp)) with e2 | e2
        · exact e2.symm
        · exact absurd (h.tr x y x (h1.1 y e2) (h2.1 x e)) (h.irr x)
    subst hxy
    congr 1
    refine strict_ext h h1.2 h2.2 fun z => ⟨fun hz => ?_, fun hz => ?_⟩
    · rcases List.mem_cons.1 ((he z).1 (by simp [hz])) with e | e
      · subst e; exact absurd (h1.1 z hz) (h.irr z)
      · exact e
    · rcases List.mem_cons.1 ((he z).2 (by simp [hz])) with e | e
      · subst e; exact absurd (h2.1 z hz) (h.irr z)
      · exact e
theorem dd_strict [DecidableEq α] (h : Ordr lt) : ∀ {l : List α}, (l.Pairwise fun x y => ¬ lt y x) → (dd l).Pairwise lt
  | [], _ => List.Pairwise.nil
  | [x], _ => List.pairwise_singleton ..
  | x :: y :: r, hp => by
    have h1 := (List.pairwise_cons.1 hp)
    have h2 := (List.pairwise_cons.1 h1.2)
    have ih := dd_strict h h1.2
    rw [dd]
    split
    · exact ih
    · rename_i hne
      refine List.pairwise_cons.2 ⟨fun z hz => ?_, ih⟩
      rw [dd_mem] at hz
      have hxy : lt x y := by
        rcases Classical.em (lt x y) with e | e
        · exact e
        · exact absurd (h.tri x y e (h1.1 y (by simp))) hne
      rcases List.mem_cons.1 hz with e | e
      · rw [e]; exact hxy
      · rcases Classical.em (lt y z) with e2 | e2
        · exact h.tr x y z hxy e2
        · have := h.tri y z e2 (h2.1 z e)
          rw [← this]; exact hxy
theorem cmpOk_of {cf : α → α → Int} (h : Ordr lt) (hc : ∀ x y, cf x y < 0 ↔ lt x y) : CmpOk cf := CmpOk.of lt hc h.irr h.tr h.tri
theorem sorted_ord {cf : α → α → Int} (h : Ordr lt) (hc : ∀ x y, cf x y < 0 ↔ lt x y) (l : List α) : (sorted cf l).Pairwise fun x y => ¬ lt y x :=
  (sorted_pair (cmpOk_of h hc) l).imp fun {x y} hh hl => by
    rw [← hc] at hl
    unfold ltOf at hh
    exact absurd hl (by simpa using hh)
def setS [DecidableEq α] (cf : α → α → Int) (l : List α) : List α := dd (sorted cf l)
theorem setS_strict [DecidableEq α] {cf : α → α → Int} (h : Ordr lt) (hc : ∀ x y, cf x y < 0 ↔ lt x y) (l : List α) : (setS cf l).Pairwise lt := dd_strict h (sorted_ord h hc l)
theorem setS_mem [DecidableEq α] (cf : α → α → Int) (l : List α) (x : α) : x ∈ setS cf l ↔ x ∈ l := by
  unfold setS
  rw [dd_mem, (sorted_perm cf l).mem_iff]
theorem setS_len [DecidableEq α] (cf : α → α → Int) (l : List α) : (setS cf l).length ≤ l.length := by
  have := dd_len (sorted cf l)
  rw [sorted_len] at this
  exact this
theorem setS_ext [DecidableEq α] {cf : α → α → Int} (h : Ordr lt) (hc : ∀ x y, cf x y < 0 ↔ lt x y) {l m : List α} (hm : m.Pairwise lt) (he : ∀ x, x ∈ m ↔ x ∈ l) : setS cf l = m :=
  strict_ext h (setS_strict h hc l) hm fun x => by rw [setS_mem, he]
def putIn (ltb : α → α → Bool) (x : α) (l : List α) : List α := l.takeWhile (fun y => ltb y x) ++ x :: l.dropWhile (fun y => ltb y x)
theorem mem_putIn (ltb : α → α → Bool) (x : α) (l : List α) (z : α) : z ∈ putIn ltb x l ↔ z = x ∨ z ∈ l := by
  unfold putIn
  rw [List.mem_append, List.mem_cons]
  have h : z ∈ l ↔ z ∈ l.takeWhile (fun y => ltb y x) ∨ z ∈ l.dropWhile (fun y => ltb y x) := by
    rw [← List.mem_append, List.takeWhile_append_dropWhile]
  rw [h]
  constructor
  · rintro (h | h | h)
    · exact .inr (.inl h)
    · exact .inl h
    · exact .inr (.inr h)
  · rintro (h | h | h)
    · exact .inr (.inl h)
    · exact .inl h
    · exact .inr (.inr h)
theorem putIn_strict (h : Ordr lt) {ltb : α → α → Bool} (hb : ∀ x y, ltb x y = true ↔ lt x y) {x : α} : ∀ {l : List α}, l.Pairwise lt → x ∉ l → (putIn ltb x l).Pairwise lt
  | [], _, _ => List.pairwise_singleton ..
  | y :: l, hp, hn => by
    have h1 := List.pairwise_cons.1 hp
    unfold putIn
    by_cases hy : ltb y x = true
    · rw [List.takeWhile_cons_of_pos (p := fun y => ltb y x) hy, List.dropWhile_cons_of_pos (p := fun y => ltb y x) hy, List.cons_append]
      have ih := putIn_strict h hb h1.2 (fun e => hn (List.mem_cons_of_mem _ e))
      refine List.pairwise_cons.2 ⟨fun z hz => ?_, ih⟩
      rcases (mem_putIn ltb x l z).1 hz with e | e
      · rw [e]; exact (hb y x).1 hy
      · exact h1.1 z e
    · rw [List.takeWhile_cons_of_neg (p := fun y => ltb y x) hy, List.dropWhile_cons_of_neg (p := fun y => ltb y x) hy, List.nil_append]
      have hxy : lt x y := by
        rcases Classical.em (lt x y) with e | e
        · exact e
        · exact absurd (h.tri x y e (fun e2 => hy ((hb y x).2 e2))) (fun e2 => hn (by simp [e2]))
      refine List.pairwise_cons.2 ⟨fun z hz => ?_, hp⟩
      rcases List.mem_cons.1 hz with e | e
      · rw [e]; exact hxy
      · exact h.tr x y z hxy (h1.1 z e)
def setR [DecidableEq α] (ltb : α → α → Bool) (l : List α) : List α := l.foldl (fun out x => if x ∈ out then out else putIn ltb x out) []
theorem setR_snoc [DecidableEq α] (ltb : α → α → Bool) (l : List α) (x : α) : setR ltb (l ++ [x]) = if x ∈ setR ltb l then setR ltb l else putIn ltb x (setR ltb l) := by
  unfold setR
  rw [List.foldl_append]
  rfl
theorem setR_ok [DecidableEq α] (h : Ordr lt) {ltb : α → α → Bool} (hb : ∀ x y, ltb x y = true ↔ lt x y) (l : List α) : (setR ltb l).Pairwise lt ∧ ∀ x, x ∈ setR ltb l ↔ x ∈ l := by
  refine snoc_ind (P := fun l => (setR ltb l).Pairwise lt ∧ ∀ x, x ∈ setR ltb l ↔ x ∈ l) ⟨List.Pairwise.nil, fun x => Iff.rfl⟩ (fun l x ih => ?_) l
  · revert ih; intro ih
    rw [setR_snoc]
    split
    · rename_i hx
      refine ⟨ih.1, fun z => ?_⟩
      rw [ih.2, List.mem_append, List.mem_singleton]
      constructor
      · exact .inl
      · rintro (e | e)
        · exact e
        · rw [e]; exact (ih.2 x).1 hx
    · rename_i hx
      refine ⟨putIn_strict h hb ih.1 hx, fun z => ?_⟩
      rw [mem_putIn, ih.2, List.mem_append, List.mem_singleton, or_comm]
theorem setR_len [DecidableEq α] (ltb : α → α → Bool) (l : List α) : (setR ltb l).length ≤ l.length := by
  refine snoc_ind (P := fun l => (setR ltb l).length ≤ l.length) (Nat.le_refl _) (fun l x ih => ?_) l
  · revert ih; intro ih
    rw [setR_snoc, List.length_append]
    split
    · simp; omega
    · unfold putIn
      rw [List.length_append, List.length_cons]
      have := congrArg List.length (List.takeWhile_append_dropWhile (p := fun y => ltb y x) (l := setR ltb l))
      rw [List.length_append] at this
      simp
      omega
theorem setS_R [DecidableEq α] {cf : α → α → Int} (h : Ordr lt) (hc : ∀ x y, cf x y < 0 ↔ lt x y) {ltb : α → α → Bool} (hb : ∀ x y, ltb x y = true ↔ lt x y) (l : List α) : setS cf l = setR ltb l :=
  setS_ext h hc (setR_ok h hb l).1 (setR_ok h hb l).2
end
end Go.Proofs.YtlmefcepdadfjaaGreat
/- Arguments that came in, opened by the kinds of their cells: numbers, strings, bools, slices of such rows. No program is named here. -/
namespace Go.Proofs.YtlmefcepdadfjaaGreat
open Go.RowKit Go.ChangeShapes Go.WideShapes

inductive CK where
  | int (k : IntKind)
  | str
  | bool
  | slice (e : TypeId)
deriving DecidableEq
def arrK : Nat → List CK → List CK
  | 0, _ => []
  | n + 1, ks => ks ++ arrK n ks
mutual
def kindsOf (P : Program) : Nat → TypeId → Option (List CK)
  | 0, _ => none
  | d + 1, t => match P.underlying t with
    | some (.int k) => some [.int k]
    | some .string => some [.str]
    | some .bool => some [.bool]
    | some (.slice e) => some [.slice e]
    | some (.struct fs) => match fieldsK P d fs.toList 0 with
      | some ks => if P.cellsOf t = ks.length then some ks else none
      | none => none
    | some (.array n e) => match kindsOf P d e with
      | some ks => if P.cellsOf e = ks.length ∧ P.cellsOf t = n * ks.length then some (arrK n ks) else none
      | none => none
    | _ => none
def fieldsK (P : Program) : Nat → List Field → Nat → Option (List CK)
  | 0, _, _ => none
  | _ + 1, [], _ => some []
  | d + 1, f :: fs, off => match kindsOf P d f.type with
    | some ks => if f.offset = off ∧ P.cellsOf f.type = ks.length then (fieldsK P d fs (off + ks.length)).map (ks ++ ·) else none
    | none => none
end
def RdM (w : World) (ao : Option Addr) (xs : List Value) : Prop :=
  0 < xs.length → ∃ g off, ao = some ⟨g, off, none⟩ ∧ g < w.heap.size ∧ ∀ j, j < xs.length → w.cell? ⟨g, off + j, none⟩ = xs[j]?
def FitK (P : Program) (w : World) : Nat → CK → Value → Prop
  | _, .int k, v => ∃ n, v = .int k n ∧ (Lit.int k n).wf = true
  | _, .str, v => ∃ s : ByteArray, v = .string s ∧ s.size ≤ maxLen
  | _, .bool, v => ∃ b, v = .bool b
  | 0, .slice _, _ => True
  | d + 1, .slice e, v => ∃ (ao : Option Addr) (n cap : Nat), v = .slice ao n cap ∧ n ≤ cap ∧ cap ≤ maxLen ∧ ∀ ks, kindsOf P 40 e = some ks → P.cellsOf e = ks.length →
      ∃ xs : List Value, xs.length = n * ks.length ∧ RdM w ao xs ∧ ∀ i j k x, i < n → ks[j]? = some k → xs[i * ks.length + j]? = some x → FitK P w d k x
def FitR (P : Program) (w : World) (d : Nat) (ks : List CK) (cs : List Value) : Prop := cs.length = ks.length ∧ ∀ (i : Nat) k v, ks[i]? = some k → cs[i]? = some v → FitK P w d k v
theorem FitR.append {P : Program} {w : World} {d : Nat} {k1 k2 : List CK} {c1 c2 : List Value} (h1 : FitR P w d k1 c1) (h2 : FitR P w d k2 c2) : FitR P w d (k1 ++ k2) (c1 ++ c2) := by
  refine ⟨by simp [h1.1, h2.1], fun i k v hk hv => ?_⟩
  by_cases hi : i < k1.length
  · rw [List.getElem?_append_left hi] at hk
    rw [List.getElem?_append_left (by rw [h1.1]; exact hi)] at hv
    exact h1.2 i k v hk hv
  · rw [List.getElem?_append_right (by omega)] at hk
    rw [List.getElem?_append_right (by rw [h1.1]; omega), h1.1] at hv
    exact h2.2 _ k v hk hv
section
variable {H : Type} {enc : TypeId × Value → H} {P : Program} {w : World} {base : Nat} {spare : Nat → Bool} {held : Bool}

theorem fitR_array (c : Nat) (ks : List CK) (hc : c = ks.length) (D : Nat) : ∀ (n : Nat) (cs : List Value), cs.length = n * c → (∀ i, i < n → FitR P w D ks ((cs.drop (i * c)).take c)) → FitR P w D (arrK n ks) cs
  | 0, cs, hl, _ => by
    have : cs = [] := List.eq_nil_of_length_eq_zero (by simpa using hl)
    subst this
    exact ⟨rfl, fun i k v hk hv => by simp at hv⟩
  | n + 1, cs, hl, h => by
    have h0 := h 0 (by omega)
    simp only [Nat.zero_mul, List.drop_zero] at h0
    have hr := fitR_array c ks hc D n (cs.drop c) (by rw [List.length_drop, hl, Nat.succ_mul]; omega) (fun i hi => by
      have := h (i + 1) (by omega)
      rw [List.drop_drop, show c + i * c = (i + 1) * c by rw [Nat.succ_mul]; omega]
      exact this)
    have := h0.append hr
    rw [List.take_append_drop] at this
    exact this
theorem fitR_fields (D : Nat) (F : TypeId → List Value → Prop) : ∀ (d : Nat) (_hF : ∀ d' t cs ks, d' < d → F t cs → kindsOf P d' t = some ks → FitR P w D ks cs) (fs : List Field) (off : Nat) (ks : List CK) (cs : List Value), fieldsK P d fs off = some ks →
    cs.length = off + ks.length → (∀ f ∈ fs, F f.type ((cs.drop f.offset).take (P.cellsOf f.type))) → FitR P w D ks (cs.drop off)
  | 0, _, fs, off, ks, cs, h, _, _ => by simp [fieldsK] at h
  | d + 1, _, [], off, ks, cs, h, hl, _ => by
    simp [fieldsK] at h
    subst h
    refine ⟨by simp; simp at hl; omega, fun i k v hk hv => by simp at hk⟩
  | d + 1, hF, f :: fs, off, ks, cs, h, hl, hf => by
    simp only [fieldsK] at h
    split at h
    · rename_i k1 hk1
      split at h
      · rename_i hcond
        obtain ⟨rfl, hc⟩ := hcond
        obtain ⟨k2, hk2, rfl⟩ := Option.map_eq_some_iff.1 h
        have h1 := hF d f.type _ k1 (by omega) (hf f (by simp)) hk1
        have h2 := fitR_fields D F d (fun d' t cs ks hd => hF d' t cs ks (by omega)) fs _ k2 cs hk2 (by rw [List.length_append] at hl; omega) (fun f' hf' => hf f' (by simp [hf']))
        have := h1.append h2
        rw [hc, show cs.drop (f.offset + k1.length) = (cs.drop f.offset).drop k1.length by rw [List.drop_drop], List.take_append_drop] at this
        exact this
      · simp at h
    · simp at h
theorem fitR_one {D : Nat} {k : CK} {v : Value} (h : FitK P w D k v) : FitR P w D [k] [v] := by
  refine ⟨rfl, fun i k' v' h1 h2 => ?_⟩
  match i, h1, h2 with
  | 0, h1, h2 => simp at h1 h2; subst h1; subst h2; exact h
  | i + 1, h1, h2 => simp at h1
variable (enc P w base spare held) in
def Rds (t : TypeId) (cs : List Value) : Prop := ∃ n y, DataW.trod enc P w base spare held n t cs = some y
theorem fit_step (D : Nat) (hsl : ∀ t e v, P.underlying t = some (.slice e) → Rds enc P w base spare held t [v] → FitK P w D (.slice e) v) :
    ∀ (d : Nat) (t : TypeId) (cs : List Value) (ks : List CK), Rds enc P w base spare held t cs → kindsOf P d t = some ks → FitR P w D ks cs := by
  intro d
  induction d using Nat.strongRecOn with
  | _ d ihd =>
  intro t cs ks hr hk
  obtain ⟨fuel, x, h⟩ := id hr
  match d, hk, ihd with
  | 0, hk, _ => simp [kindsOf] at hk
  | d + 1, hk, ihd =>
    simp only [kindsOf] at hk
    split at hk
    · rename_i k hu
      obtain rfl : [CK.int k] = ks := by simpa using hk
      obtain ⟨n, rfl, _, hw⟩ := DataW.trod_int hu h
      exact fitR_one (by cases D <;> exact ⟨n, rfl, hw⟩)
    · rename_i hu
      obtain rfl : [CK.str] = ks := by simpa using hk
      obtain ⟨s, rfl, _, hw⟩ := DataW.trod_string hu h
      exact fitR_one (by cases D <;> exact ⟨s, rfl, hw⟩)
    · rename_i hu
      obtain rfl : [CK.bool] = ks := by simpa using hk
      obtain ⟨b, rfl, _⟩ := DataW.trod_bool hu h
      exact fitR_one (by cases D <;> exact ⟨b, rfl⟩)
    · rename_i e hu
      obtain rfl : [CK.slice e] = ks := by simpa using hk
      obtain ⟨v, rfl⟩ : ∃ v, cs = [v] := by
        rcases DataW.trod_slice hu h with ⟨rfl, _⟩ | ⟨a, len, cap, _, _, _, _, rfl, _⟩ <;> exact ⟨_, rfl⟩
      exact fitR_one (hsl t e v hu hr)
    · rename_i fs hu
      split at hk
      · rename_i k1 hf
        split at hk
        · rename_i hcell
          obtain rfl : k1 = ks := by simpa using hk
          obtain ⟨ys, n, rfl, _, hlen, hyl, hff⟩ := DataW.trod_struct hu h
          have := fitR_fields (P := P) (w := w) D (Rds enc P w base spare held) d (fun d' t cs ks hd => ihd d' (by omega) t cs ks) fs.toList 0 k1 cs hf (by rw [hlen, hcell]; omega) (fun f hfm => by
            obtain ⟨i, hi⟩ := List.getElem?_of_mem hfm
            have h1 := hff i f (by simpa using hi)
            have h2 : i < ys.length := by
              have := (List.getElem?_eq_some_iff.1 hi).1
              simp at this; omega
            rw [List.getElem?_eq_getElem h2] at h1
            exact ⟨n, _, h1⟩)
          simpa using this
        · simp at hk
      · simp at hk
    · rename_i n e hu
      split at hk
      · rename_i k1 hf
        split at hk
        · rename_i hcond
          obtain rfl : arrK n k1 = ks := by simpa using hk
          obtain ⟨ys, m, rfl, _, hlen, hyl, hff⟩ := DataW.trod_array hu h
          refine fitR_array (P.cellsOf e) k1 hcond.1 D n cs (by rw [hlen, hcond.2, hcond.1]) (fun i hi => ?_)
          have h1 := hff i hi
          rw [List.getElem?_eq_getElem (by omega)] at h1
          exact ihd d (by omega) e _ k1 ⟨m, _, h1⟩ hf
        · simp at hk
      · simp at hk
    · simp at hk
theorem row_flat (c : Nat) (f : Nat → List Value) : ∀ (n : Nat), (∀ i, i < n → (f i).length = c) → ((List.range n).flatMap f).length = n * c ∧ ∀ i j, i < n → j < c → ((List.range n).flatMap f)[i * c + j]? = (f i)[j]?
  | 0, _ => ⟨by simp, fun i j h => by omega⟩
  | n + 1, h => by
    obtain ⟨h1, h2⟩ := row_flat c f n (fun i hi => h i (by omega))
    rw [List.range_succ, List.flatMap_append]
    refine ⟨by simp [h1, h n (by omega), Nat.succ_mul], fun i j hi hj => ?_⟩
    by_cases hin : i < n
    · have hlt : i * c + j < n * c := by
        have : (i + 1) * c ≤ n * c := Nat.mul_le_mul_right c hin
        rw [Nat.succ_mul] at this; omega
      rw [List.getElem?_append_left (by rw [h1]; exact hlt)]
      exact h2 i j hin hj
    · obtain rfl : i = n := by omega
      rw [List.getElem?_append_right (by rw [h1]; omega), h1]
      simp
theorem div_mod_lt (n c j : Nat) (h : j < n * c) : j / c < n ∧ j % c < c ∧ j / c * c + j % c = j := by
  have hc : 0 < c := by
    rcases Nat.eq_zero_or_pos c with rfl | h0
    · simp at h
    · exact h0
  exact ⟨Nat.div_lt_of_lt_mul (by rw [Nat.mul_comm]; exact h), Nat.mod_lt _ hc, by rw [Nat.mul_comm]; exact Nat.div_add_mod j c⟩
theorem fit_of (D : Nat) : ∀ (d : Nat) (t : TypeId) (cs : List Value) (ks : List CK), Rds enc P w base spare held t cs → kindsOf P d t = some ks → FitR P w D ks cs := by
  induction D with
  | zero => exact fit_step 0 (fun t e v hu hr => by trivial)
  | succ D ih =>
    refine fit_step (D + 1) (fun t e v hu hr => ?_)
    obtain ⟨fuel, x, h⟩ := hr
    rcases DataW.trod_slice hu h with ⟨hcs, _⟩ | ⟨a, len, cap, elems, rest, n, _, hcs, _, hb, hl, hm, hlen, hel, _, _⟩
    · obtain rfl : v = .slice none 0 0 := by simpa using hcs
      exact ⟨none, 0, 0, rfl, Nat.le_refl _, Nat.zero_le _, fun ks _ _ => ⟨[], by simp, fun h => by simp at h, fun i j k x hi => by omega⟩⟩
    · obtain rfl : v = .slice (some a) len cap := by simpa using hcs
      refine ⟨some a, len, cap, rfl, hl, hm, fun ks hks hc => ?_⟩
      have each : ∀ i, i < len → ∃ ce y, w.cells? base (a.add (i * ks.length)) ks.length = some ce ∧ DataW.trod enc P w base spare held n e ce = some y := by
        intro i hi
        have h1 := hel i hi
        rw [List.getElem?_eq_getElem (by omega), hc, Option.bind_eq_some_iff] at h1
        obtain ⟨ce, h1, h2⟩ := h1
        exact ⟨ce, _, h1, h2⟩
      let f : Nat → List Value := fun i => if h : i < len then Classical.choose (each i h) else []
      have hf : ∀ i, i < len → w.cells? base (a.add (i * ks.length)) ks.length = some (f i) ∧ Rds enc P w base spare held e (f i) := by
        intro i hi
        have := Classical.choose_spec (each i hi)
        obtain ⟨y, h1, h2⟩ := this
        simp only [f, dif_pos hi]
        exact ⟨h1, n, y, h2⟩
      have hfl : ∀ i, i < len → (f i).length = ks.length := fun i hi => (World.cells?_some (hf i hi).1).2.1
      obtain ⟨r1, r2⟩ := row_flat ks.length f len hfl
      refine ⟨(List.range len).flatMap f, r1, ?_, ?_⟩
      · intro hpos
        rw [r1] at hpos
        obtain ⟨b, off, spot⟩ := a
        have hk0 : 0 < ks.length ∧ 0 < len := by
          constructor
          · rcases Nat.eq_zero_or_pos ks.length with h0 | h0
            · rw [h0] at hpos; simp at hpos
            · exact h0
          · rcases Nat.eq_zero_or_pos len with h0 | h0
            · rw [h0] at hpos; simp at hpos
            · exact h0
        have c0 := (World.cells?_some (hf 0 hk0.2).1).2.2 0 hk0.1
        rw [List.getElem?_eq_getElem (by rw [hfl 0 hk0.2]; exact hk0.1)] at c0
        have hspot : spot = none := by simpa [Addr.add] using World.cell?_spot c0
        subst hspot
        have hlt := block_lt_of_cell c0
        simp only [Nat.zero_mul, Addr.add_lit] at hlt
        refine ⟨b, off, rfl, hlt, fun j hj => ?_⟩
        rw [r1] at hj
        obtain ⟨q1, q2, q3⟩ := div_mod_lt len ks.length j hj
        have c1 := (World.cells?_some (hf (j / ks.length) q1).1).2.2 (j % ks.length) q2
        rw [Addr.add_lit, Addr.add_lit, Nat.add_assoc, q3] at c1
        rw [c1, ← r2 _ _ q1 q2, q3]
      · intro i j k x hi hkj hx
        have hjl : j < ks.length := (List.getElem?_eq_some_iff.1 hkj).1
        rw [r2 i j hi hjl] at hx
        exact (ih 40 e (f i) ks (hf i hi).2 hks).2 j k x hkj hx
theorem open_agg (D : Nat) {r : Reach} {b0 : Nat} {t : TypeId} {v : Value} {de : DataW H} {p : List MemPlace} {td : TypeDesc} (hu : P.underlying t = some td) (hd : (match td with | .struct _ | .array _ _ => true | _ => false) = true)
    (hv : Value.okWide P w r b0 t v) (h : DataW.Trod enc P w base spare held t v de p) {ks : List CK} (hk : kindsOf P 40 t = some ks) : ∃ cs : List Value, v = .agg cs.toArray ∧ FitR P w D ks cs := by
  have : ∃ cs, v = .agg cs ∧ cs.size = P.cellsOf t := by
    cases td with
    | struct fs => exact okWide_struct hu hv
    | array n e =>
      simp only [Value.okWide, hu] at hv
      obtain ⟨cs, h1, h2, _⟩ := hv
      exact ⟨cs, h1, h2⟩
    | _ => simp at hd
  obtain ⟨cs, rfl, _⟩ := this
  obtain ⟨fuel, hf⟩ := h
  exact ⟨cs.toList, by simp, fit_of D 40 t cs.toList ks ⟨fuel, _, by simpa [Value.cells] using hf⟩ hk⟩
theorem open_sl (D : Nat) {r : Reach} {b0 : Nat} {t e : TypeId} {v : Value} {de : DataW H} {p : List MemPlace} (hu : P.underlying t = some (.slice e))
    (hv : Value.okWide P w r b0 t v) (h : DataW.Trod enc P w base spare held t v de p) : FitK P w D (.slice e) v := by
  obtain ⟨a, len, cap, rfl⟩ := okWide_slice hu hv
  obtain ⟨fuel, hf⟩ := h
  have hk : kindsOf P 40 t = some [.slice e] := by simp [kindsOf, hu]
  exact (fit_of D 40 t [.slice a len cap] [.slice e] ⟨fuel, _, by simpa [Value.cells] using hf⟩ hk).2 0 _ _ rfl rfl
end
section
variable {P : Program} {w : World}
theorem fitK_int {d : Nat} {k : IntKind} {v : Value} (h : FitK P w d (.int k) v) : ∃ n, v = .int k n ∧ (Lit.int k n).wf = true := by cases d <;> exact h
theorem fitK_str {d : Nat} {v : Value} (h : FitK P w d .str v) : ∃ s : ByteArray, v = .string s ∧ s.size ≤ maxLen := by cases d <;> exact h
theorem fitK_bool {d : Nat} {v : Value} (h : FitK P w d .bool v) : ∃ b, v = .bool b := by cases d <;> exact h
end
end Go.Proofs.YtlmefcepdadfjaaGreat
/- Arguments that are slices of rows. -/
namespace Go.Proofs.YtlmefcepdadfjaaGreat
open Go.RowKit

theorem open_rows {P : Program} {α : Type} [Inhabited α] (E : Enc α) (hE : E.k ≤ 100) {w : World} {d : Nat} {e : TypeId} {v : Value} (ks : List CK) (hv : FitK P w (d + 1) (.slice e) v) (hk : kindsOf P 40 e = some ks) (hc : P.cellsOf e = ks.length) (hlen : ks.length = E.k) (hone : ∀ cs, FitR P w d ks cs → ∃ x, cs = E.enc x) :
    ∃ (ao : Option Addr) (n cap : Nat), v = .slice ao n cap ∧ n ≤ maxLen ∧ ∃ l : List α, l.length = min n 1000 ∧ Rd w ao (E.fl l) := by
  obtain ⟨ao, n, cap, rfl, h1, h2, h3⟩ := hv
  obtain ⟨xs, hl, hrd, hx⟩ := h3 ks hk hc
  rw [hlen] at hl
  replace hx : ∀ i j k x, i < n → ks[j]? = some k → xs[i * E.k + j]? = some x → FitK P w d k x := by rw [← hlen]; exact hx
  have hmul : ∀ i, i < n → i * E.k + E.k ≤ xs.length := by
    intro i hi
    have := Nat.mul_le_mul_right E.k (show i + 1 ≤ n from hi)
    rw [Nat.succ_mul] at this
    omega
  have each : ∀ i, i < n → ∃ x : α, (xs.drop (i * E.k)).take E.k = E.enc x := by
    intro i hi
    refine hone _ ⟨?_, fun j k v hk hj => ?_⟩
    · rw [List.length_take, List.length_drop, hlen]
      have := hmul i hi
      omega
    · rw [List.getElem?_take] at hj
      split at hj
      · rw [List.getElem?_drop] at hj
        exact hx i j k v hi hk hj
      · cases hj
  let f : Nat → α := fun i => if h : i < n then Classical.choose (each i h) else default
  have hf : ∀ i, i < n → (xs.drop (i * E.k)).take E.k = E.enc (f i) := by
    intro i hi
    simp only [f, dif_pos hi]
    exact Classical.choose_spec (each i hi)
  have hrow : ∀ m, m ≤ n → E.fl ((List.range m).map f) = xs.take (m * E.k) := by
    intro m
    induction m with
    | zero => intro _; simp [Enc.fl]
    | succ m ih =>
      intro hm
      rw [List.range_succ, List.map_append, E.fl_append, ih (by omega), Nat.succ_mul, List.take_add, hf m (by omega)]
      simp [Enc.fl]
  refine ⟨ao, n, cap, rfl, by omega, (List.range (min n 1000)).map f, by simp, ?_⟩
  rw [hrow _ (Nat.min_le_left _ _)]
  have hb : min n 1000 * E.k ≤ 1000 * 100 := Nat.mul_le_mul (Nat.min_le_right _ _) hE
  refine ⟨by rw [List.length_take]; unfold maxLen; omega, fun hp => ?_⟩
  rw [List.length_take] at hp
  obtain ⟨g, o, hao, hg, hcell⟩ := hrd (by omega)
  refine ⟨g, o, hao, hg, fun j hj => ?_⟩
  rw [List.length_take] at hj
  rw [List.getElem?_take_of_lt (by omega)]
  exact hcell j (by omega)
end Go.Proofs.YtlmefcepdadfjaaGreat
/- Places: a box and a slot. -/
namespace Go.Proofs.YtlmefcepdadfjaaGreat
open Go.RowKit

structure Pl where
  bx : Int
  sl : Int
  deriving DecidableEq
instance : Inhabited Pl := ⟨⟨0, 0⟩⟩
end Go.Proofs.YtlmefcepdadfjaaGreat
/- Entries: a fingerprint, a length, a place. -/
namespace Go.Proofs.YtlmefcepdadfjaaGreat
open Go.RowKit

def u8V (b : UInt8) : Value := .int .u8 (b.toNat : Int)
structure En where
  fp : List UInt8
  ln : Int
  bx : Int
  sl : Int
  hf : fp.length = 32
  deriving DecidableEq
instance : Inhabited En := ⟨⟨List.replicate 32 0, 0, 0, 0, rfl⟩⟩
def enT (ln bx sl : Int) : List Value := [.int .i64 ln, .int .u32 bx, .int .i64 sl]
def enC (e : En) : List Value := e.fp.map u8V ++ enT e.ln e.bx e.sl
theorem enC_len (e : En) : (enC e).length = 35 := by unfold enC; rw [List.length_append, List.length_map, e.hf]; rfl
theorem allOne_u8 : ∀ (f : List UInt8) (r : List Value), allOne (f.map u8V ++ r) = allOne r
  | [], _ => rfl
  | _ :: f, r => allOne_u8 f r
theorem enC_one (e : En) : allOne (enC e) = true := by unfold enC; rw [allOne_u8]; rfl
def enE : Enc En := ⟨enC, 35, by decide, enC_len, enC_one⟩
theorem enC_tail (e : En) (j : Nat) (v : Value) (h : (enT e.ln e.bx e.sl)[j]? = some v) : (enE.enc e)[32 + j]? = some v := by
  show (e.fp.map u8V ++ enT e.ln e.bx e.sl)[32 + j]? = some v
  rw [List.getElem?_append_right (by rw [List.length_map, e.hf]; omega), List.length_map, e.hf, Nat.add_sub_cancel_left]
  exact h
theorem u8V_inj : ∀ {f g : List UInt8}, f.map u8V = g.map u8V → f = g
  | [], [], _ => rfl
  | [], _ :: _, h => by simp at h
  | _ :: _, [], h => by simp at h
  | a :: f, b :: g, h => by
    simp only [List.map_cons, List.cons.injEq] at h
    have h1 := h.1
    unfold u8V at h1
    simp only [Value.int.injEq, true_and] at h1
    rw [u8V_inj h.2, UInt8.toNat_inj.1 (by omega : a.toNat = b.toNat)]
theorem enC_inj {x y : En} (h : enC x = enC y) : x = y := by
  unfold enC at h
  obtain ⟨h1, h2⟩ := List.append_inj h (by rw [List.length_map, List.length_map, x.hf, y.hf])
  unfold enT at h2
  simp only [List.cons.injEq, Value.int.injEq, true_and, and_true] at h2
  obtain ⟨f, a, b, c, hf⟩ := x
  obtain ⟨f', a', b', c', hf'⟩ := y
  simp only [En.mk.injEq]
  exact ⟨u8V_inj h1, h2⟩
def enK : List KD := List.replicate 32 (.int .u8) ++ [.int .i64, .int .u32, .int .i64]
theorem allK_u8 (ks : List KD) (vs : List Value) : ∀ f : List UInt8, allK (List.replicate f.length (.int .u8) ++ ks) (f.map u8V ++ vs) = allK ks vs
  | [] => rfl
  | _ :: f => allK_u8 ks vs f
theorem enK_all (e : En) : allK enK (enC e) = true := by
  have := allK_u8 [.int .i64, .int .u32, .int .i64] (enT e.ln e.bx e.sl) e.fp
  rw [e.hf] at this
  exact this
theorem en_eq (x y : En) : cellsEq (enC x) (enC y) = decide (x = y) := by
  have h := cellsEq_iff (ks := enK) (us := enC x) (vs := enC y) (enK_all x) (enK_all y)
  by_cases he : x = y
  · rw [decide_eq_true he, he]
    exact (cellsEq_iff (ks := enK) (us := enC y) (vs := enC y) (enK_all y) (enK_all y)).2 rfl
  · rw [decide_eq_false he]
    cases hc : cellsEq (enC x) (enC y) with
    | false => rfl
    | true => exact absurd (enC_inj (h.1 hc)) he
theorem SxRun.neEn {x y : En} {o1 o2 : Operand} {A : Value → Prop} (h : A (.bool (!decide (x = y)))) : SxRun SX.P (do eqGuard .neq 71 o1 o2 (.agg (enC x).toArray) (.agg (enC y).toArray); binOp .neq 71 (.agg (enC x).toArray) (.agg (enC y).toArray)) A :=
  SxRun.ne 4 rfl (ks := enK) rfl rfl (by kernel_rfl) rfl (enK_all x) (enK_all y) (by show A (.bool (!cellsEq (enC x) (enC y))); rw [en_eq]; exact h)
end Go.Proofs.YtlmefcepdadfjaaGreat
