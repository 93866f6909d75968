/- Texts of this claim, one behind the other. -/
import Derived.Shelf.SlSortCmp.NoneTotal
import Derived.Test.YtlmefcepdadfjaaGreatZGen
import Derived.Test.YtlmefcepdadfjaaGreatZMono
import Derived.Test.YtlmefcepdadfjaaGreatZDrawC
import Derived.Lib.Small
import Derived.Test.YtlmefcepdadfjaaGreatZHkD
import Derived.MapKept
import Derived.WideKeyRuns
/- slices.SortFunc over a call's own row, met in the symbolic walk. No program is named here. -/
namespace Go.Proofs.YtlmefcepdadfjaaGreat
open Go.RowKit Go.Sort Go.Shelf

structure CmpOk {α : Type} (cf : α → α → Int) : Prop where
  swo : SWO (ltOf cf)
  tot : ∀ x y, ltOf cf x y = false → ltOf cf y x = false → x = y
theorem CmpOk.of {α : Type} {cf : α → α → Int} (lt : α → α → Prop) (h : ∀ x y, cf x y < 0 ↔ lt x y) (irr : ∀ x, ¬ lt x x) (tr : ∀ x y z, lt x y → lt y z → lt x z) (tri : ∀ x y, ¬ lt x y → ¬ lt y x → x = y) : CmpOk cf := by
  have e : ∀ x y, ltOf cf x y = true ↔ lt x y := fun x y => by unfold ltOf; rw [decide_eq_true_iff, h]
  have f : ∀ x y, ltOf cf x y = false ↔ ¬ lt x y := fun x y => by unfold ltOf; rw [decide_eq_false_iff_not, h]
  refine ⟨⟨fun x => (f x x).2 (irr x), fun x y z h1 h2 => (e x z).2 (tr x y z ((e x y).1 h1) ((e y z).1 h2)), fun x y z h1 h2 => (f x z).2 fun h3 => ?_⟩, fun x y h1 h2 => tri x y ((f x y).1 h1) ((f y x).1 h2)⟩
  have n1 := (f x y).1 h1
  have n2 := (f y z).1 h2
  by_cases h4 : lt y x
  · exact n2 (tr y x z h4 h3)
  · have := tri x y n1 h4
    subst this
    exact n2 h3
def sorted {α : Type} (cf : α → α → Int) (l : List α) : List α := l.mergeSort fun x y => !ltOf cf y x
theorem sorted_nil {α : Type} (cf : α → α → Int) : sorted cf ([] : List α) = [] := by unfold sorted; simp
theorem sorted_perm {α : Type} (cf : α → α → Int) (l : List α) : (sorted cf l).Perm l := List.mergeSort_perm ..
theorem sorted_len {α : Type} (cf : α → α → Int) (l : List α) : (sorted cf l).length = l.length := (sorted_perm cf l).length_eq
theorem putRow_grown {w : World} {blk : Nat} {F : Array Value} (m : Nat) (os : Array Obj) : w.grownBy (grow (putRow id (Sort.ahead w m) blk 0 F) os) (some blk) := by
  refine ⟨rfl, rfl, rfl, ?_, fun k hk hne => ?_⟩
  · simp [grow, putRow, mapBlock, Sort.ahead]
  · show ((w.heap.modify blk _) ++ os)[k]? = w.heap[k]?
    rw [Array.getElem?_append_left (by simpa using hk), Array.getElem?_modify, if_neg (fun e => hne (by rw [e]))]
theorem drew_of_below {w w' : World} (h : Below w.heap.size w w') (hd : w.drawn ≤ w'.drawn) : ∃ q os, w' = grow (w.drewN q) os := by
  refine ⟨w'.drawn - w.drawn, w'.heap.extract w.heap.size w'.heap.size, ?_⟩
  obtain ⟨heap, tape, drawn, os, output⟩ := w
  obtain ⟨heap', tape', drawn', os', output'⟩ := w'
  obtain ⟨h1, h2, h3, h4, h5⟩ := h
  dsimp only at h1 h2 h3 h4 h5 hd
  subst h1 h2 h3
  show World.mk _ _ _ _ _ = World.mk _ _ _ _ _
  congr 1
  · show heap' = heap ++ heap'.extract heap.size heap'.size
    apply Array.ext_getElem?
    intro i
    by_cases hi : i < heap.size
    · rw [Array.getElem?_append_left hi]; exact h5 i hi
    · rw [Array.getElem?_append_right (by omega), Array.getElem?_extract]
      by_cases hj : i < heap'.size
      · rw [if_pos (by omega), show heap.size + (i - heap.size) = i by omega]
      · rw [if_neg (by omega), Array.getElem?_eq_none (by omega)]
  · show drawn' = drawn + (drawn' - drawn)
    omega
section
variable {α : Type} [Inhabited α]
theorem flatK_get (E : Enc α) (d : Array α) (j : Nat) (h : j < d.size * E.k) : (flatK E.enc E.k d)[j]? = (E.fl d.toList)[j]? := by
  have h0 := E.k0
  have hi : j / E.k < d.size := (Nat.div_lt_iff_lt_mul h0).2 h
  have hm : j % E.k < E.k := Nat.mod_lt _ h0
  have e1 : (flatK E.enc E.k d)[j]? = some (flatK E.enc E.k d)[j]! := by
    rw [getElem!_pos _ j (by rw [size_flatK]; exact h), Array.getElem?_eq_getElem (by rw [size_flatK]; exact h)]
  rw [e1, get_flatK _ _ _ _ h]
  have hx : d.toList[j / E.k]? = some d[j / E.k]! := by
    rw [Array.getElem?_toList, getElem!_pos d (j / E.k) hi, Array.getElem?_eq_getElem hi]
  have hv : (E.enc d[j / E.k]!)[j % E.k]? = some (E.enc d[j / E.k]!)[j % E.k]! := by
    have hm2 : j % E.k < (E.enc d[j / E.k]!).length := by rw [E.len]; exact hm
    rw [getElem!_pos (E.enc d[j / E.k]!) (j % E.k) hm2, List.getElem?_eq_getElem hm2]
  have := E.fl_cell hx hv
  rw [Nat.div_add_mod'] at this
  exact this.symm
theorem putRow_own (E : Enc α) {w : World} {e g n cap : Nat} {cs : List Value} (hr : w.ownsRow 0 e E.k (.slice (some ⟨g, 0, none⟩) n cap) n cs) (d : Array α) (hd : d.size = n) (m : Nat) (os : Array Obj) :
    (grow (putRow id (Sort.ahead w m) g 0 (flatK E.enc E.k d)) os).ownsRow 0 e E.k (.slice (some ⟨g, 0, none⟩) n cap) n (E.fl d.toList) := by
  refine ⟨by rw [E.fl_len, Array.length_toList, hd], .inr ?_⟩
  rcases hr.2 with ⟨h, _⟩ | ⟨g', c', cur, hv, _, hh, hnc, hcm, hs, _⟩
  · cases h
  · simp only [Value.slice.injEq, Option.some.injEq, Addr.mk.injEq, and_true, true_and] at hv
    obtain ⟨rfl, rfl⟩ := hv
    have hg := (Array.getElem?_eq_some_iff.1 hh).1
    refine ⟨g, cap, putCells id 0 (flatK E.enc E.k d) cur, rfl, Nat.zero_le _, ?_, hnc, hcm, by simp [putCells, hs], ?_⟩
    · show ((w.heap.modify g _) ++ os)[g]? = _
      rw [Array.getElem?_append_left (by simpa using hg), Array.getElem?_modify, if_pos rfl, hh]
      rfl
    · apply List.ext_getElem?
      intro j
      rw [List.getElem?_take]
      by_cases hj : j < n * E.k
      · rw [if_pos hj, Array.getElem?_toList]
        have hjc : j < cur.size := by rw [hs]; exact Nat.lt_of_lt_of_le hj (Nat.mul_le_mul_right _ hnc)
        have hjf : j < d.size * E.k := by rw [hd]; exact hj
        simp only [putCells, Array.getElem?_mapIdx, Array.getElem?_eq_getElem hjc, Option.map_some, Nat.zero_le, true_and, Nat.zero_add, Nat.sub_zero, size_flatK]
        rw [if_pos hjf, ← flatK_get E d j hjf, Array.getElem?_eq_getElem (by rw [size_flatK]; exact hjf), getElem!_pos _ j (by rw [size_flatK]; exact hjf)]
        rfl
      · rw [if_neg hj, List.getElem?_eq_none (by rw [E.fl_len, Array.length_toList, hd]; omega)]
theorem allOne_all {l : List Value} (h : allOne l = true) : ∀ v ∈ l, v.oneCell' = true := allOne_mem h
theorem sort_calls {P : Program} {ρ : Ren} (L : SlLaysF0.n6 P ρ) (E : Enc α) (aE : ∀ w, (isAgg (ρ.t 24)).run P w = .ok true w) (zE : ∀ w, (Go.sizeOf (ρ.t 24)).run P w = .ok E.k w)
    {cf : α → α → Int} (hO : CmpOk cf) (g : Nat) (cb : Array Value) (eg : ∀ args w, (callFunc g args).run P w = .ok (.enter g args) w) {w : World} {e cap n : Nat} {ao : Option Addr} {l : List α}
    (hr : w.ownsRow 0 e E.k (.slice ao n cap) n (E.fl l)) (hn : n < 4611686018427387904)
    (hc : ∀ x y w', w.grownBy w' (ao.map (·.block)) → Calls P g (#[.agg (E.enc x).toArray, .agg (E.enc y).toArray] ++ cb) w' fun e w'' => e = .returned (.int .i64 (cf x y)) ∧ Below w'.heap.size w' w'') :
    Calls P (ρ.f 6) #[.slice ao n cap, .func (.func g) #[] cb] w fun en w' => en = .returned (.tuple #[]) ∧ w.grownBy w' (ao.map (·.block)) ∧ w'.ownsRow 0 e E.k (.slice ao n cap) n (E.fl (sorted cf l)) := by
  have hnl : n = l.length := by
    have := hr.1
    rw [E.fl_len] at this
    exact (Nat.eq_of_mul_eq_mul_right E.k0 this).symm
  cases ao with
  | none =>
    have h0 : n = 0 := by
      rcases hr.2 with ⟨_, h⟩ | ⟨_, _, _, h, _⟩
      · exact h
      · cases h
    subst h0
    have hl : l = [] := List.eq_nil_of_length_eq_zero hnl.symm
    subst hl
    refine (AnyF.slices_SortFunc_none L none cap _ w).mono fun en w' h => ?_
    obtain ⟨h1, rfl⟩ := h
    exact ⟨h1, ⟨rfl, rfl, rfl, Nat.le_refl _, fun _ _ _ => rfl⟩, by rw [sorted_nil]; exact hr⟩
  | some a =>
    obtain ⟨b, hb⟩ : ∃ b, a = ⟨b, 0, none⟩ := by
      rcases hr.2 with ⟨h, _⟩ | ⟨g', c', cur, hv, _⟩
      · cases h
      · simp only [Value.slice.injEq, Option.some.injEq] at hv; exact ⟨g', hv.1⟩
    subst hb
    subst hnl
    have hlt : b < w.heap.size := (World.ownsRow.lt hr b (by simp [Value.ownBlock])).2
    have hH : HoldsK E.enc E.k w b 0 l.toArray := by
      intro j hj
      rw [size_flatK] at hj
      rcases hr.2 with ⟨h, _⟩ | ⟨g', c', cur, hv, _, hh, hnc, hcm, hs, ht⟩
      · cases h
      · simp only [Value.slice.injEq, Option.some.injEq, Addr.mk.injEq, and_true, true_and] at hv
        obtain ⟨rfl, rfl⟩ := hv
        have hjc : j < cur.size := by rw [hs]; exact Nat.lt_of_lt_of_le hj (Nat.mul_le_mul_right _ (by simpa using hnc))
        refine ⟨?_, ?_⟩
        · rw [World.cell?, Nat.zero_add]
          dsimp only
          rw [hh]
          dsimp only
          have e1 := flatK_get E l.toArray j hj
          rw [← ht, List.getElem?_take, if_pos (by simpa using hj), Array.getElem?_toList] at e1
          rw [← e1]
          show (if (Option.isSome _) = true then none else (flatK E.enc E.k l.toArray)[j]?) = _
          rw [Array.getElem?_eq_getElem (by rw [size_flatK]; exact hj), getElem!_pos _ j (by rw [size_flatK]; exact hj)]
          rfl
        · unfold World.frozen?
          dsimp only
          rw [hh]
          simp
    have hcmp : CmpLays P g cb E.enc E.k cf b 0 l.toArray.size w := by
      intro m os dk hdk x y
      have h := Calls.drawn (hc x y (sortWorldK E.enc E.k w b 0 m dk os) (putRow_grown m os))
      exact h.mono fun en w'' hh => ⟨hh.1.1, drew_of_below hh.1.2 (hh.2 _ hh.1.1)⟩
    have h := AnyQ.slices_SortFunc_total L E.k aE zE E.enc E.len (fun x v hv => allOne_all (E.one x) v hv) cf hO.swo g cb b 0 cap l.toArray w eg hcmp hH hlt (by simpa using hn) hO.tot
    refine h.mono fun en w' hh => ?_
    obtain ⟨h1, m, os, rfl⟩ := hh
    refine ⟨h1, putRow_grown m os, ?_⟩
    exact putRow_own E hr (sorted cf l).toArray (by simp [sorted_len]) m os
end
section
variable {α : Type} [Inhabited α] {S : Sx} {W : World} {M : List Nat} {H : Hp} {A : Value → Hp → Prop}
theorem SxCall.sort {ρ : Ren} (L : SlLaysF0.n6 S.P ρ) (E : Enc α) (aE : ∀ w, (isAgg (ρ.t 24)).run S.P w = .ok true w) (zE : ∀ w, (Go.sizeOf (ρ.t 24)).run S.P w = .ok E.k w)
    {cf : α → α → Int} (hO : CmpOk cf) {g : Nat} {cb : Array Value} (eg : ∀ args w, (callFunc g args).run S.P w = .ok (.enter g args) w) (p : Nat) {e cap n : Nat} {ao : Option Addr} {l : List α}
    (hp : H[p]? = some (.row ao n cap e E.k (E.fl l))) (hn : n < 4611686018427387904)
    (hc : ∀ x y w w', Sat W M H w → w.grownBy w' (ao.map (·.block)) → Calls S.P g (#[.agg (E.enc x).toArray, .agg (E.enc y).toArray] ++ cb) w' fun e w'' => e = .returned (.int .i64 (cf x y)) ∧ Below w'.heap.size w' w'')
    (h : A (.tuple #[]) (H.set p (.row ao n cap e E.k (E.fl (sorted cf l))))) : SxCall S W M (ρ.f 6) #[.slice ao n cap, .func (.func g) #[] cb] H A :=
  ⟨fun w hs => (sort_calls L E aE zE hO g cb eg (hs.row p hp) hn (fun x y w' hg => hc x y w w' hs hg)).mono fun en w' hh => by
    obtain ⟨h1, h2, h3⟩ := hh
    exact ⟨_, _, h1, hs.set hp h2 (e' := .row ao n cap e E.k (E.fl (sorted cf l))) h3 (fun g hg => .inl hg), h⟩⟩
end
end Go.Proofs.YtlmefcepdadfjaaGreat
/- Lists in strict order. No program is named here. -/
namespace Go.Proofs.YtlmefcepdadfjaaGreat
open Go.RowKit

structure Ordr {α : Type} (lt : α → α → Prop) : Prop where
  irr : ∀ x, ¬ lt x x
  tr : ∀ x y z, lt x y → lt y z → lt x z
  tri : ∀ x y, ¬ lt x y → ¬ lt y x → x = y
section
variable {α : Type} {lt : α → α → Prop}
theorem cmpOk_of {cf : α → α → Int} (h : Ordr lt) (hc : ∀ x y, cf x y < 0 ↔ lt x y) : CmpOk cf := CmpOk.of lt hc h.irr h.tr h.tri
def setS [DecidableEq α] (cf : α → α → Int) (l : List α) : List α := dd (sorted cf l)
theorem setS_len [DecidableEq α] (cf : α → α → Int) (l : List α) : (setS cf l).length ≤ l.length := by
  have := dd_len (sorted cf l)
  rw [sorted_len] at this
  exact this
def putIn (ltb : α → α → Bool) (x : α) (l : List α) : List α := l.takeWhile (fun y => ltb y x) ++ x :: l.dropWhile (fun y => ltb y x)
theorem mem_putIn (ltb : α → α → Bool) (x : α) (l : List α) (z : α) : z ∈ putIn ltb x l ↔ z = x ∨ z ∈ l := by
  unfold putIn
  rw [List.mem_append, List.mem_cons]
  have h : z ∈ l ↔ z ∈ l.takeWhile (fun y => ltb y x) ∨ z ∈ l.dropWhile (fun y => ltb y x) := by
    rw [← List.mem_append, List.takeWhile_append_dropWhile]
  rw [h]
  constructor
  · rintro (h | h | h)
    · exact .inr (.inl h)
    · exact .inl h
    · exact .inr (.inr h)
  · rintro (h | h | h)
    · exact .inr (.inl h)
    · exact .inl h
    · exact .inr (.inr h)
theorem putIn_strict (h : Ordr lt) {ltb : α → α → Bool} (hb : ∀ x y, ltb x y = true ↔ lt x y) {x : α} : ∀ {l : List α}, l.Pairwise lt → x ∉ l → (putIn ltb x l).Pairwise lt
  | [], _, _ => List.pairwise_singleton ..
  | y :: l, hp, hn => by
    have h1 := List.pairwise_cons.1 hp
    unfold putIn
    by_cases hy : ltb y x = true
    · rw [List.takeWhile_cons_of_pos (p := fun y => ltb y x) hy, List.dropWhile_cons_of_pos (p := fun y => ltb y x) hy, List.cons_append]
      have ih := putIn_strict h hb h1.2 (fun e => hn (List.mem_cons_of_mem _ e))
      refine List.pairwise_cons.2 ⟨fun z hz => ?_, ih⟩
      rcases (mem_putIn ltb x l z).1 hz with e | e
      · rw [e]; exact (hb y x).1 hy
      · exact h1.1 z e
    · rw [List.takeWhile_cons_of_neg (p := fun y => ltb y x) hy, List.dropWhile_cons_of_neg (p := fun y => ltb y x) hy, List.nil_append]
      have hxy : lt x y := by
        rcases Classical.em (lt x y) with e | e
        · exact e
        · exact absurd (h.tri x y e (fun e2 => hy ((hb y x).2 e2))) (fun e2 => hn (by simp [e2]))
      refine List.pairwise_cons.2 ⟨fun z hz => ?_, hp⟩
      rcases List.mem_cons.1 hz with e | e
      · rw [e]; exact hxy
      · exact h.tr x y z hxy (h1.1 z e)
def setR [DecidableEq α] (ltb : α → α → Bool) (l : List α) : List α := l.foldl (fun out x => if x ∈ out then out else putIn ltb x out) []
theorem setR_snoc [DecidableEq α] (ltb : α → α → Bool) (l : List α) (x : α) : setR ltb (l ++ [x]) = if x ∈ setR ltb l then setR ltb l else putIn ltb x (setR ltb l) := by
  unfold setR
  rw [List.foldl_append]
  rfl
theorem setR_ok [DecidableEq α] (h : Ordr lt) {ltb : α → α → Bool} (hb : ∀ x y, ltb x y = true ↔ lt x y) (l : List α) : (setR ltb l).Pairwise lt ∧ ∀ x, x ∈ setR ltb l ↔ x ∈ l := by
  refine snoc_ind (P := fun l => (setR ltb l).Pairwise lt ∧ ∀ x, x ∈ setR ltb l ↔ x ∈ l) ⟨List.Pairwise.nil, fun x => Iff.rfl⟩ (fun l x ih => ?_) l
  · revert ih; intro ih
    rw [setR_snoc]
    split
    · rename_i hx
      refine ⟨ih.1, fun z => ?_⟩
      rw [ih.2, List.mem_append, List.mem_singleton]
      constructor
      · exact .inl
      · rintro (e | e)
        · exact e
        · rw [e]; exact (ih.2 x).1 hx
    · rename_i hx
      refine ⟨putIn_strict h hb ih.1 hx, fun z => ?_⟩
      rw [mem_putIn, ih.2, List.mem_append, List.mem_singleton, or_comm]
theorem setR_len [DecidableEq α] (ltb : α → α → Bool) (l : List α) : (setR ltb l).length ≤ l.length := by
  refine snoc_ind (P := fun l => (setR ltb l).length ≤ l.length) (Nat.le_refl _) (fun l x ih => ?_) l
  · revert ih; intro ih
    rw [setR_snoc, List.length_append]
    split
    · simp; omega
    · unfold putIn
      rw [List.length_append, List.length_cons]
      have := congrArg List.length (List.takeWhile_append_dropWhile (p := fun y => ltb y x) (l := setR ltb l))
      rw [List.length_append] at this
      simp
      omega
end
end Go.Proofs.YtlmefcepdadfjaaGreat
/- Arguments that are slices of rows. -/
namespace Go.Proofs.YtlmefcepdadfjaaGreat
open Go.RowKit

theorem open_rows {P : Program} {α : Type} [Inhabited α] (E : Enc α) (hE : E.k ≤ 100) {w : World} {d : Nat} {e : TypeId} {v : Value} (ks : List CK) (hv : FitK P w (d + 1) (.slice e) v) (hk : kindsOf P 40 e = some ks) (hc : P.cellsOf e = ks.length) (hlen : ks.length = E.k) (hone : ∀ cs, FitR P w d ks cs → ∃ x, cs = E.enc x) :
    ∃ (ao : Option Addr) (n cap : Nat), v = .slice ao n cap ∧ n ≤ maxLen ∧ ∃ l : List α, l.length = min n 1000 ∧ Rd w ao (E.fl l) := by
  obtain ⟨ao, n, cap, rfl, h1, h2, h3⟩ := hv
  obtain ⟨xs, hl, hrd, hx⟩ := h3 ks hk hc
  rw [hlen] at hl
  replace hx : ∀ i j k x, i < n → ks[j]? = some k → xs[i * E.k + j]? = some x → FitK P w d k x := by rw [← hlen]; exact hx
  have hmul : ∀ i, i < n → i * E.k + E.k ≤ xs.length := by
    intro i hi
    have := Nat.mul_le_mul_right E.k (show i + 1 ≤ n from hi)
    rw [Nat.succ_mul] at this
    omega
  have each : ∀ i, i < n → ∃ x : α, (xs.drop (i * E.k)).take E.k = E.enc x := by
    intro i hi
    refine hone _ ⟨?_, fun j k v hk hj => ?_⟩
    · rw [List.length_take, List.length_drop, hlen]
      have := hmul i hi
      omega
    · rw [List.getElem?_take] at hj
      split at hj
      · rw [List.getElem?_drop] at hj
        exact hx i j k v hi hk hj
      · cases hj
  let f : Nat → α := fun i => if h : i < n then Classical.choose (each i h) else default
  have hf : ∀ i, i < n → (xs.drop (i * E.k)).take E.k = E.enc (f i) := by
    intro i hi
    simp only [f, dif_pos hi]
    exact Classical.choose_spec (each i hi)
  have hrow : ∀ m, m ≤ n → E.fl ((List.range m).map f) = xs.take (m * E.k) := by
    intro m
    induction m with
    | zero => intro _; simp [Enc.fl]
    | succ m ih =>
      intro hm
      rw [List.range_succ, List.map_append, E.fl_append, ih (by omega), Nat.succ_mul, List.take_add, hf m (by omega)]
      simp [Enc.fl]
  refine ⟨ao, n, cap, rfl, by omega, (List.range (min n 1000)).map f, by simp, ?_⟩
  rw [hrow _ (Nat.min_le_left _ _)]
  have hb : min n 1000 * E.k ≤ 1000 * 100 := Nat.mul_le_mul (Nat.min_le_right _ _) hE
  refine ⟨by rw [List.length_take]; unfold maxLen; omega, fun hp => ?_⟩
  rw [List.length_take] at hp
  obtain ⟨g, o, hao, hg, hcell⟩ := hrd (by omega)
  refine ⟨g, o, hao, hg, fun j hj => ?_⟩
  rw [List.length_take] at hj
  rw [List.getElem?_take_of_lt (by omega)]
  exact hcell j (by omega)
end Go.Proofs.YtlmefcepdadfjaaGreat
/- Places: a box and a slot. -/
namespace Go.Proofs.YtlmefcepdadfjaaGreat
open Go.RowKit

structure Pl where
  bx : Int
  sl : Int
  deriving DecidableEq
instance : Inhabited Pl := ⟨⟨0, 0⟩⟩
def plC (p : Pl) : List Value := [.int .u32 p.bx, .int .i64 p.sl]
def plE : Enc Pl := ⟨plC, 2, by decide, fun _ => rfl, fun _ => rfl⟩
theorem plC_inj {x y : Pl} (h : plC x = plC y) : x = y := by
  unfold plC at h
  simp only [List.cons.injEq, Value.int.injEq, true_and, and_true] at h
  obtain ⟨a, b⟩ := x
  obtain ⟨c, d⟩ := y
  simp only [Pl.mk.injEq]
  exact h
def plK : List KD := [.int .u32, .int .i64]
theorem pl_eq (x y : Pl) : cellsEq (plC x) (plC y) = decide (x = y) := by
  have h := cellsEq_iff (ks := plK) (us := plC x) (vs := plC y) rfl rfl
  by_cases he : x = y
  · rw [decide_eq_true he, he]
    exact (cellsEq_iff (ks := plK) (us := plC y) (vs := plC y) rfl rfl).2 rfl
  · rw [decide_eq_false he]
    cases hc : cellsEq (plC x) (plC y) with
    | false => rfl
    | true => exact absurd (plC_inj (h.1 hc)) he
theorem SxRun.eqPl {x y : Pl} {o1 o2 : Operand} {A : Value → Prop} (h : A (.bool (decide (x = y)))) : SxRun SX.P (do eqGuard .eql 109 o1 o2 (.agg (plC x).toArray) (.agg (plC y).toArray); binOp .eql 109 (.agg (plC x).toArray) (.agg (plC y).toArray)) A :=
  SxRun.eq 2 rfl (ks := plK) rfl rfl (by kernel_rfl) rfl rfl rfl (by show A (.bool (cellsEq (plC x) (plC y))); rw [pl_eq]; exact h)
def ltP (a b : Pl) : Prop := a.bx < b.bx ∨ (a.bx = b.bx ∧ a.sl < b.sl)
def ltbP (a b : Pl) : Bool := decide (a.bx < b.bx) || (decide (a.bx = b.bx) && decide (a.sl < b.sl))
theorem ltbP_iff (a b : Pl) : ltbP a b = true ↔ ltP a b := by
  unfold ltbP ltP
  simp only [Bool.or_eq_true, Bool.and_eq_true, decide_eq_true_eq]
theorem ltP_ord : Ordr ltP where
  irr := fun x h => by unfold ltP at h; omega
  tr := fun x y z h1 h2 => by unfold ltP at *; omega
  tri := fun x y h1 h2 => by
    unfold ltP at h1 h2
    obtain ⟨a, b⟩ := x
    obtain ⟨c, d⟩ := y
    simp only [Pl.mk.injEq] at *
    omega
theorem RLessP_any (a b : Pl) (w : World) : Calls Tryz.prog 74 #[.agg (plC a).toArray, .agg (plC b).toArray] w fun e w' => e = .returned (.bool (ltbP a b)) ∧ Below w.heap.size w w' := by
  refine sx_fn (S := SX) (M := []) (N := 24) (H0 := []) Tryz.func74 rfl rfl rfl (Sat.nil _ _) ?_
  ((try refine sU ?_);repeat(refine sN fun _=>?_;try refine sU ?_))
  refine SxIf.dec (fun h => ?_) (fun h => ?_)
  · ((try refine sU ?_);repeat(refine sN fun _=>?_;try refine sU ?_))
    exact SxDone.mk fun w' hs => ⟨by unfold ltbP; rw [decide_eq_true h]; rfl, hs.touch.below⟩
  · ((try refine sU ?_);repeat(refine sN fun _=>?_;try refine sU ?_))
    refine SxIf.eq (fun h2 => ?_) (fun h2 => ?_)
    · ((try refine sU ?_);repeat(refine sN fun _=>?_;try refine sU ?_))
      exact SxDone.mk fun w' hs => ⟨by unfold ltbP; rw [decide_eq_false h, decide_eq_true h2]; rfl, hs.touch.below⟩
    · ((try refine sU ?_);repeat(refine sN fun _=>?_;try refine sU ?_))
      exact SxDone.mk fun w' hs => ⟨by unfold ltbP; rw [decide_eq_false h, decide_eq_false h2]; rfl, hs.touch.below⟩
end Go.Proofs.YtlmefcepdadfjaaGreat
/- Entries: a fingerprint, a length, a place. -/
namespace Go.Proofs.YtlmefcepdadfjaaGreat
open Go.RowKit

def u8V (b : UInt8) : Value := .int .u8 (b.toNat : Int)
structure En where
  fp : List UInt8
  ln : Int
  bx : Int
  sl : Int
  hf : fp.length = 32
  deriving DecidableEq
instance : Inhabited En := ⟨⟨List.replicate 32 0, 0, 0, 0, rfl⟩⟩
def enT (ln bx sl : Int) : List Value := [.int .i64 ln, .int .u32 bx, .int .i64 sl]
def enC (e : En) : List Value := e.fp.map u8V ++ enT e.ln e.bx e.sl
def En.pl (e : En) : Pl := ⟨e.bx, e.sl⟩
theorem enC_len (e : En) : (enC e).length = 35 := by unfold enC; rw [List.length_append, List.length_map, e.hf]; rfl
theorem allOne_u8 : ∀ (f : List UInt8) (r : List Value), allOne (f.map u8V ++ r) = allOne r
  | [], _ => rfl
  | _ :: f, r => allOne_u8 f r
theorem enC_one (e : En) : allOne (enC e) = true := by unfold enC; rw [allOne_u8]; rfl
def enE : Enc En := ⟨enC, 35, by decide, enC_len, enC_one⟩
theorem enC_tail (e : En) (j : Nat) (v : Value) (h : (enT e.ln e.bx e.sl)[j]? = some v) : (enE.enc e)[32 + j]? = some v := by
  show (e.fp.map u8V ++ enT e.ln e.bx e.sl)[32 + j]? = some v
  rw [List.getElem?_append_right (by rw [List.length_map, e.hf]; omega), List.length_map, e.hf, Nat.add_sub_cancel_left]
  exact h
theorem u8V_inj : ∀ {f g : List UInt8}, f.map u8V = g.map u8V → f = g
  | [], [], _ => rfl
  | [], _ :: _, h => by simp at h
  | _ :: _, [], h => by simp at h
  | a :: f, b :: g, h => by
    simp only [List.map_cons, List.cons.injEq] at h
    have h1 := h.1
    unfold u8V at h1
    simp only [Value.int.injEq, true_and] at h1
    rw [u8V_inj h.2, UInt8.toNat_inj.1 (by omega : a.toNat = b.toNat)]
theorem allK_u8 (ks : List KD) (vs : List Value) : ∀ f : List UInt8, allK (List.replicate f.length (.int .u8) ++ ks) (f.map u8V ++ vs) = allK ks vs
  | [] => rfl
  | _ :: f => allK_u8 ks vs f
end Go.Proofs.YtlmefcepdadfjaaGreat
/- A symbolic walk: maps. No program is named here. -/
namespace Go.Proofs.YtlmefcepdadfjaaGreat
open Go.RowKit

structure KeyT (S : Sx) (kt : Nat) where
  d : Nat
  ks : List KD
  i : TInf
  hd : Nat.ble d 10000 = true
  hk : kdsOf S d kt = some ks
  hi : tl S.T kt = some i
def KeyT.ok {S : Sx} {kt : Nat} (K : KeyT S kt) (v : Value) : Prop := allK K.ks v.cells.toList = true ∧ v = valT K.i.d v.cells.toList
section
variable {S : Sx}
theorem chk_run (b : Bool) (m : Nat) : ∀ (d t : Nat) (ks : List KD), kdsOf S d t = some ks → ∀ (i : TInf), tl S.T t = some i → ∀ (xs : List Value), allK ks xs = true → ∀ w, (Instr.checkKey b (m + d) t (valT i.d xs)).run S.P w = .ok () w
  | 0, t, ks, h, _, _, _, _, _ => by cases h
  | d + 1, t, ks, h, i, hi, xs, hx, w => by
    have hdesc := Sx.descOf hi
    unfold kdsOf at h
    rw [hdesc] at h
    rw [show m + (d + 1) = m + d + 1 from rfl]
    cases hd : i.d with
    | bool =>
      rw [hd] at hdesc
      obtain ⟨x, h1, h2⟩ := Sx.und0 hdesc
      obtain rfl := tdOf_bool h2
      simp [Instr.checkKey, run_underlying h1]
    | int k =>
      rw [hd] at hdesc
      have h1 := Sx.uint hdesc
      simp [Instr.checkKey, run_underlying h1]
    | string =>
      rw [hd] at hdesc
      have h1 := Sx.ustr hdesc
      simp [Instr.checkKey, run_underlying h1]
    | slice e => rw [hd] at h; cases h
    | other => rw [hd] at h; cases h
    | array n e =>
      rw [hd] at h hdesc
      simp only at h
      split at h
      · rename_i ke hke
        obtain rfl := Option.some.inj h
        obtain ⟨j, hj⟩ := sz_of_kds d e ke (szC_get hke).1
        obtain ⟨hjs, hj1⟩ := one_of hke hj
        obtain ⟨q, hq0, hq1, hq2, hq3⟩ := Sx.info hj
        have lx := allK_length hx
        rw [reps_len] at lx
        simp only [valT, isAggD, cond_true]
        rw [Instr.checkKey]
        simp only [Sem.run_bind, run_underlying (Sx.uarr hdesc), Result.andThen_ok]
        simp only [Std.Legacy.Range.forIn_eq_forIn_range', Std.Legacy.Range.size, Nat.sub_zero, Nat.add_one_sub_one, Nat.div_one]
        have each : ∀ s ∈ List.range' 0 n, ∃ a, (part e xs.toArray (s * j.size)).run S.P w = .ok a w ∧ (Instr.checkKey b (m + d) e a).run S.P w = .ok () w := by
          intro s hs
          have hsn : s < n := by have := List.mem_range'_1.1 hs; omega
          have hle : s * ke.length + ke.length ≤ n * ke.length := by rw [← Nat.succ_mul]; exact Nat.mul_le_mul_right _ hsn
          refine ⟨_, part_val (S := S) hj (xs := xs) (off := s * j.size) (by rw [hjs, lx]; exact hle) hj1 w, ?_⟩
          refine chk_run b m d e ke (szC_get hke).1 j hj _ ?_ w
          rw [hjs]
          have hx2 := hx
          rw [show n = s + (n - s - 1 + 1) by omega, reps_add] at hx2
          have h2 := (allK_append hx2).2
          rw [reps_len] at h2
          exact (allK_append (ks := ke) (ls := reps (n - s - 1) ke) h2).1
        generalize List.range' 0 n = is at each
        induction is with
        | nil => simp
        | cons s is ih =>
          obtain ⟨a, p1, p2⟩ := each s (by simp)
          simp only [List.forIn_cons, Sem.run_bind, run_size' hj, Result.andThen_ok, p1, p2, Sem.run_pure]
          exact ih (fun y hy => each y (by simp [hy]))
      · cases h
    | struct fs =>
      rw [hd] at h hdesc
      simp only at h
      cases hm : memN t S.cmp with
      | false => rw [hm] at h; cases h
      | true =>
        rw [hm] at h
        simp only [cond_true] at h
        obtain ⟨l, hl1, hl2⟩ := Sx.ustruct hdesc
        subst hl2
        obtain ⟨_, _, hnm⟩ := cmp_ok hm
        have hfo : S.P.fieldsOf t = l := by simp [Program.fieldsOf, hl1]
        rw [hfo] at hnm
        simp only [valT, isAggD, cond_true]
        rw [Instr.checkKey]
        simp only [Sem.run_bind, run_underlying hl1, Result.andThen_ok]
        rw [← Array.forIn_toList]
        have go : ∀ (L : List Field) (o : Nat) (ls : List KD), (∀ f ∈ L, f.name ≠ "_") → kdsFs (fun f => szC S f (kdsOf S d f)) o (L.map fun (f : Field) => (f.offset, f.type)) = some ls → o ≤ xs.length → allK ls (xs.drop o) = true →
            ∀ f ∈ L, f.name ≠ "_" ∧ ∃ a, (part f.type xs.toArray f.offset).run S.P w = .ok a w ∧ (Instr.checkKey b (m + d) f.type a).run S.P w = .ok () w := by
          intro L
          induction L with
          | nil => intro o ls _ _ _ _ f hf; simp at hf
          | cons f L ih =>
            intro o ls hn h ox hx g hg
            simp only [List.map_cons, kdsFs] at h
            cases hb : Nat.beq o f.offset with
            | false => rw [hb] at h; cases h
            | true =>
              rw [hb] at h
              have ho := Nat.eq_of_beq_eq_true hb
              simp only [cond_true] at h
              clear hb
              subst ho
              split at h
              · rename_i kf hkf
                split at h
                · rename_i lr hlr
                  obtain rfl := Option.some.inj h
                  obtain ⟨q, hq⟩ := sz_of_kds d f.type kf (szC_get hkf).1
                  obtain ⟨his, h1'⟩ := one_of hkf hq
                  have ax := allK_append hx
                  have lx := allK_length hx
                  simp only [List.length_drop, List.length_append] at lx
                  rcases List.mem_cons.1 hg with rfl | hg
                  · refine ⟨hn _ (by simp), _, part_val (S := S) hq (xs := xs) (off := g.offset) (by rw [his]; omega) h1' w, ?_⟩
                    rw [his]
                    exact chk_run b m d g.type kf (szC_get hkf).1 q hq _ ax.1 w
                  · exact ih _ lr (fun f hf => hn f (by simp [hf])) hlr (by omega) (by rw [← List.drop_drop]; exact ax.2) g hg
                · cases h
              · cases h
        have each := go l.toList 0 ks hnm h (Nat.zero_le _) hx
        generalize l.toList = L at each
        induction L with
        | nil => simp
        | cons f L ih =>
          obtain ⟨hn, a, p1, p2⟩ := each f (by simp)
          simp only [List.forIn_cons, Sem.run_bind, hn, ne_eq, not_false_eq_true, if_true, Result.andThen_ok, p1, p2, Sem.run_pure]
          exact ih (fun y hy => each y (by simp [hy]))
variable {kt : Nat} (K : KeyT S kt)
theorem KeyT.chk (b : Bool) {v : Value} (hv : K.ok v) (w : World) : (Instr.checkKey b 10000 kt v).run S.P w = .ok () w := by
  have h := chk_run (S := S) b (10000 - K.d) K.d kt K.ks K.hk K.i K.hi _ hv.1 w
  rw [show 10000 - K.d + K.d = 10000 by have := Nat.le_of_ble_eq_true K.hd; omega, ← hv.2] at h
  exact h
def keyEq (u v : Value) : Bool := cellsEq u.cells.toList v.cells.toList
theorem KeyT.eq_iff {u v : Value} (hu : K.ok u) (hv : K.ok v) : keyEq u v = true ↔ u = v := by
  unfold keyEq
  rw [cellsEq_iff hu.1 hv.1]
  exact ⟨fun h => by rw [hu.2, hv.2, h], fun h => by rw [h]⟩
theorem KeyT.eq_false {u v : Value} (hu : K.ok u) (hv : K.ok v) (h : u ≠ v) : keyEq u v = false := by
  cases hc : keyEq u v with
  | false => rfl
  | true => exact absurd ((K.eq_iff hu hv).1 hc) h
theorem KeyT.equal {u v : Value} (hu : K.ok u) (hv : K.ok v) (w : World) : (Op.equal kt u v).run S.P w = .ok (keyEq u v) w := by
  have h := eq_run (S := S) (10000 - K.d) K.d kt K.ks K.hk K.i K.hi _ _ hu.1 hv.1 w
  rw [show 10000 - K.d + K.d = 10000 by have := Nat.le_of_ble_eq_true K.hd; omega, ← hu.2, ← hv.2] at h
  exact h
def fnd (k : Value) : List MapEntry → Nat → Option (Nat × Value)
  | [], _ => none
  | e :: r, n => bif keyEq k e.key then some (n, e.val) else fnd k r (n + 1)
theorem KeyT.asking {k : Value} (hk : K.ok k) (w : World) : ∀ (es : List MapEntry) (n : Nat), (∀ e ∈ es, K.ok e.key) → (Instr.findAsking kt k es n).run S.P w = .ok (fnd k es n) w
  | [], n, _ => by simp [Instr.findAsking, fnd]
  | e :: r, n, h => by
    have h1 := K.equal hk (h e (by simp)) w
    have h2 := KeyT.asking hk w r (n + 1) (fun x hx => h x (by simp [hx]))
    simp only [Instr.findAsking, fnd, Sem.run_bind, h1, Result.andThen_ok]
    cases keyEq k e.key with
    | true => simp
    | false => simpa using h2
theorem sameNow_eq {td : TypeDesc} {k u : Value} {b : Bool} (h : Instr.sameNow td k u = some b) : keyEq k u = b := by
  unfold Instr.sameNow at h
  split at h
  · rename_i k1 a k2 b2
    split at h
    · simp only [Option.some.injEq] at h
      subst h
      simp only [keyEq, Value.cells, cellsEq, cellEq]
      cases a == b2 <;> rfl
    · cases h
  · rename_i a b2
    simp only [Option.some.injEq] at h
    subst h
    simp only [keyEq, Value.cells, cellsEq, cellEq]
    have : strEq a b2 = (a == b2) := by
      cases hc : (a == b2) with
      | true => exact (strEq_iff a b2).2 ((MapKept.bytes_beq a b2).1 hc)
      | false =>
        cases hs : strEq a b2 with
        | false => rfl
        | true => rw [(strEq_iff a b2).1 hs, (MapKept.bytes_beq b2 b2).2 rfl] at hc; cases hc
    rw [this]
    cases a == b2 <;> rfl
  · rename_i a b2
    simp only [Option.some.injEq] at h
    subst h
    simp only [keyEq, Value.cells, cellsEq, cellEq]
    cases a == b2 <;> rfl
  · cases h
theorem findNow_eq {td : TypeDesc} {k : Value} : ∀ {es : List MapEntry} {n : Nat} {r : Option (Nat × Value)}, Instr.findNow td k es n = some r → r = fnd k es n
  | [], n, r, h => by simp [Instr.findNow] at h; simp [fnd, ← h]
  | e :: es, n, r, h => by
    simp only [Instr.findNow] at h
    simp only [fnd]
    split at h
    · rename_i hs; rw [sameNow_eq hs]; simpa using h.symm
    · rename_i hs; rw [sameNow_eq hs]; simpa using findNow_eq h
    · cases h
theorem KeyT.find {k : Value} (hk : K.ok k) (w : World) (es : List MapEntry) (h : ∀ e ∈ es, K.ok e.key) : (Instr.findKey kt k es).run S.P w = .ok (fnd k es 0) w := by
  obtain ⟨x, h1, _⟩ := Sx.und0 (Sx.descOf K.hi)
  simp only [Instr.findKey, Sem.run_bind, run_underlying h1, Result.andThen_ok]
  split
  · rename_i r hr; rw [findNow_eq hr]; simp
  · exact K.asking hk w es 0 h
structure MapIs (w : World) (g : Nat) (arr : Array MapEntry) (clock : Nat) : Prop where
  at_ : w.heap[g]? = some (.map arr clock)
  ok : ∀ e ∈ arr.toList, K.ok e.key
  apart : (arr.toList.map (·.key)).Pairwise (· ≠ ·)
  born : (arr.toList.map (·.born)).Pairwise (· < ·)
  old : ∀ e ∈ arr.toList, e.born < clock
def kvOf (arr : Array MapEntry) : List (Value × Value) := arr.toList.map fun e => (e.key, e.val)
def mapX (g : Nat) (arr : Array MapEntry) (clock : Nat) : Ent := .gen
  { own := some g, uses := fun b => b = g, holds := fun w => MapIs K w g arr clock,
    own_uses := fun _ h => (Option.some.inj h).symm,
    uses_lt := fun _ b h hb => by rw [show b = g from hb]; exact (Array.getElem?_eq_some_iff.1 h.at_).1,
    kept := fun w w' row h hg hr => ⟨by rw [hg.block g (Array.getElem?_eq_some_iff.1 h.at_).1 (fun e => hr g e.symm rfl)]; exact h.at_, h.ok, h.apart, h.born, h.old⟩ }
def mapE (g : Nat) (es : List (Value × Value)) : Ent := .gen
  { own := some g, uses := fun b => b = g, holds := fun w => ∃ arr clock, kvOf arr = es ∧ MapIs K w g arr clock,
    own_uses := fun _ h => (Option.some.inj h).symm,
    uses_lt := fun _ b h hb => by obtain ⟨arr, clock, _, h⟩ := h; rw [show b = g from hb]; exact (Array.getElem?_eq_some_iff.1 h.at_).1,
    kept := fun w w' row h hg hr => by
      obtain ⟨arr, clock, he, h⟩ := h
      exact ⟨arr, clock, he, by rw [hg.block g (Array.getElem?_eq_some_iff.1 h.at_).1 (fun e => hr g e.symm rfl)]; exact h.at_, h.ok, h.apart, h.born, h.old⟩ }
variable {W : World} {M : List Nat} {H : Hp} {w : World} {N : Nat} {F : Fr}
theorem Sat.map (hs : Sat W M H w) (p : Nat) {g : Nat} {es : List (Value × Value)} (hp : H[p]? = some (mapE K g es)) : ∃ arr clock, kvOf arr = es ∧ MapIs K w g arr clock := hs.holds p _ hp
theorem fnd_at {k : Value} (hk : K.ok k) : ∀ {l : List MapEntry} {n j : Nat} {v : Value}, (∀ e ∈ l, K.ok e.key) → (l.map (·.key)).Pairwise (· ≠ ·) → (l.map fun e => (e.key, e.val))[j]? = some (k, v) → fnd k l n = some (n + j, v)
  | [], n, j, v, _, _, h => by simp at h
  | e :: r, n, 0, v, ho, _, h => by
    simp only [List.map_cons, List.getElem?_cons_zero, Option.some.injEq, Prod.mk.injEq] at h
    simp only [fnd]
    rw [← h.1, (K.eq_iff (ho e (by simp)) (ho e (by simp))).2 rfl, h.2]
    rfl
  | e :: r, n, j + 1, v, ho, hp, h => by
    simp only [List.map_cons, List.getElem?_cons_succ] at h
    have h1 := fnd_at hk (n := n + 1) (fun x hx => ho x (by simp [hx])) (List.pairwise_cons.1 hp).2 h
    have hm := List.mem_of_getElem? h
    obtain ⟨x, hx, he⟩ := List.mem_map.1 hm
    simp only [Prod.mk.injEq] at he
    have hne := (List.pairwise_cons.1 hp).1 x.key (List.mem_map.2 ⟨x, hx, rfl⟩)
    simp only [fnd]
    rw [K.eq_false hk (ho e (by simp)) (fun h => hne (h.symm.trans he.1.symm)), h1]
    simp only [cond_false, Option.some.injEq, Prod.mk.injEq, and_true]
    omega
theorem fnd_none {k : Value} (hk : K.ok k) : ∀ {l : List MapEntry} {n : Nat}, (∀ e ∈ l, K.ok e.key) → (∀ x ∈ l.map fun e => (e.key, e.val), x.1 ≠ k) → fnd k l n = none
  | [], n, _, _ => rfl
  | e :: r, n, ho, h => by
    simp only [fnd]
    rw [K.eq_false hk (ho e (by simp)) (fun hh => h (e.key, e.val) (by simp) hh.symm), fnd_none hk (fun x hx => ho x (by simp [hx])) (fun x hx => h x (by simp only [List.map_cons, List.mem_cons]; exact .inr hx))]
    rfl
def lookV (ok : Bool) (v : Value) (b : Bool) : Value := bif ok then .tuple #[v, .bool b] else v
theorem sameBits_cells (n : Nat) : ∀ {ks : List KD} {xs : List Value}, allK ks xs = true → ∀ x ∈ xs, Instr.sameBits n x x = true
  | [], [], _, x, hx => by simp at hx
  | [], _ :: _, h, _, _ => by simp [allK] at h
  | _ :: _, [], _, x, hx => by simp at hx
  | k :: ks, u :: us, h, x, hx => by
    simp only [allK, Bool.and_eq_true] at h
    rcases List.mem_cons.1 hx with rfl | hx
    · cases k <;> cases x <;> simp only [okK, Bool.false_eq_true, false_and] at h <;> simp [Instr.sameBits, MapKept.bytes_beq]
    · exact sameBits_cells n h.2 x hx
theorem zip_self_all (f : Value → Value → Bool) : ∀ {xs : List Value}, (∀ x ∈ xs, f x x = true) → ((xs.zip xs).all fun (x, y) => f x y) = true
  | [], _ => rfl
  | x :: xs, h => by
    simp only [List.zip_cons_cons, List.all_cons, Bool.and_eq_true]
    exact ⟨h x (by simp), zip_self_all f fun y hy => h y (by simp [hy])⟩
theorem KeyT.stays {k : Value} (hk : K.ok k) (w : World) : (Instr.keyThatStays k k).run S.P w = .ok k w := by
  have hb : Instr.sameBits 10000 k k = true := by
    have hc := sameBits_cells 9999 hk.1
    have hv := hk.2
    unfold valT at hv
    cases ha : isAggD K.i.d with
    | true =>
      rw [ha] at hv
      simp only [cond_true, Array.toArray_toList] at hv
      rw [hv]
      show ((k.cells.size == k.cells.size) && _) = true
      rw [beq_self_eq_true, Bool.true_and]
      exact zip_self_all _ hc
    | false =>
      rw [ha] at hv
      simp only [cond_false] at hv
      have hc2 := sameBits_cells 10000 hk.1
      cases hl : k.cells.toList with
      | nil =>
        rw [hl] at hv
        cases k <;> first
          | (simp [Value.cells] at hl; done)
          | (simp [undef] at hv; done)
          | (rename_i cs
             obtain rfl : cs = #[] := by simpa [Value.cells] using hl
             rfl)
      | cons u us =>
        rw [hl] at hv hc2
        simp only [List.headD_cons] at hv
        rw [hv]
        exact hc2 u (by simp)
  simp [Instr.keyThatStays, hb]
theorem heap_put {w : World} {g : Nat} (hg : g < w.heap.size) (o : Obj) : ({ w with heap := w.heap.setIfInBounds g o } : World).heap[g]? = some o ∧ w.grownBy { w with heap := w.heap.setIfInBounds g o } (some g) := by
  refine ⟨by simp [hg], rfl, rfl, rfl, by simp, fun k hk hne => ?_⟩
  have : g ≠ k := fun e => hne (by rw [e])
  simp [this]
theorem modify_toList {arr : Array MapEntry} {j : Nat} {e : MapEntry} (h : arr.toList[j]? = some e) (f : MapEntry → MapEntry) : (arr.modify j f).toList = arr.toList.set j (f e) := by
  apply List.ext_getElem?
  intro i
  rw [Array.getElem?_toList, Array.getElem?_modify, List.getElem?_set]
  have hl := (List.getElem?_eq_some_iff.1 h).1
  by_cases hi : j = i
  · subst hi
    rw [Array.getElem?_toList] at h
    simp only [if_pos, h, Option.map_some]
    rw [if_pos hl]
  · rw [if_neg hi, if_neg hi, Array.getElem?_toList]
theorem map_set_same {α β : Type} (f : α → β) {l : List α} {j : Nat} {e e' : α} (h : l[j]? = some e) (hf : f e' = f e) : (l.set j e').map f = l.map f := by
  apply List.ext_getElem?
  intro i
  rw [List.getElem?_map, List.getElem?_map, List.getElem?_set]
  by_cases hi : j = i
  · subst hi
    rw [if_pos rfl, h]
    have hl := (List.getElem?_eq_some_iff.1 h).1
    simp [hl, hf]
  · rw [if_neg hi]
variable {K}
theorem MapIs.put {g : Nat} {arr : Array MapEntry} {clock : Nat} (hM : MapIs K w g arr clock) {j : Nat} {k v0 : Value} (hk : K.ok k) (hj : (kvOf arr)[j]? = some (k, v0)) (v : Value) :
    ∃ w', w.heap.setIfInBounds g (.map (arr.modify j fun e => { e with key := k, val := v }) clock) = w'.heap ∧ w' = { w with heap := w.heap.setIfInBounds g (.map (arr.modify j fun e => { e with key := k, val := v }) clock) } ∧ w.grownBy w' (some g) ∧ MapIs K w' g (arr.modify j fun e => { e with key := k, val := v }) clock ∧ kvOf (arr.modify j fun e => { e with key := k, val := v }) = (kvOf arr).set j (k, v) := by
  have hlt := (Array.getElem?_eq_some_iff.1 hM.at_).1
  obtain ⟨h1, h2⟩ := heap_put hlt (.map (arr.modify j fun e => { e with key := k, val := v }) clock)
  unfold kvOf at hj
  rw [List.getElem?_map] at hj
  obtain ⟨e, he, hkv⟩ := Option.map_eq_some_iff.1 hj
  simp only [Prod.mk.injEq] at hkv
  have ht := modify_toList he fun e => { e with key := k, val := v }
  refine ⟨_, rfl, rfl, h2, ⟨h1, ?_, ?_, ?_, ?_⟩, ?_⟩
  · rw [ht]
    intro x hx
    rcases List.mem_or_eq_of_mem_set hx with hx | rfl
    · exact hM.ok x hx
    · exact hk
  · rw [ht, map_set_same (·.key) he hkv.1.symm]; exact hM.apart
  · rw [ht, map_set_same (·.born) (e' := { e with key := k, val := v }) he rfl]; exact hM.born
  · rw [ht]
    intro x hx
    rcases List.mem_or_eq_of_mem_set hx with hx | rfl
    · exact hM.old x hx
    · exact hM.old e (List.mem_of_getElem? he)
  · unfold kvOf; rw [ht, List.map_set]
theorem MapIs.push {g : Nat} {arr : Array MapEntry} {clock : Nat} (hM : MapIs K w g arr clock) {k : Value} (hk : K.ok k) (hn : ∀ x ∈ kvOf arr, x.1 ≠ k) (v : Value) :
    w.grownBy { w with heap := w.heap.setIfInBounds g (.map (arr.push ⟨k, v, clock⟩) (clock + 1)) } (some g) ∧ MapIs K { w with heap := w.heap.setIfInBounds g (.map (arr.push ⟨k, v, clock⟩) (clock + 1)) } g (arr.push ⟨k, v, clock⟩) (clock + 1) ∧ kvOf (arr.push ⟨k, v, clock⟩) = kvOf arr ++ [(k, v)] := by
  have hlt := (Array.getElem?_eq_some_iff.1 hM.at_).1
  obtain ⟨h1, h2⟩ := heap_put hlt (.map (arr.push ⟨k, v, clock⟩) (clock + 1))
  refine ⟨h2, ⟨h1, ?_, ?_, ?_, ?_⟩, ?_⟩
  · intro x hx
    simp only [Array.toList_push, List.mem_append, List.mem_singleton] at hx
    rcases hx with hx | rfl
    · exact hM.ok x hx
    · exact hk
  · rw [Array.toList_push, List.map_append, List.pairwise_append]
    refine ⟨hM.apart, by simp, fun x hx y hy => ?_⟩
    simp at hy
    subst hy
    obtain ⟨e, he, rfl⟩ := List.mem_map.1 hx
    exact hn (e.key, e.val) (List.mem_map.2 ⟨e, he, rfl⟩)
  · rw [Array.toList_push, List.map_append, List.pairwise_append]
    refine ⟨hM.born, by simp, fun x hx y hy => ?_⟩
    simp at hy
    subst hy
    obtain ⟨e, he, rfl⟩ := List.mem_map.1 hx
    exact hM.old e he
  · intro x hx
    simp only [Array.toList_push, List.mem_append, List.mem_singleton] at hx
    rcases hx with hx | rfl
    · exact Nat.lt_succ_of_lt (hM.old x hx)
    · exact Nat.lt_succ_self _
  · unfold kvOf; rw [Array.toList_push, List.map_append]; rfl
theorem SxSem.make (K : KeyT S kt) {o : Oper} {A : Value → Hp → Prop} {t : Nat} (hop : o.op = .makeMap t none) (h : ∀ g, A (.map (some g)) (mapE K g [] :: H)) : SxSem S W M N o F H A := by
  refine ⟨fun a w Q ha hs => ?_⟩
  obtain ⟨op, dst, ty, pos, after, guard⟩ := o
  simp only at hop
  subst hop
  have hM : MapIs K (w.alloc (.map #[] 0)) w.heap.size #[] 0 := ⟨heap_alloc_new w _, by simp, by simp, by simp, by simp⟩
  refine op_value (w' := w.alloc (.map #[] 0)) (by simp [execOp, Instr.makeMap]) (hs.cons (new_grown w _) (e := mapE K w.heap.size []) ⟨#[], 0, rfl, hM⟩ fun b hb => ?_) (h w.heap.size)
  rw [show b = w.heap.size from hb]
  exact Nat.le_refl _
end
end Go.Proofs.YtlmefcepdadfjaaGreat
