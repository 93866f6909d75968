/- Texts of this claim, one behind the other. -/
import Derived.Test.YtlmefcepdadfjaaGreatZSxO
import Derived.Test.YtlmefcepdadfjaaGreatZGen
import Derived.Test.YtlmefcepdadfjaaGreatProg
import Derived.Deep.QuietTactic
import Derived.BigQuiet
import Derived.Test.YtlmefcepdadfjaaGreatZDraw
/- A symbolic walk: m[k] op= v, and ranges over maps. No program is named here. -/
namespace Go.Proofs.YtlmefcepdadfjaaGreat
open Go.RowKit

theorem find_at1 {α : Type} {p : α → Bool} {l : List α} {k : Nat} {x : α} (h : ∀ (j : Nat) (y : α), j < k → l[j]? = some y → p y = false) (hk : l[k]? = some x) (hx : p x = true) : l.find? p = some x := by
  induction k generalizing l with
  | zero =>
    cases l with
    | nil => cases hk
    | cons y r => obtain rfl := Option.some.inj hk; exact List.find?_cons_of_pos hx
  | succ k ih =>
    cases l with
    | nil => cases hk
    | cons y r =>
      rw [List.find?_cons_of_neg (by rw [h 0 y (by omega) rfl]; simp)]
      exact ih (fun j z hj hz => h (j + 1) z (by omega) (by simpa using hz)) (by simpa using hk)
section
variable {S : Sx} {kt : Nat} (K : KeyT S kt)
/-- A map of which the j-th entry's number of birth is known. -/
def mapB (g : Nat) (es : List (Value × Value)) (j b : Nat) : Ent := .gen
  { own := some g, uses := fun x => x = g, holds := fun w => ∃ arr clock, kvOf arr = es ∧ (∃ e : MapEntry, arr.toList[j]? = some e ∧ e.born = b) ∧ MapIs K w g arr clock,
    own_uses := fun _ h => (Option.some.inj h).symm,
    uses_lt := fun _ x h hb => by obtain ⟨arr, clock, _, _, h⟩ := h; rw [show x = g from hb]; exact (Array.getElem?_eq_some_iff.1 h.at_).1,
    kept := fun w w' row h hg hr => by
      obtain ⟨arr, clock, he, hb, h⟩ := h
      exact ⟨arr, clock, he, hb, by rw [hg.block g (Array.getElem?_eq_some_iff.1 h.at_).1 (fun e => hr g e.symm rfl)]; exact h.at_, h.ok, h.apart, h.born, h.old⟩ }
/-- A step through a map: which entries have come. -/
def iterE (r g : Nat) (arr : Array MapEntry) (clock : Nat) (js : List Nat) : Ent := .gen
  { own := some r, uses := fun x => x = r, holds := fun w => w.heap[r]? = some (.mapIter (some g) clock ((js.map fun j => ((arr.toList[j]?).map (·.born)).getD 0).toArray) clock),
    own_uses := fun _ h => (Option.some.inj h).symm,
    uses_lt := fun _ x h hb => by rw [show x = r from hb]; exact (Array.getElem?_eq_some_iff.1 h).1,
    kept := fun w w' row h hg hr => by rw [hg.block r (Array.getElem?_eq_some_iff.1 h).1 (fun e => hr r e.symm rfl)]; exact h }
variable {W : World} {M : List Nat} {H : Hp} {w : World} {N : Nat} {F : Fr}
def IsMap (W : World) (M : List Nat) (H : Hp) (g : Nat) (es : List (Value × Value)) : Prop := ∀ w, Sat W M H w → ∃ arr clock, kvOf arr = es ∧ MapIs K w g arr clock
theorem IsMap.e {p g : Nat} {es : List (Value × Value)} (hp : H[p]? = some (mapE K g es)) : IsMap K W M H g es := fun _ hs => hs.holds p _ hp
theorem IsMap.x {p g clock : Nat} {arr : Array MapEntry} (hp : H[p]? = some (mapX K g arr clock)) : IsMap K W M H g (kvOf arr) := fun _ hs => ⟨arr, clock, rfl, hs.holds p _ hp⟩
theorem IsMap.b {p g j b : Nat} {es : List (Value × Value)} (hp : H[p]? = some (mapB K g es j b)) : IsMap K W M H g es := fun _ hs => by
  obtain ⟨arr, clock, h1, _, h2⟩ := hs.holds p _ hp
  exact ⟨arr, clock, h1, h2⟩
/-- What m[k] is. -/
def LookIs (S : Sx) (et : Nat) (es : List (Value × Value)) (k : Value) (ok : Bool) (r : Value) : Prop := (∃ (j : Nat) (v : Value), es[j]? = some (k, v) ∧ r = lookV ok v true) ∨ ((∀ x ∈ es, x.1 ≠ k) ∧ ∃ i, tl S.T et = some i ∧ r = lookV ok i.zero false)
theorem look_run {o : Oper} {t et : Nat} {m x : Operand} {ok : Bool} {g : Nat} {es : List (Value × Value)} {k r : Value} (hop : o.op = .lookup t m x ok) (ht : S.P.underlying t = some (.map kt et)) (hm : ev F m = some (.map (some g))) (hx : ev F x = some k) (hp : IsMap K W M H g es) (hk : K.ok k)
    (h : LookIs S et es k ok r) (a : Act) (w : World) (ha : Agree N F a) (hs : Sat W M H w) : (execOp a.eval o).run S.P w = .ok (.value r) w := by
  obtain ⟨arr, clock, rfl, hM⟩ := hp w hs
  have e1 := K.chk arr.isEmpty hk w
  have e2 := K.find hk w arr.toList hM.ok
  obtain ⟨op, dst, ty, pos, after, guard⟩ := o
  simp only at hop
  subst hop
  rcases h with ⟨j, v, hj, rfl⟩ | ⟨hn, i, hi, rfl⟩
  · rw [fnd_at K hk hM.ok hM.apart hj] at e2
    simp only [execOp, Instr.lookup, ev_eval ha hm, ev_eval ha hx, Sem.run_bind, run_underlying ht, Result.andThen_ok, MapKept.run_getObj_map hM.at_, e1, e2, Sem.run_pure, lookV]
    cases ok <;> simp
  · rw [fnd_none K hk hM.ok hn] at e2
    simp only [execOp, Instr.lookup, ev_eval ha hm, ev_eval ha hx, Sem.run_bind, run_underlying ht, Result.andThen_ok, MapKept.run_getObj_map hM.at_, e1, e2, Sem.run_pure, lookV, run_zero hi]
    cases ok <;> simp
/-- m[k], m known in whatever way. -/
theorem SxSem.lookG {o : Oper} {A : Value → Hp → Prop} {t et : Nat} {m x : Operand} {ok : Bool} {g : Nat} {es : List (Value × Value)} {k r : Value} (hop : o.op = .lookup t m x ok) (ht : S.P.underlying t = some (.map kt et)) (hm : ev F m = some (.map (some g))) (hx : ev F x = some k) (hp : IsMap K W M H g es) (hk : K.ok k)
    (h : LookIs S et es k ok r) (hA : A r H) : SxSem S W M N o F H A :=
  ⟨fun a w Q ha hs => op_value (w' := w) (look_run K hop ht hm hx hp hk h a w ha hs) hs hA⟩
/-- The entry of m[k] op= v. -/
theorem SxSem.mapEntry {o : Oper} {A : Value → Hp → Prop} {t et : Nat} {m x : Operand} (p : Nat) {g : Nat} {es : List (Value × Value)} {k : Value} (hop : o.op = .mapEntry t m x) (ht : S.P.underlying t = some (.map kt et)) (hm : ev F m = some (.map (some g))) (hx : ev F x = some k) (hp : H[p]? = some (mapE K g es)) (hk : K.ok k)
    (h : (∃ (j : Nat) (v : Value), es[j]? = some (k, v) ∧ ∀ b : Nat, A (.tuple #[v, .int .i64 (b : Nat)]) (H.set p (mapB K g es j b))) ∨ ((∀ x ∈ es, x.1 ≠ k) ∧ ∃ i, tl S.T et = some i ∧ ∀ b : Nat, A (.tuple #[i.zero, .int .i64 (b : Nat)]) (H.set p (mapB K g (es ++ [(k, i.zero)]) es.length b)))) : SxSem S W M N o F H A := by
  refine ⟨fun a w Q ha hs => ?_⟩
  obtain ⟨arr, clock, rfl, hM⟩ := hs.map K p hp
  have e1 := K.chk false hk w
  have e2 := K.find hk w arr.toList hM.ok
  obtain ⟨op, dst, ty, pos, after, guard⟩ := o
  simp only at hop
  subst hop
  rcases h with ⟨j, v, hj, hA⟩ | ⟨hn, i, hi, hA⟩
  · rw [fnd_at K hk hM.ok hM.apart hj, Nat.zero_add] at e2
    have hj0 := hj
    unfold kvOf at hj0
    rw [List.getElem?_map] at hj0
    obtain ⟨e, he, hkv⟩ := Option.map_eq_some_iff.1 hj0
    simp only [Prod.mk.injEq] at hkv
    have hea : arr[j]? = some e := by rw [← Array.getElem?_toList]; exact he
    obtain ⟨w', _, hw', hg, hM', hkv'⟩ := hM.put hk hj v
    have hsame : ({ key := k, val := v, born := e.born } : MapEntry) = e := by obtain ⟨a, b, c⟩ := e; simp only at hkv; obtain ⟨rfl, rfl⟩ := hkv; rfl
    have hmod : arr.modify j (fun e => { e with key := k, val := v }) = arr.modify j (fun e => { e with key := k }) := by
      apply Array.ext'
      rw [modify_toList he, modify_toList he]
      congr 1
      obtain ⟨a, b, c⟩ := e; simp only at hkv; obtain ⟨rfl, rfl⟩ := hkv; rfl
    have hset : (kvOf arr).set j (k, v) = kvOf arr := by
      apply List.ext_getElem?
      intro n
      rw [List.getElem?_set]
      by_cases hjn : j = n
      · subst hjn
        have hl := (List.getElem?_eq_some_iff.1 hj).1
        rw [if_pos rfl, if_pos hl, hj]
      · rw [if_neg hjn]
    rw [hset] at hkv'
    have e3 := K.stays hk w
    have hb : (arr.modify j fun e => { e with key := k, val := v }).toList[j]? = some e := by
      rw [modify_toList he, hsame, List.getElem?_set_self ((List.getElem?_eq_some_iff.1 he).1)]
    refine op_value (w' := w') ?_ (hs.set hp (by rw [show (mapE K g (kvOf arr)).own = some g from rfl]; exact hg) (e' := mapB K g (kvOf arr) j e.born) ⟨_, clock, hkv', ⟨e, hb, rfl⟩, hM'⟩ fun x hx => .inl (by rw [show x = g from hx]; rfl)) (hA e.born)
    simp only [execOp, Instr.mapEntry, ev_eval ha hm, ev_eval ha hx, Sem.run_bind, run_underlying ht, Result.andThen_ok, MapKept.run_getObj_map hM.at_, e1, e2, hea, Option.map_some, Option.getD_some, hkv.1, e3, MapKept.run_setObj_map _ hM.at_, Sem.run_pure, goInt]
    rw [hw', hmod]
  · rw [fnd_none K hk hM.ok hn] at e2
    obtain ⟨hg, hM', hkv⟩ := hM.push hk hn i.zero
    have hb : (arr.push ⟨k, i.zero, clock⟩).toList[(kvOf arr).length]? = some ⟨k, i.zero, clock⟩ := by
      unfold kvOf
      rw [Array.toList_push, List.length_map, List.getElem?_append_right (Nat.le_refl _), Nat.sub_self]
      rfl
    refine op_value ?_ (hs.set hp (by rw [show (mapE K g (kvOf arr)).own = some g from rfl]; exact hg) (e' := mapB K g (kvOf arr ++ [(k, i.zero)]) (kvOf arr).length clock) ⟨_, clock + 1, hkv, ⟨_, hb, rfl⟩, hM'⟩ fun x hx => .inl (by rw [show x = g from hx]; rfl)) (hA clock)
    simp only [execOp, Instr.mapEntry, ev_eval ha hm, ev_eval ha hx, Sem.run_bind, run_underlying ht, Result.andThen_ok, MapKept.run_getObj_map hM.at_, e1, e2, run_zero hi, MapKept.run_setObj_map _ hM.at_, Sem.run_pure, goInt]
theorem born_inj {g : Nat} {arr : Array MapEntry} {clock : Nat} (hM : MapIs K w g arr clock) {i j : Nat} {e f : MapEntry} (hi : arr.toList[i]? = some e) (hj : arr.toList[j]? = some f) (h : e.born = f.born) : i = j := by
  obtain ⟨hil, rfl⟩ := List.getElem?_eq_some_iff.1 hi
  obtain ⟨hjl, rfl⟩ := List.getElem?_eq_some_iff.1 hj
  have hp := List.pairwise_iff_getElem.1 hM.born
  rcases Nat.lt_trichotomy i j with hlt | he | hlt
  · have := hp i j (by simpa using hil) (by simpa using hjl) hlt
    simp only [List.getElem_map] at this
    omega
  · exact he
  · have := hp j i (by simpa using hjl) (by simpa using hil) hlt
    simp only [List.getElem_map] at this
    omega
/-- The end of m[k] op= v. -/
theorem SxSem.entryStore {o : Oper} {A : Value → Hp → Prop} {t : Nat} {m x y : Operand} (p : Nat) {g j b : Nat} {es : List (Value × Value)} {k v0 v : Value} (hop : o.op = .entryStore t m x y) (hm : ev F m = some (.map (some g))) (hx : ev F x = some (.int .i64 (b : Nat))) (hy : ev F y = some v) (hp : H[p]? = some (mapB K g es j b)) (hj : es[j]? = some (k, v0))
    (h : A undef (H.set p (mapE K g (es.set j (k, v))))) : SxSem S W M N o F H A := by
  refine ⟨fun a w Q ha hs => ?_⟩
  obtain ⟨arr, clock, rfl, ⟨e, he, hb⟩, hM⟩ := hs.holds p _ hp
  obtain ⟨op, dst, ty, pos, after, guard⟩ := o
  simp only at hop
  subst hop
  have hk : e.key = k ∧ e.val = v0 := by
    unfold kvOf at hj
    rw [List.getElem?_map, he] at hj
    simpa using hj
  obtain ⟨hk, _⟩ := hk
  have hok : K.ok k := by rw [← hk]; exact hM.ok e (List.mem_of_getElem? he)
  obtain ⟨w', _, hw', hg, hM', hkv'⟩ := hM.put hok hj v
  have hmod : arr.modify j (fun e => { e with key := k, val := v }) = arr.modify j (fun e => { e with val := v }) := by
    apply Array.ext'
    rw [modify_toList he, modify_toList he, ← hk]
  have hl := (List.getElem?_eq_some_iff.1 he).1
  have hea : arr[j]? = some e := by rw [← Array.getElem?_toList]; exact he
  have hfi : arr.findIdx? (fun e => ((e.born : Nat) : Int) == ((b : Nat) : Int)) = some j := by
    rw [Array.findIdx?_eq_some_iff_getElem]
    have hjs : j < arr.size := by simpa using hl
    have hej : arr[j] = e := by rw [Array.getElem?_eq_getElem hjs] at hea; exact Option.some.inj hea
    refine ⟨hjs, by rw [hej, hb]; exact beq_self_eq_true _, fun i hi => ?_⟩
    intro hc
    have hc2 : arr[i].born = b := by have := eq_of_beq hc; omega
    have := born_inj K hM (i := i) (j := j) (e := arr[i]) (f := e) (by rw [Array.getElem?_toList, Array.getElem?_eq_getElem (by omega)]) he (by rw [hc2, hb])
    omega
  refine op_skip (w' := w') ?_ (hs.set hp (by rw [show (mapB K g (kvOf arr) j b).own = some g from rfl]; exact hg) (e' := mapE K g ((kvOf arr).set j (k, v))) ⟨_, clock, hkv', hM'⟩ fun x hx => .inl (by rw [show x = g from hx]; rfl)) h
  simp [execOp, Instr.entryStore, ev_eval ha hm, ev_eval ha hx, ev_eval ha hy, MapKept.run_getObj_map hM.at_, asInt, asIntOf, hfi, MapKept.run_setObj_map _ hM.at_]
  rw [hw', hmod]
def IsMapX (W : World) (M : List Nat) (H : Hp) (g : Nat) (arr : Array MapEntry) (clock : Nat) : Prop := ∀ w, Sat W M H w → MapIs K w g arr clock
theorem IsMapX.x {p g clock : Nat} {arr : Array MapEntry} (hp : H[p]? = some (mapX K g arr clock)) : IsMapX K W M H g arr clock := fun _ hs => hs.holds p _ hp
theorem Weak.mapX {p g clock : Nat} {arr : Array MapEntry} (hp : H[p]? = some (mapX K g arr clock)) : Weak H (H.set p (mapE K g (kvOf arr))) := fun _ _ w hs =>
  hs.set hp (grown_refl w _) (e' := mapE K g (kvOf arr)) ⟨arr, clock, rfl, hs.holds p _ hp⟩ fun b hb => .inl (by rw [show b = g from hb]; rfl)
/-- range m. -/
theorem SxSem.range {o : Oper} {A : Value → Hp → Prop} {t et : Nat} {m : Operand} {g clock : Nat} {arr : Array MapEntry} (hop : o.op = .range t m) (ht : S.P.underlying t = some (.map kt et)) (hm : ev F m = some (.map (some g))) (hp : IsMapX K W M H g arr clock)
    (h : ∀ r, A (.pointer (some ⟨r, 0, none⟩)) (iterE r g arr clock [] :: H)) : SxSem S W M N o F H A := by
  refine ⟨fun a w Q ha hs => ?_⟩
  have hM : MapIs K w g arr clock := hp w hs
  obtain ⟨op, dst, ty, pos, after, guard⟩ := o
  simp only at hop
  subst hop
  refine op_value (w' := w.alloc (.mapIter (some g) clock #[] clock)) ?_ (hs.cons (new_grown w _) (e := iterE w.heap.size g arr clock []) (heap_alloc_new w _) fun b hb => ?_) (h w.heap.size)
  · simp [execOp, Instr.range, ev_eval ha hm, run_underlying ht, MapKept.run_getObj_map hM.at_]
  · rw [show b = w.heap.size from hb]; exact Nat.le_refl _
theorem run_getObj_iter {P : Program} {w : World} {r since last : Nat} {g : Option Nat} {seen : Array Nat} (hb : w.heap[r]? = some (.mapIter g since seen last)) : (getObj r).run P w = .ok (.mapIter g since seen last) w := by
  simp [getObj, Sem.run, hb]
theorem run_setObj_iter {P : Program} {w : World} {r since last : Nat} {g : Option Nat} {seen : Array Nat} (o : Obj) (hb : w.heap[r]? = some (.mapIter g since seen last)) : (setObj r o).run P w = .ok () { w with heap := w.heap.setIfInBounds r o } := by
  simp [setObj, Sem.run, hb]
/-- The step of a range over a map that stays as it is. -/
theorem SxSem.next {o : Oper} {A : Value → Hp → Prop} {it : Operand} (q : Nat) {r g clock : Nat} {arr : Array MapEntry} {js : List Nat} (hop : o.op = .next it false) (hi : ev F it = some (.pointer (some ⟨r, 0, none⟩))) (hp : IsMapX K W M H g arr clock) (hq : H[q]? = some (iterE r g arr clock js)) (hjs : ∀ j ∈ js, j < arr.size)
    (h0 : (∀ j, j < arr.size → j ∈ js) → A (.tuple #[.bool false]) H)
    (h1 : ∀ (j : Nat) (e : MapEntry), arr.toList[j]? = some e → j ∉ js → A (.tuple #[.bool true, e.key, e.val]) (H.set q (iterE r g arr clock (js ++ [j])))) : SxSem S W M N o F H A := by
  refine ⟨fun a w Q ha hs => ?_⟩
  have hM : MapIs K w g arr clock := hp w hs
  have hI : w.heap[r]? = some (.mapIter (some g) clock ((js.map fun j => ((arr.toList[j]?).map (·.born)).getD 0).toArray) clock) := hs.holds q _ hq
  obtain ⟨op, dst, ty, pos, after, guard⟩ := o
  simp only at hop
  subst hop
  obtain ⟨seen, hseen⟩ : ∃ s, s = (js.map fun j => ((arr.toList[j]?).map (·.born)).getD 0).toArray := ⟨_, rfl⟩
  rw [← hseen] at hI
  have hmem : ∀ (j : Nat) (e : MapEntry), arr.toList[j]? = some e → (seen.contains e.born = true ↔ j ∈ js) := by
    intro j e he
    rw [hseen, List.contains_toArray, List.contains_iff_mem, List.mem_map]
    constructor
    · rintro ⟨i, hi, hb⟩
      have hil := hjs i hi
      obtain ⟨f, hf⟩ : ∃ f, arr.toList[i]? = some f := ⟨arr.toList[i]'(by simpa using hil), by simp [hil]⟩
      rw [hf] at hb
      have := born_inj K hM hf he hb
      rw [← this]; exact hi
    · intro hj
      exact ⟨j, hj, by rw [he]; rfl⟩
  have hnone : (!seen.isEmpty && !arr.isEmpty && arr.all (·.born ≥ clock)) = false := by
    cases hemp : arr.isEmpty with
    | true => simp
    | false =>
      have hsz : 0 < arr.size := by
        rcases Nat.eq_zero_or_pos arr.size with h | h
        · simp [Array.isEmpty, h] at hemp
        · exact h
      have : arr.all (·.born ≥ clock) = false := by
        rw [Array.all_eq_false]
        refine ⟨0, hsz, ?_⟩
        have := hM.old arr[0] (by simp)
        simp only [ge_iff_le, decide_eq_true_eq]
        omega
      rw [this]; simp
  have hold : (arr.filter fun e => !seen.contains e.born).filter (·.born < clock) = arr.filter fun e => !seen.contains e.born := by
    rw [Array.filter_eq_self]
    intro e he
    have := hM.old e (by simpa using (Array.mem_filter.1 he).1)
    simpa using this
  have hnew : (arr.filter fun e => !seen.contains e.born).filter (·.born ≥ clock) = #[] := by
    rw [Array.filter_eq_empty_iff]
    intro e he
    have := hM.old e (by simpa using (Array.mem_filter.1 he).1)
    simp only [ge_iff_le, decide_eq_true_eq]
    omega
  have g1 := MapKept.run_getObj_map (P := S.P) hM.at_
  have g2 := run_getObj_iter (P := S.P) hI
  obtain ⟨left, hleft⟩ : ∃ l, l = arr.filter fun e => !seen.contains e.born := ⟨_, rfl⟩
  rw [← hleft] at hold hnew
  have hE : ∀ (w1 : World) (i : Nat) (e : MapEntry), left[i]? = some e → w1.heap = w.heap → Sat W M H w1 → ∃ w2 H', (setObj r (.mapIter (some g) clock (seen.push e.born) clock)).run S.P w1 = .ok () w2 ∧ Sat W M H' w2 ∧ A (.tuple #[.bool true, e.key, e.val]) H' := by
    intro w1 i e hie hw1 hs1
    have hel : e ∈ left := Array.mem_of_getElem? hie
    rw [hleft, Array.mem_filter] at hel
    obtain ⟨hea, hec⟩ := hel
    obtain ⟨j, hj⟩ := List.getElem?_of_mem (show e ∈ arr.toList by simpa using hea)
    have hjn : j ∉ js := fun h => by rw [(hmem j e hj).2 h] at hec; cases hec
    have hI1 : w1.heap[r]? = some (.mapIter (some g) clock seen clock) := by rw [hw1]; exact hI
    have hlt := (Array.getElem?_eq_some_iff.1 hI1).1
    obtain ⟨k1, k2⟩ := heap_put hlt (.mapIter (some g) clock (seen.push e.born) clock)
    refine ⟨_, _, run_setObj_iter _ hI1, hs1.set hq k2 (e' := iterE r g arr clock (js ++ [j])) ?_ fun b hb => .inl (by rw [show b = r from hb]; rfl), h1 j e hj hjn⟩
    show _ = some (Obj.mapIter (some g) clock (((js ++ [j]).map fun j => ((arr.toList[j]?).map (·.born)).getD 0).toArray) clock)
    have hj2 : arr[j]? = some e := by rw [← Array.getElem?_toList]; exact hj
    rw [k1, hseen, List.map_append]
    simp [hj2]
  by_cases hemp : left.size = 0
  · have hl0 : left = #[] := Array.eq_empty_of_size_eq_zero hemp
    have hA := h0 fun j hj => by
      obtain ⟨e, he⟩ : ∃ e, arr.toList[j]? = some e := ⟨arr.toList[j]'(by simpa using hj), by simp [hj]⟩
      rw [← hmem j e he]
      have hm : e ∉ left := by rw [hl0]; simp
      rw [hleft, Array.mem_filter] at hm
      have hea : e ∈ arr := by simpa using List.mem_of_getElem? he
      cases hc : seen.contains e.born with
      | true => rfl
      | false => exact absurd ⟨hea, by rw [hc]; rfl⟩ hm
    refine op_value (w' := w) ?_ hs hA
    have hl1 : left.isEmpty = true := by rw [hl0]; rfl
    simp only [execOp, Instr.next, ev_eval ha hi, Sem.run_bind, g1, g2, Result.andThen_ok, hnone, ← hleft, hold, hnew, hl1, Bool.false_eq_true, if_false, if_true]
    simp [hl0, run_choose_drew, Question.forced]
  · have hpos : 0 < left.size := Nat.pos_of_ne_zero hemp
    have hne : left.isEmpty = false := by simp [Array.isEmpty, hemp]
    have hcan : ((if (false : Bool) = true then #[none] else #[]) ++ (left ++ #[]).map some : Array (Option MapEntry)) = left.map some := by simp
    have hch : ∃ (i : Nat) (w1 : World), i < left.size ∧ (choose (.mapNext left.size)).run S.P w = .ok i w1 ∧ (w1 = w ∨ w1 = w.drew) := by
      rw [run_choose_drew]
      by_cases hf : (Question.mapNext left.size).forced = true
      · rw [if_pos hf]; exact ⟨0, w, hpos, rfl, .inl rfl⟩
      · rw [if_neg hf]
        exact ⟨_, w.drew, Nat.mod_lt _ hpos, rfl, .inr rfl⟩
    obtain ⟨i, w1, hil, hch, hw1⟩ := hch
    obtain ⟨e, he⟩ : ∃ e, left[i]? = some e := ⟨left[i], by simp [hil]⟩
    obtain ⟨w2, H', r1, r2, r3⟩ := hE w1 i e he (by rcases hw1 with rfl | rfl <;> rfl) (by
      rcases hw1 with rfl | rfl
      · exact hs
      · exact hs.grow (drew_grown w))
    refine op_value (w' := w2) ?_ r2 r3
    simp only [execOp, Instr.next, ev_eval ha hi, Sem.run_bind, g1, g2, Result.andThen_ok, hnone, ← hleft, hold, hnew, hne, Bool.false_eq_true, if_false]
    simp [-run_choose_drew, -run_choose, hch, he, r1]
/-- A map is there. -/
def MapH (w : World) (g : Nat) (es : List (Value × Value)) : Prop := ∃ arr clock, kvOf arr = es ∧ MapIs K w g arr clock
theorem MapH.lt {g : Nat} {es : List (Value × Value)} (h : MapH K w g es) : g < w.heap.size := by
  obtain ⟨arr, clock, _, h⟩ := h
  exact (Array.getElem?_eq_some_iff.1 h.at_).1
theorem MapH.kept {w w' : World} {row : Option Nat} {g : Nat} {es : List (Value × Value)} (h : MapH K w g es) (hg : w.grownBy w' row) (hr : row ≠ some g) : MapH K w' g es := by
  obtain ⟨arr, clock, he, h⟩ := h
  exact ⟨arr, clock, he, by rw [hg.block g (Array.getElem?_eq_some_iff.1 h.at_).1 (fun e => hr e.symm)]; exact h.at_, h.ok, h.apart, h.born, h.old⟩
/-- A map that is only read. -/
def mapR (g : Nat) (es : List (Value × Value)) : Ent := .gen
  { own := none, uses := fun b => b = g, holds := fun w => MapH K w g es,
    own_uses := fun _ h => (by cases h),
    uses_lt := fun _ b h hb => by rw [show b = g from hb]; exact h.lt,
    kept := fun w w' row h hg hr => h.kept K hg fun e => hr g e rfl }
theorem IsMap.r {p g : Nat} {es : List (Value × Value)} (hp : H[p]? = some (mapR K g es)) : IsMap K W M H g es := fun _ hs => hs.holds p _ hp
/-- The map of a table is opened, to be read. -/
def mapY (g : Nat) (arr : Array MapEntry) (clock : Nat) : Ent := .gen
  { own := none, uses := fun b => b = g, holds := fun w => MapIs K w g arr clock,
    own_uses := fun _ h => (by cases h),
    uses_lt := fun _ b h hb => by rw [show b = g from hb]; exact (Array.getElem?_eq_some_iff.1 h.at_).1,
    kept := fun w w' row h hg hr => ⟨by rw [hg.block g (Array.getElem?_eq_some_iff.1 h.at_).1 (fun e => hr g e.symm rfl)]; exact h.at_, h.ok, h.apart, h.born, h.old⟩ }
theorem IsMapX.y {p g clock : Nat} {arr : Array MapEntry} (hp : H[p]? = some (mapY K g arr clock)) : IsMapX K W M H g arr clock := fun _ hs => hs.holds p _ hp
theorem Sat.rdsM (W : World) (M : List Nat) (H : Hp) (h : ∀ (i : Nat) (e : Ent), H[i]? = some e → e.own = none ∧ e.Holds W) : Sat W M H W :=
  ⟨Touch.refl _ _, fun i e hi => (h i e hi).2, fun i e hi g hg => (by rw [(h i e hi).1] at hg; cases hg), fun i j a b _ hi _ g hg => (by rw [(h i a hi).1] at hg; cases hg)⟩
end
end Go.Proofs.YtlmefcepdadfjaaGreat
/- Plain: the words and rounds of SHA-256 on numbers below 2^32. The walks over RotateLeft32, the package's over, the document's turned. -/
namespace Go.Proofs.YtlmefcepdadfjaaGreat
open Go.RowKit

def rotr (x n : Nat) : Nat := (x / 2 ^ n) ||| (x * 2 ^ (32 - n) % 4294967296)
theorem rotr_lt (x n : Nat) (hx : x < 4294967296) : rotr x n < 4294967296 :=
  Nat.or_lt_two_pow (n := 32) (Nat.lt_of_le_of_lt (Nat.div_le_self _ _) hx) (Nat.mod_lt _ (by omega))
/-- A word turned by two numbers, one over the other, and a third: turned or shifted. -/
def overS (x a b d : Nat) : Nat := rotr x a ^^^ rotr x b ^^^ (x / 2 ^ d)
def overR (x a b c : Nat) : Nat := rotr x a ^^^ rotr x b ^^^ rotr x c
theorem u32_orI (a b : Int) (x y : Nat) (ha : a = (x : Int)) (hb : b = (y : Int)) (hx : x < 4294967296) (hy : y < 4294967296) : bits BinOp.or IntKind.u32 a b = ((x ||| y : Nat) : Int) := by
  subst ha; subst hb; exact u32_or_nat x y hx hy
theorem u32_xorI (a b : Int) (x y : Nat) (ha : a = (x : Int)) (hb : b = (y : Int)) (hx : x < 4294967296) (hy : y < 4294967296) : bits BinOp.xor IntKind.u32 a b = ((x ^^^ y : Nat) : Int) := by
  subst ha; subst hb; exact u32_xor_nat x y hx hy
theorem rotl_bits (x n : Nat) (hx : x < 4294967296) (h1 : 1 ≤ n) (h2 : n ≤ 31) : bits BinOp.or IntKind.u32 ((x : Int) * 2 ^ n % 4294967296) ((x : Int) / 2 ^ (32 - n)) = (rotr x (32 - n) : Nat) := by
  rw [u32_orI _ _ (x * 2 ^ n % 4294967296) (x / 2 ^ (32 - n)) (by simp) (by simp) (Nat.mod_lt _ (by omega)) (Nat.lt_of_le_of_lt (Nat.div_le_self _ _) hx), rotr, Nat.or_comm, show 32 - (32 - n) = n by omega]
theorem and31 : ∀ a : Nat, a < 32 → 1 ≤ a → bits BinOp.and IntKind.u64 (IntKind.u64.wrap (-(a : Int))) 31 = ((32 - a : Nat) : Int) := by decide +kernel
theorem rotl_any (x : Nat) (hx : x < 4294967296) (k : Int) (n : Nat) (hk : k = -(n : Int)) (h1 : 1 ≤ n) (h2 : n ≤ 31) (w : World) :
    Calls Tryz.prog 174 #[.int .u32 (x : Nat), .int .i64 k] w fun e w' => e = .returned (.int .u32 (rotr x n : Nat)) ∧ w = w' := by
  have he := and31 n (by omega) h1
  rw [← hk] at he
  obtain ⟨m, hm⟩ : ∃ m, 32 - n = m := ⟨_, rfl⟩
  rw [hm] at he
  have hr := rotl_bits x m hx (by omega) (by omega)
  have h3 : 1 ≤ m ∧ m ≤ 31 := by omega
  have h4 : 32 - m = n := by omega
  rw [h4] at hr
  obtain ⟨h5, h6⟩ := h3
  have HR := Go.Lib.hid hr; have H4 := Go.Lib.hid h4
  clear hr hk hm h4 h1 h2
  go_enter Tryz.func174, Tryz.ntmps174
  go_wp2
  go_ret
  exact ⟨ret_int (by rw [← HR.out, H4.out]), rfl⟩
theorem over_s (x : Nat) (hx : x < 4294967296) (a b c d : Int) (ha : 1 ≤ a ∧ a ≤ 31) (hb : 1 ≤ b ∧ b ≤ 31) (hd : 1 ≤ d ∧ d ≤ 31) (w : World) :
    Calls Tryz.prog 162 #[.int .u32 (x : Nat), .int .i64 a, .int .i64 b, .int .i64 c, .int .i64 d] w fun e w' => e = .returned (.int .u32 (overS x a.toNat b.toNat d.toNat : Nat)) ∧ w = w' := by
  obtain ⟨a1, a2⟩ := ha; obtain ⟨b1, b2⟩ := hb; obtain ⟨d1, d2⟩ := hd
  have r1 := rotr_lt x a.toNat hx
  have r2 := rotr_lt x b.toNat hx
  have r3 := xor_lt32 r1 r2
  have r4 : x / 2 ^ d.toNat < 4294967296 := Nat.lt_of_le_of_lt (Nat.div_le_self _ _) hx
  have hv : ∀ y : Int, y = ((x / 2 ^ d.toNat : Nat) : Int) → bits BinOp.xor IntKind.u32 ((rotr x a.toNat ^^^ rotr x b.toNat : Nat) : Int) y = (overS x a.toNat b.toNat d.toNat : Nat) := fun y hy => u32_xorI _ _ _ _ rfl hy r3 r4
  have HV := Go.Lib.hid hv
  clear hv r3 r4
  go_enter Tryz.func162, Tryz.ntmps162
  go_wp2_with fail
  refine (rotl_any x hx _ a.toNat (by omega) (by omega) (by omega) _).mono ?_
  rintro e w1 ⟨rfl, rfl⟩
  go_wp2_with fail
  refine (rotl_any x hx _ b.toNat (by omega) (by omega) (by omega) _).mono ?_
  rintro e w1 ⟨rfl, rfl⟩
  go_wp2_with fail
  go_ret
  exact ⟨ret_int (HV.out _ (by simp)), rfl⟩
theorem over_r (x : Nat) (hx : x < 4294967296) (a b c : Int) (ha : 1 ≤ a ∧ a ≤ 31) (hb : 1 ≤ b ∧ b ≤ 31) (hc : 1 ≤ c ∧ c ≤ 31) (w : World) :
    Calls Tryz.prog 162 #[.int .u32 (x : Nat), .int .i64 a, .int .i64 b, .int .i64 c, .int .i64 0] w fun e w' => e = .returned (.int .u32 (overR x a.toNat b.toNat c.toNat : Nat)) ∧ w = w' := by
  obtain ⟨a1, a2⟩ := ha; obtain ⟨b1, b2⟩ := hb; obtain ⟨d1, d2⟩ := hc
  have r1 := rotr_lt x a.toNat hx
  have r2 := rotr_lt x b.toNat hx
  have r3 := xor_lt32 r1 r2
  have r4 := rotr_lt x c.toNat hx
  go_enter Tryz.func162, Tryz.ntmps162
  go_wp2_with fail
  refine (rotl_any x hx _ a.toNat (by omega) (by omega) (by omega) _).mono ?_
  rintro e w1 ⟨rfl, rfl⟩
  go_wp2_with fail
  refine (rotl_any x hx _ b.toNat (by omega) (by omega) (by omega) _).mono ?_
  rintro e w1 ⟨rfl, rfl⟩
  go_wp2_with fail
  refine (rotl_any x hx _ c.toNat (by omega) (by omega) (by omega) _).mono ?_
  rintro e w1 ⟨rfl, rfl⟩
  go_wp2_with fail
  go_ret
  exact ⟨rfl, rfl⟩
end Go.Proofs.YtlmefcepdadfjaaGreat
