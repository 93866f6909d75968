/- Texts of this claim, one behind the other. -/
import Derived.MapKept
import Derived.WideKeyRuns
import Derived.Test.YtlmefcepdadfjaaGreatZGen
import Derived.Test.YtlmefcepdadfjaaGreatProg
import Derived.Deep.QuietTactic
import Derived.BigQuiet
import Derived.Test.YtlmefcepdadfjaaGreatZOwnF
/- A symbolic walk: maps. No program is named here. -/
namespace Go.Proofs.YtlmefcepdadfjaaGreat
open Go.RowKit

structure KeyT (S : Sx) (kt : Nat) where
  d : Nat
  ks : List KD
  i : TInf
  hd : Nat.ble d 10000 = true
  hk : kdsOf S d kt = some ks
  hi : tl S.T kt = some i
def KeyT.ok {S : Sx} {kt : Nat} (K : KeyT S kt) (v : Value) : Prop := allK K.ks v.cells.toList = true ∧ v = valT K.i.d v.cells.toList
section
variable {S : Sx}
theorem chk_run (b : Bool) (m : Nat) : ∀ (d t : Nat) (ks : List KD), kdsOf S d t = some ks → ∀ (i : TInf), tl S.T t = some i → ∀ (xs : List Value), allK ks xs = true → ∀ w, (Instr.checkKey b (m + d) t (valT i.d xs)).run S.P w = .ok () w
  | 0, t, ks, h, _, _, _, _, _ => by cases h
  | d + 1, t, ks, h, i, hi, xs, hx, w => by
    have hdesc := Sx.descOf hi
    unfold kdsOf at h
    rw [hdesc] at h
    rw [show m + (d + 1) = m + d + 1 from rfl]
    cases hd : i.d with
    | bool =>
      rw [hd] at hdesc
      obtain ⟨x, h1, h2⟩ := Sx.und0 hdesc
      obtain rfl := tdOf_bool h2
      simp [Instr.checkKey, run_underlying h1]
    | int k =>
      rw [hd] at hdesc
      have h1 := Sx.uint hdesc
      simp [Instr.checkKey, run_underlying h1]
    | string =>
      rw [hd] at hdesc
      have h1 := Sx.ustr hdesc
      simp [Instr.checkKey, run_underlying h1]
    | slice e => rw [hd] at h; cases h
    | other => rw [hd] at h; cases h
    | array n e =>
      rw [hd] at h hdesc
      simp only at h
      split at h
      · rename_i ke hke
        obtain rfl := Option.some.inj h
        obtain ⟨j, hj⟩ := sz_of_kds d e ke (szC_get hke).1
        obtain ⟨hjs, hj1⟩ := one_of hke hj
        obtain ⟨q, hq0, hq1, hq2, hq3⟩ := Sx.info hj
        have lx := allK_length hx
        rw [reps_len] at lx
        simp only [valT, isAggD, cond_true]
        rw [Instr.checkKey]
        simp only [Sem.run_bind, run_underlying (Sx.uarr hdesc), Result.andThen_ok]
        simp only [Std.Legacy.Range.forIn_eq_forIn_range', Std.Legacy.Range.size, Nat.sub_zero, Nat.add_one_sub_one, Nat.div_one]
        have each : ∀ s ∈ List.range' 0 n, ∃ a, (part e xs.toArray (s * j.size)).run S.P w = .ok a w ∧ (Instr.checkKey b (m + d) e a).run S.P w = .ok () w := by
          intro s hs
          have hsn : s < n := by have := List.mem_range'_1.1 hs; omega
          have hle : s * ke.length + ke.length ≤ n * ke.length := by rw [← Nat.succ_mul]; exact Nat.mul_le_mul_right _ hsn
          refine ⟨_, part_val (S := S) hj (xs := xs) (off := s * j.size) (by rw [hjs, lx]; exact hle) hj1 w, ?_⟩
          refine chk_run b m d e ke (szC_get hke).1 j hj _ ?_ w
          rw [hjs]
          have hx2 := hx
          rw [show n = s + (n - s - 1 + 1) by omega, reps_add] at hx2
          have h2 := (allK_append hx2).2
          rw [reps_len] at h2
          exact (allK_append (ks := ke) (ls := reps (n - s - 1) ke) h2).1
        generalize List.range' 0 n = is at each
        induction is with
        | nil => simp
        | cons s is ih =>
          obtain ⟨a, p1, p2⟩ := each s (by simp)
          simp only [List.forIn_cons, Sem.run_bind, run_size' hj, Result.andThen_ok, p1, p2, Sem.run_pure]
          exact ih (fun y hy => each y (by simp [hy]))
      · cases h
    | struct fs =>
      rw [hd] at h hdesc
      simp only at h
      cases hm : memN t S.cmp with
      | false => rw [hm] at h; cases h
      | true =>
        rw [hm] at h
        simp only [cond_true] at h
        obtain ⟨l, hl1, hl2⟩ := Sx.ustruct hdesc
        subst hl2
        obtain ⟨_, _, hnm⟩ := cmp_ok hm
        have hfo : S.P.fieldsOf t = l := by simp [Program.fieldsOf, hl1]
        rw [hfo] at hnm
        simp only [valT, isAggD, cond_true]
        rw [Instr.checkKey]
        simp only [Sem.run_bind, run_underlying hl1, Result.andThen_ok]
        rw [← Array.forIn_toList]
        have go : ∀ (L : List Field) (o : Nat) (ls : List KD), (∀ f ∈ L, f.name ≠ "_") → kdsFs (fun f => szC S f (kdsOf S d f)) o (L.map fun (f : Field) => (f.offset, f.type)) = some ls → o ≤ xs.length → allK ls (xs.drop o) = true →
            ∀ f ∈ L, f.name ≠ "_" ∧ ∃ a, (part f.type xs.toArray f.offset).run S.P w = .ok a w ∧ (Instr.checkKey b (m + d) f.type a).run S.P w = .ok () w := by
          intro L
          induction L with
          | nil => intro o ls _ _ _ _ f hf; simp at hf
          | cons f L ih =>
            intro o ls hn h ox hx g hg
            simp only [List.map_cons, kdsFs] at h
            cases hb : Nat.beq o f.offset with
            | false => rw [hb] at h; cases h
            | true =>
              rw [hb] at h
              have ho := Nat.eq_of_beq_eq_true hb
              simp only [cond_true] at h
              clear hb
              subst ho
              split at h
              · rename_i kf hkf
                split at h
                · rename_i lr hlr
                  obtain rfl := Option.some.inj h
                  obtain ⟨q, hq⟩ := sz_of_kds d f.type kf (szC_get hkf).1
                  obtain ⟨his, h1'⟩ := one_of hkf hq
                  have ax := allK_append hx
                  have lx := allK_length hx
                  simp only [List.length_drop, List.length_append] at lx
                  rcases List.mem_cons.1 hg with rfl | hg
                  · refine ⟨hn _ (by simp), _, part_val (S := S) hq (xs := xs) (off := g.offset) (by rw [his]; omega) h1' w, ?_⟩
                    rw [his]
                    exact chk_run b m d g.type kf (szC_get hkf).1 q hq _ ax.1 w
                  · exact ih _ lr (fun f hf => hn f (by simp [hf])) hlr (by omega) (by rw [← List.drop_drop]; exact ax.2) g hg
                · cases h
              · cases h
        have each := go l.toList 0 ks hnm h (Nat.zero_le _) hx
        generalize l.toList = L at each
        induction L with
        | nil => simp
        | cons f L ih =>
          obtain ⟨hn, a, p1, p2⟩ := each f (by simp)
          simp only [List.forIn_cons, Sem.run_bind, hn, ne_eq, not_false_eq_true, if_true, Result.andThen_ok, p1, p2, Sem.run_pure]
          exact ih (fun y hy => each y (by simp [hy]))
variable {kt : Nat} (K : KeyT S kt)
theorem KeyT.chk (b : Bool) {v : Value} (hv : K.ok v) (w : World) : (Instr.checkKey b 10000 kt v).run S.P w = .ok () w := by
  have h := chk_run (S := S) b (10000 - K.d) K.d kt K.ks K.hk K.i K.hi _ hv.1 w
  rw [show 10000 - K.d + K.d = 10000 by have := Nat.le_of_ble_eq_true K.hd; omega, ← hv.2] at h
  exact h
def keyEq (u v : Value) : Bool := cellsEq u.cells.toList v.cells.toList
theorem KeyT.eq_iff {u v : Value} (hu : K.ok u) (hv : K.ok v) : keyEq u v = true ↔ u = v := by
  unfold keyEq
  rw [cellsEq_iff hu.1 hv.1]
  exact ⟨fun h => by rw [hu.2, hv.2, h], fun h => by rw [h]⟩
theorem KeyT.eq_false {u v : Value} (hu : K.ok u) (hv : K.ok v) (h : u ≠ v) : keyEq u v = false := by
  cases hc : keyEq u v with
  | false => rfl
  | true => exact absurd ((K.eq_iff hu hv).1 hc) h
theorem KeyT.equal {u v : Value} (hu : K.ok u) (hv : K.ok v) (w : World) : (Op.equal kt u v).run S.P w = .ok (keyEq u v) w := by
  have h := eq_run (S := S) (10000 - K.d) K.d kt K.ks K.hk K.i K.hi _ _ hu.1 hv.1 w
  rw [show 10000 - K.d + K.d = 10000 by have := Nat.le_of_ble_eq_true K.hd; omega, ← hu.2, ← hv.2] at h
  exact h
def fnd (k : Value) : List MapEntry → Nat → Option (Nat × Value)
  | [], _ => none
  | e :: r, n => bif keyEq k e.key then some (n, e.val) else fnd k r (n + 1)
theorem KeyT.asking {k : Value} (hk : K.ok k) (w : World) : ∀ (es : List MapEntry) (n : Nat), (∀ e ∈ es, K.ok e.key) → (Instr.findAsking kt k es n).run S.P w = .ok (fnd k es n) w
  | [], n, _ => by simp [Instr.findAsking, fnd]
  | e :: r, n, h => by
    have h1 := K.equal hk (h e (by simp)) w
    have h2 := KeyT.asking hk w r (n + 1) (fun x hx => h x (by simp [hx]))
    simp only [Instr.findAsking, fnd, Sem.run_bind, h1, Result.andThen_ok]
    cases keyEq k e.key with
    | true => simp
    | false => simpa using h2
theorem sameNow_eq {td : TypeDesc} {k u : Value} {b : Bool} (h : Instr.sameNow td k u = some b) : keyEq k u = b := by
  unfold Instr.sameNow at h
  split at h
  · rename_i k1 a k2 b2
    split at h
    · simp only [Option.some.injEq] at h
      subst h
      simp only [keyEq, Value.cells, cellsEq, cellEq]
      cases a == b2 <;> rfl
    · cases h
  · rename_i a b2
    simp only [Option.some.injEq] at h
    subst h
    simp only [keyEq, Value.cells, cellsEq, cellEq]
    have : strEq a b2 = (a == b2) := by
      cases hc : (a == b2) with
      | true => exact (strEq_iff a b2).2 ((MapKept.bytes_beq a b2).1 hc)
      | false =>
        cases hs : strEq a b2 with
        | false => rfl
        | true => rw [(strEq_iff a b2).1 hs, (MapKept.bytes_beq b2 b2).2 rfl] at hc; cases hc
    rw [this]
    cases a == b2 <;> rfl
  · rename_i a b2
    simp only [Option.some.injEq] at h
    subst h
    simp only [keyEq, Value.cells, cellsEq, cellEq]
    cases a == b2 <;> rfl
  · cases h
theorem findNow_eq {td : TypeDesc} {k : Value} : ∀ {es : List MapEntry} {n : Nat} {r : Option (Nat × Value)}, Instr.findNow td k es n = some r → r = fnd k es n
  | [], n, r, h => by simp [Instr.findNow] at h; simp [fnd, ← h]
  | e :: es, n, r, h => by
    simp only [Instr.findNow] at h
    simp only [fnd]
    split at h
    · rename_i hs; rw [sameNow_eq hs]; simpa using h.symm
    · rename_i hs; rw [sameNow_eq hs]; simpa using findNow_eq h
    · cases h
theorem KeyT.find {k : Value} (hk : K.ok k) (w : World) (es : List MapEntry) (h : ∀ e ∈ es, K.ok e.key) : (Instr.findKey kt k es).run S.P w = .ok (fnd k es 0) w := by
  obtain ⟨x, h1, _⟩ := Sx.und0 (Sx.descOf K.hi)
  simp only [Instr.findKey, Sem.run_bind, run_underlying h1, Result.andThen_ok]
  split
  · rename_i r hr; rw [findNow_eq hr]; simp
  · exact K.asking hk w es 0 h
structure MapIs (w : World) (g : Nat) (arr : Array MapEntry) (clock : Nat) : Prop where
  at_ : w.heap[g]? = some (.map arr clock)
  ok : ∀ e ∈ arr.toList, K.ok e.key
  apart : (arr.toList.map (·.key)).Pairwise (· ≠ ·)
  born : (arr.toList.map (·.born)).Pairwise (· < ·)
  old : ∀ e ∈ arr.toList, e.born < clock
def kvOf (arr : Array MapEntry) : List (Value × Value) := arr.toList.map fun e => (e.key, e.val)
def mapX (g : Nat) (arr : Array MapEntry) (clock : Nat) : Ent := .gen
  { own := some g, uses := fun b => b = g, holds := fun w => MapIs K w g arr clock,
    own_uses := fun _ h => (Option.some.inj h).symm,
    uses_lt := fun _ b h hb => by rw [show b = g from hb]; exact (Array.getElem?_eq_some_iff.1 h.at_).1,
    kept := fun w w' row h hg hr => ⟨by rw [hg.block g (Array.getElem?_eq_some_iff.1 h.at_).1 (fun e => hr g e.symm rfl)]; exact h.at_, h.ok, h.apart, h.born, h.old⟩ }
def mapE (g : Nat) (es : List (Value × Value)) : Ent := .gen
  { own := some g, uses := fun b => b = g, holds := fun w => ∃ arr clock, kvOf arr = es ∧ MapIs K w g arr clock,
    own_uses := fun _ h => (Option.some.inj h).symm,
    uses_lt := fun _ b h hb => by obtain ⟨arr, clock, _, h⟩ := h; rw [show b = g from hb]; exact (Array.getElem?_eq_some_iff.1 h.at_).1,
    kept := fun w w' row h hg hr => by
      obtain ⟨arr, clock, he, h⟩ := h
      exact ⟨arr, clock, he, by rw [hg.block g (Array.getElem?_eq_some_iff.1 h.at_).1 (fun e => hr g e.symm rfl)]; exact h.at_, h.ok, h.apart, h.born, h.old⟩ }
variable {W : World} {M : List Nat} {H : Hp} {w : World} {N : Nat} {F : Fr}
theorem Sat.map (hs : Sat W M H w) (p : Nat) {g : Nat} {es : List (Value × Value)} (hp : H[p]? = some (mapE K g es)) : ∃ arr clock, kvOf arr = es ∧ MapIs K w g arr clock := hs.holds p _ hp
theorem fnd_at {k : Value} (hk : K.ok k) : ∀ {l : List MapEntry} {n j : Nat} {v : Value}, (∀ e ∈ l, K.ok e.key) → (l.map (·.key)).Pairwise (· ≠ ·) → (l.map fun e => (e.key, e.val))[j]? = some (k, v) → fnd k l n = some (n + j, v)
  | [], n, j, v, _, _, h => by simp at h
  | e :: r, n, 0, v, ho, _, h => by
    simp only [List.map_cons, List.getElem?_cons_zero, Option.some.injEq, Prod.mk.injEq] at h
    simp only [fnd]
    rw [← h.1, (K.eq_iff (ho e (by simp)) (ho e (by simp))).2 rfl, h.2]
    rfl
  | e :: r, n, j + 1, v, ho, hp, h => by
    simp only [List.map_cons, List.getElem?_cons_succ] at h
    have h1 := fnd_at hk (n := n + 1) (fun x hx => ho x (by simp [hx])) (List.pairwise_cons.1 hp).2 h
    have hm := List.mem_of_getElem? h
    obtain ⟨x, hx, he⟩ := List.mem_map.1 hm
    simp only [Prod.mk.injEq] at he
    have hne := (List.pairwise_cons.1 hp).1 x.key (List.mem_map.2 ⟨x, hx, rfl⟩)
    simp only [fnd]
    rw [K.eq_false hk (ho e (by simp)) (fun h => hne (h.symm.trans he.1.symm)), h1]
    simp only [cond_false, Option.some.injEq, Prod.mk.injEq, and_true]
    omega
theorem fnd_none {k : Value} (hk : K.ok k) : ∀ {l : List MapEntry} {n : Nat}, (∀ e ∈ l, K.ok e.key) → (∀ x ∈ l.map fun e => (e.key, e.val), x.1 ≠ k) → fnd k l n = none
  | [], n, _, _ => rfl
  | e :: r, n, ho, h => by
    simp only [fnd]
    rw [K.eq_false hk (ho e (by simp)) (fun hh => h (e.key, e.val) (by simp) hh.symm), fnd_none hk (fun x hx => ho x (by simp [hx])) (fun x hx => h x (by simp only [List.map_cons, List.mem_cons]; exact .inr hx))]
    rfl
def lookV (ok : Bool) (v : Value) (b : Bool) : Value := bif ok then .tuple #[v, .bool b] else v
theorem sameBits_cells (n : Nat) : ∀ {ks : List KD} {xs : List Value}, allK ks xs = true → ∀ x ∈ xs, Instr.sameBits n x x = true
  | [], [], _, x, hx => by simp at hx
  | [], _ :: _, h, _, _ => by simp [allK] at h
  | _ :: _, [], _, x, hx => by simp at hx
  | k :: ks, u :: us, h, x, hx => by
    simp only [allK, Bool.and_eq_true] at h
    rcases List.mem_cons.1 hx with rfl | hx
    · cases k <;> cases x <;> simp only [okK, Bool.false_eq_true, false_and] at h <;> simp [Instr.sameBits, MapKept.bytes_beq]
    · exact sameBits_cells n h.2 x hx
theorem zip_self_all (f : Value → Value → Bool) : ∀ {xs : List Value}, (∀ x ∈ xs, f x x = true) → ((xs.zip xs).all fun (x, y) => f x y) = true
  | [], _ => rfl
  | x :: xs, h => by
    simp only [List.zip_cons_cons, List.all_cons, Bool.and_eq_true]
    exact ⟨h x (by simp), zip_self_all f fun y hy => h y (by simp [hy])⟩
theorem KeyT.stays {k : Value} (hk : K.ok k) (w : World) : (Instr.keyThatStays k k).run S.P w = .ok k w := by
  have hb : Instr.sameBits 10000 k k = true := by
    have hc := sameBits_cells 9999 hk.1
    have hv := hk.2
    unfold valT at hv
    cases ha : isAggD K.i.d with
    | true =>
      rw [ha] at hv
      simp only [cond_true, Array.toArray_toList] at hv
      rw [hv]
      show ((k.cells.size == k.cells.size) && _) = true
      rw [beq_self_eq_true, Bool.true_and]
      exact zip_self_all _ hc
    | false =>
      rw [ha] at hv
      simp only [cond_false] at hv
      have hc2 := sameBits_cells 10000 hk.1
      cases hl : k.cells.toList with
      | nil =>
        rw [hl] at hv
        cases k <;> first
          | (simp [Value.cells] at hl; done)
          | (simp [undef] at hv; done)
          | (rename_i cs
             obtain rfl : cs = #[] := by simpa [Value.cells] using hl
             rfl)
      | cons u us =>
        rw [hl] at hv hc2
        simp only [List.headD_cons] at hv
        rw [hv]
        exact hc2 u (by simp)
  simp [Instr.keyThatStays, hb]
theorem heap_put {w : World} {g : Nat} (hg : g < w.heap.size) (o : Obj) : ({ w with heap := w.heap.setIfInBounds g o } : World).heap[g]? = some o ∧ w.grownBy { w with heap := w.heap.setIfInBounds g o } (some g) := by
  refine ⟨by simp [hg], rfl, rfl, rfl, by simp, fun k hk hne => ?_⟩
  have : g ≠ k := fun e => hne (by rw [e])
  simp [this]
theorem modify_toList {arr : Array MapEntry} {j : Nat} {e : MapEntry} (h : arr.toList[j]? = some e) (f : MapEntry → MapEntry) : (arr.modify j f).toList = arr.toList.set j (f e) := by
  apply List.ext_getElem?
  intro i
  rw [Array.getElem?_toList, Array.getElem?_modify, List.getElem?_set]
  have hl := (List.getElem?_eq_some_iff.1 h).1
  by_cases hi : j = i
  · subst hi
    rw [Array.getElem?_toList] at h
    simp only [if_pos, h, Option.map_some]
    rw [if_pos hl]
  · rw [if_neg hi, if_neg hi, Array.getElem?_toList]
theorem map_set_same {α β : Type} (f : α → β) {l : List α} {j : Nat} {e e' : α} (h : l[j]? = some e) (hf : f e' = f e) : (l.set j e').map f = l.map f := by
  apply List.ext_getElem?
  intro i
  rw [List.getElem?_map, List.getElem?_map, List.getElem?_set]
  by_cases hi : j = i
  · subst hi
    rw [if_pos rfl, h]
    have hl := (List.getElem?_eq_some_iff.1 h).1
    simp [hl, hf]
  · rw [if_neg hi]
variable {K}
theorem MapIs.put {g : Nat} {arr : Array MapEntry} {clock : Nat} (hM : MapIs K w g arr clock) {j : Nat} {k v0 : Value} (hk : K.ok k) (hj : (kvOf arr)[j]? = some (k, v0)) (v : Value) :
    ∃ w', w.heap.setIfInBounds g (.map (arr.modify j fun e => { e with key := k, val := v }) clock) = w'.heap ∧ w' = { w with heap := w.heap.setIfInBounds g (.map (arr.modify j fun e => { e with key := k, val := v }) clock) } ∧ w.grownBy w' (some g) ∧ MapIs K w' g (arr.modify j fun e => { e with key := k, val := v }) clock ∧ kvOf (arr.modify j fun e => { e with key := k, val := v }) = (kvOf arr).set j (k, v) := by
  have hlt := (Array.getElem?_eq_some_iff.1 hM.at_).1
  obtain ⟨h1, h2⟩ := heap_put hlt (.map (arr.modify j fun e => { e with key := k, val := v }) clock)
  unfold kvOf at hj
  rw [List.getElem?_map] at hj
  obtain ⟨e, he, hkv⟩ := Option.map_eq_some_iff.1 hj
  simp only [Prod.mk.injEq] at hkv
  have ht := modify_toList he fun e => { e with key := k, val := v }
  refine ⟨_, rfl, rfl, h2, ⟨h1, ?_, ?_, ?_, ?_⟩, ?_⟩
  · rw [ht]
    intro x hx
    rcases List.mem_or_eq_of_mem_set hx with hx | rfl
    · exact hM.ok x hx
    · exact hk
  · rw [ht, map_set_same (·.key) he hkv.1.symm]; exact hM.apart
  · rw [ht, map_set_same (·.born) (e' := { e with key := k, val := v }) he rfl]; exact hM.born
  · rw [ht]
    intro x hx
    rcases List.mem_or_eq_of_mem_set hx with hx | rfl
    · exact hM.old x hx
    · exact hM.old e (List.mem_of_getElem? he)
  · unfold kvOf; rw [ht, List.map_set]
theorem MapIs.push {g : Nat} {arr : Array MapEntry} {clock : Nat} (hM : MapIs K w g arr clock) {k : Value} (hk : K.ok k) (hn : ∀ x ∈ kvOf arr, x.1 ≠ k) (v : Value) :
    w.grownBy { w with heap := w.heap.setIfInBounds g (.map (arr.push ⟨k, v, clock⟩) (clock + 1)) } (some g) ∧ MapIs K { w with heap := w.heap.setIfInBounds g (.map (arr.push ⟨k, v, clock⟩) (clock + 1)) } g (arr.push ⟨k, v, clock⟩) (clock + 1) ∧ kvOf (arr.push ⟨k, v, clock⟩) = kvOf arr ++ [(k, v)] := by
  have hlt := (Array.getElem?_eq_some_iff.1 hM.at_).1
  obtain ⟨h1, h2⟩ := heap_put hlt (.map (arr.push ⟨k, v, clock⟩) (clock + 1))
  refine ⟨h2, ⟨h1, ?_, ?_, ?_, ?_⟩, ?_⟩
  · intro x hx
    simp only [Array.toList_push, List.mem_append, List.mem_singleton] at hx
    rcases hx with hx | rfl
    · exact hM.ok x hx
    · exact hk
  · rw [Array.toList_push, List.map_append, List.pairwise_append]
    refine ⟨hM.apart, by simp, fun x hx y hy => ?_⟩
    simp at hy
    subst hy
    obtain ⟨e, he, rfl⟩ := List.mem_map.1 hx
    exact hn (e.key, e.val) (List.mem_map.2 ⟨e, he, rfl⟩)
  · rw [Array.toList_push, List.map_append, List.pairwise_append]
    refine ⟨hM.born, by simp, fun x hx y hy => ?_⟩
    simp at hy
    subst hy
    obtain ⟨e, he, rfl⟩ := List.mem_map.1 hx
    exact hM.old e he
  · intro x hx
    simp only [Array.toList_push, List.mem_append, List.mem_singleton] at hx
    rcases hx with hx | rfl
    · exact Nat.lt_succ_of_lt (hM.old x hx)
    · exact Nat.lt_succ_self _
  · unfold kvOf; rw [Array.toList_push, List.map_append]; rfl
theorem SxSem.make (K : KeyT S kt) {o : Oper} {A : Value → Hp → Prop} {t : Nat} (hop : o.op = .makeMap t none) (h : ∀ g, A (.map (some g)) (mapE K g [] :: H)) : SxSem S W M N o F H A := by
  refine ⟨fun a w Q ha hs => ?_⟩
  obtain ⟨op, dst, ty, pos, after, guard⟩ := o
  simp only at hop
  subst hop
  have hM : MapIs K (w.alloc (.map #[] 0)) w.heap.size #[] 0 := ⟨heap_alloc_new w _, by simp, by simp, by simp, by simp⟩
  refine op_value (w' := w.alloc (.map #[] 0)) (by simp [execOp, Instr.makeMap]) (hs.cons (new_grown w _) (e := mapE K w.heap.size []) ⟨#[], 0, rfl, hM⟩ fun b hb => ?_) (h w.heap.size)
  rw [show b = w.heap.size from hb]
  exact Nat.le_refl _
end
end Go.Proofs.YtlmefcepdadfjaaGreat
/- A symbolic walk: m[k] op= v, and ranges over maps. No program is named here. -/
namespace Go.Proofs.YtlmefcepdadfjaaGreat
open Go.RowKit

theorem find_at1 {α : Type} {p : α → Bool} {l : List α} {k : Nat} {x : α} (h : ∀ (j : Nat) (y : α), j < k → l[j]? = some y → p y = false) (hk : l[k]? = some x) (hx : p x = true) : l.find? p = some x := by
  induction k generalizing l with
  | zero =>
    cases l with
    | nil => cases hk
    | cons y r => obtain rfl := Option.some.inj hk; exact List.find?_cons_of_pos hx
  | succ k ih =>
    cases l with
    | nil => cases hk
    | cons y r =>
      rw [List.find?_cons_of_neg (by rw [h 0 y (by omega) rfl]; simp)]
      exact ih (fun j z hj hz => h (j + 1) z (by omega) (by simpa using hz)) (by simpa using hk)
section
variable {S : Sx} {kt : Nat} (K : KeyT S kt)
def mapB (g : Nat) (es : List (Value × Value)) (j b : Nat) : Ent := .gen
  { own := some g, uses := fun x => x = g, holds := fun w => ∃ arr clock, kvOf arr = es ∧ (∃ e : MapEntry, arr.toList[j]? = some e ∧ e.born = b) ∧ MapIs K w g arr clock,
    own_uses := fun _ h => (Option.some.inj h).symm,
    uses_lt := fun _ x h hb => by obtain ⟨arr, clock, _, _, h⟩ := h; rw [show x = g from hb]; exact (Array.getElem?_eq_some_iff.1 h.at_).1,
    kept := fun w w' row h hg hr => by
      obtain ⟨arr, clock, he, hb, h⟩ := h
      exact ⟨arr, clock, he, hb, by rw [hg.block g (Array.getElem?_eq_some_iff.1 h.at_).1 (fun e => hr g e.symm rfl)]; exact h.at_, h.ok, h.apart, h.born, h.old⟩ }
variable {W : World} {M : List Nat} {H : Hp} {w : World} {N : Nat} {F : Fr}
def IsMap (W : World) (M : List Nat) (H : Hp) (g : Nat) (es : List (Value × Value)) : Prop := ∀ w, Sat W M H w → ∃ arr clock, kvOf arr = es ∧ MapIs K w g arr clock
def LookIs (S : Sx) (et : Nat) (es : List (Value × Value)) (k : Value) (ok : Bool) (r : Value) : Prop := (∃ (j : Nat) (v : Value), es[j]? = some (k, v) ∧ r = lookV ok v true) ∨ ((∀ x ∈ es, x.1 ≠ k) ∧ ∃ i, tl S.T et = some i ∧ r = lookV ok i.zero false)
theorem look_run {o : Oper} {t et : Nat} {m x : Operand} {ok : Bool} {g : Nat} {es : List (Value × Value)} {k r : Value} (hop : o.op = .lookup t m x ok) (ht : S.P.underlying t = some (.map kt et)) (hm : ev F m = some (.map (some g))) (hx : ev F x = some k) (hp : IsMap K W M H g es) (hk : K.ok k)
    (h : LookIs S et es k ok r) (a : Act) (w : World) (ha : Agree N F a) (hs : Sat W M H w) : (execOp a.eval o).run S.P w = .ok (.value r) w := by
  obtain ⟨arr, clock, rfl, hM⟩ := hp w hs
  have e1 := K.chk arr.isEmpty hk w
  have e2 := K.find hk w arr.toList hM.ok
  obtain ⟨op, dst, ty, pos, after, guard⟩ := o
  simp only at hop
  subst hop
  rcases h with ⟨j, v, hj, rfl⟩ | ⟨hn, i, hi, rfl⟩
  · rw [fnd_at K hk hM.ok hM.apart hj] at e2
    simp only [execOp, Instr.lookup, ev_eval ha hm, ev_eval ha hx, Sem.run_bind, run_underlying ht, Result.andThen_ok, MapKept.run_getObj_map hM.at_, e1, e2, Sem.run_pure, lookV]
    cases ok <;> simp
  · rw [fnd_none K hk hM.ok hn] at e2
    simp only [execOp, Instr.lookup, ev_eval ha hm, ev_eval ha hx, Sem.run_bind, run_underlying ht, Result.andThen_ok, MapKept.run_getObj_map hM.at_, e1, e2, Sem.run_pure, lookV, run_zero hi]
    cases ok <;> simp
theorem SxSem.lookG {o : Oper} {A : Value → Hp → Prop} {t et : Nat} {m x : Operand} {ok : Bool} {g : Nat} {es : List (Value × Value)} {k r : Value} (hop : o.op = .lookup t m x ok) (ht : S.P.underlying t = some (.map kt et)) (hm : ev F m = some (.map (some g))) (hx : ev F x = some k) (hp : IsMap K W M H g es) (hk : K.ok k)
    (h : LookIs S et es k ok r) (hA : A r H) : SxSem S W M N o F H A :=
  ⟨fun a w _Q ha hs => op_value (w' := w) (look_run K hop ht hm hx hp hk h a w ha hs) hs hA⟩
theorem SxSem.mapEntry {o : Oper} {A : Value → Hp → Prop} {t et : Nat} {m x : Operand} (p : Nat) {g : Nat} {es : List (Value × Value)} {k : Value} (hop : o.op = .mapEntry t m x) (ht : S.P.underlying t = some (.map kt et)) (hm : ev F m = some (.map (some g))) (hx : ev F x = some k) (hp : H[p]? = some (mapE K g es)) (hk : K.ok k)
    (h : (∃ (j : Nat) (v : Value), es[j]? = some (k, v) ∧ ∀ b : Nat, A (.tuple #[v, .int .i64 (b : Nat)]) (H.set p (mapB K g es j b))) ∨ ((∀ x ∈ es, x.1 ≠ k) ∧ ∃ i, tl S.T et = some i ∧ ∀ b : Nat, A (.tuple #[i.zero, .int .i64 (b : Nat)]) (H.set p (mapB K g (es ++ [(k, i.zero)]) es.length b)))) : SxSem S W M N o F H A := by
  refine ⟨fun a w Q ha hs => ?_⟩
  obtain ⟨arr, clock, rfl, hM⟩ := hs.map K p hp
  have e1 := K.chk false hk w
  have e2 := K.find hk w arr.toList hM.ok
  obtain ⟨op, dst, ty, pos, after, guard⟩ := o
  simp only at hop
  subst hop
  rcases h with ⟨j, v, hj, hA⟩ | ⟨hn, i, hi, hA⟩
  · rw [fnd_at K hk hM.ok hM.apart hj, Nat.zero_add] at e2
    have hj0 := hj
    unfold kvOf at hj0
    rw [List.getElem?_map] at hj0
    obtain ⟨e, he, hkv⟩ := Option.map_eq_some_iff.1 hj0
    simp only [Prod.mk.injEq] at hkv
    have hea : arr[j]? = some e := by rw [← Array.getElem?_toList]; exact he
    obtain ⟨w', _, hw', hg, hM', hkv'⟩ := hM.put hk hj v
    have hsame : ({ key := k, val := v, born := e.born } : MapEntry) = e := by obtain ⟨a, b, c⟩ := e; simp only at hkv; obtain ⟨rfl, rfl⟩ := hkv; rfl
    have hmod : arr.modify j (fun e => { e with key := k, val := v }) = arr.modify j (fun e => { e with key := k }) := by
      apply Array.ext'
      rw [modify_toList he, modify_toList he]
      congr 1
      obtain ⟨a, b, c⟩ := e; simp only at hkv; obtain ⟨rfl, rfl⟩ := hkv; rfl
    have hset : (kvOf arr).set j (k, v) = kvOf arr := by
      apply List.ext_getElem?
      intro n
      rw [List.getElem?_set]
      by_cases hjn : j = n
      · subst hjn
        have hl := (List.getElem?_eq_some_iff.1 hj).1
        rw [if_pos rfl, if_pos hl, hj]
      · rw [if_neg hjn]
    rw [hset] at hkv'
    have e3 := K.stays hk w
    have hb : (arr.modify j fun e => { e with key := k, val := v }).toList[j]? = some e := by
      rw [modify_toList he, hsame, List.getElem?_set_self ((List.getElem?_eq_some_iff.1 he).1)]
    refine op_value (w' := w') ?_ (hs.set hp (by rw [show (mapE K g (kvOf arr)).own = some g from rfl]; exact hg) (e' := mapB K g (kvOf arr) j e.born) ⟨_, clock, hkv', ⟨e, hb, rfl⟩, hM'⟩ fun x hx => .inl (by rw [show x = g from hx]; rfl)) (hA e.born)
    simp only [execOp, Instr.mapEntry, ev_eval ha hm, ev_eval ha hx, Sem.run_bind, run_underlying ht, Result.andThen_ok, MapKept.run_getObj_map hM.at_, e1, e2, hea, Option.map_some, Option.getD_some, hkv.1, e3, MapKept.run_setObj_map _ hM.at_, Sem.run_pure, goInt]
    rw [hw', hmod]
  · rw [fnd_none K hk hM.ok hn] at e2
    obtain ⟨hg, hM', hkv⟩ := hM.push hk hn i.zero
    have hb : (arr.push ⟨k, i.zero, clock⟩).toList[(kvOf arr).length]? = some ⟨k, i.zero, clock⟩ := by
      unfold kvOf
      rw [Array.toList_push, List.length_map, List.getElem?_append_right (Nat.le_refl _), Nat.sub_self]
      rfl
    refine op_value ?_ (hs.set hp (by rw [show (mapE K g (kvOf arr)).own = some g from rfl]; exact hg) (e' := mapB K g (kvOf arr ++ [(k, i.zero)]) (kvOf arr).length clock) ⟨_, clock + 1, hkv, ⟨_, hb, rfl⟩, hM'⟩ fun x hx => .inl (by rw [show x = g from hx]; rfl)) (hA clock)
    simp only [execOp, Instr.mapEntry, ev_eval ha hm, ev_eval ha hx, Sem.run_bind, run_underlying ht, Result.andThen_ok, MapKept.run_getObj_map hM.at_, e1, e2, run_zero hi, MapKept.run_setObj_map _ hM.at_, Sem.run_pure, goInt]
theorem born_inj {g : Nat} {arr : Array MapEntry} {clock : Nat} (hM : MapIs K w g arr clock) {i j : Nat} {e f : MapEntry} (hi : arr.toList[i]? = some e) (hj : arr.toList[j]? = some f) (h : e.born = f.born) : i = j := by
  obtain ⟨hil, rfl⟩ := List.getElem?_eq_some_iff.1 hi
  obtain ⟨hjl, rfl⟩ := List.getElem?_eq_some_iff.1 hj
  have hp := List.pairwise_iff_getElem.1 hM.born
  rcases Nat.lt_trichotomy i j with hlt | he | hlt
  · have := hp i j (by simpa using hil) (by simpa using hjl) hlt
    simp only [List.getElem_map] at this
    omega
  · exact he
  · have := hp j i (by simpa using hjl) (by simpa using hil) hlt
    simp only [List.getElem_map] at this
    omega
theorem SxSem.entryStore {o : Oper} {A : Value → Hp → Prop} {t : Nat} {m x y : Operand} (p : Nat) {g j b : Nat} {es : List (Value × Value)} {k v0 v : Value} (hop : o.op = .entryStore t m x y) (hm : ev F m = some (.map (some g))) (hx : ev F x = some (.int .i64 (b : Nat))) (hy : ev F y = some v) (hp : H[p]? = some (mapB K g es j b)) (hj : es[j]? = some (k, v0))
    (h : A undef (H.set p (mapE K g (es.set j (k, v))))) : SxSem S W M N o F H A := by
  refine ⟨fun a w Q ha hs => ?_⟩
  obtain ⟨arr, clock, rfl, ⟨e, he, hb⟩, hM⟩ := hs.holds p _ hp
  obtain ⟨op, dst, ty, pos, after, guard⟩ := o
  simp only at hop
  subst hop
  have hk : e.key = k ∧ e.val = v0 := by
    unfold kvOf at hj
    rw [List.getElem?_map, he] at hj
    simpa using hj
  obtain ⟨hk, _⟩ := hk
  have hok : K.ok k := by rw [← hk]; exact hM.ok e (List.mem_of_getElem? he)
  obtain ⟨w', _, hw', hg, hM', hkv'⟩ := hM.put hok hj v
  have hmod : arr.modify j (fun e => { e with key := k, val := v }) = arr.modify j (fun e => { e with val := v }) := by
    apply Array.ext'
    rw [modify_toList he, modify_toList he, ← hk]
  have hl := (List.getElem?_eq_some_iff.1 he).1
  have hea : arr[j]? = some e := by rw [← Array.getElem?_toList]; exact he
  have hfi : arr.findIdx? (fun e => ((e.born : Nat) : Int) == ((b : Nat) : Int)) = some j := by
    rw [Array.findIdx?_eq_some_iff_getElem]
    have hjs : j < arr.size := by simpa using hl
    have hej : arr[j] = e := by rw [Array.getElem?_eq_getElem hjs] at hea; exact Option.some.inj hea
    refine ⟨hjs, by rw [hej, hb]; exact beq_self_eq_true _, fun i hi => ?_⟩
    intro hc
    have hc2 : arr[i].born = b := by have := eq_of_beq hc; omega
    have := born_inj K hM (i := i) (j := j) (e := arr[i]) (f := e) (by rw [Array.getElem?_toList, Array.getElem?_eq_getElem (by omega)]) he (by rw [hc2, hb])
    omega
  refine op_skip (w' := w') ?_ (hs.set hp (by rw [show (mapB K g (kvOf arr) j b).own = some g from rfl]; exact hg) (e' := mapE K g ((kvOf arr).set j (k, v))) ⟨_, clock, hkv', hM'⟩ fun x hx => .inl (by rw [show x = g from hx]; rfl)) h
  simp [execOp, Instr.entryStore, ev_eval ha hm, ev_eval ha hx, ev_eval ha hy, MapKept.run_getObj_map hM.at_, asInt, asIntOf, hfi, MapKept.run_setObj_map _ hM.at_]
  rw [hw', hmod]
def MapH (w : World) (g : Nat) (es : List (Value × Value)) : Prop := ∃ arr clock, kvOf arr = es ∧ MapIs K w g arr clock
theorem MapH.lt {g : Nat} {es : List (Value × Value)} (h : MapH K w g es) : g < w.heap.size := by
  obtain ⟨arr, clock, _, h⟩ := h
  exact (Array.getElem?_eq_some_iff.1 h.at_).1
theorem MapH.kept {w w' : World} {row : Option Nat} {g : Nat} {es : List (Value × Value)} (h : MapH K w g es) (hg : w.grownBy w' row) (hr : row ≠ some g) : MapH K w' g es := by
  obtain ⟨arr, clock, he, h⟩ := h
  exact ⟨arr, clock, he, by rw [hg.block g (Array.getElem?_eq_some_iff.1 h.at_).1 (fun e => hr e.symm)]; exact h.at_, h.ok, h.apart, h.born, h.old⟩
def mapR (g : Nat) (es : List (Value × Value)) : Ent := .gen
  { own := none, uses := fun b => b = g, holds := fun w => MapH K w g es,
    own_uses := fun _ h => (by cases h),
    uses_lt := fun _ b h hb => by rw [show b = g from hb]; exact h.lt,
    kept := fun w w' row h hg hr => h.kept K hg fun e => hr g e rfl }
theorem IsMap.r {p g : Nat} {es : List (Value × Value)} (hp : H[p]? = some (mapR K g es)) : IsMap K W M H g es := fun _ hs => hs.holds p _ hp
theorem Sat.rdsM (W : World) (M : List Nat) (H : Hp) (h : ∀ (i : Nat) (e : Ent), H[i]? = some e → e.own = none ∧ e.Holds W) : Sat W M H W :=
  ⟨Touch.refl _ _, fun i e hi => (h i e hi).2, fun i e hi g hg => (by rw [(h i e hi).1] at hg; cases hg), fun i j a b _ hi _ g hg => (by rw [(h i a hi).1] at hg; cases hg)⟩
end
end Go.Proofs.YtlmefcepdadfjaaGreat
/- Plain: the words and rounds of SHA-256 on numbers below 2^32. The walks over RotateLeft32, the package's over, the document's turned. -/
namespace Go.Proofs.YtlmefcepdadfjaaGreat
open Go.RowKit

def rotr (x n : Nat) : Nat := (x / 2 ^ n) ||| (x * 2 ^ (32 - n) % 4294967296)
theorem rotr_lt (x n : Nat) (hx : x < 4294967296) : rotr x n < 4294967296 :=
  Nat.or_lt_two_pow (n := 32) (Nat.lt_of_le_of_lt (Nat.div_le_self _ _) hx) (Nat.mod_lt _ (by omega))
def overS (x a b d : Nat) : Nat := rotr x a ^^^ rotr x b ^^^ (x / 2 ^ d)
def overR (x a b c : Nat) : Nat := rotr x a ^^^ rotr x b ^^^ rotr x c
theorem u32_orI (a b : Int) (x y : Nat) (ha : a = (x : Int)) (hb : b = (y : Int)) (hx : x < 4294967296) (hy : y < 4294967296) : bits BinOp.or IntKind.u32 a b = ((x ||| y : Nat) : Int) := by
  subst ha; subst hb; exact u32_or_nat x y hx hy
theorem u32_xorI (a b : Int) (x y : Nat) (ha : a = (x : Int)) (hb : b = (y : Int)) (hx : x < 4294967296) (hy : y < 4294967296) : bits BinOp.xor IntKind.u32 a b = ((x ^^^ y : Nat) : Int) := by
  subst ha; subst hb; exact u32_xor_nat x y hx hy
theorem rotr_bits (x n : Nat) (hx : x < 4294967296) : bits BinOp.or IntKind.u32 ((x : Int) / 2 ^ n) ((x : Int) * 2 ^ (32 - n) % 4294967296) = (rotr x n : Nat) :=
  u32_orI _ _ (x / 2 ^ n) (x * 2 ^ (32 - n) % 4294967296) (by simp) (by simp) (Nat.lt_of_le_of_lt (Nat.div_le_self _ _) hx) (Nat.mod_lt _ (by omega))
theorem rotl_bits (x n : Nat) (hx : x < 4294967296) (h1 : 1 ≤ n) (h2 : n ≤ 31) : bits BinOp.or IntKind.u32 ((x : Int) * 2 ^ n % 4294967296) ((x : Int) / 2 ^ (32 - n)) = (rotr x (32 - n) : Nat) := by
  rw [u32_orI _ _ (x * 2 ^ n % 4294967296) (x / 2 ^ (32 - n)) (by simp) (by simp) (Nat.mod_lt _ (by omega)) (Nat.lt_of_le_of_lt (Nat.div_le_self _ _) hx), rotr, Nat.or_comm, show 32 - (32 - n) = n by omega]
theorem turned_any (x : Nat) (hx : x < 4294967296) (k : Int) (n : Nat) (hk : k = (n : Int)) (h1 : 1 ≤ n) (h2 : n ≤ 31) (w : World) :
    Calls Tryz.prog 77 #[.int .u32 (x : Nat), .int .i64 k] w fun e w' => e = .returned (.int .u32 (rotr x n : Nat)) ∧ w = w' := by
  subst hk
  have hr := rotr_bits x n hx
  have HR := Go.Lib.hid hr; clear hr
  go_enter Tryz.func77, Tryz.ntmps77
  go_wp2
  go_ret
  exact ⟨ret_int HR.out, rfl⟩
theorem and31 : ∀ a : Nat, a < 32 → 1 ≤ a → bits BinOp.and IntKind.u64 (IntKind.u64.wrap (-(a : Int))) 31 = ((32 - a : Nat) : Int) := by decide +kernel
theorem rotl_any (x : Nat) (hx : x < 4294967296) (k : Int) (n : Nat) (hk : k = -(n : Int)) (h1 : 1 ≤ n) (h2 : n ≤ 31) (w : World) :
    Calls Tryz.prog 174 #[.int .u32 (x : Nat), .int .i64 k] w fun e w' => e = .returned (.int .u32 (rotr x n : Nat)) ∧ w = w' := by
  have he := and31 n (by omega) h1
  rw [← hk] at he
  obtain ⟨m, hm⟩ : ∃ m, 32 - n = m := ⟨_, rfl⟩
  rw [hm] at he
  have hr := rotl_bits x m hx (by omega) (by omega)
  have h3 : 1 ≤ m ∧ m ≤ 31 := by omega
  have h4 : 32 - m = n := by omega
  rw [h4] at hr
  obtain ⟨h5, h6⟩ := h3
  have HR := Go.Lib.hid hr; have H4 := Go.Lib.hid h4
  clear hr hk hm h4 h1 h2
  go_enter Tryz.func174, Tryz.ntmps174
  go_wp2
  go_ret
  exact ⟨ret_int (by rw [← HR.out, H4.out]), rfl⟩
theorem over_s (x : Nat) (hx : x < 4294967296) (a b c d : Int) (ha : 1 ≤ a ∧ a ≤ 31) (hb : 1 ≤ b ∧ b ≤ 31) (hd : 1 ≤ d ∧ d ≤ 31) (w : World) :
    Calls Tryz.prog 162 #[.int .u32 (x : Nat), .int .i64 a, .int .i64 b, .int .i64 c, .int .i64 d] w fun e w' => e = .returned (.int .u32 (overS x a.toNat b.toNat d.toNat : Nat)) ∧ w = w' := by
  obtain ⟨a1, a2⟩ := ha; obtain ⟨b1, b2⟩ := hb; obtain ⟨d1, d2⟩ := hd
  have r1 := rotr_lt x a.toNat hx
  have r2 := rotr_lt x b.toNat hx
  have r3 := xor_lt32 r1 r2
  have r4 : x / 2 ^ d.toNat < 4294967296 := Nat.lt_of_le_of_lt (Nat.div_le_self _ _) hx
  have hv : ∀ y : Int, y = ((x / 2 ^ d.toNat : Nat) : Int) → bits BinOp.xor IntKind.u32 ((rotr x a.toNat ^^^ rotr x b.toNat : Nat) : Int) y = (overS x a.toNat b.toNat d.toNat : Nat) := fun y hy => u32_xorI _ _ _ _ rfl hy r3 r4
  have HV := Go.Lib.hid hv
  clear hv r3 r4
  go_enter Tryz.func162, Tryz.ntmps162
  go_wp2_with fail
  refine (rotl_any x hx _ a.toNat (by omega) (by omega) (by omega) _).mono ?_
  rintro e w1 ⟨rfl, rfl⟩
  go_wp2_with fail
  refine (rotl_any x hx _ b.toNat (by omega) (by omega) (by omega) _).mono ?_
  rintro e w1 ⟨rfl, rfl⟩
  go_wp2_with fail
  go_ret
  exact ⟨ret_int (HV.out _ (by simp)), rfl⟩
theorem over_r (x : Nat) (hx : x < 4294967296) (a b c : Int) (ha : 1 ≤ a ∧ a ≤ 31) (hb : 1 ≤ b ∧ b ≤ 31) (hc : 1 ≤ c ∧ c ≤ 31) (w : World) :
    Calls Tryz.prog 162 #[.int .u32 (x : Nat), .int .i64 a, .int .i64 b, .int .i64 c, .int .i64 0] w fun e w' => e = .returned (.int .u32 (overR x a.toNat b.toNat c.toNat : Nat)) ∧ w = w' := by
  obtain ⟨a1, a2⟩ := ha; obtain ⟨b1, b2⟩ := hb; obtain ⟨d1, d2⟩ := hc
  have r1 := rotr_lt x a.toNat hx
  have r2 := rotr_lt x b.toNat hx
  have r3 := xor_lt32 r1 r2
  have r4 := rotr_lt x c.toNat hx
  go_enter Tryz.func162, Tryz.ntmps162
  go_wp2_with fail
  refine (rotl_any x hx _ a.toNat (by omega) (by omega) (by omega) _).mono ?_
  rintro e w1 ⟨rfl, rfl⟩
  go_wp2_with fail
  refine (rotl_any x hx _ b.toNat (by omega) (by omega) (by omega) _).mono ?_
  rintro e w1 ⟨rfl, rfl⟩
  go_wp2_with fail
  refine (rotl_any x hx _ c.toNat (by omega) (by omega) (by omega) _).mono ?_
  rintro e w1 ⟨rfl, rfl⟩
  go_wp2_with fail
  go_ret
  exact ⟨rfl, rfl⟩
end Go.Proofs.YtlmefcepdadfjaaGreat
