/- Memory of the call's own, block by block: what a block holds, as a function of the place; make, store, read, string(b). No program is named here. -/
import Derived.Test.YtoacohlbelfkcaaBits
import Derived.Laws.CopyOwn
namespace Go.Proofs.Ytoacohlbelfkcaa
open Go.RowKit

/-- A list by its function. -/
def tab {α : Type} (n : Nat) (f : Nat → α) : List α := (List.range n).map f
theorem tab_length {α : Type} (n : Nat) (f : Nat → α) : (tab n f).length = n := by simp [tab]
theorem tab_get {α : Type} (n : Nat) (f : Nat → α) (j : Nat) (h : j < n) : (tab n f)[j]? = some (f j) := by simp [tab, h]
theorem tab_congr {α : Type} {n : Nat} {f g : Nat → α} (h : ∀ j, j < n → f j = g j) : tab n f = tab n g := by
  unfold tab; exact List.map_congr_left fun j hj => h j (by simpa using hj)
theorem tab_set {α : Type} (n : Nat) (f : Nat → α) (p : Nat) (v : α) : (tab n f).set p v = tab n (fun j => if j = p then v else f j) := by
  apply List.ext_getElem?
  intro j
  rw [List.getElem?_set]
  by_cases hj : j < n
  · by_cases hp : p = j
    · subst hp; simp [tab, hj]
    · rw [if_neg hp, tab_get _ _ _ hj, tab_get _ _ _ hj, if_neg (fun e => hp e.symm)]
  · by_cases hp : p = j
    · subst hp; simp [tab, hj]
    · rw [if_neg hp]; simp [tab, hj]
theorem tab_map {α β : Type} (n : Nat) (f : Nat → α) (g : α → β) : (tab n f).map g = tab n (fun j => g (f j)) := by simp [tab]
theorem tab_replicate {α : Type} (n : Nat) (a : α) : List.replicate n a = tab n (fun _ => a) := by
  apply List.ext_getElem?
  intro j
  by_cases hj : j < n <;> simp [tab, hj, List.getElem?_replicate]
theorem tab_append {α : Type} (n m : Nat) (f g : Nat → α) : tab n f ++ tab m g = tab (n + m) (fun j => if j < n then f j else g (j - n)) := by
  apply List.ext_getElem?
  intro j
  rw [List.getElem?_append, tab_length]
  by_cases hj : j < n
  · rw [if_pos hj, tab_get _ _ _ hj, tab_get _ _ _ (by omega), if_pos hj]
  · rw [if_neg hj]
    by_cases hm : j < n + m
    · rw [tab_get _ _ _ (by omega), tab_get _ _ _ hm, if_neg hj]
    · simp [tab, hm, show ¬ (j - n < m) by omega]
theorem tab_of_list {α : Type} (l : List α) (d : α) : l = tab l.length (fun j => l.getD j d) := by
  apply List.ext_getElem?
  intro j
  by_cases hj : j < l.length
  · rw [tab_get _ _ _ hj]; simp [List.getD, hj]
  · simp [tab, hj]
theorem tab_take {α : Type} (n k : Nat) (f : Nat → α) (h : k ≤ n) : (tab n f).take k = tab k f := by
  apply List.ext_getElem?
  intro j
  rw [List.getElem?_take]
  by_cases hj : j < k
  · rw [if_pos hj, tab_get _ _ _ (by omega), tab_get _ _ _ hj]
  · rw [if_neg hj]; simp [tab, hj]

/-- Block g holds the cells cs (of type e), none of them frozen. -/
def Blk (w : World) (g : Nat) (e : TypeId) (cs : List Value) : Prop := ∃ cur lo hi, w.heap[g]? = some (.cells cur e (lo, hi)) ∧ cur.toList = cs ∧ (hi ≤ lo ∨ cs.length ≤ lo)
section
variable {w w' : World} {g : Nat} {e : TypeId} {cs : List Value}
theorem Blk.lt (h : Blk w g e cs) : g < w.heap.size := by
  obtain ⟨cur, lo, hi, h1, _, _⟩ := h
  exact (Array.getElem?_eq_some_iff.1 h1).1
theorem Blk.cell (h : Blk w g e cs) (j : Nat) : w.cell? ⟨g, j, none⟩ = cs[j]? := by
  obtain ⟨cur, lo, hi, h1, h2, _⟩ := h
  simp [World.cell?, h1, ← h2]
theorem Blk.free (h : Blk w g e cs) (j : Nat) (hj : j < cs.length) : w.frozen? ⟨g, j, none⟩ = false := by
  obtain ⟨cur, lo, hi, h1, _, h3⟩ := h
  simp only [World.frozen?, h1, Bool.and_eq_false_iff, decide_eq_false_iff_not]
  omega
theorem Blk.set (h : Blk w g e cs) (j : Nat) (u : Value) : Blk (w.setCell ⟨g, j, none⟩ u) g e (cs.set j u) := by
  obtain ⟨cur, lo, hi, h1, h2, h3⟩ := h
  refine ⟨cur.setIfInBounds j u, lo, hi, ?_, by rw [Array.toList_setIfInBounds, h2], by simpa using h3⟩
  simp [World.setCell, Array.getElem?_modify, h1]
theorem Blk.other (h : Blk w g e cs) {a : Addr} (ha : a.block ≠ g) (u : Value) : Blk (w.setCell a u) g e cs := by
  obtain ⟨cur, lo, hi, h1, h2, h3⟩ := h
  exact ⟨cur, lo, hi, by rw [Below.heap_setCell _ _ _ _ (fun e => ha e.symm)]; exact h1, h2, h3⟩
theorem Blk.alloc (h : Blk w g e cs) (o : Obj) : Blk (w.alloc o) g e cs := by
  have hl := h.lt
  obtain ⟨cur, lo, hi, h1, h2, h3⟩ := h
  exact ⟨cur, lo, hi, by rw [Below.heap_alloc _ _ _ hl]; exact h1, h2, h3⟩
theorem Blk.drew (h : Blk w g e cs) : Blk w.drew g e cs := h
theorem Blk.drewN (h : Blk w g e cs) (n : Nat) : Blk (w.drewN n) g e cs := h
theorem Blk.below {B : Nat} (h : Blk w g e cs) (hb : Below B w w') (hg : g < B) : Blk w' g e cs := by
  obtain ⟨cur, lo, hi, h1, h2, h3⟩ := h
  exact ⟨cur, lo, hi, by rw [hb.block g hg]; exact h1, h2, h3⟩
theorem Blk.kept (h : Blk w g e cs) (hb : Below w.heap.size w w') : Blk w' g e cs := h.below hb h.lt
theorem Blk.grown {row : Option Nat} (h : Blk w g e cs) (hg : w.grownBy w' row) (hr : some g ≠ row) : Blk w' g e cs := by
  have hl := h.lt
  obtain ⟨cur, lo, hi, h1, h2, h3⟩ := h
  exact ⟨cur, lo, hi, by rw [hg.block g hl hr]; exact h1, h2, h3⟩
theorem Blk.congr {cs' : List Value} (h : Blk w g e cs) (hc : cs = cs') : Blk w g e cs' := hc ▸ h
theorem Blk.of_owns {base size n cap : Nat} {xs : List Value} (h : w.ownsRow base e size (.slice (some ⟨g, 0, none⟩) n cap) n xs) (hc : cap = n) : Blk w g e xs := by
  rcases h.2 with ⟨h', _⟩ | ⟨g', cap', cur, h', hb, hg, hnc, hcm, hcs, htake⟩
  · simp at h'
  · simp only [Value.slice.injEq, Option.some.injEq, Addr.mk.injEq, and_true, true_and] at h'
    obtain ⟨rfl, rfl⟩ := h'
    subst hc
    exact ⟨cur, 0, 0, hg, by rw [← htake, List.take_of_length_le (by simp [hcs])], .inl (Nat.le_refl _)⟩
theorem Blk.new (w : World) (cur : Array Value) (e : TypeId) : Blk (w.alloc (.cells cur e)) w.heap.size e cur.toList :=
  ⟨cur, 0, 0, heap_alloc_new w _, rfl, .inl (Nat.le_refl _)⟩
theorem Blk.setTab {n : Nat} {f : Nat → Value} (h : Blk w g e (tab n f)) (j : Nat) (u : Value) (f' : Nat → Value) (hu : f' j = u) (hf : ∀ i, i < n → i ≠ j → f' i = f i) : Blk (w.setCell ⟨g, j, none⟩ u) g e (tab n f') :=
  (h.set j u).congr (by
    rw [tab_set]
    exact tab_congr fun i hi => by by_cases e : i = j <;> simp [e, hu, hf i hi])
theorem Blk.at {n : Nat} {f : Nat → Value} (h : Blk w g e (tab n f)) (j : Nat) (hj : j < n) : w.cell? ⟨g, j, none⟩ = some (f j) := by rw [h.cell, tab_get _ _ _ hj]
theorem Blk.freeAt {n : Nat} {f : Nat → Value} (h : Blk w g e (tab n f)) (j : Nat) (hj : j < n) : w.frozen? ⟨g, j, none⟩ = false := h.free j (by rw [tab_length]; exact hj)
end

theorem Below.grownOwn {w w' : World} (hg : w.grownBy w' none) : Below w.heap.size w w' :=
  ⟨hg.os, hg.tape, hg.output, hg.size, fun k hk => hg.block k hk (by simp)⟩

theorem bcell {W w1 : World} (hb : Below W.heap.size W w1) : (∀ b o, b < W.heap.size → w1.cell? ⟨b, o, none⟩ = W.cell? ⟨b, o, none⟩) ∧ (∀ b o, b < W.heap.size → w1.frozen? ⟨b, o, none⟩ = W.frozen? ⟨b, o, none⟩) :=
  ⟨fun b o h => hb.cell (p := ⟨b, o, none⟩) h, fun b o h => hb.frozen (p := ⟨b, o, none⟩) h⟩
section
variable {w y z : World}
theorem kp_drew (h : Below w.heap.size w y) : Below w.heap.size w y.drew := h.drew
theorem kp_drewN {n : Nat} (h : Below w.heap.size w y) : Below w.heap.size w (y.drewN n) := below_drewN h n
theorem kp_alloc {o : Obj} (h : Below w.heap.size w y) : Below w.heap.size w (y.alloc o) := h.alloc h.size o
theorem kp_step (h : Below w.heap.size w y) (k : Below y.heap.size y z) : Below w.heap.size w z := h.trans (k.mono h.size)
end
theorem toNat_mul8 (n : Nat) : (8 * (n : Int)).toNat = 8 * n := by omega

/-- 'make([]T, n)' of elements of one cell: a new block of n zeros, of whatever world w' is left. -/
theorem wpList_make_blk {P : Program} (w : World) {ops : Array Oper} {rest : List Oper} {o : Oper} {a : Act} {Q : Exit → Act → World → Prop}
    (hg : o.guard = none) (l c : Operand) (t : TypeId) (hop : o.op = Op.makeSlice t l c)
    (e : TypeId) (z : Value) (bytes : Nat) (h1 : P.underlying t = some (.slice e)) (h2 : (P.info? e).map (fun i => (i.zero, i.size, i.bytes)) = some (some z, 1, bytes)) (hz : z.cells = #[z])
    (n : Nat) (L : Int) (hl : a.eval l = .int .i64 L) (hc : a.eval c = .int .i64 L) (hL : L = (n : Int)) (b2 : bytes * n ≤ 281474976710656) (b3 : n ≤ maxLen)
    (hK : ∀ w', Blk w' w.heap.size e (tab n fun _ => z) → Below w.heap.size w w' → w.heap.size < w'.heap.size → wpList P ops Q rest (a.put o.dst (.slice (some ⟨w.heap.size, 0, none⟩) n n)) w') :
    wpList P ops Q (o :: rest) a w := by
  obtain ⟨i, hi, hz0, hz1, hz2⟩ := info_parts h2
  subst hz2
  refine wpList_make_full w hg l c t hop w.heap.size e i z 1 h1 hi hz0 hz1 .i64 .i64 L L n hl hc hL hL b2 b3 (Nat.le_refl _) ?_
  intro w' hown hgr
  have hb : Blk w' w.heap.size e (tab n fun _ => z) := by
    have := Blk.of_owns hown rfl
    rw [hz, Nat.mul_one, toList_madeCells_one, tab_replicate] at this
    exact this
  exact hK w' hb (Below.grownOwn hgr) hb.lt

/-- 'string(b)', b the whole of a block of bytes. -/
theorem run_string_blk {P : Program} (w : World) (src dst e : TypeId) (hs : P.underlying src = some (.slice e)) (he : P.underlying e = some (.int .u8)) (hd : P.underlying dst = some .string)
    (g cap n : Nat) (l : List UInt8) (hn : l.length = n) (hb : ∀ j (hj : j < l.length), w.cell? ⟨g, j, none⟩ = some (.int .u8 (l[j].toNat : Int))) :
    (convert src dst (.slice (some ⟨g, 0, none⟩) n cap)).run P w = .ok (.string ⟨l.toArray⟩) w := by
  subst hn
  exact run_convert_bytes_back w src dst e ⟨g, 0, none⟩ cap l hs he hd (fun j hj => by
    have := hb j hj
    rw [Addr.add_lit, Nat.zero_add]
    exact this)

/-- 'append(s, make([]T, n)...)' that must grow. -/
theorem run_append_zeros {P : Program} (w : World) (t u ty e : TypeId) (i : TypeInfo) (z : Value) (ht : P.underlying t = some (.slice e)) (hu : P.underlying u = some (.int .i64)) (hi : P.info? e = some i) (hz : i.zero = some z)
    (b : Addr) (sLen sCap : Nat) (olds : List Value) (hlo : olds.length = sLen * i.size) (holds : ∀ j v, olds[j]? = some v → w.cell? (b.add j) = some v)
    (n : Nat) (hn0 : 0 < n) (hsz : 0 < i.size) (hnb : n * i.bytes ≤ 281474976710656) (hg : sCap < sLen + n) (h63 : ((sLen + n : Nat) : Int) ≤ 9223372036854775807) (hfit : Builtin.nextslicecap (sLen + n) sCap * i.bytes ≤ 281474976710656) :
    (Builtin.append_ #[t, u] ty #[.slice (some b) sLen sCap, .int .i64 n]).run P w =
      .ok (.slice (some ⟨w.heap.size, 0, none⟩) (sLen + n) (grownCap w (sLen + n) sCap e))
        (w.drew.alloc (.cells (olds.toArray ++ Builtin.zeroCells z.cells n ++ Builtin.zeroCells z.cells (grownCap w (sLen + n) sCap e - (sLen + n))) e)) := by
  have hn : ¬ (sLen + n ≤ sCap) := by omega
  have h63' : ¬ (9223372036854775807 < ((sLen : Int) + (n : Int))) := by omega
  have h48' : ¬ (281474976710656 < Builtin.nextslicecap (sLen + n) sCap * i.bytes) := by omega
  have hfo := run_firstCells_some (P := P) w.drew i.size sLen b sLen sCap olds hlo (by simpa using holds)
  have hw : IntKind.i64.wrap (n : Int) = n := IntWalk.i64_in _ (by omega)
  have hneg : ¬ ((n : Int) < 0) := by omega
  have hnb' : ¬ (281474976710656 < (n : Int) * (i.bytes : Int)) := by
    have h : ((n * i.bytes : Nat) : Int) ≤ 281474976710656 := by omega
    rw [Int.natCast_mul] at h
    omega
  have hne : ¬ (n = 0 ∨ i.size = 0) := by omega
  simp [Builtin.append_, run_underlying ht, run_underlying hu, sizeOf, typeInfo, zeroValue, hi, hz, Builtin.lenOf, hn, h63', h48', Question.forced, hfo, newRow, grownCap, hw, hneg, hnb', asInt, asIntOf, hne, show max (n : Int) 0 = n from by omega, show ¬ (n = 0) from by omega, show ¬ (i.size = 0) from by omega]
  intro h0
  exact absurd h0 (Nat.ne_of_gt (Nat.mul_pos hn0 hsz))

theorem wpList_append_zeros {P : Program} (w : World) {ops : Array Oper} {rest : List Oper} {o : Oper} {a : Act} {Q : Exit → Act → World → Prop}
    (hgd : o.guard = none) (s x : Operand) (t u : TypeId) (hop : o.op = Op.call { callee := Callee.builtin Builtin.append, args := #[s, x], argTypes := #[t, u] })
    (e : TypeId) (z : Value) (bytes : Nat) (ht : P.underlying t = some (.slice e)) (hu : P.underlying u = some (.int .i64)) (hinf : (P.info? e).map (fun i => (i.zero, i.size, i.bytes)) = some (some z, 1, bytes)) (hz : z.cells = #[z])
    (g sLen N : Nat) (f : Nat → Value) (hs : a.eval s = .slice (some ⟨g, 0, none⟩) sLen sLen) (hb : Blk w g e (tab N f)) (hN : N = sLen) (n : Nat) (hx : a.eval x = .int .i64 n) (hn0 : 0 < n) (hbytes : (sLen + n) * bytes ≤ 140737488355328) (h63 : sLen + n ≤ maxLen)
    (hK : ∀ w' cap, Blk w' w.heap.size e (tab cap fun j => if j < sLen then f j else z) → sLen + n ≤ cap → Below w.heap.size w w' → w.heap.size < w'.heap.size → wpList P ops Q rest (a.put o.dst (.slice (some ⟨w.heap.size, 0, none⟩) (sLen + n) cap)) w') :
    wpList P ops Q (o :: rest) a w := by
  subst hN
  obtain ⟨i, hi, hz0, hz1, hz2⟩ := info_parts hinf
  subst hz2
  have hg1 : (N + n) * i.bytes = N * i.bytes + n * i.bytes := Nat.add_mul _ _ _
  have hsmall : N + n ≤ 9223372036854775807 := by simp only [maxLen] at h63; omega
  have hr := run_append_zeros (P := P) w t u o.type e i z ht hu hi hz0 ⟨g, 0, none⟩ N N (tab N f) (by rw [tab_length, hz1, Nat.mul_one])
    (fun j v hj => by rw [Addr.add_lit, Nat.zero_add, hb.cell]; exact hj) n hn0 (by omega) (by omega) (by omega) (by omega) (growslice_fits (by omega) hbytes)
  have hge := grownCap_ge w (N + n) N e
  refine wpList_plain hgd fun K hK' => ?_
  unfold Oper.wp execOp
  simp only [hop, resolve, invoke, builtin, Sem.run_bind, Sem.run_pure, Result.andThen_ok, List.map_toArray, List.map_cons, List.map_nil, hs, hx, hr]
  refine hK' _ _ (hK _ _ ?_ hge ?_ (by simp))
  · refine (Blk.new w.drew _ e).congr ?_
    have hzc : ∀ m, (Builtin.zeroCells z.cells m).toList = tab m (fun _ => z) := by
      intro m
      rw [hz]
      apply List.ext_getElem?
      intro j
      by_cases hj : j < m
      · simp [Builtin.zeroCells, tab, hj, Nat.mod_one]
      · simp [Builtin.zeroCells, tab, hj]
    simp only [Array.toList_append, hzc, tab_append]
    rw [show N + n + (grownCap w (N + n) N e - (N + n)) = grownCap w (N + n) N e from by omega]
    refine tab_congr fun j hj => ?_
    by_cases h1 : j < N
    · simp [h1, show j < N + n from by omega]
    · by_cases h2 : j < N + n <;> simp [h1, h2]
  · exact ((Below.refl _ _).drew).alloc (Nat.le_refl _) _
end Go.Proofs.Ytoacohlbelfkcaa
