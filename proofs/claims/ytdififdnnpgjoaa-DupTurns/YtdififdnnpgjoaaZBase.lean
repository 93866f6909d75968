/- The base texts of this claim, one behind the other. -/
import Derived.WalkKit
import Derived.Lib.Hide
import Derived.Lib.Strings
import Derived.WalkSpells
import Derived.WalkLawsBesides
import Derived.Laws.CopyOwn
import Derived.Orders
import Derived.Deep.RegionHeld3
import Derived.Maps.AppendAt
import Derived.Deep.RegionLaw
import Derived.Scope
import Derived.ScopeJumps
import Derived.WalkMore
/- Plain facts on numbers and bits, and rules for the walk: no program is named here. -/
namespace Go.Proofs.Ytdififdnnpgjoaa
open Go.RowKit

theorem ret_int {k : IntKind} {a b : Int} (h : a = b) : Ending.returned (.int k a) = .returned (.int k b) := by rw [h]
theorem ret_str {a b : ByteArray} (h : a = b) : Ending.returned (.string a) = .returned (.string b) := by rw [h]
theorem ret_bool {a b : Bool} (h : a = b) : Ending.returned (.bool a) = .returned (.bool b) := by rw [h]
theorem ret_si {a b : ByteArray} {c d : Int} {k : IntKind} (h : a = b) (h' : c = d) : Ending.returned (.tuple #[.string a, .int k c]) = .returned (.tuple #[.string b, .int k d]) := by rw [h, h']
theorem ret_ib {a b : Int} {c d : Bool} {k : IntKind} (h : a = b) (h' : c = d) : Ending.returned (.tuple #[.int k a, .bool c]) = .returned (.tuple #[.int k b, .bool d]) := by rw [h, h']
theorem xor_lt32 {a b : Nat} (ha : a < 4294967296) (hb : b < 4294967296) : a ^^^ b < 4294967296 := Nat.xor_lt_two_pow (n := 32) ha hb
theorem take_snoc (s : ByteArray) (k : Nat) (h : k < s.size) : s.data.toList.take (k + 1) = s.data.toList.take k ++ [s[k]] := by
  rw [List.take_succ_eq_append_getElem (by simpa using h)]; rfl
theorem byte_lt (b : UInt8) : b.toNat < 256 := b.toNat_lt

theorem u32_max : IntKind.u32.max = 4294967295 := rfl
theorem u32_signed : IntKind.u32.signed = false := rfl
theorem not_xor32 (x : Nat) (hx : x < 4294967296) : 4294967295 ^^^ x = 4294967295 - x := by
  have h1 := BitVec.toNat_not (x := BitVec.ofNat 32 x)
  have h2 := BitVec.toNat_xor (BitVec.allOnes 32) (BitVec.ofNat 32 x)
  rw [BitVec.allOnes_xor] at h2
  rw [h2] at h1
  simpa [Nat.mod_eq_of_lt hx] using h1
theorem u32_not (x : Nat) (hx : x < 4294967296) : bits BinOp.xor IntKind.u32 4294967295 (x : Int) = ((4294967295 - x : Nat) : Int) := by
  rw [show (4294967295 : Int) = ((4294967295 : Nat) : Int) from rfl, u32_xor_nat _ _ (by omega) hx, not_xor32 x hx]
theorem u32_xorc (x y : Nat) (hx : x < 4294967296) (hy : y < 4294967296) : bits BinOp.xor IntKind.u32 (x : Int) (y : Int) = ((x ^^^ y : Nat) : Int) := u32_xor_nat _ _ hx hy
attribute [go_sem] u32_max u32_signed u32_not u32_xorc

def iter {α : Type} (f : α → α) : Nat → α → α
  | 0, x => x
  | n + 1, x => f (iter f n x)
theorem iter_add {α : Type} (f : α → α) (n m : Nat) (x : α) : iter f (n + m) x = iter f n (iter f m x) := by
  induction n with
  | zero => rw [Nat.zero_add]; rfl
  | succ n ih => rw [Nat.succ_add]; simp [iter, ih]
theorem iter_succ' {α : Type} (f : α → α) (n : Nat) (x : α) : iter f (n + 1) x = iter f n (f x) := iter_add f n 1 x
end Go.Proofs.Ytdififdnnpgjoaa
/- Memory of the call's own, block by block: what a block holds, as a function of the place; make, store, read, string(b). No program is named here. -/
namespace Go.Proofs.Ytdififdnnpgjoaa
open Go.RowKit

/-- A list by its function. -/
def tab {α : Type} (n : Nat) (f : Nat → α) : List α := (List.range n).map f
theorem tab_length {α : Type} (n : Nat) (f : Nat → α) : (tab n f).length = n := by simp [tab]
theorem tab_get {α : Type} (n : Nat) (f : Nat → α) (j : Nat) (h : j < n) : (tab n f)[j]? = some (f j) := by simp [tab, h]
theorem tab_congr {α : Type} {n : Nat} {f g : Nat → α} (h : ∀ j, j < n → f j = g j) : tab n f = tab n g := by
  unfold tab; exact List.map_congr_left fun j hj => h j (by simpa using hj)
theorem tab_set {α : Type} (n : Nat) (f : Nat → α) (p : Nat) (v : α) : (tab n f).set p v = tab n (fun j => if j = p then v else f j) := by
  apply List.ext_getElem?
  intro j
  rw [List.getElem?_set]
  by_cases hj : j < n
  · by_cases hp : p = j
    · subst hp; simp [tab, hj]
    · rw [if_neg hp, tab_get _ _ _ hj, tab_get _ _ _ hj, if_neg (fun e => hp e.symm)]
  · by_cases hp : p = j
    · subst hp; simp [tab, hj]
    · rw [if_neg hp]; simp [tab, hj]
theorem tab_map {α β : Type} (n : Nat) (f : Nat → α) (g : α → β) : (tab n f).map g = tab n (fun j => g (f j)) := by simp [tab]
theorem tab_replicate {α : Type} (n : Nat) (a : α) : List.replicate n a = tab n (fun _ => a) := by
  apply List.ext_getElem?
  intro j
  by_cases hj : j < n <;> simp [tab, hj, List.getElem?_replicate]
theorem tab_append {α : Type} (n m : Nat) (f g : Nat → α) : tab n f ++ tab m g = tab (n + m) (fun j => if j < n then f j else g (j - n)) := by
  apply List.ext_getElem?
  intro j
  rw [List.getElem?_append, tab_length]
  by_cases hj : j < n
  · rw [if_pos hj, tab_get _ _ _ hj, tab_get _ _ _ (by omega), if_pos hj]
  · rw [if_neg hj]
    by_cases hm : j < n + m
    · rw [tab_get _ _ _ (by omega), tab_get _ _ _ hm, if_neg hj]
    · simp [tab, hm, show ¬ (j - n < m) by omega]
theorem tab_of_list {α : Type} (l : List α) (d : α) : l = tab l.length (fun j => l.getD j d) := by
  apply List.ext_getElem?
  intro j
  by_cases hj : j < l.length
  · rw [tab_get _ _ _ hj]; simp [List.getD, hj]
  · simp [tab, hj]
theorem tab_take {α : Type} (n k : Nat) (f : Nat → α) (h : k ≤ n) : (tab n f).take k = tab k f := by
  apply List.ext_getElem?
  intro j
  rw [List.getElem?_take]
  by_cases hj : j < k
  · rw [if_pos hj, tab_get _ _ _ (by omega), tab_get _ _ _ hj]
  · rw [if_neg hj]; simp [tab, hj]

/-- Block g holds the cells cs (of type e), none of them frozen. -/
def Blk (w : World) (g : Nat) (e : TypeId) (cs : List Value) : Prop := ∃ cur lo hi, w.heap[g]? = some (.cells cur e (lo, hi)) ∧ cur.toList = cs ∧ (hi ≤ lo ∨ cs.length ≤ lo)
section
variable {w w' : World} {g : Nat} {e : TypeId} {cs : List Value}
theorem Blk.lt (h : Blk w g e cs) : g < w.heap.size := by
  obtain ⟨cur, lo, hi, h1, _, _⟩ := h
  exact (Array.getElem?_eq_some_iff.1 h1).1
theorem Blk.cell (h : Blk w g e cs) (j : Nat) : w.cell? ⟨g, j, none⟩ = cs[j]? := by
  obtain ⟨cur, lo, hi, h1, h2, _⟩ := h
  simp [World.cell?, h1, ← h2]
theorem Blk.free (h : Blk w g e cs) (j : Nat) (hj : j < cs.length) : w.frozen? ⟨g, j, none⟩ = false := by
  obtain ⟨cur, lo, hi, h1, _, h3⟩ := h
  simp only [World.frozen?, h1, Bool.and_eq_false_iff, decide_eq_false_iff_not]
  omega
theorem Blk.set (h : Blk w g e cs) (j : Nat) (u : Value) : Blk (w.setCell ⟨g, j, none⟩ u) g e (cs.set j u) := by
  obtain ⟨cur, lo, hi, h1, h2, h3⟩ := h
  refine ⟨cur.setIfInBounds j u, lo, hi, ?_, by rw [Array.toList_setIfInBounds, h2], by simpa using h3⟩
  simp [World.setCell, Array.getElem?_modify, h1]
theorem Blk.other (h : Blk w g e cs) {a : Addr} (ha : a.block ≠ g) (u : Value) : Blk (w.setCell a u) g e cs := by
  obtain ⟨cur, lo, hi, h1, h2, h3⟩ := h
  exact ⟨cur, lo, hi, by rw [Below.heap_setCell _ _ _ _ (fun e => ha e.symm)]; exact h1, h2, h3⟩
theorem Blk.alloc (h : Blk w g e cs) (o : Obj) : Blk (w.alloc o) g e cs := by
  have hl := h.lt
  obtain ⟨cur, lo, hi, h1, h2, h3⟩ := h
  exact ⟨cur, lo, hi, by rw [Below.heap_alloc _ _ _ hl]; exact h1, h2, h3⟩
theorem Blk.drew (h : Blk w g e cs) : Blk w.drew g e cs := h
theorem Blk.drewN (h : Blk w g e cs) (n : Nat) : Blk (w.drewN n) g e cs := h
theorem Blk.below {B : Nat} (h : Blk w g e cs) (hb : Below B w w') (hg : g < B) : Blk w' g e cs := by
  obtain ⟨cur, lo, hi, h1, h2, h3⟩ := h
  exact ⟨cur, lo, hi, by rw [hb.block g hg]; exact h1, h2, h3⟩
theorem Blk.kept (h : Blk w g e cs) (hb : Below w.heap.size w w') : Blk w' g e cs := h.below hb h.lt
theorem Blk.grown {row : Option Nat} (h : Blk w g e cs) (hg : w.grownBy w' row) (hr : some g ≠ row) : Blk w' g e cs := by
  have hl := h.lt
  obtain ⟨cur, lo, hi, h1, h2, h3⟩ := h
  exact ⟨cur, lo, hi, by rw [hg.block g hl hr]; exact h1, h2, h3⟩
theorem Blk.congr {cs' : List Value} (h : Blk w g e cs) (hc : cs = cs') : Blk w g e cs' := hc ▸ h
theorem Blk.of_owns {base size n cap : Nat} {xs : List Value} (h : w.ownsRow base e size (.slice (some ⟨g, 0, none⟩) n cap) n xs) (hc : cap = n) : Blk w g e xs := by
  rcases h.2 with ⟨h', _⟩ | ⟨g', cap', cur, h', hb, hg, hnc, hcm, hcs, htake⟩
  · simp at h'
  · simp only [Value.slice.injEq, Option.some.injEq, Addr.mk.injEq, and_true, true_and] at h'
    obtain ⟨rfl, rfl⟩ := h'
    subst hc
    exact ⟨cur, 0, 0, hg, by rw [← htake, List.take_of_length_le (by simp [hcs])], .inl (Nat.le_refl _)⟩
theorem Blk.new (w : World) (cur : Array Value) (e : TypeId) : Blk (w.alloc (.cells cur e)) w.heap.size e cur.toList :=
  ⟨cur, 0, 0, heap_alloc_new w _, rfl, .inl (Nat.le_refl _)⟩
theorem Blk.setTab {n : Nat} {f : Nat → Value} (h : Blk w g e (tab n f)) (j : Nat) (u : Value) (f' : Nat → Value) (hu : f' j = u) (hf : ∀ i, i < n → i ≠ j → f' i = f i) : Blk (w.setCell ⟨g, j, none⟩ u) g e (tab n f') :=
  (h.set j u).congr (by
    rw [tab_set]
    exact tab_congr fun i hi => by by_cases e : i = j <;> simp [e, hu, hf i hi])
theorem Blk.at {n : Nat} {f : Nat → Value} (h : Blk w g e (tab n f)) (j : Nat) (hj : j < n) : w.cell? ⟨g, j, none⟩ = some (f j) := by rw [h.cell, tab_get _ _ _ hj]
theorem Blk.freeAt {n : Nat} {f : Nat → Value} (h : Blk w g e (tab n f)) (j : Nat) (hj : j < n) : w.frozen? ⟨g, j, none⟩ = false := h.free j (by rw [tab_length]; exact hj)
end

theorem Below.grownOwn {w w' : World} (hg : w.grownBy w' none) : Below w.heap.size w w' :=
  ⟨hg.os, hg.tape, hg.output, hg.size, fun k hk => hg.block k hk (by simp)⟩

theorem bcell {W w1 : World} (hb : Below W.heap.size W w1) : (∀ b o, b < W.heap.size → w1.cell? ⟨b, o, none⟩ = W.cell? ⟨b, o, none⟩) ∧ (∀ b o, b < W.heap.size → w1.frozen? ⟨b, o, none⟩ = W.frozen? ⟨b, o, none⟩) :=
  ⟨fun b o h => hb.cell (p := ⟨b, o, none⟩) h, fun b o h => hb.frozen (p := ⟨b, o, none⟩) h⟩
section
variable {w y z : World}
theorem kp_drew (h : Below w.heap.size w y) : Below w.heap.size w y.drew := h.drew
theorem kp_drewN {n : Nat} (h : Below w.heap.size w y) : Below w.heap.size w (y.drewN n) := below_drewN h n
theorem kp_alloc {o : Obj} (h : Below w.heap.size w y) : Below w.heap.size w (y.alloc o) := h.alloc h.size o
theorem kp_step (h : Below w.heap.size w y) (k : Below y.heap.size y z) : Below w.heap.size w z := h.trans (k.mono h.size)
end
theorem toNat_mul8 (n : Nat) : (8 * (n : Int)).toNat = 8 * n := by omega

/-- 'make([]T, n)' of elements of one cell: a new block of n zeros, of whatever world w' is left. -/
theorem wpList_make_blk {P : Program} (w : World) {ops : Array Oper} {rest : List Oper} {o : Oper} {a : Act} {Q : Exit → Act → World → Prop}
    (hg : o.guard = none) (l c : Operand) (t : TypeId) (hop : o.op = Op.makeSlice t l c)
    (e : TypeId) (z : Value) (bytes : Nat) (h1 : P.underlying t = some (.slice e)) (h2 : (P.info? e).map (fun i => (i.zero, i.size, i.bytes)) = some (some z, 1, bytes)) (hz : z.cells = #[z])
    (n : Nat) (L : Int) (hl : a.eval l = .int .i64 L) (hc : a.eval c = .int .i64 L) (hL : L = (n : Int)) (b2 : bytes * n ≤ 281474976710656) (b3 : n ≤ maxLen)
    (hK : ∀ w', Blk w' w.heap.size e (tab n fun _ => z) → Below w.heap.size w w' → w.heap.size < w'.heap.size → wpList P ops Q rest (a.put o.dst (.slice (some ⟨w.heap.size, 0, none⟩) n n)) w') :
    wpList P ops Q (o :: rest) a w := by
  obtain ⟨i, hi, hz0, hz1, hz2⟩ := info_parts h2
  subst hz2
  refine wpList_make_full w hg l c t hop w.heap.size e i z 1 h1 hi hz0 hz1 .i64 .i64 L L n hl hc hL hL b2 b3 (Nat.le_refl _) ?_
  intro w' hown hgr
  have hb : Blk w' w.heap.size e (tab n fun _ => z) := by
    have := Blk.of_owns hown rfl
    rw [hz, Nat.mul_one, toList_madeCells_one, tab_replicate] at this
    exact this
  exact hK w' hb (Below.grownOwn hgr) hb.lt

/-- 'string(b)', b the whole of a block of bytes. -/
theorem run_string_blk {P : Program} (w : World) (src dst e : TypeId) (hs : P.underlying src = some (.slice e)) (he : P.underlying e = some (.int .u8)) (hd : P.underlying dst = some .string)
    (g cap n : Nat) (l : List UInt8) (hn : l.length = n) (hb : ∀ j (hj : j < l.length), w.cell? ⟨g, j, none⟩ = some (.int .u8 (l[j].toNat : Int))) :
    (convert src dst (.slice (some ⟨g, 0, none⟩) n cap)).run P w = .ok (.string ⟨l.toArray⟩) w := by
  subst hn
  exact run_convert_bytes_back w src dst e ⟨g, 0, none⟩ cap l hs he hd (fun j hj => by
    have := hb j hj
    rw [Addr.add_lit, Nat.zero_add]
    exact this)

/-- 'append(s, make([]T, n)...)' that must grow. -/
theorem run_append_zeros {P : Program} (w : World) (t u ty e : TypeId) (i : TypeInfo) (z : Value) (ht : P.underlying t = some (.slice e)) (hu : P.underlying u = some (.int .i64)) (hi : P.info? e = some i) (hz : i.zero = some z)
    (b : Addr) (sLen sCap : Nat) (olds : List Value) (hlo : olds.length = sLen * i.size) (holds : ∀ j v, olds[j]? = some v → w.cell? (b.add j) = some v)
    (n : Nat) (hn0 : 0 < n) (hsz : 0 < i.size) (hnb : n * i.bytes ≤ 281474976710656) (hg : sCap < sLen + n) (h63 : ((sLen + n : Nat) : Int) ≤ 9223372036854775807) (hfit : Builtin.nextslicecap (sLen + n) sCap * i.bytes ≤ 281474976710656) :
    (Builtin.append_ #[t, u] ty #[.slice (some b) sLen sCap, .int .i64 n]).run P w =
      .ok (.slice (some ⟨w.heap.size, 0, none⟩) (sLen + n) (grownCap w (sLen + n) sCap e))
        (w.drew.alloc (.cells (olds.toArray ++ Builtin.zeroCells z.cells n ++ Builtin.zeroCells z.cells (grownCap w (sLen + n) sCap e - (sLen + n))) e)) := by
  have hn : ¬ (sLen + n ≤ sCap) := by omega
  have h63' : ¬ (9223372036854775807 < ((sLen : Int) + (n : Int))) := by omega
  have h48' : ¬ (281474976710656 < Builtin.nextslicecap (sLen + n) sCap * i.bytes) := by omega
  have hfo := run_firstCells_some (P := P) w.drew i.size sLen b sLen sCap olds hlo (by simpa using holds)
  have hw : IntKind.i64.wrap (n : Int) = n := IntWalk.i64_in _ (by omega)
  have hneg : ¬ ((n : Int) < 0) := by omega
  have hnb' : ¬ (281474976710656 < (n : Int) * (i.bytes : Int)) := by
    have h : ((n * i.bytes : Nat) : Int) ≤ 281474976710656 := by omega
    rw [Int.natCast_mul] at h
    omega
  have hne : ¬ (n = 0 ∨ i.size = 0) := by omega
  simp [Builtin.append_, run_underlying ht, run_underlying hu, sizeOf, typeInfo, zeroValue, hi, hz, Builtin.lenOf, hn, h63', h48', Question.forced, hfo, newRow, grownCap, hw, hneg, hnb', asInt, asIntOf, hne, show max (n : Int) 0 = n from by omega, show ¬ (n = 0) from by omega, show ¬ (i.size = 0) from by omega]
  intro h0
  exact absurd h0 (Nat.ne_of_gt (Nat.mul_pos hn0 hsz))

theorem wpList_append_zeros {P : Program} (w : World) {ops : Array Oper} {rest : List Oper} {o : Oper} {a : Act} {Q : Exit → Act → World → Prop}
    (hgd : o.guard = none) (s x : Operand) (t u : TypeId) (hop : o.op = Op.call { callee := Callee.builtin Builtin.append, args := #[s, x], argTypes := #[t, u] })
    (e : TypeId) (z : Value) (bytes : Nat) (ht : P.underlying t = some (.slice e)) (hu : P.underlying u = some (.int .i64)) (hinf : (P.info? e).map (fun i => (i.zero, i.size, i.bytes)) = some (some z, 1, bytes)) (hz : z.cells = #[z])
    (g sLen N : Nat) (f : Nat → Value) (hs : a.eval s = .slice (some ⟨g, 0, none⟩) sLen sLen) (hb : Blk w g e (tab N f)) (hN : N = sLen) (n : Nat) (hx : a.eval x = .int .i64 n) (hn0 : 0 < n) (hbytes : (sLen + n) * bytes ≤ 140737488355328) (h63 : sLen + n ≤ maxLen)
    (hK : ∀ w' cap, Blk w' w.heap.size e (tab cap fun j => if j < sLen then f j else z) → sLen + n ≤ cap → Below w.heap.size w w' → w.heap.size < w'.heap.size → wpList P ops Q rest (a.put o.dst (.slice (some ⟨w.heap.size, 0, none⟩) (sLen + n) cap)) w') :
    wpList P ops Q (o :: rest) a w := by
  subst hN
  obtain ⟨i, hi, hz0, hz1, hz2⟩ := info_parts hinf
  subst hz2
  have hg1 : (N + n) * i.bytes = N * i.bytes + n * i.bytes := Nat.add_mul _ _ _
  have hsmall : N + n ≤ 9223372036854775807 := by simp only [maxLen] at h63; omega
  have hr := run_append_zeros (P := P) w t u o.type e i z ht hu hi hz0 ⟨g, 0, none⟩ N N (tab N f) (by rw [tab_length, hz1, Nat.mul_one])
    (fun j v hj => by rw [Addr.add_lit, Nat.zero_add, hb.cell]; exact hj) n hn0 (by omega) (by omega) (by omega) (by omega) (growslice_fits (by omega) hbytes)
  have hge := grownCap_ge w (N + n) N e
  refine wpList_plain hgd fun K hK' => ?_
  unfold Oper.wp execOp
  simp only [hop, resolve, invoke, builtin, Sem.run_bind, Sem.run_pure, Result.andThen_ok, List.map_toArray, List.map_cons, List.map_nil, hs, hx, hr]
  refine hK' _ _ (hK _ _ ?_ hge ?_ (by simp))
  · refine (Blk.new w.drew _ e).congr ?_
    have hzc : ∀ m, (Builtin.zeroCells z.cells m).toList = tab m (fun _ => z) := by
      intro m
      rw [hz]
      apply List.ext_getElem?
      intro j
      by_cases hj : j < m
      · simp [Builtin.zeroCells, tab, hj, Nat.mod_one]
      · simp [Builtin.zeroCells, tab, hj]
    simp only [Array.toList_append, hzc, tab_append]
    rw [show N + n + (grownCap w (N + n) N e - (N + n)) = grownCap w (N + n) N e from by omega]
    refine tab_congr fun j hj => ?_
    by_cases h1 : j < N
    · simp [h1, show j < N + n from by omega]
    · by_cases h2 : j < N + n <;> simp [h1, h2]
  · exact ((Below.refl _ _).drew).alloc (Nat.le_refl _) _
end Go.Proofs.Ytdififdnnpgjoaa
/- Slices that the call appends to, and string(b) of them; []byte(s). No program is named here. -/
namespace Go.Proofs.Ytdififdnnpgjoaa
open Go.RowKit

theorem own_le {w : World} {base e size n : Nat} {v : Value} {xs : List Value} (h : w.ownsRow base e size v n xs) : xs.length = n * size := h.1

/-- 'append(b, x)', b the call's own (or nil): x lies in a new block of its own. -/
theorem wpList_append_one {P : Program} (w : World) {ops : Array Oper} {rest : List Oper} {o : Oper} {a : Act} {Q : Exit → Act → World → Prop}
    (hgd : o.guard = none) (s x : Operand) (t : TypeId) (hop : o.op = Op.call { callee := Callee.builtin Builtin.append, args := #[s, x], argTypes := #[t, t] })
    (base e : Nat) (z : Value) (bytes : Nat) (ht : P.underlying t = some (.slice e)) (hinf : (P.info? e).map (fun i => (i.zero, i.size, i.bytes)) = some (some z, 1, bytes)) (hz : z.cells.size = 1)
    (v : Value) (n : Nat) (xs : List Value) (hs : a.eval s = v) (hown : w.ownsRow base e 1 v n xs) (u : Value) (hu : u.oneCell' = true) (hx : a.eval x = .slice (some ⟨w.heap.size, 0, none⟩) 1 1)
    (h63 : n + 1 ≤ maxLen) (hbytes : (n + 1) * bytes ≤ 140737488355328) (hbase : base ≤ w.heap.size)
    (hK : ∀ v' w', w'.ownsRow base e 1 v' (n + 1) (xs ++ [u]) → Below base w w' → w.grownBy w' v.ownBlock → wpList P ops Q rest (a.put o.dst v') w') :
    wpList P ops Q (o :: rest) a (w.alloc (.cells #[u] e)) := by
  obtain ⟨i, hi, hz0, hz1, hz2⟩ := info_parts hinf
  refine wpList_append_own (w.alloc (.cells #[u] e)) hgd s x t hop base e i z 1 bytes ht hi hz0 hz1 hz2 hz (by omega) v n xs hs (hown.alloc _) ⟨w.heap.size, 0, none⟩ 1 1 [u] hx rfl
    (fun j y hj => ?_) (fun y hy => ?_) h63 hbytes (by simp; omega) ?_
  · match j, hj with
    | 0, hj =>
      simp at hj
      subst hj
      rw [Addr.add_lit, Nat.zero_add]
      rw [(Blk.new w #[u] e).cell 0]
      rfl
    | j + 1, hj => simp at hj
  · simp at hy; subst hy; exact hu
  · intro v' w' h1 h2 _
    have hrow : ∀ k, v.ownBlock = some k → base ≤ k := fun k hk => (hown.lt k hk).1
    refine hK v' w' h1 (((Below.refl base w).alloc hbase _).grown h2 (by simp; omega) hrow) ?_
    refine ⟨h2.os, h2.tape, h2.output, Nat.le_trans (by simp) h2.size, fun k hk hne => ?_⟩
    rw [h2.block k (by simp; omega) hne, Below.heap_alloc _ _ _ hk]

/-- 'string(b)', b a slice of bytes that the call owns. -/
theorem run_string_own {P : Program} (w : World) (src dst e : TypeId) (hs : P.underlying src = some (.slice e)) (he : P.underlying e = some (.int .u8)) (hd : P.underlying dst = some .string)
    (base n : Nat) (v : Value) (l : List UInt8) (hn : l.length = n) (hown : w.ownsRow base e 1 v n (l.map fun b => .int .u8 (b.toNat : Int))) :
    (convert src dst v).run P w = .ok (.string ⟨l.toArray⟩) w := by
  subst hn
  rcases hown.2 with ⟨rfl, h0⟩ | ⟨g, cap, cur, rfl, hbg, hg, hnc, hcm, hcs, htake⟩
  · have : l = [] := List.eq_nil_of_length_eq_zero h0
    subst this
    rw [run_convert_bytes_string w src dst e _ 0 0 hs he hd]
    simp [Conv.bytesToString]
    rfl
  · refine run_string_blk w src dst e hs he hd g cap l.length l rfl fun j hj => ?_
    have := hown.cellAt j (by omega)
    rw [this]
    simp [hj]

/-- '[]byte(s)': a new block: the bytes, then zeros. -/
theorem run_bytes_blk {P : Program} (w : World) (src dst e : TypeId) (s : ByteArray) (hs : P.underlying src = some .string) (hd : P.underlying dst = some (.slice e)) (he : P.underlying e = some (.int .u8)) :
    ∃ cap w', (convert src dst (.string s)).run P w = .ok (.slice (some ⟨w.heap.size, 0, none⟩) s.size cap) w' ∧ s.size ≤ cap ∧ Blk w' w.heap.size e (tab cap fun j => .int .u8 ((s.data.toList.getD j 0).toNat : Int)) ∧ Below w.heap.size w w' ∧ w.heap.size < w'.heap.size := by
  have hge := grownCap_ge w s.size 0 e
  refine ⟨_, _, run_bytes_of_string w src dst e s hs hd he, hge, ?_, ((Below.refl _ _).drew).alloc (Nat.le_refl _) _, by simp⟩
  refine ⟨_, _, _, heap_alloc_new w.drew _, ?_, .inr ?_⟩
  · apply List.ext_getElem?
    intro j
    have hsz : s.size = s.data.size := rfl
    by_cases hj : j < grownCap w s.size 0 e
    · rw [tab_get _ _ _ hj]
      by_cases hj2 : j < s.size
      · have := bytesRow_at s (grownCap w s.size 0 e) j (by omega)
        rw [Array.getElem?_toList, this]
        simp [List.getD, Array.getElem?_eq_getElem (show j < s.data.size from by omega)]
      · have h1 : s.data.toList.getD j 0 = 0 := by simp [List.getD, Array.getElem?_eq_none (show s.data.size ≤ j from by omega)]
        rw [h1, Array.getElem?_toList, bytesRow, Array.getElem?_append_right (by simp; omega)]
        rw [Array.getElem?_replicate, if_pos (by simp; omega)]
        rfl
    · rw [List.getElem?_eq_none (by rw [Array.length_toList, bytesRow, Array.size_append, Array.size_map, Array.size_replicate]; omega), List.getElem?_eq_none (by rw [tab_length]; omega)]
  · simp [tab_length, bytesRow]
    have hsz : s.size = s.data.size := rfl
    omega
theorem wpList_bytes_blk {P : Program} (w : World) {ops : Array Oper} {rest : List Oper} {o : Oper} {a : Act} {Q : Exit → Act → World → Prop}
    (hgd : o.guard = none) (x : Operand) (src dst e : TypeId) (hop : o.op = Op.convert src dst x) (s : ByteArray) (hs : P.underlying src = some .string) (hd : P.underlying dst = some (.slice e)) (he : P.underlying e = some (.int .u8)) (hx : a.eval x = .string s)
    (hK : ∀ cap w', s.size ≤ cap → Blk w' w.heap.size e (tab cap fun j => .int .u8 ((s.data.toList.getD j 0).toNat : Int)) → Below w.heap.size w w' → w.heap.size < w'.heap.size → wpList P ops Q rest (a.put o.dst (.slice (some ⟨w.heap.size, 0, none⟩) s.size cap)) w') :
    wpList P ops Q (o :: rest) a w := by
  obtain ⟨cap, w', hrun, h1, h2, h3, h4⟩ := run_bytes_blk (P := P) w src dst e s hs hd he
  refine wpList_plain hgd fun K hK' => ?_
  unfold Oper.wp
  simp [execOp, hop, hx, hrun, Result.andThen]
  exact hK' _ _ (hK cap w' h1 h2 h3 h4)
end Go.Proofs.Ytdififdnnpgjoaa
/- Whole arrays and structs: loaded from, and stored into, a block of the call's own. No program is named here. -/
namespace Go.Proofs.Ytdififdnnpgjoaa
open Go.RowKit

/-- Block g alone may have been written. -/
structure Only (g : Nat) (w w' : World) : Prop where
  os : w'.os = w.os
  tape : w'.tape = w.tape
  output : w'.output = w.output
  size : w'.heap.size = w.heap.size
  block : ∀ k, k ≠ g → w'.heap[k]? = w.heap[k]?
section
variable {g : Nat} {w w' w'' : World}
theorem Only.refl : Only g w w := ⟨rfl, rfl, rfl, rfl, fun _ _ => rfl⟩
theorem Only.trans (h : Only g w w') (k : Only g w' w'') : Only g w w'' := ⟨k.os.trans h.os, k.tape.trans h.tape, k.output.trans h.output, k.size.trans h.size, fun i hi => (k.block i hi).trans (h.block i hi)⟩
theorem Only.setCell (j : Nat) (u : Value) : Only g w (w.setCell ⟨g, j, none⟩ u) := ⟨rfl, rfl, rfl, by simp [World.setCell], fun k hk => Below.heap_setCell _ _ _ _ hk⟩
theorem Only.below {B : Nat} (h : Only g w w') (hB : B ≤ g) : Below B w w' := ⟨h.os, h.tape, h.output, Nat.le_of_eq h.size.symm, fun k hk => h.block k (by omega)⟩
theorem Only.other {g' : Nat} {e : TypeId} {cs : List Value} (h : Only g w w') (hb : Blk w g' e cs) (hne : g' ≠ g) : Blk w' g' e cs := by
  obtain ⟨cur, lo, hi, h1, h2⟩ := hb
  exact ⟨cur, lo, hi, by rw [h.block g' hne]; exact h1, h2⟩
end

theorem put_step (cs : List Value) (k : Nat) (v : Value) (rest : List Value) (h : k + (v :: rest).length ≤ cs.length) :
    (cs.set k v).take (k + 1) ++ rest ++ (cs.set k v).drop (k + 1 + rest.length) = cs.take k ++ (v :: rest) ++ cs.drop (k + (v :: rest).length) := by
  apply List.ext_getElem?
  intro j
  simp only [List.length_cons] at h ⊢
  simp only [List.append_assoc, List.getElem?_append, List.length_take, List.length_set, List.getElem?_take, List.getElem?_set, List.getElem?_drop, List.length_cons, List.cons_append, List.getElem?_cons]
  by_cases h1 : j < k
  · simp [h1, show j < k + 1 by omega, show min (k + 1) cs.length = k + 1 by omega, show min k cs.length = k by omega, show k ≠ j by omega]
  · by_cases h2 : j = k
    · subst h2
      simp [show min (j + 1) cs.length = j + 1 by omega, show min j cs.length = j by omega, show j < cs.length by omega]
    · by_cases h3 : j < k + 1 + rest.length
      · simp [h1, show ¬ j < k + 1 by omega, show min (k + 1) cs.length = k + 1 by omega, show min k cs.length = k by omega, show j - k ≠ 0 by omega, show j - (k + 1) < rest.length by omega, show j - k - 1 = j - (k + 1) by omega]
      · simp [h1, show ¬ j < k + 1 by omega, show min (k + 1) cs.length = k + 1 by omega, show min k cs.length = k by omega, show j - k ≠ 0 by omega, show ¬ j - (k + 1) < rest.length by omega, show j - k - 1 = j - (k + 1) by omega]
        rw [if_neg (by omega)]
        congr 1
        omega
theorem run_storeCells_blk {P : Program} (g o e : Nat) : ∀ (vs : List Value) (i : Nat) (cs : List Value) (w : World), Blk w g e cs → o + i + vs.length ≤ cs.length → (∀ v ∈ vs, v.oneCell' = true) →
    ∃ w', (storeCells ⟨g, o, none⟩ vs i).run P w = .ok () w' ∧ Blk w' g e (cs.take (o + i) ++ vs ++ cs.drop (o + i + vs.length)) ∧ Only g w w'
  | [], i, cs, w, hb, _, _ => ⟨w, rfl, by simpa using hb, Only.refl⟩
  | v :: rest, i, cs, w, hb, hl, h1 => by
    have hi : o + i < cs.length := by simp at hl; omega
    have hcell : w.cell? ⟨g, o + i, none⟩ = some cs[o + i] := by rw [hb.cell]; simp [hi]
    have hfro := hb.free (o + i) hi
    have hst : (store ((⟨g, o, none⟩ : Addr).add i) v).run P w = .ok () (w.setCell ⟨g, o + i, none⟩ v) := by
      rw [Addr.add_lit, run_store P w _ v _ (h1 v (by simp)), hcell]
      simp [hfro]
    obtain ⟨w', hr, hb', ho⟩ := run_storeCells_blk (P := P) g o e rest (i + 1) (cs.set (o + i) v) (w.setCell ⟨g, o + i, none⟩ v) (hb.set (o + i) v) (by simp at hl ⊢; omega) (fun x hx => h1 x (by simp [hx]))
    refine ⟨w', ?_, hb'.congr ?_, (Only.setCell _ _).trans ho⟩
    · simp only [storeCells, Sem.run_bind, hst, Result.andThen_ok, hr]
    · have := put_step cs (o + i) v rest hl
      simpa [Nat.add_assoc] using this

/-- A struct or an array, read whole out of a block, from place o on. -/
theorem run_loadVar_blk {P : Program} (w : World) (g o e : Nat) (ty : TypeId) (cs : List Value) (n : Nat) (d : TypeDesc) (hb : Blk w g e cs)
    (hu : P.underlying ty = some d) (hd : (match d with | .struct _ | .array _ _ => true | _ => false) = true) (hi : (P.info? ty).map (·.size) = some n) (hn : o + n ≤ cs.length) :
    (loadVar ty ⟨g, o, none⟩).run P w = .ok (.agg ((cs.drop o).take n).toArray) w := by
  have hlen : ((cs.drop o).take n).length = n := by simp; omega
  have hl := run_loadCells_list (P := P) w ⟨g, o, none⟩ ((cs.drop o).take n) (fun j v hv => by
    rw [Addr.add_lit, hb.cell]
    rw [List.getElem?_take] at hv
    split at hv
    · rw [List.getElem?_drop] at hv; exact hv
    · simp at hv)
  rw [hlen] at hl
  cases hq : P.info? ty with
  | none => simp [hq] at hi
  | some i =>
    have hs : i.size = n := by simpa [hq] using hi
    have hagg : (isAgg ty).run P w = .ok true w := by
      unfold isAgg
      rw [Sem.run_bind, run_underlying hu w]
      cases d <;> simp_all
    simp [loadVar, Sem.run_bind, hagg, sizeOf, typeInfo, hq, hs, hl]
theorem wpList_load_agg {P : Program} {ops : Array Oper} {rest : List Oper} {o : Oper} {a : Act} {w : World} {Q : Exit → Act → World → Prop} (hgd : o.guard = none) (ty : TypeId) (x : Operand) (ho : o.op = .load ty x)
    (g off e : Nat) (hx : a.eval x = .pointer (some ⟨g, off, none⟩)) (cs : List Value) (n : Nat) (d : TypeDesc) (hb : Blk w g e cs)
    (hu : P.underlying ty = some d) (hd : (match d with | .struct _ | .array _ _ => true | _ => false) = true) (hi : (P.info? ty).map (·.size) = some n) (hn : off + n ≤ cs.length)
    (h : wpList P ops Q rest (a.put o.dst (.agg ((cs.drop off).take n).toArray)) w) : wpList P ops Q (o :: rest) a w := by
  refine wpList_plain hgd fun K hK => ?_
  unfold Oper.wp execOp
  simp only [ho, hx, Instr.loadAt, Instr.sureAddr, Sem.run_bind, Sem.run_pure, Result.andThen_ok, run_loadVar_blk w g off e ty cs n d hb hu hd hi hn]
  exact hK _ _ h
/-- A struct or an array, stored whole into a block, from place o on. -/
theorem run_storeVar_blk {P : Program} (w : World) (g o e : Nat) (ty : TypeId) (cs : List Value) (cells : Array Value) (hb : Blk w g e cs) (hi : (P.info? ty).map (·.size) = some cells.size)
    (hn : o + cells.size ≤ cs.length) (h1 : ∀ v ∈ cells.toList, v.oneCell' = true) :
    ∃ w', (storeVar ty ⟨g, o, none⟩ (.agg cells)).run P w = .ok () w' ∧ Blk w' g e (cs.take o ++ cells.toList ++ cs.drop (o + cells.size)) ∧ Only g w w' := by
  obtain ⟨w', hr, hb', hoo⟩ := run_storeCells_blk (P := P) g o e cells.toList 0 cs w hb (by simp; omega) h1
  refine ⟨w', ?_, by simpa using hb', hoo⟩
  cases hq : P.info? ty with
  | none => simp [hq] at hi
  | some i =>
    have hs : cells.size = i.size := by simp [hq] at hi; omega
    simp [storeVar, sizeOf, typeInfo, hq, Value.cells, hs, hr]
theorem wpList_store_agg {P : Program} {ops : Array Oper} {rest : List Oper} {o : Oper} {a : Act} {w : World} {Q : Exit → Act → World → Prop} (hgd : o.guard = none) (ty : TypeId) (x y : Operand) (ho : o.op = .store ty x y)
    (g off e : Nat) (cells : Array Value) (hx : a.eval x = .pointer (some ⟨g, off, none⟩)) (hy : a.eval y = .agg cells)
    (cs : List Value) (hb : Blk w g e cs) (hi : (P.info? ty).map (·.size) = some cells.size) (hn : off + cells.size ≤ cs.length) (h1 : ∀ v ∈ cells.toList, v.oneCell' = true)
    (h : ∀ w', Blk w' g e (cs.take off ++ cells.toList ++ cs.drop (off + cells.size)) → Only g w w' → wpList P ops Q rest (a.put o.dst undef) w') : wpList P ops Q (o :: rest) a w := by
  obtain ⟨w', hr, hb', hoo⟩ := run_storeVar_blk (P := P) w g off e ty cs cells hb hi hn h1
  refine wpList_plain hgd fun K hK => ?_
  unfold Oper.wp execOp
  simp only [ho, hx, hy, Instr.storeAt, Instr.sureAddr, Sem.run_bind, Sem.run_pure, Result.andThen_ok, hr]
  exact hK _ _ (h w' hb' hoo)
theorem results_cell_blk {P : Program} {fn : Func} {p : Tmp} {ty : TypeId} (h : fn.results = #[.cell p ty]) (tmps : Array Value) (w : World) (g e : Nat) (cs : List Value) (d : TypeDesc)
    (hp : tmps.getD p undef = .pointer (some ⟨g, 0, none⟩)) (hb : Blk w g e cs)
    (hu : P.underlying ty = some d) (hd : (match d with | .struct _ | .array _ _ => true | _ => false) = true) (hi : (P.info? ty).map (·.size) = some cs.length) :
    (results fn tmps).run P w = .ok (.agg cs.toArray) w := by
  have hp' : tmps[p]?.getD undef = .pointer (some ⟨g, 0, none⟩) := by simpa using hp
  have := run_loadVar_blk (P := P) w g 0 e ty cs cs.length d hb hu hd hi (by omega)
  simp only [List.drop_zero, List.take_length] at this
  simp [results, h, hp', asAddr, this]
theorem oneCell_tab {n : Nat} {f : Nat → Value} (h : ∀ j, (f j).oneCell' = true) : ∀ v ∈ (tab n f).toArray.toList, v.oneCell' = true := by
  intro v hv
  simp [tab] at hv
  obtain ⟨j, _, rfl⟩ := hv
  exact h j
/-- The same of a whole block, its cells told by a function. -/
theorem wpList_load_tab {P : Program} {ops : Array Oper} {rest : List Oper} {o : Oper} {a : Act} {w : World} {Q : Exit → Act → World → Prop} (hgd : o.guard = none) (ty : TypeId) (x : Operand) (ho : o.op = .load ty x)
    (g e : Nat) (hx : a.eval x = .pointer (some ⟨g, 0, none⟩)) (n : Nat) (f : Nat → Value) (d : TypeDesc) (hb : Blk w g e (tab n f))
    (hu : P.underlying ty = some d) (hd : (match d with | .struct _ | .array _ _ => true | _ => false) = true) (hi : (P.info? ty).map (·.size) = some n)
    (h : wpList P ops Q rest (a.put o.dst (.agg (tab n f).toArray)) w) : wpList P ops Q (o :: rest) a w := by
  refine wpList_load_agg hgd ty x ho g 0 e hx (tab n f) n d hb hu hd hi (by rw [tab_length]; omega) ?_
  rw [List.drop_zero, List.take_of_length_le (by rw [tab_length]; omega)]
  exact h
theorem wpList_store_tab {P : Program} {ops : Array Oper} {rest : List Oper} {o : Oper} {a : Act} {w : World} {Q : Exit → Act → World → Prop} (hgd : o.guard = none) (ty : TypeId) (x y : Operand) (ho : o.op = .store ty x y)
    (g e n : Nat) (f f0 : Nat → Value) (hx : a.eval x = .pointer (some ⟨g, 0, none⟩)) (hy : a.eval y = .agg (tab n f).toArray)
    (hb : Blk w g e (tab n f0)) (hi : (P.info? ty).map (·.size) = some n) (h1 : ∀ j, (f j).oneCell' = true)
    (h : ∀ w', Blk w' g e (tab n f) → Only g w w' → wpList P ops Q rest (a.put o.dst undef) w') : wpList P ops Q (o :: rest) a w := by
  have hs : (tab n f).toArray.size = n := by rw [List.size_toArray, tab_length]
  refine wpList_store_agg hgd ty x y ho g 0 e _ hx hy (tab n f0) hb (by rw [hs]; exact hi) (by rw [hs, tab_length]; omega) (oneCell_tab h1) fun w' hb' ho' => h w' (hb'.congr ?_) ho'
  rw [hs, List.take_zero, List.nil_append, Nat.zero_add, List.drop_of_length_le (by rw [tab_length]; omega), List.append_nil]
theorem results_cell_tab {P : Program} {fn : Func} {p : Tmp} {ty : TypeId} (h : fn.results = #[.cell p ty]) (tmps : Array Value) (w : World) (g e n : Nat) (f : Nat → Value) (d : TypeDesc)
    (hp : tmps.getD p undef = .pointer (some ⟨g, 0, none⟩)) (hb : Blk w g e (tab n f))
    (hu : P.underlying ty = some d) (hd : (match d with | .struct _ | .array _ _ => true | _ => false) = true) (hi : (P.info? ty).map (·.size) = some n) :
    (results fn tmps).run P w = .ok (.agg (tab n f).toArray) w := results_cell_blk h tmps w g e (tab n f) d hp hb hu hd (by rw [tab_length]; exact hi)

/-- A local variable whose address is taken: a new block of its zero. -/
theorem wpList_alloc_blk {P : Program} {ops : Array Oper} {rest : List Oper} {o : Oper} {a : Act} {w : World} {Q : Exit → Act → World → Prop} (hgd : o.guard = none) (ty : TypeId) (ho : o.op = .alloc ty)
    (z : Value) (hz : (P.info? ty).map (·.zero) = some (some z))
    (h : ∀ w', Blk w' w.heap.size ty z.cells.toList → Below w.heap.size w w' → w.heap.size < w'.heap.size → wpList P ops Q rest (a.put o.dst (.pointer (some ⟨w.heap.size, 0, none⟩))) w') : wpList P ops Q (o :: rest) a w := by
  obtain ⟨i, hi, hzz⟩ := Option.map_eq_some_iff.1 hz
  refine wpList_plain hgd fun K hK => ?_
  unfold Oper.wp execOp
  simp [ho, Instr.alloc, zeroValue, typeInfo, hi, hzz, newVar, newRow]
  exact hK _ _ (h _ (Blk.new w z.cells ty) ((Below.refl _ _).alloc (Nat.le_refl _) _) (by simp))
end Go.Proofs.Ytdififdnnpgjoaa
/- Slices that are read; slices of the call's own beside blocks that are written. No program is named here. -/
namespace Go.Proofs.Ytdififdnnpgjoaa
open Go.RowKit

theorem owns_only {w w' : World} {base size n g : Nat} {e : TypeId} {v : Value} {xs : List Value} (h : w.ownsRow base e size v n xs) (ho : Only g w w') (hg : g < base) : w'.ownsRow base e size v n xs := by
  refine ⟨h.1, ?_⟩
  rcases h.2 with h2 | ⟨k, cap, cur, hv, hb, hh, r⟩
  · exact .inl h2
  · exact .inr ⟨k, cap, cur, hv, hb, by rw [ho.block k (by omega)]; exact hh, r⟩
theorem owns_kept {w w' : World} {base size n : Nat} {e : TypeId} {v : Value} {xs : List Value} (h : w.ownsRow base e size v n xs) (hb : Below w.heap.size w w') : w'.ownsRow base e size v n xs := by
  refine ⟨h.1, ?_⟩
  rcases h.2 with h2 | ⟨k, cap, cur, hv, hbk, hh, r⟩
  · exact .inl h2
  · exact .inr ⟨k, cap, cur, hv, hbk, by rw [hb.block k (Array.getElem?_eq_some_iff.1 hh).1]; exact hh, r⟩
theorem owns_base {w : World} {base base' size n : Nat} {e : TypeId} {v : Value} {xs : List Value} (h : w.ownsRow base e size v n xs) (hb : base' ≤ base) : w.ownsRow base' e size v n xs := by
  refine ⟨h.1, ?_⟩
  rcases h.2 with h2 | ⟨k, cap, cur, hv, hbk, hh, r⟩
  · exact .inl h2
  · exact .inr ⟨k, cap, cur, hv, by omega, hh, r⟩
/-- A slice that reads as the cells xs. -/
def Rd (w : World) (ao : Option Addr) (xs : List Value) : Prop :=
  xs.length ≤ maxLen ∧ (0 < xs.length → ∃ g off, ao = some ⟨g, off, none⟩ ∧ g < w.heap.size ∧ ∀ j, j < xs.length → w.cell? ⟨g, off + j, none⟩ = xs[j]?)
theorem Rd.kept {w w' : World} {ao : Option Addr} {xs : List Value} (h : Rd w ao xs) (hb : Below w.heap.size w w') : Rd w' ao xs := by
  refine ⟨h.1, fun hn => ?_⟩
  obtain ⟨g, off, h1, h2, h3⟩ := h.2 hn
  exact ⟨g, off, h1, Nat.lt_of_lt_of_le h2 hb.size, fun j hj => by rw [hb.cell (p := ⟨g, off + j, none⟩) h2]; exact h3 j hj⟩
theorem Rd.drewN {w : World} {ao : Option Addr} {xs : List Value} (h : Rd w ao xs) (n : Nat) : Rd (w.drewN n) ao xs := h
theorem Rd.of_owns {w : World} {base n : Nat} {e : TypeId} {v : Value} {xs : List Value} (h : w.ownsRow base e 1 v n xs) : ∃ ao cap, v = .slice ao n cap ∧ Rd w ao xs ∧ xs.length = n := by
  have hl : xs.length = n := by have := h.1; omega
  have h0 := h
  rcases h.2 with ⟨hv, h2⟩ | ⟨k, cap, cur, hv, hb, hh, hnc, hcm, r⟩
  · subst h2
    exact ⟨none, 0, hv, ⟨by rw [hl]; unfold maxLen; omega, fun hn => by omega⟩, hl⟩
  · refine ⟨_, _, hv, ⟨by omega, fun hn => ⟨k, 0, rfl, (Array.getElem?_eq_some_iff.1 hh).1, fun j hj => ?_⟩⟩, hl⟩
    subst hv
    have := h0.cellAt j (by omega)
    rw [Nat.zero_add]
    exact this
end Go.Proofs.Ytdififdnnpgjoaa
/- Parameters and values that are boxed: a struct by value, laid into a block. No program is named here. -/
namespace Go.Proofs.Ytdififdnnpgjoaa
open Go.RowKit

theorem wpList_box_blk {P : Program} {ops : Array Oper} {rest : List Oper} {o : Oper} {a : Act} {w : World} {Q : Exit → Act → World → Prop} (hgd : o.guard = none) (ty : TypeId) (x : Operand) (ho : o.op = .box ty x)
    (cells : Array Value) (hx : a.eval x = .agg cells)
    (h : ∀ w', Blk w' w.heap.size ty cells.toList → Below w.heap.size w w' → w.heap.size < w'.heap.size → wpList P ops Q rest (a.put o.dst (.pointer (some ⟨w.heap.size, 0, none⟩))) w') : wpList P ops Q (o :: rest) a w := by
  refine wpList_plain hgd fun K hK => ?_
  unfold Oper.wp execOp
  simp [ho, hx, newVar, newRow, Value.cells]
  exact hK _ _ (h _ (Blk.new w cells ty) ((Below.refl _ _).alloc (Nat.le_refl _) _) (by simp))
theorem wpList_box_tab {P : Program} {ops : Array Oper} {rest : List Oper} {o : Oper} {a : Act} {w : World} {Q : Exit → Act → World → Prop} (hgd : o.guard = none) (ty : TypeId) (x : Operand) (ho : o.op = .box ty x)
    (n : Nat) (f : Nat → Value) (hx : a.eval x = .agg (tab n f).toArray)
    (h : ∀ w', Blk w' w.heap.size ty (tab n f) → Below w.heap.size w w' → w.heap.size < w'.heap.size → wpList P ops Q rest (a.put o.dst (.pointer (some ⟨w.heap.size, 0, none⟩))) w') : wpList P ops Q (o :: rest) a w :=
  wpList_box_blk hgd ty x ho (tab n f).toArray hx fun w' h1 h2 h3 => h w' h1 h2 h3
end Go.Proofs.Ytdififdnnpgjoaa
/- Slices of the call's own, more: append of what is read, new rows. No program is named here. -/
namespace Go.Proofs.Ytdififdnnpgjoaa
open Go.RowKit

theorem run_append_nil {P : Program} (w : World) (t ty e : TypeId) (i : TypeInfo) (z : Value) (ht : P.underlying t = some (.slice e)) (hi : P.info? e = some i) (hz : i.zero = some z) (ao : Option Addr) (n cap : Nat) (hc : n ≤ cap) :
    (Builtin.append_ #[t, t] ty #[.slice ao n cap, .slice none 0 0]).run P w = .ok (.slice ao n cap) w := by
  simp [Builtin.append_, run_underlying ht, sizeOf, typeInfo, zeroValue, hi, hz, Builtin.lenOf, hc, Builtin.firstCells]
  cases ao <;> simp [storeCells]
theorem wpList_append_nil {P : Program} (w : World) {ops : Array Oper} {rest : List Oper} {o : Oper} {a : Act} {Q : Exit → Act → World → Prop}
    (hgd : o.guard = none) (s x : Operand) (t : TypeId) (hop : o.op = Op.call { callee := Callee.builtin Builtin.append, args := #[s, x], argTypes := #[t, t] })
    (base e : Nat) (z : Value) (bytes : Nat) (ht : P.underlying t = some (.slice e)) (hinf : (P.info? e).map (fun i => (i.zero, i.size, i.bytes)) = some (some z, 1, bytes))
    (v : Value) (n : Nat) (xs : List Value) (hs : a.eval s = v) (hown : w.ownsRow base e 1 v n xs) (hx : a.eval x = .slice none 0 0)
    (hK : wpList P ops Q rest (a.put o.dst v) w) : wpList P ops Q (o :: rest) a w := by
  obtain ⟨i, hi, hz0, hz1, hz2⟩ := info_parts hinf
  have hr : (Builtin.append_ #[t, t] o.type #[v, .slice none 0 0]).run P w = .ok v w := by
    rcases hown.2 with ⟨rfl, rfl⟩ | ⟨g, cap, cur, rfl, _, _, hc, _⟩
    · exact run_append_nil w t o.type e i z ht hi hz0 none 0 0 (Nat.le_refl _)
    · exact run_append_nil w t o.type e i z ht hi hz0 _ n cap hc
  refine wpList_plain hgd fun K hK' => ?_
  unfold Oper.wp execOp
  simp only [hop, resolve, invoke, builtin, Sem.run_bind, Sem.run_pure, Result.andThen_ok, List.map_toArray, List.map_cons, List.map_nil, hs, hx, hr]
  exact hK' _ _ hK
theorem Rd.of_blk {w : World} {g : Nat} {e : TypeId} {xs : List Value} (h : Blk w g e xs) (hl : xs.length ≤ maxLen) : Rd w (some ⟨g, 0, none⟩) xs :=
  ⟨hl, fun _ => ⟨g, 0, rfl, h.lt, fun j _ => by rw [Nat.zero_add]; exact h.cell j⟩⟩
theorem Rd.empty (w : World) (ao : Option Addr) : Rd w ao [] := ⟨by simp, fun h => by simp at h⟩
theorem Rd.tail {w : World} {g off : Nat} {x : Value} {xs : List Value} (h : Rd w (some ⟨g, off, none⟩) (x :: xs)) : Rd w (some ⟨g, off + 1, none⟩) xs := by
  refine ⟨by have := h.1; simp at this; omega, fun hn => ?_⟩
  obtain ⟨g', off', he, h1, h2⟩ := h.2 (by simp)
  simp only [Option.some.injEq, Addr.mk.injEq, and_true] at he
  obtain ⟨rfl, rfl⟩ := he
  refine ⟨g, off + 1, rfl, h1, fun j hj => ?_⟩
  have := h2 (j + 1) (by simp; omega)
  rw [show off + 1 + j = off + (j + 1) by omega, this]
  rfl
theorem Rd.of_owns' {w : World} {base n : Nat} {e : TypeId} {v : Value} {xs : List Value} (h : w.ownsRow base e 1 v n xs) : ∃ ao cap, v = .slice ao n cap ∧ Rd w ao xs ∧ (ao = none → cap = 0) := by
  obtain ⟨ao, cap, rfl, hr, _⟩ := Rd.of_owns h
  refine ⟨ao, cap, rfl, hr, fun h0 => ?_⟩
  rcases h.2 with ⟨hv, _⟩ | ⟨k, cap', cur, hv, _⟩
  · simp at hv; exact hv.2.2
  · subst h0; simp at hv
theorem wpList_append_rd {P : Program} (w : World) {ops : Array Oper} {rest : List Oper} {o : Oper} {a : Act} {Q : Exit → Act → World → Prop}
    (hgd : o.guard = none) (s x : Operand) (t : TypeId) (hop : o.op = Op.call { callee := Callee.builtin Builtin.append, args := #[s, x], argTypes := #[t, t] })
    (base e : Nat) (z : Value) (bytes : Nat) (ht : P.underlying t = some (.slice e)) (hinf : (P.info? e).map (fun i => (i.zero, i.size, i.bytes)) = some (some z, 1, bytes)) (hz : z.cells.size = 1)
    (v : Value) (n : Nat) (xs : List Value) (hs : a.eval s = v) (hown : w.ownsRow base e 1 v n xs) (ao : Option Addr) (m c : Nat) (ys : List Value) (hx : a.eval x = .slice ao m c) (hm : ys.length = m) (hr : Rd w ao ys) (hc : ao = none → c = 0) (h1 : ∀ u ∈ ys, u.oneCell' = true)
    (h63 : n + m ≤ maxLen) (hbytes : (n + m) * bytes ≤ 140737488355328) (hbase : base ≤ w.heap.size)
    (hK : ∀ v' w', w'.ownsRow base e 1 v' (n + m) (xs ++ ys) → Below base w w' → w.grownBy w' v.ownBlock → wpList P ops Q rest (a.put o.dst v') w') : wpList P ops Q (o :: rest) a w := by
  obtain ⟨i, hi, hz0, hz1, hz2⟩ := info_parts hinf
  have hrow : ∀ k, v.ownBlock = some k → base ≤ k := fun k hk => (hown.lt k hk).1
  cases ao with
  | none =>
    have h0 : ys = [] := by
      cases ys with
      | nil => rfl
      | cons y ys =>
        obtain ⟨g, off, h, _⟩ := hr.2 (by simp)
        simp at h
    subst h0
    obtain rfl : m = 0 := by simpa using hm.symm
    obtain rfl := hc rfl
    refine wpList_append_nil w hgd s x t hop base e z bytes ht hinf v n xs hs hown hx (hK v w ?_ (Below.refl _ _) (World.grownBy.refl w _))
    simpa using hown
  | some ad =>
    refine wpList_append_own w hgd s x t hop base e i z 1 bytes ht hi hz0 hz1 hz2 hz (by omega) v n xs hs hown ad m c ys hx (by omega)
      (fun j y hj => ?_) h1 h63 hbytes hbase ?_
    · have hjl : j < ys.length := (List.getElem?_eq_some_iff.1 hj).1
      obtain ⟨g, off, h, _, h3⟩ := hr.2 (by omega)
      simp only [Option.some.injEq] at h
      subst h
      rw [Addr.add_lit, h3 j hjl]
      exact hj
    · intro v' w' h1 h2 _
      exact hK v' w' h1 ((Below.refl base w).grown h2 hbase hrow) h2
theorem owns_congr {w : World} {B e sz n : Nat} {v : Value} {xs ys : List Value} (h : w.ownsRow B e sz v n xs) (he : xs = ys) : w.ownsRow B e sz v n ys := he ▸ h
/-- A row that the call has just made. -/
theorem owns_new (w : World) (cur : Array Value) (e B : Nat) (hB : B ≤ w.heap.size) (hm : cur.size ≤ maxLen) : (w.alloc (.cells cur e)).ownsRow B e 1 (.slice (some ⟨w.heap.size, 0, none⟩) cur.size cur.size) cur.size cur.toList :=
  ⟨by simp, .inr ⟨w.heap.size, cur.size, cur, rfl, hB, heap_alloc_new w _, Nat.le_refl _, hm, by simp, by rw [Nat.mul_one]; exact List.take_of_length_le (by simp)⟩⟩
theorem owns_new' (w : World) (cur : Array Value) (e B g n : Nat) (hg : w.heap.size = g) (hn : cur.size = n) (hB : B ≤ g) (hm : n ≤ maxLen) : (w.alloc (.cells cur e)).ownsRow B e 1 (.slice (some ⟨g, 0, none⟩) n n) n cur.toList := by
  subst hg; subst hn; exact owns_new w cur e B hB hm
theorem blk_new' (w : World) (cur : Array Value) (e g : Nat) (hg : w.heap.size = g) : Blk (w.alloc (.cells cur e)) g e cur.toList := by
  subst hg; exact Blk.new w cur e
theorem owns_form {w : World} {B e n : Nat} {v : Value} {xs : List Value} (h : w.ownsRow B e 1 v n xs) (hn : 0 < n) : ∃ g cap, v = .slice (some ⟨g, 0, none⟩) n cap ∧ B ≤ g ∧ g < w.heap.size ∧ n ≤ cap ∧ cap ≤ maxLen ∧ (∀ j, j < n → w.cell? ⟨g, j, none⟩ = xs[j]?) ∧ ∀ j, w.frozen? ⟨g, j, none⟩ = false := by
  have h0 := h
  rcases h.2 with ⟨_, h2⟩ | ⟨g, cap, cur, rfl, hb, hh, hnc, hcm, _⟩
  · omega
  · exact ⟨g, cap, rfl, hb, (Array.getElem?_eq_some_iff.1 hh).1, hnc, hcm, fun j hj => h0.cellAt j (by omega), fun j => h0.frozenAt j⟩
theorem grown_below {B g : Nat} {w w' : World} (h : w.grownBy w' (some g)) (hB : B ≤ g) (hw : B ≤ w.heap.size) : Below B w w' :=
  ⟨h.os, h.tape, h.output, h.size, fun k hk => h.block k (by omega) (fun e => by injection e; omega)⟩
end Go.Proofs.Ytdififdnnpgjoaa
/- A region that draws its order, by what holds behind each of its operations: one proof an operation, none an order. No program is named here. -/
namespace Go.Proofs.Ytdififdnnpgjoaa
open Go.RowKit

theorem mem_ready' {md : Region.Mode} {ops : Array Oper} {listed : Array Bool} {i : Nat} (h : i ∈ Region.ready md ops listed) :
    i < ops.size ∧ listed.getD i true = false ∧ ∃ o, ops[i]? = some o ∧ ∀ e ∈ o.after, Region.binds md e = true → listed.getD e.on false = true := by
  unfold Region.ready at h
  rw [List.mem_filter, List.mem_range] at h
  obtain ⟨h1, h2⟩ := h
  simp only [Bool.and_eq_true, Bool.not_eq_true'] at h2
  obtain ⟨h2, h3⟩ := h2
  have ho : ops[i]? = some ops[i] := Array.getElem?_eq_getElem h1
  rw [ho] at h3
  simp only [Option.map_some, Option.getD_some, Array.all_eq_true'] at h3
  refine ⟨h1, h2, _, ho, fun e he hb => ?_⟩
  have := h3 e he
  simpa [hb] using this
/-- Each operation waits for earlier ones alone. -/
def upward (md : Region.Mode) (ops : Array Oper) : Bool := (List.range ops.size).all fun i => ((ops[i]?).map (·.after.all fun e => !Region.binds md e || decide (e.on < i))).getD true
theorem ready_nil {md : Region.Mode} {ops : Array Oper} {listed : Array Bool} (hu : upward md ops = true) (hs : listed.size = ops.size) (h : Region.ready md ops listed = []) : ∀ i, i < ops.size → listed.getD i false = true := by
  intro i
  induction i using Nat.strongRecOn with
  | _ i ih =>
    intro hi
    cases hl : listed.getD i false with
    | true => rfl
    | false =>
      exfalso
      have ho : ops[i]? = some ops[i] := Array.getElem?_eq_getElem hi
      have hup := List.all_eq_true.1 hu i (List.mem_range.2 hi)
      rw [ho] at hup
      simp only [Option.map_some, Option.getD_some, Array.all_eq_true'] at hup
      have : i ∈ Region.ready md ops listed := by
        unfold Region.ready
        rw [List.mem_filter, List.mem_range]
        refine ⟨hi, ?_⟩
        rw [ho]
        simp only [Bool.and_eq_true, Bool.not_eq_true', Option.map_some, Option.getD_some, Array.all_eq_true']
        refine ⟨?_, fun e he => ?_⟩
        · have hlt : i < listed.size := by omega
          simp [hlt] at hl ⊢
          exact hl
        · have := hup e he
          simp only [Bool.or_eq_true, Bool.not_eq_true', decide_eq_true_eq] at this ⊢
          rcases this with h1 | h1
          · exact .inl h1
          · exact .inr (ih e.on h1 (by omega))
      rw [h] at this
      cases this
def setL (L : Nat → Bool) (i : Nat) : Nat → Bool := fun j => if j = i then true else L j
theorem getD_set {listed : Array Bool} {i : Nat} (hi : i < listed.size) : (fun j => (listed.setIfInBounds i true).getD j false) = setL (fun j => listed.getD j false) i := by
  funext j
  unfold setL
  by_cases h : j = i
  · subst h; simp [hi]
  · rw [if_neg h]
    by_cases hj : j < listed.size
    · simp [hj, Array.getElem_setIfInBounds, Ne.symm h]
    · simp [hj]
def unlisted (listed : Array Bool) : Nat := (listed.toList.filter (! ·)).length
theorem filter_set (l : List Bool) : ∀ (i : Nat), l[i]? = some false → ((l.set i true).filter (! ·)).length + 1 = (l.filter (! ·)).length := by
  induction l with
  | nil => intro i h; simp at h
  | cons b l ih =>
    intro i h
    cases i with
    | zero => simp at h; subst h; simp
    | succ i =>
      simp at h
      have := ih i h
      cases b <;> simp_all
theorem unlisted_set {listed : Array Bool} {i : Nat} (h : listed.getD i true = false) : unlisted (listed.setIfInBounds i true) + 1 = unlisted listed := by
  unfold unlisted
  have hi : listed.toList[i]? = some false := by
    by_cases hlt : i < listed.size
    · simp [hlt] at h ⊢; exact h
    · simp [hlt] at h
  rw [Array.toList_setIfInBounds]
  exact filter_set _ i hi
theorem unlisted_zero {listed : Array Bool} (h : unlisted listed = 0) (i : Nat) (hi : i < listed.size) : listed.getD i true = true := by
  unfold unlisted at h
  have h1 := List.eq_nil_of_length_eq_zero h
  rw [List.filter_eq_nil_iff] at h1
  have h2 := h1 listed[i] (by simp)
  simpa [hi] using h2
theorem unlisted_replicate (n : Nat) : unlisted (Array.replicate n false) = n := by
  unfold unlisted
  rw [Array.toList_replicate]
  induction n with
  | zero => rfl
  | succ n ih => simp [List.replicate_succ, ih]
section
variable {P : Program} {ops : Array Oper} {Q : Exit → Act → World → Prop} {md : Region.Mode}
theorem wpAny_inv (hu : upward md ops = true) (I : (Nat → Bool) → Act → World → Prop)
    (hstep : ∀ (L : Nat → Bool) (a : Act) (w : World) (i : Nat) (o : Oper), I L a w → ops[i]? = some o → L i = false → (∀ e ∈ o.after, Region.binds md e = true → L e.on = true) → wpOp P ops Q i (I (setL L i)) a w)
    (hdone : ∀ (L : Nat → Bool) (a : Act) (w : World), I L a w → (∀ i, i < ops.size → L i = true) → Q .normal a w) :
    ∀ (fuel : Nat) (listed : Array Bool) (a : Act) (w : World), listed.size = ops.size → unlisted listed = fuel → I (fun i => listed.getD i false) a w → wpAny P md ops Q fuel listed a w
  | 0, listed, a, w, hs, hf, hI => by
    have hr : Region.ready md ops listed = [] := by
      rw [List.eq_nil_iff_forall_not_mem]
      intro i hi
      obtain ⟨h1, h2, _⟩ := mem_ready' hi
      rw [unlisted_zero hf i (by omega)] at h2
      cases h2
    exact ⟨hr, hdone _ _ _ hI (ready_nil hu hs hr)⟩
  | fuel + 1, listed, a, w, hs, hf, hI => by
    refine ⟨fun hr => hdone _ _ _ hI (ready_nil hu hs hr), fun i hi => ?_⟩
    obtain ⟨h1, h2, o, ho, h3⟩ := mem_ready' hi
    have hlt : i < listed.size := by omega
    have h2' : listed.getD i false = false := by simp [hlt] at h2 ⊢; exact h2
    refine wpOp_mono (fun a' w' hI' => ?_) (hstep _ a w i o hI ho h2' h3)
    refine wpAny_inv hu I hstep hdone fuel _ a' w' (by simp [hs]) (by have := unlisted_set h2; omega) ?_
    rw [getD_set hlt]
    exact hI'
theorem wp_region_inv {id : Nat} {a : Act} {w : World} (hm : P.follows .mixedOrders = true) (hu : upward .any ops = true) (I : (Nat → Bool) → Act → World → Prop)
    (h0 : I (fun _ => false) a w.drew)
    (hstep : ∀ (L : Nat → Bool) (a : Act) (w : World) (i : Nat) (o : Oper), I L a w → ops[i]? = some o → L i = false → (∀ e ∈ o.after, Region.binds .any e = true → L e.on = true) → wpOp P ops Q i (I (setL L i)) a w)
    (hdone : ∀ (L : Nat → Bool) (a : Act) (w : World), I L a w → (∀ i, i < ops.size → L i = true) → Q .normal a w) : (Code.region id ops true).wp P Q a w := by
  refine wp_region_any hm (wpAny_inv hu I hstep hdone _ _ _ _ (by simp) (unlisted_replicate _) ?_)
  have : (fun i => (Array.replicate ops.size false).getD i false) = fun _ => false := by
    funext i
    by_cases h : i < ops.size <;> simp [h]
  rw [this]
  exact h0
theorem wpOp_of {i : Nat} {o : Oper} {K : Act → World → Prop} {a : Act} {w : World} (ho : ops[i]? = some o) (hg : o.guard = none) (h : o.wp P a w K Q) : wpOp P ops Q i K a w := by
  unfold wpOp
  rw [ho]
  have hw : Region.wanted o (yielded ops a.tmps) = true := by simp [Region.wanted, hg]
  simp only [hw, if_true]
  exact .inl h
end
/-- The frame is A but for the slots D. -/
structure FrameI (A : Array Value) (D : List Nat) (a : Act) : Prop where
  size : a.tmps.size = A.size
  defers : a.defers = []
  keep : ∀ s, s ∉ D → a.tmps.getD s undef = A.getD s undef
theorem FrameI.refl (A : Array Value) (D : List Nat) : FrameI A D ⟨A, []⟩ := ⟨rfl, rfl, fun _ _ => rfl⟩
theorem put_getD (a : Act) (d : Nat) (v : Value) (s : Nat) (hd : d < a.tmps.size) : (a.put (some d) v).tmps.getD s undef = if s = d then v else a.tmps.getD s undef := by
  unfold Act.put
  by_cases h : s = d
  · subst h; simp [hd]
  · simp only [h, if_false]
    by_cases hs : s < a.tmps.size
    · simp [hs, Array.getElem_setIfInBounds, Ne.symm h]
    · simp [hs]
theorem FrameI.put {A : Array Value} {D : List Nat} {a : Act} (h : FrameI A D a) {d : Nat} (hd : d ∈ D) (v : Value) : FrameI A D (a.put (some d) v) := by
  refine ⟨by simp [Act.put, h.size], h.defers, fun s hs => ?_⟩
  have hne : s ≠ d := fun e => hs (e ▸ hd)
  rw [← h.keep s hs]
  unfold Act.put
  by_cases hlt : s < a.tmps.size
  · simp [hlt, Array.getElem_setIfInBounds, Ne.symm hne]
  · simp [hlt]
/-- The frame, written out. -/
def putAll (A : Array Value) : List (Nat × Value) → Array Value
  | [] => A
  | (s, v) :: r => (putAll A r).setIfInBounds s v
theorem putAll_size (A : Array Value) (r : List (Nat × Value)) : (putAll A r).size = A.size := by
  induction r with
  | nil => rfl
  | cons x r ih => simp [putAll, ih]
theorem putAll_get (A : Array Value) : ∀ (r : List (Nat × Value)) (s : Nat), (∀ x ∈ r, x.1 < A.size) → (putAll A r).getD s undef = ((r.find? (·.1 == s)).map (·.2)).getD (A.getD s undef)
  | [], s, _ => by simp [putAll]
  | (t, v) :: r, s, h => by
    have ht : t < A.size := h (t, v) (by simp)
    have ih := putAll_get A r s (fun x hx => h x (by simp [hx]))
    simp only [putAll, List.find?_cons]
    by_cases e : t = s
    · subst e; simp [putAll_size, ht]
    · have e' : (t == s) = false := by simpa using e
      rw [e', ← ih]
      by_cases hs : s < (putAll A r).size
      · simp [hs, Array.getElem_setIfInBounds, e]
      · simp [hs]
theorem FrameI.eq {A : Array Value} {D : List Nat} {a : Act} (h : FrameI A D a) (r : List (Nat × Value)) (hr : ∀ x ∈ r, x.1 < A.size ∧ a.tmps.getD x.1 undef = x.2) (hD : ∀ s ∈ D, (r.find? (·.1 == s)).isSome = true) : a = ⟨putAll A r, []⟩ := by
  obtain ⟨tm, df⟩ := a
  have hd := h.defers
  have hs := h.size
  dsimp only at hd hs hr
  subst hd
  congr 1
  have hget : ∀ s, tm.getD s undef = (putAll A r).getD s undef := by
    intro s
    rw [putAll_get A r s (fun x hx => (hr x hx).1)]
    cases hf : r.find? (·.1 == s) with
    | none =>
      have : s ∉ D := fun hs' => by have := hD s hs'; rw [hf] at this; cases this
      exact h.keep s this
    | some x =>
      have h1 := List.mem_of_find?_eq_some hf
      have h2 := List.find?_some hf
      have h3 : x.1 = s := by simpa using h2
      rw [← h3]
      exact (hr x h1).2
  apply Array.ext
  · rw [hs, putAll_size]
  · intro i h1 h2
    have := hget i
    simpa [h1, h2] using this
end Go.Proofs.Ytdififdnnpgjoaa
/- Laws at one operation of a region that draws its order. No program is named here. -/
namespace Go.Proofs.Ytdififdnnpgjoaa
open Go.RowKit

section
variable {P : Program} {o : Oper} {a : Act} {w : World} {K : Act → World → Prop} {Q : Exit → Act → World → Prop}
theorem wp_call (f : Nat) (args : Array Operand) (tys : Array TypeId) (ho : o.op = Op.call { callee := Callee.value (Operand.func f), args := args, argTypes := tys }) (fn : Func) (hf : P.funcs[f]? = some fn) (hn : (fn.name == "runtime.NumGoroutine") = false) (hbo : fn.body.isNone = false) (vs : Array Value) (hv : args.map a.eval = vs)
    (h : Calls P f vs w fun e w' => ∃ u, e = .returned u ∧ K (a.put o.dst u) w') : o.wp P a w K Q := by
  unfold Oper.wp execOp
  subst hv
  simp only [ho, resolve, invoke, Sem.run_bind, Sem.run_pure, Result.andThen_ok, Act.eval, Oper.upon]
  simp only [Deferred.ofValue, callFunc, Sem.run_bind, Sem.run_pure, Result.andThen_ok, Array.append_empty, Array.empty_append, run_program, hf, hn, hbo, Bool.false_eq_true, if_false]
  refine Calls.mono h fun e w' he => ?_
  obtain ⟨u, rfl, hk⟩ := he
  exact hk
theorem wp_move (x : Operand) (ho : o.op = .move x) (h : K (a.put o.dst (a.eval x)) w) : o.wp P a w K Q := by
  unfold Oper.wp execOp
  simp only [ho, Sem.run_pure, Oper.upon, Result.andThen_ok, Sem.run_bind]
  exact h
theorem wp_alloc_blk (ty : TypeId) (ho : o.op = .alloc ty) (z : Value) (hz : (P.info? ty).map (·.zero) = some (some z))
    (h : ∀ w', Blk w' w.heap.size ty z.cells.toList → Below w.heap.size w w' → w.heap.size < w'.heap.size → K (a.put o.dst (.pointer (some ⟨w.heap.size, 0, none⟩))) w') : o.wp P a w K Q := by
  obtain ⟨i, hi, hzz⟩ := Option.map_eq_some_iff.1 hz
  unfold Oper.wp execOp
  simp [ho, Instr.alloc, zeroValue, typeInfo, hi, hzz, newVar, newRow]
  exact h _ (Blk.new w z.cells ty) ((Below.refl _ _).alloc (Nat.le_refl _) _) (by simp)
theorem wp_load_agg (ty : TypeId) (x : Operand) (ho : o.op = .load ty x)
    (g off e : Nat) (hx : a.eval x = .pointer (some ⟨g, off, none⟩)) (cs : List Value) (n : Nat) (d : TypeDesc) (hb : Blk w g e cs)
    (hu : P.underlying ty = some d) (hd : (match d with | .struct _ | .array _ _ => true | _ => false) = true) (hi : (P.info? ty).map (·.size) = some n) (hn : off + n ≤ cs.length)
    (h : K (a.put o.dst (.agg ((cs.drop off).take n).toArray)) w) : o.wp P a w K Q := by
  unfold Oper.wp execOp
  simp only [ho, hx, Instr.loadAt, Instr.sureAddr, Sem.run_bind, Sem.run_pure, Result.andThen_ok, run_loadVar_blk w g off e ty cs n d hb hu hd hi hn]
  exact h
theorem wp_load_tab (ty : TypeId) (x : Operand) (ho : o.op = .load ty x)
    (g e : Nat) (hx : a.eval x = .pointer (some ⟨g, 0, none⟩)) (n : Nat) (f : Nat → Value) (d : TypeDesc) (hb : Blk w g e (tab n f))
    (hu : P.underlying ty = some d) (hd : (match d with | .struct _ | .array _ _ => true | _ => false) = true) (hi : (P.info? ty).map (·.size) = some n)
    (h : K (a.put o.dst (.agg (tab n f).toArray)) w) : o.wp P a w K Q := by
  refine wp_load_agg ty x ho g 0 e hx (tab n f) n d hb hu hd hi (by rw [tab_length]; omega) ?_
  rw [List.drop_zero, List.take_of_length_le (by rw [tab_length]; omega)]
  exact h
theorem wp_store_agg (ty : TypeId) (x y : Operand) (ho : o.op = .store ty x y)
    (g off e : Nat) (cells : Array Value) (hx : a.eval x = .pointer (some ⟨g, off, none⟩)) (hy : a.eval y = .agg cells)
    (cs : List Value) (hb : Blk w g e cs) (hi : (P.info? ty).map (·.size) = some cells.size) (hn : off + cells.size ≤ cs.length) (h1 : ∀ v ∈ cells.toList, v.oneCell' = true)
    (h : ∀ w', Blk w' g e (cs.take off ++ cells.toList ++ cs.drop (off + cells.size)) → Only g w w' → K (a.put o.dst undef) w') : o.wp P a w K Q := by
  obtain ⟨w', hr, hb', hoo⟩ := run_storeVar_blk (P := P) w g off e ty cs cells hb hi hn h1
  unfold Oper.wp execOp
  simp only [ho, hx, hy, Instr.storeAt, Instr.sureAddr, Sem.run_bind, Sem.run_pure, Result.andThen_ok, hr]
  exact h w' hb' hoo
theorem wp_store_tab (ty : TypeId) (x y : Operand) (ho : o.op = .store ty x y)
    (g e n : Nat) (f f0 : Nat → Value) (hx : a.eval x = .pointer (some ⟨g, 0, none⟩)) (hy : a.eval y = .agg (tab n f).toArray)
    (hb : Blk w g e (tab n f0)) (hi : (P.info? ty).map (·.size) = some n) (h1 : ∀ j, (f j).oneCell' = true)
    (h : ∀ w', Blk w' g e (tab n f) → Only g w w' → K (a.put o.dst undef) w') : o.wp P a w K Q := by
  have hs : (tab n f).toArray.size = n := by rw [List.size_toArray, tab_length]
  refine wp_store_agg ty x y ho g 0 e _ hx hy (tab n f0) hb (by rw [hs]; exact hi) (by rw [hs, tab_length]; omega) (oneCell_tab h1) fun w' hb' ho' => h w' (hb'.congr ?_) ho'
  rw [hs, List.take_zero, List.nil_append, Nat.zero_add, List.drop_of_length_le (by rw [tab_length]; omega), List.append_nil]
end
end Go.Proofs.Ytdififdnnpgjoaa
/- Slots and variables of a drawn region, in its midst. No program is named here. -/
namespace Go.Proofs.Ytdififdnnpgjoaa
open Go.RowKit

theorem wp_region_inv2 {P : Program} {ops : Array Oper} {Q : Exit → Act → World → Prop} {id : Nat} {a : Act} {w : World} (hm : P.follows .mixedOrders = true) (hu : upward .any ops = true) (I : Array Value → (Nat → Bool) → Act → World → Prop)
    (h0 : I a.tmps (fun _ => false) a w.drew)
    (hstep : ∀ (L : Nat → Bool) (a' : Act) (w : World) (i : Nat) (o : Oper), I a.tmps L a' w → ops[i]? = some o → L i = false → (∀ e ∈ o.after, Region.binds .any e = true → L e.on = true) → wpOp P ops Q i (I a.tmps (setL L i)) a' w)
    (hdone : ∀ (L : Nat → Bool) (a' : Act) (w : World), I a.tmps L a' w → (∀ i, i < ops.size → L i = true) → Q .normal a' w) : (Code.region id ops true).wp P Q a w :=
  wp_region_inv hm hu (I a.tmps) h0 hstep hdone
theorem imp_set {L : Nat → Bool} {i j : Nat} {p q : Prop} (h : L j = true → p) (hne : j ≠ i) (hpq : p → q) : setL L i j = true → q := by
  unfold setL; rw [if_neg hne]; exact fun hl => hpq (h hl)
theorem setL_ne {L : Nat → Bool} {i j : Nat} (hne : j ≠ i) : setL L i j = L j := by unfold setL; rw [if_neg hne]
theorem setL_eq {L : Nat → Bool} {i : Nat} : setL L i i = true := by unfold setL; rw [if_pos rfl]
theorem absF {p : Prop} (h : false = true) : p := by cases h
theorem slot_same {a : Act} {d : Nat} {u : Value} (hd : d < a.tmps.size) : (a.put (some d) u).tmps.getD d undef = u := by rw [put_getD a d u d hd, if_pos rfl]
theorem slot_other {a : Act} {d s : Nat} {u v : Value} (h : a.tmps.getD s undef = v) (hne : s ≠ d) : (a.put (some d) u).tmps.getD s undef = v := by
  rw [← h]
  unfold Act.put
  by_cases hs : s < a.tmps.size
  · simp [hs, Array.getElem_setIfInBounds, Ne.symm hne]
  · simp [hs]
/-- A variable that an operation of a drawn region makes, and another one fills. -/
def Cell3 (made filled : Bool) (v : Value) (B g : Nat) (w : World) (T : TypeId) (n : Nat) (fin zero : Nat → Value) : Prop :=
  (filled = true → made = true) ∧ (made = true → v = .pointer (some ⟨g, 0, none⟩) ∧ B ≤ g ∧ (filled = true → Blk w g T (tab n fin)) ∧ (filled = false → Blk w g T (tab n zero)))
section
variable {made filled : Bool} {v : Value} {B g : Nat} {w w' : World} {T : TypeId} {n : Nat} {fin zero : Nat → Value}
theorem Cell3.start (v : Value) (B g : Nat) (w : World) (T : TypeId) (n : Nat) (fin zero : Nat → Value) : Cell3 false false v B g w T n fin zero := ⟨fun h => h, fun h => by cases h⟩
theorem Cell3.lt (h : Cell3 made filled v B g w T n fin zero) (hm : made = true) : g < w.heap.size := by
  obtain ⟨_, _, h1, h2⟩ := h.2 hm
  cases filled
  · exact (h2 rfl).lt
  · exact (h1 rfl).lt
theorem Cell3.kept (h : Cell3 made filled v B g w T n fin zero) (hb : Below w.heap.size w w') : Cell3 made filled v B g w' T n fin zero :=
  ⟨h.1, fun hm => ⟨(h.2 hm).1, (h.2 hm).2.1, fun hf => ((h.2 hm).2.2.1 hf).kept hb, fun hf => ((h.2 hm).2.2.2 hf).kept hb⟩⟩
theorem Cell3.only {g' : Nat} (h : Cell3 made filled v B g w T n fin zero) (ho : Only g' w w') (hne : made = true → g ≠ g') : Cell3 made filled v B g w' T n fin zero :=
  ⟨h.1, fun hm => ⟨(h.2 hm).1, (h.2 hm).2.1, fun hf => ho.other ((h.2 hm).2.2.1 hf) (hne hm), fun hf => ho.other ((h.2 hm).2.2.2 hf) (hne hm)⟩⟩
theorem Cell3.slot {v' : Value} (h : Cell3 made filled v B g w T n fin zero) (hv : v' = v) : Cell3 made filled v' B g w T n fin zero := hv ▸ h
theorem Cell3.new (hf : filled = false) (hv : v = .pointer (some ⟨g, 0, none⟩)) (hB : B ≤ g) (hb : Blk w g T (tab n zero)) : Cell3 true filled v B g w T n fin zero :=
  ⟨fun _ => rfl, fun _ => ⟨hv, hB, (fun h => by rw [hf] at h; cases h), fun _ => hb⟩⟩
theorem Cell3.fill (h : Cell3 made filled v B g w T n fin zero) (hm : made = true) (hb : Blk w' g T (tab n fin)) : Cell3 made true v B g w' T n fin zero :=
  ⟨fun _ => hm, fun _ => ⟨(h.2 hm).1, (h.2 hm).2.1, fun _ => hb, fun h => by cases h⟩⟩
theorem Cell3.empty (h : Cell3 made filled v B g w T n fin zero) (hm : made = false) : filled = false := by
  cases hf : filled with
  | false => rfl
  | true => have := h.1 hf; rw [hm] at this; cases this
end
end Go.Proofs.Ytdififdnnpgjoaa
/- append at one operation of a region that draws its order. No program is named here. -/
namespace Go.Proofs.Ytdififdnnpgjoaa
open Go.RowKit

section
variable {P : Program} {o : Oper} {a : Act} {w : World} {K : Act → World → Prop} {Q : Exit → Act → World → Prop}
/-- 'append(v, ys...)', v the call's own, ys the whole of a block. -/
theorem wp_append_blk (s x : Operand) (t : TypeId) (ho : o.op = .call { callee := .builtin .append, args := #[s, x], argTypes := #[t, t] })
    (base e : Nat) (z : Value) (size bytes : Nat) (ht : P.underlying t = some (.slice e)) (hinf : (P.info? e).map (fun i => (i.zero, i.size, i.bytes)) = some (some z, size, bytes)) (hz : z.cells.size = size) (hs0 : 0 < size)
    (v : Value) (n : Nat) (xs : List Value) (hs : a.eval s = v) (hown : w.ownsRow base e size v n xs) (g2 m c : Nat) (news : List Value) (hx : a.eval x = .slice (some ⟨g2, 0, none⟩) m c) (hl : news.length = m * size) (hb : Blk w g2 e news) (h1 : ∀ u ∈ news, u.oneCell' = true)
    (h63 : n + m ≤ maxLen) (hbytes : (n + m) * bytes ≤ 140737488355328) (hbase : base ≤ w.heap.size)
    (h : ∀ v' w', w'.ownsRow base e size v' (n + m) (xs ++ news) → Below base w w' → w.grownBy w' v.ownBlock → K (a.put o.dst v') w') : o.wp P a w K Q := by
  obtain ⟨i, hi, hz0, hz1, hz2⟩ := info_parts hinf
  have hrow : ∀ k, v.ownBlock = some k → base ≤ k := fun k hk => (hown.lt k hk).1
  obtain ⟨v', w', hrun, h2, h3, _, _⟩ := run_append_own_at (P := P) w base t o.type e i z size bytes ht hi hz0 hz1 hz2 hz hs0 v n xs hown ⟨g2, 0, none⟩ m c news hl
    (fun j u hj => by rw [Addr.add_lit, Nat.zero_add, hb.cell]; exact hj) h1 h63 hbytes hbase
  unfold Oper.wp execOp
  simp only [ho, resolve, invoke, builtin, Sem.run_bind, Sem.run_pure, Result.andThen_ok, List.map_toArray, List.map_cons, List.map_nil, hs, hx, hrun]
  exact h v' w' h2 ((Below.refl base w).grown h3 hbase hrow) h3
theorem step_append_blk {ops : Array Oper} {E : Prop} (hgd : o.guard = none) (s x : Operand) (t : TypeId) (ho : o.op = .call { callee := .builtin .append, args := #[s, x], argTypes := #[t, t] })
    (base e : Nat) (z : Value) (size bytes : Nat) (ht : P.underlying t = some (.slice e)) (hinf : (P.info? e).map (fun i => (i.zero, i.size, i.bytes)) = some (some z, size, bytes)) (hz : z.cells.size = size) (hs0 : 0 < size)
    (v : Value) (n : Nat) (xs : List Value) (hs : a.eval s = v) (hown : w.ownsRow base e size v n xs) (g2 m c : Nat) (news : List Value) (hx : a.eval x = .slice (some ⟨g2, 0, none⟩) m c) (hl : news.length = m * size) (hb : Blk w g2 e news) (h1 : ∀ u ∈ news, u.oneCell' = true)
    (h63 : n + m ≤ maxLen) (hbytes : (n + m) * bytes ≤ 140737488355328) (hbase : base ≤ w.heap.size)
    (h : ∀ v' w', w'.ownsRow base e size v' (n + m) (xs ++ news) → Below base w w' → w.grownBy w' v.ownBlock → K (a.put o.dst v') w') : if Region.wanted o (yielded ops a.tmps) = true then Oper.wp P o a w K Q else E := by
  have hw : Region.wanted o (yielded ops a.tmps) = true := by simp [Region.wanted, hgd]
  rw [if_pos hw]
  exact wp_append_blk s x t ho base e z size bytes ht hinf hz hs0 v n xs hs hown g2 m c news hx hl hb h1 h63 hbytes hbase h
end
end Go.Proofs.Ytdififdnnpgjoaa
/- Laws at one operation of a region that draws its order: a nil check, one cell read, one cell written. No program is named here. -/
namespace Go.Proofs.Ytdififdnnpgjoaa
open Go.RowKit

section
variable {P : Program} {o : Oper} {a : Act} {w : World} {K : Act → World → Prop} {Q : Exit → Act → World → Prop}
theorem wp_nilCheck (x : Operand) (ho : o.op = .nilCheck x) (ad : Addr) (hx : a.eval x = .pointer (some ad)) (h : K (a.put o.dst (.pointer (some ad))) w) : o.wp P a w K Q := by
  unfold Oper.wp execOp
  simp only [ho, hx, Sem.run_pure, Oper.upon, Result.andThen_ok, Sem.run_bind]
  exact h
theorem wp_fieldAddr (t : TypeId) (x : Operand) (i : Nat) (ho : o.op = .fieldAddr t x i) (ad ad' : Addr) (hx : a.eval x = .pointer (some ad)) (hf : (Instr.fieldAt t (.pointer (some ad)) i).run P w = .ok (.pointer (some ad')) w) (h : K (a.put o.dst (.pointer (some ad'))) w) : o.wp P a w K Q := by
  unfold Oper.wp execOp
  simp only [ho, hx, hf, Sem.run_pure, Oper.upon, Result.andThen_ok, Sem.run_bind]
  exact h
theorem run_loadVar_cell {P : Program} (w : World) (ad : Addr) (ty : TypeId) (v : Value) (d : TypeDesc) (hc : w.cell? ad = some v) (hu : P.underlying ty = some d) (hd : (match d with | .struct _ | .array _ _ => true | _ => false) = false) :
    (loadVar ty ad).run P w = .ok v w := by
  have hagg : (isAgg ty).run P w = .ok false w := by
    unfold isAgg
    rw [Sem.run_bind, run_underlying hu w]
    cases d <;> simp_all
  simp [loadVar, Sem.run_bind, hagg, run_load, hc]
theorem wp_load_cell (ty : TypeId) (x : Operand) (ho : o.op = .load ty x) (ad : Addr) (hx : a.eval x = .pointer (some ad)) (v : Value) (d : TypeDesc) (hc : w.cell? ad = some v)
    (hu : P.underlying ty = some d) (hd : (match d with | .struct _ | .array _ _ => true | _ => false) = false)
    (h : K (a.put o.dst v) w) : o.wp P a w K Q := by
  unfold Oper.wp execOp
  simp only [ho, hx, Instr.loadAt, Instr.sureAddr, Sem.run_bind, Sem.run_pure, Result.andThen_ok, run_loadVar_cell w ad ty v d hc hu hd]
  exact h
theorem run_storeVar_cell {P : Program} (w : World) (g o e : Nat) (ty : TypeId) (cs : List Value) (v : Value) (hb : Blk w g e cs) (hi : (P.info? ty).map (·.size) = some 1) (ho : o < cs.length) (h1 : v.oneCell' = true) (hv : v.cells = #[v]) :
    (storeVar ty ⟨g, o, none⟩ v).run P w = .ok () (w.setCell ⟨g, o, none⟩ v) := by
  have hcell : w.cell? ⟨g, o, none⟩ = some cs[o] := by rw [hb.cell]; simp [ho]
  have hst : (store ((⟨g, o, none⟩ : Addr).add 0) v).run P w = .ok () (w.setCell ⟨g, o, none⟩ v) := by
    rw [Addr.add_lit, run_store P w _ v _ h1, Nat.add_zero, hcell]
    simp [hb.free o ho]
  cases hq : P.info? ty with
  | none => simp [hq] at hi
  | some i =>
    have hs : i.size = 1 := by simpa [hq] using hi
    simp [storeVar, sizeOf, typeInfo, hq, hv, hs, storeCells, hst]
theorem wp_store_cell (ty : TypeId) (x y : Operand) (ho : o.op = .store ty x y) (g off e : Nat) (v : Value) (hx : a.eval x = .pointer (some ⟨g, off, none⟩)) (hy : a.eval y = v)
    (cs : List Value) (hb : Blk w g e cs) (hi : (P.info? ty).map (·.size) = some 1) (hn : off < cs.length) (h1 : v.oneCell' = true) (hv : v.cells = #[v])
    (h : K (a.put o.dst undef) (w.setCell ⟨g, off, none⟩ v)) : o.wp P a w K Q := by
  unfold Oper.wp execOp
  simp only [ho, hx, hy, Instr.storeAt, Instr.sureAddr, Sem.run_bind, Sem.run_pure, Result.andThen_ok, run_storeVar_cell w g off e ty cs v hb hi hn h1 hv]
  exact h
theorem wpList_load_cell {ops : Array Oper} {rest : List Oper} {o : Oper} {a : Act} {w : World} {Q : Exit → Act → World → Prop} (hgd : o.guard = none) (ty : TypeId) (x : Operand) (ho : o.op = .load ty x) (ad : Addr) (hx : a.eval x = .pointer (some ad)) (v : Value) (d : TypeDesc) (hc : w.cell? ad = some v)
    (hu : P.underlying ty = some d) (hd : (match d with | .struct _ | .array _ _ => true | _ => false) = false)
    (h : wpList P ops Q rest (a.put o.dst v) w) : wpList P ops Q (o :: rest) a w :=
  wpList_plain hgd fun _ hK => wp_load_cell ty x ho ad hx v d hc hu hd (hK _ _ h)
theorem wpList_store_cell {ops : Array Oper} {rest : List Oper} {o : Oper} {a : Act} {w : World} {Q : Exit → Act → World → Prop} (hgd : o.guard = none) (ty : TypeId) (x y : Operand) (ho : o.op = .store ty x y) (g off e : Nat) (v : Value) (hx : a.eval x = .pointer (some ⟨g, off, none⟩)) (hy : a.eval y = v)
    (cs : List Value) (hb : Blk w g e cs) (hi : (P.info? ty).map (·.size) = some 1) (hn : off < cs.length) (h1 : v.oneCell' = true) (hv : v.cells = #[v])
    (h : ∀ w', Blk w' g e (cs.set off v) → Only g w w' → wpList P ops Q rest (a.put o.dst undef) w') : wpList P ops Q (o :: rest) a w :=
  wpList_plain hgd fun _ hK => wp_store_cell ty x y ho g off e v hx hy cs hb hi hn h1 hv (hK _ _ (h _ (hb.set off v) (Only.setCell off v)))
end
theorem run_equalIn_func_nil {P : Program} (w : World) (n : Nat) (t : TypeId) (ps rs : Array TypeId) (v : Bool) (fn : Fn) (x y : Array Value) (h : P.underlying t = some (.func ps rs v)) :
    (Op.equalIn (n + 1) t (.func fn x y) .nilFunc).run P w = .ok false w := by
  unfold Op.equalIn
  simp [run_underlying h]
theorem run_eql_func_nil {P : Program} (w : World) (t : TypeId) (ps rs : Array TypeId) (v : Bool) (fn : Fn) (x y : Array Value) (h : P.underlying t = some (.func ps rs v)) :
    (binOp .eql t (.func fn x y) .nilFunc).run P w = .ok (.bool false) w := by
  simp only [binOp]
  simp [Op.equal, Op.maxDepth, run_equalIn_func_nil w 9999 t ps rs v fn x y h]
end Go.Proofs.Ytdififdnnpgjoaa
/- A scope in which the run jumps to labels, back and on: what holds at each jump, and a measure that goes down. No program is named here. -/
namespace Go.Proofs.Ytdififdnnpgjoaa
open Go.RowKit

/-- As Q; by a goto to label l: J l. -/
def jumps (J : Nat → Act → World → Prop) (Q : Exit → Act → World → Prop) : Exit → Act → World → Prop
  | .goto l, a, w => J l a w
  | e, a, w => Q e a w
theorem jumps_goto (J : Nat → Act → World → Prop) (Q : Exit → Act → World → Prop) (l : Nat) (a : Act) (w : World) (h : J l a w) : jumps J Q (.goto l) a w := h
theorem jumps_ret (J : Nat → Act → World → Prop) (Q : Exit → Act → World → Prop) (a : Act) (w : World) (h : Q .ret a w) : jumps J Q .ret a w := h
theorem wp_scope_labels {P : Program} {a : Act} {w : World} {Q : Exit → Act → World → Prop} {c : Code} (J : Nat → Act → World → Prop) (μ : Nat → Act → World → Nat)
    (first : c.wp P (jumps J Q) a w)
    (pass : ∀ l a w, J l a w → ∃ rest, findLabel c l = some rest ∧ rest.wp P (jumps (fun l' a' w' => J l' a' w' ∧ μ l' a' w' < μ l a w) Q) a w) : (Code.scope c).wp P Q a w := by
  intro b k cs
  have key : ∀ n l a w, μ l a w = n → J l a w → ∃ rest, gotoIn l (.inScope c :: k) = some (.code rest :: .inScope c :: k) ∧ ∃ e a' w', Q e a' w' ∧ Arrives P (lone (b.at a (.code rest :: .inScope c :: k)) cs w) b k cs e a' w' := by
    intro n
    induction n using Nat.strongRecOn with
    | _ n ih =>
      intro l a w hn hJ
      obtain ⟨rest, hf, hr⟩ := pass l a w hJ
      have hg : gotoIn l (.inScope c :: k) = some (.code rest :: .inScope c :: k) := by simp [gotoIn, hf]
      refine ⟨rest, hg, ?_⟩
      obtain ⟨e, a₁, w₁, hq, harr⟩ := hr b (.inScope c :: k) cs
      cases e with
      | normal => exact ⟨.normal, a₁, w₁, hq, Steps.trans harr (.one step_inScope)⟩
      | exit id => exact ⟨.exit id, a₁, w₁, hq, fun k' hk => harr k' (by simp [exitTo, hk])⟩
      | goto l' =>
        obtain ⟨hJ', hlt⟩ := hq
        obtain ⟨rest', hg', e₂, a₂, w₂, hq₂, harr₂⟩ := ih _ (by omega) l' a₁ w₁ rfl hJ'
        exact ⟨e₂, a₂, w₂, hq₂, .of_steps (harr _ hg') harr₂⟩
      | ret => exact ⟨_, a₁, w₁, hq, harr⟩
      | panic ch => exact ⟨_, a₁, w₁, hq, harr⟩
      | outgrown => exact ⟨_, a₁, w₁, hq, harr⟩
  obtain ⟨e, a₁, w₁, hq, harr⟩ := first b (.inScope c :: k) cs
  cases e with
  | normal => exact ⟨.normal, a₁, w₁, hq, .head step_scope (Steps.trans harr (.one step_inScope))⟩
  | exit id => exact ⟨.exit id, a₁, w₁, hq, fun k' hk => .head step_scope (harr k' (by simp [exitTo, hk]))⟩
  | goto l' =>
    obtain ⟨rest', hg', e₂, a₂, w₂, hq₂, harr₂⟩ := key _ l' a₁ w₁ rfl hq
    exact ⟨e₂, a₂, w₂, hq₂, .of_steps (.head step_scope (harr _ hg')) harr₂⟩
  | ret => exact ⟨_, a₁, w₁, hq, .of_steps (.one step_scope) harr⟩
  | panic ch => exact ⟨_, a₁, w₁, hq, .of_steps (.one step_scope) harr⟩
  | outgrown => exact ⟨_, a₁, w₁, hq, .of_steps (.one step_scope) harr⟩
theorem jumps_mono {J J' : Nat → Act → World → Prop} {Q : Exit → Act → World → Prop} (h : ∀ l a w, J l a w → J' l a w) : ∀ e a w, jumps J Q e a w → jumps J' Q e a w := by
  intro e a w hq
  cases e <;> first | exact h _ _ _ hq | exact hq
/-- A scope that opens with label 0 behind its first piece: the body once, as from the label. -/
theorem wp_scope_l0 {P : Program} {a : Act} {w : World} {Q : Exit → Act → World → Prop} {r b : Code} (hr : ∀ l, findLabel r l = none) (J : Nat → Act → World → Prop) (μ : Nat → Act → World → Nat)
    (pre : r.wp P (Exit.then (J 0) (jumps J Q)) a w)
    (body : ∀ a w, J 0 a w → b.wp P (jumps (fun l' a' w' => J l' a' w' ∧ μ l' a' w' < μ 0 a w) Q) a w)
    (others : ∀ l, l ≠ 0 → ∀ a w, J l a w → ∃ rest, findLabel b l = some rest ∧ rest.wp P (jumps (fun l' a' w' => J l' a' w' ∧ μ l' a' w' < μ l a w) Q) a w) :
    (Code.scope (.seq r (.seq (.label 0) b))).wp P Q a w := by
  have hm : ∀ (m : Nat), ∀ l a w, (J l a w ∧ μ l a w < m) → J l a w := fun _ _ _ _ h => h.1
  refine wp_scope_labels J μ ?_ ?_
  · refine wp_seq (Code.wp_mono ?_ pre)
    intro e a w hq
    cases e with
    | normal => exact wp_seq (wp_label (Code.wp_mono (jumps_mono (fun l a w h => h.1)) (body a w hq)))
    | _ => exact hq
  · intro l a w hJ
    by_cases h0 : l = 0
    · subst h0
      exact ⟨.seq .skip b, by simp [findLabel, hr], wp_seq (wp_skip (body a w hJ))⟩
    · obtain ⟨rest, hf, hw⟩ := others l h0 a w hJ
      refine ⟨rest, ?_, hw⟩
      have h0' : (0 == l) = false := by simpa using fun e => h0 e.symm
      simp [findLabel, hr, h0', hf]
end Go.Proofs.Ytdififdnnpgjoaa
