/- Texts of this claim, one behind the other. -/
import Derived.WalkKit
import Derived.ProofKit
import Derived.OpenShut
import Derived.Lib.Hide
import Derived.Lib.Strings
import Derived.WalkSpells
import Derived.WalkLawsBesides
import Derived.Laws.CopyOwn
import Derived.ShutString
import Derived.ChangeArms
import Derived.WideShapes
/- Plain: bounds of numbers that came in. -/
namespace Go.Proofs.YtlmefcepdadfjaaGreat
open Go.ChangeShapes Go.WideShapes Go.ChangeAt Go.RowKit
theorem wf_bd {k : IntKind} {a : Int} (h : (Lit.int k a).wf = true) : k.min ≤ a ∧ a ≤ k.max := by
  simpa [Lit.wf] using h
theorem nat_u32 {a : Int} (h : (Lit.int .u32 a).wf = true) : ∃ x : Nat, x < 4294967296 ∧ a = x := by
  have := wf_bd h
  have h1 : IntKind.u32.min = 0 := rfl
  have h2 : IntKind.u32.max = 4294967295 := rfl
  exact ⟨a.toNat, by omega, by omega⟩
end Go.Proofs.YtlmefcepdadfjaaGreat
/- Plain facts on numbers and bits, and rules for the walk: no program is named here. -/
namespace Go.Proofs.YtlmefcepdadfjaaGreat
open Go.RowKit

theorem ret_int {k : IntKind} {a b : Int} (h : a = b) : Ending.returned (.int k a) = .returned (.int k b) := by rw [h]
theorem ret_bool {a b : Bool} (h : a = b) : Ending.returned (.bool a) = .returned (.bool b) := by rw [h]
theorem xor_lt32 {a b : Nat} (ha : a < 4294967296) (hb : b < 4294967296) : a ^^^ b < 4294967296 := Nat.xor_lt_two_pow (n := 32) ha hb
theorem take_snoc (s : ByteArray) (k : Nat) (h : k < s.size) : s.data.toList.take (k + 1) = s.data.toList.take k ++ [s[k]] := by
  rw [List.take_succ_eq_append_getElem (by simpa using h)]; rfl
theorem byte_lt (b : UInt8) : b.toNat < 256 := b.toNat_lt

theorem u32_max : IntKind.u32.max = 4294967295 := rfl
theorem u32_signed : IntKind.u32.signed = false := rfl
theorem not_xor32 (x : Nat) (hx : x < 4294967296) : 4294967295 ^^^ x = 4294967295 - x := by
  have h1 := BitVec.toNat_not (x := BitVec.ofNat 32 x)
  have h2 := BitVec.toNat_xor (BitVec.allOnes 32) (BitVec.ofNat 32 x)
  rw [BitVec.allOnes_xor] at h2
  rw [h2] at h1
  simpa [Nat.mod_eq_of_lt hx] using h1
theorem u32_not (x : Nat) (hx : x < 4294967296) : bits BinOp.xor IntKind.u32 4294967295 (x : Int) = ((4294967295 - x : Nat) : Int) := by
  rw [show (4294967295 : Int) = ((4294967295 : Nat) : Int) from rfl, u32_xor_nat _ _ (by omega) hx, not_xor32 x hx]
theorem u32_xorc (x y : Nat) (hx : x < 4294967296) (hy : y < 4294967296) : bits BinOp.xor IntKind.u32 (x : Int) (y : Int) = ((x ^^^ y : Nat) : Int) := u32_xor_nat _ _ hx hy
attribute [go_sem] u32_max u32_signed u32_not u32_xorc

end Go.Proofs.YtlmefcepdadfjaaGreat
/- Memory of the call's own, block by block: what a block holds, as a function of the place; make, store, read, string(b). No program is named here. -/
namespace Go.Proofs.YtlmefcepdadfjaaGreat
open Go.RowKit

/-- A list by its function. -/
def tab {α : Type} (n : Nat) (f : Nat → α) : List α := (List.range n).map f
theorem tab_length {α : Type} (n : Nat) (f : Nat → α) : (tab n f).length = n := by simp [tab]
theorem tab_get {α : Type} (n : Nat) (f : Nat → α) (j : Nat) (h : j < n) : (tab n f)[j]? = some (f j) := by simp [tab, h]
theorem tab_congr {α : Type} {n : Nat} {f g : Nat → α} (h : ∀ j, j < n → f j = g j) : tab n f = tab n g := by
  unfold tab; exact List.map_congr_left fun j hj => h j (by simpa using hj)
theorem tab_set {α : Type} (n : Nat) (f : Nat → α) (p : Nat) (v : α) : (tab n f).set p v = tab n (fun j => if j = p then v else f j) := by
  apply List.ext_getElem?
  intro j
  rw [List.getElem?_set]
  by_cases hj : j < n
  · by_cases hp : p = j
    · subst hp; simp [tab, hj]
    · rw [if_neg hp, tab_get _ _ _ hj, tab_get _ _ _ hj, if_neg (fun e => hp e.symm)]
  · by_cases hp : p = j
    · subst hp; simp [tab, hj]
    · rw [if_neg hp]; simp [tab, hj]
theorem tab_map {α β : Type} (n : Nat) (f : Nat → α) (g : α → β) : (tab n f).map g = tab n (fun j => g (f j)) := by simp [tab]
theorem tab_replicate {α : Type} (n : Nat) (a : α) : List.replicate n a = tab n (fun _ => a) := by
  apply List.ext_getElem?
  intro j
  by_cases hj : j < n <;> simp [tab, hj, List.getElem?_replicate]
/-- Block g holds the cells cs (of type e), none of them frozen. -/
def Blk (w : World) (g : Nat) (e : TypeId) (cs : List Value) : Prop := ∃ cur lo hi, w.heap[g]? = some (.cells cur e (lo, hi)) ∧ cur.toList = cs ∧ (hi ≤ lo ∨ cs.length ≤ lo)
section
variable {w w' : World} {g : Nat} {e : TypeId} {cs : List Value}
theorem Blk.lt (h : Blk w g e cs) : g < w.heap.size := by
  obtain ⟨cur, lo, hi, h1, _, _⟩ := h
  exact (Array.getElem?_eq_some_iff.1 h1).1
theorem Blk.cell (h : Blk w g e cs) (j : Nat) : w.cell? ⟨g, j, none⟩ = cs[j]? := by
  obtain ⟨cur, lo, hi, h1, h2, _⟩ := h
  simp [World.cell?, h1, ← h2]
theorem Blk.free (h : Blk w g e cs) (j : Nat) (hj : j < cs.length) : w.frozen? ⟨g, j, none⟩ = false := by
  obtain ⟨cur, lo, hi, h1, _, h3⟩ := h
  simp only [World.frozen?, h1, Bool.and_eq_false_iff, decide_eq_false_iff_not]
  omega
theorem Blk.set (h : Blk w g e cs) (j : Nat) (u : Value) : Blk (w.setCell ⟨g, j, none⟩ u) g e (cs.set j u) := by
  obtain ⟨cur, lo, hi, h1, h2, h3⟩ := h
  refine ⟨cur.setIfInBounds j u, lo, hi, ?_, by rw [Array.toList_setIfInBounds, h2], by simpa using h3⟩
  simp [World.setCell, Array.getElem?_modify, h1]
theorem Blk.other (h : Blk w g e cs) {a : Addr} (ha : a.block ≠ g) (u : Value) : Blk (w.setCell a u) g e cs := by
  obtain ⟨cur, lo, hi, h1, h2, h3⟩ := h
  exact ⟨cur, lo, hi, by rw [Below.heap_setCell _ _ _ _ (fun e => ha e.symm)]; exact h1, h2, h3⟩
theorem Blk.alloc (h : Blk w g e cs) (o : Obj) : Blk (w.alloc o) g e cs := by
  have hl := h.lt
  obtain ⟨cur, lo, hi, h1, h2, h3⟩ := h
  exact ⟨cur, lo, hi, by rw [Below.heap_alloc _ _ _ hl]; exact h1, h2, h3⟩
theorem Blk.drew (h : Blk w g e cs) : Blk w.drew g e cs := h
theorem Blk.drewN (h : Blk w g e cs) (n : Nat) : Blk (w.drewN n) g e cs := h
theorem Blk.below {B : Nat} (h : Blk w g e cs) (hb : Below B w w') (hg : g < B) : Blk w' g e cs := by
  obtain ⟨cur, lo, hi, h1, h2, h3⟩ := h
  exact ⟨cur, lo, hi, by rw [hb.block g hg]; exact h1, h2, h3⟩
theorem Blk.kept (h : Blk w g e cs) (hb : Below w.heap.size w w') : Blk w' g e cs := h.below hb h.lt
theorem Blk.grown {row : Option Nat} (h : Blk w g e cs) (hg : w.grownBy w' row) (hr : some g ≠ row) : Blk w' g e cs := by
  have hl := h.lt
  obtain ⟨cur, lo, hi, h1, h2, h3⟩ := h
  exact ⟨cur, lo, hi, by rw [hg.block g hl hr]; exact h1, h2, h3⟩
theorem Blk.congr {cs' : List Value} (h : Blk w g e cs) (hc : cs = cs') : Blk w g e cs' := hc ▸ h
theorem Blk.of_owns {base size n cap : Nat} {xs : List Value} (h : w.ownsRow base e size (.slice (some ⟨g, 0, none⟩) n cap) n xs) (hc : cap = n) : Blk w g e xs := by
  rcases h.2 with ⟨h', _⟩ | ⟨g', cap', cur, h', hb, hg, hnc, hcm, hcs, htake⟩
  · simp at h'
  · simp only [Value.slice.injEq, Option.some.injEq, Addr.mk.injEq, and_true, true_and] at h'
    obtain ⟨rfl, rfl⟩ := h'
    subst hc
    exact ⟨cur, 0, 0, hg, by rw [← htake, List.take_of_length_le (by simp [hcs])], .inl (Nat.le_refl _)⟩
theorem Blk.new (w : World) (cur : Array Value) (e : TypeId) : Blk (w.alloc (.cells cur e)) w.heap.size e cur.toList :=
  ⟨cur, 0, 0, heap_alloc_new w _, rfl, .inl (Nat.le_refl _)⟩
theorem Blk.setTab {n : Nat} {f : Nat → Value} (h : Blk w g e (tab n f)) (j : Nat) (u : Value) (f' : Nat → Value) (hu : f' j = u) (hf : ∀ i, i < n → i ≠ j → f' i = f i) : Blk (w.setCell ⟨g, j, none⟩ u) g e (tab n f') :=
  (h.set j u).congr (by
    rw [tab_set]
    exact tab_congr fun i hi => by by_cases e : i = j <;> simp [e, hu, hf i hi])
theorem Blk.at {n : Nat} {f : Nat → Value} (h : Blk w g e (tab n f)) (j : Nat) (hj : j < n) : w.cell? ⟨g, j, none⟩ = some (f j) := by rw [h.cell, tab_get _ _ _ hj]
theorem Blk.freeAt {n : Nat} {f : Nat → Value} (h : Blk w g e (tab n f)) (j : Nat) (hj : j < n) : w.frozen? ⟨g, j, none⟩ = false := h.free j (by rw [tab_length]; exact hj)
end

theorem Below.grownOwn {w w' : World} (hg : w.grownBy w' none) : Below w.heap.size w w' :=
  ⟨hg.os, hg.tape, hg.output, hg.size, fun k hk => hg.block k hk (by simp)⟩

theorem bcell {W w1 : World} (hb : Below W.heap.size W w1) : (∀ b o, b < W.heap.size → w1.cell? ⟨b, o, none⟩ = W.cell? ⟨b, o, none⟩) ∧ (∀ b o, b < W.heap.size → w1.frozen? ⟨b, o, none⟩ = W.frozen? ⟨b, o, none⟩) :=
  ⟨fun b o h => hb.cell (p := ⟨b, o, none⟩) h, fun b o h => hb.frozen (p := ⟨b, o, none⟩) h⟩
section
variable {w y z : World}
theorem kp_alloc {o : Obj} (h : Below w.heap.size w y) : Below w.heap.size w (y.alloc o) := h.alloc h.size o
theorem kp_step (h : Below w.heap.size w y) (k : Below y.heap.size y z) : Below w.heap.size w z := h.trans (k.mono h.size)
end
/-- 'make([]T, n)' of elements of one cell: a new block of n zeros, of whatever world w' is left. -/
theorem wpList_make_blk {P : Program} (w : World) {ops : Array Oper} {rest : List Oper} {o : Oper} {a : Act} {Q : Exit → Act → World → Prop}
    (hg : o.guard = none) (l c : Operand) (t : TypeId) (hop : o.op = Op.makeSlice t l c)
    (e : TypeId) (z : Value) (bytes : Nat) (h1 : P.underlying t = some (.slice e)) (h2 : (P.info? e).map (fun i => (i.zero, i.size, i.bytes)) = some (some z, 1, bytes)) (hz : z.cells = #[z])
    (n : Nat) (L : Int) (hl : a.eval l = .int .i64 L) (hc : a.eval c = .int .i64 L) (hL : L = (n : Int)) (b2 : bytes * n ≤ 281474976710656) (b3 : n ≤ maxLen)
    (hK : ∀ w', Blk w' w.heap.size e (tab n fun _ => z) → Below w.heap.size w w' → w.heap.size < w'.heap.size → wpList P ops Q rest (a.put o.dst (.slice (some ⟨w.heap.size, 0, none⟩) n n)) w') :
    wpList P ops Q (o :: rest) a w := by
  obtain ⟨i, hi, hz0, hz1, hz2⟩ := info_parts h2
  subst hz2
  refine wpList_make_full w hg l c t hop w.heap.size e i z 1 h1 hi hz0 hz1 .i64 .i64 L L n hl hc hL hL b2 b3 (Nat.le_refl _) ?_
  intro w' hown hgr
  have hb : Blk w' w.heap.size e (tab n fun _ => z) := by
    have := Blk.of_owns hown rfl
    rw [hz, Nat.mul_one, toList_madeCells_one, tab_replicate] at this
    exact this
  exact hK w' hb (Below.grownOwn hgr) hb.lt

/-- 'string(b)', b the whole of a block of bytes. -/
theorem run_string_blk {P : Program} (w : World) (src dst e : TypeId) (hs : P.underlying src = some (.slice e)) (he : P.underlying e = some (.int .u8)) (hd : P.underlying dst = some .string)
    (g cap n : Nat) (l : List UInt8) (hn : l.length = n) (hb : ∀ j (hj : j < l.length), w.cell? ⟨g, j, none⟩ = some (.int .u8 (l[j].toNat : Int))) :
    (convert src dst (.slice (some ⟨g, 0, none⟩) n cap)).run P w = .ok (.string ⟨l.toArray⟩) w := by
  subst hn
  exact run_convert_bytes_back w src dst e ⟨g, 0, none⟩ cap l hs he hd (fun j hj => by
    have := hb j hj
    rw [Addr.add_lit, Nat.zero_add]
    exact this)

end Go.Proofs.YtlmefcepdadfjaaGreat
/- Slices that the call appends to, and string(b) of them; []byte(s). No program is named here. -/
namespace Go.Proofs.YtlmefcepdadfjaaGreat
open Go.RowKit

/-- '[]byte(s)': a new block: the bytes, then zeros. -/
theorem run_bytes_blk {P : Program} (w : World) (src dst e : TypeId) (s : ByteArray) (hs : P.underlying src = some .string) (hd : P.underlying dst = some (.slice e)) (he : P.underlying e = some (.int .u8)) :
    ∃ cap w', (convert src dst (.string s)).run P w = .ok (.slice (some ⟨w.heap.size, 0, none⟩) s.size cap) w' ∧ s.size ≤ cap ∧ Blk w' w.heap.size e (tab cap fun j => .int .u8 ((s.data.toList.getD j 0).toNat : Int)) ∧ Below w.heap.size w w' ∧ w.heap.size < w'.heap.size := by
  have hge := grownCap_ge w s.size 0 e
  refine ⟨_, _, run_bytes_of_string w src dst e s hs hd he, hge, ?_, ((Below.refl _ _).drew).alloc (Nat.le_refl _) _, by simp⟩
  refine ⟨_, _, _, heap_alloc_new w.drew _, ?_, .inr ?_⟩
  · apply List.ext_getElem?
    intro j
    have hsz : s.size = s.data.size := rfl
    by_cases hj : j < grownCap w s.size 0 e
    · rw [tab_get _ _ _ hj]
      by_cases hj2 : j < s.size
      · have := bytesRow_at s (grownCap w s.size 0 e) j (by omega)
        rw [Array.getElem?_toList, this]
        simp [List.getD, Array.getElem?_eq_getElem (show j < s.data.size from by omega)]
      · have h1 : s.data.toList.getD j 0 = 0 := by simp [List.getD, Array.getElem?_eq_none (show s.data.size ≤ j from by omega)]
        rw [h1, Array.getElem?_toList, bytesRow, Array.getElem?_append_right (by simp; omega)]
        rw [Array.getElem?_replicate, if_pos (by simp; omega)]
        rfl
    · rw [List.getElem?_eq_none (by rw [Array.length_toList, bytesRow, Array.size_append, Array.size_map, Array.size_replicate]; omega), List.getElem?_eq_none (by rw [tab_length]; omega)]
  · simp [tab_length, bytesRow]
    have hsz : s.size = s.data.size := rfl
    omega
end Go.Proofs.YtlmefcepdadfjaaGreat
/- Whole arrays and structs: loaded from, and stored into, a block of the call's own. No program is named here. -/
namespace Go.Proofs.YtlmefcepdadfjaaGreat
open Go.RowKit

/-- Block g alone may have been written. -/
structure Only (g : Nat) (w w' : World) : Prop where
  os : w'.os = w.os
  tape : w'.tape = w.tape
  output : w'.output = w.output
  size : w'.heap.size = w.heap.size
  block : ∀ k, k ≠ g → w'.heap[k]? = w.heap[k]?
section
variable {g : Nat} {w w' w'' : World}
theorem Only.refl : Only g w w := ⟨rfl, rfl, rfl, rfl, fun _ _ => rfl⟩
theorem Only.trans (h : Only g w w') (k : Only g w' w'') : Only g w w'' := ⟨k.os.trans h.os, k.tape.trans h.tape, k.output.trans h.output, k.size.trans h.size, fun i hi => (k.block i hi).trans (h.block i hi)⟩
theorem Only.setCell (j : Nat) (u : Value) : Only g w (w.setCell ⟨g, j, none⟩ u) := ⟨rfl, rfl, rfl, by simp [World.setCell], fun k hk => Below.heap_setCell _ _ _ _ hk⟩
theorem Only.below {B : Nat} (h : Only g w w') (hB : B ≤ g) : Below B w w' := ⟨h.os, h.tape, h.output, Nat.le_of_eq h.size.symm, fun k hk => h.block k (by omega)⟩
theorem Only.other {g' : Nat} {e : TypeId} {cs : List Value} (h : Only g w w') (hb : Blk w g' e cs) (hne : g' ≠ g) : Blk w' g' e cs := by
  obtain ⟨cur, lo, hi, h1, h2⟩ := hb
  exact ⟨cur, lo, hi, by rw [h.block g' hne]; exact h1, h2⟩
end

theorem put_step (cs : List Value) (k : Nat) (v : Value) (rest : List Value) (h : k + (v :: rest).length ≤ cs.length) :
    (cs.set k v).take (k + 1) ++ rest ++ (cs.set k v).drop (k + 1 + rest.length) = cs.take k ++ (v :: rest) ++ cs.drop (k + (v :: rest).length) := by
  apply List.ext_getElem?
  intro j
  simp only [List.length_cons] at h ⊢
  simp only [List.append_assoc, List.getElem?_append, List.length_take, List.length_set, List.getElem?_take, List.getElem?_set, List.getElem?_drop, List.length_cons, List.cons_append, List.getElem?_cons]
  by_cases h1 : j < k
  · simp [h1, show j < k + 1 by omega, show min (k + 1) cs.length = k + 1 by omega, show min k cs.length = k by omega, show k ≠ j by omega]
  · by_cases h2 : j = k
    · subst h2
      simp [show min (j + 1) cs.length = j + 1 by omega, show min j cs.length = j by omega, show j < cs.length by omega]
    · by_cases h3 : j < k + 1 + rest.length
      · simp [h1, show ¬ j < k + 1 by omega, show min (k + 1) cs.length = k + 1 by omega, show min k cs.length = k by omega, show j - k ≠ 0 by omega, show j - (k + 1) < rest.length by omega, show j - k - 1 = j - (k + 1) by omega]
      · simp [h1, show ¬ j < k + 1 by omega, show min (k + 1) cs.length = k + 1 by omega, show min k cs.length = k by omega, show j - k ≠ 0 by omega, show ¬ j - (k + 1) < rest.length by omega, show j - k - 1 = j - (k + 1) by omega]
        rw [if_neg (by omega)]
        congr 1
        omega
theorem run_storeCells_blk {P : Program} (g o e : Nat) : ∀ (vs : List Value) (i : Nat) (cs : List Value) (w : World), Blk w g e cs → o + i + vs.length ≤ cs.length → (∀ v ∈ vs, v.oneCell' = true) →
    ∃ w', (storeCells ⟨g, o, none⟩ vs i).run P w = .ok () w' ∧ Blk w' g e (cs.take (o + i) ++ vs ++ cs.drop (o + i + vs.length)) ∧ Only g w w'
  | [], i, cs, w, hb, _, _ => ⟨w, rfl, by simpa using hb, Only.refl⟩
  | v :: rest, i, cs, w, hb, hl, h1 => by
    have hi : o + i < cs.length := by simp at hl; omega
    have hcell : w.cell? ⟨g, o + i, none⟩ = some cs[o + i] := by rw [hb.cell]; simp [hi]
    have hfro := hb.free (o + i) hi
    have hst : (store ((⟨g, o, none⟩ : Addr).add i) v).run P w = .ok () (w.setCell ⟨g, o + i, none⟩ v) := by
      rw [Addr.add_lit, run_store P w _ v _ (h1 v (by simp)), hcell]
      simp [hfro]
    obtain ⟨w', hr, hb', ho⟩ := run_storeCells_blk (P := P) g o e rest (i + 1) (cs.set (o + i) v) (w.setCell ⟨g, o + i, none⟩ v) (hb.set (o + i) v) (by simp at hl ⊢; omega) (fun x hx => h1 x (by simp [hx]))
    refine ⟨w', ?_, hb'.congr ?_, (Only.setCell _ _).trans ho⟩
    · simp only [storeCells, Sem.run_bind, hst, Result.andThen_ok, hr]
    · have := put_step cs (o + i) v rest hl
      simpa [Nat.add_assoc] using this

/-- A struct or an array, read whole out of a block, from place o on. -/
theorem run_loadVar_blk {P : Program} (w : World) (g o e : Nat) (ty : TypeId) (cs : List Value) (n : Nat) (d : TypeDesc) (hb : Blk w g e cs)
    (hu : P.underlying ty = some d) (hd : (match d with | .struct _ | .array _ _ => true | _ => false) = true) (hi : (P.info? ty).map (·.size) = some n) (hn : o + n ≤ cs.length) :
    (loadVar ty ⟨g, o, none⟩).run P w = .ok (.agg ((cs.drop o).take n).toArray) w := by
  have hlen : ((cs.drop o).take n).length = n := by simp; omega
  have hl := run_loadCells_list (P := P) w ⟨g, o, none⟩ ((cs.drop o).take n) (fun j v hv => by
    rw [Addr.add_lit, hb.cell]
    rw [List.getElem?_take] at hv
    split at hv
    · rw [List.getElem?_drop] at hv; exact hv
    · simp at hv)
  rw [hlen] at hl
  cases hq : P.info? ty with
  | none => simp [hq] at hi
  | some i =>
    have hs : i.size = n := by simpa [hq] using hi
    have hagg : (isAgg ty).run P w = .ok true w := by
      unfold isAgg
      rw [Sem.run_bind, run_underlying hu w]
      cases d <;> simp_all
    simp [loadVar, Sem.run_bind, hagg, sizeOf, typeInfo, hq, hs, hl]
theorem wpList_load_agg {P : Program} {ops : Array Oper} {rest : List Oper} {o : Oper} {a : Act} {w : World} {Q : Exit → Act → World → Prop} (hgd : o.guard = none) (ty : TypeId) (x : Operand) (ho : o.op = .load ty x)
    (g off e : Nat) (hx : a.eval x = .pointer (some ⟨g, off, none⟩)) (cs : List Value) (n : Nat) (d : TypeDesc) (hb : Blk w g e cs)
    (hu : P.underlying ty = some d) (hd : (match d with | .struct _ | .array _ _ => true | _ => false) = true) (hi : (P.info? ty).map (·.size) = some n) (hn : off + n ≤ cs.length)
    (h : wpList P ops Q rest (a.put o.dst (.agg ((cs.drop off).take n).toArray)) w) : wpList P ops Q (o :: rest) a w := by
  refine wpList_plain hgd fun K hK => ?_
  unfold Oper.wp execOp
  simp only [ho, hx, Instr.loadAt, Instr.sureAddr, Sem.run_bind, Sem.run_pure, Result.andThen_ok, run_loadVar_blk w g off e ty cs n d hb hu hd hi hn]
  exact hK _ _ h
/-- A struct or an array, stored whole into a block, from place o on. -/
theorem run_storeVar_blk {P : Program} (w : World) (g o e : Nat) (ty : TypeId) (cs : List Value) (cells : Array Value) (hb : Blk w g e cs) (hi : (P.info? ty).map (·.size) = some cells.size)
    (hn : o + cells.size ≤ cs.length) (h1 : ∀ v ∈ cells.toList, v.oneCell' = true) :
    ∃ w', (storeVar ty ⟨g, o, none⟩ (.agg cells)).run P w = .ok () w' ∧ Blk w' g e (cs.take o ++ cells.toList ++ cs.drop (o + cells.size)) ∧ Only g w w' := by
  obtain ⟨w', hr, hb', hoo⟩ := run_storeCells_blk (P := P) g o e cells.toList 0 cs w hb (by simp; omega) h1
  refine ⟨w', ?_, by simpa using hb', hoo⟩
  cases hq : P.info? ty with
  | none => simp [hq] at hi
  | some i =>
    have hs : cells.size = i.size := by simp [hq] at hi; omega
    simp [storeVar, sizeOf, typeInfo, hq, Value.cells, hs, hr]
theorem wpList_store_agg {P : Program} {ops : Array Oper} {rest : List Oper} {o : Oper} {a : Act} {w : World} {Q : Exit → Act → World → Prop} (hgd : o.guard = none) (ty : TypeId) (x y : Operand) (ho : o.op = .store ty x y)
    (g off e : Nat) (cells : Array Value) (hx : a.eval x = .pointer (some ⟨g, off, none⟩)) (hy : a.eval y = .agg cells)
    (cs : List Value) (hb : Blk w g e cs) (hi : (P.info? ty).map (·.size) = some cells.size) (hn : off + cells.size ≤ cs.length) (h1 : ∀ v ∈ cells.toList, v.oneCell' = true)
    (h : ∀ w', Blk w' g e (cs.take off ++ cells.toList ++ cs.drop (off + cells.size)) → Only g w w' → wpList P ops Q rest (a.put o.dst undef) w') : wpList P ops Q (o :: rest) a w := by
  obtain ⟨w', hr, hb', hoo⟩ := run_storeVar_blk (P := P) w g off e ty cs cells hb hi hn h1
  refine wpList_plain hgd fun K hK => ?_
  unfold Oper.wp execOp
  simp only [ho, hx, hy, Instr.storeAt, Instr.sureAddr, Sem.run_bind, Sem.run_pure, Result.andThen_ok, hr]
  exact hK _ _ (h w' hb' hoo)
theorem results_cell_blk {P : Program} {fn : Func} {p : Tmp} {ty : TypeId} (h : fn.results = #[.cell p ty]) (tmps : Array Value) (w : World) (g e : Nat) (cs : List Value) (d : TypeDesc)
    (hp : tmps.getD p undef = .pointer (some ⟨g, 0, none⟩)) (hb : Blk w g e cs)
    (hu : P.underlying ty = some d) (hd : (match d with | .struct _ | .array _ _ => true | _ => false) = true) (hi : (P.info? ty).map (·.size) = some cs.length) :
    (results fn tmps).run P w = .ok (.agg cs.toArray) w := by
  have hp' : tmps[p]?.getD undef = .pointer (some ⟨g, 0, none⟩) := by simpa using hp
  have := run_loadVar_blk (P := P) w g 0 e ty cs cs.length d hb hu hd hi (by omega)
  simp only [List.drop_zero, List.take_length] at this
  simp [results, h, hp', asAddr, this]
theorem oneCell_tab {n : Nat} {f : Nat → Value} (h : ∀ j, (f j).oneCell' = true) : ∀ v ∈ (tab n f).toArray.toList, v.oneCell' = true := by
  intro v hv
  simp [tab] at hv
  obtain ⟨j, _, rfl⟩ := hv
  exact h j
/-- The same of a whole block, its cells told by a function. -/
theorem wpList_load_tab {P : Program} {ops : Array Oper} {rest : List Oper} {o : Oper} {a : Act} {w : World} {Q : Exit → Act → World → Prop} (hgd : o.guard = none) (ty : TypeId) (x : Operand) (ho : o.op = .load ty x)
    (g e : Nat) (hx : a.eval x = .pointer (some ⟨g, 0, none⟩)) (n : Nat) (f : Nat → Value) (d : TypeDesc) (hb : Blk w g e (tab n f))
    (hu : P.underlying ty = some d) (hd : (match d with | .struct _ | .array _ _ => true | _ => false) = true) (hi : (P.info? ty).map (·.size) = some n)
    (h : wpList P ops Q rest (a.put o.dst (.agg (tab n f).toArray)) w) : wpList P ops Q (o :: rest) a w := by
  refine wpList_load_agg hgd ty x ho g 0 e hx (tab n f) n d hb hu hd hi (by rw [tab_length]; omega) ?_
  rw [List.drop_zero, List.take_of_length_le (by rw [tab_length]; omega)]
  exact h
theorem wpList_store_tab {P : Program} {ops : Array Oper} {rest : List Oper} {o : Oper} {a : Act} {w : World} {Q : Exit → Act → World → Prop} (hgd : o.guard = none) (ty : TypeId) (x y : Operand) (ho : o.op = .store ty x y)
    (g e n : Nat) (f f0 : Nat → Value) (hx : a.eval x = .pointer (some ⟨g, 0, none⟩)) (hy : a.eval y = .agg (tab n f).toArray)
    (hb : Blk w g e (tab n f0)) (hi : (P.info? ty).map (·.size) = some n) (h1 : ∀ j, (f j).oneCell' = true)
    (h : ∀ w', Blk w' g e (tab n f) → Only g w w' → wpList P ops Q rest (a.put o.dst undef) w') : wpList P ops Q (o :: rest) a w := by
  have hs : (tab n f).toArray.size = n := by rw [List.size_toArray, tab_length]
  refine wpList_store_agg hgd ty x y ho g 0 e _ hx hy (tab n f0) hb (by rw [hs]; exact hi) (by rw [hs, tab_length]; omega) (oneCell_tab h1) fun w' hb' ho' => h w' (hb'.congr ?_) ho'
  rw [hs, List.take_zero, List.nil_append, Nat.zero_add, List.drop_of_length_le (by rw [tab_length]; omega), List.append_nil]
theorem results_cell_tab {P : Program} {fn : Func} {p : Tmp} {ty : TypeId} (h : fn.results = #[.cell p ty]) (tmps : Array Value) (w : World) (g e n : Nat) (f : Nat → Value) (d : TypeDesc)
    (hp : tmps.getD p undef = .pointer (some ⟨g, 0, none⟩)) (hb : Blk w g e (tab n f))
    (hu : P.underlying ty = some d) (hd : (match d with | .struct _ | .array _ _ => true | _ => false) = true) (hi : (P.info? ty).map (·.size) = some n) :
    (results fn tmps).run P w = .ok (.agg (tab n f).toArray) w := results_cell_blk h tmps w g e (tab n f) d hp hb hu hd (by rw [tab_length]; exact hi)

/-- A local variable whose address is taken: a new block of its zero. -/
theorem wpList_alloc_blk {P : Program} {ops : Array Oper} {rest : List Oper} {o : Oper} {a : Act} {w : World} {Q : Exit → Act → World → Prop} (hgd : o.guard = none) (ty : TypeId) (ho : o.op = .alloc ty)
    (z : Value) (hz : (P.info? ty).map (·.zero) = some (some z))
    (h : ∀ w', Blk w' w.heap.size ty z.cells.toList → Below w.heap.size w w' → w.heap.size < w'.heap.size → wpList P ops Q rest (a.put o.dst (.pointer (some ⟨w.heap.size, 0, none⟩))) w') : wpList P ops Q (o :: rest) a w := by
  obtain ⟨i, hi, hzz⟩ := Option.map_eq_some_iff.1 hz
  refine wpList_plain hgd fun K hK => ?_
  unfold Oper.wp execOp
  simp [ho, Instr.alloc, zeroValue, typeInfo, hi, hzz, newVar, newRow]
  exact hK _ _ (h _ (Blk.new w z.cells ty) ((Below.refl _ _).alloc (Nat.le_refl _) _) (by simp))
end Go.Proofs.YtlmefcepdadfjaaGreat
/- Slices that are read; slices of the call's own beside blocks that are written. No program is named here. -/
namespace Go.Proofs.YtlmefcepdadfjaaGreat
open Go.RowKit

/-- A slice that reads as the cells xs. -/
def Rd (w : World) (ao : Option Addr) (xs : List Value) : Prop :=
  xs.length ≤ maxLen ∧ (0 < xs.length → ∃ g off, ao = some ⟨g, off, none⟩ ∧ g < w.heap.size ∧ ∀ j, j < xs.length → w.cell? ⟨g, off + j, none⟩ = xs[j]?)
theorem Rd.kept {w w' : World} {ao : Option Addr} {xs : List Value} (h : Rd w ao xs) (hb : Below w.heap.size w w') : Rd w' ao xs := by
  refine ⟨h.1, fun hn => ?_⟩
  obtain ⟨g, off, h1, h2, h3⟩ := h.2 hn
  exact ⟨g, off, h1, Nat.lt_of_lt_of_le h2 hb.size, fun j hj => by rw [hb.cell (p := ⟨g, off + j, none⟩) h2]; exact h3 j hj⟩
theorem Rd.drewN {w : World} {ao : Option Addr} {xs : List Value} (h : Rd w ao xs) (n : Nat) : Rd (w.drewN n) ao xs := h
theorem Rd.of_owns {w : World} {base n : Nat} {e : TypeId} {v : Value} {xs : List Value} (h : w.ownsRow base e 1 v n xs) : ∃ ao cap, v = .slice ao n cap ∧ Rd w ao xs ∧ xs.length = n := by
  have hl : xs.length = n := by have := h.1; omega
  have h0 := h
  rcases h.2 with ⟨hv, h2⟩ | ⟨k, cap, cur, hv, hb, hh, hnc, hcm, r⟩
  · subst h2
    exact ⟨none, 0, hv, ⟨by rw [hl]; unfold maxLen; omega, fun hn => by omega⟩, hl⟩
  · refine ⟨_, _, hv, ⟨by omega, fun hn => ⟨k, 0, rfl, (Array.getElem?_eq_some_iff.1 hh).1, fun j hj => ?_⟩⟩, hl⟩
    subst hv
    have := h0.cellAt j (by omega)
    rw [Nat.zero_add]
    exact this
end Go.Proofs.YtlmefcepdadfjaaGreat
/- Arguments that came in, opened by the kinds of their cells: numbers, strings, bools, slices of such rows. No program is named here. -/
namespace Go.Proofs.YtlmefcepdadfjaaGreat
open Go.RowKit Go.ChangeShapes Go.WideShapes

/-- The kind of one cell. -/
inductive CK where
  | int (k : IntKind)
  | str
  | bool
  | slice (e : TypeId)
deriving DecidableEq
def arrK : Nat → List CK → List CK
  | 0, _ => []
  | n + 1, ks => ks ++ arrK n ks
mutual
/-- The kinds of the cells of a type. -/
def kindsOf (P : Program) : Nat → TypeId → Option (List CK)
  | 0, _ => none
  | d + 1, t => match P.underlying t with
    | some (.int k) => some [.int k]
    | some .string => some [.str]
    | some .bool => some [.bool]
    | some (.slice e) => some [.slice e]
    | some (.struct fs) => match fieldsK P d fs.toList 0 with
      | some ks => if P.cellsOf t = ks.length then some ks else none
      | none => none
    | some (.array n e) => match kindsOf P d e with
      | some ks => if P.cellsOf e = ks.length ∧ P.cellsOf t = n * ks.length then some (arrK n ks) else none
      | none => none
    | _ => none
def fieldsK (P : Program) : Nat → List Field → Nat → Option (List CK)
  | 0, _, _ => none
  | _ + 1, [], _ => some []
  | d + 1, f :: fs, off => match kindsOf P d f.type with
    | some ks => if f.offset = off ∧ P.cellsOf f.type = ks.length then (fieldsK P d fs (off + ks.length)).map (ks ++ ·) else none
    | none => none
end
/-- A slice's cells in memory. -/
def RdM (w : World) (ao : Option Addr) (xs : List Value) : Prop :=
  0 < xs.length → ∃ g off, ao = some ⟨g, off, none⟩ ∧ g < w.heap.size ∧ ∀ j, j < xs.length → w.cell? ⟨g, off + j, none⟩ = xs[j]?
/-- One cell fits its kind. -/
def FitK (P : Program) (w : World) : Nat → CK → Value → Prop
  | _, .int k, v => ∃ n, v = .int k n ∧ (Lit.int k n).wf = true
  | _, .str, v => ∃ s : ByteArray, v = .string s ∧ s.size ≤ maxLen
  | _, .bool, v => ∃ b, v = .bool b
  | 0, .slice _, _ => True
  | d + 1, .slice e, v => ∃ (ao : Option Addr) (n cap : Nat), v = .slice ao n cap ∧ n ≤ cap ∧ cap ≤ maxLen ∧ ∀ ks, kindsOf P 40 e = some ks → P.cellsOf e = ks.length →
      ∃ xs : List Value, xs.length = n * ks.length ∧ RdM w ao xs ∧ ∀ i j k x, i < n → ks[j]? = some k → xs[i * ks.length + j]? = some x → FitK P w d k x
def FitR (P : Program) (w : World) (d : Nat) (ks : List CK) (cs : List Value) : Prop := cs.length = ks.length ∧ ∀ (i : Nat) k v, ks[i]? = some k → cs[i]? = some v → FitK P w d k v
theorem FitR.append {P : Program} {w : World} {d : Nat} {k1 k2 : List CK} {c1 c2 : List Value} (h1 : FitR P w d k1 c1) (h2 : FitR P w d k2 c2) : FitR P w d (k1 ++ k2) (c1 ++ c2) := by
  refine ⟨by simp [h1.1, h2.1], fun i k v hk hv => ?_⟩
  by_cases hi : i < k1.length
  · rw [List.getElem?_append_left hi] at hk
    rw [List.getElem?_append_left (by rw [h1.1]; exact hi)] at hv
    exact h1.2 i k v hk hv
  · rw [List.getElem?_append_right (by omega)] at hk
    rw [List.getElem?_append_right (by rw [h1.1]; omega), h1.1] at hv
    exact h2.2 _ k v hk hv
section
variable {H : Type} {enc : TypeId × Value → H} {P : Program} {w : World} {base : Nat} {spare : Nat → Bool} {held : Bool}

theorem fitR_array (c : Nat) (ks : List CK) (hc : c = ks.length) (D : Nat) : ∀ (n : Nat) (cs : List Value), cs.length = n * c → (∀ i, i < n → FitR P w D ks ((cs.drop (i * c)).take c)) → FitR P w D (arrK n ks) cs
  | 0, cs, hl, _ => by
    have : cs = [] := List.eq_nil_of_length_eq_zero (by simpa using hl)
    subst this
    exact ⟨rfl, fun i k v hk hv => by simp at hv⟩
  | n + 1, cs, hl, h => by
    have h0 := h 0 (by omega)
    simp only [Nat.zero_mul, List.drop_zero] at h0
    have hr := fitR_array c ks hc D n (cs.drop c) (by rw [List.length_drop, hl, Nat.succ_mul]; omega) (fun i hi => by
      have := h (i + 1) (by omega)
      rw [List.drop_drop, show c + i * c = (i + 1) * c by rw [Nat.succ_mul]; omega]
      exact this)
    have := h0.append hr
    rw [List.take_append_drop] at this
    exact this
theorem fitR_fields (D : Nat) (F : TypeId → List Value → Prop) : ∀ (d : Nat) (hF : ∀ d' t cs ks, d' < d → F t cs → kindsOf P d' t = some ks → FitR P w D ks cs) (fs : List Field) (off : Nat) (ks : List CK) (cs : List Value), fieldsK P d fs off = some ks →
    cs.length = off + ks.length → (∀ f ∈ fs, F f.type ((cs.drop f.offset).take (P.cellsOf f.type))) → FitR P w D ks (cs.drop off)
  | 0, _, fs, off, ks, cs, h, _, _ => by simp [fieldsK] at h
  | d + 1, _, [], off, ks, cs, h, hl, _ => by
    simp [fieldsK] at h
    subst h
    refine ⟨by simp; simp at hl; omega, fun i k v hk hv => by simp at hk⟩
  | d + 1, hF, f :: fs, off, ks, cs, h, hl, hf => by
    simp only [fieldsK] at h
    split at h
    · rename_i k1 hk1
      split at h
      · rename_i hcond
        obtain ⟨rfl, hc⟩ := hcond
        obtain ⟨k2, hk2, rfl⟩ := Option.map_eq_some_iff.1 h
        have h1 := hF d f.type _ k1 (by omega) (hf f (by simp)) hk1
        have h2 := fitR_fields D F d (fun d' t cs ks hd => hF d' t cs ks (by omega)) fs _ k2 cs hk2 (by rw [List.length_append] at hl; omega) (fun f' hf' => hf f' (by simp [hf']))
        have := h1.append h2
        rw [hc, show cs.drop (f.offset + k1.length) = (cs.drop f.offset).drop k1.length by rw [List.drop_drop], List.take_append_drop] at this
        exact this
      · simp at h
    · simp at h
theorem fitR_one {D : Nat} {k : CK} {v : Value} (h : FitK P w D k v) : FitR P w D [k] [v] := by
  refine ⟨rfl, fun i k' v' h1 h2 => ?_⟩
  match i, h1, h2 with
  | 0, h1, h2 => simp at h1 h2; subst h1; subst h2; exact h
  | i + 1, h1, h2 => simp at h1
variable (enc P w base spare held) in
def Rds (t : TypeId) (cs : List Value) : Prop := ∃ n y, DataW.trod enc P w base spare held n t cs = some y
theorem fit_step (D : Nat) (hsl : ∀ t e v, P.underlying t = some (.slice e) → Rds enc P w base spare held t [v] → FitK P w D (.slice e) v) :
    ∀ (d : Nat) (t : TypeId) (cs : List Value) (ks : List CK), Rds enc P w base spare held t cs → kindsOf P d t = some ks → FitR P w D ks cs := by
  intro d
  induction d using Nat.strongRecOn with
  | _ d ihd =>
  intro t cs ks hr hk
  obtain ⟨fuel, x, h⟩ := id hr
  match d, hk, ihd with
  | 0, hk, _ => simp [kindsOf] at hk
  | d + 1, hk, ihd =>
    simp only [kindsOf] at hk
    split at hk
    · rename_i k hu
      obtain rfl : [CK.int k] = ks := by simpa using hk
      obtain ⟨n, rfl, _, hw⟩ := DataW.trod_int hu h
      exact fitR_one (by cases D <;> exact ⟨n, rfl, hw⟩)
    · rename_i hu
      obtain rfl : [CK.str] = ks := by simpa using hk
      obtain ⟨s, rfl, _, hw⟩ := DataW.trod_string hu h
      exact fitR_one (by cases D <;> exact ⟨s, rfl, hw⟩)
    · rename_i hu
      obtain rfl : [CK.bool] = ks := by simpa using hk
      obtain ⟨b, rfl, _⟩ := DataW.trod_bool hu h
      exact fitR_one (by cases D <;> exact ⟨b, rfl⟩)
    · rename_i e hu
      obtain rfl : [CK.slice e] = ks := by simpa using hk
      obtain ⟨v, rfl⟩ : ∃ v, cs = [v] := by
        rcases DataW.trod_slice hu h with ⟨rfl, _⟩ | ⟨a, len, cap, _, _, _, _, rfl, _⟩ <;> exact ⟨_, rfl⟩
      exact fitR_one (hsl t e v hu hr)
    · rename_i fs hu
      split at hk
      · rename_i k1 hf
        split at hk
        · rename_i hcell
          obtain rfl : k1 = ks := by simpa using hk
          obtain ⟨ys, n, rfl, _, hlen, hyl, hff⟩ := DataW.trod_struct hu h
          have := fitR_fields (P := P) (w := w) D (Rds enc P w base spare held) d (fun d' t cs ks hd => ihd d' (by omega) t cs ks) fs.toList 0 k1 cs hf (by rw [hlen, hcell]; omega) (fun f hfm => by
            obtain ⟨i, hi⟩ := List.getElem?_of_mem hfm
            have h1 := hff i f (by simpa using hi)
            have h2 : i < ys.length := by
              have := (List.getElem?_eq_some_iff.1 hi).1
              simp at this; omega
            rw [List.getElem?_eq_getElem h2] at h1
            exact ⟨n, _, h1⟩)
          simpa using this
        · simp at hk
      · simp at hk
    · rename_i n e hu
      split at hk
      · rename_i k1 hf
        split at hk
        · rename_i hcond
          obtain rfl : arrK n k1 = ks := by simpa using hk
          obtain ⟨ys, m, rfl, _, hlen, hyl, hff⟩ := DataW.trod_array hu h
          refine fitR_array (P.cellsOf e) k1 hcond.1 D n cs (by rw [hlen, hcond.2, hcond.1]) (fun i hi => ?_)
          have h1 := hff i hi
          rw [List.getElem?_eq_getElem (by omega)] at h1
          exact ihd d (by omega) e _ k1 ⟨m, _, h1⟩ hf
        · simp at hk
      · simp at hk
    · simp at hk
theorem row_flat (c : Nat) (f : Nat → List Value) : ∀ (n : Nat), (∀ i, i < n → (f i).length = c) → ((List.range n).flatMap f).length = n * c ∧ ∀ i j, i < n → j < c → ((List.range n).flatMap f)[i * c + j]? = (f i)[j]?
  | 0, _ => ⟨by simp, fun i j h => by omega⟩
  | n + 1, h => by
    obtain ⟨h1, h2⟩ := row_flat c f n (fun i hi => h i (by omega))
    rw [List.range_succ, List.flatMap_append]
    refine ⟨by simp [h1, h n (by omega), Nat.succ_mul], fun i j hi hj => ?_⟩
    by_cases hin : i < n
    · have hlt : i * c + j < n * c := by
        have : (i + 1) * c ≤ n * c := Nat.mul_le_mul_right c hin
        rw [Nat.succ_mul] at this; omega
      rw [List.getElem?_append_left (by rw [h1]; exact hlt)]
      exact h2 i j hin hj
    · obtain rfl : i = n := by omega
      rw [List.getElem?_append_right (by rw [h1]; omega), h1]
      simp
theorem div_mod_lt (n c j : Nat) (h : j < n * c) : j / c < n ∧ j % c < c ∧ j / c * c + j % c = j := by
  have hc : 0 < c := by
    rcases Nat.eq_zero_or_pos c with rfl | h0
    · simp at h
    · exact h0
  exact ⟨Nat.div_lt_of_lt_mul (by rw [Nat.mul_comm]; exact h), Nat.mod_lt _ hc, by rw [Nat.mul_comm]; exact Nat.div_add_mod j c⟩
theorem fit_of (D : Nat) : ∀ (d : Nat) (t : TypeId) (cs : List Value) (ks : List CK), Rds enc P w base spare held t cs → kindsOf P d t = some ks → FitR P w D ks cs := by
  induction D with
  | zero => exact fit_step 0 (fun t e v hu hr => by trivial)
  | succ D ih =>
    refine fit_step (D + 1) (fun t e v hu hr => ?_)
    obtain ⟨fuel, x, h⟩ := hr
    rcases DataW.trod_slice hu h with ⟨hcs, _⟩ | ⟨a, len, cap, elems, rest, n, _, hcs, _, hb, hl, hm, hlen, hel, _, _⟩
    · obtain rfl : v = .slice none 0 0 := by simpa using hcs
      exact ⟨none, 0, 0, rfl, Nat.le_refl _, Nat.zero_le _, fun ks _ _ => ⟨[], by simp, fun h => by simp at h, fun i j k x hi => by omega⟩⟩
    · obtain rfl : v = .slice (some a) len cap := by simpa using hcs
      refine ⟨some a, len, cap, rfl, hl, hm, fun ks hks hc => ?_⟩
      have each : ∀ i, i < len → ∃ ce y, w.cells? base (a.add (i * ks.length)) ks.length = some ce ∧ DataW.trod enc P w base spare held n e ce = some y := by
        intro i hi
        have h1 := hel i hi
        rw [List.getElem?_eq_getElem (by omega), hc, Option.bind_eq_some_iff] at h1
        obtain ⟨ce, h1, h2⟩ := h1
        exact ⟨ce, _, h1, h2⟩
      let f : Nat → List Value := fun i => if h : i < len then Classical.choose (each i h) else []
      have hf : ∀ i, i < len → w.cells? base (a.add (i * ks.length)) ks.length = some (f i) ∧ Rds enc P w base spare held e (f i) := by
        intro i hi
        have := Classical.choose_spec (each i hi)
        obtain ⟨y, h1, h2⟩ := this
        simp only [f, dif_pos hi]
        exact ⟨h1, n, y, h2⟩
      have hfl : ∀ i, i < len → (f i).length = ks.length := fun i hi => (World.cells?_some (hf i hi).1).2.1
      obtain ⟨r1, r2⟩ := row_flat ks.length f len hfl
      refine ⟨(List.range len).flatMap f, r1, ?_, ?_⟩
      · intro hpos
        rw [r1] at hpos
        obtain ⟨b, off, spot⟩ := a
        have hk0 : 0 < ks.length ∧ 0 < len := by
          constructor
          · rcases Nat.eq_zero_or_pos ks.length with h0 | h0
            · rw [h0] at hpos; simp at hpos
            · exact h0
          · rcases Nat.eq_zero_or_pos len with h0 | h0
            · rw [h0] at hpos; simp at hpos
            · exact h0
        have c0 := (World.cells?_some (hf 0 hk0.2).1).2.2 0 hk0.1
        rw [List.getElem?_eq_getElem (by rw [hfl 0 hk0.2]; exact hk0.1)] at c0
        have hspot : spot = none := by simpa [Addr.add] using World.cell?_spot c0
        subst hspot
        have hlt := block_lt_of_cell c0
        simp only [Nat.zero_mul, Addr.add_lit] at hlt
        refine ⟨b, off, rfl, hlt, fun j hj => ?_⟩
        rw [r1] at hj
        obtain ⟨q1, q2, q3⟩ := div_mod_lt len ks.length j hj
        have c1 := (World.cells?_some (hf (j / ks.length) q1).1).2.2 (j % ks.length) q2
        rw [Addr.add_lit, Addr.add_lit, Nat.add_assoc, q3] at c1
        rw [c1, ← r2 _ _ q1 q2, q3]
      · intro i j k x hi hkj hx
        have hjl : j < ks.length := (List.getElem?_eq_some_iff.1 hkj).1
        rw [r2 i j hi hjl] at hx
        exact (ih 40 e (f i) ks (hf i hi).2 hks).2 j k x hkj hx
/-- A struct or an array by value. -/
theorem open_agg (D : Nat) {r : Reach} {b0 : Nat} {t : TypeId} {v : Value} {de : DataW H} {p : List MemPlace} {td : TypeDesc} (hu : P.underlying t = some td) (hd : (match td with | .struct _ | .array _ _ => true | _ => false) = true)
    (hv : Value.okWide P w r b0 t v) (h : DataW.Trod enc P w base spare held t v de p) {ks : List CK} (hk : kindsOf P 40 t = some ks) : ∃ cs : List Value, v = .agg cs.toArray ∧ FitR P w D ks cs := by
  have : ∃ cs, v = .agg cs ∧ cs.size = P.cellsOf t := by
    cases td with
    | struct fs => exact okWide_struct hu hv
    | array n e =>
      simp only [Value.okWide, hu] at hv
      obtain ⟨cs, h1, h2, _⟩ := hv
      exact ⟨cs, h1, h2⟩
    | _ => simp at hd
  obtain ⟨cs, rfl, _⟩ := this
  obtain ⟨fuel, hf⟩ := h
  exact ⟨cs.toList, by simp, fit_of D 40 t cs.toList ks ⟨fuel, _, by simpa [Value.cells] using hf⟩ hk⟩
end
section
variable {P : Program} {w : World}
theorem fitK_int {d : Nat} {k : IntKind} {v : Value} (h : FitK P w d (.int k) v) : ∃ n, v = .int k n ∧ (Lit.int k n).wf = true := by cases d <;> exact h
/-- A row of numbers of one kind. -/
theorem fitR_ints {d n : Nat} {k : IntKind} {cs : List Value} (h : FitR P w d (List.replicate n (.int k)) cs) : ∃ c : Nat → Int, cs = tab n (fun i => .int k (c i)) ∧ ∀ i, i < n → (Lit.int k (c i)).wf = true := by
  obtain ⟨hl, hf⟩ := h
  rw [List.length_replicate] at hl
  have each : ∀ i, i < n → ∃ m, cs[i]? = some (.int k m) ∧ (Lit.int k m).wf = true := by
    intro i hi
    have hc : cs[i]? = some (cs[i]'(by omega)) := List.getElem?_eq_getElem (by omega)
    obtain ⟨m, hm, hw⟩ := fitK_int (hf i (.int k) _ (by simp [List.getElem?_replicate, hi]) hc)
    exact ⟨m, by rw [hc, hm], hw⟩
  let f : Nat → Int := fun i => if h : i < n then Classical.choose (each i h) else 0
  have hc : ∀ i, i < n → cs[i]? = some (.int k (f i)) ∧ (Lit.int k (f i)).wf = true := by
    intro i hi
    simp only [f, dif_pos hi]
    exact Classical.choose_spec (each i hi)
  refine ⟨f, ?_, fun i hi => (hc i hi).2⟩
  apply List.ext_getElem?
  intro i
  by_cases hi : i < n
  · rw [tab_get _ _ _ hi, (hc i hi).1]
  · rw [List.getElem?_eq_none (by omega), List.getElem?_eq_none (by rw [tab_length]; omega)]
end
end Go.Proofs.YtlmefcepdadfjaaGreat
/- Parameters and values that are boxed: a struct by value, laid into a block. No program is named here. -/
namespace Go.Proofs.YtlmefcepdadfjaaGreat
open Go.RowKit

theorem wpList_box_blk {P : Program} {ops : Array Oper} {rest : List Oper} {o : Oper} {a : Act} {w : World} {Q : Exit → Act → World → Prop} (hgd : o.guard = none) (ty : TypeId) (x : Operand) (ho : o.op = .box ty x)
    (cells : Array Value) (hx : a.eval x = .agg cells)
    (h : ∀ w', Blk w' w.heap.size ty cells.toList → Below w.heap.size w w' → w.heap.size < w'.heap.size → wpList P ops Q rest (a.put o.dst (.pointer (some ⟨w.heap.size, 0, none⟩))) w') : wpList P ops Q (o :: rest) a w := by
  refine wpList_plain hgd fun K hK => ?_
  unfold Oper.wp execOp
  simp [ho, hx, newVar, newRow, Value.cells]
  exact hK _ _ (h _ (Blk.new w cells ty) ((Below.refl _ _).alloc (Nat.le_refl _) _) (by simp))
theorem wpList_box_tab {P : Program} {ops : Array Oper} {rest : List Oper} {o : Oper} {a : Act} {w : World} {Q : Exit → Act → World → Prop} (hgd : o.guard = none) (ty : TypeId) (x : Operand) (ho : o.op = .box ty x)
    (n : Nat) (f : Nat → Value) (hx : a.eval x = .agg (tab n f).toArray)
    (h : ∀ w', Blk w' w.heap.size ty (tab n f) → Below w.heap.size w w' → w.heap.size < w'.heap.size → wpList P ops Q rest (a.put o.dst (.pointer (some ⟨w.heap.size, 0, none⟩))) w') : wpList P ops Q (o :: rest) a w :=
  wpList_box_blk hgd ty x ho (tab n f).toArray hx fun w' h1 h2 h3 => h w' h1 h2 h3
end Go.Proofs.YtlmefcepdadfjaaGreat
/- Slices of the call's own, more: append of what is read, new rows. No program is named here. -/
namespace Go.Proofs.YtlmefcepdadfjaaGreat
open Go.RowKit

theorem Rd.of_blk {w : World} {g : Nat} {e : TypeId} {xs : List Value} (h : Blk w g e xs) (hl : xs.length ≤ maxLen) : Rd w (some ⟨g, 0, none⟩) xs :=
  ⟨hl, fun _ => ⟨g, 0, rfl, h.lt, fun j _ => by rw [Nat.zero_add]; exact h.cell j⟩⟩
theorem Rd.empty (w : World) (ao : Option Addr) : Rd w ao [] := ⟨by simp, fun h => by simp at h⟩
theorem Rd.tail {w : World} {g off : Nat} {x : Value} {xs : List Value} (h : Rd w (some ⟨g, off, none⟩) (x :: xs)) : Rd w (some ⟨g, off + 1, none⟩) xs := by
  refine ⟨by have := h.1; simp at this; omega, fun hn => ?_⟩
  obtain ⟨g', off', he, h1, h2⟩ := h.2 (by simp)
  simp only [Option.some.injEq, Addr.mk.injEq, and_true] at he
  obtain ⟨rfl, rfl⟩ := he
  refine ⟨g, off + 1, rfl, h1, fun j hj => ?_⟩
  have := h2 (j + 1) (by simp; omega)
  rw [show off + 1 + j = off + (j + 1) by omega, this]
  rfl
end Go.Proofs.YtlmefcepdadfjaaGreat
