/- Texts of this claim, one behind the other. -/
import Derived.WalkKit
import Derived.ProofKit
import Derived.OpenShut
import Derived.Lib.Hide
import Derived.Lib.Strings
import Derived.WalkSpells
import Derived.WalkLawsBesides
import Derived.Laws.CopyOwn
/- Plain: bounds of numbers that came in. -/
namespace Go.Proofs.YtlmefcepdadfjaaGreat
open Go.ChangeShapes Go.WideShapes Go.ChangeAt Go.RowKit
theorem wf_bd {k : IntKind} {a : Int} (h : (Lit.int k a).wf = true) : k.min ≤ a ∧ a ≤ k.max := by
  simpa [Lit.wf] using h
theorem nat_u8 {a : Int} (h : (Lit.int .u8 a).wf = true) : ∃ x : Nat, x < 256 ∧ a = x := by
  have := wf_bd h
  have h1 : IntKind.u8.min = 0 := rfl
  have h2 : IntKind.u8.max = 255 := rfl
  exact ⟨a.toNat, by omega, by omega⟩
theorem nat_u16 {a : Int} (h : (Lit.int .u16 a).wf = true) : ∃ x : Nat, x < 65536 ∧ a = x := by
  have := wf_bd h
  have h1 : IntKind.u16.min = 0 := rfl
  have h2 : IntKind.u16.max = 65535 := rfl
  exact ⟨a.toNat, by omega, by omega⟩
theorem nat_u32 {a : Int} (h : (Lit.int .u32 a).wf = true) : ∃ x : Nat, x < 4294967296 ∧ a = x := by
  have := wf_bd h
  have h1 : IntKind.u32.min = 0 := rfl
  have h2 : IntKind.u32.max = 4294967295 := rfl
  exact ⟨a.toNat, by omega, by omega⟩
theorem nat_u64 {a : Int} (h : (Lit.int .u64 a).wf = true) : ∃ x : Nat, x < 18446744073709551616 ∧ a = x := by
  have := wf_bd h
  have h1 : IntKind.u64.min = 0 := rfl
  have h2 : IntKind.u64.max = 18446744073709551615 := rfl
  exact ⟨a.toNat, by omega, by omega⟩
theorem bd_i64 {a : Int} (h : (Lit.int .i64 a).wf = true) : -9223372036854775808 ≤ a ∧ a ≤ 9223372036854775807 := wf_bd h
end Go.Proofs.YtlmefcepdadfjaaGreat
/- Plain facts on numbers and bits, and rules for the walk: no program is named here. -/
namespace Go.Proofs.YtlmefcepdadfjaaGreat
open Go.RowKit

theorem ret_int {k : IntKind} {a b : Int} (h : a = b) : Ending.returned (.int k a) = .returned (.int k b) := by rw [h]
theorem ret_bool {a b : Bool} (h : a = b) : Ending.returned (.bool a) = .returned (.bool b) := by rw [h]
theorem xor_lt32 {a b : Nat} (ha : a < 4294967296) (hb : b < 4294967296) : a ^^^ b < 4294967296 := Nat.xor_lt_two_pow (n := 32) ha hb
theorem take_snoc (s : ByteArray) (k : Nat) (h : k < s.size) : s.data.toList.take (k + 1) = s.data.toList.take k ++ [s[k]] := by
  rw [List.take_succ_eq_append_getElem (by simpa using h)]; rfl
theorem byte_lt (b : UInt8) : b.toNat < 256 := b.toNat_lt

theorem u32_max : IntKind.u32.max = 4294967295 := rfl
theorem u32_signed : IntKind.u32.signed = false := rfl
theorem not_xor32 (x : Nat) (hx : x < 4294967296) : 4294967295 ^^^ x = 4294967295 - x := by
  have h1 := BitVec.toNat_not (x := BitVec.ofNat 32 x)
  have h2 := BitVec.toNat_xor (BitVec.allOnes 32) (BitVec.ofNat 32 x)
  rw [BitVec.allOnes_xor] at h2
  rw [h2] at h1
  simpa [Nat.mod_eq_of_lt hx] using h1
theorem u32_not (x : Nat) (hx : x < 4294967296) : bits BinOp.xor IntKind.u32 4294967295 (x : Int) = ((4294967295 - x : Nat) : Int) := by
  rw [show (4294967295 : Int) = ((4294967295 : Nat) : Int) from rfl, u32_xor_nat _ _ (by omega) hx, not_xor32 x hx]
theorem u32_xorc (x y : Nat) (hx : x < 4294967296) (hy : y < 4294967296) : bits BinOp.xor IntKind.u32 (x : Int) (y : Int) = ((x ^^^ y : Nat) : Int) := u32_xor_nat _ _ hx hy
attribute [go_sem] u32_max u32_signed u32_not u32_xorc

end Go.Proofs.YtlmefcepdadfjaaGreat
/- Memory of the call's own, block by block: what a block holds, as a function of the place; make, store, read, string(b). No program is named here. -/
namespace Go.Proofs.YtlmefcepdadfjaaGreat
open Go.RowKit

def tab {α : Type} (n : Nat) (f : Nat → α) : List α := (List.range n).map f
theorem tab_length {α : Type} (n : Nat) (f : Nat → α) : (tab n f).length = n := by simp [tab]
theorem tab_get {α : Type} (n : Nat) (f : Nat → α) (j : Nat) (h : j < n) : (tab n f)[j]? = some (f j) := by simp [tab, h]
theorem tab_congr {α : Type} {n : Nat} {f g : Nat → α} (h : ∀ j, j < n → f j = g j) : tab n f = tab n g := by
  unfold tab; exact List.map_congr_left fun j hj => h j (by simpa using hj)
theorem tab_set {α : Type} (n : Nat) (f : Nat → α) (p : Nat) (v : α) : (tab n f).set p v = tab n (fun j => if j = p then v else f j) := by
  apply List.ext_getElem?
  intro j
  rw [List.getElem?_set]
  by_cases hj : j < n
  · by_cases hp : p = j
    · subst hp; simp [tab, hj]
    · rw [if_neg hp, tab_get _ _ _ hj, tab_get _ _ _ hj, if_neg (fun e => hp e.symm)]
  · by_cases hp : p = j
    · subst hp; simp [tab, hj]
    · rw [if_neg hp]; simp [tab, hj]
theorem tab_map {α β : Type} (n : Nat) (f : Nat → α) (g : α → β) : (tab n f).map g = tab n (fun j => g (f j)) := by simp [tab]
theorem tab_replicate {α : Type} (n : Nat) (a : α) : List.replicate n a = tab n (fun _ => a) := by
  apply List.ext_getElem?
  intro j
  by_cases hj : j < n <;> simp [tab, hj]
def Blk (w : World) (g : Nat) (e : TypeId) (cs : List Value) : Prop := ∃ cur lo hi, w.heap[g]? = some (.cells cur e (lo, hi)) ∧ cur.toList = cs ∧ (hi ≤ lo ∨ cs.length ≤ lo)
section
variable {w w' : World} {g : Nat} {e : TypeId} {cs : List Value}
theorem Blk.lt (h : Blk w g e cs) : g < w.heap.size := by
  obtain ⟨cur, lo, hi, h1, _, _⟩ := h
  exact (Array.getElem?_eq_some_iff.1 h1).1
theorem Blk.cell (h : Blk w g e cs) (j : Nat) : w.cell? ⟨g, j, none⟩ = cs[j]? := by
  obtain ⟨cur, lo, hi, h1, h2, _⟩ := h
  simp [World.cell?, h1, ← h2]
theorem Blk.free (h : Blk w g e cs) (j : Nat) (hj : j < cs.length) : w.frozen? ⟨g, j, none⟩ = false := by
  obtain ⟨cur, lo, hi, h1, _, h3⟩ := h
  simp only [World.frozen?, h1, Bool.and_eq_false_iff, decide_eq_false_iff_not]
  omega
theorem Blk.set (h : Blk w g e cs) (j : Nat) (u : Value) : Blk (w.setCell ⟨g, j, none⟩ u) g e (cs.set j u) := by
  obtain ⟨cur, lo, hi, h1, h2, h3⟩ := h
  refine ⟨cur.setIfInBounds j u, lo, hi, ?_, by rw [Array.toList_setIfInBounds, h2], by simpa using h3⟩
  simp [World.setCell, Array.getElem?_modify, h1]
theorem Blk.other (h : Blk w g e cs) {a : Addr} (ha : a.block ≠ g) (u : Value) : Blk (w.setCell a u) g e cs := by
  obtain ⟨cur, lo, hi, h1, h2, h3⟩ := h
  exact ⟨cur, lo, hi, by rw [Below.heap_setCell _ _ _ _ (fun e => ha e.symm)]; exact h1, h2, h3⟩
theorem Blk.alloc (h : Blk w g e cs) (o : Obj) : Blk (w.alloc o) g e cs := by
  have hl := h.lt
  obtain ⟨cur, lo, hi, h1, h2, h3⟩ := h
  exact ⟨cur, lo, hi, by rw [Below.heap_alloc _ _ _ hl]; exact h1, h2, h3⟩
theorem Blk.drew (h : Blk w g e cs) : Blk w.drew g e cs := h
theorem Blk.drewN (h : Blk w g e cs) (n : Nat) : Blk (w.drewN n) g e cs := h
theorem Blk.below {B : Nat} (h : Blk w g e cs) (hb : Below B w w') (hg : g < B) : Blk w' g e cs := by
  obtain ⟨cur, lo, hi, h1, h2, h3⟩ := h
  exact ⟨cur, lo, hi, by rw [hb.block g hg]; exact h1, h2, h3⟩
theorem Blk.kept (h : Blk w g e cs) (hb : Below w.heap.size w w') : Blk w' g e cs := h.below hb h.lt
theorem Blk.grown {row : Option Nat} (h : Blk w g e cs) (hg : w.grownBy w' row) (hr : some g ≠ row) : Blk w' g e cs := by
  have hl := h.lt
  obtain ⟨cur, lo, hi, h1, h2, h3⟩ := h
  exact ⟨cur, lo, hi, by rw [hg.block g hl hr]; exact h1, h2, h3⟩
theorem Blk.congr {cs' : List Value} (h : Blk w g e cs) (hc : cs = cs') : Blk w g e cs' := hc ▸ h
theorem Blk.of_owns {base size n cap : Nat} {xs : List Value} (h : w.ownsRow base e size (.slice (some ⟨g, 0, none⟩) n cap) n xs) (hc : cap = n) : Blk w g e xs := by
  rcases h.2 with ⟨h', _⟩ | ⟨g', cap', cur, h', hb, hg, hnc, hcm, hcs, htake⟩
  · simp at h'
  · simp only [Value.slice.injEq, Option.some.injEq, Addr.mk.injEq, and_true, true_and] at h'
    obtain ⟨rfl, rfl⟩ := h'
    subst hc
    exact ⟨cur, 0, 0, hg, by rw [← htake, List.take_of_length_le (by simp [hcs])], .inl (Nat.le_refl _)⟩
theorem Blk.new (w : World) (cur : Array Value) (e : TypeId) : Blk (w.alloc (.cells cur e)) w.heap.size e cur.toList :=
  ⟨cur, 0, 0, heap_alloc_new w _, rfl, .inl (Nat.le_refl _)⟩
theorem Blk.setTab {n : Nat} {f : Nat → Value} (h : Blk w g e (tab n f)) (j : Nat) (u : Value) (f' : Nat → Value) (hu : f' j = u) (hf : ∀ i, i < n → i ≠ j → f' i = f i) : Blk (w.setCell ⟨g, j, none⟩ u) g e (tab n f') :=
  (h.set j u).congr (by
    rw [tab_set]
    exact tab_congr fun i hi => by by_cases e : i = j <;> simp [e, hu, hf i hi])
theorem Blk.at {n : Nat} {f : Nat → Value} (h : Blk w g e (tab n f)) (j : Nat) (hj : j < n) : w.cell? ⟨g, j, none⟩ = some (f j) := by rw [h.cell, tab_get _ _ _ hj]
theorem Blk.freeAt {n : Nat} {f : Nat → Value} (h : Blk w g e (tab n f)) (j : Nat) (hj : j < n) : w.frozen? ⟨g, j, none⟩ = false := h.free j (by rw [tab_length]; exact hj)
end

theorem Below.grownOwn {w w' : World} (hg : w.grownBy w' none) : Below w.heap.size w w' :=
  ⟨hg.os, hg.tape, hg.output, hg.size, fun k hk => hg.block k hk (by simp)⟩

theorem bcell {W w1 : World} (hb : Below W.heap.size W w1) : (∀ b o, b < W.heap.size → w1.cell? ⟨b, o, none⟩ = W.cell? ⟨b, o, none⟩) ∧ (∀ b o, b < W.heap.size → w1.frozen? ⟨b, o, none⟩ = W.frozen? ⟨b, o, none⟩) :=
  ⟨fun b o h => hb.cell (p := ⟨b, o, none⟩) h, fun b o h => hb.frozen (p := ⟨b, o, none⟩) h⟩
section
variable {w y z : World}
theorem kp_alloc {o : Obj} (h : Below w.heap.size w y) : Below w.heap.size w (y.alloc o) := h.alloc h.size o
theorem kp_step (h : Below w.heap.size w y) (k : Below y.heap.size y z) : Below w.heap.size w z := h.trans (k.mono h.size)
end
theorem wpList_make_blk {P : Program} (w : World) {ops : Array Oper} {rest : List Oper} {o : Oper} {a : Act} {Q : Exit → Act → World → Prop}
    (hg : o.guard = none) (l c : Operand) (t : TypeId) (hop : o.op = Op.makeSlice t l c)
    (e : TypeId) (z : Value) (bytes : Nat) (h1 : P.underlying t = some (.slice e)) (h2 : (P.info? e).map (fun i => (i.zero, i.size, i.bytes)) = some (some z, 1, bytes)) (hz : z.cells = #[z])
    (n : Nat) (L : Int) (hl : a.eval l = .int .i64 L) (hc : a.eval c = .int .i64 L) (hL : L = (n : Int)) (b2 : bytes * n ≤ 281474976710656) (b3 : n ≤ maxLen)
    (hK : ∀ w', Blk w' w.heap.size e (tab n fun _ => z) → Below w.heap.size w w' → w.heap.size < w'.heap.size → wpList P ops Q rest (a.put o.dst (.slice (some ⟨w.heap.size, 0, none⟩) n n)) w') :
    wpList P ops Q (o :: rest) a w := by
  obtain ⟨i, hi, hz0, hz1, hz2⟩ := info_parts h2
  subst hz2
  refine wpList_make_full w hg l c t hop w.heap.size e i z 1 h1 hi hz0 hz1 .i64 .i64 L L n hl hc hL hL b2 b3 (Nat.le_refl _) ?_
  intro w' hown hgr
  have hb : Blk w' w.heap.size e (tab n fun _ => z) := by
    have := Blk.of_owns hown rfl
    rw [hz, Nat.mul_one, toList_madeCells_one, tab_replicate] at this
    exact this
  exact hK w' hb (Below.grownOwn hgr) hb.lt

theorem run_string_blk {P : Program} (w : World) (src dst e : TypeId) (hs : P.underlying src = some (.slice e)) (he : P.underlying e = some (.int .u8)) (hd : P.underlying dst = some .string)
    (g cap n : Nat) (l : List UInt8) (hn : l.length = n) (hb : ∀ j (hj : j < l.length), w.cell? ⟨g, j, none⟩ = some (.int .u8 (l[j].toNat : Int))) :
    (convert src dst (.slice (some ⟨g, 0, none⟩) n cap)).run P w = .ok (.string ⟨l.toArray⟩) w := by
  subst hn
  exact run_convert_bytes_back w src dst e ⟨g, 0, none⟩ cap l hs he hd (fun j hj => by
    have := hb j hj
    rw [Addr.add_lit, Nat.zero_add]
    exact this)

end Go.Proofs.YtlmefcepdadfjaaGreat
/- Slices that the call appends to, and string(b) of them; []byte(s). No program is named here. -/
namespace Go.Proofs.YtlmefcepdadfjaaGreat
open Go.RowKit

theorem wpList_append_one {P : Program} (w : World) {ops : Array Oper} {rest : List Oper} {o : Oper} {a : Act} {Q : Exit → Act → World → Prop}
    (hgd : o.guard = none) (s x : Operand) (t : TypeId) (hop : o.op = Op.call { callee := Callee.builtin Builtin.append, args := #[s, x], argTypes := #[t, t] })
    (base e : Nat) (z : Value) (bytes : Nat) (ht : P.underlying t = some (.slice e)) (hinf : (P.info? e).map (fun i => (i.zero, i.size, i.bytes)) = some (some z, 1, bytes)) (hz : z.cells.size = 1)
    (v : Value) (n : Nat) (xs : List Value) (hs : a.eval s = v) (hown : w.ownsRow base e 1 v n xs) (u : Value) (hu : u.oneCell' = true) (hx : a.eval x = .slice (some ⟨w.heap.size, 0, none⟩) 1 1)
    (h63 : n + 1 ≤ maxLen) (hbytes : (n + 1) * bytes ≤ 140737488355328) (hbase : base ≤ w.heap.size)
    (hK : ∀ v' w', w'.ownsRow base e 1 v' (n + 1) (xs ++ [u]) → Below base w w' → w.grownBy w' v.ownBlock → wpList P ops Q rest (a.put o.dst v') w') :
    wpList P ops Q (o :: rest) a (w.alloc (.cells #[u] e)) := by
  obtain ⟨i, hi, hz0, hz1, hz2⟩ := info_parts hinf
  refine wpList_append_own (w.alloc (.cells #[u] e)) hgd s x t hop base e i z 1 bytes ht hi hz0 hz1 hz2 hz (by omega) v n xs hs (hown.alloc _) ⟨w.heap.size, 0, none⟩ 1 1 [u] hx rfl
    (fun j y hj => ?_) (fun y hy => ?_) h63 hbytes (by simp; omega) ?_
  · match j, hj with
    | 0, hj =>
      simp at hj
      subst hj
      rw [Addr.add_lit, Nat.zero_add]
      rw [(Blk.new w #[u] e).cell 0]
      rfl
    | j + 1, hj => simp at hj
  · simp at hy; subst hy; exact hu
  · intro v' w' h1 h2 _
    have hrow : ∀ k, v.ownBlock = some k → base ≤ k := fun k hk => (hown.lt k hk).1
    refine hK v' w' h1 (((Below.refl base w).alloc hbase _).grown h2 (by simp; omega) hrow) ?_
    refine ⟨h2.os, h2.tape, h2.output, Nat.le_trans (by simp) h2.size, fun k hk hne => ?_⟩
    rw [h2.block k (by simp; omega) hne, Below.heap_alloc _ _ _ hk]

theorem run_string_own {P : Program} (w : World) (src dst e : TypeId) (hs : P.underlying src = some (.slice e)) (he : P.underlying e = some (.int .u8)) (hd : P.underlying dst = some .string)
    (base n : Nat) (v : Value) (l : List UInt8) (hn : l.length = n) (hown : w.ownsRow base e 1 v n (l.map fun b => .int .u8 (b.toNat : Int))) :
    (convert src dst v).run P w = .ok (.string ⟨l.toArray⟩) w := by
  subst hn
  rcases hown.2 with ⟨rfl, h0⟩ | ⟨g, cap, cur, rfl, hbg, hg, hnc, hcm, hcs, htake⟩
  · have : l = [] := List.eq_nil_of_length_eq_zero h0
    subst this
    rw [run_convert_bytes_string w src dst e _ 0 0 hs he hd]
    simp [Conv.bytesToString]
    rfl
  · refine run_string_blk w src dst e hs he hd g cap l.length l rfl fun j hj => ?_
    have := hown.cellAt j (by omega)
    rw [this]
    simp [hj]

theorem run_bytes_blk {P : Program} (w : World) (src dst e : TypeId) (s : ByteArray) (hs : P.underlying src = some .string) (hd : P.underlying dst = some (.slice e)) (he : P.underlying e = some (.int .u8)) :
    ∃ cap w', (convert src dst (.string s)).run P w = .ok (.slice (some ⟨w.heap.size, 0, none⟩) s.size cap) w' ∧ s.size ≤ cap ∧ Blk w' w.heap.size e (tab cap fun j => .int .u8 ((s.data.toList.getD j 0).toNat : Int)) ∧ Below w.heap.size w w' ∧ w.heap.size < w'.heap.size := by
  have hge := grownCap_ge w s.size 0 e
  refine ⟨_, _, run_bytes_of_string w src dst e s hs hd he, hge, ?_, ((Below.refl _ _).drew).alloc (Nat.le_refl _) _, by simp⟩
  refine ⟨_, _, _, heap_alloc_new w.drew _, ?_, .inr ?_⟩
  · apply List.ext_getElem?
    intro j
    have hsz : s.size = s.data.size := rfl
    by_cases hj : j < grownCap w s.size 0 e
    · rw [tab_get _ _ _ hj]
      by_cases hj2 : j < s.size
      · have := bytesRow_at s (grownCap w s.size 0 e) j (by omega)
        rw [Array.getElem?_toList, this]
        simp [List.getD, Array.getElem?_eq_getElem (show j < s.data.size from by omega)]
      · have h1 : s.data.toList.getD j 0 = 0 := by simp [List.getD, Array.getElem?_eq_none (show s.data.size ≤ j from by omega)]
        rw [h1, Array.getElem?_toList, bytesRow, Array.getElem?_append_right (by simp; omega)]
        rw [Array.getElem?_replicate, if_pos (by simp; omega)]
        rfl
    · rw [List.getElem?_eq_none (by rw [Array.length_toList, bytesRow, Array.size_append, Array.size_map, Array.size_replicate]; omega), List.getElem?_eq_none (by rw [tab_length]; omega)]
  · simp [tab_length, bytesRow]
    have hsz : s.size = s.data.size := rfl
    omega
end Go.Proofs.YtlmefcepdadfjaaGreat
/- Whole arrays and structs: loaded from, and stored into, a block of the call's own. No program is named here. -/
namespace Go.Proofs.YtlmefcepdadfjaaGreat
open Go.RowKit

structure Only (g : Nat) (w w' : World) : Prop where
  os : w'.os = w.os
  tape : w'.tape = w.tape
  output : w'.output = w.output
  size : w'.heap.size = w.heap.size
  block : ∀ k, k ≠ g → w'.heap[k]? = w.heap[k]?
section
variable {g : Nat} {w w' w'' : World}
theorem Only.refl : Only g w w := ⟨rfl, rfl, rfl, rfl, fun _ _ => rfl⟩
theorem Only.trans (h : Only g w w') (k : Only g w' w'') : Only g w w'' := ⟨k.os.trans h.os, k.tape.trans h.tape, k.output.trans h.output, k.size.trans h.size, fun i hi => (k.block i hi).trans (h.block i hi)⟩
theorem Only.setCell (j : Nat) (u : Value) : Only g w (w.setCell ⟨g, j, none⟩ u) := ⟨rfl, rfl, rfl, by simp [World.setCell], fun k hk => Below.heap_setCell _ _ _ _ hk⟩
theorem Only.below {B : Nat} (h : Only g w w') (hB : B ≤ g) : Below B w w' := ⟨h.os, h.tape, h.output, Nat.le_of_eq h.size.symm, fun k hk => h.block k (by omega)⟩
theorem Only.other {g' : Nat} {e : TypeId} {cs : List Value} (h : Only g w w') (hb : Blk w g' e cs) (hne : g' ≠ g) : Blk w' g' e cs := by
  obtain ⟨cur, lo, hi, h1, h2⟩ := hb
  exact ⟨cur, lo, hi, by rw [h.block g' hne]; exact h1, h2⟩
end

theorem put_step (cs : List Value) (k : Nat) (v : Value) (rest : List Value) (h : k + (v :: rest).length ≤ cs.length) :
    (cs.set k v).take (k + 1) ++ rest ++ (cs.set k v).drop (k + 1 + rest.length) = cs.take k ++ (v :: rest) ++ cs.drop (k + (v :: rest).length) := by
  apply List.ext_getElem?
  intro j
  simp only [List.length_cons] at h ⊢
  simp only [List.append_assoc, List.getElem?_append, List.length_take, List.length_set, List.getElem?_take, List.getElem?_set, List.getElem?_drop, List.cons_append, List.getElem?_cons]
  by_cases h1 : j < k
  · simp [h1, show j < k + 1 by omega, show min (k + 1) cs.length = k + 1 by omega, show min k cs.length = k by omega, show k ≠ j by omega]
  · by_cases h2 : j = k
    · subst h2
      simp [show min (j + 1) cs.length = j + 1 by omega, show min j cs.length = j by omega, show j < cs.length by omega]
    · by_cases h3 : j < k + 1 + rest.length
      · simp [h1, show ¬ j < k + 1 by omega, show min (k + 1) cs.length = k + 1 by omega, show min k cs.length = k by omega, show j - k ≠ 0 by omega, show j - (k + 1) < rest.length by omega, show j - k - 1 = j - (k + 1) by omega]
      · simp [h1, show ¬ j < k + 1 by omega, show min (k + 1) cs.length = k + 1 by omega, show min k cs.length = k by omega, show j - k ≠ 0 by omega, show ¬ j - (k + 1) < rest.length by omega, show j - k - 1 = j - (k + 1) by omega]
        rw [if_neg (by omega)]
        congr 1
        omega
theorem run_storeCells_blk {P : Program} (g o e : Nat) : ∀ (vs : List Value) (i : Nat) (cs : List Value) (w : World), Blk w g e cs → o + i + vs.length ≤ cs.length → (∀ v ∈ vs, v.oneCell' = true) →
    ∃ w', (storeCells ⟨g, o, none⟩ vs i).run P w = .ok () w' ∧ Blk w' g e (cs.take (o + i) ++ vs ++ cs.drop (o + i + vs.length)) ∧ Only g w w'
  | [], i, cs, w, hb, _, _ => ⟨w, rfl, by simpa using hb, Only.refl⟩
  | v :: rest, i, cs, w, hb, hl, h1 => by
    have hi : o + i < cs.length := by simp at hl; omega
    have hcell : w.cell? ⟨g, o + i, none⟩ = some cs[o + i] := by rw [hb.cell]; simp [hi]
    have hfro := hb.free (o + i) hi
    have hst : (store ((⟨g, o, none⟩ : Addr).add i) v).run P w = .ok () (w.setCell ⟨g, o + i, none⟩ v) := by
      rw [Addr.add_lit, run_store P w _ v _ (h1 v (by simp)), hcell]
      simp [hfro]
    obtain ⟨w', hr, hb', ho⟩ := run_storeCells_blk (P := P) g o e rest (i + 1) (cs.set (o + i) v) (w.setCell ⟨g, o + i, none⟩ v) (hb.set (o + i) v) (by simp at hl ⊢; omega) (fun x hx => h1 x (by simp [hx]))
    refine ⟨w', ?_, hb'.congr ?_, (Only.setCell _ _).trans ho⟩
    · simp only [storeCells, Sem.run_bind, hst, Result.andThen_ok, hr]
    · have := put_step cs (o + i) v rest hl
      simpa [Nat.add_assoc] using this

theorem run_loadVar_blk {P : Program} (w : World) (g o e : Nat) (ty : TypeId) (cs : List Value) (n : Nat) (d : TypeDesc) (hb : Blk w g e cs)
    (hu : P.underlying ty = some d) (hd : (match d with | .struct _ | .array _ _ => true | _ => false) = true) (hi : (P.info? ty).map (·.size) = some n) (hn : o + n ≤ cs.length) :
    (loadVar ty ⟨g, o, none⟩).run P w = .ok (.agg ((cs.drop o).take n).toArray) w := by
  have hlen : ((cs.drop o).take n).length = n := by simp; omega
  have hl := run_loadCells_list (P := P) w ⟨g, o, none⟩ ((cs.drop o).take n) (fun j v hv => by
    rw [Addr.add_lit, hb.cell]
    rw [List.getElem?_take] at hv
    split at hv
    · rw [List.getElem?_drop] at hv; exact hv
    · simp at hv)
  rw [hlen] at hl
  cases hq : P.info? ty with
  | none => simp [hq] at hi
  | some i =>
    have hs : i.size = n := by simpa [hq] using hi
    have hagg : (isAgg ty).run P w = .ok true w := by
      unfold isAgg
      rw [Sem.run_bind, run_underlying hu w]
      cases d <;> simp_all
    simp [loadVar, Sem.run_bind, hagg, sizeOf, typeInfo, hq, hs, hl]
theorem wpList_load_agg {P : Program} {ops : Array Oper} {rest : List Oper} {o : Oper} {a : Act} {w : World} {Q : Exit → Act → World → Prop} (hgd : o.guard = none) (ty : TypeId) (x : Operand) (ho : o.op = .load ty x)
    (g off e : Nat) (hx : a.eval x = .pointer (some ⟨g, off, none⟩)) (cs : List Value) (n : Nat) (d : TypeDesc) (hb : Blk w g e cs)
    (hu : P.underlying ty = some d) (hd : (match d with | .struct _ | .array _ _ => true | _ => false) = true) (hi : (P.info? ty).map (·.size) = some n) (hn : off + n ≤ cs.length)
    (h : wpList P ops Q rest (a.put o.dst (.agg ((cs.drop off).take n).toArray)) w) : wpList P ops Q (o :: rest) a w := by
  refine wpList_plain hgd fun K hK => ?_
  unfold Oper.wp execOp
  simp only [ho, hx, Instr.loadAt, Instr.sureAddr, Sem.run_bind, Sem.run_pure, Result.andThen_ok, run_loadVar_blk w g off e ty cs n d hb hu hd hi hn]
  exact hK _ _ h
theorem run_storeVar_blk {P : Program} (w : World) (g o e : Nat) (ty : TypeId) (cs : List Value) (cells : Array Value) (hb : Blk w g e cs) (hi : (P.info? ty).map (·.size) = some cells.size)
    (hn : o + cells.size ≤ cs.length) (h1 : ∀ v ∈ cells.toList, v.oneCell' = true) :
    ∃ w', (storeVar ty ⟨g, o, none⟩ (.agg cells)).run P w = .ok () w' ∧ Blk w' g e (cs.take o ++ cells.toList ++ cs.drop (o + cells.size)) ∧ Only g w w' := by
  obtain ⟨w', hr, hb', hoo⟩ := run_storeCells_blk (P := P) g o e cells.toList 0 cs w hb (by simp; omega) h1
  refine ⟨w', ?_, by simpa using hb', hoo⟩
  cases hq : P.info? ty with
  | none => simp [hq] at hi
  | some i =>
    have hs : cells.size = i.size := by simp [hq] at hi; omega
    simp [storeVar, sizeOf, typeInfo, hq, Value.cells, hs, hr]
theorem wpList_store_agg {P : Program} {ops : Array Oper} {rest : List Oper} {o : Oper} {a : Act} {w : World} {Q : Exit → Act → World → Prop} (hgd : o.guard = none) (ty : TypeId) (x y : Operand) (ho : o.op = .store ty x y)
    (g off e : Nat) (cells : Array Value) (hx : a.eval x = .pointer (some ⟨g, off, none⟩)) (hy : a.eval y = .agg cells)
    (cs : List Value) (hb : Blk w g e cs) (hi : (P.info? ty).map (·.size) = some cells.size) (hn : off + cells.size ≤ cs.length) (h1 : ∀ v ∈ cells.toList, v.oneCell' = true)
    (h : ∀ w', Blk w' g e (cs.take off ++ cells.toList ++ cs.drop (off + cells.size)) → Only g w w' → wpList P ops Q rest (a.put o.dst undef) w') : wpList P ops Q (o :: rest) a w := by
  obtain ⟨w', hr, hb', hoo⟩ := run_storeVar_blk (P := P) w g off e ty cs cells hb hi hn h1
  refine wpList_plain hgd fun K hK => ?_
  unfold Oper.wp execOp
  simp only [ho, hx, hy, Instr.storeAt, Instr.sureAddr, Sem.run_bind, Sem.run_pure, Result.andThen_ok, hr]
  exact hK _ _ (h w' hb' hoo)
theorem results_cell_blk {P : Program} {fn : Func} {p : Tmp} {ty : TypeId} (h : fn.results = #[.cell p ty]) (tmps : Array Value) (w : World) (g e : Nat) (cs : List Value) (d : TypeDesc)
    (hp : tmps.getD p undef = .pointer (some ⟨g, 0, none⟩)) (hb : Blk w g e cs)
    (hu : P.underlying ty = some d) (hd : (match d with | .struct _ | .array _ _ => true | _ => false) = true) (hi : (P.info? ty).map (·.size) = some cs.length) :
    (results fn tmps).run P w = .ok (.agg cs.toArray) w := by
  have hp' : tmps[p]?.getD undef = .pointer (some ⟨g, 0, none⟩) := by simpa using hp
  have := run_loadVar_blk (P := P) w g 0 e ty cs cs.length d hb hu hd hi (by omega)
  simp only [List.drop_zero, List.take_length] at this
  simp [results, h, hp', asAddr, this]
theorem oneCell_tab {n : Nat} {f : Nat → Value} (h : ∀ j, (f j).oneCell' = true) : ∀ v ∈ (tab n f).toArray.toList, v.oneCell' = true := by
  intro v hv
  simp [tab] at hv
  obtain ⟨j, _, rfl⟩ := hv
  exact h j
theorem wpList_load_tab {P : Program} {ops : Array Oper} {rest : List Oper} {o : Oper} {a : Act} {w : World} {Q : Exit → Act → World → Prop} (hgd : o.guard = none) (ty : TypeId) (x : Operand) (ho : o.op = .load ty x)
    (g e : Nat) (hx : a.eval x = .pointer (some ⟨g, 0, none⟩)) (n : Nat) (f : Nat → Value) (d : TypeDesc) (hb : Blk w g e (tab n f))
    (hu : P.underlying ty = some d) (hd : (match d with | .struct _ | .array _ _ => true | _ => false) = true) (hi : (P.info? ty).map (·.size) = some n)
    (h : wpList P ops Q rest (a.put o.dst (.agg (tab n f).toArray)) w) : wpList P ops Q (o :: rest) a w := by
  refine wpList_load_agg hgd ty x ho g 0 e hx (tab n f) n d hb hu hd hi (by rw [tab_length]; omega) ?_
  rw [List.drop_zero, List.take_of_length_le (by rw [tab_length]; omega)]
  exact h
theorem wpList_store_tab {P : Program} {ops : Array Oper} {rest : List Oper} {o : Oper} {a : Act} {w : World} {Q : Exit → Act → World → Prop} (hgd : o.guard = none) (ty : TypeId) (x y : Operand) (ho : o.op = .store ty x y)
    (g e n : Nat) (f f0 : Nat → Value) (hx : a.eval x = .pointer (some ⟨g, 0, none⟩)) (hy : a.eval y = .agg (tab n f).toArray)
    (hb : Blk w g e (tab n f0)) (hi : (P.info? ty).map (·.size) = some n) (h1 : ∀ j, (f j).oneCell' = true)
    (h : ∀ w', Blk w' g e (tab n f) → Only g w w' → wpList P ops Q rest (a.put o.dst undef) w') : wpList P ops Q (o :: rest) a w := by
  have hs : (tab n f).toArray.size = n := by rw [List.size_toArray, tab_length]
  refine wpList_store_agg hgd ty x y ho g 0 e _ hx hy (tab n f0) hb (by rw [hs]; exact hi) (by rw [hs, tab_length]; omega) (oneCell_tab h1) fun w' hb' ho' => h w' (hb'.congr ?_) ho'
  rw [hs, List.take_zero, List.nil_append, Nat.zero_add, List.drop_of_length_le (by rw [tab_length]; omega), List.append_nil]
theorem results_cell_tab {P : Program} {fn : Func} {p : Tmp} {ty : TypeId} (h : fn.results = #[.cell p ty]) (tmps : Array Value) (w : World) (g e n : Nat) (f : Nat → Value) (d : TypeDesc)
    (hp : tmps.getD p undef = .pointer (some ⟨g, 0, none⟩)) (hb : Blk w g e (tab n f))
    (hu : P.underlying ty = some d) (hd : (match d with | .struct _ | .array _ _ => true | _ => false) = true) (hi : (P.info? ty).map (·.size) = some n) :
    (results fn tmps).run P w = .ok (.agg (tab n f).toArray) w := results_cell_blk h tmps w g e (tab n f) d hp hb hu hd (by rw [tab_length]; exact hi)

theorem wpList_alloc_blk {P : Program} {ops : Array Oper} {rest : List Oper} {o : Oper} {a : Act} {w : World} {Q : Exit → Act → World → Prop} (hgd : o.guard = none) (ty : TypeId) (ho : o.op = .alloc ty)
    (z : Value) (hz : (P.info? ty).map (·.zero) = some (some z))
    (h : ∀ w', Blk w' w.heap.size ty z.cells.toList → Below w.heap.size w w' → w.heap.size < w'.heap.size → wpList P ops Q rest (a.put o.dst (.pointer (some ⟨w.heap.size, 0, none⟩))) w') : wpList P ops Q (o :: rest) a w := by
  obtain ⟨i, hi, hzz⟩ := Option.map_eq_some_iff.1 hz
  refine wpList_plain hgd fun K hK => ?_
  unfold Oper.wp execOp
  simp [ho, Instr.alloc, zeroValue, typeInfo, hi, hzz, newVar, newRow]
  exact hK _ _ (h _ (Blk.new w z.cells ty) ((Below.refl _ _).alloc (Nat.le_refl _) _) (by simp))
end Go.Proofs.YtlmefcepdadfjaaGreat
/- Slices that are read; slices of the call's own beside blocks that are written. No program is named here. -/
namespace Go.Proofs.YtlmefcepdadfjaaGreat
open Go.RowKit

theorem owns_base {w : World} {base base' size n : Nat} {e : TypeId} {v : Value} {xs : List Value} (h : w.ownsRow base e size v n xs) (hb : base' ≤ base) : w.ownsRow base' e size v n xs := by
  refine ⟨h.1, ?_⟩
  rcases h.2 with h2 | ⟨k, cap, cur, hv, hbk, hh, r⟩
  · exact .inl h2
  · exact .inr ⟨k, cap, cur, hv, by omega, hh, r⟩
def Rd (w : World) (ao : Option Addr) (xs : List Value) : Prop :=
  xs.length ≤ maxLen ∧ (0 < xs.length → ∃ g off, ao = some ⟨g, off, none⟩ ∧ g < w.heap.size ∧ ∀ j, j < xs.length → w.cell? ⟨g, off + j, none⟩ = xs[j]?)
theorem Rd.kept {w w' : World} {ao : Option Addr} {xs : List Value} (h : Rd w ao xs) (hb : Below w.heap.size w w') : Rd w' ao xs := by
  refine ⟨h.1, fun hn => ?_⟩
  obtain ⟨g, off, h1, h2, h3⟩ := h.2 hn
  exact ⟨g, off, h1, Nat.lt_of_lt_of_le h2 hb.size, fun j hj => by rw [hb.cell (p := ⟨g, off + j, none⟩) h2]; exact h3 j hj⟩
theorem Rd.of_owns {w : World} {base n : Nat} {e : TypeId} {v : Value} {xs : List Value} (h : w.ownsRow base e 1 v n xs) : ∃ ao cap, v = .slice ao n cap ∧ Rd w ao xs ∧ xs.length = n := by
  have hl : xs.length = n := by have := h.1; omega
  have h0 := h
  rcases h.2 with ⟨hv, h2⟩ | ⟨k, cap, cur, hv, hb, hh, hnc, hcm, r⟩
  · subst h2
    exact ⟨none, 0, hv, ⟨by rw [hl]; unfold maxLen; omega, fun hn => by omega⟩, hl⟩
  · refine ⟨_, _, hv, ⟨by omega, fun hn => ⟨k, 0, rfl, (Array.getElem?_eq_some_iff.1 hh).1, fun j hj => ?_⟩⟩, hl⟩
    subst hv
    have := h0.cellAt j (by omega)
    rw [Nat.zero_add]
    exact this
end Go.Proofs.YtlmefcepdadfjaaGreat
