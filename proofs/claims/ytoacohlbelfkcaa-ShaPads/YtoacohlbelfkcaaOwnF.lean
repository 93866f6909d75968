/- Slices of the call's own, more: append of what is read, new rows. No program is named here. -/
import Derived.Test.YtoacohlbelfkcaaOwnE
namespace Go.Proofs.Ytoacohlbelfkcaa
open Go.RowKit

theorem run_append_nil {P : Program} (w : World) (t ty e : TypeId) (i : TypeInfo) (z : Value) (ht : P.underlying t = some (.slice e)) (hi : P.info? e = some i) (hz : i.zero = some z) (ao : Option Addr) (n cap : Nat) (hc : n ≤ cap) :
    (Builtin.append_ #[t, t] ty #[.slice ao n cap, .slice none 0 0]).run P w = .ok (.slice ao n cap) w := by
  simp [Builtin.append_, run_underlying ht, sizeOf, typeInfo, zeroValue, hi, hz, Builtin.lenOf, hc, Builtin.firstCells]
  cases ao <;> simp [storeCells]
theorem wpList_append_nil {P : Program} (w : World) {ops : Array Oper} {rest : List Oper} {o : Oper} {a : Act} {Q : Exit → Act → World → Prop}
    (hgd : o.guard = none) (s x : Operand) (t : TypeId) (hop : o.op = Op.call { callee := Callee.builtin Builtin.append, args := #[s, x], argTypes := #[t, t] })
    (base e : Nat) (z : Value) (bytes : Nat) (ht : P.underlying t = some (.slice e)) (hinf : (P.info? e).map (fun i => (i.zero, i.size, i.bytes)) = some (some z, 1, bytes))
    (v : Value) (n : Nat) (xs : List Value) (hs : a.eval s = v) (hown : w.ownsRow base e 1 v n xs) (hx : a.eval x = .slice none 0 0)
    (hK : wpList P ops Q rest (a.put o.dst v) w) : wpList P ops Q (o :: rest) a w := by
  obtain ⟨i, hi, hz0, hz1, hz2⟩ := info_parts hinf
  have hr : (Builtin.append_ #[t, t] o.type #[v, .slice none 0 0]).run P w = .ok v w := by
    rcases hown.2 with ⟨rfl, rfl⟩ | ⟨g, cap, cur, rfl, _, _, hc, _⟩
    · exact run_append_nil w t o.type e i z ht hi hz0 none 0 0 (Nat.le_refl _)
    · exact run_append_nil w t o.type e i z ht hi hz0 _ n cap hc
  refine wpList_plain hgd fun K hK' => ?_
  unfold Oper.wp execOp
  simp only [hop, resolve, invoke, builtin, Sem.run_bind, Sem.run_pure, Result.andThen_ok, List.map_toArray, List.map_cons, List.map_nil, hs, hx, hr]
  exact hK' _ _ hK
theorem Rd.of_blk {w : World} {g : Nat} {e : TypeId} {xs : List Value} (h : Blk w g e xs) (hl : xs.length ≤ maxLen) : Rd w (some ⟨g, 0, none⟩) xs :=
  ⟨hl, fun _ => ⟨g, 0, rfl, h.lt, fun j _ => by rw [Nat.zero_add]; exact h.cell j⟩⟩
theorem Rd.empty (w : World) (ao : Option Addr) : Rd w ao [] := ⟨by simp, fun h => by simp at h⟩
theorem Rd.tail {w : World} {g off : Nat} {x : Value} {xs : List Value} (h : Rd w (some ⟨g, off, none⟩) (x :: xs)) : Rd w (some ⟨g, off + 1, none⟩) xs := by
  refine ⟨by have := h.1; simp at this; omega, fun hn => ?_⟩
  obtain ⟨g', off', he, h1, h2⟩ := h.2 (by simp)
  simp only [Option.some.injEq, Addr.mk.injEq, and_true] at he
  obtain ⟨rfl, rfl⟩ := he
  refine ⟨g, off + 1, rfl, h1, fun j hj => ?_⟩
  have := h2 (j + 1) (by simp; omega)
  rw [show off + 1 + j = off + (j + 1) by omega, this]
  rfl
theorem Rd.of_owns' {w : World} {base n : Nat} {e : TypeId} {v : Value} {xs : List Value} (h : w.ownsRow base e 1 v n xs) : ∃ ao cap, v = .slice ao n cap ∧ Rd w ao xs ∧ (ao = none → cap = 0) := by
  obtain ⟨ao, cap, rfl, hr, _⟩ := Rd.of_owns h
  refine ⟨ao, cap, rfl, hr, fun h0 => ?_⟩
  rcases h.2 with ⟨hv, _⟩ | ⟨k, cap', cur, hv, _⟩
  · simp at hv; exact hv.2.2
  · subst h0; simp at hv
theorem wpList_append_rd {P : Program} (w : World) {ops : Array Oper} {rest : List Oper} {o : Oper} {a : Act} {Q : Exit → Act → World → Prop}
    (hgd : o.guard = none) (s x : Operand) (t : TypeId) (hop : o.op = Op.call { callee := Callee.builtin Builtin.append, args := #[s, x], argTypes := #[t, t] })
    (base e : Nat) (z : Value) (bytes : Nat) (ht : P.underlying t = some (.slice e)) (hinf : (P.info? e).map (fun i => (i.zero, i.size, i.bytes)) = some (some z, 1, bytes)) (hz : z.cells.size = 1)
    (v : Value) (n : Nat) (xs : List Value) (hs : a.eval s = v) (hown : w.ownsRow base e 1 v n xs) (ao : Option Addr) (m c : Nat) (ys : List Value) (hx : a.eval x = .slice ao m c) (hm : ys.length = m) (hr : Rd w ao ys) (hc : ao = none → c = 0) (h1 : ∀ u ∈ ys, u.oneCell' = true)
    (h63 : n + m ≤ maxLen) (hbytes : (n + m) * bytes ≤ 140737488355328) (hbase : base ≤ w.heap.size)
    (hK : ∀ v' w', w'.ownsRow base e 1 v' (n + m) (xs ++ ys) → Below base w w' → w.grownBy w' v.ownBlock → wpList P ops Q rest (a.put o.dst v') w') : wpList P ops Q (o :: rest) a w := by
  obtain ⟨i, hi, hz0, hz1, hz2⟩ := info_parts hinf
  have hrow : ∀ k, v.ownBlock = some k → base ≤ k := fun k hk => (hown.lt k hk).1
  cases ao with
  | none =>
    have h0 : ys = [] := by
      cases ys with
      | nil => rfl
      | cons y ys =>
        obtain ⟨g, off, h, _⟩ := hr.2 (by simp)
        simp at h
    subst h0
    obtain rfl : m = 0 := by simpa using hm.symm
    obtain rfl := hc rfl
    refine wpList_append_nil w hgd s x t hop base e z bytes ht hinf v n xs hs hown hx (hK v w ?_ (Below.refl _ _) (World.grownBy.refl w _))
    simpa using hown
  | some ad =>
    refine wpList_append_own w hgd s x t hop base e i z 1 bytes ht hi hz0 hz1 hz2 hz (by omega) v n xs hs hown ad m c ys hx (by omega)
      (fun j y hj => ?_) h1 h63 hbytes hbase ?_
    · have hjl : j < ys.length := (List.getElem?_eq_some_iff.1 hj).1
      obtain ⟨g, off, h, _, h3⟩ := hr.2 (by omega)
      simp only [Option.some.injEq] at h
      subst h
      rw [Addr.add_lit, h3 j hjl]
      exact hj
    · intro v' w' h1 h2 _
      exact hK v' w' h1 ((Below.refl base w).grown h2 hbase hrow) h2
theorem owns_congr {w : World} {B e sz n : Nat} {v : Value} {xs ys : List Value} (h : w.ownsRow B e sz v n xs) (he : xs = ys) : w.ownsRow B e sz v n ys := he ▸ h
/-- A row that the call has just made. -/
theorem owns_new (w : World) (cur : Array Value) (e B : Nat) (hB : B ≤ w.heap.size) (hm : cur.size ≤ maxLen) : (w.alloc (.cells cur e)).ownsRow B e 1 (.slice (some ⟨w.heap.size, 0, none⟩) cur.size cur.size) cur.size cur.toList :=
  ⟨by simp, .inr ⟨w.heap.size, cur.size, cur, rfl, hB, heap_alloc_new w _, Nat.le_refl _, hm, by simp, by rw [Nat.mul_one]; exact List.take_of_length_le (by simp)⟩⟩
theorem owns_new' (w : World) (cur : Array Value) (e B g n : Nat) (hg : w.heap.size = g) (hn : cur.size = n) (hB : B ≤ g) (hm : n ≤ maxLen) : (w.alloc (.cells cur e)).ownsRow B e 1 (.slice (some ⟨g, 0, none⟩) n n) n cur.toList := by
  subst hg; subst hn; exact owns_new w cur e B hB hm
theorem blk_new' (w : World) (cur : Array Value) (e g : Nat) (hg : w.heap.size = g) : Blk (w.alloc (.cells cur e)) g e cur.toList := by
  subst hg; exact Blk.new w cur e
theorem owns_form {w : World} {B e n : Nat} {v : Value} {xs : List Value} (h : w.ownsRow B e 1 v n xs) (hn : 0 < n) : ∃ g cap, v = .slice (some ⟨g, 0, none⟩) n cap ∧ B ≤ g ∧ g < w.heap.size ∧ n ≤ cap ∧ cap ≤ maxLen ∧ (∀ j, j < n → w.cell? ⟨g, j, none⟩ = xs[j]?) ∧ ∀ j, w.frozen? ⟨g, j, none⟩ = false := by
  have h0 := h
  rcases h.2 with ⟨_, h2⟩ | ⟨g, cap, cur, rfl, hb, hh, hnc, hcm, _⟩
  · omega
  · exact ⟨g, cap, rfl, hb, (Array.getElem?_eq_some_iff.1 hh).1, hnc, hcm, fun j hj => h0.cellAt j (by omega), fun j => h0.frozenAt j⟩
theorem grown_below {B g : Nat} {w w' : World} (h : w.grownBy w' (some g)) (hB : B ≤ g) (hw : B ≤ w.heap.size) : Below B w w' :=
  ⟨h.os, h.tape, h.output, h.size, fun k hk => h.block k (by omega) (fun e => by injection e; omega)⟩
end Go.Proofs.Ytoacohlbelfkcaa
