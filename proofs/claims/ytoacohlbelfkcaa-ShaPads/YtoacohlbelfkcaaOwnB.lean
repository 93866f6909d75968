/- Slices that the call appends to, and string(b) of them; []byte(s). No program is named here. -/
import Derived.Test.YtoacohlbelfkcaaOwn
namespace Go.Proofs.Ytoacohlbelfkcaa
open Go.RowKit

theorem own_le {w : World} {base e size n : Nat} {v : Value} {xs : List Value} (h : w.ownsRow base e size v n xs) : xs.length = n * size := h.1

/-- 'append(b, x)', b the call's own (or nil): x lies in a new block of its own. -/
theorem wpList_append_one {P : Program} (w : World) {ops : Array Oper} {rest : List Oper} {o : Oper} {a : Act} {Q : Exit → Act → World → Prop}
    (hgd : o.guard = none) (s x : Operand) (t : TypeId) (hop : o.op = Op.call { callee := Callee.builtin Builtin.append, args := #[s, x], argTypes := #[t, t] })
    (base e : Nat) (z : Value) (bytes : Nat) (ht : P.underlying t = some (.slice e)) (hinf : (P.info? e).map (fun i => (i.zero, i.size, i.bytes)) = some (some z, 1, bytes)) (hz : z.cells.size = 1)
    (v : Value) (n : Nat) (xs : List Value) (hs : a.eval s = v) (hown : w.ownsRow base e 1 v n xs) (u : Value) (hu : u.oneCell' = true) (hx : a.eval x = .slice (some ⟨w.heap.size, 0, none⟩) 1 1)
    (h63 : n + 1 ≤ maxLen) (hbytes : (n + 1) * bytes ≤ 140737488355328) (hbase : base ≤ w.heap.size)
    (hK : ∀ v' w', w'.ownsRow base e 1 v' (n + 1) (xs ++ [u]) → Below base w w' → w.grownBy w' v.ownBlock → wpList P ops Q rest (a.put o.dst v') w') :
    wpList P ops Q (o :: rest) a (w.alloc (.cells #[u] e)) := by
  obtain ⟨i, hi, hz0, hz1, hz2⟩ := info_parts hinf
  refine wpList_append_own (w.alloc (.cells #[u] e)) hgd s x t hop base e i z 1 bytes ht hi hz0 hz1 hz2 hz (by omega) v n xs hs (hown.alloc _) ⟨w.heap.size, 0, none⟩ 1 1 [u] hx rfl
    (fun j y hj => ?_) (fun y hy => ?_) h63 hbytes (by simp; omega) ?_
  · match j, hj with
    | 0, hj =>
      simp at hj
      subst hj
      rw [Addr.add_lit, Nat.zero_add]
      rw [(Blk.new w #[u] e).cell 0]
      rfl
    | j + 1, hj => simp at hj
  · simp at hy; subst hy; exact hu
  · intro v' w' h1 h2 _
    have hrow : ∀ k, v.ownBlock = some k → base ≤ k := fun k hk => (hown.lt k hk).1
    refine hK v' w' h1 (((Below.refl base w).alloc hbase _).grown h2 (by simp; omega) hrow) ?_
    refine ⟨h2.os, h2.tape, h2.output, Nat.le_trans (by simp) h2.size, fun k hk hne => ?_⟩
    rw [h2.block k (by simp; omega) hne, Below.heap_alloc _ _ _ hk]

/-- 'string(b)', b a slice of bytes that the call owns. -/
theorem run_string_own {P : Program} (w : World) (src dst e : TypeId) (hs : P.underlying src = some (.slice e)) (he : P.underlying e = some (.int .u8)) (hd : P.underlying dst = some .string)
    (base n : Nat) (v : Value) (l : List UInt8) (hn : l.length = n) (hown : w.ownsRow base e 1 v n (l.map fun b => .int .u8 (b.toNat : Int))) :
    (convert src dst v).run P w = .ok (.string ⟨l.toArray⟩) w := by
  subst hn
  rcases hown.2 with ⟨rfl, h0⟩ | ⟨g, cap, cur, rfl, hbg, hg, hnc, hcm, hcs, htake⟩
  · have : l = [] := List.eq_nil_of_length_eq_zero h0
    subst this
    rw [run_convert_bytes_string w src dst e _ 0 0 hs he hd]
    simp [Conv.bytesToString]
    rfl
  · refine run_string_blk w src dst e hs he hd g cap l.length l rfl fun j hj => ?_
    have := hown.cellAt j (by omega)
    rw [this]
    simp [hj]

/-- '[]byte(s)': a new block: the bytes, then zeros. -/
theorem run_bytes_blk {P : Program} (w : World) (src dst e : TypeId) (s : ByteArray) (hs : P.underlying src = some .string) (hd : P.underlying dst = some (.slice e)) (he : P.underlying e = some (.int .u8)) :
    ∃ cap w', (convert src dst (.string s)).run P w = .ok (.slice (some ⟨w.heap.size, 0, none⟩) s.size cap) w' ∧ s.size ≤ cap ∧ Blk w' w.heap.size e (tab cap fun j => .int .u8 ((s.data.toList.getD j 0).toNat : Int)) ∧ Below w.heap.size w w' ∧ w.heap.size < w'.heap.size := by
  have hge := grownCap_ge w s.size 0 e
  refine ⟨_, _, run_bytes_of_string w src dst e s hs hd he, hge, ?_, ((Below.refl _ _).drew).alloc (Nat.le_refl _) _, by simp⟩
  refine ⟨_, _, _, heap_alloc_new w.drew _, ?_, .inr ?_⟩
  · apply List.ext_getElem?
    intro j
    have hsz : s.size = s.data.size := rfl
    by_cases hj : j < grownCap w s.size 0 e
    · rw [tab_get _ _ _ hj]
      by_cases hj2 : j < s.size
      · have := bytesRow_at s (grownCap w s.size 0 e) j (by omega)
        rw [Array.getElem?_toList, this]
        simp [List.getD, Array.getElem?_eq_getElem (show j < s.data.size from by omega)]
      · have h1 : s.data.toList.getD j 0 = 0 := by simp [List.getD, Array.getElem?_eq_none (show s.data.size ≤ j from by omega)]
        rw [h1, Array.getElem?_toList, bytesRow, Array.getElem?_append_right (by simp; omega)]
        rw [Array.getElem?_replicate, if_pos (by simp; omega)]
        rfl
    · rw [List.getElem?_eq_none (by rw [Array.length_toList, bytesRow, Array.size_append, Array.size_map, Array.size_replicate]; omega), List.getElem?_eq_none (by rw [tab_length]; omega)]
  · simp [tab_length, bytesRow]
    have hsz : s.size = s.data.size := rfl
    omega
theorem wpList_bytes_blk {P : Program} (w : World) {ops : Array Oper} {rest : List Oper} {o : Oper} {a : Act} {Q : Exit → Act → World → Prop}
    (hgd : o.guard = none) (x : Operand) (src dst e : TypeId) (hop : o.op = Op.convert src dst x) (s : ByteArray) (hs : P.underlying src = some .string) (hd : P.underlying dst = some (.slice e)) (he : P.underlying e = some (.int .u8)) (hx : a.eval x = .string s)
    (hK : ∀ cap w', s.size ≤ cap → Blk w' w.heap.size e (tab cap fun j => .int .u8 ((s.data.toList.getD j 0).toNat : Int)) → Below w.heap.size w w' → w.heap.size < w'.heap.size → wpList P ops Q rest (a.put o.dst (.slice (some ⟨w.heap.size, 0, none⟩) s.size cap)) w') :
    wpList P ops Q (o :: rest) a w := by
  obtain ⟨cap, w', hrun, h1, h2, h3, h4⟩ := run_bytes_blk (P := P) w src dst e s hs hd he
  refine wpList_plain hgd fun K hK' => ?_
  unfold Oper.wp
  simp [execOp, hop, hx, hrun, Result.andThen]
  exact hK' _ _ (hK cap w' h1 h2 h3 h4)
end Go.Proofs.Ytoacohlbelfkcaa
