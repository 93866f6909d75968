/- The walk over package cut's Split. -/
import Derived.Test.YtigfioknmcjbbaaCutE
namespace Go.Proofs.Ytigfioknmcjbbaa
open Go.RowKit

theorem run_append_nil {P : Program} (w : World) (t ty e : TypeId) (i : TypeInfo) (z : Value) (ht : P.underlying t = some (.slice e)) (hi : P.info? e = some i) (hz : i.zero = some z) (ao : Option Addr) (n cap : Nat) (hc : n ≤ cap) :
    (Builtin.append_ #[t, t] ty #[.slice ao n cap, .slice none 0 0]).run P w = .ok (.slice ao n cap) w := by
  simp [Builtin.append_, run_underlying ht, sizeOf, typeInfo, zeroValue, hi, hz, Builtin.lenOf, hc, Builtin.firstCells]
  cases ao <;> simp [storeCells]
theorem wpList_append_nil {P : Program} (w : World) {ops : Array Oper} {rest : List Oper} {o : Oper} {a : Act} {Q : Exit → Act → World → Prop}
    (hgd : o.guard = none) (s x : Operand) (t : TypeId) (hop : o.op = Op.call { callee := Callee.builtin Builtin.append, args := #[s, x], argTypes := #[t, t] })
    (base e : Nat) (z : Value) (bytes : Nat) (ht : P.underlying t = some (.slice e)) (hinf : (P.info? e).map (fun i => (i.zero, i.size, i.bytes)) = some (some z, 1, bytes))
    (v : Value) (n : Nat) (xs : List Value) (hs : a.eval s = v) (hown : w.ownsRow base e 1 v n xs) (hx : a.eval x = .slice none 0 0)
    (hK : wpList P ops Q rest (a.put o.dst v) w) : wpList P ops Q (o :: rest) a w := by
  obtain ⟨i, hi, hz0, hz1, hz2⟩ := info_parts hinf
  have hr : (Builtin.append_ #[t, t] o.type #[v, .slice none 0 0]).run P w = .ok v w := by
    rcases hown.2 with ⟨rfl, rfl⟩ | ⟨g, cap, cur, rfl, _, _, hc, _⟩
    · exact run_append_nil w t o.type e i z ht hi hz0 none 0 0 (Nat.le_refl _)
    · exact run_append_nil w t o.type e i z ht hi hz0 _ n cap hc
  refine wpList_plain hgd fun K hK' => ?_
  unfold Oper.wp execOp
  simp only [hop, resolve, invoke, builtin, Sem.run_bind, Sem.run_pure, Result.andThen_ok, List.map_toArray, List.map_cons, List.map_nil, hs, hx, hr]
  exact hK' _ _ hK
theorem wpList_append_row1 {P : Program} (w : World) {ops : Array Oper} {rest : List Oper} {o : Oper} {a : Act} {Q : Exit → Act → World → Prop}
    (hgd : o.guard = none) (s x : Operand) (t : TypeId) (hop : o.op = Op.call { callee := Callee.builtin Builtin.append, args := #[s, x], argTypes := #[t, t] })
    (base e : Nat) (z : Value) (bytes : Nat) (ht : P.underlying t = some (.slice e)) (hinf : (P.info? e).map (fun i => (i.zero, i.size, i.bytes)) = some (some z, 1, bytes)) (hz : z.cells.size = 1)
    (v : Value) (n : Nat) (xs : List Value) (hs : a.eval s = v) (hown : w.ownsRow base e 1 v n xs) (u : Value) (hu : u.oneCell' = true) (g : Nat) (hb : Blk w g e [u]) (hx : a.eval x = .slice (some ⟨g, 0, none⟩) 1 1)
    (h63 : n + 1 ≤ maxLen) (hbytes : (n + 1) * bytes ≤ 140737488355328) (hbase : base ≤ w.heap.size)
    (hK : ∀ v' w', w'.ownsRow base e 1 v' (n + 1) (xs ++ [u]) → Below base w w' → wpList P ops Q rest (a.put o.dst v') w') :
    wpList P ops Q (o :: rest) a w := by
  obtain ⟨i, hi, hz0, hz1, hz2⟩ := info_parts hinf
  refine wpList_append_own w hgd s x t hop base e i z 1 bytes ht hi hz0 hz1 hz2 hz (by omega) v n xs hs hown ⟨g, 0, none⟩ 1 1 [u] hx rfl
    (fun j y hj => ?_) (fun y hy => ?_) h63 hbytes hbase ?_
  · match j, hj with
    | 0, hj =>
      simp at hj
      subst hj
      rw [Addr.add_lit, Nat.zero_add, hb.cell 0]
      rfl
    | j + 1, hj => simp at hj
  · simp at hy; subst hy; exact hu
  · intro v' w' h1 h2 _
    have hrow : ∀ k, v.ownBlock = some k → base ≤ k := fun k hk => (hown.lt k hk).1
    exact hK v' w' h1 ((Below.refl base w).grown h2 hbase hrow)
/-- What End hands back. -/
def Ends (w : World) (v : Value) (r : ByteArray) : Prop := (r.size = 0 ∧ v = .slice none 0 0) ∨ (0 < r.size ∧ ∃ g2, v = .slice (some ⟨g2, 0, none⟩) 1 1 ∧ Blk w g2 9 [.string r])
/-- The chunks of a whole text: those that end, and what is left, where anything is. -/
def lastOf (r : ByteArray) : List ByteArray := if r.size = 0 then [] else [r]
theorem size_none (r : ByteArray) (h : r.size = 0) : r = { data := #[] } := by
  apply ByteArray.ext
  exact Array.eq_empty_of_size_eq_zero h
theorem End_gen (g gr : Nat) (c : Nat → Int) (s : ByteArray) (hs : s.size ≤ 1000000) (at_ back : Nat) (l : List UInt8) (w : World) (hst : CutS w g gr c s at_ back l) :
    Calls Try.prog 20 #[.pointer (some ⟨g, 0, none⟩)] w fun e w' => ∃ v, e = .returned v ∧ Ends w' v s ∧ Keep2 w.heap.size g gr w w' := by
  by_cases h0 : s.size = 0
  · have := size_none s h0
    subst this
    refine (End_no g gr c at_ back l w hst).mono ?_
    rintro e w' ⟨rfl, hb⟩
    exact ⟨_, rfl, .inl ⟨h0, rfl⟩, keep_below hb⟩
  · refine (End_any g gr c s hs (by omega) at_ back l w hst).mono ?_
    rintro e w' ⟨g2, rfl, hb, _, _, hk⟩
    exact ⟨_, rfl, .inr ⟨by omega, g2, rfl, hb⟩, hk⟩
theorem owns_keep {B g gr : Nat} {w w' : World} {e : TypeId} {v : Value} {n : Nat} {xs : List Value} (h : w.ownsRow B e 1 v n xs) (hk : Keep2 w.heap.size g gr w w') (h1 : g < B) (h2 : gr < B) : w'.ownsRow B e 1 v n xs := by
  refine ⟨h.1, ?_⟩
  rcases h.2 with h3 | ⟨k, cap, cur, hv, hb, hc, r⟩
  · exact .inl h3
  · have hlt : k < w.heap.size := by
      rw [Array.getElem?_eq_some_iff] at hc
      exact hc.1
    exact .inr ⟨k, cap, cur, hv, hb, by rw [hk.block k hlt (by omega) (by omega)]; exact hc, r⟩
set_option maxHeartbeats 4000000 in
theorem Split_any (c : Nat → Int) (k : Conf4) (hk : k.ok) (hc : conf_is c k) (hm : mayC c = true) (s : ByteArray) (hs : s.size ≤ 1000000) (w : World) :
    Calls Try.prog 14 #[.string s, confA c] w fun e w' => ∃ v cs r, e = .returned v ∧ Cuts k s cs r ∧ cutN k r.data.toList = 0 ∧ w'.ownsRow w.heap.size 9 1 v (cs ++ lastOf r).length ((cs ++ lastOf r).map .string) ∧ Below w.heap.size w w' := by
  have hes : ({ data := #[] } : ByteArray) ++ s = s := by apply ByteArray.ext; simp
  have HES := Go.Lib.hid hes
  have hs2 : (({ data := #[] } : ByteArray) ++ s).size ≤ 1000000 := by rw [hes]; exact hs
  clear hes
  unfold confA
  go_enter Try.func14, Try.ntmps14
  go_wp2_with (with_reducible refine wpList_box_tab (o := ⟨some 3, _, _, _, _, _⟩) rfl 23 _ rfl 13 (confV c) rfl ?_)
  intro w1 hb1 hbel1 hsz1
  go_wp2_with (first
    | (with_reducible refine wpList_load_tab (o := ⟨some 8, _, _, _, _, _⟩) rfl 23 _ rfl w.heap.size 23 rfl 13 (confV c) _ hb1 rfl rfl (by kernel_rfl) ?_)
    | (go_at_call 16; refine (New_any' c hm _).mono ?_; rintro e w2 ⟨g, gr, rfl, hst, hbel, hg1, hg2⟩)
    | (go_at_call 17; refine (Write_any g gr c k hk hc { data := #[] } s hs2 0 0 _ hst (Looked.new k hk _)).mono ?_; rw [HES.out]; rintro e w3 ⟨v, cs, r, a3, b3, l3, rfl, hcuts, hz, hown, hst3, hrest, hkeep⟩; have hsz3 := hkeep.size; have hgl := hst.1.lt; have hrl := hst.2.1.lt; have hlen := hcuts.len)
    | (go_at_call 20; refine (End_gen g gr c r (by omega) a3 b3 l3 _ hst3).mono ?_; rintro e w4 ⟨v4, rfl, hends, hkeep4⟩; have hsz4 := hkeep4.size; have hown4 := owns_keep hown hkeep4 hgl hrl; rcases hends with ⟨h0, rfl⟩ | ⟨h0, g4, rfl, hb4⟩)
    | (at_builtin; refine wpList_append_nil _ rfl _ _ 29 rfl w2.heap.size 9 (.string { data := #[] }) 16 Try.underlying29 (by kernel_rfl) _ cs.length _ rfl hown4 rfl ?_)
    | (at_builtin; refine wpList_append_row1 _ rfl _ _ 29 rfl w2.heap.size 9 (.string { data := #[] }) 16 Try.underlying29 (by kernel_rfl) rfl _ cs.length _ rfl hown4 (.string r) rfl g4 hb4 rfl (by unfold maxLen; omega) (by omega) (by omega) ?_; intro v' w5 hown5 hbel5))
  all_goals
    go_ret
    have hsz2 := hbel.size
    have hbl : Below w.heap.size w w4 := (kp_step hbel1 hbel).trans ((hkeep.below (C := w.heap.size) (by omega) (by omega) (by omega)).trans (hkeep4.below (by omega) (by omega) (by omega)))
  · refine ⟨_, cs, r, rfl, hcuts, hz, ?_, hbl⟩
    rw [show lastOf r = [] from if_pos h0, List.append_nil]
    exact owns_base hown4 (by omega)
  · refine ⟨_, cs, r, rfl, hcuts, hz, ?_, hbl.trans (hbel5.mono (by omega))⟩
    rw [show lastOf r = [r] from if_neg (by omega), List.length_append, List.map_append]
    exact owns_base hown5 (by omega)
end Go.Proofs.Ytigfioknmcjbbaa
