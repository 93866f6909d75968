/- The base texts of this claim, one behind the other. -/
import Derived.Test.YtoacohlbelfkcaaZSxb
/- Elements of several cells, one behind the other. No program is named here. -/
namespace Go.Proofs.Ytoacohlbelfkcaa
open Go.RowKit

/-- How an element is laid in cells. -/
structure Enc (α : Type) where
  enc : α → List Value
  k : Nat
  k0 : 0 < k
  len : ∀ x, (enc x).length = k
  one : ∀ x, allOne (enc x) = true
section
variable {α : Type} (E : Enc α)
def Enc.fl (l : List α) : List Value := l.flatMap E.enc
theorem Enc.fl_nil : E.fl [] = [] := rfl
theorem Enc.fl_cons (x : α) (l : List α) : E.fl (x :: l) = E.enc x ++ E.fl l := rfl
theorem Enc.fl_append (l m : List α) : E.fl (l ++ m) = E.fl l ++ E.fl m := List.flatMap_append ..
theorem Enc.fl_one (x : α) : E.fl [x] = E.enc x := by rw [E.fl_cons, E.fl_nil, List.append_nil]
theorem Enc.fl_len : ∀ l : List α, (E.fl l).length = l.length * E.k
  | [] => by rw [E.fl_nil]; simp
  | x :: l => by rw [E.fl_cons, List.length_append, E.len, Enc.fl_len l, List.length_cons, Nat.succ_mul]; omega
theorem Enc.fl_drop : ∀ (l : List α) (i : Nat), (E.fl l).drop (i * E.k) = E.fl (l.drop i)
  | l, 0 => by simp
  | [], i + 1 => by simp [Enc.fl]
  | x :: l, i + 1 => by
    rw [E.fl_cons, Nat.succ_mul, Nat.add_comm, ← List.drop_drop, show E.k = (E.enc x).length by rw [E.len], List.drop_left, E.len, List.drop_succ_cons]
    exact Enc.fl_drop l i
theorem Enc.fl_take : ∀ (l : List α) (i : Nat), (E.fl l).take (i * E.k) = E.fl (l.take i)
  | l, 0 => by simp [Enc.fl]
  | [], i + 1 => by simp [Enc.fl]
  | x :: l, i + 1 => by
    rw [E.fl_cons, Nat.succ_mul, Nat.add_comm, List.take_add, List.take_left' (E.len x), List.drop_left' (E.len x), List.take_succ_cons, E.fl_cons, Enc.fl_take l i]
theorem Enc.fl_at {l : List α} {i : Nat} {x : α} (h : l[i]? = some x) : ((E.fl l).drop (i * E.k)).take E.k = E.enc x := by
  have hi := (List.getElem?_eq_some_iff.1 h)
  obtain ⟨hl, hx⟩ := hi
  rw [E.fl_drop, List.drop_eq_getElem_cons hl, hx, E.fl_cons, List.take_left' (E.len x)]
theorem Enc.fl_cell {l : List α} {i j : Nat} {x : α} {v : Value} (h : l[i]? = some x) (hj : (E.enc x)[j]? = some v) : (E.fl l)[i * E.k + j]? = some v := by
  have hlt := (List.getElem?_eq_some_iff.1 hj).1
  rw [E.len] at hlt
  rw [← E.fl_at h, List.getElem?_take, if_pos hlt, List.getElem?_drop] at hj
  exact hj
theorem Enc.fl_snoc {l : List α} {i : Nat} {x : α} (h : l[i]? = some x) : E.fl (l.take (i + 1)) = E.fl (l.take i) ++ E.enc x := by
  rw [List.take_add_one, h]
  show E.fl (l.take i ++ [x]) = _
  rw [E.fl_append, E.fl_one]
theorem Enc.fl_set {l : List α} {i : Nat} {x : α} (h : i < l.length) : splice (i * E.k) (E.enc x) (E.fl l) = E.fl (l.set i x) := by
  unfold splice
  rw [E.fl_take, E.len, ← Nat.succ_mul, E.fl_drop, List.set_eq_take_append_cons_drop, if_pos h, E.fl_append, E.fl_cons, List.append_assoc]
theorem Enc.allOne_app : ∀ {a b : List Value}, allOne a = true → allOne b = true → allOne (a ++ b) = true
  | [], b, _, h => h
  | x :: a, b, h, k => by
    simp only [allOne, Bool.and_eq_true, List.cons_append] at h ⊢
    exact ⟨h.1, Enc.allOne_app h.2 k⟩
theorem Enc.fl_allOne : ∀ l : List α, allOne (E.fl l) = true
  | [] => rfl
  | x :: l => by rw [E.fl_cons]; exact Enc.allOne_app (E.one x) (Enc.fl_allOne l)
theorem Enc.fl_inj (hi : ∀ x y, E.enc x = E.enc y → x = y) : ∀ {l m : List α}, E.fl l = E.fl m → l = m
  | [], [], _ => rfl
  | [], y :: m, h => by
    exact absurd (congrArg List.length h) (by rw [E.fl_len, E.fl_len]; have h0 := E.k0; have h1 := Nat.mul_pos (show 0 < m.length + 1 by omega) h0; simp only [List.length_nil, List.length_cons, Nat.zero_mul]; omega)
  | x :: l, [], h => by
    exact absurd (congrArg List.length h) (by rw [E.fl_len, E.fl_len]; have h0 := E.k0; have h1 := Nat.mul_pos (show 0 < l.length + 1 by omega) h0; simp only [List.length_nil, List.length_cons, Nat.zero_mul]; omega)
  | x :: l, y :: m, h => by
    rw [E.fl_cons, E.fl_cons] at h
    obtain ⟨h1, h2⟩ := List.append_inj h (by rw [E.len, E.len])
    rw [hi x y h1, Enc.fl_inj hi h2]
theorem Enc.fl_sub {l : List α} (h : l.length * E.k ≤ maxLen) : (E.fl l).length ≤ maxLen := by rw [E.fl_len]; exact h
theorem Enc.fl_ne {l : List α} (h : 0 < l.length) : 0 < (E.fl l).length := by rw [E.fl_len]; exact Nat.mul_pos h E.k0
end
theorem allOne_zeros {z : List Value} (h : allOne z = true) : ∀ n, allOne (zerosL z n) = true
  | 0 => rfl
  | n + 1 => Enc.allOne_app h (allOne_zeros h n)
/-- An element laid over a block of its own. -/
theorem SxSt.elem {α : Type} (E : Enc α) {x : α} {H : Hp} {g e : Nat} {cs : List Value} {A : Hp → Prop} (p : Nat) (hp : H[p]? = some (.blk g e cs)) (hl : cs.length = E.k) (h : A (H.set p (.blk g e (E.enc x)))) : SxP ((E.enc x).toArray.size = E.k) (SxSt H g 0 (E.enc x) A) := by
  have hx := E.len x
  refine SxP.mk (by rw [List.size_toArray]; exact hx) (SxSt.blk p hp (by rw [Nat.ble_eq]; omega) (E.one x) ?_ h)
  unfold splice
  rw [Nat.zero_add, hx, List.take_zero, List.nil_append, List.drop_of_length_le (by omega), List.append_nil]
/-- []T{x}. -/
theorem SxFill.one {z vs : List Value} {k : Nat} {A : List Value → Prop} (hz : z.length = k) (hv : vs.length = k) (h : A vs) : SxFill (fun j => some (j * k, k)) (zerosL z 1) [(0, vs)] A := by
  have hl : (zerosL z 1).length = k := by rw [zerosL_length, hz, Nat.one_mul]
  refine ⟨⟨⟨hv, by rw [hl]; omega⟩, trivial⟩, ?_, h⟩
  show some (splice (0 * k) vs (zerosL z 1)) = some vs
  unfold splice
  rw [Nat.zero_mul, List.take_zero, List.nil_append, Nat.zero_add, hv, List.drop_of_length_le (by omega), List.append_nil]
theorem Rd.of_len {w : World} {ao : Option Addr} {xs : List Value} (h : Rd w ao xs) : xs.length ≤ maxLen := h.1
end Go.Proofs.Ytoacohlbelfkcaa
/- A call's own row: shortened, cleared; neighbours that are alike, struck out. No program is named here. -/
namespace Go.Proofs.Ytoacohlbelfkcaa
open Go.RowKit

theorem take_snocE {α : Type} {l : List α} {k : Nat} {x : α} (h : l[k]? = some x) : l.take (k + 1) = l.take k ++ [x] := by rw [List.take_add_one, h]; rfl
theorem snoc_ind {α : Type} {P : List α → Prop} (h0 : P []) (h1 : ∀ l x, P l → P (l ++ [x])) (l : List α) : P l := by
  have h : ∀ r : List α, P r.reverse := by
    intro r
    induction r with
    | nil => exact h0
    | cons x r ih => rw [List.reverse_cons]; exact h1 _ _ ih
  have := h l.reverse
  rwa [List.reverse_reverse] at this
section
variable {α : Type} [DecidableEq α]
/-- Of neighbours that are alike, the first. -/
def dd : List α → List α
  | [] => []
  | [x] => [x]
  | x :: y :: r => if x = y then dd (y :: r) else x :: dd (y :: r)
theorem dd_snoc (a x : α) : ∀ p : List α, dd (p ++ [a] ++ [x]) = if a = x then dd (p ++ [a]) else dd (p ++ [a]) ++ [x]
  | [] => by
    show dd [a, x] = if a = x then dd [a] else dd [a] ++ [x]
    unfold dd
    by_cases h : a = x
    · rw [if_pos h, if_pos h, h]; rfl
    · rw [if_neg h, if_neg h]; rfl
  | [b] => by
    show dd (b :: a :: [x]) = if a = x then dd [b, a] else dd [b, a] ++ [x]
    simp only [dd]
    by_cases h : b = a <;> by_cases h2 : a = x <;> simp [h, h2]
  | b :: c :: p => by
    have ih := dd_snoc a x (c :: p)
    show dd (b :: c :: (p ++ [a] ++ [x])) = if a = x then dd (b :: c :: (p ++ [a])) else dd (b :: c :: (p ++ [a])) ++ [x]
    rw [dd, dd]
    rw [show c :: p ++ [a] ++ [x] = c :: (p ++ [a] ++ [x]) from rfl, show c :: p ++ [a] = c :: (p ++ [a]) from rfl] at ih
    rw [ih]
    by_cases h : b = c <;> by_cases h2 : a = x <;> simp [h, h2]
theorem dd_take {l : List α} {k : Nat} {a x : α} (ha : l[k]? = some a) (hx : l[k + 1]? = some x) : dd (l.take (k + 2)) = if a = x then dd (l.take (k + 1)) else dd (l.take (k + 1)) ++ [x] := by
  have h1 : l.take (k + 1) = l.take k ++ [a] := by rw [List.take_add_one, ha]; rfl
  have h2 : l.take (k + 2) = l.take k ++ [a] ++ [x] := by rw [show k + 2 = k + 1 + 1 from rfl, List.take_add_one, hx, h1]; rfl
  rw [h2, dd_snoc, h1]
theorem dd_len : ∀ l : List α, (dd l).length ≤ l.length
  | [] => Nat.le_refl _
  | [x] => Nat.le_refl _
  | x :: y :: r => by
    have := dd_len (y :: r)
    rw [dd]
    split
    · simp only [List.length_cons] at this ⊢; omega
    · simp only [List.length_cons] at this ⊢; omega
theorem dd_mem {z : α} : ∀ {l : List α}, z ∈ dd l ↔ z ∈ l
  | [] => Iff.rfl
  | [x] => Iff.rfl
  | x :: y :: r => by
    have ih := dd_mem (z := z) (l := y :: r)
    rw [dd]
    split
    · rename_i h; subst h; rw [ih]; simp
    · rw [List.mem_cons, ih]; simp
theorem dd_head (x : α) : ∀ r : List α, ∃ t, dd (x :: r) = x :: t
  | [] => ⟨[], rfl⟩
  | y :: r => by
    rw [dd]
    split
    · rename_i h; subst h; exact dd_head x r
    · exact ⟨_, rfl⟩
end
section
variable {S : Sx} {W : World} {M : List Nat} {N : Nat} {F : Fr} {H : Hp} {w : World}
theorem setH_get {H : Hp} {p : Nat} {e x : Ent} (h : H[p]? = some x) : (H.set p e)[p]? = some e := by
  have := (List.getElem?_eq_some_iff.1 h).1
  rw [List.getElem?_set_self this]
theorem setH_set (H : Hp) (p : Nat) (a b : Ent) : (H.set p a).set p b = H.set p b := List.set_set ..
theorem setH_same {H : Hp} {p : Nat} {e : Ent} (h : H[p]? = some e) : H.set p e = H := by
  obtain ⟨hl, he⟩ := List.getElem?_eq_some_iff.1 h
  apply List.ext_getElem?
  intro i
  rw [List.getElem?_set]
  by_cases hi : p = i
  · subst hi; rw [if_pos rfl, if_pos hl, h]
  · rw [if_neg hi]
theorem own_cut {w : World} {e k n m cap : Nat} {ao : Option Addr} {cs : List Value} (h : w.ownsRow 0 e k (.slice ao n cap) n cs) (hm : m ≤ n) : w.ownsRow 0 e k (.slice ao m cap) m (cs.take (m * k)) := by
  have hl := h.1
  have hmk : m * k ≤ n * k := Nat.mul_le_mul_right _ hm
  refine ⟨by rw [List.length_take]; omega, ?_⟩
  rcases h.2 with ⟨h1, h2⟩ | ⟨g, c, cur, hv, hb, hh, hnc, hcm, hs, ht⟩
  · subst h2
    obtain rfl : m = 0 := by omega
    exact .inl ⟨h1, rfl⟩
  · simp only [Value.slice.injEq, true_and] at hv
    obtain ⟨rfl, rfl⟩ := hv
    refine .inr ⟨g, cap, cur, rfl, hb, hh, by omega, hcm, hs, ?_⟩
    rw [← ht, List.take_take, Nat.min_eq_left hmk]
theorem grown_refl (w : World) (r : Option Nat) : w.grownBy w r := ⟨rfl, rfl, rfl, Nat.le_refl _, fun _ _ _ => rfl⟩
theorem Sat.cut (hs : Sat W M H w) {p e k n m cap : Nat} {ao : Option Addr} {cs : List Value} (hp : H[p]? = some (.row ao n cap e k cs)) (hm : m ≤ n) : Sat W M (H.set p (.row ao m cap e k (cs.take (m * k)))) w :=
  hs.set hp (grown_refl w _) (own_cut (hs.row p hp) hm) fun g hg => .inl hg
theorem NewRow.base {w w' : World} {ao : Option Addr} {n cap e k : Nat} {cs : List Value} (h : NewRow w w' ao n cap e k cs) : (0 < n → ∃ g, ao = some ⟨g, 0, none⟩) ∧ n ≤ cap := by
  rcases h.owns.2 with ⟨_, h2⟩ | ⟨g, c, cur, hv, _, _, hnc, _⟩
  · exact ⟨fun h => by omega, by omega⟩
  · simp only [Value.slice.injEq, true_and] at hv
    obtain ⟨rfl, rfl⟩ := hv
    exact ⟨fun _ => ⟨g, rfl⟩, hnc⟩
/-- A call that makes a row; where it lies. -/
theorem SxCall.newRowB {f : Nat} {args : Array Value} {A : Value → Hp → Prop} {v : Option Addr → Nat → Value} {n e k : Nat} {cs : List Value}
    (hc : ∀ w, Sat W M H w → Calls S.P f args w fun en w' => ∃ ao cap, en = .returned (v ao cap) ∧ NewRow w w' ao n cap e k cs) (h : ∀ ao cap, (0 < n → ∃ g, ao = some ⟨g, 0, none⟩) → n ≤ cap → A (v ao cap) (.row ao n cap e k cs :: H)) : SxCall S W M f args H A :=
  ⟨fun w hs => (hc w hs).mono fun _ _ he => by
    obtain ⟨ao, cap, h1, h2⟩ := he
    exact ⟨_, _, h1, hs.addNew h2, h ao cap h2.base.1 h2.base.2⟩⟩
/-- Some of the cells that are read. -/
theorem Rd.sub {w : World} {ao ao' : Option Addr} {cs : List Value} (h : Rd w ao cs) (off m : Nat) (ha : off < cs.length → ao' = ao.map (·.add off)) : Rd w ao' ((cs.drop off).take m) := by
  refine ⟨by rw [List.length_take, List.length_drop]; have := h.1; omega, fun hn => ?_⟩
  rw [List.length_take, List.length_drop] at hn
  obtain ⟨g, o, rfl, hg, hc⟩ := h.2 (by omega)
  rw [Option.map_some, Addr.add_lit] at ha
  refine ⟨g, o + off, ha (by omega), hg, fun j hj => ?_⟩
  rw [List.length_take, List.length_drop] at hj
  rw [List.getElem?_take, if_pos (by omega), List.getElem?_drop, Nat.add_assoc]
  exact hc (off + j) (by omega)
/-- A row of which nothing is written any more. -/
theorem Weak.read {H : Hp} {p : Nat} {ao : Option Addr} {n cap e k : Nat} {cs : List Value} (hp : H[p]? = some (.row ao n cap e k cs)) (hm : cs.length ≤ maxLen) : Weak H (H.set p (.rd ao cs)) := fun W M w hs =>
  hs.set hp (grown_refl w _) (e' := .rd ao cs) (hs.rowRd p hp hm) fun g hg => .inl hg.2
theorem Weak.cut {H : Hp} {p m : Nat} {ao : Option Addr} {n cap e k : Nat} {cs : List Value} (hp : H[p]? = some (.row ao n cap e k cs)) (hm : m ≤ n) : Weak H (H.set p (.row ao m cap e k (cs.take (m * k)))) := fun _ _ _ hs => hs.cut hp hm
theorem Weak.refl (H : Hp) : Weak H H := fun _ _ _ hs => hs
theorem Row.base {w : World} {ao : Option Addr} {n cap e k : Nat} {cs : List Value} (h : w.ownsRow 0 e k (.slice ao n cap) n cs) : (0 < n → ∃ g, ao = some ⟨g, 0, none⟩) ∧ n ≤ cap := by
  rcases h.2 with ⟨_, h2⟩ | ⟨g, c, cur, hv, _, _, hnc, _⟩
  · exact ⟨fun h => by omega, by omega⟩
  · simp only [Value.slice.injEq, true_and] at hv
    obtain ⟨rfl, rfl⟩ := hv
    exact ⟨fun _ => ⟨g, rfl⟩, hnc⟩
/-- What memory says of numbers and places. -/
theorem SxCode.fact {c : Code} {Q : Exit → Fr → Hp → Prop} {P : Prop} (hP : ∀ w, Sat W M H w → P) (h : P → SxCode S W M N c Q F H) : SxCode S W M N c Q F H :=
  ⟨fun a w ha hs => by cases h (hP w hs) with | mk h => exact h a w ha hs⟩
theorem sx_fact {x y : Code} {Q : Exit → Fr → Hp → Prop} {P : Prop} (hP : ∀ w, Sat W M H w → P) (h : P → sx S W M N (.seq x y) Q F H) : sx S W M N (.seq x y) Q F H := by
  unfold sx
  exact .inr ⟨fun a w ha hs => sx_sound _ _ _ _ (h (hP w hs)) a w ha hs⟩
/-- Where a row lies. -/
theorem sx_base {x y : Code} {Q : Exit → Fr → Hp → Prop} (p : Nat) {ao : Option Addr} {n cap e k : Nat} {cs : List Value} (hp : H[p]? = some (.row ao n cap e k cs)) (h : (0 < n → ∃ g, ao = some ⟨g, 0, none⟩) → n ≤ cap → sx S W M N (.seq x y) Q F H) : sx S W M N (.seq x y) Q F H :=
  sx_fact (fun w hs => Row.base (hs.row p hp)) fun hh => h hh.1 hh.2
theorem sx_weaken {x y : Code} {Q : Exit → Fr → Hp → Prop} {H' : Hp} (hw : Weak H H') (h : sx S W M N (.seq x y) Q F H') : sx S W M N (.seq x y) Q F H := by
  unfold sx
  exact .inr ⟨fun a w ha hs => sx_sound _ _ _ _ h a w ha (hw _ _ _ hs)⟩
/-- clear(s), s a slice. -/
theorem SxSem.clear {o : Oper} {A : Value → Hp → Prop} {t e : Nat} {x : Operand} {tys : Array TypeId} {i : TInf} {ao : Option Addr} {n cap : Nat} (hop : o.op = .call ⟨.builtin .clear, #[x], tys⟩) (hty : tys[0]? = some t) (ht : S.P.underlying t = some (.slice e)) (hx : ev F x = some (.slice ao n cap)) (hi : tl S.T e = some i) (hz : i.zero.cells.size = i.size) (hk : 0 < i.size)
    (h : (n = 0 → A (.tuple #[]) H) ∧ (0 < n → ∃ g off, ao = some ⟨g, off, none⟩ ∧ SxSt H g off (zerosL i.zero.cells.toList n) fun H' => A (.tuple #[]) H')) : SxSem S W M N o F H A := by
  refine ⟨fun a w Q ha hs => ?_⟩
  obtain ⟨op, dst, ty, pos, after, guard⟩ := o
  simp only at hop
  subst hop
  rcases Nat.eq_zero_or_pos n with h0 | h0
  · subst h0
    refine op_value (w' := w) ?_ hs (h.1 rfl)
    cases ao <;> simp [execOp, resolve, invoke, builtin, Builtin.clear_, hty, ev_eval ha hx, run_underlying ht]
  · obtain ⟨g, off, rfl, hst⟩ := h.2 h0
    obtain ⟨w', H', hr, hs', hA⟩ := hst.get (P := S.P) hs
    obtain ⟨m, rfl⟩ : ∃ m, n = m + 1 := ⟨n - 1, by omega⟩
    have hzr : (zeroValue e).run S.P w = .ok i.zero w := run_zero hi w
    have hm : (Builtin.zeroCells i.zero.cells (m + 1)).toList = zerosL i.zero.cells.toList (m + 1) := by
      have := made_zeros i.zero.cells i.size (m + 1) hz hk
      rw [← hz] at this
      unfold Builtin.zeroCells
      rw [this]
    refine op_value (w' := w') ?_ hs' hA
    simp [execOp, resolve, invoke, builtin, Builtin.clear_, hty, ev_eval ha hx, run_underlying ht, hzr, hm, hr]
end
end Go.Proofs.Ytoacohlbelfkcaa
