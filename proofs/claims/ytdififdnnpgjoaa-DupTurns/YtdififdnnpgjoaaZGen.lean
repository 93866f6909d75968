/- The base texts of this claim, one behind the other. -/
import Derived.Test.YtdififdnnpgjoaaZSxb
import Derived.Test.YtdififdnnpgjoaaZMono
import Derived.Shelf.SlSortCmp.NoneTotal
/- Elements of several cells, one behind the other. No program is named here. -/
namespace Go.Proofs.Ytdififdnnpgjoaa
open Go.RowKit

/-- How an element is laid in cells. -/
structure Enc (α : Type) where
  enc : α → List Value
  k : Nat
  k0 : 0 < k
  len : ∀ x, (enc x).length = k
  one : ∀ x, allOne (enc x) = true
section
variable {α : Type} (E : Enc α)
def Enc.fl (l : List α) : List Value := l.flatMap E.enc
theorem Enc.fl_nil : E.fl [] = [] := rfl
theorem Enc.fl_cons (x : α) (l : List α) : E.fl (x :: l) = E.enc x ++ E.fl l := rfl
theorem Enc.fl_append (l m : List α) : E.fl (l ++ m) = E.fl l ++ E.fl m := List.flatMap_append ..
theorem Enc.fl_one (x : α) : E.fl [x] = E.enc x := by rw [E.fl_cons, E.fl_nil, List.append_nil]
theorem Enc.fl_len : ∀ l : List α, (E.fl l).length = l.length * E.k
  | [] => by rw [E.fl_nil]; simp
  | x :: l => by rw [E.fl_cons, List.length_append, E.len, Enc.fl_len l, List.length_cons, Nat.succ_mul]; omega
theorem Enc.fl_drop : ∀ (l : List α) (i : Nat), (E.fl l).drop (i * E.k) = E.fl (l.drop i)
  | l, 0 => by simp
  | [], i + 1 => by simp [Enc.fl]
  | x :: l, i + 1 => by
    rw [E.fl_cons, Nat.succ_mul, Nat.add_comm, ← List.drop_drop, show E.k = (E.enc x).length by rw [E.len], List.drop_left, E.len, List.drop_succ_cons]
    exact Enc.fl_drop l i
theorem Enc.fl_take : ∀ (l : List α) (i : Nat), (E.fl l).take (i * E.k) = E.fl (l.take i)
  | l, 0 => by simp [Enc.fl]
  | [], i + 1 => by simp [Enc.fl]
  | x :: l, i + 1 => by
    rw [E.fl_cons, Nat.succ_mul, Nat.add_comm, List.take_add, List.take_left' (E.len x), List.drop_left' (E.len x), List.take_succ_cons, E.fl_cons, Enc.fl_take l i]
theorem Enc.fl_at {l : List α} {i : Nat} {x : α} (h : l[i]? = some x) : ((E.fl l).drop (i * E.k)).take E.k = E.enc x := by
  have hi := (List.getElem?_eq_some_iff.1 h)
  obtain ⟨hl, hx⟩ := hi
  rw [E.fl_drop, List.drop_eq_getElem_cons hl, hx, E.fl_cons, List.take_left' (E.len x)]
theorem Enc.fl_cell {l : List α} {i j : Nat} {x : α} {v : Value} (h : l[i]? = some x) (hj : (E.enc x)[j]? = some v) : (E.fl l)[i * E.k + j]? = some v := by
  have hlt := (List.getElem?_eq_some_iff.1 hj).1
  rw [E.len] at hlt
  rw [← E.fl_at h, List.getElem?_take, if_pos hlt, List.getElem?_drop] at hj
  exact hj
theorem Enc.fl_snoc {l : List α} {i : Nat} {x : α} (h : l[i]? = some x) : E.fl (l.take (i + 1)) = E.fl (l.take i) ++ E.enc x := by
  rw [List.take_add_one, h]
  show E.fl (l.take i ++ [x]) = _
  rw [E.fl_append, E.fl_one]
theorem Enc.fl_set {l : List α} {i : Nat} {x : α} (h : i < l.length) : splice (i * E.k) (E.enc x) (E.fl l) = E.fl (l.set i x) := by
  unfold splice
  rw [E.fl_take, E.len, ← Nat.succ_mul, E.fl_drop, List.set_eq_take_append_cons_drop, if_pos h, E.fl_append, E.fl_cons, List.append_assoc]
theorem Enc.allOne_app : ∀ {a b : List Value}, allOne a = true → allOne b = true → allOne (a ++ b) = true
  | [], b, _, h => h
  | x :: a, b, h, k => by
    simp only [allOne, Bool.and_eq_true, List.cons_append] at h ⊢
    exact ⟨h.1, Enc.allOne_app h.2 k⟩
theorem Enc.fl_allOne : ∀ l : List α, allOne (E.fl l) = true
  | [] => rfl
  | x :: l => by rw [E.fl_cons]; exact Enc.allOne_app (E.one x) (Enc.fl_allOne l)
theorem Enc.fl_inj (hi : ∀ x y, E.enc x = E.enc y → x = y) : ∀ {l m : List α}, E.fl l = E.fl m → l = m
  | [], [], _ => rfl
  | [], y :: m, h => by
    exact absurd (congrArg List.length h) (by rw [E.fl_len, E.fl_len]; have h0 := E.k0; have h1 := Nat.mul_pos (show 0 < m.length + 1 by omega) h0; simp only [List.length_nil, List.length_cons, Nat.zero_mul]; omega)
  | x :: l, [], h => by
    exact absurd (congrArg List.length h) (by rw [E.fl_len, E.fl_len]; have h0 := E.k0; have h1 := Nat.mul_pos (show 0 < l.length + 1 by omega) h0; simp only [List.length_nil, List.length_cons, Nat.zero_mul]; omega)
  | x :: l, y :: m, h => by
    rw [E.fl_cons, E.fl_cons] at h
    obtain ⟨h1, h2⟩ := List.append_inj h (by rw [E.len, E.len])
    rw [hi x y h1, Enc.fl_inj hi h2]
theorem Enc.fl_sub {l : List α} (h : l.length * E.k ≤ maxLen) : (E.fl l).length ≤ maxLen := by rw [E.fl_len]; exact h
theorem Enc.fl_ne {l : List α} (h : 0 < l.length) : 0 < (E.fl l).length := by rw [E.fl_len]; exact Nat.mul_pos h E.k0
end
theorem allOne_zeros {z : List Value} (h : allOne z = true) : ∀ n, allOne (zerosL z n) = true
  | 0 => rfl
  | n + 1 => Enc.allOne_app h (allOne_zeros h n)
/-- An element laid over a block of its own. -/
theorem SxSt.elem {α : Type} (E : Enc α) {x : α} {H : Hp} {g e : Nat} {cs : List Value} {A : Hp → Prop} (p : Nat) (hp : H[p]? = some (.blk g e cs)) (hl : cs.length = E.k) (h : A (H.set p (.blk g e (E.enc x)))) : SxP ((E.enc x).toArray.size = E.k) (SxSt H g 0 (E.enc x) A) := by
  have hx := E.len x
  refine SxP.mk (by rw [List.size_toArray]; exact hx) (SxSt.blk p hp (by rw [Nat.ble_eq]; omega) (E.one x) ?_ h)
  unfold splice
  rw [Nat.zero_add, hx, List.take_zero, List.nil_append, List.drop_of_length_le (by omega), List.append_nil]
/-- []T{x}. -/
theorem SxFill.one {z vs : List Value} {k : Nat} {A : List Value → Prop} (hz : z.length = k) (hv : vs.length = k) (h : A vs) : SxFill (fun j => some (j * k, k)) (zerosL z 1) [(0, vs)] A := by
  have hl : (zerosL z 1).length = k := by rw [zerosL_length, hz, Nat.one_mul]
  refine ⟨⟨⟨hv, by rw [hl]; omega⟩, trivial⟩, ?_, h⟩
  show some (splice (0 * k) vs (zerosL z 1)) = some vs
  unfold splice
  rw [Nat.zero_mul, List.take_zero, List.nil_append, Nat.zero_add, hv, List.drop_of_length_le (by omega), List.append_nil]
theorem Rd.of_len {w : World} {ao : Option Addr} {xs : List Value} (h : Rd w ao xs) : xs.length ≤ maxLen := h.1
end Go.Proofs.Ytdififdnnpgjoaa
/- A call's own row: shortened, cleared; neighbours that are alike, struck out. No program is named here. -/
namespace Go.Proofs.Ytdififdnnpgjoaa
open Go.RowKit

theorem take_snocE {α : Type} {l : List α} {k : Nat} {x : α} (h : l[k]? = some x) : l.take (k + 1) = l.take k ++ [x] := by rw [List.take_add_one, h]; rfl
theorem snoc_ind {α : Type} {P : List α → Prop} (h0 : P []) (h1 : ∀ l x, P l → P (l ++ [x])) (l : List α) : P l := by
  have h : ∀ r : List α, P r.reverse := by
    intro r
    induction r with
    | nil => exact h0
    | cons x r ih => rw [List.reverse_cons]; exact h1 _ _ ih
  have := h l.reverse
  rwa [List.reverse_reverse] at this
section
variable {α : Type} [DecidableEq α]
/-- Of neighbours that are alike, the first. -/
def dd : List α → List α
  | [] => []
  | [x] => [x]
  | x :: y :: r => if x = y then dd (y :: r) else x :: dd (y :: r)
theorem dd_snoc (a x : α) : ∀ p : List α, dd (p ++ [a] ++ [x]) = if a = x then dd (p ++ [a]) else dd (p ++ [a]) ++ [x]
  | [] => by
    show dd [a, x] = if a = x then dd [a] else dd [a] ++ [x]
    unfold dd
    by_cases h : a = x
    · rw [if_pos h, if_pos h, h]; rfl
    · rw [if_neg h, if_neg h]; rfl
  | [b] => by
    show dd (b :: a :: [x]) = if a = x then dd [b, a] else dd [b, a] ++ [x]
    simp only [dd]
    by_cases h : b = a <;> by_cases h2 : a = x <;> simp [h, h2]
  | b :: c :: p => by
    have ih := dd_snoc a x (c :: p)
    show dd (b :: c :: (p ++ [a] ++ [x])) = if a = x then dd (b :: c :: (p ++ [a])) else dd (b :: c :: (p ++ [a])) ++ [x]
    rw [dd, dd]
    rw [show c :: p ++ [a] ++ [x] = c :: (p ++ [a] ++ [x]) from rfl, show c :: p ++ [a] = c :: (p ++ [a]) from rfl] at ih
    rw [ih]
    by_cases h : b = c <;> by_cases h2 : a = x <;> simp [h, h2]
theorem dd_take {l : List α} {k : Nat} {a x : α} (ha : l[k]? = some a) (hx : l[k + 1]? = some x) : dd (l.take (k + 2)) = if a = x then dd (l.take (k + 1)) else dd (l.take (k + 1)) ++ [x] := by
  have h1 : l.take (k + 1) = l.take k ++ [a] := by rw [List.take_add_one, ha]; rfl
  have h2 : l.take (k + 2) = l.take k ++ [a] ++ [x] := by rw [show k + 2 = k + 1 + 1 from rfl, List.take_add_one, hx, h1]; rfl
  rw [h2, dd_snoc, h1]
theorem dd_len : ∀ l : List α, (dd l).length ≤ l.length
  | [] => Nat.le_refl _
  | [x] => Nat.le_refl _
  | x :: y :: r => by
    have := dd_len (y :: r)
    rw [dd]
    split
    · simp only [List.length_cons] at this ⊢; omega
    · simp only [List.length_cons] at this ⊢; omega
theorem dd_mem {z : α} : ∀ {l : List α}, z ∈ dd l ↔ z ∈ l
  | [] => Iff.rfl
  | [x] => Iff.rfl
  | x :: y :: r => by
    have ih := dd_mem (z := z) (l := y :: r)
    rw [dd]
    split
    · rename_i h; subst h; rw [ih]; simp
    · rw [List.mem_cons, ih]; simp
theorem dd_head (x : α) : ∀ r : List α, ∃ t, dd (x :: r) = x :: t
  | [] => ⟨[], rfl⟩
  | y :: r => by
    rw [dd]
    split
    · rename_i h; subst h; exact dd_head x r
    · exact ⟨_, rfl⟩
end
section
variable {S : Sx} {W : World} {M : List Nat} {N : Nat} {F : Fr} {H : Hp} {w : World}
theorem setH_get {H : Hp} {p : Nat} {e x : Ent} (h : H[p]? = some x) : (H.set p e)[p]? = some e := by
  have := (List.getElem?_eq_some_iff.1 h).1
  rw [List.getElem?_set_self this]
theorem setH_set (H : Hp) (p : Nat) (a b : Ent) : (H.set p a).set p b = H.set p b := List.set_set ..
theorem setH_same {H : Hp} {p : Nat} {e : Ent} (h : H[p]? = some e) : H.set p e = H := by
  obtain ⟨hl, he⟩ := List.getElem?_eq_some_iff.1 h
  apply List.ext_getElem?
  intro i
  rw [List.getElem?_set]
  by_cases hi : p = i
  · subst hi; rw [if_pos rfl, if_pos hl, h]
  · rw [if_neg hi]
theorem own_cut {w : World} {e k n m cap : Nat} {ao : Option Addr} {cs : List Value} (h : w.ownsRow 0 e k (.slice ao n cap) n cs) (hm : m ≤ n) : w.ownsRow 0 e k (.slice ao m cap) m (cs.take (m * k)) := by
  have hl := h.1
  have hmk : m * k ≤ n * k := Nat.mul_le_mul_right _ hm
  refine ⟨by rw [List.length_take]; omega, ?_⟩
  rcases h.2 with ⟨h1, h2⟩ | ⟨g, c, cur, hv, hb, hh, hnc, hcm, hs, ht⟩
  · subst h2
    obtain rfl : m = 0 := by omega
    exact .inl ⟨h1, rfl⟩
  · simp only [Value.slice.injEq, true_and] at hv
    obtain ⟨rfl, rfl⟩ := hv
    refine .inr ⟨g, cap, cur, rfl, hb, hh, by omega, hcm, hs, ?_⟩
    rw [← ht, List.take_take, Nat.min_eq_left hmk]
theorem grown_refl (w : World) (r : Option Nat) : w.grownBy w r := ⟨rfl, rfl, rfl, Nat.le_refl _, fun _ _ _ => rfl⟩
theorem Sat.cut (hs : Sat W M H w) {p e k n m cap : Nat} {ao : Option Addr} {cs : List Value} (hp : H[p]? = some (.row ao n cap e k cs)) (hm : m ≤ n) : Sat W M (H.set p (.row ao m cap e k (cs.take (m * k)))) w :=
  hs.set hp (grown_refl w _) (own_cut (hs.row p hp) hm) fun g hg => .inl hg
theorem NewRow.base {w w' : World} {ao : Option Addr} {n cap e k : Nat} {cs : List Value} (h : NewRow w w' ao n cap e k cs) : (0 < n → ∃ g, ao = some ⟨g, 0, none⟩) ∧ n ≤ cap := by
  rcases h.owns.2 with ⟨_, h2⟩ | ⟨g, c, cur, hv, _, _, hnc, _⟩
  · exact ⟨fun h => by omega, by omega⟩
  · simp only [Value.slice.injEq, true_and] at hv
    obtain ⟨rfl, rfl⟩ := hv
    exact ⟨fun _ => ⟨g, rfl⟩, hnc⟩
/-- A call that makes a row; where it lies. -/
theorem SxCall.newRowB {f : Nat} {args : Array Value} {A : Value → Hp → Prop} {v : Option Addr → Nat → Value} {n e k : Nat} {cs : List Value}
    (hc : ∀ w, Sat W M H w → Calls S.P f args w fun en w' => ∃ ao cap, en = .returned (v ao cap) ∧ NewRow w w' ao n cap e k cs) (h : ∀ ao cap, (0 < n → ∃ g, ao = some ⟨g, 0, none⟩) → n ≤ cap → A (v ao cap) (.row ao n cap e k cs :: H)) : SxCall S W M f args H A :=
  ⟨fun w hs => (hc w hs).mono fun _ _ he => by
    obtain ⟨ao, cap, h1, h2⟩ := he
    exact ⟨_, _, h1, hs.addNew h2, h ao cap h2.base.1 h2.base.2⟩⟩
/-- Some of the cells that are read. -/
theorem Rd.sub {w : World} {ao ao' : Option Addr} {cs : List Value} (h : Rd w ao cs) (off m : Nat) (ha : off < cs.length → ao' = ao.map (·.add off)) : Rd w ao' ((cs.drop off).take m) := by
  refine ⟨by rw [List.length_take, List.length_drop]; have := h.1; omega, fun hn => ?_⟩
  rw [List.length_take, List.length_drop] at hn
  obtain ⟨g, o, rfl, hg, hc⟩ := h.2 (by omega)
  rw [Option.map_some, Addr.add_lit] at ha
  refine ⟨g, o + off, ha (by omega), hg, fun j hj => ?_⟩
  rw [List.length_take, List.length_drop] at hj
  rw [List.getElem?_take, if_pos (by omega), List.getElem?_drop, Nat.add_assoc]
  exact hc (off + j) (by omega)
/-- A row of which nothing is written any more. -/
theorem Weak.read {H : Hp} {p : Nat} {ao : Option Addr} {n cap e k : Nat} {cs : List Value} (hp : H[p]? = some (.row ao n cap e k cs)) (hm : cs.length ≤ maxLen) : Weak H (H.set p (.rd ao cs)) := fun W M w hs =>
  hs.set hp (grown_refl w _) (e' := .rd ao cs) (hs.rowRd p hp hm) fun g hg => .inl hg.2
theorem Weak.cut {H : Hp} {p m : Nat} {ao : Option Addr} {n cap e k : Nat} {cs : List Value} (hp : H[p]? = some (.row ao n cap e k cs)) (hm : m ≤ n) : Weak H (H.set p (.row ao m cap e k (cs.take (m * k)))) := fun _ _ _ hs => hs.cut hp hm
theorem Weak.refl (H : Hp) : Weak H H := fun _ _ _ hs => hs
theorem Row.base {w : World} {ao : Option Addr} {n cap e k : Nat} {cs : List Value} (h : w.ownsRow 0 e k (.slice ao n cap) n cs) : (0 < n → ∃ g, ao = some ⟨g, 0, none⟩) ∧ n ≤ cap := by
  rcases h.2 with ⟨_, h2⟩ | ⟨g, c, cur, hv, _, _, hnc, _⟩
  · exact ⟨fun h => by omega, by omega⟩
  · simp only [Value.slice.injEq, true_and] at hv
    obtain ⟨rfl, rfl⟩ := hv
    exact ⟨fun _ => ⟨g, rfl⟩, hnc⟩
/-- What memory says of numbers and places. -/
theorem SxCode.fact {c : Code} {Q : Exit → Fr → Hp → Prop} {P : Prop} (hP : ∀ w, Sat W M H w → P) (h : P → SxCode S W M N c Q F H) : SxCode S W M N c Q F H :=
  ⟨fun a w ha hs => by cases h (hP w hs) with | mk h => exact h a w ha hs⟩
theorem sx_fact {x y : Code} {Q : Exit → Fr → Hp → Prop} {P : Prop} (hP : ∀ w, Sat W M H w → P) (h : P → sx S W M N (.seq x y) Q F H) : sx S W M N (.seq x y) Q F H := by
  unfold sx
  exact .inr ⟨fun a w ha hs => sx_sound _ _ _ _ (h (hP w hs)) a w ha hs⟩
/-- Where a row lies. -/
theorem sx_base {x y : Code} {Q : Exit → Fr → Hp → Prop} (p : Nat) {ao : Option Addr} {n cap e k : Nat} {cs : List Value} (hp : H[p]? = some (.row ao n cap e k cs)) (h : (0 < n → ∃ g, ao = some ⟨g, 0, none⟩) → n ≤ cap → sx S W M N (.seq x y) Q F H) : sx S W M N (.seq x y) Q F H :=
  sx_fact (fun w hs => Row.base (hs.row p hp)) fun hh => h hh.1 hh.2
theorem sx_weaken {x y : Code} {Q : Exit → Fr → Hp → Prop} {H' : Hp} (hw : Weak H H') (h : sx S W M N (.seq x y) Q F H') : sx S W M N (.seq x y) Q F H := by
  unfold sx
  exact .inr ⟨fun a w ha hs => sx_sound _ _ _ _ h a w ha (hw _ _ _ hs)⟩
/-- clear(s), s a slice. -/
theorem SxSem.clear {o : Oper} {A : Value → Hp → Prop} {t e : Nat} {x : Operand} {tys : Array TypeId} {i : TInf} {ao : Option Addr} {n cap : Nat} (hop : o.op = .call ⟨.builtin .clear, #[x], tys⟩) (hty : tys[0]? = some t) (ht : S.P.underlying t = some (.slice e)) (hx : ev F x = some (.slice ao n cap)) (hi : tl S.T e = some i) (hz : i.zero.cells.size = i.size) (hk : 0 < i.size)
    (h : (n = 0 → A (.tuple #[]) H) ∧ (0 < n → ∃ g off, ao = some ⟨g, off, none⟩ ∧ SxSt H g off (zerosL i.zero.cells.toList n) fun H' => A (.tuple #[]) H')) : SxSem S W M N o F H A := by
  refine ⟨fun a w Q ha hs => ?_⟩
  obtain ⟨op, dst, ty, pos, after, guard⟩ := o
  simp only at hop
  subst hop
  rcases Nat.eq_zero_or_pos n with h0 | h0
  · subst h0
    refine op_value (w' := w) ?_ hs (h.1 rfl)
    cases ao <;> simp [execOp, resolve, invoke, builtin, Builtin.clear_, hty, ev_eval ha hx, run_underlying ht]
  · obtain ⟨g, off, rfl, hst⟩ := h.2 h0
    obtain ⟨w', H', hr, hs', hA⟩ := hst.get (P := S.P) hs
    obtain ⟨m, rfl⟩ : ∃ m, n = m + 1 := ⟨n - 1, by omega⟩
    have hzr : (zeroValue e).run S.P w = .ok i.zero w := run_zero hi w
    have hm : (Builtin.zeroCells i.zero.cells (m + 1)).toList = zerosL i.zero.cells.toList (m + 1) := by
      have := made_zeros i.zero.cells i.size (m + 1) hz hk
      rw [← hz] at this
      unfold Builtin.zeroCells
      rw [this]
    refine op_value (w' := w') ?_ hs' hA
    simp [execOp, resolve, invoke, builtin, Builtin.clear_, hty, ev_eval ha hx, run_underlying ht, hzr, hm, hr]
end
end Go.Proofs.Ytdififdnnpgjoaa
/- slices.SortFunc over a call's own row, met in the symbolic walk. No program is named here. -/
namespace Go.Proofs.Ytdififdnnpgjoaa
open Go.RowKit Go.Sort Go.Shelf

/-- A comparison of which nothing is left open. -/
structure CmpOk {α : Type} (cf : α → α → Int) : Prop where
  swo : SWO (ltOf cf)
  tot : ∀ x y, ltOf cf x y = false → ltOf cf y x = false → x = y
theorem CmpOk.of {α : Type} {cf : α → α → Int} (lt : α → α → Prop) (h : ∀ x y, cf x y < 0 ↔ lt x y) (irr : ∀ x, ¬ lt x x) (tr : ∀ x y z, lt x y → lt y z → lt x z) (tri : ∀ x y, ¬ lt x y → ¬ lt y x → x = y) : CmpOk cf := by
  have e : ∀ x y, ltOf cf x y = true ↔ lt x y := fun x y => by unfold ltOf; rw [decide_eq_true_iff, h]
  have f : ∀ x y, ltOf cf x y = false ↔ ¬ lt x y := fun x y => by unfold ltOf; rw [decide_eq_false_iff_not, h]
  refine ⟨⟨fun x => (f x x).2 (irr x), fun x y z h1 h2 => (e x z).2 (tr x y z ((e x y).1 h1) ((e y z).1 h2)), fun x y z h1 h2 => (f x z).2 fun h3 => ?_⟩, fun x y h1 h2 => tri x y ((f x y).1 h1) ((f y x).1 h2)⟩
  have n1 := (f x y).1 h1
  have n2 := (f y z).1 h2
  by_cases h4 : lt y x
  · exact n2 (tr y x z h4 h3)
  · have := tri x y n1 h4
    subst this
    exact n2 h3
/-- In order. -/
def sorted {α : Type} (cf : α → α → Int) (l : List α) : List α := l.mergeSort fun x y => !ltOf cf y x
theorem sorted_nil {α : Type} (cf : α → α → Int) : sorted cf ([] : List α) = [] := by unfold sorted; simp
theorem sorted_perm {α : Type} (cf : α → α → Int) (l : List α) : (sorted cf l).Perm l := List.mergeSort_perm ..
theorem sorted_len {α : Type} (cf : α → α → Int) (l : List α) : (sorted cf l).length = l.length := (sorted_perm cf l).length_eq
theorem sorted_pair {α : Type} {cf : α → α → Int} (h : CmpOk cf) (l : List α) : (sorted cf l).Pairwise fun x y => ltOf cf y x = false := by
  have := List.pairwise_mergeSort (le := fun x y => !ltOf cf y x) (fun a b c h1 h2 => ?_) (fun a b => ?_) l
  · exact this.imp fun h => by simpa using h
  · simp only [Bool.not_eq_true'] at h1 h2 ⊢
    exact h.swo.ntrans c b a h2 h1
  · simp only [Bool.or_eq_true, Bool.not_eq_true']
    cases h1 : ltOf cf b a with
    | false => exact .inl rfl
    | true =>
      right
      cases h2 : ltOf cf a b with
      | false => rfl
      | true => have := h.swo.trans a b a h2 h1; rw [h.swo.irrefl] at this; cases this
theorem putRow_grown {w : World} {blk : Nat} {F : Array Value} (m : Nat) (os : Array Obj) : w.grownBy (grow (putRow id (Sort.ahead w m) blk 0 F) os) (some blk) := by
  refine ⟨rfl, rfl, rfl, ?_, fun k hk hne => ?_⟩
  · simp [grow, putRow, mapBlock, Sort.ahead]
  · show ((w.heap.modify blk _) ++ os)[k]? = w.heap[k]?
    rw [Array.getElem?_append_left (by simpa using hk), Array.getElem?_modify, if_neg (fun e => hne (by rw [e]))]
theorem drew_of_below {w w' : World} (h : Below w.heap.size w w') (hd : w.drawn ≤ w'.drawn) : ∃ q os, w' = grow (w.drewN q) os := by
  refine ⟨w'.drawn - w.drawn, w'.heap.extract w.heap.size w'.heap.size, ?_⟩
  obtain ⟨heap, tape, drawn, os, output⟩ := w
  obtain ⟨heap', tape', drawn', os', output'⟩ := w'
  obtain ⟨h1, h2, h3, h4, h5⟩ := h
  dsimp only at h1 h2 h3 h4 h5 hd
  subst h1 h2 h3
  show World.mk _ _ _ _ _ = World.mk _ _ _ _ _
  congr 1
  · show heap' = heap ++ heap'.extract heap.size heap'.size
    apply Array.ext_getElem?
    intro i
    by_cases hi : i < heap.size
    · rw [Array.getElem?_append_left hi]; exact h5 i hi
    · rw [Array.getElem?_append_right (by omega), Array.getElem?_extract]
      by_cases hj : i < heap'.size
      · rw [if_pos (by omega), show heap.size + (i - heap.size) = i by omega]
      · rw [if_neg (by omega), Array.getElem?_eq_none (by omega)]
  · show drawn' = drawn + (drawn' - drawn)
    omega
section
variable {α : Type} [Inhabited α]
theorem flatK_get (E : Enc α) (d : Array α) (j : Nat) (h : j < d.size * E.k) : (flatK E.enc E.k d)[j]? = (E.fl d.toList)[j]? := by
  have h0 := E.k0
  have hi : j / E.k < d.size := (Nat.div_lt_iff_lt_mul h0).2 h
  have hm : j % E.k < E.k := Nat.mod_lt _ h0
  have e1 : (flatK E.enc E.k d)[j]? = some (flatK E.enc E.k d)[j]! := by
    rw [getElem!_pos _ j (by rw [size_flatK]; exact h), Array.getElem?_eq_getElem (by rw [size_flatK]; exact h)]
  rw [e1, get_flatK _ _ _ _ h]
  have hx : d.toList[j / E.k]? = some d[j / E.k]! := by
    rw [Array.getElem?_toList, getElem!_pos d (j / E.k) hi, Array.getElem?_eq_getElem hi]
  have hv : (E.enc d[j / E.k]!)[j % E.k]? = some (E.enc d[j / E.k]!)[j % E.k]! := by
    have hm2 : j % E.k < (E.enc d[j / E.k]!).length := by rw [E.len]; exact hm
    rw [getElem!_pos (E.enc d[j / E.k]!) (j % E.k) hm2, List.getElem?_eq_getElem hm2]
  have := E.fl_cell hx hv
  rw [Nat.div_add_mod'] at this
  exact this.symm
theorem putRow_own (E : Enc α) {w : World} {e g n cap : Nat} {cs : List Value} (hr : w.ownsRow 0 e E.k (.slice (some ⟨g, 0, none⟩) n cap) n cs) (d : Array α) (hd : d.size = n) (m : Nat) (os : Array Obj) :
    (grow (putRow id (Sort.ahead w m) g 0 (flatK E.enc E.k d)) os).ownsRow 0 e E.k (.slice (some ⟨g, 0, none⟩) n cap) n (E.fl d.toList) := by
  refine ⟨by rw [E.fl_len, Array.length_toList, hd], .inr ?_⟩
  rcases hr.2 with ⟨h, _⟩ | ⟨g', c', cur, hv, _, hh, hnc, hcm, hs, _⟩
  · cases h
  · simp only [Value.slice.injEq, Option.some.injEq, Addr.mk.injEq, and_true, true_and] at hv
    obtain ⟨rfl, rfl⟩ := hv
    have hg := (Array.getElem?_eq_some_iff.1 hh).1
    refine ⟨g, cap, putCells id 0 (flatK E.enc E.k d) cur, rfl, Nat.zero_le _, ?_, hnc, hcm, by simp [putCells, hs], ?_⟩
    · show ((w.heap.modify g _) ++ os)[g]? = _
      rw [Array.getElem?_append_left (by simpa using hg), Array.getElem?_modify, if_pos rfl, hh]
      rfl
    · apply List.ext_getElem?
      intro j
      rw [List.getElem?_take]
      by_cases hj : j < n * E.k
      · rw [if_pos hj, Array.getElem?_toList]
        have hjc : j < cur.size := by rw [hs]; exact Nat.lt_of_lt_of_le hj (Nat.mul_le_mul_right _ hnc)
        have hjf : j < d.size * E.k := by rw [hd]; exact hj
        simp only [putCells, Array.getElem?_mapIdx, Array.getElem?_eq_getElem hjc, Option.map_some, Nat.zero_le, true_and, Nat.zero_add, Nat.sub_zero, size_flatK]
        rw [if_pos hjf, ← flatK_get E d j hjf, Array.getElem?_eq_getElem (by rw [size_flatK]; exact hjf), getElem!_pos _ j (by rw [size_flatK]; exact hjf)]
        rfl
      · rw [if_neg hj, List.getElem?_eq_none (by rw [E.fl_len, Array.length_toList, hd]; omega)]
theorem allOne_all {l : List Value} (h : allOne l = true) : ∀ v ∈ l, v.oneCell' = true := allOne_mem h
theorem sort_calls {P : Program} {ρ : Ren} (L : SlLaysF0.n6 P ρ) (E : Enc α) (aE : ∀ w, (isAgg (ρ.t 24)).run P w = .ok true w) (zE : ∀ w, (Go.sizeOf (ρ.t 24)).run P w = .ok E.k w)
    {cf : α → α → Int} (hO : CmpOk cf) (g : Nat) (cb : Array Value) (eg : ∀ args w, (callFunc g args).run P w = .ok (.enter g args) w) {w : World} {e cap n : Nat} {ao : Option Addr} {l : List α}
    (hr : w.ownsRow 0 e E.k (.slice ao n cap) n (E.fl l)) (hn : n < 4611686018427387904)
    (hc : ∀ x y w', w.grownBy w' (ao.map (·.block)) → Calls P g (#[.agg (E.enc x).toArray, .agg (E.enc y).toArray] ++ cb) w' fun e w'' => e = .returned (.int .i64 (cf x y)) ∧ Below w'.heap.size w' w'') :
    Calls P (ρ.f 6) #[.slice ao n cap, .func (.func g) #[] cb] w fun en w' => en = .returned (.tuple #[]) ∧ w.grownBy w' (ao.map (·.block)) ∧ w'.ownsRow 0 e E.k (.slice ao n cap) n (E.fl (sorted cf l)) := by
  have hnl : n = l.length := by
    have := hr.1
    rw [E.fl_len] at this
    exact (Nat.eq_of_mul_eq_mul_right E.k0 this).symm
  cases ao with
  | none =>
    have h0 : n = 0 := by
      rcases hr.2 with ⟨_, h⟩ | ⟨_, _, _, h, _⟩
      · exact h
      · cases h
    subst h0
    have hl : l = [] := List.eq_nil_of_length_eq_zero hnl.symm
    subst hl
    refine (AnyF.slices_SortFunc_none L none cap _ w).mono fun en w' h => ?_
    obtain ⟨h1, rfl⟩ := h
    exact ⟨h1, ⟨rfl, rfl, rfl, Nat.le_refl _, fun _ _ _ => rfl⟩, by rw [sorted_nil]; exact hr⟩
  | some a =>
    obtain ⟨b, hb⟩ : ∃ b, a = ⟨b, 0, none⟩ := by
      rcases hr.2 with ⟨h, _⟩ | ⟨g', c', cur, hv, _⟩
      · cases h
      · simp only [Value.slice.injEq, Option.some.injEq] at hv; exact ⟨g', hv.1⟩
    subst hb
    subst hnl
    have hlt : b < w.heap.size := (World.ownsRow.lt hr b (by simp [Value.ownBlock])).2
    have hH : HoldsK E.enc E.k w b 0 l.toArray := by
      intro j hj
      rw [size_flatK] at hj
      rcases hr.2 with ⟨h, _⟩ | ⟨g', c', cur, hv, _, hh, hnc, hcm, hs, ht⟩
      · cases h
      · simp only [Value.slice.injEq, Option.some.injEq, Addr.mk.injEq, and_true, true_and] at hv
        obtain ⟨rfl, rfl⟩ := hv
        have hjc : j < cur.size := by rw [hs]; exact Nat.lt_of_lt_of_le hj (Nat.mul_le_mul_right _ (by simpa using hnc))
        refine ⟨?_, ?_⟩
        · rw [World.cell?, Nat.zero_add]
          dsimp only
          rw [hh]
          dsimp only
          have e1 := flatK_get E l.toArray j hj
          rw [← ht, List.getElem?_take, if_pos (by simpa using hj), Array.getElem?_toList] at e1
          rw [← e1]
          show (if (Option.isSome _) = true then none else (flatK E.enc E.k l.toArray)[j]?) = _
          rw [Array.getElem?_eq_getElem (by rw [size_flatK]; exact hj), getElem!_pos _ j (by rw [size_flatK]; exact hj)]
          rfl
        · unfold World.frozen?
          dsimp only
          rw [hh]
          simp
    have hcmp : CmpLays P g cb E.enc E.k cf b 0 l.toArray.size w := by
      intro m os dk hdk x y
      have h := Calls.drawn (hc x y (sortWorldK E.enc E.k w b 0 m dk os) (putRow_grown m os))
      exact h.mono fun en w'' hh => ⟨hh.1.1, drew_of_below hh.1.2 (hh.2 _ hh.1.1)⟩
    have h := AnyQ.slices_SortFunc_total L E.k aE zE E.enc E.len (fun x v hv => allOne_all (E.one x) v hv) cf hO.swo g cb b 0 cap l.toArray w eg hcmp hH hlt (by simpa using hn) hO.tot
    refine h.mono fun en w' hh => ?_
    obtain ⟨h1, m, os, rfl⟩ := hh
    refine ⟨h1, putRow_grown m os, ?_⟩
    exact putRow_own E hr (sorted cf l).toArray (by simp [sorted_len]) m os
end
section
variable {α : Type} [Inhabited α] {S : Sx} {W : World} {M : List Nat} {H : Hp} {A : Value → Hp → Prop}
theorem SxCall.sort {ρ : Ren} (L : SlLaysF0.n6 S.P ρ) (E : Enc α) (aE : ∀ w, (isAgg (ρ.t 24)).run S.P w = .ok true w) (zE : ∀ w, (Go.sizeOf (ρ.t 24)).run S.P w = .ok E.k w)
    {cf : α → α → Int} (hO : CmpOk cf) {g : Nat} {cb : Array Value} (eg : ∀ args w, (callFunc g args).run S.P w = .ok (.enter g args) w) (p : Nat) {e cap n : Nat} {ao : Option Addr} {l : List α}
    (hp : H[p]? = some (.row ao n cap e E.k (E.fl l))) (hn : n < 4611686018427387904)
    (hc : ∀ x y w w', Sat W M H w → w.grownBy w' (ao.map (·.block)) → Calls S.P g (#[.agg (E.enc x).toArray, .agg (E.enc y).toArray] ++ cb) w' fun e w'' => e = .returned (.int .i64 (cf x y)) ∧ Below w'.heap.size w' w'')
    (h : A (.tuple #[]) (H.set p (.row ao n cap e E.k (E.fl (sorted cf l))))) : SxCall S W M (ρ.f 6) #[.slice ao n cap, .func (.func g) #[] cb] H A :=
  ⟨fun w hs => (sort_calls L E aE zE hO g cb eg (hs.row p hp) hn (fun x y w' hg => hc x y w w' hs hg)).mono fun en w' hh => by
    obtain ⟨h1, h2, h3⟩ := hh
    exact ⟨_, _, h1, hs.set hp h2 (e' := .row ao n cap e E.k (E.fl (sorted cf l))) h3 (fun g hg => .inl hg), h⟩⟩
end
end Go.Proofs.Ytdififdnnpgjoaa
/- Lists in strict order. No program is named here. -/
namespace Go.Proofs.Ytdififdnnpgjoaa
open Go.RowKit

structure Ordr {α : Type} (lt : α → α → Prop) : Prop where
  irr : ∀ x, ¬ lt x x
  tr : ∀ x y z, lt x y → lt y z → lt x z
  tri : ∀ x y, ¬ lt x y → ¬ lt y x → x = y
section
variable {α : Type} {lt : α → α → Prop}
theorem Ordr.asym (h : Ordr lt) {x y : α} (h1 : lt x y) : ¬ lt y x := fun h2 => h.irr x (h.tr x y x h1 h2)
theorem strict_ext (h : Ordr lt) : ∀ {l m : List α}, l.Pairwise lt → m.Pairwise lt → (∀ x, x ∈ l ↔ x ∈ m) → l = m
  | [], [], _, _, _ => rfl
  | [], y :: m, _, _, he => absurd ((he y).2 (by simp)) (by simp)
  | x :: l, [], _, _, he => absurd ((he x).1 (by simp)) (by simp)
  | x :: l, y :: m, h1, h2, he => by
    rw [List.pairwise_cons] at h1 h2
    have hxy : x = y := by
      rcases List.mem_cons.1 ((he x).1 (by simp)) with e | e
      · exact e
      · rcases List.mem_cons.1 ((he y).2 (by simp)) with e2 | e2
        · exact e2.symm
        · exact absurd (h.tr x y x (h1.1 y e2) (h2.1 x e)) (h.irr x)
    subst hxy
    congr 1
    refine strict_ext h h1.2 h2.2 fun z => ⟨fun hz => ?_, fun hz => ?_⟩
    · rcases List.mem_cons.1 ((he z).1 (by simp [hz])) with e | e
      · subst e; exact absurd (h1.1 z hz) (h.irr z)
      · exact e
    · rcases List.mem_cons.1 ((he z).2 (by simp [hz])) with e | e
      · subst e; exact absurd (h2.1 z hz) (h.irr z)
      · exact e
theorem dd_strict [DecidableEq α] (h : Ordr lt) : ∀ {l : List α}, (l.Pairwise fun x y => ¬ lt y x) → (dd l).Pairwise lt
  | [], _ => List.Pairwise.nil
  | [x], _ => List.pairwise_singleton ..
  | x :: y :: r, hp => by
    have h1 := (List.pairwise_cons.1 hp)
    have h2 := (List.pairwise_cons.1 h1.2)
    have ih := dd_strict h h1.2
    rw [dd]
    split
    · exact ih
    · rename_i hne
      refine List.pairwise_cons.2 ⟨fun z hz => ?_, ih⟩
      rw [dd_mem] at hz
      have hxy : lt x y := by
        rcases Classical.em (lt x y) with e | e
        · exact e
        · exact absurd (h.tri x y e (h1.1 y (by simp))) hne
      rcases List.mem_cons.1 hz with e | e
      · rw [e]; exact hxy
      · rcases Classical.em (lt y z) with e2 | e2
        · exact h.tr x y z hxy e2
        · have := h.tri y z e2 (h2.1 z e)
          rw [← this]; exact hxy
theorem cmpOk_of {cf : α → α → Int} (h : Ordr lt) (hc : ∀ x y, cf x y < 0 ↔ lt x y) : CmpOk cf := CmpOk.of lt hc h.irr h.tr h.tri
theorem sorted_ord {cf : α → α → Int} (h : Ordr lt) (hc : ∀ x y, cf x y < 0 ↔ lt x y) (l : List α) : (sorted cf l).Pairwise fun x y => ¬ lt y x :=
  (sorted_pair (cmpOk_of h hc) l).imp fun {x y} hh hl => by
    rw [← hc] at hl
    unfold ltOf at hh
    exact absurd hl (by simpa using hh)
/-- A list as a set. -/
def setS [DecidableEq α] (cf : α → α → Int) (l : List α) : List α := dd (sorted cf l)
theorem setS_strict [DecidableEq α] {cf : α → α → Int} (h : Ordr lt) (hc : ∀ x y, cf x y < 0 ↔ lt x y) (l : List α) : (setS cf l).Pairwise lt := dd_strict h (sorted_ord h hc l)
theorem setS_mem [DecidableEq α] (cf : α → α → Int) (l : List α) (x : α) : x ∈ setS cf l ↔ x ∈ l := by
  unfold setS
  rw [dd_mem, (sorted_perm cf l).mem_iff]
theorem setS_len [DecidableEq α] (cf : α → α → Int) (l : List α) : (setS cf l).length ≤ l.length := by
  have := dd_len (sorted cf l)
  rw [sorted_len] at this
  exact this
theorem setS_ext [DecidableEq α] {cf : α → α → Int} (h : Ordr lt) (hc : ∀ x y, cf x y < 0 ↔ lt x y) {l m : List α} (hm : m.Pairwise lt) (he : ∀ x, x ∈ m ↔ x ∈ l) : setS cf l = m :=
  strict_ext h (setS_strict h hc l) hm fun x => by rw [setS_mem, he]
/-- Put in its place, if it is not there. -/
def putIn (ltb : α → α → Bool) (x : α) (l : List α) : List α := l.takeWhile (fun y => ltb y x) ++ x :: l.dropWhile (fun y => ltb y x)
theorem mem_putIn (ltb : α → α → Bool) (x : α) (l : List α) (z : α) : z ∈ putIn ltb x l ↔ z = x ∨ z ∈ l := by
  unfold putIn
  rw [List.mem_append, List.mem_cons]
  have h : z ∈ l ↔ z ∈ l.takeWhile (fun y => ltb y x) ∨ z ∈ l.dropWhile (fun y => ltb y x) := by
    rw [← List.mem_append, List.takeWhile_append_dropWhile]
  rw [h]
  constructor
  · rintro (h | h | h)
    · exact .inr (.inl h)
    · exact .inl h
    · exact .inr (.inr h)
  · rintro (h | h | h)
    · exact .inr (.inl h)
    · exact .inl h
    · exact .inr (.inr h)
theorem putIn_strict (h : Ordr lt) {ltb : α → α → Bool} (hb : ∀ x y, ltb x y = true ↔ lt x y) {x : α} : ∀ {l : List α}, l.Pairwise lt → x ∉ l → (putIn ltb x l).Pairwise lt
  | [], _, _ => List.pairwise_singleton ..
  | y :: l, hp, hn => by
    have h1 := List.pairwise_cons.1 hp
    unfold putIn
    by_cases hy : ltb y x = true
    · rw [List.takeWhile_cons_of_pos (p := fun y => ltb y x) hy, List.dropWhile_cons_of_pos (p := fun y => ltb y x) hy, List.cons_append]
      have ih := putIn_strict h hb h1.2 (fun e => hn (List.mem_cons_of_mem _ e))
      refine List.pairwise_cons.2 ⟨fun z hz => ?_, ih⟩
      rcases (mem_putIn ltb x l z).1 hz with e | e
      · rw [e]; exact (hb y x).1 hy
      · exact h1.1 z e
    · rw [List.takeWhile_cons_of_neg (p := fun y => ltb y x) hy, List.dropWhile_cons_of_neg (p := fun y => ltb y x) hy, List.nil_append]
      have hxy : lt x y := by
        rcases Classical.em (lt x y) with e | e
        · exact e
        · exact absurd (h.tri x y e (fun e2 => hy ((hb y x).2 e2))) (fun e2 => hn (by simp [e2]))
      refine List.pairwise_cons.2 ⟨fun z hz => ?_, hp⟩
      rcases List.mem_cons.1 hz with e | e
      · rw [e]; exact hxy
      · exact h.tr x y z hxy (h1.1 z e)
/-- The document's set: each put in its place. -/
def setR [DecidableEq α] (ltb : α → α → Bool) (l : List α) : List α := l.foldl (fun out x => if x ∈ out then out else putIn ltb x out) []
theorem setR_snoc [DecidableEq α] (ltb : α → α → Bool) (l : List α) (x : α) : setR ltb (l ++ [x]) = if x ∈ setR ltb l then setR ltb l else putIn ltb x (setR ltb l) := by
  unfold setR
  rw [List.foldl_append]
  rfl
theorem setR_ok [DecidableEq α] (h : Ordr lt) {ltb : α → α → Bool} (hb : ∀ x y, ltb x y = true ↔ lt x y) (l : List α) : (setR ltb l).Pairwise lt ∧ ∀ x, x ∈ setR ltb l ↔ x ∈ l := by
  refine snoc_ind (P := fun l => (setR ltb l).Pairwise lt ∧ ∀ x, x ∈ setR ltb l ↔ x ∈ l) ⟨List.Pairwise.nil, fun x => Iff.rfl⟩ (fun l x ih => ?_) l
  · revert ih; intro ih
    rw [setR_snoc]
    split
    · rename_i hx
      refine ⟨ih.1, fun z => ?_⟩
      rw [ih.2, List.mem_append, List.mem_singleton]
      constructor
      · exact .inl
      · rintro (e | e)
        · exact e
        · rw [e]; exact (ih.2 x).1 hx
    · rename_i hx
      refine ⟨putIn_strict h hb ih.1 hx, fun z => ?_⟩
      rw [mem_putIn, ih.2, List.mem_append, List.mem_singleton, or_comm]
theorem setR_len [DecidableEq α] (ltb : α → α → Bool) (l : List α) : (setR ltb l).length ≤ l.length := by
  refine snoc_ind (P := fun l => (setR ltb l).length ≤ l.length) (Nat.le_refl _) (fun l x ih => ?_) l
  · revert ih; intro ih
    rw [setR_snoc, List.length_append]
    split
    · simp; omega
    · unfold putIn
      rw [List.length_append, List.length_cons]
      have := congrArg List.length (List.takeWhile_append_dropWhile (p := fun y => ltb y x) (l := setR ltb l))
      rw [List.length_append] at this
      simp
      omega
theorem setS_R [DecidableEq α] {cf : α → α → Int} (h : Ordr lt) (hc : ∀ x y, cf x y < 0 ↔ lt x y) {ltb : α → α → Bool} (hb : ∀ x y, ltb x y = true ↔ lt x y) (l : List α) : setS cf l = setR ltb l :=
  setS_ext h hc (setR_ok h hb l).1 (setR_ok h hb l).2
end
end Go.Proofs.Ytdififdnnpgjoaa
/- Two rows that one call has made, to be read. -/
namespace Go.Proofs.Ytdififdnnpgjoaa
open Go.RowKit

section
variable {W : World} {M : List Nat} {H : Hp} {w w' : World}
theorem NewRow.above {ao : Option Addr} {n cap e k : Nat} {cs : List Value} (h : NewRow w w' ao n cap e k cs) {g : Nat} (hg : (Ent.rd ao cs).uses g) : w.heap.size ≤ g := by
  refine (World.ownsRow.lt h.owns g ?_).1
  cases ao with
  | none => have := hg.2; cases this
  | some a => simpa [Ent.uses, Value.ownBlock] using hg.2
theorem Sat.addRd (hs : Sat W M H w) {ao : Option Addr} {n cap e k : Nat} {cs : List Value} (h : NewRow w w' ao n cap e k cs) (hm : cs.length ≤ maxLen) : Sat W M (.rd ao cs :: H) w' :=
  hs.cons (Below.toGrown h.below) (e := .rd ao cs) ((hs.addNew h).rowRd 0 rfl hm) fun _ hg => h.above hg
theorem Sat.twoNew (hs : Sat W M H w) {a1 a2 : Option Addr} {n1 n2 c1 c2 e1 e2 k1 k2 : Nat} {cs1 cs2 : List Value} (h1 : NewRow w w' a1 n1 c1 e1 k1 cs1) (h2 : NewRow w w' a2 n2 c2 e2 k2 cs2) (hm1 : cs1.length ≤ maxLen) (hm2 : cs2.length ≤ maxLen) :
    Sat W M (.rd a1 cs1 :: .rd a2 cs2 :: H) w' := by
  refine (hs.addRd h2 hm2).cons_rd ((hs.addNew h1).rowRd 0 rfl hm1) fun i e g hi ho hu => ?_
  cases i with
  | zero => simp at hi; subst hi; cases ho
  | succ i =>
    have a := Ent.uses_lt (hs.holds i e (by simpa using hi)) (Ent.own_uses ho)
    have b := h1.above hu
    omega
end
end Go.Proofs.Ytdififdnnpgjoaa
/- More words of the walk: answers of a kind, parts of a literal one by one, where a row lies. No program is named here. -/
namespace Go.Proofs.Ytdififdnnpgjoaa
open Go.RowKit

section
variable {S : Sx} {W : World} {M : List Nat} {f : Nat} {args : Array Value} {H : Hp} {A : Value → Hp → Prop}
theorem SxCall.quietP {P : Value → Prop} (hc : ∀ w, Sat W M H w → Calls S.P f args w fun e w' => ∃ v, e = .returned v ∧ P v ∧ Below w.heap.size w w') (h : ∀ v, P v → A v H) : SxCall S W M f args H A :=
  SxCall.at hc fun w e w' hs ⟨v, h1, h2, h3⟩ => ⟨v, H, h1, hs.below h3, h v h2⟩
theorem splice_app {vs ws us : List Value} {n o : Nat} (h : vs.length = n) : splice (n + o) us (vs ++ ws) = vs ++ splice o us ws := by
  unfold splice
  subst h
  rw [List.take_append, List.take_of_length_le (by omega), List.drop_append, List.drop_of_length_le (by omega : vs.length ≤ vs.length + o + us.length)]
  simp [Nat.add_assoc]
theorem SxFill.first {place : Nat → Option (Nat × Nat)} {cs vs : List Value} {n : Nat} {r : List (Nat × List Value)} {A : List Value → Prop} (hp : place 0 = some (0, n)) (hv : vs.length = n) (hn : Nat.ble n cs.length = true) (h : SxFill place (vs ++ cs.drop n) r A) : SxFill place cs ((0, vs) :: r) A := by
  have e : splice 0 vs cs = vs ++ cs.drop n := by unfold splice; subst hv; simp
  cases h with | mk h1 hc h2 => 
    refine ⟨?_, ?_, h2⟩
    · unfold fillP
      rw [hp]
      dsimp only
      rw [e]
      exact ⟨⟨hv, by have := Nat.le_of_ble_eq_true hn; omega⟩, h1⟩
    · unfold fillC
      rw [hp]
      dsimp only
      rw [e]
      exact hc
theorem fill_tail {place place' : Nat → Option (Nat × Nat)} {vs : List Value} {n : Nat} (hv : vs.length = n) : ∀ {r : List (Nat × List Value)} {ws ws' : List Value}, (∀ x ∈ r, ∃ o s, place' x.1 = some (o, s) ∧ place x.1 = some (n + o, s)) → fillP place' ws r → fillC place' ws r = some ws' → fillP place (vs ++ ws) r ∧ fillC place (vs ++ ws) r = some (vs ++ ws')
  | [], ws, ws', _, _, hc => by
    simp only [fillC, Option.some.injEq] at hc
    subst hc
    exact ⟨trivial, rfl⟩
  | (i, us) :: r, ws, ws', hpl, hp, hc => by
    obtain ⟨o, s, h1, h2⟩ := hpl (i, us) (by simp)
    dsimp only at h1 h2
    unfold fillP at hp
    unfold fillC at hc
    rw [h1] at hp hc
    dsimp only at hp hc
    have ih := fill_tail hv (fun x hx => hpl x (List.mem_cons_of_mem _ hx)) hp.2 hc
    unfold fillP fillC
    rw [h2]
    dsimp only
    rw [splice_app hv]
    refine ⟨⟨⟨hp.1.1, ?_⟩, ih.1⟩, ih.2⟩
    have := hp.1.2
    rw [List.length_append]; omega
theorem SxFill.tail {place : Nat → Option (Nat × Nat)} (place' : Nat → Option (Nat × Nat)) {vs ws : List Value} {n : Nat} {r : List (Nat × List Value)} {A : List Value → Prop} (hv : vs.length = n) (hpl : ∀ x ∈ r, ∃ o s, place' x.1 = some (o, s) ∧ place x.1 = some (n + o, s)) (h : SxFill place' ws r (fun cs => A (vs ++ cs))) : SxFill place (vs ++ ws) r A := by
  cases h with | mk h1 hc h2 =>
    have := fill_tail hv hpl h1 hc
    exact ⟨this.1, this.2, h2⟩
theorem SxCode.base {N : Nat} {F : Fr} {c : Code} {Q : Exit → Fr → Hp → Prop} (p : Nat) {ao : Option Addr} {n cap e k : Nat} {cs : List Value} (hp : H[p]? = some (.row ao n cap e k cs)) (h : (0 < n → ∃ g, ao = some ⟨g, 0, none⟩) → n ≤ cap → SxCode S W M N c Q F H) : SxCode S W M N c Q F H :=
  ⟨fun a w ha hs => match h (Row.base (hs.row p hp)).1 (Row.base (hs.row p hp)).2 with | ⟨h⟩ => h a w ha hs⟩
theorem SxCall.weaken {H' : Hp} (hw : Weak H H') (h : SxCall S W M f args H' A) : SxCall S W M f args H A := by
  cases h with | mk h => exact ⟨fun w hs => h w (hw _ _ _ hs)⟩
/-- A call that makes a row that is only read from now on. -/
theorem SxCall.newRd {v : Option Addr → Nat → Value} {n e k : Nat} {cs : List Value} (hm : cs.length ≤ maxLen)
    (hc : ∀ w, Sat W M H w → Calls S.P f args w fun en w' => ∃ ao cap, en = .returned (v ao cap) ∧ NewRow w w' ao n cap e k cs) (h : ∀ ao cap, A (v ao cap) (.rd ao cs :: H)) : SxCall S W M f args H A :=
  ⟨fun w hs => (hc w hs).mono fun _ _ he => by
    obtain ⟨ao, cap, h1, h2⟩ := he
    exact ⟨_, _, h1, hs.addRd h2 hm, h ao cap⟩⟩
end
end Go.Proofs.Ytdififdnnpgjoaa
/- '==' and '!=' of truth values. No program is named here. -/
namespace Go.Proofs.Ytdififdnnpgjoaa
open Go.RowKit

theorem SxRun.blNe {P : Program} {A : Value → Prop} {t : Nat} {x y : Operand} {a b : Bool} (h : P.underlying t = some .bool) (hA : A (.bool (a != b))) : SxRun P (do eqGuard .neq t x y (.bool a) (.bool b); binOp .neq t (.bool a) (.bool b)) A :=
  ⟨_, fun w => by have : (Op.equal t (.bool a) (.bool b)).run P w = .ok (a == b) w := run_equalIn_bool' (P := P) w 9999 t a b h; simp [eqGuard, binOp, this, bne], hA⟩
theorem SxRun.blEq {P : Program} {A : Value → Prop} {t : Nat} {x y : Operand} {a b : Bool} (h : P.underlying t = some .bool) (hA : A (.bool (a == b))) : SxRun P (do eqGuard .eql t x y (.bool a) (.bool b); binOp .eql t (.bool a) (.bool b)) A :=
  ⟨_, fun w => by have : (Op.equal t (.bool a) (.bool b)).run P w = .ok (a == b) w := run_equalIn_bool' (P := P) w 9999 t a b h; simp [eqGuard, binOp, this], hA⟩
end Go.Proofs.Ytdififdnnpgjoaa
/- Cells written within an element of a row. No program is named here. -/
namespace Go.Proofs.Ytdififdnnpgjoaa
open Go.RowKit

theorem splice_head {X T vs : List Value} {j : Nat} (h : j + vs.length ≤ X.length) : splice j vs (X ++ T) = splice j vs X ++ T := by
  unfold splice
  rw [List.take_append_of_le_length (by omega), List.drop_append_of_le_length (by omega)]
  simp only [List.append_assoc]
theorem splice_past {A T vs : List Value} {n j : Nat} (h : A.length = n) : splice (n + j) vs (A ++ T) = A ++ splice j vs T := by
  subst h
  unfold splice
  rw [List.take_length_add_append, Nat.add_assoc, List.drop_length_add_append]
  simp only [List.append_assoc]
theorem Enc.fl_splice {α : Type} (E : Enc α) {l : List α} {k j : Nat} {x x' : α} {vs : List Value} (h : l[k]? = some x) (hj : j + vs.length ≤ E.k) (hx : splice j vs (E.enc x) = E.enc x') : splice (k * E.k + j) vs (E.fl l) = E.fl (l.set k x') := by
  obtain ⟨hl, he⟩ := List.getElem?_eq_some_iff.1 h
  have e : E.fl l = E.fl (l.take k) ++ (E.enc x ++ E.fl (l.drop (k + 1))) := by
    conv => lhs; rw [← List.take_append_drop k l, List.drop_eq_getElem_cons hl, he, E.fl_append, E.fl_cons]
  rw [e, splice_past (by rw [E.fl_len, List.length_take, Nat.min_eq_left (by omega)]), splice_head (by rw [E.len]; exact hj), hx, List.set_eq_take_append_cons_drop, if_pos hl, E.fl_append, E.fl_cons]
end Go.Proofs.Ytdififdnnpgjoaa
