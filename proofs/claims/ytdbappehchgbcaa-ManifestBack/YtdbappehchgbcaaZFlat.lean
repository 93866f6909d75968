/- Elements of several cells, one behind the other. No program is named here. -/
import Derived.Test.YtdbappehchgbcaaZSxb
namespace Go.Proofs.Ytdbappehchgbcaa
open Go.RowKit

/-- How an element is laid in cells. -/
structure Enc (α : Type) where
  enc : α → List Value
  k : Nat
  k0 : 0 < k
  len : ∀ x, (enc x).length = k
  one : ∀ x, allOne (enc x) = true
section
variable {α : Type} (E : Enc α)
def Enc.fl (l : List α) : List Value := l.flatMap E.enc
theorem Enc.fl_nil : E.fl [] = [] := rfl
theorem Enc.fl_cons (x : α) (l : List α) : E.fl (x :: l) = E.enc x ++ E.fl l := rfl
theorem Enc.fl_append (l m : List α) : E.fl (l ++ m) = E.fl l ++ E.fl m := List.flatMap_append ..
theorem Enc.fl_one (x : α) : E.fl [x] = E.enc x := by rw [E.fl_cons, E.fl_nil, List.append_nil]
theorem Enc.fl_len : ∀ l : List α, (E.fl l).length = l.length * E.k
  | [] => by rw [E.fl_nil]; simp
  | x :: l => by rw [E.fl_cons, List.length_append, E.len, Enc.fl_len l, List.length_cons, Nat.succ_mul]; omega
theorem Enc.fl_drop : ∀ (l : List α) (i : Nat), (E.fl l).drop (i * E.k) = E.fl (l.drop i)
  | l, 0 => by simp
  | [], i + 1 => by simp [Enc.fl]
  | x :: l, i + 1 => by
    rw [E.fl_cons, Nat.succ_mul, Nat.add_comm, ← List.drop_drop, show E.k = (E.enc x).length by rw [E.len], List.drop_left, E.len, List.drop_succ_cons]
    exact Enc.fl_drop l i
theorem Enc.fl_take : ∀ (l : List α) (i : Nat), (E.fl l).take (i * E.k) = E.fl (l.take i)
  | l, 0 => by simp [Enc.fl]
  | [], i + 1 => by simp [Enc.fl]
  | x :: l, i + 1 => by
    rw [E.fl_cons, Nat.succ_mul, Nat.add_comm, List.take_add, List.take_left' (E.len x), List.drop_left' (E.len x), List.take_succ_cons, E.fl_cons, Enc.fl_take l i]
theorem Enc.fl_at {l : List α} {i : Nat} {x : α} (h : l[i]? = some x) : ((E.fl l).drop (i * E.k)).take E.k = E.enc x := by
  have hi := (List.getElem?_eq_some_iff.1 h)
  obtain ⟨hl, hx⟩ := hi
  rw [E.fl_drop, List.drop_eq_getElem_cons hl, hx, E.fl_cons, List.take_left' (E.len x)]
theorem Enc.fl_cell {l : List α} {i j : Nat} {x : α} {v : Value} (h : l[i]? = some x) (hj : (E.enc x)[j]? = some v) : (E.fl l)[i * E.k + j]? = some v := by
  have hlt := (List.getElem?_eq_some_iff.1 hj).1
  rw [E.len] at hlt
  rw [← E.fl_at h, List.getElem?_take, if_pos hlt, List.getElem?_drop] at hj
  exact hj
theorem Enc.fl_snoc {l : List α} {i : Nat} {x : α} (h : l[i]? = some x) : E.fl (l.take (i + 1)) = E.fl (l.take i) ++ E.enc x := by
  rw [List.take_add_one, h]
  show E.fl (l.take i ++ [x]) = _
  rw [E.fl_append, E.fl_one]
theorem Enc.fl_set {l : List α} {i : Nat} {x : α} (h : i < l.length) : splice (i * E.k) (E.enc x) (E.fl l) = E.fl (l.set i x) := by
  unfold splice
  rw [E.fl_take, E.len, ← Nat.succ_mul, E.fl_drop, List.set_eq_take_append_cons_drop, if_pos h, E.fl_append, E.fl_cons, List.append_assoc]
theorem Enc.allOne_app : ∀ {a b : List Value}, allOne a = true → allOne b = true → allOne (a ++ b) = true
  | [], b, _, h => h
  | x :: a, b, h, k => by
    simp only [allOne, Bool.and_eq_true, List.cons_append] at h ⊢
    exact ⟨h.1, Enc.allOne_app h.2 k⟩
theorem Enc.fl_allOne : ∀ l : List α, allOne (E.fl l) = true
  | [] => rfl
  | x :: l => by rw [E.fl_cons]; exact Enc.allOne_app (E.one x) (Enc.fl_allOne l)
theorem Enc.fl_inj (hi : ∀ x y, E.enc x = E.enc y → x = y) : ∀ {l m : List α}, E.fl l = E.fl m → l = m
  | [], [], _ => rfl
  | [], y :: m, h => by
    exact absurd (congrArg List.length h) (by rw [E.fl_len, E.fl_len]; have h0 := E.k0; have h1 := Nat.mul_pos (show 0 < m.length + 1 by omega) h0; simp only [List.length_nil, List.length_cons, Nat.zero_mul]; omega)
  | x :: l, [], h => by
    exact absurd (congrArg List.length h) (by rw [E.fl_len, E.fl_len]; have h0 := E.k0; have h1 := Nat.mul_pos (show 0 < l.length + 1 by omega) h0; simp only [List.length_nil, List.length_cons, Nat.zero_mul]; omega)
  | x :: l, y :: m, h => by
    rw [E.fl_cons, E.fl_cons] at h
    obtain ⟨h1, h2⟩ := List.append_inj h (by rw [E.len, E.len])
    rw [hi x y h1, Enc.fl_inj hi h2]
theorem Enc.fl_sub {l : List α} (h : l.length * E.k ≤ maxLen) : (E.fl l).length ≤ maxLen := by rw [E.fl_len]; exact h
theorem Enc.fl_ne {l : List α} (h : 0 < l.length) : 0 < (E.fl l).length := by rw [E.fl_len]; exact Nat.mul_pos h E.k0
end
theorem allOne_zeros {z : List Value} (h : allOne z = true) : ∀ n, allOne (zerosL z n) = true
  | 0 => rfl
  | n + 1 => Enc.allOne_app h (allOne_zeros h n)
/-- An element laid over a block of its own. -/
theorem SxSt.elem {α : Type} (E : Enc α) {x : α} {H : Hp} {g e : Nat} {cs : List Value} {A : Hp → Prop} (p : Nat) (hp : H[p]? = some (.blk g e cs)) (hl : cs.length = E.k) (h : A (H.set p (.blk g e (E.enc x)))) : SxP ((E.enc x).toArray.size = E.k) (SxSt H g 0 (E.enc x) A) := by
  have hx := E.len x
  refine SxP.mk (by rw [List.size_toArray]; exact hx) (SxSt.blk p hp (by rw [Nat.ble_eq]; omega) (E.one x) ?_ h)
  unfold splice
  rw [Nat.zero_add, hx, List.take_zero, List.nil_append, List.drop_of_length_le (by omega), List.append_nil]
/-- []T{x}. -/
theorem SxFill.one {z vs : List Value} {k : Nat} {A : List Value → Prop} (hz : z.length = k) (hv : vs.length = k) (h : A vs) : SxFill (fun j => some (j * k, k)) (zerosL z 1) [(0, vs)] A := by
  have hl : (zerosL z 1).length = k := by rw [zerosL_length, hz, Nat.one_mul]
  refine ⟨⟨⟨hv, by rw [hl]; omega⟩, trivial⟩, ?_, h⟩
  show some (splice (0 * k) vs (zerosL z 1)) = some vs
  unfold splice
  rw [Nat.zero_mul, List.take_zero, List.nil_append, Nat.zero_add, hv, List.drop_of_length_le (by omega), List.append_nil]
theorem Rd.of_len {w : World} {ao : Option Addr} {xs : List Value} (h : Rd w ao xs) : xs.length ≤ maxLen := h.1
end Go.Proofs.Ytdbappehchgbcaa
