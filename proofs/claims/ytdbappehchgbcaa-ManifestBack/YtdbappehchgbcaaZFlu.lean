/- Cells written within an element of a row. No program is named here. -/
import Derived.Test.YtdbappehchgbcaaZFlat
namespace Go.Proofs.Ytdbappehchgbcaa
open Go.RowKit

theorem splice_head {X T vs : List Value} {j : Nat} (h : j + vs.length ≤ X.length) : splice j vs (X ++ T) = splice j vs X ++ T := by
  unfold splice
  rw [List.take_append_of_le_length (by omega), List.drop_append_of_le_length (by omega)]
  simp only [List.append_assoc]
theorem splice_past {A T vs : List Value} {n j : Nat} (h : A.length = n) : splice (n + j) vs (A ++ T) = A ++ splice j vs T := by
  subst h
  unfold splice
  rw [List.take_length_add_append, Nat.add_assoc, List.drop_length_add_append]
  simp only [List.append_assoc]
theorem Enc.fl_splice {α : Type} (E : Enc α) {l : List α} {k j : Nat} {x x' : α} {vs : List Value} (h : l[k]? = some x) (hj : j + vs.length ≤ E.k) (hx : splice j vs (E.enc x) = E.enc x') : splice (k * E.k + j) vs (E.fl l) = E.fl (l.set k x') := by
  obtain ⟨hl, he⟩ := List.getElem?_eq_some_iff.1 h
  have e : E.fl l = E.fl (l.take k) ++ (E.enc x ++ E.fl (l.drop (k + 1))) := by
    conv => lhs; rw [← List.take_append_drop k l, List.drop_eq_getElem_cons hl, he, E.fl_append, E.fl_cons]
  rw [e, splice_past (by rw [E.fl_len, List.length_take, Nat.min_eq_left (by omega)]), splice_head (by rw [E.len]; exact hj), hx, List.set_eq_take_append_cons_drop, if_pos hl, E.fl_append, E.fl_cons]
end Go.Proofs.Ytdbappehchgbcaa
