/- Plain: what the readers make of a recipe's bytes. -/
import Derived.Test.YtbbngmlgpjepnaaZRcE
namespace Go.Proofs.Ytbbngmlgpjepnaa
open Go.RowKit

theorem numL_leV : ∀ (l : List UInt8), numL (leV l) l.length = l
  | [] => rfl
  | b :: r => by
    have hb := b.toNat_lt
    rw [List.length_cons, numL_succ, leV]
    congr 1
    · unfold numAt
      apply UInt8.toNat_inj.1
      simp
    · rw [show (b.toNat + 256 * leV r) / 256 = leV r by omega]
      exact numL_leV r
theorem leV_num : ∀ (n k : Nat), n < 2 ^ (8 * k) → leV (numL n k) = n
  | n, 0, h => by simp at h; subst h; rfl
  | n, k + 1, h => by
    rw [numL_succ, leV, leV_num (n / 256) k (by
      rw [show 8 * (k + 1) = 8 * k + 8 by omega, Nat.pow_add] at h
      exact Nat.div_lt_of_lt_mul (by rw [Nat.mul_comm]; exact h))]
    have h1 : (numAt n 0).toNat = n % 256 := by unfold numAt; simp
    rw [h1]; omega
theorem takeR_cat (n : Nat) (x l : List UInt8) (h : x.length = n) : takeR n (x ++ l) 0 = (x, l, 0) := by
  subst h
  unfold takeR
  rw [if_neg (by simp), if_neg (by simp)]
  simp
theorem takeR_errR (l : List UInt8) (e : Int) (k : Nat) (h : e ≠ 0) : takeR k l e = ([], l, e) := by unfold takeR; rw [if_pos h]
theorem takeR_inv {n : Nat} {l : List UInt8} {e : Int} (h : (takeR n l e).2.2 = 0) : e = 0 ∧ l = (takeR n l e).1 ++ (takeR n l e).2.1 ∧ (takeR n l e).1.length = n := by
  unfold takeR at h ⊢
  split at h
  · exact absurd h (by assumption)
  · rename_i he
    split at h
    · simp at h
    · rename_i hl
      rw [if_neg he, if_neg hl]
      exact ⟨by omega, (List.take_append_drop n l).symm, by rw [List.length_take]; omega⟩
/-- Numbers of four bytes, one behind the other. -/
def rdN : Nat → List UInt8 → Int → List Int × List UInt8 × Int
  | 0, l, e => ([], l, e)
  | k + 1, l, e => ((rdN k l e).1 ++ [(leV (takeR 4 (rdN k l e).2.1 (rdN k l e).2.2).1 : Int)], (takeR 4 (rdN k l e).2.1 (rdN k l e).2.2).2)
theorem rdN_len (l : List UInt8) (e : Int) : ∀ k, (rdN k l e).1.length = k
  | 0 => rfl
  | k + 1 => by simp [rdN, rdN_len l e k]
theorem rdN_bd (l : List UInt8) (e : Int) : ∀ k, ∀ x ∈ (rdN k l e).1, 0 ≤ x ∧ x < 4294967296
  | 0, x, h => by simp [rdN] at h
  | k + 1, x, h => by
    simp only [rdN] at h
    rcases List.mem_append.1 h with h | h
    · exact rdN_bd l e k x h
    · simp only [List.mem_singleton] at h
      subst h
      have := leV_take4 (rdN k l e).2.1 (rdN k l e).2.2
      omega
theorem rdN_inv (l : List UInt8) (e : Int) : ∀ k, (rdN k l e).2.2 = 0 → e = 0 ∧ l = (rdN k l e).1.flatMap idL ++ (rdN k l e).2.1
  | 0, h => ⟨h, by simp [rdN]⟩
  | k + 1, h => by
    obtain ⟨h1, h2, h3⟩ := takeR_inv (n := 4) (l := (rdN k l e).2.1) (e := (rdN k l e).2.2) h
    obtain ⟨h4, h5⟩ := rdN_inv l e k h1
    refine ⟨h4, ?_⟩
    have hx : idL ((leV (takeR 4 (rdN k l e).2.1 (rdN k l e).2.2).1 : Nat) : Int) = (takeR 4 (rdN k l e).2.1 (rdN k l e).2.2).1 := by
      unfold idL
      have := numL_leV (takeR 4 (rdN k l e).2.1 (rdN k l e).2.2).1
      rw [h3] at this
      exact this
    simp only [rdN, List.flatMap_append, List.flatMap_cons, List.flatMap_nil, List.append_nil, hx]
    rw [List.append_assoc, ← h2]
    exact h5
theorem rdN_cat (rest : List UInt8) : ∀ (k : Nat) (ms : List Int), (∀ x ∈ ms, 0 ≤ x ∧ x < 4294967296) → k ≤ ms.length → rdN k (ms.flatMap idL ++ rest) 0 = (ms.take k, (ms.drop k).flatMap idL ++ rest, 0)
  | 0, ms, _, _ => by simp [rdN]
  | k + 1, ms, hb, hk => by
    have ih := rdN_cat rest k ms hb (by omega)
    obtain ⟨x, hx⟩ : ∃ x, ms[k]? = some x := ⟨ms[k], by simp⟩
    have hd : ms.drop k = x :: ms.drop (k + 1) := by
      rw [List.drop_eq_getElem_cons (by omega)]
      congr 1
      exact (List.getElem?_eq_some_iff.1 hx).2
    have hxb := hb x (List.mem_of_getElem? hx)
    simp only [rdN, ih]
    rw [hd, List.flatMap_cons, List.append_assoc, takeR_cat 4 (idL x) _ (numL_len _ _)]
    dsimp only
    rw [idL, leV_num _ 4 (by omega), List.take_add_one, hx]
    simp only [Option.toList_some]
    congr 2
    simp; omega
def q1 (t : List UInt8) := takeR 4 t 0
def q2 (t : List UInt8) := takeR 4 (q1 t).2.1 (q1 t).2.2
def q3 (t : List UInt8) := takeR 4 (q2 t).2.1 (q2 t).2.2
def q4 (t : List UInt8) := takeR 4 (q3 t).2.1 (q3 t).2.2
def q5 (t : List UInt8) := takeR 4 (q4 t).2.1 (q4 t).2.2
/-- A text's length is too great: nothing is left. -/
def longS (n : Nat) (st : List UInt8 × Int) : List UInt8 × Int := if n > 65536 then ([], if st.2 = 0 then 2 else st.2) else st
def longK (n : Nat) : Nat := if n > 65536 then 0 else n
def textR (l : List UInt8) (e : Int) : List UInt8 × List UInt8 × Int := takeR (longK (leV (takeR 4 l e).1)) (longS (leV (takeR 4 l e).1) (takeR 4 l e).2).1 (longS (leV (takeR 4 l e).1) (takeR 4 l e).2).2
def q6 (t : List UInt8) := textR (q4 t).2.1 (q4 t).2.2
def q7 (t : List UInt8) := takeR 2 (q6 t).2.1 (q6 t).2.2
def cntR (t : List UInt8) : Nat := leV (q7 t).1
def finR (t : List UInt8) := rdN (cntR t) (q7 t).2.1 (q7 t).2.2
def sgn (u : Nat) : Int := if u > 2147483647 then (u : Int) - 4294967296 else u
def pRc (t : List UInt8) : Rc := ⟨(q6 t).1, leV (q2 t).1, sgn (leV (q3 t).1), sgn (leV (q4 t).1), (finR t).1⟩
def Rc.body (r : Rc) : List UInt8 := bodyR r.nm r.sz r.re r.im r.ms
def Rc.put (r : Rc) : List UInt8 := putL r.nm r.sz r.re r.im r.ms
def Rc.may (r : Rc) : Prop := mayR r.nm.length r.sz r.re r.im r.ms
instance (r : Rc) : Decidable r.may := by unfold Rc.may; infer_instance
theorem sgn_m32 {x : Int} (h : prt x) : sgn (m32 x) = x := by
  obtain ⟨h1, h2⟩ := h
  unfold sgn m32
  split <;> omega
theorem m32_sgn {u : Nat} (h : u < 4294967296) : m32 (sgn u) = u := by
  unfold sgn m32
  split <;> omega
theorem textR_inv {l : List UInt8} {e : Int} (h : (textR l e).2.2 = 0) : e = 0 ∧ l = textL (textR l e).1 ++ (textR l e).2.1 := by
  obtain ⟨h1, h2, h3⟩ := takeR_inv h
  unfold longS at h1 h2
  split at h1
  · dsimp only at h1
    split at h1 <;> omega
  · rename_i hn
    rw [if_neg hn] at h2
    obtain ⟨h4, h5, h6⟩ := takeR_inv h1
    refine ⟨h4, ?_⟩
    have hk : longK (leV (takeR 4 l e).1) = leV (takeR 4 l e).1 := if_neg hn
    have h7 : (textR l e).1.length = leV (takeR 4 l e).1 := h3.trans hk
    have h8 := numL_leV (takeR 4 l e).1
    rw [h6] at h8
    unfold textL
    rw [h7, h8, List.append_assoc]
    have ht : textR l e = takeR (longK (leV (takeR 4 l e).1)) (takeR 4 l e).2.1 (takeR 4 l e).2.2 := by unfold textR; rw [show longS (leV (takeR 4 l e).1) (takeR 4 l e).2 = (takeR 4 l e).2 from if_neg hn]
    have h9 : (takeR 4 l e).2.1 = (textR l e).1 ++ (textR l e).2.1 := by rw [ht]; exact h2
    rw [← h9]
    exact h5
theorem textR_cat (nm rest : List UInt8) (h : nm.length ≤ 65536) : textR (textL nm ++ rest) 0 = (nm, rest, 0) := by
  have h1 : takeR 4 (textL nm ++ rest) 0 = (numL nm.length 4, nm ++ rest, 0) := by
    unfold textL; rw [List.append_assoc]; exact takeR_cat 4 _ _ (numL_len _ _)
  unfold textR
  rw [h1]
  dsimp only
  rw [leV_num _ 4 (by omega)]
  unfold longK longS
  rw [if_neg (by omega), if_neg (by omega)]
  exact takeR_cat _ _ _ rfl
/-- What was read without an error was written so. -/
theorem parse_sound {t : List UInt8} (h : (finR t).2.2 = 0) (hm : (q1 t).1 = [82, 69, 67, 80]) : t = (pRc t).body ++ (finR t).2.1 ∧ (finR t).1.length = cntR t := by
  obtain ⟨e7, d8⟩ := rdN_inv _ _ _ h
  obtain ⟨e6, d7, l7⟩ := takeR_inv (n := 2) (l := (q6 t).2.1) (e := (q6 t).2.2) e7
  obtain ⟨e4, d6⟩ := textR_inv (l := (q4 t).2.1) (e := (q4 t).2.2) e6
  obtain ⟨e3, d4, l4⟩ := takeR_inv (n := 4) (l := (q3 t).2.1) (e := (q3 t).2.2) e4
  obtain ⟨e2, d3, l3⟩ := takeR_inv (n := 4) (l := (q2 t).2.1) (e := (q2 t).2.2) e3
  obtain ⟨e1, d2, l2⟩ := takeR_inv (n := 4) (l := (q1 t).2.1) (e := (q1 t).2.2) e2
  obtain ⟨_, d1, l1⟩ := takeR_inv (n := 4) (l := t) (e := 0) e1
  have hlen : (finR t).1.length = cntR t := rdN_len _ _ _
  refine ⟨?_, hlen⟩
  have n2 := numL_leV (q2 t).1
  have n3 := numL_leV (q3 t).1
  have n4 := numL_leV (q4 t).1
  have n7 := numL_leV (q7 t).1
  rw [show (q2 t).1.length = 4 from l2] at n2
  rw [show (q3 t).1.length = 4 from l3] at n3
  rw [show (q4 t).1.length = 4 from l4] at n4
  rw [show (q7 t).1.length = 2 from l7] at n7
  have b2 : leV (q2 t).1 < 4294967296 := leV_take4 _ _
  have b3 : leV (q3 t).1 < 4294967296 := leV_take4 _ _
  have b4 : leV (q4 t).1 < 4294967296 := leV_take4 _ _
  have hm2 : m32 ((leV (q2 t).1 : Nat) : Int) = leV (q2 t).1 := by unfold m32; omega
  have hb : (pRc t).body = (q1 t).1 ++ (q2 t).1 ++ (q3 t).1 ++ (q4 t).1 ++ textL (q6 t).1 ++ (q7 t).1 ++ (finR t).1.flatMap idL := by
    unfold Rc.body pRc bodyR preR
    dsimp only
    rw [hm2, m32_sgn b3, m32_sgn b4, n2, n3, n4, hlen, hm]
    unfold cntR
    rw [n7]
  rw [hb]
  have c8 : (q7 t).2.1 = (finR t).1.flatMap idL ++ (finR t).2.1 := d8
  have c7 : (q6 t).2.1 = (q7 t).1 ++ (q7 t).2.1 := d7
  have c6 : (q4 t).2.1 = textL (q6 t).1 ++ (q6 t).2.1 := d6
  have c4 : (q3 t).2.1 = (q4 t).1 ++ (q4 t).2.1 := d4
  have c3 : (q2 t).2.1 = (q3 t).1 ++ (q3 t).2.1 := d3
  have c2 : (q1 t).2.1 = (q2 t).1 ++ (q2 t).2.1 := d2
  have c1 : t = (q1 t).1 ++ (q1 t).2.1 := d1
  rw [c2, c3, c4, c6, c7, c8] at c1
  simp only [List.append_assoc] at c1 ⊢
  exact c1
/-- What was written is read. -/
theorem parse_whole {r : Rc} (hr : r.may) (rest : List UInt8) : pRc (r.body ++ rest) = r ∧ (q1 (r.body ++ rest)).1 = [82, 69, 67, 80] ∧ (finR (r.body ++ rest)).2 = (rest, 0) ∧ cntR (r.body ++ rest) = r.ms.length := by
  obtain ⟨nm, sz, re, im, ms⟩ := r
  obtain ⟨g1, g2, g3, g4, g5, g6, g7, g8⟩ := hr
  dsimp only at g1 g2 g3 g4 g5 g6 g7 g8
  have hbd : ∀ x ∈ ms, 0 ≤ x ∧ x < 4294967296 := fun x hx => by have := g8 x hx; unfold okId at this; omega
  unfold Rc.body bodyR preR
  dsimp only
  generalize ht : ([82, 69, 67, 80] ++ numL (m32 sz) 4 ++ numL (m32 re) 4 ++ numL (m32 im) 4 ++ textL nm ++ numL ms.length 2 ++ ms.flatMap idL ++ rest : List UInt8) = t
  simp only [List.append_assoc] at ht
  have h1 : q1 t = ([82, 69, 67, 80], numL (m32 sz) 4 ++ (numL (m32 re) 4 ++ (numL (m32 im) 4 ++ (textL nm ++ (numL ms.length 2 ++ (ms.flatMap idL ++ rest))))), 0) := by unfold q1; rw [← ht]; exact takeR_cat 4 _ _ rfl
  have h2 : q2 t = (numL (m32 sz) 4, numL (m32 re) 4 ++ (numL (m32 im) 4 ++ (textL nm ++ (numL ms.length 2 ++ (ms.flatMap idL ++ rest)))), 0) := by unfold q2; rw [h1]; exact takeR_cat 4 _ _ (numL_len _ _)
  have h3 : q3 t = (numL (m32 re) 4, numL (m32 im) 4 ++ (textL nm ++ (numL ms.length 2 ++ (ms.flatMap idL ++ rest))), 0) := by unfold q3; rw [h2]; exact takeR_cat 4 _ _ (numL_len _ _)
  have h4 : q4 t = (numL (m32 im) 4, textL nm ++ (numL ms.length 2 ++ (ms.flatMap idL ++ rest)), 0) := by unfold q4; rw [h3]; exact takeR_cat 4 _ _ (numL_len _ _)
  have h6 : q6 t = (nm, numL ms.length 2 ++ (ms.flatMap idL ++ rest), 0) := by unfold q6; rw [h4]; exact textR_cat _ _ (by omega)
  have h7 : q7 t = (numL ms.length 2, ms.flatMap idL ++ rest, 0) := by unfold q7; rw [h6]; exact takeR_cat 2 _ _ (numL_len _ _)
  have hc : cntR t = ms.length := by unfold cntR; rw [h7]; exact leV_num _ 2 (by omega)
  have hf : finR t = (ms, rest, 0) := by
    unfold finR
    rw [hc, h7]
    have := rdN_cat rest ms.length ms hbd (Nat.le_refl _)
    rw [List.take_length, List.drop_length] at this
    exact this
  refine ⟨?_, by rw [h1], by rw [hf], hc⟩
  unfold pRc
  rw [h6, h2, h3, h4, hf]
  dsimp only
  rw [leV_num _ 4 (m32_lt _), leV_num _ 4 (m32_lt _), leV_num _ 4 (m32_lt _), sgn_m32 g6, sgn_m32 g7]
  congr 1
  unfold m32
  omega
end Go.Proofs.Ytbbngmlgpjepnaa
