/- The walk of layer 15: the document's Get. -/
import Derived.Test.YtdbappehchgbcaaGreatZMnE
namespace Go.Proofs.YtdbappehchgbcaaGreat
open Go.RowKit

theorem takeS_at {n a : Nat} {s : List UInt8} (h : a + n ≤ s.length) : takeS n ⟨s.toArray⟩ a 0 = ((s.drop a).take n, a + n, 0) := by
  have hsz : (⟨s.toArray⟩ : ByteArray).size = s.length := mk_size s
  unfold takeS
  rw [if_neg (by simp), hsz, if_neg (by omega)]
theorem esOf_flat2 (es : List En) (h : allEn es) (rest : List UInt8) : ∀ k, k ≤ es.length → esOf (es.flatMap enB ++ rest) k = es.take k
  | 0, _ => by simp [esOf]
  | k + 1, hk => by
    obtain ⟨x, hx⟩ : ∃ x, es[k]? = some x := ⟨es[k], by simp⟩
    have hd : es.drop k = x :: es.drop (k + 1) := by
      rw [List.drop_eq_getElem_cons (by omega)]
      congr 1
      exact (List.getElem?_eq_some_iff.1 hx).2
    have hdr : (es.flatMap enB ++ rest).drop (40 * k) = enB x ++ ((es.drop (k + 1)).flatMap enB ++ rest) := by
      have e1 : es.flatMap enB = (es.take k).flatMap enB ++ (es.drop k).flatMap enB := by rw [← List.flatMap_append, List.take_append_drop]
      rw [e1, hd, List.flatMap_cons, List.append_assoc, List.append_assoc]
      exact List.drop_left' (by rw [flatE_len, List.length_take]; omega)
    rw [esOf, esOf_flat2 es h rest k (by omega), hdr, enOf_B (h x (List.mem_of_getElem? hx)), List.take_add_one, hx]; rfl
theorem put_parts {id : Int} {es : List En} (hm : mayM id es) : idOf (putM id es) = id.toNat ∧ nOf (putM id es) = es.length ∧ esOf ((putM id es).drop 10) es.length = es ∧ (putM id es).length = 14 + 40 * es.length := by
  obtain ⟨⟨i1, i2⟩, n1, n2, hall⟩ := hm
  have e : putM id es = magL ++ (numL id.toNat 4 ++ (numL es.length 2 ++ (es.flatMap enB ++ numL (crcMore 0 (bodyM id es)) 4))) := by unfold putM sealL; rw [show bodyM id es = magL ++ numL id.toNat 4 ++ numL es.length 2 ++ es.flatMap enB from rfl]; simp only [List.append_assoc]
  have d4 : (putM id es).drop 4 = numL id.toNat 4 ++ (numL es.length 2 ++ (es.flatMap enB ++ numL (crcMore 0 (bodyM id es)) 4)) := by rw [e]; exact List.drop_left' rfl
  have d8 : (putM id es).drop 8 = numL es.length 2 ++ (es.flatMap enB ++ numL (crcMore 0 (bodyM id es)) 4) := by rw [show 8 = 4 + 4 from rfl, ← List.drop_drop, d4]; exact List.drop_left' (numL_len _ _)
  have d10 : (putM id es).drop 10 = es.flatMap enB ++ numL (crcMore 0 (bodyM id es)) 4 := by rw [show 10 = 8 + 2 from rfl, ← List.drop_drop, d8]; exact List.drop_left' (numL_len _ _)
  refine ⟨?_, ?_, ?_, ?_⟩
  · unfold idOf; rw [d4, List.take_left' (numL_len _ _)]; exact leV_num _ 4 (by omega)
  · unfold nOf; rw [d8, List.take_left' (numL_len _ _)]; exact leV_num _ 2 (by omega)
  · rw [d10, esOf_flat2 es hall _ _ (Nat.le_refl _), List.take_length]
  · unfold putM; rw [sealL_len4, bodyM_len]; omega
theorem fill_step {f : List UInt8} {c : UInt8} {j : Nat} {T : List Value} (hj : j < 32) (hfl : f.length = 32) (hc : f[j]? = some c) :
    splice (0 + 0 + j * 1) [u8V c] ((f.take j).map u8V ++ (List.replicate (32 - j) (.int .u8 0) ++ T)) = (f.take (j + 1)).map u8V ++ (List.replicate (32 - (j + 1)) (.int .u8 0) ++ T) := by
  rw [show 0 + 0 + j * 1 = j + 0 by omega, splice_tail (n := j) (by rw [List.length_map, List.length_take]; omega), show 32 - j = (32 - (j + 1)) + 1 by omega, List.replicate_succ, List.cons_append, splice_front (n := 1) rfl, List.take_add_one, hc, List.map_append, List.append_assoc]
  rfl
end Go.Proofs.YtdbappehchgbcaaGreat
