/- The statement CutPieces. -/
import Derived.Test.YtigfioknmcjbbaaCutN
namespace Go.Proofs.Ytigfioknmcjbbaa
open Go.RowKit

theorem ba_ext {a b : ByteArray} (h : a.data.toList = b.data.toList) : a = b := by
  apply ByteArray.ext
  exact Array.ext' h
theorem ba_extract (s : ByteArray) (i j : Nat) : (s.extract i j).data.toList = (s.data.toList.drop i).take (j - i) := by simp
theorem ba_append (s t : ByteArray) : (s ++ t).data.toList = s.data.toList ++ t.data.toList := by simp
theorem ba_len (s : ByteArray) : s.data.toList.length = s.size := by simp
theorem app_pre (r t : ByteArray) (n : Nat) (h : n ≤ r.size) : (r ++ t).extract 0 n = r.extract 0 n := by
  apply ba_ext
  rw [ba_extract, ba_extract, ba_append, List.drop_zero, List.drop_zero, List.take_append_of_le_length (by rw [ba_len]; omega)]
theorem app_post (r t : ByteArray) (n : Nat) (h : n ≤ r.size) : (r ++ t).extract n (r ++ t).size = r.extract n r.size ++ t := by
  apply ba_ext
  have hl := ba_len r
  have hl2 := ba_len t
  rw [ba_extract, ba_append, ba_append, ba_extract, List.drop_append_of_le_length (by omega), List.take_of_length_le (by simp; omega), List.take_of_length_le (by simp)]
/-- What the cutter left behind a Write is what was left ahead of it and the piece, cut. -/
theorem Cuts.more {k : Conf4} {s r : ByteArray} (t : ByteArray) {cs : List ByteArray} (h : Cuts k s cs r) : Cuts k (s ++ t) cs (r ++ t) := by
  induction h with
  | nil => exact .nil
  | @snoc cs r h hn ih =>
    have h1 : (r ++ t).data.toList = r.data.toList ++ t.data.toList := by simp
    have h2 := cutN_app k r.data.toList t.data.toList hn
    rw [← h1] at h2
    have hle := cutN_le k r.data.toList
    rw [ba_len] at hle
    have h3 := ih.snoc (by rw [h2]; exact hn)
    rw [h2, app_pre r t _ hle, app_post r t _ hle] at h3
    exact h3
theorem Cuts.trans {k : Conf4} {s r q : ByteArray} {cs ds : List ByteArray} (h : Cuts k s cs r) (g : Cuts k r ds q) : Cuts k s (cs ++ ds) q := by
  induction g with
  | nil => rw [List.append_nil]; exact h
  | snoc g hn ih => rw [← List.append_assoc]; exact ih.snoc hn
theorem Cuts.size {k : Conf4} {s r : ByteArray} {cs : List ByteArray} (h : Cuts k s cs r) : r.size ≤ s.size := by have := h.len; omega
end Go.Proofs.Ytigfioknmcjbbaa
