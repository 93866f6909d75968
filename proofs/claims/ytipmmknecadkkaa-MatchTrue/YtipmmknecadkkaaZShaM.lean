/- What a hash holds behind a text, and what its functions do to it. -/
import Derived.Test.YtipmmknecadkkaaZShaL
namespace Go.Proofs.Ytipmmknecadkkaa
open Go.RowKit

theorem fedS_add (l : List UInt8) (s : Nat → Nat) (a b : Nat) : fedS l s (a + b) = fedS (l.drop (64 * a)) (fedS l s a) b := by
  induction b with
  | zero => rfl
  | succ b ih =>
    show blockF ((l.drop (64 * (a + b))).take 64) (fedS l s (a + b)) = blockF (((l.drop (64 * a)).drop (64 * b)).take 64) (fedS (l.drop (64 * a)) (fedS l s a) b)
    rw [ih, List.drop_drop, Nat.mul_add]
theorem fedS_app (l t : List UInt8) (s : Nat → Nat) : ∀ k, 64 * k ≤ l.length → fedS (l ++ t) s k = fedS l s k
  | 0, _ => rfl
  | k + 1, h => by
    show blockF (((l ++ t).drop (64 * k)).take 64) (fedS (l ++ t) s k) = blockF ((l.drop (64 * k)).take 64) (fedS l s k)
    rw [fedS_app l t s k (by omega), List.drop_append_of_le_length (by omega), List.take_append_of_le_length (by simp; omega)]
theorem fed_step (l t : List UInt8) (s : Nat → Nat) : fedS (l.drop (64 * (l.length / 64)) ++ t) (fedS l s (l.length / 64)) ((l.drop (64 * (l.length / 64)) ++ t).length / 64) = fedS (l ++ t) s ((l ++ t).length / 64) := by
  have hlen : (l ++ t).length / 64 = l.length / 64 + (l.drop (64 * (l.length / 64)) ++ t).length / 64 := by simp; omega
  rw [hlen, fedS_add, fedS_app l t s _ (by omega), List.drop_append_of_le_length (by omega)]
theorem fed_rest (l t : List UInt8) : (l.drop (64 * (l.length / 64)) ++ t).drop (64 * ((l.drop (64 * (l.length / 64)) ++ t).length / 64)) = (l ++ t).drop (64 * ((l ++ t).length / 64)) := by
  have hlen : (l ++ t).length / 64 = l.length / 64 + (l.drop (64 * (l.length / 64)) ++ t).length / 64 := by simp; omega
  rw [hlen, Nat.mul_add, ← List.drop_drop, List.drop_append_of_le_length (l₁ := l) (by omega)]
def restB (l : List UInt8) : ByteArray := ⟨(l.drop (64 * (l.length / 64))).toArray⟩
theorem restB_list (l : List UInt8) : (restB l).data.toList = l.drop (64 * (l.length / 64)) := rfl
theorem restB_size (l : List UInt8) : (restB l).size = l.length % 64 := by
  show (l.drop (64 * (l.length / 64))).toArray.size = _
  simp; omega
def HashL (p c : Nat) (l : List UInt8) (w : World) : Prop :=
  Blk w p 90 (tab 11 (hV (cloV c) (fedS l hF (l.length / 64)) (restB l) l.length)) ∧ Blk w c 81 [.pointer (some ⟨p, 0, none⟩)] ∧ p < c
theorem HashL.kept {p c : Nat} {l : List UInt8} {w w' : World} (h : HashL p c l w) (hb : Below w.heap.size w w') : HashL p c l w' := ⟨h.1.kept hb, h.2.1.kept hb, h.2.2⟩
def shaS (l : List UInt8) : Nat → Nat := fedS (l ++ padL l.length) hF ((l ++ padL l.length).length / 64)
def shaV (l : List UInt8) : Value := .agg (tab 32 (sumV (shaS l))).toArray
theorem ba_of {a : ByteArray} {l : List UInt8} (h : a.data.toList = l) : a = ⟨l.toArray⟩ := by
  apply ByteArray.ext
  apply Array.ext'
  simpa using h
theorem NewL_any (w : World) : Calls Try.prog 36 #[] w fun e w' => ∃ p c, e = .returned (.pointer (some ⟨p, 0, none⟩)) ∧ HashL p c [] w' ∧ w.heap.size ≤ p ∧ Below w.heap.size w w' :=
  (New_any w).mono fun _ _ ⟨p, c, he, h1, h2, h3, h4, h5⟩ => ⟨p, c, he, ⟨h1, h2, h3⟩, h4, h5⟩
theorem Write_any (p c : Nat) (l : List UInt8) (str : ByteArray) (hl : l.length + str.size ≤ 900000) (w : World) (hH : HashL p c l w) :
    Calls Try.prog 37 #[.pointer (some ⟨p, 0, none⟩), .string str] w fun e w' => e = .returned (.int .i64 0) ∧ HashL p c (l ++ str.data.toList) w' ∧ Below p w w' := by
  have hr := restB_size l
  refine (Write_cells p c l.length (fedS l hF (l.length / 64)) (fedS_lt _ _ hF_lt _) (restB l) str (by omega) (by omega) w hH.2.2 hH.1 hH.2.1).mono fun e w' h => ⟨h.1, ⟨?_, h.2.blkC, hH.2.2⟩, h.2.low⟩
  have hls : (restB l ++ str).data.toList = l.drop (64 * (l.length / 64)) ++ str.data.toList := by simp [restB]
  have hsz : (restB l ++ str).size = (l.drop (64 * (l.length / 64)) ++ str.data.toList).length := by rw [← hls]; rfl
  have hb := h.2.atP
  rw [hls, hsz, fed_step] at hb
  refine hb.congr ?_
  have e1 : (restB l ++ str).extract (64 * ((l.drop (64 * (l.length / 64)) ++ str.data.toList).length / 64)) (l.drop (64 * (l.length / 64)) ++ str.data.toList).length = restB (l ++ str.data.toList) := by
    refine (ba_of ?_)
    rw [← fed_rest]
    rw [show ∀ (s : ByteArray) (i j : Nat), (s.extract i j).data.toList = (s.data.toList.drop i).take (j - i) from fun s i j => by simp, hls]
    rw [List.take_of_length_le (by simp)]
  rw [e1, List.length_append]
  rfl
theorem SumL_any (p c : Nat) (l : List UInt8) (hl : l.length ≤ 900000) (w : World) (hH : HashL p c l w) :
    Calls Try.prog 38 #[.pointer (some ⟨p, 0, none⟩)] w fun e w' => e = .returned (shaV l) ∧ Below w.heap.size w w' := by
  have hr := restB_size l
  refine (Sum_cells p c l.length (fedS l hF (l.length / 64)) (fedS_lt _ _ hF_lt _) (restB l) (by omega) (by omega) w hH.1).mono fun e w' h => ⟨h.1.trans ?_, h.2⟩
  have hls : (restB l ++ padB l.length).data.toList = l.drop (64 * (l.length / 64)) ++ padL l.length := by simp [restB, padB]
  have hsz : (restB l ++ padB l.length).size = (l.drop (64 * (l.length / 64)) ++ padL l.length).length := by rw [← hls]; rfl
  rw [hls, hsz, fed_step]
  rfl
end Go.Proofs.Ytipmmknecadkkaa
