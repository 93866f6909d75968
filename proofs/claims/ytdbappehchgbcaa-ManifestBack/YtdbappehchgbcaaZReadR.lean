/- The document's reader. -/
import Derived.Test.YtdbappehchgbcaaZRead
namespace Go.Proofs.Ytdbappehchgbcaa
open Go.RowKit

section
variable {W : World} {M : List Nat} {H : Hp} {w : World}
/-- The document's reader's entry: the text, how far, the error. -/
def rrE (b : Nat) (s : ByteArray) (at_ : Nat) (e : Int) : Ent := .blk b 91 [.string s, .int .i64 at_, .int .i64 e]
theorem Rfail_sat (hs : Sat W M H w) (p b : Nat) (s : ByteArray) (a : Nat) (e k : Int) (hp : H[p]? = some (rrE b s a e)) :
    Calls Try.prog 64 #[.pointer (some ⟨b, 0, none⟩), .int .i64 k] w fun en w' => en = .returned (.tuple #[]) ∧ Sat W M (H.set p (rrE b s (if e = 0 then s.size else a) (if e = 0 then k else e))) w' := by
  have hpl : p < H.length := (List.getElem?_eq_some_iff.1 hp).1
  refine sx_fn (S := SX) (N := 21) Try.func64 rfl rfl rfl hs ?_
  ((try refine sx_use ?_); (repeat (refine SxNew.mk fun _ => ?_; (try refine sx_use ?_))))
  refine SxLd.blk p hp rfl ?_
  ((try refine sx_use ?_); (repeat (refine SxNew.mk fun _ => ?_; (try refine sx_use ?_))))
  refine SxIf.eq (fun he => ?_) (fun he => ?_)
  · ((try refine sx_use ?_); (repeat (refine SxNew.mk fun _ => ?_; (try refine sx_use ?_))))
    refine SxSt.blk p hp rfl rfl rfl ?_
    ((try refine sx_use ?_); (repeat (refine SxNew.mk fun _ => ?_; (try refine sx_use ?_))))
    refine SxLd.blk p (List.getElem?_set_self hpl) rfl ?_
    ((try refine sx_use ?_); (repeat (refine SxNew.mk fun _ => ?_; (try refine sx_use ?_))))
    refine SxSt.blk p (List.getElem?_set_self hpl) rfl rfl rfl ?_
    ((try refine sx_use ?_); (repeat (refine SxNew.mk fun _ => ?_; (try refine sx_use ?_))))
    refine SxDone.mk fun w' hs => ⟨rfl, ?_⟩
    rw [List.set_set] at hs
    rw [if_pos he, if_pos he]
    exact hs
  · ((try refine sx_use ?_); (repeat (refine SxNew.mk fun _ => ?_; (try refine sx_use ?_))))
    refine SxDone.mk fun w' hs => ⟨rfl, ?_⟩
    rw [if_neg he, if_neg he, ← (List.getElem?_eq_some_iff.1 hp).2, List.set_getElem_self]
    exact hs
/-- What the document's reader reads. -/
def takeS (n : Nat) (s : ByteArray) (a : Nat) (e : Int) : List UInt8 × Nat × Int := if e ≠ 0 then ([], a, e) else if s.size - a < n then ([], s.size, 10) else ((s.data.toList.drop a).take n, a + n, 0)
theorem ext_take (s : ByteArray) (a n : Nat) : s.extract a (a + n) = ⟨((s.data.toList.drop a).take n).toArray⟩ := by
  apply ByteArray.ext
  apply Array.ext'
  rw [Go.Lib.extract_data]
  simp
theorem RTake_sat (hs : Sat W M H w) (p b : Nat) (s : ByteArray) (hsz : s.size ≤ maxLen) (a : Nat) (ha : a ≤ s.size) (e : Int) (hp : H[p]? = some (rrE b s a e)) (n : Nat) (hn : n ≤ 1000000000) :
    Calls Try.prog 42 #[.pointer (some ⟨b, 0, none⟩), .int .i64 n] w fun en w' => en = .returned (.string ⟨(takeS n s a e).1.toArray⟩) ∧ Sat W M (H.set p (rrE b s (takeS n s a e).2.1 (takeS n s a e).2.2)) w' := by
  have hpl : p < H.length := (List.getElem?_eq_some_iff.1 hp).1
  unfold maxLen at hsz
  refine sx_fn (S := SX) (N := 54) Try.func42 rfl rfl rfl hs ?_
  ((try refine sx_use ?_); (repeat (refine SxNew.mk fun _ => ?_; (try refine sx_use ?_))))
  refine SxLd.blk p hp rfl ?_
  ((try refine sx_use ?_); (repeat (refine SxNew.mk fun _ => ?_; (try refine sx_use ?_))))
  refine SxIf.ne (fun he => ?_) (fun he => ?_)
  · ((try refine sx_use ?_); (repeat (refine SxNew.mk fun _ => ?_; (try refine sx_use ?_))))
    refine SxDone.mk fun w' hs => ⟨?_, ?_⟩
    · unfold takeS; rw [if_pos he]; rfl
    · unfold takeS; rw [if_pos he, ← (List.getElem?_eq_some_iff.1 hp).2, List.set_getElem_self]; exact hs
  · subst he
    ((try refine sx_use ?_); (repeat (refine SxNew.mk fun _ => ?_; (try refine sx_use ?_))))
    refine SxCode.drawAll rfl [] ?_
    ((try refine sx_use ?_); (repeat (refine SxNew.mk fun _ => ?_; (try refine sx_use ?_))))
    refine SxLd.blk p hp rfl ?_
    ((try refine sx_use ?_); (repeat (refine SxNew.mk fun _ => ?_; (try refine sx_use ?_))))
    refine SxLd.blk p hp rfl ?_
    ((try refine sx_use ?_); (repeat (refine SxNew.mk fun _ => ?_; (try refine sx_use ?_))))
    refine SxIf.dec (fun h => ?_) (fun h => ?_)
    · have ht : takeS n s a 0 = ([], s.size, 10) := by unfold takeS; rw [if_neg (by simp), if_pos (by omega)]
      ((try refine sx_use ?_); (repeat (refine SxNew.mk fun _ => ?_; (try refine sx_use ?_))))
      refine SxCall.mk fun w hs => (Rfail_sat hs p b s a 0 10 hp).mono ?_
      rintro e w' ⟨rfl, hs'⟩
      refine ⟨_, _, rfl, hs', ?_⟩
      ((try refine sx_use ?_); (repeat (refine SxNew.mk fun _ => ?_; (try refine sx_use ?_))))
      refine SxDone.mk fun w' hs => ⟨?_, ?_⟩
      · rw [ht]; rfl
      · rw [ht]; exact hs
    · have ht : takeS n s a 0 = ((s.data.toList.drop a).take n, a + n, 0) := by unfold takeS; rw [if_neg (by simp), if_neg (by omega)]
      ((try refine sx_use ?_); (repeat (refine SxNew.mk fun _ => ?_; (try refine sx_use ?_))))
      refine SxCode.drawAll rfl [] ?_
      ((try refine sx_use ?_); (repeat (refine SxNew.mk fun _ => ?_; (try refine sx_use ?_))))
      refine SxLd.blk p hp rfl ?_
      ((try refine sx_use ?_); (repeat (refine SxNew.mk fun _ => ?_; (try refine sx_use ?_))))
      refine SxLd.blk p hp rfl ?_
      ((try refine sx_use ?_); (repeat (refine SxNew.mk fun _ => ?_; (try refine sx_use ?_))))
      refine SxLd.blk p hp rfl ?_
      ((try refine sx_use ?_); (repeat (refine SxNew.mk fun _ => ?_; (try refine sx_use ?_))))
      refine SxBnd.mk a (a + n) rfl (by omega) (by omega) (by omega) ?_
      ((try refine sx_use ?_); (repeat (refine SxNew.mk fun _ => ?_; (try refine sx_use ?_))))
      refine SxLd.blk p hp rfl ?_
      ((try refine sx_use ?_); (repeat (refine SxNew.mk fun _ => ?_; (try refine sx_use ?_))))
      refine SxSt.blk p hp rfl rfl rfl ?_
      ((try refine sx_use ?_); (repeat (refine SxNew.mk fun _ => ?_; (try refine sx_use ?_))))
      refine SxDone.mk fun w' hs => ⟨?_, ?_⟩
      · rw [ht, ext_take]; rfl
      · rw [ht]; exact hs
/-- The document's number: from the highest byte on. -/
theorem leV_drop (l : List UInt8) (i : Nat) (hi : i < l.length) : leV (l.drop i) = (l.getD i 0).toNat + 256 * leV (l.drop (i + 1)) := by
  rw [List.drop_eq_getElem_cons hi, leV]
  simp [List.getD, List.getElem?_eq_getElem hi]
theorem takeS_len (n : Nat) (s : ByteArray) (a : Nat) (e : Int) : (takeS n s a e).1.length ≤ n := by
  unfold takeS
  split
  · simp
  · split
    · simp
    · simp; omega
theorem RNum_sat (hs : Sat W M H w) (p b : Nat) (s : ByteArray) (hsz : s.size ≤ maxLen) (a : Nat) (ha : a ≤ s.size) (e : Int) (hp : H[p]? = some (rrE b s a e)) (n : Nat) (hn : n ≤ 8) :
    Calls Try.prog 43 #[.pointer (some ⟨b, 0, none⟩), .int .i64 n] w fun en w' => en = .returned (.int .u64 (leV (takeS n s a e).1 : Nat)) ∧ Sat W M (H.set p (rrE b s (takeS n s a e).2.1 (takeS n s a e).2.2)) w' := by
  have htl := takeS_len n s a e
  refine sx_fn (S := SX) (N := 26) Try.func43 rfl rfl rfl hs ?_
  ((try refine sx_use ?_); (repeat (refine SxNew.mk fun _ => ?_; (try refine sx_use ?_))))
  refine SxCall.mk fun w hs => (RTake_sat hs p b s hsz a ha e hp n (by omega)).mono ?_
  rintro en w' ⟨rfl, hs'⟩
  refine ⟨_, _, rfl, hs', ?_⟩
  generalize takeS n s a e = r at htl hs' ⊢
  have hd0 : 0 = leV (r.1.drop r.1.length) := by simp [leV]
  ((try refine sx_use ?_); (repeat (refine SxNew.mk fun _ => ?_; (try refine sx_use ?_))))
  refine SxRng.i64 (by rw [mk_size]; omega) (by rw [mk_size]; omega) ?_
  ((try refine sx_use ?_); (repeat (refine SxNew.mk fun _ => ?_; (try refine sx_use ?_))))
  refine SxCode.loop (σ := Nat) [6, 7] [14, 15, 18, 19, 20, 21, 22, 23, 24, 6, 16, 17, 7] (fun k => [.int .u64 (leV (r.1.drop k) : Nat), .int .i64 ((k : Int) - 1)]) (fun _ => _) (fun k => k ≤ r.1.length) (fun k => k) r.1.length (allI _) rfl ?_ (pickH_all _) (nodupB_all _) (Nat.le_refl _) (fun k hk => ?_)
  · rw [← hd0]; rfl
  ((try refine sx_use ?_); (repeat (refine SxNew.mk fun _ => ?_; (try refine sx_use ?_))))
  refine SxIf.dec (fun h => ?_) (fun h => ?_)
  · have hlt : k - 1 < r.1.length := by omega
    have hv := leV_drop r.1 (k - 1) hlt
    rw [show k - 1 + 1 = k by omega] at hv
    have hv2 := leV_lt (r.1.drop (k - 1))
    rw [List.length_drop] at hv2
    have hle : 2 ^ (8 * (r.1.length - (k - 1))) ≤ 2 ^ 64 := Nat.pow_le_pow_right (by omega) (by omega)
    simp only [Nat.reducePow] at hle
    ((try refine sx_use ?_); (repeat (refine SxNew.mk fun _ => ?_; (try refine sx_use ?_))))
    refine SxRng.u64 (by omega) (by omega) ?_
    ((try refine sx_use ?_); (repeat (refine SxNew.mk fun _ => ?_; (try refine sx_use ?_))))
    refine SxIdx.mk (k - 1) (by omega) (by rw [mk_size]; exact hlt) ?_
    ((try refine sx_use ?_); (repeat (refine SxNew.mk fun _ => ?_; (try refine sx_use ?_))))
    refine SxRng.u64 (Int.natCast_nonneg _) (by have := (r.1.getD (k - 1) 0).toNat_lt; show (((r.1.getD (k - 1) 0).toNat : Nat) : Int) < _; omega) ?_
    ((try refine sx_use ?_); (repeat (refine SxNew.mk fun _ => ?_; (try refine sx_use ?_))))
    refine SxRng.u64 (by have : (0 : Int) ≤ (((r.1.getD (k - 1) 0).toNat : Nat) : Int) := Int.natCast_nonneg _; show 0 ≤ _ + (((r.1.getD (k - 1) 0).toNat : Nat) : Int); omega) (by show _ + (((r.1.getD (k - 1) 0).toNat : Nat) : Int) < _; omega) ?_
    ((try refine sx_use ?_); (repeat (refine SxNew.mk fun _ => ?_; (try refine sx_use ?_))))
    exact SxRound.mk (k - 1) (allI _) (by rw [hv, show ((k - 1 : Nat) : Int) = (k : Int) - 1 by omega, show (((r.1.getD (k - 1) 0).toNat + 256 * leV (r.1.drop k) : Nat) : Int) = (leV (r.1.drop k) : Int) * 256 + (((r.1.getD (k - 1) 0).toNat : Nat) : Int) by omega]; rfl) (pickH_all _) (nodupB_all _) (by omega) (by omega)
  · obtain rfl : k = 0 := by omega
    ((try refine sx_use ?_); (repeat (refine SxNew.mk fun _ => ?_; (try refine sx_use ?_))))
    exact SxDone.mk fun w' hs => ⟨rfl, hs⟩
end
end Go.Proofs.Ytdbappehchgbcaa
