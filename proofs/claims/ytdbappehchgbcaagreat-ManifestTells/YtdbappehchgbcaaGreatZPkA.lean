/- Bytes by package pack, both readers, the builder: what layers share. -/
import Derived.Test.YtdbappehchgbcaaGreatZCrcT
import Derived.Test.YtdbappehchgbcaaGreatZRead
import Derived.Test.YtdbappehchgbcaaGreatZReadR
import Derived.Test.YtdbappehchgbcaaGreatZSxb
import Derived.Test.YtdbappehchgbcaaGreatZStr
namespace Go.Proofs.YtdbappehchgbcaaGreat
open Go.RowKit

def txV (l : List UInt8) : Value := .string ⟨l.toArray⟩
theorem mkr_append (l m : List UInt8) : (⟨l.toArray⟩ : ByteArray) ++ (⟨m.toArray⟩ : ByteArray) = ⟨(l ++ m).toArray⟩ := by
  rw [ByteArray.mk_append_mk]
theorem txR_append (l m : List UInt8) : Value.string ((⟨l.toArray⟩ : ByteArray) ++ (⟨m.toArray⟩ : ByteArray)) = txV (l ++ m) := by rw [mkr_append]; rfl
theorem numL_len (n k : Nat) : (numL n k).length = k := numL_length n k
theorem rc32_any (x : Int) (h : 0 ≤ x ∧ x < 4294967296) (w : World) : Calls Tryz.prog 29 #[.int .u32 x] w fun e w' => e = .returned (txV (numL x.toNat 4)) ∧ Below w.heap.size w w' := by
  obtain ⟨n, rfl⟩ : ∃ n : Nat, x = n := ⟨x.toNat, by omega⟩
  exact U32_any n (by omega) w
theorem rc16_any (x : Int) (h : 0 ≤ x ∧ x < 65536) (w : World) : Calls Tryz.prog 30 #[.int .u16 x] w fun e w' => e = .returned (txV (numL x.toNat 2)) ∧ Below w.heap.size w w' := by
  obtain ⟨n, rfl⟩ : ∃ n : Nat, x = n := ⟨x.toNat, by omega⟩
  exact PU16_any n (by omega) w
theorem numL_leV : ∀ (l : List UInt8), numL (leV l) l.length = l
  | [] => rfl
  | b :: r => by
    have hb := b.toNat_lt
    rw [List.length_cons, numL_succ, leV]
    congr 1
    · unfold numAt
      apply UInt8.toNat_inj.1
      simp
    · rw [show (b.toNat + 256 * leV r) / 256 = leV r by omega]
      exact numL_leV r
theorem leV_num : ∀ (n k : Nat), n < 2 ^ (8 * k) → leV (numL n k) = n
  | n, 0, h => by simp at h; subst h; rfl
  | n, k + 1, h => by
    rw [numL_succ, leV, leV_num (n / 256) k (by
      rw [show 8 * (k + 1) = 8 * k + 8 by omega, Nat.pow_add] at h
      exact Nat.div_lt_of_lt_mul (by rw [Nat.mul_comm]; exact h))]
    have h1 : (numAt n 0).toNat = n % 256 := by unfold numAt; simp
    rw [h1]; omega
theorem takeR_cat (n : Nat) (x l : List UInt8) (h : x.length = n) : takeR n (x ++ l) 0 = (x, l, 0) := by
  subst h
  unfold takeR
  rw [if_neg (by simp), if_neg (by simp)]
  simp
theorem takeR_errR (l : List UInt8) (e : Int) (k : Nat) (h : e ≠ 0) : takeR k l e = ([], l, e) := by unfold takeR; rw [if_pos h]
theorem takeR_inv {n : Nat} {l : List UInt8} {e : Int} (h : (takeR n l e).2.2 = 0) : e = 0 ∧ l = (takeR n l e).1 ++ (takeR n l e).2.1 ∧ (takeR n l e).1.length = n := by
  unfold takeR at h ⊢
  split at h
  · exact absurd h (by assumption)
  · rename_i he
    split at h
    · simp at h
    · rename_i hl
      rw [if_neg he, if_neg hl]
      exact ⟨by omega, (List.take_append_drop n l).symm, by rw [List.length_take]; omega⟩
section
variable {W : World} {M : List Nat} {H : Hp} {w : World}
theorem Left_sat (hs : Sat W M H w) (p b : Nat) (l : List UInt8) (e : Int) (hp : H[p]? = some (rdE b l e)) :
    Calls Tryz.prog 62 #[.pointer (some ⟨b, 0, none⟩)] w fun en w' => en = .returned (.int .i64 (l.length : Nat)) ∧ Sat W M H w' := by
  refine sx_fn (S := SX) (N := 10) Tryz.func62 rfl rfl rfl hs ?_
  ((try refine sx_use ?_); (repeat (refine SxNew.mk fun _ => ?_; (try refine sx_use ?_))))
  refine SxRun.pEqNil Tryz.underlying74 ?_
  ((try refine sx_use ?_); (repeat (refine SxNew.mk fun _ => ?_; (try refine sx_use ?_))))
  refine SxLd.blk p hp rfl ?_
  ((try refine sx_use ?_); (repeat (refine SxNew.mk fun _ => ?_; (try refine sx_use ?_))))
  exact SxDone.mk fun w' hs => ⟨rfl, hs⟩
def endE (l : List UInt8) (e : Int) : Int := if e = 0 ∧ 0 < l.length then 7 else e
theorem End_sat (hs : Sat W M H w) (p b : Nat) (l : List UInt8) (e : Int) (hp : H[p]? = some (rdE b l e)) :
    Calls Tryz.prog 39 #[.pointer (some ⟨b, 0, none⟩)] w fun en w' => en = .returned (.int .i64 (endE l e)) ∧ Sat W M H w' := by
  refine sx_fn (S := SX) (N := 13) Tryz.func39 rfl rfl rfl hs ?_
  ((try refine sx_use ?_); (repeat (refine SxNew.mk fun _ => ?_; (try refine sx_use ?_))))
  refine SxCall.sat H (fun w hs => Err_sat hs p b l e hp) ?_
  ((try refine sx_use ?_); (repeat (refine SxNew.mk fun _ => ?_; (try refine sx_use ?_))))
  refine SxIf.eq (fun he => ?_) (fun he => ?_)
  · subst he
    ((try refine sx_use ?_); (repeat (refine SxNew.mk fun _ => ?_; (try refine sx_use ?_))))
    refine SxCall.sat H (fun w hs => Left_sat hs p b l 0 hp) ?_
    ((try refine sx_use ?_); (repeat (refine SxNew.mk fun _ => ?_; (try refine sx_use ?_))))
    refine SxIf.dec (fun h => ?_) (fun h => ?_)
    · ((try refine sx_use ?_); (repeat (refine SxNew.mk fun _ => ?_; (try refine sx_use ?_))))
      exact SxDone.mk fun w' hs => ⟨by unfold endE; rw [if_pos ⟨rfl, by omega⟩]; rfl, hs⟩
    · ((try refine sx_use ?_); (repeat (refine SxNew.mk fun _ => ?_; (try refine sx_use ?_))))
      refine SxCall.sat H (fun w hs => Err_sat hs p b l 0 hp) ?_
      ((try refine sx_use ?_); (repeat (refine SxNew.mk fun _ => ?_; (try refine sx_use ?_))))
      exact SxDone.mk fun w' hs => ⟨by unfold endE; rw [if_neg (by omega)]; rfl, hs⟩
  · ((try refine sx_use ?_); (repeat (refine SxNew.mk fun _ => ?_; (try refine sx_use ?_))))
    refine SxCall.sat H (fun w hs => Err_sat hs p b l e hp) ?_
    ((try refine sx_use ?_); (repeat (refine SxNew.mk fun _ => ?_; (try refine sx_use ?_))))
    exact SxDone.mk fun w' hs => ⟨by unfold endE; rw [if_neg (fun h => he h.1)]; rfl, hs⟩
end
theorem openL_seal (t : List UInt8) : openL (sealL t) = (t, 0) := by
  have hl : (sealL t).length = t.length + 4 := by unfold sealL; rw [List.length_append, numL_len]
  have ht : (sealL t).take ((sealL t).length - 4) = t := by rw [hl, Nat.add_sub_cancel]; unfold sealL; exact List.take_left' rfl
  unfold openL
  rw [if_neg (by omega), ht, if_pos rfl]
theorem openL_inv {s : List UInt8} (h : (openL s).2 = 0) : sealL (openL s).1 = s := by
  unfold openL at h ⊢
  split at h
  · simp at h
  · rename_i h4
    rw [if_neg h4]
    split at h
    · rename_i h5
      rw [if_pos h5]
      exact h5
    · simp at h
theorem bcopen_any (l : List UInt8) (h : l.length ≤ 1000000) (w : World) : Calls Tryz.prog 33 #[txV l] w fun e w' => e = .returned (.tuple #[txV (openL l).1, .int .i64 (openL l).2]) ∧ Below w.heap.size w w' := Open_any ⟨l.toArray⟩ h w
theorem takeS_R2 (n : Nat) (s : List UInt8) (a : Nat) (e : Int) : takeR n (s.drop a) e = ((takeS n ⟨s.toArray⟩ a e).1, s.drop (takeS n ⟨s.toArray⟩ a e).2.1, (takeS n ⟨s.toArray⟩ a e).2.2) := by
  have hsz : (⟨s.toArray⟩ : ByteArray).size = s.length := mk_size s
  unfold takeR takeS
  rw [hsz, List.length_drop]
  split
  · rfl
  · split
    · simp
    · simp [List.drop_drop]
theorem takeS_le2 (n : Nat) (s : List UInt8) (a : Nat) (e : Int) (h : a ≤ s.length) : (takeS n ⟨s.toArray⟩ a e).2.1 ≤ s.length := by
  have hsz : (⟨s.toArray⟩ : ByteArray).size = s.length := mk_size s
  unfold takeS
  rw [hsz]
  split
  · exact h
  · split
    · exact Nat.le_refl _
    · dsimp only; omega
theorem takeS_errS {n : Nat} {s : ByteArray} {a : Nat} {e : Int} (h : e ≠ 0) : takeS n s a e = ([], a, e) := by unfold takeS; rw [if_pos h]
section
variable {W : World} {M : List Nat} {H : Hp} {w : World}
theorem byteCells_append (l m : List UInt8) : Go.Lib.byteCells (l ++ m) = Go.Lib.byteCells l ++ Go.Lib.byteCells m := by simp [Go.Lib.byteCells]
theorem WS_list (hs : Sat W M H w) (p q b : Nat) (ao : Option Addr) (cap : Nat) (pv : Value) (l m : List UInt8) (hp : H[p]? = some (sbE b pv (.slice ao l.length cap))) (hpv : selfP b pv) (hpq : q ≠ p) (hq : H[q]? = some (.row ao l.length cap 5 1 (Go.Lib.byteCells l))) (hlen : l.length + m.length ≤ 140737488355328) :
    Calls Tryz.prog 28 #[.pointer (some ⟨b, 0, none⟩), txV m] w fun e w' => ∃ ao' cap', e = .returned (.tuple #[.int .i64 (m.length : Nat), .nilIface]) ∧ Sat W M ((H.set q (.row ao' (l ++ m).length cap' 5 1 (Go.Lib.byteCells (l ++ m)))).set p (sbE b (.pointer (some ⟨b, 0, none⟩)) (.slice ao' (l ++ m).length cap'))) w' := by
  have h := WriteString_sat hs p q b ao l.length cap pv (Go.Lib.byteCells l) hp hpv hpq hq ⟨m.toArray⟩ (by rw [mk_size]; exact hlen)
  rw [byteCells_append, List.length_append]
  exact h
theorem String_list (hs : Sat W [] H w) (p q b : Nat) (ao : Option Addr) (cap : Nat) (pv : Value) (l : List UInt8) (hp : H[p]? = some (sbE b pv (.slice ao l.length cap))) (hpv : selfP b pv) (hpq : q ≠ p) (hq : H[q]? = some (.row ao l.length cap 5 1 (Go.Lib.byteCells l))) :
    Calls Tryz.prog 32 #[.pointer (some ⟨b, 0, none⟩)] w fun e w' => e = .returned (txV l) ∧ ∀ H0, Sat W [] H0 W → Sat W [] H0 w' := String_sat hs p q b ao l.length cap pv l hp hpv hpq hq
end
theorem bcseal_any (l : List UInt8) (h : l.length ≤ 1000000) (w : World) : Calls Tryz.prog 31 #[txV l] w fun e w' => e = .returned (txV (sealL l)) ∧ Below w.heap.size w w' := Seal_any ⟨l.toArray⟩ h w
end Go.Proofs.YtdbappehchgbcaaGreat
