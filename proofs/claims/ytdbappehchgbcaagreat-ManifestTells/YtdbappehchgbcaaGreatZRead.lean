/- The reader of package pack, and the document's. -/
import Derived.Test.YtdbappehchgbcaaGreatZSxT
import Derived.Test.YtdbappehchgbcaaGreatZSxb
import Derived.Test.YtdbappehchgbcaaGreatZPack
import Derived.Laws.BitsAllLaws
namespace Go.Proofs.YtdbappehchgbcaaGreat
open Go.RowKit

/-- A number, the lowest byte first. -/
def leV : List UInt8 → Nat
  | [] => 0
  | b :: r => b.toNat + 256 * leV r
theorem leV_lt : ∀ l : List UInt8, leV l < 2 ^ (8 * l.length)
  | [] => by simp [leV]
  | b :: r => by
    have h := leV_lt r
    have hb := b.toNat_lt
    rw [List.length_cons, show 8 * (r.length + 1) = 8 * r.length + 8 from by omega, Nat.pow_add]
    simp only [leV]
    generalize 2 ^ (8 * r.length) = q at h ⊢
    omega
theorem leV_snoc : ∀ (l : List UInt8) (b : UInt8), leV (l ++ [b]) = leV l + 2 ^ (8 * l.length) * b.toNat
  | [], b => by simp [leV]
  | c :: r, b => by
    rw [List.cons_append, leV, leV_snoc r b, leV, List.length_cons, show 8 * (r.length + 1) = 8 * r.length + 8 from by omega, Nat.pow_add]
    generalize 2 ^ (8 * r.length) = q
    rw [Nat.mul_add, Nat.add_assoc, show 256 * (q * b.toNat) = q * 2 ^ 8 * b.toNat from by rw [show (256 : Nat) = 2 ^ 8 from rfl]; ac_rfl]
/-- What is read, what is left, and the error. -/
def takeR (n : Nat) (l : List UInt8) (e : Int) : List UInt8 × List UInt8 × Int := if e ≠ 0 then ([], l, e) else if l.length < n then ([], [], 10) else (l.take n, l.drop n, 0)
theorem mk_extract (l : List UInt8) (a b : Nat) : (⟨l.toArray⟩ : ByteArray).extract a b = ⟨((l.take b).drop a).toArray⟩ := by
  apply ByteArray.ext
  apply Array.ext'
  rw [Go.Lib.extract_data]
  simp [List.drop_take]
theorem mk_size (l : List UInt8) : (⟨l.toArray⟩ : ByteArray).size = l.length := rfl
theorem or_byte (m b i : Nat) (hm : m < 2 ^ (8 * i)) (hb : b < 256) (hi : i < 8) : bitI .or .u64 (m : Nat) ((2 ^ (8 * i) * b : Nat) : Int) = ((m + 2 ^ (8 * i) * b : Nat) : Int) := by
  have hq : 2 ^ (8 * i) * 256 ≤ 18446744073709551616 := by
    have : 2 ^ (8 * i) * 2 ^ 8 ≤ 2 ^ 64 := by rw [← Nat.pow_add]; exact Nat.pow_le_pow_right (by omega) (by omega)
    simpa using this
  have hor : m ||| 2 ^ (8 * i) * b = m + 2 ^ (8 * i) * b := by rw [Nat.or_comm, ← Nat.two_pow_add_eq_or_of_lt hm b, Nat.add_comm]
  have hs : m + 2 ^ (8 * i) * b < 18446744073709551616 := by
    have : 2 ^ (8 * i) * b + 2 ^ (8 * i) ≤ 2 ^ (8 * i) * 256 := by rw [← Nat.mul_succ]; exact Nat.mul_le_mul_left _ hb
    omega
  have h := u64_or_nat m (2 ^ (8 * i) * b) (by omega) (by omega)
  rw [hor] at h
  exact h
theorem leV_take (l : List UInt8) (i : Nat) (hi : i < l.length) : leV (l.take (i + 1)) = leV (l.take i) + 2 ^ (8 * i) * (l.getD i 0).toNat := by
  rw [List.take_add_one, List.getElem?_eq_getElem hi]
  simp only [Option.toList_some]
  rw [leV_snoc, List.length_take, Nat.min_eq_left (by omega)]
  simp [List.getD, List.getElem?_eq_getElem hi]
section
variable {W : World} {M : List Nat} {H : Hp} {w : World}
/-- A reader's entry. -/
def rdE (b : Nat) (l : List UInt8) (e : Int) : Ent := .blk b 107 [.string ⟨l.toArray⟩, .int .i64 e]
theorem Read_sat (hs : Sat W M H w) (s : ByteArray) :
    Calls Tryz.prog 34 #[.string s] w fun e w' => ∃ g, e = .returned (.pointer (some ⟨g, 0, none⟩)) ∧ Sat W M (rdE g s.data.toList 0 :: H) w' := by
  refine sx_fn (S := SX) (N := 6) Tryz.func34 rfl rfl rfl hs ?_
  ((try refine sx_use ?_); (repeat (refine SxNew.mk fun _ => ?_; (try refine sx_use ?_))))
  exact SxDone.mk fun w' hs => ⟨_, rfl, hs⟩
theorem Err_sat (hs : Sat W M H w) (p b : Nat) (l : List UInt8) (e : Int) (hp : H[p]? = some (rdE b l e)) :
    Calls Tryz.prog 61 #[.pointer (some ⟨b, 0, none⟩)] w fun en w' => en = .returned (.int .i64 e) ∧ Sat W M H w' := by
  refine sx_fn (S := SX) (N := 9) Tryz.func61 rfl rfl rfl hs ?_
  ((try refine sx_use ?_); (repeat (refine SxNew.mk fun _ => ?_; (try refine sx_use ?_))))
  refine SxRun.pEqNil Tryz.underlying74 ?_
  ((try refine sx_use ?_); (repeat (refine SxNew.mk fun _ => ?_; (try refine sx_use ?_))))
  refine SxLd.blk p hp rfl ?_
  ((try refine sx_use ?_); (repeat (refine SxNew.mk fun _ => ?_; (try refine sx_use ?_))))
  exact SxDone.mk fun w' hs => ⟨rfl, hs⟩
theorem fail_sat (hs : Sat W M H w) (p b : Nat) (l : List UInt8) (e k : Int) (hp : H[p]? = some (rdE b l e)) :
    Calls Tryz.prog 59 #[.pointer (some ⟨b, 0, none⟩), .int .i64 k] w fun en w' => en = .returned (.tuple #[]) ∧ Sat W M (H.set p (rdE b [] (if e = 0 then k else e))) w' := by
  have hpl : p < H.length := (List.getElem?_eq_some_iff.1 hp).1
  refine sx_fn (S := SX) (N := 16) Tryz.func59 rfl rfl rfl hs ?_
  ((try refine sx_use ?_); (repeat (refine SxNew.mk fun _ => ?_; (try refine sx_use ?_))))
  refine SxSt.blk p hp rfl rfl rfl ?_
  ((try refine sx_use ?_); (repeat (refine SxNew.mk fun _ => ?_; (try refine sx_use ?_))))
  refine SxLd.blk p (List.getElem?_set_self hpl) rfl ?_
  ((try refine sx_use ?_); (repeat (refine SxNew.mk fun _ => ?_; (try refine sx_use ?_))))
  refine SxIf.eq (fun he => ?_) (fun he => ?_)
  · ((try refine sx_use ?_); (repeat (refine SxNew.mk fun _ => ?_; (try refine sx_use ?_))))
    refine SxSt.blk p (List.getElem?_set_self hpl) rfl rfl rfl ?_
    ((try refine sx_use ?_); (repeat (refine SxNew.mk fun _ => ?_; (try refine sx_use ?_))))
    refine SxDone.mk fun w' hs => ⟨rfl, ?_⟩
    rw [List.set_set] at hs
    rw [if_pos he]
    exact hs
  · ((try refine sx_use ?_); (repeat (refine SxNew.mk fun _ => ?_; (try refine sx_use ?_))))
    refine SxDone.mk fun w' hs => ⟨rfl, ?_⟩
    rw [if_neg he]
    exact hs
theorem Take_sat (hs : Sat W M H w) (p b : Nat) (l : List UInt8) (e : Int) (hp : H[p]? = some (rdE b l e)) (n : Nat) (hn : n ≤ 1000000000) :
    Calls Tryz.prog 35 #[.pointer (some ⟨b, 0, none⟩), .int .i64 n] w fun en w' => en = .returned (.string ⟨(takeR n l e).1.toArray⟩) ∧ Sat W M (H.set p (rdE b (takeR n l e).2.1 (takeR n l e).2.2)) w' := by
  have hpl : p < H.length := (List.getElem?_eq_some_iff.1 hp).1
  refine sx_fn (S := SX) (N := 47) Tryz.func35 rfl rfl rfl hs ?_
  ((try refine sx_use ?_); (repeat (refine SxNew.mk fun _ => ?_; (try refine sx_use ?_))))
  refine SxRun.pEqNil Tryz.underlying74 ?_
  ((try refine sx_use ?_); (repeat (refine SxNew.mk fun _ => ?_; (try refine sx_use ?_))))
  refine SxLd.blk p hp rfl ?_
  ((try refine sx_use ?_); (repeat (refine SxNew.mk fun _ => ?_; (try refine sx_use ?_))))
  refine SxIf.ne (fun he => ?_) (fun he => ?_)
  · ((try refine sx_use ?_); (repeat (refine SxNew.mk fun _ => ?_; (try refine sx_use ?_))))
    refine SxDone.mk fun w' hs => ⟨?_, ?_⟩
    · unfold takeR; rw [if_pos he]; rfl
    · unfold takeR; rw [if_pos he, ← (List.getElem?_eq_some_iff.1 hp).2, List.set_getElem_self]; exact hs
  · subst he
    ((try refine sx_use ?_); (repeat (refine SxNew.mk fun _ => ?_; (try refine sx_use ?_))))
    refine SxLd.blk p hp rfl ?_
    ((try refine sx_use ?_); (repeat (refine SxNew.mk fun _ => ?_; (try refine sx_use ?_))))
    refine SxIf.dec (fun h => ?_) (fun h => ?_)
    · rw [mk_size] at h
      have ht : takeR n l 0 = ([], [], 10) := by unfold takeR; rw [if_neg (by simp), if_pos (by omega)]
      ((try refine sx_use ?_); (repeat (refine SxNew.mk fun _ => ?_; (try refine sx_use ?_))))
      refine SxCall.mk fun w hs => (fail_sat hs p b l 0 10 hp).mono ?_
      rintro e w' ⟨rfl, hs'⟩
      refine ⟨_, _, rfl, hs', ?_⟩
      ((try refine sx_use ?_); (repeat (refine SxNew.mk fun _ => ?_; (try refine sx_use ?_))))
      refine SxDone.mk fun w' hs => ⟨?_, ?_⟩
      · rw [ht]; rfl
      · rw [ht]; exact hs
    · rw [mk_size] at h
      have ht : takeR n l 0 = (l.take n, l.drop n, 0) := by unfold takeR; rw [if_neg (by simp), if_neg (by omega)]
      ((try refine sx_use ?_); (repeat (refine SxNew.mk fun _ => ?_; (try refine sx_use ?_))))
      refine SxLd.blk p hp rfl ?_
      ((try refine sx_use ?_); (repeat (refine SxNew.mk fun _ => ?_; (try refine sx_use ?_))))
      refine SxBnd.mk 0 n rfl rfl (Nat.zero_le _) (by rw [mk_size]; omega) ?_
      ((try refine sx_use ?_); (repeat (refine SxNew.mk fun _ => ?_; (try refine sx_use ?_))))
      refine SxLd.blk p hp rfl ?_
      ((try refine sx_use ?_); (repeat (refine SxNew.mk fun _ => ?_; (try refine sx_use ?_))))
      refine SxBnd.mk n l.length rfl rfl (by omega) (by rw [mk_size]; omega) ?_
      ((try refine sx_use ?_); (repeat (refine SxNew.mk fun _ => ?_; (try refine sx_use ?_))))
      refine SxSt.blk p hp rfl rfl rfl ?_
      ((try refine sx_use ?_); (repeat (refine SxNew.mk fun _ => ?_; (try refine sx_use ?_))))
      refine SxDone.mk fun w' hs => ⟨?_, ?_⟩
      · rw [ht, mk_extract]; rfl
      · rw [ht, mk_extract, List.take_of_length_le (Nat.le_refl _)] at *; exact hs
theorem number_sat (hs : Sat W M H w) (p b : Nat) (l : List UInt8) (e : Int) (hp : H[p]? = some (rdE b l e)) (n : Nat) (hn : n ≤ 8) :
    Calls Tryz.prog 60 #[.pointer (some ⟨b, 0, none⟩), .int .i64 n] w fun en w' => en = .returned (.int .u64 (leV (takeR n l e).1 : Nat)) ∧ Sat W M (H.set p (rdE b (takeR n l e).2.1 (takeR n l e).2.2)) w' := by
  have hpl : p < H.length := (List.getElem?_eq_some_iff.1 hp).1
  have htl : (takeR n l e).1.length ≤ n := by
    unfold takeR
    split
    · simp
    · split
      · simp
      · simp; omega
  refine sx_fn (S := SX) (N := 27) Tryz.func60 rfl rfl rfl hs ?_
  ((try refine sx_use ?_); (repeat (refine SxNew.mk fun _ => ?_; (try refine sx_use ?_))))
  refine SxCall.mk fun w hs => (Take_sat hs p b l e hp n (by omega)).mono ?_
  rintro en w' ⟨rfl, hs'⟩
  refine ⟨_, _, rfl, hs', ?_⟩
  generalize takeR n l e = r at htl hs' ⊢
  ((try refine sx_use ?_); (repeat (refine SxNew.mk fun _ => ?_; (try refine sx_use ?_))))
  refine SxCode.loop (σ := Nat) [13, 6] [14, 15, 7, 16, 17, 18, 19, 20, 21, 22, 23, 24, 6, 25, 13] (fun k => [.int .i64 (k : Nat), .int .u64 (leV (r.1.take k) : Nat)]) (fun _ => _) (fun k => k ≤ r.1.length) (fun k => r.1.length - k) 0 (allI _) rfl rfl (pickH_all _) (nodupB_all _) (Nat.zero_le _) (fun k hk => ?_)
  ((try refine sx_use ?_); (repeat (refine SxNew.mk fun _ => ?_; (try refine sx_use ?_))))
  refine SxIf.dec (fun h => ?_) (fun h => ?_)
  · rw [mk_size] at h
    have hlt : k < r.1.length := by omega
    have hk8 : k < 8 := by omega
    have hd : r.1.toArray.toList.getD k 0 = r.1.getD k 0 := rfl
    have hv := leV_lt (r.1.take k)
    rw [List.length_take, Nat.min_eq_left (by omega)] at hv
    have hb := (r.1.getD k 0).toNat_lt
    have ho := or_byte (leV (r.1.take k)) (r.1.getD k 0).toNat k hv hb hk8
    rw [← leV_take r.1 k hlt] at ho
    ((try refine sx_use ?_); (repeat (refine SxNew.mk fun _ => ?_; (try refine sx_use ?_))))
    refine SxIdx.mk k rfl (by rw [mk_size]; exact hlt) ?_
    ((try refine sx_use ?_); (repeat (refine SxNew.mk fun _ => ?_; (try refine sx_use ?_))))
    refine SxRng.u64 (Int.natCast_nonneg _) (by show (((r.1.getD k 0).toNat : Nat) : Int) < _; omega) ?_
    ((try refine sx_use ?_); (repeat (refine SxNew.mk fun _ => ?_; (try refine sx_use ?_))))
    have hq : 2 ^ (8 * k) * (r.1.getD k 0).toNat < 18446744073709551616 := by
      have h1 : 2 ^ (8 * k) * 2 ^ 8 ≤ 2 ^ 64 := by rw [← Nat.pow_add]; exact Nat.pow_le_pow_right (by omega) (by omega)
      have h2 : 2 ^ (8 * k) * ((r.1.getD k 0).toNat + 1) ≤ 2 ^ (8 * k) * 256 := Nat.mul_le_mul_left _ (by omega)
      have h3 := Nat.two_pow_pos (8 * k)
      rw [Nat.mul_succ] at h2
      omega
    refine SxQ.mk ((2 ^ (8 * k) * (r.1.getD k 0).toNat : Nat) : Int) ?_ ?_
    · rw [show min (8 * k) IntKind.u64.bits = 8 * k from Nat.min_eq_left (by show 8 * k ≤ 64; omega)]
      show (((r.1.getD k 0).toNat : Nat) : Int) * 2 ^ (8 * k) = _
      rw [Int.natCast_mul, Int.natCast_pow, Int.mul_comm]
      rfl
    refine SxRng.u64 (Int.natCast_nonneg _) (by omega) ?_
    ((try refine sx_use ?_); (repeat (refine SxNew.mk fun _ => ?_; (try refine sx_use ?_))))
    exact SxRound.mk (k + 1) (allI _) (by rw [← ho]; rfl) (pickH_all _) (nodupB_all _) (by omega) (by omega)
  · rw [mk_size] at h
    obtain rfl : k = r.1.length := by omega
    rw [List.take_length]
    ((try refine sx_use ?_); (repeat (refine SxNew.mk fun _ => ?_; (try refine sx_use ?_))))
    exact SxDone.mk fun w' hs => ⟨rfl, hs⟩
theorem takeR_len (n : Nat) (l : List UInt8) (e : Int) : (takeR n l e).1.length ≤ n := by
  unfold takeR
  split
  · simp
  · split
    · simp
    · simp; omega
theorem leV_take2 (l : List UInt8) (e : Int) : leV (takeR 2 l e).1 < 65536 := by
  have h := leV_lt (takeR 2 l e).1
  have h2 := takeR_len 2 l e
  have : 2 ^ (8 * (takeR 2 l e).1.length) ≤ 2 ^ 16 := Nat.pow_le_pow_right (by omega) (by omega)
  simp only [Nat.reducePow] at this
  omega
theorem leV_take4 (l : List UInt8) (e : Int) : leV (takeR 4 l e).1 < 4294967296 := by
  have h := leV_lt (takeR 4 l e).1
  have h2 := takeR_len 4 l e
  have : 2 ^ (8 * (takeR 4 l e).1.length) ≤ 2 ^ 32 := Nat.pow_le_pow_right (by omega) (by omega)
  simp only [Nat.reducePow] at this
  omega
theorem U16_sat (hs : Sat W M H w) (p b : Nat) (l : List UInt8) (e : Int) (hp : H[p]? = some (rdE b l e)) :
    Calls Tryz.prog 37 #[.pointer (some ⟨b, 0, none⟩)] w fun en w' => en = .returned (.int .u16 (leV (takeR 2 l e).1 : Nat)) ∧ Sat W M (H.set p (rdE b (takeR 2 l e).2.1 (takeR 2 l e).2.2)) w' := by
  have hlt := leV_take2 l e
  refine sx_fn (S := SX) (N := 6) Tryz.func37 rfl rfl rfl hs ?_
  ((try refine sx_use ?_); (repeat (refine SxNew.mk fun _ => ?_; (try refine sx_use ?_))))
  refine SxCall.mk fun w hs => (number_sat hs p b l e hp 2 (by omega)).mono ?_
  rintro en w' ⟨rfl, hs'⟩
  refine ⟨_, _, rfl, hs', ?_⟩
  ((try refine sx_use ?_); (repeat (refine SxNew.mk fun _ => ?_; (try refine sx_use ?_))))
  refine SxRng.u16 (by omega) (by omega) ?_
  ((try refine sx_use ?_); (repeat (refine SxNew.mk fun _ => ?_; (try refine sx_use ?_))))
  exact SxDone.mk fun w' hs => ⟨rfl, hs⟩
theorem U32_sat (hs : Sat W M H w) (p b : Nat) (l : List UInt8) (e : Int) (hp : H[p]? = some (rdE b l e)) :
    Calls Tryz.prog 36 #[.pointer (some ⟨b, 0, none⟩)] w fun en w' => en = .returned (.int .u32 (leV (takeR 4 l e).1 : Nat)) ∧ Sat W M (H.set p (rdE b (takeR 4 l e).2.1 (takeR 4 l e).2.2)) w' := by
  have hlt := leV_take4 l e
  refine sx_fn (S := SX) (N := 6) Tryz.func36 rfl rfl rfl hs ?_
  ((try refine sx_use ?_); (repeat (refine SxNew.mk fun _ => ?_; (try refine sx_use ?_))))
  refine SxCall.mk fun w hs => (number_sat hs p b l e hp 4 (by omega)).mono ?_
  rintro en w' ⟨rfl, hs'⟩
  refine ⟨_, _, rfl, hs', ?_⟩
  ((try refine sx_use ?_); (repeat (refine SxNew.mk fun _ => ?_; (try refine sx_use ?_))))
  refine SxRng.u32 (by omega) (by omega) ?_
  ((try refine sx_use ?_); (repeat (refine SxNew.mk fun _ => ?_; (try refine sx_use ?_))))
  exact SxDone.mk fun w' hs => ⟨rfl, hs⟩
theorem PU16_any (n : Nat) (hn : n < 65536) (w : World) :
    Calls Tryz.prog 30 #[.int .u16 n] w fun e w' => e = .returned (.string ⟨(numL n 2).toArray⟩) ∧ Below w.heap.size w w' := by
  refine sx_fn (S := SX) (M := []) (N := 6) (H0 := []) Tryz.func30 rfl rfl rfl (Sat.nil _ _) ?_
  ((try refine sx_use ?_); (repeat (refine SxNew.mk fun _ => ?_; (try refine sx_use ?_))))
  refine SxRng.u64 (by omega) (by omega) ?_
  ((try refine sx_use ?_); (repeat (refine SxNew.mk fun _ => ?_; (try refine sx_use ?_))))
  refine SxCall.quiet (number_any n (by omega) 2 (by omega)) ?_
  ((try refine sx_use ?_); (repeat (refine SxNew.mk fun _ => ?_; (try refine sx_use ?_))))
  exact SxDone.mk fun w' hs => ⟨rfl, hs.touch.below⟩
end
end Go.Proofs.YtdbappehchgbcaaGreat
