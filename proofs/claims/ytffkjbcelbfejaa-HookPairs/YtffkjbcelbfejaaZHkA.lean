/- Fingerprints: 32 bytes; bits. -/
import Derived.Test.YtffkjbcelbfejaaZSxT
import Derived.Test.YtffkjbcelbfejaaZSxb
import Derived.Laws.BitsAllLaws
namespace Go.Proofs.Ytffkjbcelbfejaa
open Go.RowKit

def bV (b : UInt8) : Value := .int .u8 (b.toNat : Int)
def fpC (f : List UInt8) : List Value := f.map bV
def fpV (f : List UInt8) : Value := .agg (fpC f).toArray
def txH (l : List UInt8) : Value := .string ⟨l.toArray⟩
theorem mkh_size (l : List UInt8) : (⟨l.toArray⟩ : ByteArray).size = l.length := by simp [ByteArray.size]
theorem mkh_extract (l : List UInt8) (a b : Nat) : (⟨l.toArray⟩ : ByteArray).extract a b = ⟨((l.drop a).take (b - a)).toArray⟩ := by
  apply ByteArray.ext
  rw [ByteArray.data_extract]
  simp
theorem mkh_append (l m : List UInt8) : (⟨l.toArray⟩ : ByteArray) ++ (⟨m.toArray⟩ : ByteArray) = ⟨(l ++ m).toArray⟩ := by
  apply ByteArray.ext; simp
theorem fpC_get {f : List UInt8} {i : Nat} (h : i < f.length) : (fpC f)[i]? = some (bV (f.getD i 0)) := by
  unfold fpC
  rw [List.getElem?_map, List.getD_eq_getElem?_getD, List.getElem?_eq_getElem h]
  rfl
theorem fpC_len (f : List UInt8) : (fpC f).length = f.length := List.length_map ..
theorem getD_lt (f : List UInt8) (i : Nat) : (f.getD i 0).toNat < 256 := (f.getD i 0).toNat_lt
theorem take_succD {f : List UInt8} {i : Nat} (h : i < f.length) : f.take (i + 1) = f.take i ++ [f.getD i 0] := by
  rw [List.take_add_one, List.getD_eq_getElem?_getD, List.getElem?_eq_getElem h]; rfl
theorem bitI_or32 (a y : Nat) (ha : a < 4294967296) (h8 : a % 256 = 0) (hy : y < 256) : bitI .or .u32 (a : Nat) (y : Nat) = ((a + y : Nat) : Int) := by
  have h : a ||| y = a + y := by
    have := Nat.two_pow_add_eq_or_of_lt (i := 8) hy (a / 256)
    rw [show 2 ^ 8 * (a / 256) = a by omega] at this
    exact this.symm
  have h2 := u32_or_nat a y ha (by omega)
  rw [h] at h2
  exact h2
theorem bitI_or8 (a y : Nat) (ha : a < 256) (h4 : a % 16 = 0) (hy : y < 16) : bitI .or .u8 (a : Nat) (y : Nat) = ((a + y : Nat) : Int) := by
  have h : a ||| y = a + y := by
    have := Nat.two_pow_add_eq_or_of_lt (i := 4) hy (a / 16)
    rw [show 2 ^ 4 * (a / 16) = a by omega] at this
    exact this.symm
  have h2 := u8_or_nat a y ha (by omega)
  rw [h] at h2
  exact h2
theorem bitI_and15 (a : Nat) (ha : a < 256) : bitI .and .u8 (a : Nat) 15 = ((a % 16 : Nat) : Int) := by
  have h : a &&& 15 = a % 16 := Nat.and_two_pow_sub_one_eq_mod a 4
  have h2 := u8_and_nat a 15 ha (by omega)
  rw [h] at h2
  exact h2
/-- The first bytes as a number. -/
def beV (l : List UInt8) : Nat := l.foldl (fun n b => n * 256 + b.toNat) 0
theorem beV_snoc (l : List UInt8) (b : UInt8) : beV (l ++ [b]) = beV l * 256 + b.toNat := by simp [beV, List.foldl_append]
theorem beV_lt : ∀ (k : Nat) (f : List UInt8), beV (f.take k) < 256 ^ k
  | 0, f => by simp [beV]
  | k + 1, f => by
    have ih := beV_lt k f
    by_cases h : k < f.length
    · rw [take_succD h, beV_snoc, Nat.pow_succ]
      have := getD_lt f k
      omega
    · rw [List.take_of_length_le (by omega)]
      rw [List.take_of_length_le (by omega)] at ih
      rw [Nat.pow_succ]; omega
theorem Num_any (f : List UInt8) (hf : f.length = 32) (w : World) : Calls Try.prog 10 #[fpV f] w fun e w' => e = .returned (.int .u32 (beV (f.take 4) : Nat)) ∧ Below w.heap.size w w' := by
  refine sx_fn (S := SX) (M := []) (N := 19) (H0 := []) Try.func10 rfl rfl rfl (Sat.nil _ _) ?_
  ((try refine sx_use ?_); (repeat (refine SxNew.mk fun _ => ?_; (try refine sx_use ?_))))
  rename_i b
  refine SxBnd.mk 0 4 rfl rfl (by omega) (by omega) fun off' ho => ?_
  obtain rfl : off' = 0 := ho (by omega)
  ((try refine sx_use ?_); (repeat (refine SxNew.mk fun _ => ?_; (try refine sx_use ?_))))
  refine SxCode.loop (σ := Nat) [8, 3] [9, 10, 11, 5, 12, 13, 14, 15, 16, 3, 17, 8] (fun k => [.int .i64 (k : Nat), .int .u32 (beV (f.take k) : Nat)]) (fun _ => [.blk b 23 (fpC f)]) (fun k => k ≤ 4) (fun k => 4 - k) 0 [0] rfl rfl rfl rfl (Nat.zero_le _) ?_
  rintro k hk
  dsimp only
  ((try refine sx_use ?_); (repeat (refine SxNew.mk fun _ => ?_; (try refine sx_use ?_))))
  refine SxIf.dec (fun h => ?_) (fun h => ?_)
  · have hlt : k < 4 := by omega
    have hb := beV_lt k f
    have hp : 256 ^ k ≤ 256 ^ 3 := Nat.pow_le_pow_right (by omega) (by omega)
    have hg := getD_lt f k
    have hs := beV_snoc (f.take k) (f.getD k 0)
    rw [← take_succD (by omega)] at hs
    ((try refine sx_use ?_); (repeat (refine SxNew.mk fun _ => ?_; (try refine sx_use ?_))))
    refine SxIA.ptr b 0 rfl k rfl hlt ?_
    ((try refine sx_use ?_); (repeat (refine SxNew.mk fun _ => ?_; (try refine sx_use ?_))))
    refine SxLd.blk 0 rfl (v := bV (f.getD k 0)) (by rw [Nat.zero_add, Nat.mul_one]; exact fpC_get (by omega)) ?_
    ((try refine sx_use ?_); (repeat (refine SxNew.mk fun _ => ?_; (try refine sx_use ?_))))
    refine SxQ.shl 256 (by decide) ?_
    ((try refine sx_use ?_); (repeat (refine SxNew.mk fun _ => ?_; (try refine sx_use ?_))))
    have e : ((beV (f.take (k + 1)) : Nat) : Int) = bitI .or .u32 ((beV (f.take k) : Nat) * 256) ((f.getD k 0).toNat : Nat) := by
      rw [show ((beV (f.take k) : Nat) : Int) * 256 = ((beV (f.take k) * 256 : Nat) : Int) by omega, bitI_or32 _ _ (by omega) (by omega) hg, hs]
    refine SxRng.u32 (by omega) (by omega) ?_
    ((try refine sx_use ?_); (repeat (refine SxNew.mk fun _ => ?_; (try refine sx_use ?_))))
    refine SxRng.u32 (by omega) (by omega) ?_
    ((try refine sx_use ?_); (repeat (refine SxNew.mk fun _ => ?_; (try refine sx_use ?_))))
    exact SxRound.mk (k + 1) [0] (by rw [e]; rfl) rfl rfl (by omega) (by omega)
  · obtain rfl : k = 4 := by omega
    ((try refine sx_use ?_); (repeat (refine SxNew.mk fun _ => ?_; (try refine sx_use ?_))))
    exact SxDone.mk fun w' hs => ⟨rfl, hs.touch.below⟩
theorem RNum_any (f : List UInt8) (hf : f.length = 32) (w : World) : Calls Try.prog 11 #[fpV f] w fun e w' => e = .returned (.int .u32 (beV (f.take 4) : Nat)) ∧ Below w.heap.size w w' := by
  refine sx_fn (S := SX) (M := []) (N := 17) (H0 := []) Try.func11 rfl rfl rfl (Sat.nil _ _) ?_
  ((try refine sx_use ?_); (repeat (refine SxNew.mk fun _ => ?_; (try refine sx_use ?_))))
  rename_i b
  refine SxCode.loop (σ := Nat) [4, 3] [5, 6, 9, 10, 11, 12, 13, 14, 15, 3, 7, 8, 4] (fun k => [.int .i64 (k : Nat), .int .u32 (beV (f.take k) : Nat)]) (fun _ => [.blk b 23 (fpC f)]) (fun k => k ≤ 4) (fun k => 4 - k) 0 [0] rfl rfl rfl rfl (Nat.zero_le _) ?_
  rintro k hk
  dsimp only
  ((try refine sx_use ?_); (repeat (refine SxNew.mk fun _ => ?_; (try refine sx_use ?_))))
  refine SxIf.dec (fun h => ?_) (fun h => ?_)
  · have hlt : k < 4 := by omega
    have hb := beV_lt k f
    have hp : 256 ^ k ≤ 256 ^ 3 := Nat.pow_le_pow_right (by omega) (by omega)
    have hg := getD_lt f k
    have hs := beV_snoc (f.take k) (f.getD k 0)
    rw [← take_succD (by omega)] at hs
    ((try refine sx_use ?_); (repeat (refine SxNew.mk fun _ => ?_; (try refine sx_use ?_))))
    refine SxRng.u32 (by omega) (by omega) ?_
    ((try refine sx_use ?_); (repeat (refine SxNew.mk fun _ => ?_; (try refine sx_use ?_))))
    refine SxIdx.mk k rfl (by omega) ?_
    ((try refine sx_use ?_); (repeat (refine SxNew.mk fun _ => ?_; (try refine sx_use ?_))))
    refine SxLd.blk 0 rfl (v := bV (f.getD k 0)) (by rw [Nat.zero_add, Nat.mul_one]; exact fpC_get (by omega)) ?_
    ((try refine sx_use ?_); (repeat (refine SxNew.mk fun _ => ?_; (try refine sx_use ?_))))
    refine SxRng.u32 (by omega) (by omega) ?_
    ((try refine sx_use ?_); (repeat (refine SxNew.mk fun _ => ?_; (try refine sx_use ?_))))
    refine SxRng.u32 (by omega) (by omega) ?_
    ((try refine sx_use ?_); (repeat (refine SxNew.mk fun _ => ?_; (try refine sx_use ?_))))
    exact SxRound.mk (k + 1) [0] (by rw [hs]; rfl) rfl rfl (by omega) (by omega)
  · obtain rfl : k = 4 := by omega
    ((try refine sx_use ?_); (repeat (refine SxNew.mk fun _ => ?_; (try refine sx_use ?_))))
    exact SxDone.mk fun w' hs => ⟨rfl, hs.touch.below⟩
/-- The digits of base 16. -/
def digs : List UInt8 := [48, 49, 50, 51, 52, 53, 54, 55, 56, 57, 97, 98, 99, 100, 101, 102]
def hexB (b : UInt8) : List UInt8 := [digs.getD (b.toNat / 16) 0, digs.getD (b.toNat % 16) 0]
def hexL (f : List UInt8) : List UInt8 := f.flatMap hexB
theorem hexL_snoc (l : List UInt8) (b : UInt8) : hexL (l ++ [b]) = hexL l ++ hexB b := by simp [hexL]
theorem hexL_len : ∀ f : List UInt8, (hexL f).length = 2 * f.length
  | [] => rfl
  | b :: f => by
    have := hexL_len f
    unfold hexL at this ⊢
    rw [List.flatMap_cons, List.length_append, this, List.length_cons]
    simp only [hexB, List.length_cons, List.length_nil]
    omega
theorem digs_cut (x : Nat) (hx : x < 16) : (digs.drop x).take (x + 1 - x) = [digs.getD x 0] := by
  have : x = 0 ∨ x = 1 ∨ x = 2 ∨ x = 3 ∨ x = 4 ∨ x = 5 ∨ x = 6 ∨ x = 7 ∨ x = 8 ∨ x = 9 ∨ x = 10 ∨ x = 11 ∨ x = 12 ∨ x = 13 ∨ x = 14 ∨ x = 15 := by omega
  rcases this with h | h | h | h | h | h | h | h | h | h | h | h | h | h | h | h <;> subst h <;> rfl
theorem RHText_any (f : List UInt8) (hf : f.length = 32) (w : World) : Calls Try.prog 12 #[fpV f] w fun e w' => e = .returned (txH (hexL f)) ∧ Below w.heap.size w w' := by
  refine sx_fn (S := SX) (M := []) (N := 36) (H0 := []) Try.func12 rfl rfl rfl (Sat.nil _ _) ?_
  ((try refine sx_use ?_); (repeat (refine SxNew.mk fun _ => ?_; (try refine sx_use ?_))))
  rename_i b
  refine SxCode.loop (σ := Nat) [5, 4] [6, 7, 10, 11, 12, 13, 14, 15, 16, 17, 18, 19, 20, 21, 22, 23, 24, 25, 26, 27, 28, 29, 30, 31, 32, 33, 34, 4, 8, 9, 5] (fun k => [.int .i64 (k : Nat), txH (hexL (f.take k))]) (fun _ => [.blk b 23 (fpC f)]) (fun k => k ≤ 32) (fun k => 32 - k) 0 [0] rfl rfl rfl rfl (Nat.zero_le _) ?_
  rintro k hk
  dsimp only
  ((try refine sx_use ?_); (repeat (refine SxNew.mk fun _ => ?_; (try refine sx_use ?_))))
  refine SxIf.dec (fun h => ?_) (fun h => ?_)
  · have hlt : k < 32 := by omega
    have hg := getD_lt f k
    have hs := hexL_snoc (f.take k) (f.getD k 0)
    rw [← take_succD (by omega)] at hs
    ((try refine sx_use ?_); (repeat (refine SxNew.mk fun _ => ?_; (try refine sx_use ?_))))
    refine SxCode.draw rfl [.blk b 23 (fpC f)] [] [0] rfl rfl ?_
    have hq := mkh_extract digs ((f.getD k 0).toNat / 16) ((f.getD k 0).toNat / 16 + 1)
    rw [digs_cut _ (by omega)] at hq
    have hr := mkh_extract digs ((f.getD k 0).toNat % 16) ((f.getD k 0).toNat % 16 + 1)
    rw [digs_cut _ (by omega)] at hr
    change (⟨#[48, 49, 50, 51, 52, 53, 54, 55, 56, 57, 97, 98, 99, 100, 101, 102]⟩ : ByteArray).extract _ _ = _ at hq
    change (⟨#[48, 49, 50, 51, 52, 53, 54, 55, 56, 57, 97, 98, 99, 100, 101, 102]⟩ : ByteArray).extract _ _ = _ at hr
    have hl := hexL_len (f.take k)
    rw [List.length_take] at hl
    ((try refine sx_use ?_); (repeat (refine SxNew.mk fun _ => ?_; (try refine sx_use ?_))))
    refine SxIdx.mk k rfl (by omega) ?_
    ((try refine sx_use ?_); (repeat (refine SxNew.mk fun _ => ?_; (try refine sx_use ?_))))
    refine SxLd.blk 0 rfl (v := bV (f.getD k 0)) (by rw [Nat.zero_add, Nat.mul_one]; exact fpC_get (by omega)) ?_
    ((try refine sx_use ?_); (repeat (refine SxNew.mk fun _ => ?_; (try refine sx_use ?_))))
    refine SxRng.u8 (by omega) (by omega) ?_
    ((try refine sx_use ?_); (repeat (refine SxNew.mk fun _ => ?_; (try refine sx_use ?_))))
    refine SxIdx.mk k rfl (by omega) ?_
    ((try refine sx_use ?_); (repeat (refine SxNew.mk fun _ => ?_; (try refine sx_use ?_))))
    refine SxLd.blk 0 rfl (v := bV (f.getD k 0)) (by rw [Nat.zero_add, Nat.mul_one]; exact fpC_get (by omega)) ?_
    ((try refine sx_use ?_); (repeat (refine SxNew.mk fun _ => ?_; (try refine sx_use ?_))))
    refine SxRng.u8 (by omega) (by omega) ?_
    ((try refine sx_use ?_); (repeat (refine SxNew.mk fun _ => ?_; (try refine sx_use ?_))))
    refine SxRng.u8 (by omega) (by omega) ?_
    ((try refine sx_use ?_); (repeat (refine SxNew.mk fun _ => ?_; (try refine sx_use ?_))))
    refine SxBnd.mk ((f.getD k 0).toNat / 16) ((f.getD k 0).toNat / 16 + 1) (by omega) (by omega) (by omega) (by show _ ≤ 16; omega) ?_
    rw [hq]
    ((try refine sx_use ?_); (repeat (refine SxNew.mk fun _ => ?_; (try refine sx_use ?_))))
    refine SxLe.mk (by rw [mkh_size, mkh_size]; simp only [List.length_cons, List.length_nil]; omega) ?_
    rw [mkh_append]
    ((try refine sx_use ?_); (repeat (refine SxNew.mk fun _ => ?_; (try refine sx_use ?_))))
    refine SxIdx.mk k rfl (by omega) ?_
    ((try refine sx_use ?_); (repeat (refine SxNew.mk fun _ => ?_; (try refine sx_use ?_))))
    refine SxLd.blk 0 rfl (v := bV (f.getD k 0)) (by rw [Nat.zero_add, Nat.mul_one]; exact fpC_get (by omega)) ?_
    ((try refine sx_use ?_); (repeat (refine SxNew.mk fun _ => ?_; (try refine sx_use ?_))))
    refine SxIdx.mk k rfl (by omega) ?_
    ((try refine sx_use ?_); (repeat (refine SxNew.mk fun _ => ?_; (try refine sx_use ?_))))
    refine SxLd.blk 0 rfl (v := bV (f.getD k 0)) (by rw [Nat.zero_add, Nat.mul_one]; exact fpC_get (by omega)) ?_
    ((try refine sx_use ?_); (repeat (refine SxNew.mk fun _ => ?_; (try refine sx_use ?_))))
    refine SxRng.u8 (by omega) (by omega) ?_
    ((try refine sx_use ?_); (repeat (refine SxNew.mk fun _ => ?_; (try refine sx_use ?_))))
    refine SxBnd.mk ((f.getD k 0).toNat % 16) ((f.getD k 0).toNat % 16 + 1) (by omega) (by omega) (by omega) (by show _ ≤ 16; omega) ?_
    rw [hr]
    ((try refine sx_use ?_); (repeat (refine SxNew.mk fun _ => ?_; (try refine sx_use ?_))))
    refine SxLe.mk (by rw [mkh_size, mkh_size]; simp only [List.length_cons, List.length_nil, List.length_append]; omega) ?_
    rw [mkh_append, List.append_assoc, show [digs.getD ((f.getD k 0).toNat / 16) 0] ++ [digs.getD ((f.getD k 0).toNat % 16) 0] = hexB (f.getD k 0) from rfl, ← hs]
    ((try refine sx_use ?_); (repeat (refine SxNew.mk fun _ => ?_; (try refine sx_use ?_))))
    exact SxRound.mk (k + 1) [0] rfl rfl rfl (by omega) (by omega)
  · obtain rfl : k = 32 := by omega
    ((try refine sx_use ?_); (repeat (refine SxNew.mk fun _ => ?_; (try refine sx_use ?_))))
    exact SxDone.mk fun w' hs => ⟨by rw [List.take_of_length_le (by omega)]; rfl, hs.touch.below⟩
end Go.Proofs.Ytffkjbcelbfejaa
