/- The walks over package crc: step, More, Sum. -/
import Derived.Test.YtdbappehchgbcaaGreatProg
import Derived.Test.YtdbappehchgbcaaGreatZBase
namespace Go.Proofs.YtdbappehchgbcaaGreat
open Go.RowKit

def stepN (x : Nat) : Nat := x / 2 ^^^ (if x % 2 = 1 then 3988292384 else 0)
theorem stepN_lt (x : Nat) (hx : x < 4294967296) : stepN x < 4294967296 := by
  unfold stepN; exact xor_lt32 (by omega) (by split <;> omega)
theorem step_form (x : Nat) (hx : x < 4294967296) :
    bits BinOp.xor IntKind.u32 ((x : Int) / 2) (bits BinOp.and IntKind.u32 3988292384 (-bits BinOp.and IntKind.u32 x 1 % 4294967296)) = ((stepN x : Nat) : Int) := by
  have h1 : bits BinOp.and IntKind.u32 (x : Int) 1 = ((x % 2 : Nat) : Int) := by
    rw [show (1 : Int) = ((1 : Nat) : Int) from rfl, u32_and_nat x 1 hx (by omega), Nat.and_one_is_mod]
  rw [h1]
  unfold stepN
  by_cases h : x % 2 = 1
  · rw [h, if_pos rfl]
    rw [show (-((1 : Nat) : Int) % 4294967296) = ((4294967295 : Nat) : Int) from by decide, show (3988292384 : Int) = ((3988292384 : Nat) : Int) from rfl, u32_and_nat _ _ (by omega) (by omega),
      show ((x : Int) / 2) = ((x / 2 : Nat) : Int) from by omega, u32_xor_nat _ _ (by omega) (by decide)]
    rfl
  · rw [show x % 2 = 0 from by omega, if_neg (by omega)]
    rw [show (-((0 : Nat) : Int) % 4294967296) = ((0 : Nat) : Int) from by decide, show (3988292384 : Int) = ((3988292384 : Nat) : Int) from rfl, u32_and_nat _ _ (by omega) (by omega),
      show ((x : Int) / 2) = ((x / 2 : Nat) : Int) from by omega, u32_xor_nat _ _ (by omega) (by decide)]
    rfl
set_option maxHeartbeats 400000 in
theorem step_any (x : Nat) (hx : x < 4294967296) (w : World) :
    Calls Tryz.prog 94 #[.int .u32 x] w fun e w' => e = .returned (.int .u32 (stepN x : Nat)) ∧ w = w' := by
  go_enter Tryz.func94, Tryz.ntmps94
  go_wp2
  go_ret
  exact ⟨ret_int (step_form x hx), rfl⟩

def byteN (c : Nat) (b : UInt8) : Nat := iter stepN 8 (c ^^^ b.toNat)
def moreN (c : Nat) (l : List UInt8) : Nat := l.foldl byteN c
theorem iter_lt (n x : Nat) (hx : x < 4294967296) : iter stepN n x < 4294967296 := by
  induction n with
  | zero => exact hx
  | succ n ih => exact stepN_lt _ ih
theorem byteN_lt (x : Nat) (b : UInt8) (hx : x < 4294967296) : byteN x b < 4294967296 :=
  iter_lt _ _ (xor_lt32 hx (by have := b.toNat_lt; omega))
theorem moreN_lt (l : List UInt8) (x : Nat) (hx : x < 4294967296) : moreN x l < 4294967296 := by
  induction l generalizing x with
  | nil => exact hx
  | cons b l ih => exact ih _ (byteN_lt x b hx)
theorem moreN_snoc (c : Nat) (s : ByteArray) (k : Nat) (h : k < s.size) : moreN c (s.data.toList.take (k + 1)) = byteN (moreN c (s.data.toList.take k)) s[k] := by
  rw [take_snoc s k h]; simp [moreN]
/-- 'More', as a number: of x (the sum so far) and a list of bytes. -/
def crcMore (x : Nat) (l : List UInt8) : Nat := 4294967295 - moreN (4294967295 - x) l
theorem crcMore_lt (x : Nat) (l : List UInt8) : crcMore x l < 4294967296 := by unfold crcMore; omega
set_option maxHeartbeats 400000 in
theorem more_any (x : Nat) (hx : x < 4294967296) (s : ByteArray) (hs : s.size ≤ maxLen) (w : World) :
    Calls Tryz.prog 85 #[.int .u32 x, .string s] w fun e w' => e = .returned (.int .u32 (crcMore x s.data.toList : Nat)) ∧ w = w' := by
  unfold maxLen at hs
  have hx' : 4294967295 - x < 4294967296 := by omega
  go_enter Tryz.func85, Tryz.ntmps85
  go_wp2
  go_loop [5, 6, 11] (fun c _ i => ∃ k : Nat, k ≤ s.size ∧ i = .int .i64 k ∧ c = .int .u32 (moreN (4294967295 - x) (s.data.toList.take k) : Nat)) (fun _ _ i => s.size - (intOf i).toNat)
  case atStart => exact ⟨0, Nat.zero_le _, rfl, rfl⟩
  case round =>
    obtain ⟨k, hk, rfl, rfl⟩ := hrel
    have hm := moreN_lt (s.data.toList.take k) _ hx'
    by_cases hlt : k < s.size
    · have hsn := moreN_snoc (4294967295 - x) s k hlt
      generalize moreN (4294967295 - x) (s.data.toList.take k) = c at hm hsn
      have HS := Go.Lib.hid hsn; clear hsn
      have hb : s[k].toNat < 4294967296 := by have := s[k].toNat_lt; omega
      have hc0 : c ^^^ s[k].toNat < 4294967296 := xor_lt32 hm hb
      go_wp2
      go_loop [5, 20] (fun c' j => ∃ m : Nat, m ≤ 8 ∧ j = .int .i64 m ∧ c' = .int .u32 (iter stepN m (c ^^^ s[k].toNat) : Nat)) (fun _ j => 8 - (intOf j).toNat)
      case atStart => exact ⟨0, by omega, rfl, rfl⟩
      case round =>
        obtain ⟨m, hm8, rfl, rfl⟩ := hrel
        have hlt2 := iter_lt m _ hc0
        by_cases h8 : m < 8
        · go_wp2_with (go_at_call 94; refine (step_any _ hlt2 _).mono ?_; rintro e w' ⟨rfl, rfl⟩)
          go_round
          case rel => exact ⟨m + 1, by omega, by go_num, rfl⟩
          case measure => simp [intOf]; omega
        · obtain rfl : m = 8 := by omega
          go_wp2_with fail
          go_round
          case rel => exact ⟨k + 1, by omega, by go_num, by rw [HS.out]; rfl⟩
          case measure => simp [intOf]; omega
    · obtain rfl : k = s.size := by omega
      go_wp2
      go_ret
      refine ⟨ret_int ?_, rfl⟩
      unfold crcMore
      rw [List.take_of_length_le (by simp)]
set_option maxHeartbeats 400000 in
theorem sum_any (s : ByteArray) (hs : s.size ≤ maxLen) (w : World) :
    Calls Tryz.prog 58 #[.string s] w fun e w' => e = .returned (.int .u32 (crcMore 0 s.data.toList : Nat)) ∧ w = w' := by
  go_enter Tryz.func58, Tryz.ntmps58
  go_wp2_with (go_at_call 85; refine (more_any 0 (by omega) _ hs _).mono ?_; rintro e w' ⟨rfl, rfl⟩)
  go_ret
  exact ⟨rfl, rfl⟩
end Go.Proofs.YtdbappehchgbcaaGreat
