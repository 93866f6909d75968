/- The laws CrcJoins, CrcFar. -/
import Derived.Test.YtalfmnkkganimaaCrcK
namespace Go.Proofs.Ytalfmnkkganimaa
open Go.RowKit

theorem crc_ones (l : List UInt8) : crcMore 0 l = 4294967295 ^^^ moreN 4294967295 l := by
  unfold crcMore
  have h : 4294967295 - 0 = 4294967295 := rfl
  rw [h, not_xor32 _ (moreN_lt l _ (by omega))]
theorem moreN_lin (c : Nat) (l : List UInt8) : moreN c l = iter stepN (8 * l.length) c ^^^ diffTo (bitAt l) (8 * l.length) := by
  rw [← bitsTo_all, bitsTo_lin]
theorem join_eq (a b : List UInt8) : iter stepN (8 * b.length) (crcMore 0 a) ^^^ crcMore 0 b = crcMore 0 (a ++ b) := by
  rw [crc_ones, crc_ones, crc_ones, moreN_append, moreN_lin (moreN 4294967295 a) b, moreN_lin 4294967295 b, iter_xor]
  generalize iter stepN (8 * b.length) 4294967295 = x
  generalize iter stepN (8 * b.length) (moreN 4294967295 a) = y
  generalize diffTo (bitAt b) (8 * b.length) = z
  have h : x ^^^ y ^^^ (4294967295 ^^^ (x ^^^ z)) = (x ^^^ x) ^^^ (4294967295 ^^^ (y ^^^ z)) := by ac_rfl
  rw [h, Nat.xor_self, Nat.zero_xor]
theorem more_eq (a b : List UInt8) : crcMore (crcMore 0 a) b = crcMore 0 (a ++ b) := by
  have h1 := moreN_lt a 4294967295 (by omega)
  unfold crcMore
  have h : 4294967295 - 0 = 4294967295 := rfl
  rw [h, moreN_append, show 4294967295 - (4294967295 - moreN 4294967295 a) = moreN 4294967295 a from by omega]
theorem RSum_of (x : ByteArray) (L : List UInt8) (hx : x = ⟨L.toArray⟩) (h : L.length ≤ 1000000) (w : World) :
    Calls Try.prog 11 #[.string x] w fun e w' => e = .returned (.int .u32 (crcMore 0 L : Nat)) ∧ Below w.heap.size w w' := by
  subst hx
  have h2 := RSum_any ⟨L.toArray⟩ h w
  rw [longSum_eq] at h2
  exact h2
theorem Sum_l2 (l : List UInt8) (h : l.length ≤ 1000000) (w : World) :
    Calls Try.prog 10 #[.string ⟨l.toArray⟩] w fun e w' => e = .returned (.int .u32 (crcMore 0 l : Nat)) ∧ w = w' := Sum_l l h w
theorem More_l (x : Nat) (hx : x < 4294967296) (l : List UInt8) (h : l.length ≤ 1000000) (w : World) :
    Calls Try.prog 12 #[.int .u32 x, .string ⟨l.toArray⟩] w fun e w' => e = .returned (.int .u32 (crcMore x l : Nat)) ∧ w = w' := more_any x hx ⟨l.toArray⟩ (by unfold maxLen; have : (⟨l.toArray⟩ : ByteArray).size = l.length := rfl; omega) w
theorem Join_of (a b : Nat) (ha : a < 4294967296) (hb : b < 4294967296) (n : Int) (hn : -9223372036854775808 ≤ n ∧ n ≤ 9223372036854775807) (y z m : Int) (h1 : y = a) (h2 : z = b) (h3 : m = n) (w : World) :
    Calls Try.prog 23 #[.int .u32 y, .int .u32 z, .int .i64 m] w fun e w' => e = .returned (.int .u32 (iter stepN (8 * n.toNat) a ^^^ b : Nat)) ∧ Below w.heap.size w w' := by
  subst h1 h2 h3; exact Join_any a b ha hb m hn w
set_option maxHeartbeats 1000000 in
theorem CrcJoins_law (s : ByteArray) (hs : s.size ≤ maxLen) (t : ByteArray) (ht : t.size ≤ maxLen) (x : Nat) (hx : x < 4294967296) (y : Nat) (hy : y < 4294967296) (n : Int) (hn : -9223372036854775808 ≤ n ∧ n ≤ 9223372036854775807) (w : World) :
    Calls Try.prog 7 #[.string s, .string t, .int .u32 x, .int .u32 y, .int .i64 n] w fun e w' => e = .returned (.bool true) ∧ Below w.heap.size w w' := by
  obtain ⟨l, hl, hl3⟩ := cutB_list s
  obtain ⟨m, hm, hm3⟩ := cutB_list t
  have h1 : l.length ≤ 1000000 := by omega
  have h2 : m.length ≤ 1000000 := by omega
  have hcl := crcMore_lt 0 l
  have hcm := crcMore_lt 0 m
  have hca := crcMore_lt 0 (l ++ m)
  have hj := join_eq l m
  have hmr := more_eq l m
  have HL := Go.Lib.hid hl; have HM := Go.Lib.hid hm; have HJ := Go.Lib.hid hj; have HR := Go.Lib.hid hmr
  have hcat : (⟨l.toArray⟩ : ByteArray) ++ ⟨m.toArray⟩ = ⟨(l ++ m).toArray⟩ := ByteArray.mk_append_mk _ _
  have hlm : (l ++ m).length ≤ 1000000 := by rw [List.length_append]; omega
  have h400 : -9223372036854775808 ≤ (400 : Int) ∧ (400 : Int) ≤ 9223372036854775807 := by omega
  have HLM := Go.Lib.hid hlm; have HC := Go.Lib.hid hcat
  clear hl hm hj hmr hlm hcat
  go_enter Try.func7, Try.ntmps7
  go_wp2_with (first
    | (go_at_call 9; ((with_reducible refine (cut_any s hs _).mono ?_); rw [HL.out]; rintro e w1 ⟨rfl, rfl⟩))
    | (go_at_call 9; ((with_reducible refine (cut_any t ht _).mono ?_); rw [HM.out]; rintro e w1 ⟨rfl, rfl⟩))
    | (go_at_call 11; refine (RSum_of _ (l ++ m) (by first | exact HC.out | rfl) HLM.out _).mono ?_; rintro e w1 ⟨rfl, hb1⟩)
    | (go_at_call 10; ((with_reducible refine (Sum_l l h1 _).mono ?_); rintro e w1 ⟨rfl, rfl⟩))
    | (go_at_call 10; ((with_reducible refine (Sum_l m h2 _).mono ?_); rintro e w1 ⟨rfl, rfl⟩))
    | (go_at_call 12; ((with_reducible refine (More_l _ hcl m h2 _).mono ?_); rw [HR.out]; rintro e w1 ⟨rfl, rfl⟩))
    | (go_at_call 23; ((with_reducible refine (Join_any _ _ hcl hcm _ (by omega) _).mono ?_); rw [Int.toNat_natCast, HJ.out]; rintro e w1 ⟨rfl, hb1⟩))
    | (go_at_call 23; ((with_reducible refine (Join_any x y hx hy n hn _).mono ?_); rintro e w1 ⟨rfl, hb1⟩))
    | (go_at_call 23; ((with_reducible refine (Join_any x y hx hy 400 h400 _).mono ?_); rintro e w1 ⟨rfl, hb1⟩))
    | (go_at_call 24; ((with_reducible refine (RJoin_any x y hx hy n hn _).mono ?_); rintro e w1 ⟨rfl, rfl⟩))
    | (go_at_call 24; ((with_reducible refine (RJoin_any x y hx hy 400 h400 _).mono ?_); rintro e w1 ⟨rfl, rfl⟩))
    | (go_at_call 14; refine (awake_any _).mono ?_; rintro e w1 ⟨rfl, hb1⟩))
  all_goals
    go_ret
    refine ⟨rfl, ?_⟩
    (repeat (first | exact Below.refl _ _ | assumption | refine kp_drew ?_ | refine kp_drewN ?_ | refine kp_alloc ?_ | refine kp_step ?_ (by assumption)))

theorem far_eq (x n m : Nat) : iter stepN (8 * m) (iter stepN (8 * n) x) = iter stepN (8 * (n + m)) x := by
  rw [← iter_add]; congr 1; omega
theorem iter_step_lt (x n : Nat) (hx : x < 4294967296) : iter stepN n x < 4294967296 := iter_lt n x hx
set_option maxHeartbeats 1000000 in
theorem CrcFar_law (x : Nat) (hx : x < 4294967296) (n : Nat) (hn : n < 65536) (m : Nat) (hm : m < 65536) (w : World) :
    Calls Try.prog 8 #[.int .u32 x, .int .u16 n, .int .u16 m] w fun e w' => e = .returned (.bool true) ∧ Below w.heap.size w w' := by
  have hc := iter_lt (8 * n) x hx
  have HF := Go.Lib.hid (far_eq x n m)
  have h0 : (0 : Nat) < 4294967296 := by omega
  have hz : iter stepN 0 x = x := rfl
  have HZ := Go.Lib.hid hz; clear hz
  go_enter Try.func8, Try.ntmps8
  go_wp2_with fail
  refine (Join_of x 0 hx h0 n (by omega) _ _ _ rfl rfl rfl _).mono ?_
  rw [Nat.xor_zero, Int.toNat_natCast]
  rintro e w1 ⟨rfl, hb1⟩
  go_wp2_with fail
  refine (Join_of (iter stepN (8 * n) x) 0 hc h0 m (by omega) _ _ _ rfl rfl rfl _).mono ?_
  rw [Nat.xor_zero, Int.toNat_natCast, HF.out]
  rintro e w2 ⟨rfl, hb2⟩
  go_wp2_with fail
  refine (Join_of x 0 hx h0 ((n + m : Nat) : Int) (by omega) _ _ _ rfl rfl (by omega) _).mono ?_
  rw [Nat.xor_zero, Int.toNat_natCast]
  rintro e w3 ⟨rfl, hb3⟩
  go_wp2_with fail
  refine (Join_of x 0 hx h0 0 (by omega) _ _ _ rfl rfl rfl _).mono ?_
  rw [Nat.xor_zero, show 8 * (0 : Int).toNat = 0 from rfl, HZ.out]
  rintro e w4 ⟨rfl, hb4⟩
  go_wp2_with (go_at_call 14; refine (awake_any _).mono ?_; rintro e w5 ⟨rfl, hb5⟩)
  go_ret
  refine ⟨rfl, ?_⟩
  (repeat (first | exact Below.refl _ _ | assumption | refine kp_drew ?_ | refine kp_drewN ?_ | refine kp_alloc ?_ | refine kp_step ?_ (by assumption)))
end Go.Proofs.Ytalfmnkkganimaa
