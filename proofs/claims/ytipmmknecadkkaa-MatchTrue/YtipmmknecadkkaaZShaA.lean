/- Plain: the words and rounds of SHA-256 on numbers below 2^32. The walks over RotateLeft32, the package's over, the document's turned. -/
import Derived.Test.YtipmmknecadkkaaZBase
import Derived.Test.YtipmmknecadkkaaProg
import Derived.Deep.QuietTactic
import Derived.BigQuiet
namespace Go.Proofs.Ytipmmknecadkkaa
open Go.RowKit

def M32 : Nat := 4294967296
def rotr (x n : Nat) : Nat := (x / 2 ^ n) ||| (x * 2 ^ (32 - n) % 4294967296)
theorem rotr_lt (x n : Nat) (hx : x < 4294967296) : rotr x n < 4294967296 :=
  Nat.or_lt_two_pow (n := 32) (Nat.lt_of_le_of_lt (Nat.div_le_self _ _) hx) (Nat.mod_lt _ (by omega))
/-- A word turned by two numbers, one over the other, and a third: turned or shifted. -/
def overS (x a b d : Nat) : Nat := rotr x a ^^^ rotr x b ^^^ (x / 2 ^ d)
def overR (x a b c : Nat) : Nat := rotr x a ^^^ rotr x b ^^^ rotr x c
theorem overS_lt (x a b d : Nat) (hx : x < 4294967296) : overS x a b d < 4294967296 :=
  xor_lt32 (xor_lt32 (rotr_lt x a hx) (rotr_lt x b hx)) (Nat.lt_of_le_of_lt (Nat.div_le_self _ _) hx)
theorem overR_lt (x a b c : Nat) (hx : x < 4294967296) : overR x a b c < 4294967296 :=
  xor_lt32 (xor_lt32 (rotr_lt x a hx) (rotr_lt x b hx)) (rotr_lt x c hx)
theorem u32_orI (a b : Int) (x y : Nat) (ha : a = (x : Int)) (hb : b = (y : Int)) (hx : x < 4294967296) (hy : y < 4294967296) : bits BinOp.or IntKind.u32 a b = ((x ||| y : Nat) : Int) := by
  subst ha; subst hb; exact u32_or_nat x y hx hy
theorem u32_xorI (a b : Int) (x y : Nat) (ha : a = (x : Int)) (hb : b = (y : Int)) (hx : x < 4294967296) (hy : y < 4294967296) : bits BinOp.xor IntKind.u32 a b = ((x ^^^ y : Nat) : Int) := by
  subst ha; subst hb; exact u32_xor_nat x y hx hy
theorem rotr_bits (x n : Nat) (hx : x < 4294967296) : bits BinOp.or IntKind.u32 ((x : Int) / 2 ^ n) ((x : Int) * 2 ^ (32 - n) % 4294967296) = (rotr x n : Nat) :=
  u32_orI _ _ (x / 2 ^ n) (x * 2 ^ (32 - n) % 4294967296) (by simp) (by simp) (Nat.lt_of_le_of_lt (Nat.div_le_self _ _) hx) (Nat.mod_lt _ (by omega))
theorem rotl_bits (x n : Nat) (hx : x < 4294967296) (h1 : 1 ≤ n) (h2 : n ≤ 31) : bits BinOp.or IntKind.u32 ((x : Int) * 2 ^ n % 4294967296) ((x : Int) / 2 ^ (32 - n)) = (rotr x (32 - n) : Nat) := by
  rw [u32_orI _ _ (x * 2 ^ n % 4294967296) (x / 2 ^ (32 - n)) (by simp) (by simp) (Nat.mod_lt _ (by omega)) (Nat.lt_of_le_of_lt (Nat.div_le_self _ _) hx), rotr, Nat.or_comm, show 32 - (32 - n) = n by omega]
theorem turned_any (x : Nat) (hx : x < 4294967296) (k : Int) (n : Nat) (hk : k = (n : Int)) (h1 : 1 ≤ n) (h2 : n ≤ 31) (w : World) :
    Calls Try.prog 35 #[.int .u32 (x : Nat), .int .i64 k] w fun e w' => e = .returned (.int .u32 (rotr x n : Nat)) ∧ w = w' := by
  subst hk
  have hr := rotr_bits x n hx
  have HR := Go.Lib.hid hr; clear hr
  go_enter Try.func35, Try.ntmps35
  go_wp2
  go_ret
  exact ⟨ret_int HR.out, rfl⟩
theorem and31 : ∀ a : Nat, a < 32 → 1 ≤ a → bits BinOp.and IntKind.u64 (IntKind.u64.wrap (-(a : Int))) 31 = ((32 - a : Nat) : Int) := by decide +kernel
theorem rotl_any (x : Nat) (hx : x < 4294967296) (k : Int) (n : Nat) (hk : k = -(n : Int)) (h1 : 1 ≤ n) (h2 : n ≤ 31) (w : World) :
    Calls Try.prog 54 #[.int .u32 (x : Nat), .int .i64 k] w fun e w' => e = .returned (.int .u32 (rotr x n : Nat)) ∧ w = w' := by
  have he := and31 n (by omega) h1
  rw [← hk] at he
  obtain ⟨m, hm⟩ : ∃ m, 32 - n = m := ⟨_, rfl⟩
  rw [hm] at he
  have hr := rotl_bits x m hx (by omega) (by omega)
  have h3 : 1 ≤ m ∧ m ≤ 31 := by omega
  have h4 : 32 - m = n := by omega
  rw [h4] at hr
  obtain ⟨h5, h6⟩ := h3
  have HR := Go.Lib.hid hr; have H4 := Go.Lib.hid h4
  clear hr hk hm h4 h1 h2
  go_enter Try.func54, Try.ntmps54
  go_wp2
  go_ret
  exact ⟨ret_int (by rw [← HR.out, H4.out]), rfl⟩
theorem over_s (x : Nat) (hx : x < 4294967296) (a b c d : Int) (ha : 1 ≤ a ∧ a ≤ 31) (hb : 1 ≤ b ∧ b ≤ 31) (hd : 1 ≤ d ∧ d ≤ 31) (w : World) :
    Calls Try.prog 47 #[.int .u32 (x : Nat), .int .i64 a, .int .i64 b, .int .i64 c, .int .i64 d] w fun e w' => e = .returned (.int .u32 (overS x a.toNat b.toNat d.toNat : Nat)) ∧ w = w' := by
  obtain ⟨a1, a2⟩ := ha; obtain ⟨b1, b2⟩ := hb; obtain ⟨d1, d2⟩ := hd
  have r1 := rotr_lt x a.toNat hx
  have r2 := rotr_lt x b.toNat hx
  have r3 := xor_lt32 r1 r2
  have r4 : x / 2 ^ d.toNat < 4294967296 := Nat.lt_of_le_of_lt (Nat.div_le_self _ _) hx
  have hv : ∀ y : Int, y = ((x / 2 ^ d.toNat : Nat) : Int) → bits BinOp.xor IntKind.u32 ((rotr x a.toNat ^^^ rotr x b.toNat : Nat) : Int) y = (overS x a.toNat b.toNat d.toNat : Nat) := fun y hy => u32_xorI _ _ _ _ rfl hy r3 r4
  have HV := Go.Lib.hid hv
  clear hv r3 r4
  go_enter Try.func47, Try.ntmps47
  go_wp2_with fail
  refine (rotl_any x hx _ a.toNat (by omega) (by omega) (by omega) _).mono ?_
  rintro e w1 ⟨rfl, rfl⟩
  go_wp2_with fail
  refine (rotl_any x hx _ b.toNat (by omega) (by omega) (by omega) _).mono ?_
  rintro e w1 ⟨rfl, rfl⟩
  go_wp2_with fail
  go_ret
  exact ⟨ret_int (HV.out _ (by simp)), rfl⟩
theorem over_r (x : Nat) (hx : x < 4294967296) (a b c : Int) (ha : 1 ≤ a ∧ a ≤ 31) (hb : 1 ≤ b ∧ b ≤ 31) (hc : 1 ≤ c ∧ c ≤ 31) (w : World) :
    Calls Try.prog 47 #[.int .u32 (x : Nat), .int .i64 a, .int .i64 b, .int .i64 c, .int .i64 0] w fun e w' => e = .returned (.int .u32 (overR x a.toNat b.toNat c.toNat : Nat)) ∧ w = w' := by
  obtain ⟨a1, a2⟩ := ha; obtain ⟨b1, b2⟩ := hb; obtain ⟨d1, d2⟩ := hc
  have r1 := rotr_lt x a.toNat hx
  have r2 := rotr_lt x b.toNat hx
  have r3 := xor_lt32 r1 r2
  have r4 := rotr_lt x c.toNat hx
  go_enter Try.func47, Try.ntmps47
  go_wp2_with fail
  refine (rotl_any x hx _ a.toNat (by omega) (by omega) (by omega) _).mono ?_
  rintro e w1 ⟨rfl, rfl⟩
  go_wp2_with fail
  refine (rotl_any x hx _ b.toNat (by omega) (by omega) (by omega) _).mono ?_
  rintro e w1 ⟨rfl, rfl⟩
  go_wp2_with fail
  refine (rotl_any x hx _ c.toNat (by omega) (by omega) (by omega) _).mono ?_
  rintro e w1 ⟨rfl, rfl⟩
  go_wp2_with fail
  go_ret
  exact ⟨rfl, rfl⟩
end Go.Proofs.Ytipmmknecadkkaa
