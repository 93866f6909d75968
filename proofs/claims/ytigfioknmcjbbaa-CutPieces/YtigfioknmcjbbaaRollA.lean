/- The walks over package roll: top, add, drop, Sum, Slide; and the document's Sum, Slide. -/
import Derived.Test.YtigfioknmcjbbaaProg
import Derived.Test.YtigfioknmcjbbaaOwn
namespace Go.Proofs.Ytigfioknmcjbbaa
open Go.RowKit

def addN (h b : Nat) : Nat := (h * 257 + b + 1) % 2147483647
def dropN (h o : Nat) : Nat := (h + 2147483647 - (o + 1) * 1079017218 % 2147483647) % 2147483647
theorem addN_lt (h b : Nat) : addN h b < 2147483647 := Nat.mod_lt _ (by omega)
theorem dropN_lt (h b : Nat) : dropN h b < 2147483647 := Nat.mod_lt _ (by omega)
def powP (k : Nat) : Nat := 257 ^ k % 2147483647
theorem powP_succ (k : Nat) : powP (k + 1) = powP k * 257 % 2147483647 := by
  unfold powP; rw [Nat.pow_succ, Nat.mod_mul_mod]
theorem powP_lt (k : Nat) : powP k < 2147483647 := Nat.mod_lt _ (by omega)
theorem powP_top : powP 15 = 1079017218 := by decide
set_option maxHeartbeats 400000 in
theorem top_any (w : World) : Calls Try.prog 37 #[] w fun e w' => e = .returned (.int .u64 1079017218) ∧ w = w' := by
  go_enter Try.func37, Try.ntmps37
  go_wp2
  go_loop [1, 2] (fun p i => ∃ k : Nat, k ≤ 15 ∧ i = .int .i64 k ∧ p = .int .u64 (powP k : Nat)) (fun _ i => 15 - (intOf i).toNat)
  case atStart => exact ⟨0, by omega, rfl, rfl⟩
  case round =>
    obtain ⟨k, hk, rfl, rfl⟩ := hrel
    by_cases hlt : k < 15
    · have hp := powP_lt k
      have HS := Go.Lib.hid (powP_succ k)
      generalize powP k = p at hp HS
      go_wp2
      go_round
      case rel => exact ⟨k + 1, by omega, by go_num, by rw [HS.out]; go_num⟩
      case measure => simp [intOf]; omega
    · obtain rfl : k = 15 := by omega
      go_wp2
      go_ret
      exact ⟨ret_int (by rw [powP_top]; rfl), rfl⟩
set_option maxHeartbeats 400000 in
theorem add_any (h b : Nat) (hh : h < 4294967296) (hb : b < 256) (w : World) :
    Calls Try.prog 36 #[.int .u64 h, .int .u8 b] w fun e w' => e = .returned (.int .u64 (addN h b : Nat)) ∧ w = w' := by
  have hv : ((addN h b : Nat) : Int) = ((h : Int) * 257 + b + 1) % 2147483647 := by unfold addN; omega
  have HV := Go.Lib.hid hv; clear hv
  go_enter Try.func36, Try.ntmps36
  go_wp2
  go_ret
  exact ⟨ret_int HV.out.symm, rfl⟩
set_option maxHeartbeats 400000 in
theorem drop_any (h o : Nat) (hh : h < 4294967296) (ho : o < 256) (w : World) :
    Calls Try.prog 35 #[.int .u64 h, .int .u8 o] w fun e w' => e = .returned (.int .u64 (dropN h o : Nat)) ∧ w = w' := by
  have hv : ((dropN h o : Nat) : Int) = ((h : Int) + 2147483647 - ((o : Int) + 1) * 1079017218 % 2147483647) % 2147483647 := by unfold dropN; omega
  have HV := Go.Lib.hid hv; clear hv
  go_enter Try.func35, Try.ntmps35
  go_wp2_with (go_at_call 37; refine (top_any _).mono ?_; rintro e w' ⟨rfl, rfl⟩)
  go_ret
  exact ⟨ret_int HV.out.symm, rfl⟩

/-- The hash of some bytes; of a text's last sixteen. -/
def hashL (l : List UInt8) : Nat := l.foldl (fun h b => addN h b.toNat) 0
def lastL (l : List UInt8) : List UInt8 := l.drop (l.length - 16)
def rollL (l : List UInt8) : Nat := hashL (lastL l)
theorem hashL_snoc (l : List UInt8) (b : UInt8) : hashL (l ++ [b]) = addN (hashL l) b.toNat := by simp [hashL]
theorem hashL_lt (l : List UInt8) : hashL l < 2147483647 := by
  rcases List.eq_nil_or_concat l with h | ⟨l', b, h⟩
  · subst h; simp [hashL]
  · rw [h, List.concat_eq_append, hashL_snoc]; exact addN_lt _ _
theorem rollL_lt (l : List UInt8) : rollL l < 2147483647 := hashL_lt _
theorem hash_take (s : ByteArray) (k : Nat) (h : k < s.size) : hashL (s.data.toList.take (k + 1)) = addN (hashL (s.data.toList.take k)) s[k].toNat := by
  rw [take_snoc s k h, hashL_snoc]
theorem drop_take_snoc (s : ByteArray) (f k : Nat) (hf : f ≤ k) (h : k < s.size) : hashL ((s.data.toList.take (k + 1)).drop f) = addN (hashL ((s.data.toList.take k).drop f)) s[k].toNat := by
  rw [take_snoc s k h, List.drop_append_of_le_length (by simp; omega), hashL_snoc]
set_option maxHeartbeats 400000 in
theorem RSum_any (s : ByteArray) (hs : s.size ≤ maxLen) (w : World) :
    Calls Try.prog 33 #[.string s] w fun e w' => e = .returned (.int .u32 (rollL s.data.toList : Nat)) ∧ w = w' := by
  unfold maxLen at hs
  have hsl : s.data.toList.length = s.size := by simp
  obtain ⟨f, hf⟩ : ∃ f, s.size - 16 = f := ⟨_, rfl⟩
  have hfs : f ≤ s.size := by omega
  have hv : hashL ((s.data.toList.take s.size).drop f) = rollL s.data.toList := by
    rw [List.take_of_length_le (by omega), rollL, lastL, hsl, hf]
  have HV := Go.Lib.hid hv
  clear hv hsl
  by_cases h16 : s.size < 16
  · have h0 : f = 0 := by omega
    subst h0
    rw [List.drop_zero] at HV
    have hlt16 : (s.size : Int) - 16 < 0 := by omega
    clear hf
    go_enter Try.func33, Try.ntmps33
    go_wp2
    go_loop [4, 5] (fun h i => ∃ k : Nat, 0 ≤ k ∧ k ≤ s.size ∧ i = .int .i64 k ∧ h = .int .u64 (hashL (s.data.toList.take k) : Nat)) (fun _ i => s.size - (intOf i).toNat)
    case atStart => exact ⟨0, by omega, by omega, rfl, rfl⟩
    case round =>
      obtain ⟨k, hfk, hk, rfl, rfl⟩ := hrel
      have hl := hashL_lt (s.data.toList.take k)
      by_cases hlt : k < s.size
      · have HS := Go.Lib.hid (hash_take s k hlt)
        generalize hashL (s.data.toList.take k) = h at hl HS
        have hb : s[k].toNat < 256 := s[k].toNat_lt
        have hv : ((addN h s[k].toNat : Nat) : Int) = ((h : Int) * 257 + s[k].toNat + 1) % 2147483647 := by unfold addN; omega
        have HA := Go.Lib.hid hv; clear hv
        go_wp2
        go_round
        case rel => exact ⟨k + 1, by omega, by omega, by go_num, by rw [HS.out, HA.out]⟩
        case measure => simp [intOf]; omega
      · obtain rfl : k = s.size := by omega
        go_wp2
        go_ret
        exact ⟨ret_int (by rw [HV.out]), rfl⟩
  · have e1 : ((s.size : Int) - 16) = f := by omega
    have hge : 0 ≤ (f : Int) := by omega
    clear hf
    go_enter Try.func33, Try.ntmps33
    go_wp2
    go_loop [4, 5] (fun h i => ∃ k : Nat, f ≤ k ∧ k ≤ s.size ∧ i = .int .i64 k ∧ h = .int .u64 (hashL ((s.data.toList.take k).drop f) : Nat)) (fun _ i => s.size - (intOf i).toNat)
    case atStart => exact ⟨f, by omega, by omega, rfl, by rw [List.drop_of_length_le (by simp; omega)]; rfl⟩
    case round =>
      obtain ⟨k, hfk, hk, rfl, rfl⟩ := hrel
      have hl := hashL_lt ((s.data.toList.take k).drop f)
      by_cases hlt : k < s.size
      · have HS := Go.Lib.hid (drop_take_snoc s f k hfk hlt)
        generalize hashL ((s.data.toList.take k).drop f) = h at hl HS
        have hb : s[k].toNat < 256 := s[k].toNat_lt
        have hv : ((addN h s[k].toNat : Nat) : Int) = ((h : Int) * 257 + s[k].toNat + 1) % 2147483647 := by unfold addN; omega
        have HA := Go.Lib.hid hv; clear hv
        go_wp2
        go_round
        case rel => exact ⟨k + 1, by omega, by omega, by go_num, by rw [HS.out, HA.out]⟩
        case measure => simp [intOf]; omega
      · obtain rfl : k = s.size := by omega
        go_wp2
        go_ret
        exact ⟨ret_int (by rw [HV.out]), rfl⟩
end Go.Proofs.Ytigfioknmcjbbaa
