/- The walks over the document's answer for crc: Bits, Step, More, Join. -/
import Derived.Test.YtalfmnkkganimaaProg
import Derived.Test.YtalfmnkkganimaaPack
import Derived.Test.YtalfmnkkganimaaCrcA
import Derived.Deep.RegionWith
import Derived.RegionTactic
import Derived.ChangeAlike
import Derived.Deep.QuietTactic
import Derived.BigQuiet
namespace Go.Proofs.Ytalfmnkkganimaa
open Go.RowKit

/-- Bit j of a text. -/
def bitAt (l : List UInt8) (j : Nat) : Bool := (l.getD (j / 8) 0).toNat.testBit (j % 8)
theorem bit_of_div (x m : Nat) : (((x / 2 ^ m : Nat) : Int) % 2 == 1) = x.testBit m := by
  rw [Nat.testBit_eq_decide_div_mod_eq]
  generalize x / 2 ^ m = d
  by_cases h : d % 2 = 1
  · simp [h]; omega
  · simp [h]; omega
set_option maxHeartbeats 400000 in
theorem Bits_any (s : ByteArray) (hs : s.size ≤ 1000000) (w : World) :
    Calls Try.prog 25 #[.string s] w fun e w' => e = .returned (.slice (some ⟨w.heap.size, 0, none⟩) (8 * s.size) (8 * s.size)) ∧ Blk w' w.heap.size 4 (tab (8 * s.size) fun j => .bool (bitAt s.data.toList j)) ∧ Below w.heap.size w w' := by
  go_enter Try.func25, Try.ntmps25
  go_wp2_with (at_make; refine wpList_make_blk _ rfl _ _ 41 rfl 4 (.bool false) 1 Try.underlying41 (by kernel_rfl) rfl (8 * s.size) _ rfl rfl (by omega) (by omega) (by unfold maxLen; omega) ?_)
  intro w1 hb hbel hsz
  go_wp2
  go_loopw [4, 5, 6] (fun i _ _ wr => ∃ k : Nat, k ≤ s.size ∧ i = .int .i64 k ∧ Blk wr w.heap.size 4 (tab (8 * s.size) fun j => .bool (if j < 8 * k then bitAt s.data.toList j else false)) ∧ Below w.heap.size w wr) (fun i _ _ _ => s.size - (intOf i).toNat)
  case atStart => exact ⟨0, Nat.zero_le _, rfl, by simpa using hb, hbel⟩
  case round =>
    obtain ⟨k, hk, rfl, hbr, hbelr⟩ := hrel
    clear hb hbel
    by_cases hlt : k < s.size
    · have hg : s.data.toList.getD k 0 = s[k] := by simp [List.getD, hlt]; rfl
      have HG := Go.Lib.hid hg; clear hg
      have hby : s[k].toNat < 256 := s[k].toNat_lt
      obtain ⟨wo, rfl⟩ : ∃ wo : World, wo = wr := ⟨_, rfl⟩
      go_wp2
      go_loopw [5, 6] (fun b j wr => ∃ m : Nat, m ≤ 8 ∧ j = .int .i64 m ∧ b = .int .u8 ((s[k].toNat / 2 ^ m : Nat) : Int) ∧ Blk wr w.heap.size 4 (tab (8 * s.size) fun j => .bool (if j < 8 * k + m then bitAt s.data.toList j else false)) ∧ Below w.heap.size w wr) (fun _ j _ => 8 - (intOf j).toNat)
      case atStart => exact ⟨0, by omega, rfl, by simp, hbr, hbelr⟩
      case round =>
        obtain ⟨m, hm, rfl, rfl, hbi, hbeli⟩ := hrel
        have hd : s[k].toNat / 2 ^ m < 256 := Nat.lt_of_le_of_lt (Nat.div_le_self _ _) hby
        by_cases hm8 : m < 8
        · have hv : bitAt s.data.toList (8 * k + m) = s[k].toNat.testBit m := by
            unfold bitAt
            rw [show (8 * k + m) / 8 = k from by omega, show (8 * k + m) % 8 = m from by omega, HG.out]
          have hbt := bit_of_div s[k].toNat m
          have HP : Hid (s[k].toNat / 2 ^ (m + 1) = s[k].toNat / 2 ^ m / 2) := by show _ = _; rw [Nat.pow_succ, Nat.div_div_eq_div_mul]
          have HV := Go.Lib.hid hv; clear hv
          generalize s[k].toNat / 2 ^ m = d at hd hbt HP
          have HB := Go.Lib.hid hbt; clear hbt
          have hc := hbi.at (8 * k + m) (by omega)
          have hf := hbi.freeAt (8 * k + m) (by omega)
          clear hbr hbelr
          go_wp2
          go_roundw
          case rel =>
            refine ⟨m + 1, by omega, by go_num, ?_, hbi.setTab (8 * k + m) _ _ ?_ ?_, hbeli.setCell (Nat.le_refl _) _⟩
            · rw [HP.out]; go_num
            · rw [if_pos (by omega), HV.out, ← HB.out]
            · intro i _ hne
              by_cases h : i < 8 * k + m
              · rw [if_pos h, if_pos (by omega)]
              · rw [if_neg h, if_neg (by omega)]
          case measure => simp [intOf]; omega
        · obtain rfl : m = 8 := by omega
          clear hbr hbelr
          go_wp2
          go_roundw
          case rel => exact ⟨k + 1, by omega, by go_num, hbi.congr (tab_congr fun j _ => by rw [show 8 * k + 8 = 8 * (k + 1) from by omega]), hbeli⟩
          case measure => simp [intOf]; omega
    · obtain rfl : k = s.size := by omega
      go_wp2
      go_ret
      exact ⟨rfl, hbr.congr (tab_congr fun j hj => by rw [if_pos hj]), hbelr⟩

set_option maxHeartbeats 400000 in
theorem Step_any (x : Nat) (hx : x < 4294967296) (w : World) :
    Calls Try.prog 28 #[.int .u32 x] w fun e w' => e = .returned (.int .u32 (stepN x : Nat)) ∧ w = w' := by
  by_cases h : x % 2 = 1
  · have ht : ((x : Int) % 2 == 1) = true := by simp; omega
    have hv : ((x / 2 ^^^ 3988292384 : Nat) : Int) = ((stepN x : Nat) : Int) := by unfold stepN; rw [if_pos h]
    have HV := Go.Lib.hid hv; clear hv
    have e1 : bits BinOp.xor IntKind.u32 ((x : Int) / 2) 3988292384 = ((x / 2 ^^^ 3988292384 : Nat) : Int) := by
      rw [show (3988292384 : Int) = ((3988292384 : Nat) : Int) from rfl, show ((x : Int) / 2) = ((x / 2 : Nat) : Int) from by omega, u32_xor_nat _ _ (by omega) (by decide)]
    go_enter Try.func28, Try.ntmps28
    go_wp2
    go_ret
    exact ⟨ret_int HV.out, rfl⟩
  · have ht : ((x : Int) % 2 == 1) = false := by simp; omega
    have hv : ((x : Int) / 2) = ((stepN x : Nat) : Int) := by unfold stepN; rw [if_neg h]; simp
    have HV := Go.Lib.hid hv; clear hv
    go_enter Try.func28, Try.ntmps28
    go_wp2
    go_ret
    exact ⟨ret_int HV.out, rfl⟩

/-- 'More' by bits: the bits of l from 0 to n, one by one. -/
def bitsTo (l : List UInt8) (c : Nat) : Nat → Nat
  | 0 => c
  | n + 1 => stepN (bitsTo l c n ^^^ (if bitAt l n then 1 else 0))
theorem bitsTo_lt (l : List UInt8) (c : Nat) (hc : c < 4294967296) (n : Nat) : bitsTo l c n < 4294967296 := by
  induction n with
  | zero => exact hc
  | succ n ih => exact stepN_lt _ (xor_lt32 ih (by split <;> omega))
set_option maxHeartbeats 400000 in
theorem RMore_any (x : Nat) (hx : x < 4294967296) (s : ByteArray) (hs : s.size ≤ 1000000) (w : World) :
    Calls Try.prog 13 #[.int .u32 x, .string s] w fun e w' => e = .returned (.int .u32 (4294967295 - bitsTo s.data.toList (4294967295 - x) (8 * s.size) : Nat)) ∧ Below w.heap.size w w' := by
  have hx' : 4294967295 - x < 4294967296 := by omega
  have e0 : IntKind.u32.wrap (4294967295 - (x : Int)) = ((4294967295 - x : Nat) : Int) := by rw [IntWalk.u32_in _ (by omega)]; omega
  go_enter Try.func13, Try.ntmps13
  go_wp2_with (go_at_call 25; refine (Bits_any s hs _).mono ?_; rintro e w1 ⟨rfl, hb, hbel⟩)
  go_loop [5, 7] (fun c i => ∃ k : Nat, k ≤ 8 * s.size ∧ i = .int .i64 k ∧ c = .int .u32 (bitsTo s.data.toList (4294967295 - x) k : Nat)) (fun _ i => 8 * s.size - (intOf i).toNat)
  case atStart => exact ⟨0, Nat.zero_le _, rfl, by go_num⟩
  case round =>
    obtain ⟨k, hk, rfl, rfl⟩ := hrel
    have hc := bitsTo_lt s.data.toList (4294967295 - x) hx' k
    by_cases hlt : k < 8 * s.size
    · have HS : Hid (bitsTo s.data.toList (4294967295 - x) (k + 1) = stepN (bitsTo s.data.toList (4294967295 - x) k ^^^ (if bitAt s.data.toList k then 1 else 0))) := rfl
      generalize bitsTo s.data.toList (4294967295 - x) k = c at hc HS
      have hcell := hb.at k hlt
      have h1 : c ^^^ 1 < 4294967296 := xor_lt32 hc (by omega)
      have e1 : bits BinOp.xor IntKind.u32 (c : Int) 1 = ((c ^^^ 1 : Nat) : Int) := u32_xor_nat c 1 hc (by omega)
      by_cases hbit : bitAt s.data.toList k = true
      · rw [hbit] at hcell
        have HB := Go.Lib.hid hbit; clear hbit
        go_wp2_with (go_at_call 28; refine (Step_any (c ^^^ 1) h1 _).mono ?_; rintro e w' ⟨rfl, rfl⟩)
        go_round
        case rel => exact ⟨k + 1, by omega, by go_num, by rw [HS.out, HB.out]; rfl⟩
        case measure => simp [intOf]; omega
      · have hbit : bitAt s.data.toList k = false := by simpa using hbit
        rw [hbit] at hcell
        have HB := Go.Lib.hid hbit; clear hbit
        go_wp2_with (go_at_call 28; refine (Step_any c hc _).mono ?_; rintro e w' ⟨rfl, rfl⟩)
        go_round
        case rel => exact ⟨k + 1, by omega, by go_num, by rw [HS.out, HB.out]; simp⟩
        case measure => simp [intOf]; omega
    · obtain rfl : k = 8 * s.size := by omega
      go_wp2
      go_ret
      exact ⟨ret_int (by omega), hbel⟩

set_option maxHeartbeats 400000 in
theorem RJoin_any (a b : Nat) (ha : a < 4294967296) (hb : b < 4294967296) (n : Int) (hn : -9223372036854775808 ≤ n ∧ n ≤ 9223372036854775807) (w : World) :
    Calls Try.prog 24 #[.int .u32 a, .int .u32 b, .int .i64 n] w fun e w' => e = .returned (.int .u32 (iter stepN (8 * n.toNat) a ^^^ b : Nat)) ∧ w = w' := by
  go_enter Try.func24, Try.ntmps24
  go_wp2
  go_loop [0, 7, 8] (fun c i _ => ∃ k : Nat, (k : Int) ≤ n.toNat ∧ i = .int .i64 k ∧ c = .int .u32 (iter stepN (8 * k) a : Nat)) (fun _ i _ => n.toNat - (intOf i).toNat)
  case atStart => exact ⟨0, by omega, rfl, rfl⟩
  case round =>
    obtain ⟨k, hk, rfl, rfl⟩ := hrel
    have hc := iter_lt (8 * k) a ha
    by_cases hlt : (k : Int) < n
    · have HS : ∀ m, Hid (iter stepN (8 * k + m) a = iter stepN m (iter stepN (8 * k) a)) := fun m => by rw [Nat.add_comm]; exact iter_add _ _ _ _
      generalize iter stepN (8 * k) a = c at hc HS
      go_wp2
      go_loop [0, 8] (fun c' j => ∃ m : Nat, m ≤ 8 ∧ j = .int .i64 m ∧ c' = .int .u32 (iter stepN m c : Nat)) (fun _ j => 8 - (intOf j).toNat)
      case atStart => exact ⟨0, by omega, rfl, rfl⟩
      case round =>
        obtain ⟨m, hm8, rfl, rfl⟩ := hrel
        have hlt2 := iter_lt m _ hc
        by_cases h8 : m < 8
        · go_wp2_with (go_at_call 28; refine (Step_any _ hlt2 _).mono ?_; rintro e w' ⟨rfl, rfl⟩)
          go_round
          case rel => exact ⟨m + 1, by omega, by go_num, rfl⟩
          case measure => simp [intOf]; omega
        · obtain rfl : m = 8 := by omega
          go_wp2_with fail
          go_round
          case rel => exact ⟨k + 1, by omega, by go_num, by rw [show 8 * (k + 1) = 8 * k + 8 from by omega, (HS 8).out]⟩
          case measure => simp [intOf]; omega
    · have HE : Hid (n.toNat = k) := by show _ = _; omega
      go_wp2
      go_ret
      exact ⟨ret_int (by rw [HE.out]), rfl⟩
end Go.Proofs.Ytalfmnkkganimaa
