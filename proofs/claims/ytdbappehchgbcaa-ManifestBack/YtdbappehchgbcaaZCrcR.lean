/- The walks over the document's answer for crc: Bits, Step, More, Join. -/
import Derived.Test.YtdbappehchgbcaaProg
import Derived.Test.YtdbappehchgbcaaZPack
import Derived.Test.YtdbappehchgbcaaZCrcA
import Derived.Deep.RegionWith
import Derived.RegionTactic
import Derived.ChangeAlike
import Derived.Deep.QuietTactic
import Derived.BigQuiet
namespace Go.Proofs.Ytdbappehchgbcaa
open Go.RowKit

/-- Bit j of a text. -/
def bitAt (l : List UInt8) (j : Nat) : Bool := (l.getD (j / 8) 0).toNat.testBit (j % 8)
theorem bit_of_div (x m : Nat) : (((x / 2 ^ m : Nat) : Int) % 2 == 1) = x.testBit m := by
  rw [Nat.testBit_eq_decide_div_mod_eq]
  generalize x / 2 ^ m = d
  by_cases h : d % 2 = 1
  · simp [h]; omega
  · simp [h]; omega
set_option maxHeartbeats 400000 in
theorem Bits_any (s : ByteArray) (hs : s.size ≤ 1000000) (w : World) :
    Calls Try.prog 62 #[.string s] w fun e w' => e = .returned (.slice (some ⟨w.heap.size, 0, none⟩) (8 * s.size) (8 * s.size)) ∧ Blk w' w.heap.size 4 (tab (8 * s.size) fun j => .bool (bitAt s.data.toList j)) ∧ Below w.heap.size w w' := by
  go_enter Try.func62, Try.ntmps62
  go_wp2_with (at_make; refine wpList_make_blk _ rfl _ _ 108 rfl 4 (.bool false) 1 Try.underlying108 (by kernel_rfl) rfl (8 * s.size) _ rfl rfl (by omega) (by omega) (by unfold maxLen; omega) ?_)
  intro w1 hb hbel hsz
  go_wp2
  go_loopw [4, 5, 6] (fun i _ _ wr => ∃ k : Nat, k ≤ s.size ∧ i = .int .i64 k ∧ Blk wr w.heap.size 4 (tab (8 * s.size) fun j => .bool (if j < 8 * k then bitAt s.data.toList j else false)) ∧ Below w.heap.size w wr) (fun i _ _ _ => s.size - (intOf i).toNat)
  case atStart => exact ⟨0, Nat.zero_le _, rfl, by simpa using hb, hbel⟩
  case round =>
    obtain ⟨k, hk, rfl, hbr, hbelr⟩ := hrel
    clear hb hbel
    by_cases hlt : k < s.size
    · have hg : s.data.toList.getD k 0 = s[k] := by simp [List.getD, hlt]; rfl
      have HG := Go.Lib.hid hg; clear hg
      have hby : s[k].toNat < 256 := s[k].toNat_lt
      obtain ⟨wo, rfl⟩ : ∃ wo : World, wo = wr := ⟨_, rfl⟩
      go_wp2
      go_loopw [5, 6] (fun b j wr => ∃ m : Nat, m ≤ 8 ∧ j = .int .i64 m ∧ b = .int .u8 ((s[k].toNat / 2 ^ m : Nat) : Int) ∧ Blk wr w.heap.size 4 (tab (8 * s.size) fun j => .bool (if j < 8 * k + m then bitAt s.data.toList j else false)) ∧ Below w.heap.size w wr) (fun _ j _ => 8 - (intOf j).toNat)
      case atStart => exact ⟨0, by omega, rfl, by simp, hbr, hbelr⟩
      case round =>
        obtain ⟨m, hm, rfl, rfl, hbi, hbeli⟩ := hrel
        have hd : s[k].toNat / 2 ^ m < 256 := Nat.lt_of_le_of_lt (Nat.div_le_self _ _) hby
        by_cases hm8 : m < 8
        · have hv : bitAt s.data.toList (8 * k + m) = s[k].toNat.testBit m := by
            unfold bitAt
            rw [show (8 * k + m) / 8 = k from by omega, show (8 * k + m) % 8 = m from by omega, HG.out]
          have hbt := bit_of_div s[k].toNat m
          have HP : Hid (s[k].toNat / 2 ^ (m + 1) = s[k].toNat / 2 ^ m / 2) := by show _ = _; rw [Nat.pow_succ, Nat.div_div_eq_div_mul]
          have HV := Go.Lib.hid hv; clear hv
          generalize s[k].toNat / 2 ^ m = d at hd hbt HP
          have HB := Go.Lib.hid hbt; clear hbt
          have hc := hbi.at (8 * k + m) (by omega)
          have hf := hbi.freeAt (8 * k + m) (by omega)
          clear hbr hbelr
          go_wp2
          go_roundw
          case rel =>
            refine ⟨m + 1, by omega, by go_num, ?_, hbi.setTab (8 * k + m) _ _ ?_ ?_, hbeli.setCell (Nat.le_refl _) _⟩
            · rw [HP.out]; go_num
            · rw [if_pos (by omega), HV.out, ← HB.out]
            · intro i _ hne
              by_cases h : i < 8 * k + m
              · rw [if_pos h, if_pos (by omega)]
              · rw [if_neg h, if_neg (by omega)]
          case measure => simp [intOf]; omega
        · obtain rfl : m = 8 := by omega
          clear hbr hbelr
          go_wp2
          go_roundw
          case rel => exact ⟨k + 1, by omega, by go_num, hbi.congr (tab_congr fun j _ => by rw [show 8 * k + 8 = 8 * (k + 1) from by omega]), hbeli⟩
          case measure => simp [intOf]; omega
    · obtain rfl : k = s.size := by omega
      go_wp2
      go_ret
      exact ⟨rfl, hbr.congr (tab_congr fun j hj => by rw [if_pos hj]), hbelr⟩

/-- 'More' by bits: the bits of l from 0 to n, one by one. -/
def bitsTo (l : List UInt8) (c : Nat) : Nat → Nat
  | 0 => c
  | n + 1 => stepN (bitsTo l c n ^^^ (if bitAt l n then 1 else 0))
theorem bitsTo_lt (l : List UInt8) (c : Nat) (hc : c < 4294967296) (n : Nat) : bitsTo l c n < 4294967296 := by
  induction n with
  | zero => exact hc
  | succ n ih => exact stepN_lt _ (xor_lt32 ih (by split <;> omega))
end Go.Proofs.Ytdbappehchgbcaa
