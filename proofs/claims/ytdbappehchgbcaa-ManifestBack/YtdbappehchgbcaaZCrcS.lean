/- The walk over the document's Sum for crc: long division. -/
import Derived.Test.YtdbappehchgbcaaZCrcR
namespace Go.Proofs.Ytdbappehchgbcaa
open Go.RowKit

def polyAt (i : Nat) : Bool := (4374732215 : Nat).testBit (32 - i)
set_option maxHeartbeats 400000 in
theorem poly_any (w : World) :
    Calls Try.prog 63 #[] w fun e w' => e = .returned (.slice (some ⟨w.heap.size, 0, none⟩) 33 33) ∧ Blk w' w.heap.size 4 (tab 33 fun j => .bool (polyAt j)) ∧ Below w.heap.size w w' := by
  go_enter Try.func63, Try.ntmps63
  go_wp2_with (at_make; refine wpList_make_blk _ rfl _ _ 108 rfl 4 (.bool false) 1 Try.underlying108 (by kernel_rfl) rfl 33 _ rfl rfl rfl (by omega) (by unfold maxLen; omega) ?_)
  intro w1 hb hbel hsz
  go_wp2
  go_loopw [1, 3] (fun n i wr => ∃ k : Nat, k ≤ 33 ∧ i = .int .i64 (32 - (k : Int)) ∧ n = .int .u64 ((4374732215 / 2 ^ k : Nat) : Int) ∧ Blk wr w.heap.size 4 (tab 33 fun j => .bool (if 33 ≤ j + k then polyAt j else false)) ∧ Below w.heap.size w wr) (fun _ i _ => (intOf i + 1).toNat)
  case atStart => exact ⟨0, Nat.zero_le _, rfl, rfl, hb.congr (tab_congr fun j hj => by rw [if_neg (by omega)]), hbel⟩
  case round =>
    obtain ⟨k, hk, rfl, rfl, hbr, hbelr⟩ := hrel
    clear hb hbel
    have hd : 4374732215 / 2 ^ k < 4374732216 := Nat.lt_of_le_of_lt (Nat.div_le_self _ _) (by omega)
    by_cases hlt : k < 33
    · have hbt := bit_of_div 4374732215 k
      have HP : Hid (4374732215 / 2 ^ (k + 1) = 4374732215 / 2 ^ k / 2) := by show _ = _; rw [Nat.pow_succ, Nat.div_div_eq_div_mul]
      generalize 4374732215 / 2 ^ k = d at hd hbt HP
      have HB := Go.Lib.hid hbt; clear hbt
      obtain ⟨q, hq⟩ : ∃ q : Nat, (q : Int) = 32 - (k : Int) := ⟨32 - k, by omega⟩
      have HQ := Go.Lib.hid hq
      rw [← hq]
      have hq2 : q < 33 := by omega
      have hqk : q + k = 32 := by omega
      have HQK := Go.Lib.hid hqk
      clear hq hqk
      have hc := hbr.at q hq2
      have hf := hbr.freeAt q hq2
      go_wp2
      go_roundw
      case rel =>
        refine ⟨k + 1, by omega, ?_, ?_, hbr.setTab q _ _ ?_ ?_, hbelr.setCell (Nat.le_refl _) _⟩
        · have := HQ.out; go_num
        · rw [HP.out]; go_num
        · have h1 := HQK.out
          rw [if_pos (by omega), HB.out]
          unfold polyAt
          rw [show 32 - q = k from by omega]
        · intro i _ hne
          have h1 := HQK.out
          by_cases h : 33 ≤ i + k
          · rw [if_pos h, if_pos (by omega)]
          · rw [if_neg h, if_neg (by omega)]
      case measure => have := HQ.out; simp [intOf] <;> omega
    · obtain rfl : k = 33 := by omega
      go_wp2
      go_ret
      exact ⟨rfl, hbr.congr (tab_congr fun j hj => by rw [if_pos (by omega)]), hbelr⟩

/-- One step of the long division at place a, as far as its first m bits. -/
def divPart (a m : Nat) (L : Nat → Bool) : Nat → Bool := fun j => if a ≤ j ∧ j < a + m then L j != polyAt (j - a) else L j
def divTo (L : Nat → Bool) : Nat → Nat → Bool
  | 0 => L
  | a + 1 => if divTo L a a then divPart a 33 (divTo L a) else divTo L a
/-- What is read off at the end, from the highest bit on. -/
def readOff (L : Nat → Bool) (a : Nat) : Nat → Nat
  | 0 => 0
  | m + 1 => readOff L a m * 2 + (if L (a + (31 - m)) then 0 else 1)
theorem readOff_lt (L : Nat → Bool) (a m : Nat) : readOff L a m < 2 ^ m := by
  induction m with
  | zero => simp [readOff]
  | succ m ih => simp only [readOff, Nat.pow_succ]; split <;> omega
def longStart (l : List UInt8) (j : Nat) : Bool := if j < 32 then !(if j < 8 * l.length then bitAt l j else false) else if j < 8 * l.length then bitAt l j else false
def longSum (l : List UInt8) : Nat := readOff (divTo (longStart l) (8 * l.length)) (8 * l.length) 32

set_option maxHeartbeats 1000000 in
theorem RSum_any (s : ByteArray) (hs : s.size ≤ 1000000) (w : World) :
    Calls Try.prog 41 #[.string s] w fun e w' => e = .returned (.int .u32 (longSum s.data.toList : Nat)) ∧ Below w.heap.size w w' := by
  have hsl : s.data.toList.length = s.size := by simp
  obtain ⟨n, hn⟩ : ∃ n, 8 * s.size = n := ⟨_, rfl⟩
  have hnb : n ≤ 8000000 := by omega
  have HN := Go.Lib.hid hn
  have HL := Go.Lib.hid hsl; clear hsl
  go_enter Try.func41, Try.ntmps41
  go_wp2_with (first | (go_at_call 62; refine (Bits_any s hs _).mono ?_; rw [hn]; rintro e w1 ⟨rfl, hb1, hbel1⟩) | (at_builtin; refine wpList_append_zeros _ rfl _ _ 108 3 rfl 4 (.bool false) 1 Try.underlying108 Try.underlying3 (by kernel_rfl) rfl w.heap.size n n _ rfl hb1 rfl 32 rfl (by omega) (by omega) (by unfold maxLen; omega) ?_))
  intro w2 cap hb2 hcap hbel2 hsz2
  clear hn hb1
  obtain ⟨g, hg⟩ : ∃ g, g = w1.heap.size := ⟨_, rfl⟩
  have hgw : w.heap.size ≤ g := by rw [hg]; exact hbel1.size
  have hbel3 := kp_step hbel1 hbel2
  clear hbel1 hbel2
  rw [← hg] at hb2 ⊢
  clear hg
  go_wp2_with (go_at_call 63; refine (poly_any _).mono ?_; rintro e w3 ⟨rfl, hp3, hbel4⟩)
  have hb3 := hb2.kept hbel4
  have hgp : g ≠ w2.heap.size := fun e => by have := hb2.lt; omega
  have hbel5 := kp_step hbel3 hbel4
  have hgpw : w.heap.size ≤ w2.heap.size := hbel3.size
  clear hbel4 hbel3 hb2 hsz2
  generalize w2.heap.size = gp at hp3 hgp hgpw ⊢
  obtain ⟨L0, hL0⟩ : ∃ L0 : Nat → Bool, L0 = fun j => if j < n then bitAt s.data.toList j else false := ⟨_, rfl⟩
  have hb3' : Blk w3 g 4 (tab cap fun j => .bool (L0 j)) := hb3.congr (tab_congr fun j _ => by rw [hL0]; by_cases h : j < n <;> simp [h])
  clear hb3
  have HL0 := Go.Lib.hid hL0; clear hL0
  go_loopw [5] (fun i wr => ∃ k : Nat, k ≤ 32 ∧ i = .int .i64 k ∧ Blk wr g 4 (tab cap fun j => .bool (if j < k then !(L0 j) else L0 j)) ∧ Blk wr gp 4 (tab 33 fun j => .bool (polyAt j)) ∧ Below w.heap.size w wr) (fun i _ => 32 - (intOf i).toNat)
  case atStart => exact ⟨0, by omega, rfl, by simpa using hb3', hp3, hbel5⟩
  case round =>
    obtain ⟨k, hk, rfl, hbr, hpr, hbelr⟩ := hrel
    clear hb3' hp3 hbel5
    by_cases hlt : k < 32
    · have hc := hbr.at k (by omega)
      have hf := hbr.freeAt k (by omega)
      rw [if_neg (by omega)] at hc
      go_wp2
      go_roundw
      case rel =>
        refine ⟨k + 1, by omega, by go_num, hbr.setTab k _ _ ?_ ?_, hpr.other hgp _, hbelr.setCell hgw _⟩
        · rw [if_pos (by omega)]
        · intro i _ hne
          by_cases h : i < k
          · rw [if_pos h, if_pos (by omega)]
          · rw [if_neg h, if_neg (by omega)]
      case measure => simp [intOf]; omega
    · obtain rfl : k = 32 := by omega
      obtain ⟨L, hL⟩ : ∃ L : Nat → Bool, L = longStart s.data.toList := ⟨_, rfl⟩
      have hbr' : Blk wr g 4 (tab cap fun j => .bool (L j)) := hbr.congr (tab_congr fun j _ => by rw [hL, HL0.out]; unfold longStart; rw [HL.out, HN.out])
      have HLL := Go.Lib.hid hL; clear hL hbr
      obtain ⟨wo, rfl⟩ : ∃ wo : World, wo = wr := ⟨_, rfl⟩
      go_wp2_with fail
      go_loopw [6, 7] (fun a _ wr => ∃ k : Nat, k ≤ n ∧ a = .int .i64 k ∧ Blk wr g 4 (tab cap fun j => .bool (divTo L k j)) ∧ Blk wr gp 4 (tab 33 fun j => .bool (polyAt j)) ∧ Below w.heap.size w wr) (fun a _ _ => n - (intOf a).toNat)
      case atStart => exact ⟨0, by omega, rfl, hbr', hpr, hbelr⟩
      case round =>
        obtain ⟨k, hk, rfl, hbq, hpq, hbelq⟩ := hrel
        clear hbr' hpr hbelr
        by_cases hlt2 : k < n
        · have hc := hbq.at k (by omega)
          by_cases hbit : divTo L k k = true
          · rw [hbit] at hc
            have HD : Hid (divTo L (k + 1) = divPart k 33 (divTo L k)) := by show _ = _; simp only [divTo, hbit, if_true]
            have HB := Go.Lib.hid hbit; clear hbit
            generalize divTo L k = M at hbq HD HB
            obtain ⟨wp, rfl⟩ : ∃ wo : World, wo = wr := ⟨_, rfl⟩
            go_wp2_with fail
            go_loopw [7] (fun i wr => ∃ m : Nat, m ≤ 33 ∧ i = .int .i64 m ∧ Blk wr g 4 (tab cap fun j => .bool (divPart k m M j)) ∧ Blk wr gp 4 (tab 33 fun j => .bool (polyAt j)) ∧ Below w.heap.size w wr) (fun i _ => 33 - (intOf i).toNat)
            case atStart => exact ⟨0, by omega, rfl, hbq.congr (tab_congr fun j _ => by unfold divPart; rw [if_neg (by omega)]), hpq, hbelq⟩
            case round =>
              obtain ⟨m, hm, rfl, hbi, hpi, hbeli⟩ := hrel
              clear hbq hpq hbelq hc
              by_cases hm33 : m < 33
              · have hc := hbi.at (k + m) (by omega)
                have hf := hbi.freeAt (k + m) (by omega)
                have hcp := hpi.at m hm33
                have hv : divPart k m M (k + m) = M (k + m) := by unfold divPart; rw [if_neg (by omega)]
                rw [hv] at hc
                clear hv
                go_wp2_with fail
                go_region
                go_wp2_with fail
                go_roundw
                case rel =>
                  refine ⟨m + 1, by omega, by go_num, ?_, ?_, ?_⟩
                  · refine hbi.drew.setTab (k + m) _ _ ?_ ?_
                    · unfold divPart
                      rw [if_pos (by omega), show k + m - k = m from by omega]
                      rfl
                    · intro i _ hne
                      unfold divPart
                      by_cases h : k ≤ i ∧ i < k + m
                      · rw [if_pos h, if_pos (by omega)]
                      · rw [if_neg h, if_neg (by omega)]
                  · exact hpi.drew.other hgp _
                  · exact hbeli.drew.setCell hgw _
                case measure => simp [intOf]; omega
              · obtain rfl : m = 33 := by omega
                go_wp2_with fail
                go_roundw
                case rel => exact ⟨k + 1, by omega, by go_num, by rw [HD.out]; exact hbi, hpi, hbeli⟩
                case measure => simp [intOf]; omega
          · have hbit : divTo L k k = false := by simpa using hbit
            rw [hbit] at hc
            have HD : Hid (divTo L (k + 1) = divTo L k) := by show _ = _; simp only [divTo, hbit, if_false, Bool.false_eq_true]
            clear hbit
            go_wp2_with fail
            go_roundw
            case rel => exact ⟨k + 1, by omega, by go_num, by rw [HD.out]; exact hbq, hpq, hbelq⟩
            case measure => simp [intOf]; omega
        · obtain rfl : k = n := by omega
          have HF : Hid (longSum s.data.toList = readOff (divTo L k) k 32) := by show _ = _; unfold longSum; rw [HL.out, HN.out, HLL.out]
          generalize divTo L k = M at hbq HF
          go_wp2_with fail
          go_loop [8, 9] (fun q j => ∃ m : Nat, m ≤ 32 ∧ j = .int .i64 (31 - (m : Int)) ∧ q = .int .u32 (readOff M k m : Nat)) (fun _ j => (intOf j + 1).toNat)
          case atStart => exact ⟨0, by omega, rfl, rfl⟩
          case round =>
            obtain ⟨m, hm, rfl, rfl⟩ := hrel
            have hr := readOff_lt M k m
            by_cases hm32 : m < 32
            · have hp : 2 ^ m ≤ 2147483648 := Nat.pow_le_pow_right (n := 2) (by omega) (show m ≤ 31 by omega)
              have hr2 : readOff M k m < 2147483648 := by omega
              clear hr hp
              obtain ⟨q, hq⟩ : ∃ q : Nat, (q : Int) = 31 - (m : Int) := ⟨31 - m, by omega⟩
              have HQ := Go.Lib.hid hq
              rw [← hq]
              have hqm : q + m = 31 := by omega
              have hq32 : q < 32 := by omega
              have HQM := Go.Lib.hid hqm
              clear hq hqm
              have HR : Hid (readOff M k (m + 1) = readOff M k m * 2 + (if M (k + q) then 0 else 1)) := by
                have h1 := HQM.out
                show _ = _
                simp only [readOff]
                rw [show 31 - m = q from by omega]
              generalize readOff M k m = c at hr2 HR
              have hc := hbq.at (k + q) (by omega)
              by_cases hbit : M (k + q) = true
              · rw [hbit] at hc
                have HB := Go.Lib.hid hbit; clear hbit
                go_wp2_with fail
                go_round
                case rel => 
                  have h1 := HQM.out
                  refine ⟨m + 1, by omega, by go_num, ?_⟩
                  rw [HR.out, HB.out]
                  go_num
                case measure => have := HQM.out; simp [intOf] <;> omega
              · have hbit : M (k + q) = false := by simpa using hbit
                rw [hbit] at hc
                have HB := Go.Lib.hid hbit; clear hbit
                go_wp2_with fail
                go_round
                case rel => 
                  have h1 := HQM.out
                  refine ⟨m + 1, by omega, by go_num, ?_⟩
                  rw [HR.out, HB.out]
                  go_num
                case measure => have := HQM.out; simp [intOf] <;> omega
            · obtain rfl : m = 32 := by omega
              go_wp2_with fail
              go_ret
              exact ⟨ret_int (by rw [HF.out]), hbelq⟩
end Go.Proofs.Ytdbappehchgbcaa
