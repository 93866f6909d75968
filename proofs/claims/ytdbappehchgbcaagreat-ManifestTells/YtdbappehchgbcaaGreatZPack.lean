/- The walks over package pack: number, U32; and the document's Num. -/
import Derived.Test.YtdbappehchgbcaaGreatProg
import Derived.Test.YtdbappehchgbcaaGreatZBase
import Derived.Deep.RegionWith
namespace Go.Proofs.YtdbappehchgbcaaGreat
open Go.RowKit

/-- A number's bytes, the lowest first. -/
def numAt (n j : Nat) : UInt8 := UInt8.ofNat (n / 2 ^ (8 * j) % 256)
def numL (n k : Nat) : List UInt8 := tab k (numAt n)
theorem numAt_toNat (n j : Nat) : (numAt n j).toNat = n / 2 ^ (8 * j) % 256 := by
  unfold numAt; simp
set_option maxHeartbeats 400000 in
theorem number_any (n : Nat) (hn : n < 18446744073709551616) (k : Nat) (hk : k ≤ 8) (w : World) :
    Calls Tryz.prog 57 #[.int .u64 n, .int .i64 k] w fun e w' => e = .returned (.string ⟨(numL n k).toArray⟩) ∧ Below w.heap.size w w' := by
  go_enter Tryz.func57, Tryz.ntmps57
  go_wp2_with (at_make; refine wpList_make_blk _ rfl _ _ 61 rfl 5 (.int .u8 0) 1 Tryz.underlying61 (by kernel_rfl) rfl k _ rfl rfl rfl (by omega) (by unfold maxLen; omega) ?_)
  intro w1 hb hbel hsz
  go_wp2
  go_loopw [6, 11] (fun _ i wr => ∃ m : Nat, m ≤ k ∧ i = .int .i64 m ∧ Blk wr w.heap.size 5 (tab k fun j => if j < m then .int .u8 (numAt n j).toNat else .int .u8 0) ∧ Below w.heap.size w wr) (fun _ i _ => k - (intOf i).toNat)
  case atStart => exact ⟨0, Nat.zero_le _, rfl, by simpa using hb, hbel⟩
  case round =>
    obtain ⟨m, hm, rfl, hbr, hbelr⟩ := hrel
    by_cases hlt : m < k
    · have hc := hbr.at m hlt
      have hf := hbr.freeAt m hlt
      rw [if_neg (by omega)] at hc
      clear hb hbel
      go_wp2
      go_roundw
      case rel =>
        exact ⟨m + 1, by omega, by go_num, hbr.setTab m _ _ (by rw [if_pos (by omega), numAt_toNat]; simp) (fun i _ hne => by by_cases h : i < m <;> simp [h, show (i < m + 1) = (i < m) from by simp; omega]), hbelr.setCell (Nat.le_refl _) _⟩
      case measure => simp [intOf]; omega
    · obtain rfl : m = k := by omega
      have hs := run_string_blk (P := Tryz.prog) wr 61 9 5 Tryz.underlying61 Tryz.underlying5 Tryz.underlying9 w.heap.size m m (numL n m) (tab_length _ _)
        (fun j hj => by
          have hj' : j < m := by simpa [numL, tab_length] using hj
          rw [hbr.at j hj', if_pos hj']
          simp [numL, tab])
      go_wp2
      go_ret
      exact ⟨rfl, hbelr⟩
set_option maxHeartbeats 400000 in
theorem U32_any (n : Nat) (hn : n < 4294967296) (w : World) :
    Calls Tryz.prog 29 #[.int .u32 n] w fun e w' => e = .returned (.string ⟨(numL n 4).toArray⟩) ∧ Below w.heap.size w w' := by
  go_enter Tryz.func29, Tryz.ntmps29
  have h := number_any n (by omega) 4 (by omega) w
  go_wp2_with (go_at_call 57; refine (number_any n (by omega) 4 (by omega) _).mono ?_; rintro e w' ⟨rfl, hb⟩)
  go_ret
  exact ⟨rfl, hb⟩
theorem numL_succ (n k : Nat) : numL n (k + 1) = numAt n 0 :: numL (n / 256) k := by
  apply List.ext_getElem?
  intro j
  cases j with
  | zero => simp [numL, tab]
  | succ j =>
    by_cases hj : j < k
    · simp only [numL, List.getElem?_cons_succ]
      rw [tab_get _ _ _ (by omega), tab_get _ _ _ hj]
      unfold numAt
      rw [show 8 * (j + 1) = 8 + 8 * j from by omega, Nat.pow_add, Nat.div_div_eq_div_mul]
    · simp [numL, tab, hj]
end Go.Proofs.YtdbappehchgbcaaGreat
