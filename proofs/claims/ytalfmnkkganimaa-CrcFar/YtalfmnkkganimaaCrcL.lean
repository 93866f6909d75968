/- The law CrcSums. -/
import Derived.Test.YtalfmnkkganimaaCrcT
namespace Go.Proofs.Ytalfmnkkganimaa
open Go.RowKit

theorem awake_num : crcMore 0 [49, 50, 51, 52, 53, 54, 55, 56, 57] = 3421780262 := by decide +kernel
theorem awake_seal : sealL [] = [0, 0, 0, 0] := by decide +kernel
set_option maxHeartbeats 400000 in
theorem awake_any (w : World) :
    Calls Try.prog 14 #[] w fun e w' => e = .returned (.bool true) ∧ Below w.heap.size w w' := by
  have h1 := awake_num
  have h2 := awake_seal
  go_enter Try.func14, Try.ntmps14
  go_wp2_with (first | (go_at_call 10; refine (sum_any ⟨#[49, 50, 51, 52, 53, 54, 55, 56, 57]⟩ (by decide) _).mono ?_; rintro e w1 ⟨rfl, rfl⟩) | (go_at_call 16; refine (Seal_any ⟨#[]⟩ (by decide) _).mono ?_; rintro e w1 ⟨rfl, hb1⟩))
  go_ret
  exact ⟨rfl, hb1⟩

theorem more_zero (s : ByteArray) (hs : s.size ≤ maxLen) (w : World) :
    Calls Try.prog 12 #[.int .u32 0, .string s] w fun e w' => e = .returned (.int .u32 (crcMore 0 s.data.toList : Nat)) ∧ w = w' := more_any 0 (by omega) s hs w
set_option maxHeartbeats 400000 in
theorem CrcSums_law (s : ByteArray) (hs : s.size ≤ maxLen) (x : Nat) (hx : x < 4294967296) (w : World) :
    Calls Try.prog 3 #[.string s, .int .u32 x] w fun e w' => e = .returned (.bool true) ∧ Below w.heap.size w w' := by
  obtain ⟨t, ht⟩ : ∃ t, cutB s = t := ⟨_, rfl⟩
  have h3 : t.size ≤ 300 := by rw [← ht]; exact cutB_size s
  have h1 : t.size ≤ 1000000 := by omega
  have h2 : t.size ≤ maxLen := by unfold maxLen; omega
  have hl : t.data.toList.length = t.size := by simp
  have e1 := longSum_eq t.data.toList
  have e2 := rmore_eq t.data.toList x
  rw [hl] at e2
  have H1 := Go.Lib.hid e1; have H2 := Go.Lib.hid e2; clear e1 e2 hl
  go_enter Try.func3, Try.ntmps3
  go_wp2_with (first
    | (go_at_call 9; refine (cut_any s hs _).mono ?_; rw [ht]; rintro e w1 ⟨rfl, rfl⟩)
    | (go_at_call 10; refine (sum_any t h2 _).mono ?_; rintro e w1 ⟨rfl, rfl⟩)
    | (go_at_call 11; refine (RSum_any t h1 _).mono ?_; rw [H1.out]; rintro e w1 ⟨rfl, hb1⟩)
    | (go_at_call 12; ((with_reducible refine (more_any x hx t h2 _).mono ?_); rintro e w1 ⟨rfl, rfl⟩))
    | (go_at_call 12; ((with_reducible refine (more_zero t h2 _).mono ?_); rintro e w1 ⟨rfl, rfl⟩))
    | (go_at_call 13; refine (RMore_any x hx t h1 _).mono ?_; rw [H2.out]; rintro e w1 ⟨rfl, hb1⟩)
    | (go_at_call 14; refine (awake_any _).mono ?_; rintro e w1 ⟨rfl, hb1⟩))
  go_ret
  refine ⟨rfl, ?_⟩
  (repeat (first | exact Below.refl _ _ | assumption | refine kp_drew ?_ | refine kp_drewN ?_ | refine kp_alloc ?_ | refine kp_step ?_ (by assumption)))
end Go.Proofs.Ytalfmnkkganimaa
