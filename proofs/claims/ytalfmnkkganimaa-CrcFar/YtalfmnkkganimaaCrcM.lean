/- The law CrcSeals. -/
import Derived.Test.YtalfmnkkganimaaCrcL
namespace Go.Proofs.Ytalfmnkkganimaa
open Go.RowKit

theorem cutB_list (s : ByteArray) : ∃ l : List UInt8, cutB s = ⟨l.toArray⟩ ∧ l.length ≤ 300 :=
  ⟨(cutB s).data.toList, by rw [mk_list], by have := cutB_size s; simpa using this⟩
theorem sealL_length (l : List UInt8) : (sealL l).length = l.length + 4 := by unfold sealL; rw [List.length_append, numL_length]
theorem open_seal (l : List UInt8) : openL (sealL l) = (l, 0) := by
  have hl := sealL_length l
  have ht : (sealL l).take ((sealL l).length - 4) = l := by
    rw [hl, Nat.add_sub_cancel]; unfold sealL; exact List.take_left
  unfold openL
  rw [if_neg (by omega), ht, if_pos rfl]
theorem Seal_l (l : List UInt8) (h : l.length ≤ 1000000) (w : World) :
    Calls Try.prog 16 #[.string ⟨l.toArray⟩] w fun e w' => e = .returned (.string ⟨(sealL l).toArray⟩) ∧ Below w.heap.size w w' := Seal_any ⟨l.toArray⟩ h w
theorem RSeal_l (l : List UInt8) (h : l.length ≤ 1000000) (w : World) :
    Calls Try.prog 18 #[.string ⟨l.toArray⟩] w fun e w' => e = .returned (.string ⟨(sealL l).toArray⟩) ∧ Below w.heap.size w w' := RSeal_any ⟨l.toArray⟩ h w
theorem Open_l (l : List UInt8) (h : l.length ≤ 1000000) (w : World) :
    Calls Try.prog 15 #[.string ⟨l.toArray⟩] w fun e w' => e = .returned (.tuple #[.string ⟨(openL l).1.toArray⟩, .int .i64 (openL l).2]) ∧ Below w.heap.size w w' := Open_any ⟨l.toArray⟩ h w
theorem ROpen_l (l : List UInt8) (h : l.length ≤ 1000000) (w : World) :
    Calls Try.prog 17 #[.string ⟨l.toArray⟩] w fun e w' => e = .returned (.tuple #[.string ⟨(openL l).1.toArray⟩, .int .i64 (openL l).2]) ∧ Below w.heap.size w w' := ROpen_any ⟨l.toArray⟩ h w
set_option maxHeartbeats 1000000 in
theorem CrcSeals_law (s : ByteArray) (hs : s.size ≤ maxLen) (t : ByteArray) (ht : t.size ≤ maxLen) (w : World) :
    Calls Try.prog 4 #[.string s, .string t] w fun e w' => e = .returned (.bool true) ∧ Below w.heap.size w w' := by
  obtain ⟨l, hl, hl3⟩ := cutB_list s
  obtain ⟨m, hm, hm3⟩ := cutB_list t
  have h1 : l.length ≤ 1000000 := by omega
  have h2 : m.length ≤ 1000000 := by omega
  have h3 : (sealL l).length ≤ 1000000 := by rw [sealL_length]; omega
  have HO := Go.Lib.hid (open_seal l)
  have HL := Go.Lib.hid hl; have HM := Go.Lib.hid hm
  clear hl hm
  go_enter Try.func4, Try.ntmps4
  go_wp2_with (first
    | (go_at_call 9; ((with_reducible refine (cut_any s hs _).mono ?_); rw [HL.out]; rintro e w1 ⟨rfl, rfl⟩))
    | (go_at_call 9; ((with_reducible refine (cut_any t ht _).mono ?_); rw [HM.out]; rintro e w1 ⟨rfl, rfl⟩))
    | (go_at_call 16; refine (Seal_l l h1 _).mono ?_; rintro e w1 ⟨rfl, hb1⟩)
    | (go_at_call 18; refine (RSeal_l l h1 _).mono ?_; rintro e w1 ⟨rfl, hb1⟩)
    | (go_at_call 15; ((with_reducible refine (Open_l (sealL l) h3 _).mono ?_); rw [HO.out]; rintro e w1 ⟨rfl, hb1⟩))
    | (go_at_call 15; ((with_reducible refine (Open_l m h2 _).mono ?_); rintro e w1 ⟨rfl, hb1⟩))
    | (go_at_call 17; refine (ROpen_l m h2 _).mono ?_; rintro e w1 ⟨rfl, hb1⟩)
    | (go_at_call 14; refine (awake_any _).mono ?_; rintro e w1 ⟨rfl, hb1⟩))
  go_ret
  refine ⟨rfl, ?_⟩
  (repeat (first | exact Below.refl _ _ | assumption | refine kp_drew ?_ | refine kp_drewN ?_ | refine kp_alloc ?_ | refine kp_step ?_ (by assumption)))
end Go.Proofs.Ytalfmnkkganimaa
