/- The walks: Seal and Open of crc and of the document; cut, awake. -/
import Derived.Test.YtdbappehchgbcaaGreatZCrcP
namespace Go.Proofs.YtdbappehchgbcaaGreat
open Go.RowKit

/-- A text's first 300 bytes. -/
def cutB (s : ByteArray) : ByteArray := if 300 < s.size then s.extract 0 300 else s
theorem cutB_size (s : ByteArray) : (cutB s).size ≤ 300 := by
  unfold cutB; split
  · rw [ByteArray.size_extract]; omega
  · omega
def sealL (l : List UInt8) : List UInt8 := l ++ numL (crcMore 0 l) 4
theorem mk_list (s : ByteArray) : (⟨s.data.toList.toArray⟩ : ByteArray) = s := by cases s; simp
theorem numL_length (n k : Nat) : (numL n k).length = k := tab_length _ _
theorem cat_eq (s : ByteArray) (l : List UInt8) : s ++ (⟨l.toArray⟩ : ByteArray) = ⟨(s.data.toList ++ l).toArray⟩ := by
  rw [← ByteArray.mk_append_mk, mk_list]
set_option maxHeartbeats 400000 in
theorem Seal_any (s : ByteArray) (hs : s.size ≤ 1000000) (w : World) :
    Calls Tryz.prog 31 #[.string s] w fun e w' => e = .returned (.string ⟨(sealL s.data.toList).toArray⟩) ∧ Below w.heap.size w w' := by
  have hv : s ++ ⟨(numL (crcMore 0 s.data.toList) 4).toArray⟩ = ⟨(sealL s.data.toList).toArray⟩ := cat_eq _ _
  have HV := Go.Lib.hid hv; clear hv
  have hl : (numL (crcMore 0 s.data.toList) 4).length ≤ 4 := Nat.le_of_eq (numL_length _ _)
  have hc := crcMore_lt 0 s.data.toList
  have hss : s.size ≤ maxLen := by unfold maxLen; omega
  go_enter Tryz.func31, Tryz.ntmps31
  go_wp2_with (first | (go_at_call 58; refine (sum_any _ hss _).mono ?_; rintro e w1 ⟨rfl, rfl⟩) | (go_at_call 29; refine (U32_any _ hc _).mono ?_; rintro e w1 ⟨rfl, hb1⟩))
  go_ret
  exact ⟨ret_str HV.out, hb1⟩

/-- What 'Open' makes of a text: the text ahead of the last four bytes, or why not. -/
def openL (l : List UInt8) : List UInt8 × Int := if l.length < 4 then ([], 7) else if sealL (l.take (l.length - 4)) = l then (l.take (l.length - 4), 0) else ([], 110)
theorem sealL_take (l : List UInt8) (h : 4 ≤ l.length) : sealL (l.take (l.length - 4)) = l ↔ numL (crcMore 0 (l.take (l.length - 4))) 4 = l.drop (l.length - 4) := by
  unfold sealL
  constructor
  · intro h1
    have h2 : l.take (l.length - 4) ++ numL (crcMore 0 (l.take (l.length - 4))) 4 = l.take (l.length - 4) ++ l.drop (l.length - 4) := by rw [List.take_append_drop]; exact h1
    exact List.append_cancel_left h2
  · intro h1
    rw [h1, List.take_append_drop]
set_option maxHeartbeats 1000000 in
theorem Open_any (s : ByteArray) (hs : s.size ≤ 1000000) (w : World) :
    Calls Tryz.prog 33 #[.string s] w fun e w' => e = .returned (.tuple #[.string ⟨(openL s.data.toList).1.toArray⟩, .int .i64 (openL s.data.toList).2]) ∧ Below w.heap.size w w' := by
  have hsl : s.data.toList.length = s.size := by simp
  by_cases h4 : s.size < 4
  · have hv : openL s.data.toList = ([], 7) := by unfold openL; rw [if_pos (by omega)]
    have HV := Go.Lib.hid hv; clear hv hsl
    go_enter Tryz.func33, Tryz.ntmps33
    go_wp2
    go_ret2
    rw [HV.out]
    exact ⟨rfl, Below.refl _ _⟩
  · have hx : (s.extract 0 (s.size - 4)).size ≤ maxLen := by rw [ByteArray.size_extract]; unfold maxLen; omega
    have hxl : (s.extract 0 (s.size - 4)).data.toList = s.data.toList.take (s.size - 4) := by rw [Go.Lib.extract_data]; simp
    have hdl : (s.extract (s.size - 4) s.size).toList = s.data.toList.drop (s.size - 4) := by rw [Go.Lib.extract_toList]; exact List.take_of_length_le (by simp)
    have HX := Go.Lib.hid hxl; clear hxl
    have hst := sealL_take s.data.toList (by omega)
    rw [hsl] at hst
    have hc := crcMore_lt 0 (s.data.toList.take (s.size - 4))
    have e1 : ((s.size : Int) - 4).toNat = s.size - 4 := by omega
    obtain ⟨b, hb⟩ : ∃ b, (numL (crcMore 0 (s.data.toList.take (s.size - 4))) 4 == s.data.toList.drop (s.size - 4)) = b := ⟨_, rfl⟩
    have hv : openL s.data.toList = if b then (s.data.toList.take (s.size - 4), 0) else ([], 110) := by
      unfold openL
      rw [if_neg (by omega), hsl]
      by_cases heq : sealL (s.data.toList.take (s.size - 4)) = s.data.toList
      · rw [if_pos heq, ← hb, beq_iff_eq.2 (hst.1 heq)]; rfl
      · rw [if_neg heq, ← hb, beq_eq_false_iff_ne.2 (fun h => heq (hst.2 h))]; rfl
    have HV := Go.Lib.hid hv; clear hv hsl hst
    go_enter Tryz.func33, Tryz.ntmps33
    go_wp2_with fail
    go_region_with (first | (go_at_call 58; refine (sum_any _ hx _).mono ?_; rw [HX.out]; rintro e w1 ⟨rfl, rfl⟩) | (go_at_call 29; refine (U32_any _ hc _).mono ?_; rintro e w1 ⟨rfl, hb1⟩))
    all_goals
      cases b
      · go_wp2_with fail
        go_ret2
        rw [HV.out]
        refine ⟨rfl, ?_⟩
        (repeat (first | exact Below.refl _ _ | assumption | refine kp_drew ?_ | refine kp_drewN ?_ | refine kp_alloc ?_ | refine kp_step ?_ (by assumption)))
      · go_wp2_with fail
        go_ret2
        rw [HV.out]
        refine ⟨ret_si (by simp only [if_true]; rw [← HX.out, mk_list]) rfl, ?_⟩
        (repeat (first | exact Below.refl _ _ | assumption | refine kp_drew ?_ | refine kp_drewN ?_ | refine kp_alloc ?_ | refine kp_step ?_ (by assumption)))
end Go.Proofs.YtdbappehchgbcaaGreat
