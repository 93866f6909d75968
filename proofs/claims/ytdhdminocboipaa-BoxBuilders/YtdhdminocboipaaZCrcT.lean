/- The walks: Seal and Open of crc and of the document; cut, awake. -/
import Derived.Test.YtdhdminocboipaaZCrcP
namespace Go.Proofs.Ytdhdminocboipaa
open Go.RowKit

/-- A text's first 300 bytes. -/
def cutB (s : ByteArray) : ByteArray := if 300 < s.size then s.extract 0 300 else s
theorem cutB_size (s : ByteArray) : (cutB s).size ≤ 300 := by
  unfold cutB; split
  · rw [ByteArray.size_extract]; omega
  · omega
def sealL (l : List UInt8) : List UInt8 := l ++ numL (crcMore 0 l) 4
theorem mk_list (s : ByteArray) : (⟨s.data.toList.toArray⟩ : ByteArray) = s := by cases s; simp
theorem numL_length (n k : Nat) : (numL n k).length = k := tab_length _ _
theorem cat_eq (s : ByteArray) (l : List UInt8) : s ++ (⟨l.toArray⟩ : ByteArray) = ⟨(s.data.toList ++ l).toArray⟩ := by
  rw [← ByteArray.mk_append_mk, mk_list]
set_option maxHeartbeats 400000 in
theorem Seal_any (s : ByteArray) (hs : s.size ≤ 1000000) (w : World) :
    Calls Try.prog 47 #[.string s] w fun e w' => e = .returned (.string ⟨(sealL s.data.toList).toArray⟩) ∧ Below w.heap.size w w' := by
  have hv : s ++ ⟨(numL (crcMore 0 s.data.toList) 4).toArray⟩ = ⟨(sealL s.data.toList).toArray⟩ := cat_eq _ _
  have HV := Go.Lib.hid hv; clear hv
  have hl : (numL (crcMore 0 s.data.toList) 4).length ≤ 4 := Nat.le_of_eq (numL_length _ _)
  have hc := crcMore_lt 0 s.data.toList
  have hss : s.size ≤ maxLen := by unfold maxLen; omega
  go_enter Try.func47, Try.ntmps47
  go_wp2_with (first | (go_at_call 55; refine (sum_any _ hss _).mono ?_; rintro e w1 ⟨rfl, rfl⟩) | (go_at_call 44; refine (U32_any _ hc _).mono ?_; rintro e w1 ⟨rfl, hb1⟩))
  go_ret
  exact ⟨ret_str HV.out, hb1⟩
set_option maxHeartbeats 400000 in
theorem RSeal_any (s : ByteArray) (hs : s.size ≤ 1000000) (w : World) :
    Calls Try.prog 64 #[.string s] w fun e w' => e = .returned (.string ⟨(sealL s.data.toList).toArray⟩) ∧ Below w.heap.size w w' := by
  have hv : s ++ ⟨(numL (crcMore 0 s.data.toList) 4).toArray⟩ = ⟨(sealL s.data.toList).toArray⟩ := cat_eq _ _
  have HV := Go.Lib.hid hv; clear hv
  have hl : (numL (crcMore 0 s.data.toList) 4).length ≤ 4 := Nat.le_of_eq (numL_length _ _)
  have hc := crcMore_lt 0 s.data.toList
  go_enter Try.func64, Try.ntmps64
  go_wp2_with (first | (go_at_call 41; refine (RSum_any _ hs _).mono ?_; rw [longSum_eq]; rintro e w1 ⟨rfl, hb1⟩) | (go_at_call 63; refine (Num_any 4 (crcMore 0 s.data.toList) (by omega) _ _ rfl rfl (by omega) _).mono ?_; rintro e w2 ⟨rfl, hb2⟩))
  go_ret
  exact ⟨ret_str HV.out, kp_step hb1 hb2⟩

/-- What 'Open' makes of a text: the text ahead of the last four bytes, or why not. -/
def openL (l : List UInt8) : List UInt8 × Int := if l.length < 4 then ([], 7) else if sealL (l.take (l.length - 4)) = l then (l.take (l.length - 4), 0) else ([], 110)
theorem sealL_take (l : List UInt8) (h : 4 ≤ l.length) : sealL (l.take (l.length - 4)) = l ↔ numL (crcMore 0 (l.take (l.length - 4))) 4 = l.drop (l.length - 4) := by
  unfold sealL
  constructor
  · intro h1
    have h2 : l.take (l.length - 4) ++ numL (crcMore 0 (l.take (l.length - 4))) 4 = l.take (l.length - 4) ++ l.drop (l.length - 4) := by rw [List.take_append_drop]; exact h1
    exact List.append_cancel_left h2
  · intro h1
    rw [h1, List.take_append_drop]
end Go.Proofs.Ytdhdminocboipaa
