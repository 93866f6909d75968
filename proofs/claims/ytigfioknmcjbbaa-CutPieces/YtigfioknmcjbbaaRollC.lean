/- The walks over package roll: All, Places; the document's; same, awake. -/
import Derived.Test.YtigfioknmcjbbaaRollB
import Derived.Test.YtigfioknmcjbbaaOwnD
namespace Go.Proofs.Ytigfioknmcjbbaa
open Go.RowKit

def allV (l : List UInt8) (k : Nat) : List Value := tab k fun i => .int .u32 (rollL (l.take (i + 1)) : Nat)
theorem allV_snoc (l : List UInt8) (k : Nat) : allV l (k + 1) = allV l k ++ [.int .u32 (rollL (l.take (k + 1)) : Nat)] := by
  unfold allV; simp [tab, List.range_succ]
theorem take_snocL (s : ByteArray) (k : Nat) (h : k < s.size) : s.data.toList.take (k + 1) = s.data.toList.take k ++ [s[k]] := take_snoc s k h
set_option maxHeartbeats 1000000 in
theorem RAll_any (s : ByteArray) (hs : s.size ≤ 1000000) (w : World) :
    Calls Try.prog 25 #[.string s] w fun e w' => ∃ v, e = .returned v ∧ w'.ownsRow w.heap.size 51 1 v s.size (allV s.data.toList s.size) ∧ Below w.heap.size w w' := by
  obtain ⟨g, hg⟩ : ∃ g, w.heap.size = g := ⟨_, rfl⟩
  have HG := Go.Lib.hid hg
  clear hg
  go_enter Try.func25, Try.ntmps25
  go_wp2_with fail
  go_loopw [3, 4] (fun v i wr => ∃ k : Nat, k ≤ s.size ∧ i = .int .i64 (k + 1 : Nat) ∧ wr.ownsRow g 51 1 v k (allV s.data.toList k) ∧ Below g w wr) (fun _ i _ => s.size + 1 - (intOf i).toNat)
  case atStart => exact ⟨0, Nat.zero_le _, rfl, World.ownsRow_nil _ _ _ _, Below.refl _ _⟩
  case round =>
    obtain ⟨k, hk, rfl, hown, hbel⟩ := hrel
    by_cases hlt : k < s.size
    · have hx : (s.extract 0 (k + 1)).size ≤ maxLen := by rw [ByteArray.size_extract]; unfold maxLen; omega
      have hxl : (s.extract 0 (k + 1)).data.toList = s.data.toList.take (k + 1) := by rw [Go.Lib.extract_data]; simp
      have HX := Go.Lib.hid hxl; clear hxl
      have hsz : g ≤ wr.heap.size := by have := hbel.size; have := HG.out; omega
      have HB := Go.Lib.hid hbel; have HO := Go.Lib.hid hown
      clear hbel hown
      go_wp2_with (first
        | (go_at_call 33; refine (RSum_any _ hx _).mono ?_; rw [HX.out]; rintro e w2 ⟨rfl, rfl⟩)
        | (at_builtin; refine wpList_append_one _ rfl _ _ 48 rfl g 51 (.int .u32 0) 4 Try.underlying48 (by kernel_rfl) rfl _ k _ rfl HO.out (.int .u32 (rollL (s.data.toList.take (k + 1)) : Nat)) rfl rfl (by unfold maxLen; omega) (by omega) hsz ?_))
      intro v' w3 hown3 hbel3 _
      have hbel4 := HB.out.trans hbel3
      clear hbel3
      go_wp2_with fail
      go_roundw
      case rel => exact ⟨k + 1, by omega, by go_num, by rw [allV_snoc]; exact hown3, hbel4⟩
      case measure => simp [intOf]; omega
    · obtain rfl : k = s.size := by omega
      go_wp2
      go_ret
      exact ⟨_, rfl, by rw [HG.out]; exact hown, by rw [HG.out]; exact hbel⟩
end Go.Proofs.Ytigfioknmcjbbaa
