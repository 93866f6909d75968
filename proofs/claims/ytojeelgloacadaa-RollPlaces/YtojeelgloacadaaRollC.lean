/- The walks over package roll: All, Places; the document's; same, awake. -/
import Derived.Test.YtojeelgloacadaaRollB
import Derived.Test.YtojeelgloacadaaOwnD
namespace Go.Proofs.Ytojeelgloacadaa
open Go.RowKit

def allV (l : List UInt8) (k : Nat) : List Value := tab k fun i => .int .u32 (rollL (l.take (i + 1)) : Nat)
theorem allV_snoc (l : List UInt8) (k : Nat) : allV l (k + 1) = allV l k ++ [.int .u32 (rollL (l.take (k + 1)) : Nat)] := by
  unfold allV; simp [tab, List.range_succ]
theorem take_snocL (s : ByteArray) (k : Nat) (h : k < s.size) : s.data.toList.take (k + 1) = s.data.toList.take k ++ [s[k]] := take_snoc s k h
set_option maxHeartbeats 1000000 in
theorem All_any (s : ByteArray) (hs : s.size ≤ 1000000) (w : World) :
    Calls Try.prog 12 #[.string s] w fun e w' => ∃ v, e = .returned v ∧ w'.ownsRow w.heap.size 23 1 v s.size (allV s.data.toList s.size) ∧ Below w.heap.size w w' := by
  go_enter Try.func12, Try.ntmps12
  go_wp2_with (go_at_call 14; refine (New_any _).mono ?_; rintro e w1 ⟨rfl, hb1, hbel1⟩)
  have hgl := hb1.lt
  obtain ⟨g, hg⟩ : ∃ g, w.heap.size = g := ⟨_, rfl⟩
  have HG := Go.Lib.hid hg
  rw [hg] at hb1 hbel1 hgl
  simp only [hg]
  clear hg
  go_loopw [4, 5, 9] (fun v _ i wr => ∃ k : Nat, k ≤ s.size ∧ i = .int .i64 k ∧ wr.ownsRow (g + 1) 23 1 v k (allV s.data.toList k) ∧ Blk wr g 49 (tab 18 (rollAt (s.data.toList.take k))) ∧ Below g w wr) (fun _ _ i _ => s.size - (intOf i).toNat)
  case atStart => exact ⟨0, Nat.zero_le _, rfl, World.ownsRow_nil _ _ _ _, hb1, hbel1⟩
  case round =>
    obtain ⟨k, hk, rfl, hown, hbr, hbel⟩ := hrel
    clear hb1 hbel1
    by_cases hlt : k < s.size
    · have hlen : (s.data.toList.take k).length ≤ 1000000 := by rw [List.length_take]; omega
      have hts := take_snoc s k hlt
      have HT := Go.Lib.hid hts; clear hts
      have HK := Go.Lib.hid hbr; have HB := Go.Lib.hid hbel; have HO := Go.Lib.hid hown
      have hgr := hbr.lt
      clear hbr hbel hown
      go_wp2_with (first
        | (go_at_call 18; refine (Push_any g _ hlen s[k] _ HK.out).mono ?_; rw [← HT.out]; rintro e w2 ⟨rfl, hb2, ho2⟩)
        | (at_builtin; refine wpList_append_one _ rfl _ _ 26 rfl (g + 1) 23 (.int .u32 0) 4 Try.underlying26 (by kernel_rfl) rfl _ k _ rfl (owns_only HO.out ho2 (by omega)) (.int .u32 (rollL (s.data.toList.take (k + 1)) : Nat)) rfl rfl (by unfold maxLen; omega) (by omega) (by have := ho2.size; omega) ?_))
      intro v' w3 hown3 hbel3 _
      have hb3 := hb2.below hbel3 (by omega)
      have hbel4 := (HB.out.trans (ho2.below (Nat.le_refl _))).trans (hbel3.mono (by omega))
      clear hb2 ho2 hbel3
      go_wp2_with fail
      go_roundw
      case rel => exact ⟨k + 1, by omega, by go_num, by rw [allV_snoc]; exact hown3, hb3, hbel4⟩
      case measure => simp [intOf]; omega
    · obtain rfl : k = s.size := by omega
      go_wp2
      go_ret
      exact ⟨_, rfl, by rw [HG.out]; exact owns_base hown (by omega), by rw [HG.out]; exact hbel⟩
set_option maxHeartbeats 1000000 in
theorem RAll_any (s : ByteArray) (hs : s.size ≤ 1000000) (w : World) :
    Calls Try.prog 13 #[.string s] w fun e w' => ∃ v, e = .returned v ∧ w'.ownsRow w.heap.size 23 1 v s.size (allV s.data.toList s.size) ∧ Below w.heap.size w w' := by
  obtain ⟨g, hg⟩ : ∃ g, w.heap.size = g := ⟨_, rfl⟩
  have HG := Go.Lib.hid hg
  clear hg
  go_enter Try.func13, Try.ntmps13
  go_wp2_with fail
  go_loopw [3, 4] (fun v i wr => ∃ k : Nat, k ≤ s.size ∧ i = .int .i64 (k + 1 : Nat) ∧ wr.ownsRow g 23 1 v k (allV s.data.toList k) ∧ Below g w wr) (fun _ i _ => s.size + 1 - (intOf i).toNat)
  case atStart => exact ⟨0, Nat.zero_le _, rfl, World.ownsRow_nil _ _ _ _, Below.refl _ _⟩
  case round =>
    obtain ⟨k, hk, rfl, hown, hbel⟩ := hrel
    by_cases hlt : k < s.size
    · have hx : (s.extract 0 (k + 1)).size ≤ maxLen := by rw [ByteArray.size_extract]; unfold maxLen; omega
      have hxl : (s.extract 0 (k + 1)).data.toList = s.data.toList.take (k + 1) := by rw [Go.Lib.extract_data]; simp
      have HX := Go.Lib.hid hxl; clear hxl
      have hsz : g ≤ wr.heap.size := by have := hbel.size; have := HG.out; omega
      have HB := Go.Lib.hid hbel; have HO := Go.Lib.hid hown
      clear hbel hown
      go_wp2_with (first
        | (go_at_call 10; refine (RSum_any _ hx _).mono ?_; rw [HX.out]; rintro e w2 ⟨rfl, rfl⟩)
        | (at_builtin; refine wpList_append_one _ rfl _ _ 26 rfl g 23 (.int .u32 0) 4 Try.underlying26 (by kernel_rfl) rfl _ k _ rfl HO.out (.int .u32 (rollL (s.data.toList.take (k + 1)) : Nat)) rfl rfl (by unfold maxLen; omega) (by omega) hsz ?_))
      intro v' w3 hown3 hbel3 _
      have hbel4 := HB.out.trans hbel3
      clear hbel3
      go_wp2_with fail
      go_roundw
      case rel => exact ⟨k + 1, by omega, by go_num, by rw [allV_snoc]; exact hown3, hbel4⟩
      case measure => simp [intOf]; omega
    · obtain rfl : k = s.size := by omega
      go_wp2
      go_ret
      exact ⟨_, rfl, by rw [HG.out]; exact hown, by rw [HG.out]; exact hbel⟩
end Go.Proofs.Ytojeelgloacadaa
