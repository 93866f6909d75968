/- The walk over the document's Pad. -/
import Derived.Test.YtipmmknecadkkaaZShaN
namespace Go.Proofs.Ytipmmknecadkkaa
open Go.RowKit

theorem lenB_int (n j : Nat) (hj : j < 8) : ((lenB n j).toNat : Int) = (n : Int) * 8 / 2 ^ (56 - 8 * j) % 256 := by
  have h : (lenB n j).toNat = n * 8 / 256 ^ (7 - j) % 256 := by unfold lenB; simp
  rw [h]
  have hj' : j = 0 ∨ j = 1 ∨ j = 2 ∨ j = 3 ∨ j = 4 ∨ j = 5 ∨ j = 6 ∨ j = 7 := by omega
  rcases hj' with rfl | rfl | rfl | rfl | rfl | rfl | rfl | rfl <;> simp
def headL (z : Nat) : List UInt8 := [128] ++ List.replicate z 0
theorem head_next (z : Nat) : (⟨(headL z).toArray⟩ : ByteArray) ++ ⟨#[0]⟩ = ⟨(headL (z + 1)).toArray⟩ := by
  apply ByteArray.ext
  simp [headL, List.replicate_succ']
set_option maxHeartbeats 4000000 in
set_option maxRecDepth 100000 in
theorem RPad_any (n : Nat) (hn : n ≤ 1099511627776) (w : World) :
    Calls Try.prog 24 #[.int .i64 (n : Nat)] w fun e w' => e = .returned (.string (padB n)) ∧ Below w.heap.size w w' := by
  obtain ⟨B, hB⟩ : ∃ B, w.heap.size = B := ⟨_, rfl⟩
  have HB := Go.Lib.hid hB
  clear hB
  go_enter Try.func24, Try.ntmps24
  go_wp2_with fail
  go_loop [3] (fun v => ∃ (z : Nat) (q : ByteArray), z ≤ zerosN n ∧ v = .string q ∧ Hid (q = ⟨(headL z).toArray⟩) ∧ q.size = 1 + z) (fun v => zerosN n + 1 - strSz v)
  case atStart => exact ⟨0, ⟨#[128]⟩, by omega, rfl, Go.Lib.hid rfl, rfl⟩
  case round =>
    obtain ⟨z, q, hz, rfl, hq, hqs⟩ := hrel
    have hzl := zeros_lt n
    by_cases hzz : z < zerosN n
    · have hne : (((n : Int) + (q.size : Int) + 8) % 64 != 0) = true := by
        rw [hqs]
        unfold zerosN at hzz
        simp
        omega
      have hq0 : q.size ≤ 100 := by omega
      have hnx : q ++ ⟨#[0]⟩ = (⟨(headL (z + 1)).toArray⟩ : ByteArray) := by rw [hq.out]; exact head_next z
      have HNX := Go.Lib.hid hnx
      clear hnx
      go_wp2_with fail
      go_round
      case rel => exact ⟨z + 1, q ++ ⟨#[0]⟩, by omega, rfl, Go.Lib.hid HNX.out, by rw [ByteArray.size_append, hqs, show (⟨#[0]⟩ : ByteArray).size = 1 from rfl]; omega⟩
      case measure =>
        show zerosN n + 1 - (q ++ ⟨#[0]⟩ : ByteArray).size < zerosN n + 1 - q.size
        rw [ByteArray.size_append, show (⟨#[0]⟩ : ByteArray).size = 1 from rfl]; omega
    · obtain rfl : z = zerosN n := by omega
      have hne : (((n : Int) + (q.size : Int) + 8) % 64 != 0) = false := by
        rw [hqs]
        unfold zerosN
        simp
        omega
      have hq0 : q.size ≤ 100 := by omega
      have HQS := Go.Lib.hid hqs
      clear hqs hzz hz hzl
      go_wp2_with fail
      go_loopw [5, 6] (fun v i wr => ∃ j : Nat, j ≤ 8 ∧ i = .int .i64 j ∧ wr.ownsRow B 5 1 v j ((tab j (lenB n)).map fun b => .int .u8 (b.toNat : Int)) ∧ Below B w wr) (fun _ i _ => 8 - (intOf i).toNat)
      case atStart => exact ⟨0, by omega, rfl, World.ownsRow_nil _ _ _ _, Below.refl _ _⟩
      case round =>
        obtain ⟨j, hj, rfl, hown, hbel⟩ := hrel
        by_cases hj8 : j < 8
        · have HO := Go.Lib.hid hown; have HL := Go.Lib.hid hbel
          have hBr : B ≤ wr.heap.size := by have := hbel.size; have := HB.out; omega
          have j0 : (0 : Int) ≤ (j : Int) := by omega
          have j1 : (j : Int) < 8 := by omega
          clear hown hbel
          go_wp2_with (at_builtin; refine wpList_append_one _ rfl _ _ 78 rfl B 5 (.int .u8 0) 1 Try.underlying78 (by kernel_rfl) rfl _ j _ rfl HO.out (.int .u8 ((n : Int) * 8 / 2 ^ (56 - 8 * j) % 256)) rfl rfl (by unfold maxLen; omega) (by omega) hBr ?_)
          intro v' w3 hown3 hbel3 _
          have HO3 := Go.Lib.hid hown3; have HL3 := Go.Lib.hid (HL.out.trans hbel3)
          clear hown3 hbel3
          go_wp2_with fail
          go_roundw
          case rel =>
            refine ⟨j + 1, by omega, by go_num, ?_, HL3.out⟩
            rw [tab_snoc, List.map_append, List.map_singleton, lenB_int n j hj8]
            exact HO3.out
          case measure => simp [intOf]; omega
        · obtain rfl : j = 8 := by omega
          have hs := run_string_own (P := Try.prog) wr 78 9 5 Try.underlying78 Try.underlying5 Try.underlying9 B 8 _ (tab 8 (lenB n)) (tab_length _ _) hown
          have hfin : q ++ ⟨(tab 8 (lenB n)).toArray⟩ = padB n := by rw [hq.out, ba_cat]; rfl
          have h8 : (⟨(tab 8 (lenB n)).toArray⟩ : ByteArray).size = 8 := by show (tab 8 (lenB n)).toArray.size = 8; rw [List.size_toArray, tab_length]
          have HFIN := Go.Lib.hid hfin; have HL := Go.Lib.hid hbel
          clear hfin hbel hown
          obtain ⟨t8, ht8⟩ : ∃ t : ByteArray, (⟨(tab 8 (lenB n)).toArray⟩ : ByteArray) = t := ⟨_, rfl⟩
          rw [ht8] at hs h8 HFIN
          have hsz : q.size + t8.size ≤ 9223372036854775807 := by omega
          clear ht8
          go_wp2_with fail
          go_ret
          exact ⟨by rw [HFIN.out]; rfl, by rw [HB.out]; exact HL.out⟩
end Go.Proofs.Ytipmmknecadkkaa
