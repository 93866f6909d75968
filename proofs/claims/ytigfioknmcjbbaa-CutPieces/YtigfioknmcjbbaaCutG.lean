/- The walks over the document's is and Same. -/
import Derived.Test.YtigfioknmcjbbaaCutF
namespace Go.Proofs.Ytigfioknmcjbbaa
open Go.RowKit

set_option maxHeartbeats 1000000 in
theorem Ris_any (h d : Nat) (hh : h < 4294967296) (h1 : 1 ≤ d) (h2 : d ≤ 1048576) (w : World) :
    Calls Try.prog 26 #[.int .u32 h, .int .i64 (d : Nat)] w fun e w' => e = .returned (.bool (decide (h % d = d - 1))) ∧ w = w' := by
  have hv : decide (h % d = d - 1) = ((h : Int) % (d : Int) == (d : Int) - 1) := by
    rw [Bool.eq_iff_iff, decide_eq_true_iff, beq_iff_eq, ← Int.natCast_emod]
    omega
  have HV := Go.Lib.hid hv; clear hv
  go_enter Try.func26, Try.ntmps26
  go_wp2
  go_ret
  exact ⟨ret_bool (by rw [HV.out]), rfl⟩
set_option maxHeartbeats 1000000 in
theorem RSame_any (xs : List ByteArray) (n ca cb : Nat) (hl : xs.length = n) (hn : n ≤ 1000000) (ao bo : Option Addr) (w : World) (ha : Rd w ao (xs.map .string)) (hb : Rd w bo (xs.map .string)) :
    Calls Try.prog 15 #[.slice ao n ca, .slice bo n cb] w fun e w' => e = .returned (.bool true) ∧ Below w.heap.size w w' := by
  have hne : ((n : Int) != n) = false := by simp
  have HA := Go.Lib.hid ha; have HB := Go.Lib.hid hb; have HLL := Go.Lib.hid hl; clear ha hb hl
  go_enter Try.func15, Try.ntmps15
  go_wp2
  go_loopw [5] (fun i wr => ∃ k : Nat, k ≤ n ∧ i = .int .i64 k ∧ Below w.heap.size w wr) (fun i _ => n - (intOf i).toNat)
  case atStart => exact ⟨0, Nat.zero_le _, rfl, Below.refl _ _⟩
  case round =>
    obtain ⟨k, hk, rfl, hbel⟩ := hrel
    by_cases hlt : k < n
    · obtain ⟨ga, oa, rfl, hga, hca⟩ := (HA.out.kept hbel).2 (by rw [List.length_map, HLL.out]; omega)
      obtain ⟨gb, ob, rfl, hgb, hcb⟩ := (HB.out.kept hbel).2 (by rw [List.length_map, HLL.out]; omega)
      have h1 := hca k (by rw [List.length_map, HLL.out]; exact hlt)
      have h2 := hcb k (by rw [List.length_map, HLL.out]; exact hlt)
      have hg : (xs.map Value.string)[k]? = some (.string (xs.getD k { data := #[] })) := by
        rw [List.getElem?_map, List.getD_eq_getElem?_getD]
        have := HLL.out
        rw [List.getElem?_eq_getElem (by omega)]
        rfl
      rw [hg] at h1 h2
      clear hg
      generalize xs.getD k { data := #[] } = x at h1 h2
      have hxx : (x.toList != x.toList) = false := by simp
      clear hca hcb
      go_wp2_with fail
      go_quiet (fail)
      go_wp2_with fail
      go_roundw
      case rel => exact ⟨k + 1, by omega, by go_num, below_drewN hbel _⟩
      case measure => simp [intOf]; omega
    · obtain rfl : k = n := by omega
      go_wp2
      go_ret
      exact ⟨rfl, hbel⟩
end Go.Proofs.Ytigfioknmcjbbaa
