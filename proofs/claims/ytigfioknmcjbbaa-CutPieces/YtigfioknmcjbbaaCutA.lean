/- The walks: May of cut and of the document; New. -/
import Derived.Test.YtigfioknmcjbbaaRollC
import Derived.Test.YtigfioknmcjbbaaOwnE
namespace Go.Proofs.Ytigfioknmcjbbaa
open Go.RowKit

def confV (c : Nat → Int) (i : Nat) : Value := .int .i64 (c i)
def confA (c : Nat → Int) : Value := .agg (tab 13 (confV c)).toArray
def mayC (c : Nat → Int) : Bool := decide (1 ≤ c 0 ∧ c 0 ≤ c 1 ∧ c 1 ≤ 4096 ∧ 1 ≤ c 2 ∧ c 2 ≤ 1048576 ∧ 1 ≤ c 3 ∧ c 3 ≤ 1048576)
theorem mayC_iff (c : Nat → Int) : mayC c = true ↔ (1 ≤ c 0 ∧ c 0 ≤ c 1 ∧ c 1 ≤ 4096 ∧ 1 ≤ c 2 ∧ c 2 ≤ 1048576 ∧ 1 ≤ c 3 ∧ c 3 ≤ 1048576) := by unfold mayC; rw [decide_eq_true_iff]
def divC (n : Int) : Bool := decide (1 ≤ n ∧ n ≤ 1048576)
set_option maxHeartbeats 400000 in
theorem div_any (n : Int) (w : World) : Calls Try.prog 23 #[.int .i64 n] w fun e w' => e = .returned (.bool (divC n)) ∧ w = w' := by
  by_cases h1 : 1 ≤ n
  · by_cases h2 : n ≤ 1048576
    · have hv : true = divC n := by unfold divC; rw [decide_eq_true ⟨h1, h2⟩]
      have HV := Go.Lib.hid hv; clear hv
      go_enter Try.func23, Try.ntmps23
      go_wp2
      go_ret
      exact ⟨ret_bool HV.out, rfl⟩
    · have hv : false = divC n := by unfold divC; rw [decide_eq_false (fun h => h2 h.2)]
      have HV := Go.Lib.hid hv; clear hv
      go_enter Try.func23, Try.ntmps23
      go_wp2
      go_ret
      exact ⟨ret_bool HV.out, rfl⟩
  · have hv : false = divC n := by unfold divC; rw [decide_eq_false (fun h => h1 h.1)]
    have HV := Go.Lib.hid hv; clear hv
    go_enter Try.func23, Try.ntmps23
    go_wp2
    go_ret
    exact ⟨ret_bool HV.out, rfl⟩
set_option maxHeartbeats 1000000 in
theorem May_any (c : Nat → Int) (w : World) :
    Calls Try.prog 9 #[confA c] w fun e w' => e = .returned (.bool (mayC c)) ∧ Below w.heap.size w w' := by
  have hv : mayC c = (decide (1 ≤ c 0) && decide (c 0 ≤ c 1) && decide (c 1 ≤ 4096) && divC (c 2) && divC (c 3)) := by
    unfold mayC divC
    simp only [Bool.decide_and]
    cases decide (1 ≤ c 0) <;> cases decide (c 0 ≤ c 1) <;> cases decide (c 1 ≤ 4096) <;> cases decide (1 ≤ c 2) <;> cases decide (c 2 ≤ 1048576) <;> cases decide (1 ≤ c 3) <;> cases decide (c 3 ≤ 1048576) <;> rfl
  have HV := Go.Lib.hid hv; clear hv
  unfold confA
  go_enter Try.func9, Try.ntmps9
  go_wp2_with (with_reducible refine wpList_box_tab (o := ⟨some 1, _, _, _, _, _⟩) rfl 23 _ rfl 13 (confV c) rfl ?_)
  intro w1 hb1 hbel1 hsz1
  have c0 : w1.cell? ⟨w.heap.size, 0, none⟩ = some (.int .i64 (c 0)) := hb1.at 0 (by omega)
  have c1 : w1.cell? ⟨w.heap.size, 1, none⟩ = some (.int .i64 (c 1)) := hb1.at 1 (by omega)
  have c2 : w1.cell? ⟨w.heap.size, 2, none⟩ = some (.int .i64 (c 2)) := hb1.at 2 (by omega)
  have c3 : w1.cell? ⟨w.heap.size, 3, none⟩ = some (.int .i64 (c 3)) := hb1.at 3 (by omega)
  go_wp2_with (go_at_call 23; refine (div_any _ _).mono ?_; rintro e w2 ⟨rfl, rfl⟩)
  all_goals
    go_ret
    refine ⟨ret_bool ?_, hbel1⟩
    rw [HV.out]
    first
      | (have h : ¬ divC (c 2) = true := by assumption
         simp [h])
      | (have h : ¬ (1 ≤ c 0) := by omega
         simp [h])
      | (have h : ¬ (c 0 ≤ c 1) := by omega
         simp [h])
      | (have h : ¬ (c 1 ≤ 4096) := by omega
         simp [h])
      | (have h : divC (c 2) = true := by assumption
         have h1 : 1 ≤ c 0 := by omega
         have h2 : c 0 ≤ c 1 := by omega
         have h3 : c 1 ≤ 4096 := by omega
         simp [h, h1, h2, h3])
set_option maxHeartbeats 1000000 in
theorem RMay_any (c : Nat → Int) (w : World) :
    Calls Try.prog 10 #[confA c] w fun e w' => e = .returned (.bool (mayC c)) ∧ Below w.heap.size w w' := by
  have hv : ∀ b : Bool, (b = true ↔ (1 ≤ c 0 ∧ c 0 ≤ c 1 ∧ c 1 ≤ 4096 ∧ 1 ≤ c 2 ∧ c 2 ≤ 1048576 ∧ 1 ≤ c 3 ∧ c 3 ≤ 1048576)) → b = mayC c := by
    intro b hb; rw [Bool.eq_iff_iff, mayC_iff]; exact hb
  have HV := Go.Lib.hid hv; clear hv
  unfold confA
  go_enter Try.func10, Try.ntmps10
  go_wp2_with (with_reducible refine wpList_box_tab (o := ⟨some 1, _, _, _, _, _⟩) rfl 23 _ rfl 13 (confV c) rfl ?_)
  intro w1 hb1 hbel1 hsz1
  have c0 : w1.cell? ⟨w.heap.size, 0, none⟩ = some (.int .i64 (c 0)) := hb1.at 0 (by omega)
  have c1 : w1.cell? ⟨w.heap.size, 1, none⟩ = some (.int .i64 (c 1)) := hb1.at 1 (by omega)
  have c2 : w1.cell? ⟨w.heap.size, 2, none⟩ = some (.int .i64 (c 2)) := hb1.at 2 (by omega)
  have c3 : w1.cell? ⟨w.heap.size, 3, none⟩ = some (.int .i64 (c 3)) := hb1.at 3 (by omega)
  go_wp2
  go_ways
  all_goals
    go_ret
    refine ⟨ret_bool ?_, hbel1⟩
    apply HV.out
    simp only [decide_eq_true_eq, Bool.false_eq_true, false_iff, Bool.and_eq_true]
    omega
end Go.Proofs.Ytigfioknmcjbbaa
