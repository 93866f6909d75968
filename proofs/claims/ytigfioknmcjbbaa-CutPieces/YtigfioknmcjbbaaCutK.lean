/- The walks where settings may not cut, and over a cutter that nobody made; the statement's small, few and awake. -/
import Derived.Test.YtigfioknmcjbbaaCutJ
namespace Go.Proofs.Ytigfioknmcjbbaa
open Go.RowKit

set_option maxHeartbeats 4000000 in
theorem Cut_no (c : Nat → Int) (hm : mayC c = false) (s : ByteArray) (w : World) :
    Calls Try.prog 11 #[.string s, confA c] w fun e w' => e = .returned (.int .i64 0) ∧ Below w.heap.size w w' := by
  unfold confA
  go_enter Try.func11, Try.ntmps11
  go_wp2_with (with_reducible refine wpList_box_tab (o := ⟨some 3, _, _, _, _, _⟩) rfl 23 _ rfl 13 (confV c) rfl ?_)
  intro w1 hb1 hbel1 hsz1
  go_wp2_with (first
    | (with_reducible refine wpList_load_tab (o := ⟨some 8, _, _, _, _, _⟩) rfl 23 _ rfl w.heap.size 23 rfl 13 (confV c) _ hb1 rfl rfl (by kernel_rfl) ?_)
    | (go_at_call 16; refine (New_no c hm _).mono ?_; rintro e w2 ⟨rfl, hbel⟩))
  go_ret
  exact ⟨rfl, kp_step hbel1 hbel⟩
set_option maxHeartbeats 4000000 in
theorem Split_no (c : Nat → Int) (hm : mayC c = false) (s : ByteArray) (w : World) :
    Calls Try.prog 14 #[.string s, confA c] w fun e w' => e = .returned (.slice none 0 0) ∧ Below w.heap.size w w' := by
  unfold confA
  go_enter Try.func14, Try.ntmps14
  go_wp2_with (with_reducible refine wpList_box_tab (o := ⟨some 3, _, _, _, _, _⟩) rfl 23 _ rfl 13 (confV c) rfl ?_)
  intro w1 hb1 hbel1 hsz1
  go_wp2_with (first
    | (with_reducible refine wpList_load_tab (o := ⟨some 8, _, _, _, _, _⟩) rfl 23 _ rfl w.heap.size 23 rfl 13 (confV c) _ hb1 rfl rfl (by kernel_rfl) ?_)
    | (go_at_call 16; refine (New_no c hm _).mono ?_; rintro e w2 ⟨rfl, hbel⟩))
  go_ret
  exact ⟨rfl, kp_step hbel1 hbel⟩
set_option maxHeartbeats 4000000 in
theorem RCut_no (c : Nat → Int) (hm : mayC c = false) (s : ByteArray) (w : World) :
    Calls Try.prog 12 #[.string s, confA c] w fun e w' => e = .returned (.int .i64 0) ∧ Below w.heap.size w w' := by
  unfold confA
  go_enter Try.func12, Try.ntmps12
  go_wp2_with (with_reducible refine wpList_box_tab (o := ⟨some 3, _, _, _, _, _⟩) rfl 23 _ rfl 13 (confV c) rfl ?_)
  intro w1 hb1 hbel1 hsz1
  go_wp2_with (first
    | (with_reducible refine wpList_load_tab (o := ⟨some 9, _, _, _, _, _⟩) rfl 23 _ rfl w.heap.size 23 rfl 13 (confV c) _ hb1 rfl rfl (by kernel_rfl) ?_)
    | (go_at_call 10; refine (RMay_any c _).mono ?_; rw [hm]; rintro e w2 ⟨rfl, hbel2⟩))
  go_ret
  exact ⟨rfl, kp_step hbel1 hbel2⟩
set_option maxHeartbeats 4000000 in
theorem RAll_no (c : Nat → Int) (hm : mayC c = false) (s : ByteArray) (w : World) :
    Calls Try.prog 31 #[.string s, confA c] w fun e w' => e = .returned (.slice none 0 0) ∧ Below w.heap.size w w' := by
  unfold confA
  go_enter Try.func31, Try.ntmps31
  go_wp2_with (with_reducible refine wpList_box_tab (o := ⟨some 3, _, _, _, _, _⟩) rfl 23 _ rfl 13 (confV c) rfl ?_)
  intro w1 hb1 hbel1 hsz1
  go_wp2_with (first
    | (with_reducible refine wpList_load_tab (o := ⟨some 7, _, _, _, _, _⟩) rfl 23 _ rfl w.heap.size 23 rfl 13 (confV c) _ hb1 rfl rfl (by kernel_rfl) ?_)
    | (go_at_call 10; refine (RMay_any c _).mono ?_; rw [hm]; rintro e w2 ⟨rfl, hbel2⟩))
  go_ret
  exact ⟨rfl, kp_step hbel1 hbel2⟩
set_option maxHeartbeats 4000000 in
theorem RSplit_no (c : Nat → Int) (hm : mayC c = false) (s : ByteArray) (w : World) :
    Calls Try.prog 21 #[.string s, confA c] w fun e w' => e = .returned (.slice none 0 0) ∧ Below w.heap.size w w' := by
  unfold confA
  go_enter Try.func21, Try.ntmps21
  go_wp2_with (with_reducible refine wpList_box_tab (o := ⟨some 3, _, _, _, _, _⟩) rfl 23 _ rfl 13 (confV c) rfl ?_)
  intro w1 hb1 hbel1 hsz1
  go_wp2_with (first
    | (with_reducible refine wpList_load_tab (o := ⟨some 9, _, _, _, _, _⟩) rfl 23 _ rfl w.heap.size 23 rfl 13 (confV c) _ hb1 rfl rfl (by kernel_rfl) ?_)
    | (go_at_call 31; refine (RAll_no c hm s _).mono ?_; rintro e w2 ⟨rfl, hbel2⟩))
  go_loop [5, 7] (fun v i => v = .slice none 0 0 ∧ i = .int .i64 0) (fun _ _ => 0)
  case atStart => exact ⟨rfl, rfl⟩
  case round =>
    obtain ⟨rfl, rfl⟩ := hrel
    go_wp2_with fail
    go_ret
    exact ⟨rfl, kp_step hbel1 hbel2⟩
set_option maxHeartbeats 4000000 in
theorem All_no (c : Nat → Int) (hm : mayC c = false) (s : ByteArray) (w : World) :
    Calls Try.prog 22 #[.string s, confA c] w fun e w' => e = .returned (.slice none 0 0) ∧ Below w.heap.size w w' := by
  unfold confA
  go_enter Try.func22, Try.ntmps22
  go_wp2_with (with_reducible refine wpList_box_tab (o := ⟨some 3, _, _, _, _, _⟩) rfl 23 _ rfl 13 (confV c) rfl ?_)
  intro w1 hb1 hbel1 hsz1
  go_wp2_with (first
    | (with_reducible refine wpList_load_tab (o := ⟨some 9, _, _, _, _, _⟩) rfl 23 _ rfl w.heap.size 23 rfl 13 (confV c) _ hb1 rfl rfl (by kernel_rfl) ?_)
    | (go_at_call 14; refine (Split_no c hm s _).mono ?_; rintro e w2 ⟨rfl, hbel2⟩))
  go_loop [5, 12] (fun v i => v = .slice none 0 0 ∧ i = .int .i64 0) (fun _ _ => 0)
  case atStart => exact ⟨rfl, rfl⟩
  case round =>
    obtain ⟨rfl, rfl⟩ := hrel
    go_wp2_with fail
    go_ret
    exact ⟨rfl, kp_step hbel1 hbel2⟩
theorem made_nil (w : World) : Calls Try.prog 29 #[.pointer none] w fun e w' => e = .returned (.bool false) ∧ w = w' := by
  go_enter Try.func29, Try.ntmps29
  go_wp2
  go_ret
  exact ⟨rfl, rfl⟩
theorem Write_nil (s : ByteArray) (w : World) : Calls Try.prog 17 #[.pointer none, .string s] w fun e w' => e = .returned (.slice none 0 0) ∧ w = w' := by
  go_enter Try.func17, Try.ntmps17
  go_wp2_with (go_at_call 29; refine (made_nil _).mono ?_; rintro e w1 ⟨rfl, rfl⟩)
  go_ret
  exact ⟨rfl, rfl⟩
theorem End_nil (w : World) : Calls Try.prog 20 #[.pointer none] w fun e w' => e = .returned (.slice none 0 0) ∧ w = w' := by
  go_enter Try.func20, Try.ntmps20
  go_wp2_with (go_at_call 29; refine (made_nil _).mono ?_; rintro e w1 ⟨rfl, rfl⟩)
  go_ret
  exact ⟨rfl, rfl⟩
theorem Left_nil (w : World) : Calls Try.prog 19 #[.pointer none] w fun e w' => e = .returned (.int .i64 0) ∧ w = w' := by
  go_enter Try.func19, Try.ntmps19
  go_wp2_with (go_at_call 29; refine (made_nil _).mono ?_; rintro e w1 ⟨rfl, rfl⟩)
  go_ret
  exact ⟨rfl, rfl⟩
def few6 (s : ByteArray) : ByteArray := if 6000 < s.size then s.extract 0 6000 else s
theorem few6_size (s : ByteArray) : (few6 s).size ≤ 6000 := by
  unfold few6; split
  · simp; omega
  · omega
theorem few_any (s : ByteArray) (hs : s.size ≤ maxLen) (w : World) : Calls Try.prog 8 #[.string s] w fun e w' => e = .returned (.string (few6 s)) ∧ w = w' := by
  unfold maxLen at hs
  by_cases h : 6000 < s.size
  · have hf : few6 s = s.extract 0 6000 := if_pos h
    have HF := Go.Lib.hid hf; clear hf
    go_enter Try.func8, Try.ntmps8
    go_wp2
    go_ret
    exact ⟨ret_str HF.out.symm, rfl⟩
  · have hf : few6 s = s := if_neg h
    have HF := Go.Lib.hid hf; clear hf
    go_enter Try.func8, Try.ntmps8
    go_wp2
    go_ret
    exact ⟨ret_str HF.out.symm, rfl⟩
def smallC (i : Nat) : Int := if i = 0 then 2 else if i = 1 then 4 else if i = 2 then 1 else if i = 3 then 1 else 0
def small4 : Conf4 := ⟨2, 4, 1, 1⟩
theorem small_ok : small4.ok := by unfold Conf4.ok small4; decide
theorem small_is : conf_is smallC small4 := ⟨rfl, rfl, rfl, rfl⟩
theorem small_may : mayC smallC = true := by rw [mayC_iff]; simp [smallC]
theorem small_any (w : World) : Calls Try.prog 27 #[] w fun e w' => e = .returned (confA smallC) ∧ Below w.heap.size w w' := by
  go_enter Try.func27, Try.ntmps27
  go_wp2_with (with_reducible refine wpList_alloc_blk (o := ⟨some 0, _, _, _, _, _⟩) rfl 23 rfl (.agg (tab 13 (confV fun _ => 0)).toArray) (by kernel_rfl) ?_)
  intro w1 hb1 hbel1 hsz1
  go_wp2_with (with_reducible refine wpList_store_tab (o := ⟨none, _, _, _, _, _⟩) rfl 23 _ _ rfl w.heap.size 23 13 (confV smallC) (confV fun _ => 0) rfl rfl hb1 (by kernel_rfl) (fun _ => rfl) ?_)
  intro w2 hb2 ho2
  go_wp2_with fail
  refine bodyPost_ret (results_cell_tab rfl _ _ w.heap.size 23 13 (confV smallC) _ rfl hb2 Try.underlying23 rfl (by kernel_rfl)) rfl ⟨rfl, ?_⟩
  exact hbel1.trans (ho2.below (by omega))
end Go.Proofs.Ytigfioknmcjbbaa
