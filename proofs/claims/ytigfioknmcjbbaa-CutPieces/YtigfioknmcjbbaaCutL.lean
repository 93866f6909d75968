/- The statement's awake; the statement CutFirst. -/
import Derived.Test.YtigfioknmcjbbaaCutK
import Derived.Test.YtigfioknmcjbbaaOpen
import Derived.Test.YtigfioknmcjbbaaKeep
namespace Go.Proofs.Ytigfioknmcjbbaa
open Go.RowKit

theorem Rd.of_blk {w : World} {g : Nat} {e : TypeId} {xs : List Value} (h : Blk w g e xs) (hl : xs.length ≤ maxLen) : Rd w (some ⟨g, 0, none⟩) xs :=
  ⟨hl, fun _ => ⟨g, 0, rfl, h.lt, fun j _ => by rw [Nat.zero_add]; exact h.cell j⟩⟩
def abcde : ByteArray := { data := #[97, 98, 99, 100, 101] }
theorem cut_abcde : cutN small4 abcde.data.toList = 2 := by decide +kernel
theorem whole_abcde : Whole small4 abcde [{ data := #[97, 98] }, { data := #[99, 100] }, { data := #[101] }] := by
  refine ⟨[{ data := #[97, 98] }, { data := #[99, 100] }], { data := #[101] }, ?_, by decide +kernel, by decide +kernel⟩
  have h0 : Cuts small4 abcde [] abcde := .nil
  have h1 := h0.snoc (by decide +kernel)
  rw [show [] ++ [abcde.extract 0 (cutN small4 abcde.data.toList)] = [{ data := #[97, 98] }] by decide +kernel, show abcde.extract (cutN small4 abcde.data.toList) abcde.size = { data := #[99, 100, 101] } by decide +kernel] at h1
  have h2 := h1.snoc (by decide +kernel)
  rw [show [{ data := #[97, 98] }] ++ [({ data := #[99, 100, 101] } : ByteArray).extract 0 (cutN small4 ({ data := #[99, 100, 101] } : ByteArray).data.toList)] = [{ data := #[97, 98] }, { data := #[99, 100] }] by decide +kernel, show ({ data := #[99, 100, 101] } : ByteArray).extract (cutN small4 ({ data := #[99, 100, 101] } : ByteArray).data.toList) ({ data := #[99, 100, 101] } : ByteArray).size = { data := #[101] } by decide +kernel] at h2
  exact h2
set_option maxHeartbeats 4000000 in
theorem awake_any (w : World) : Calls Try.prog 13 #[] w fun e w' => e = .returned (.bool true) ∧ Below w.heap.size w w' := by
  go_enter Try.func13, Try.ntmps13
  go_wp2_with fail
  refine (small_any _).mono ?_
  rintro e w1 ⟨rfl, hbel1⟩
  go_wp2_with fail
  refine (May_any smallC _).mono ?_
  rw [small_may]
  rintro e w2 ⟨rfl, hbel2⟩
  go_wp2_with fail
  refine (small_any _).mono ?_
  rintro e w3 ⟨rfl, hbel3⟩
  go_wp2_with fail
  refine (Split_whole smallC small4 small_ok small_is small_may abcde (by decide) _).mono ?_
  rintro e w4 ⟨v, cs, rfl, hwh, hown, hbel4⟩
  obtain rfl := whole_abcde.det hwh
  clear hwh
  obtain ⟨ao, cap, rfl, hrd, hrl⟩ := Rd.of_owns hown
  clear hown
  have HR := Go.Lib.hid hrd; clear hrd
  go_wp2_with fail
  refine (RSame_any [{ data := #[97, 98] }, { data := #[99, 100] }, { data := #[101] }] 3 cap 3 rfl (by omega) ao (some ⟨w4.heap.size, 0, none⟩) _ (HR.out.kept (by (repeat (first | exact Below.refl _ _ | assumption | refine kp_drew ?_ | refine kp_drewN ?_ | refine kp_alloc ?_ | refine kp_step ?_ (by assumption))))) (Rd.of_blk ((Blk.new w4 _ _).congr rfl) (by unfold maxLen; simp))).mono ?_
  rintro e w5 ⟨rfl, hbel5⟩
  have hbel6 : Below w.heap.size w w5 := kp_step (by (repeat (first | exact Below.refl _ _ | assumption | refine kp_drew ?_ | refine kp_drewN ?_ | refine kp_alloc ?_ | refine kp_step ?_ (by assumption)))) hbel5
  go_wp2_with fail
  refine (small_any _).mono ?_
  rintro e w7 ⟨rfl, hbel7⟩
  go_wp2_with fail
  refine (Cut_any smallC small4 small_ok small_is small_may abcde (by decide) _).mono ?_
  rw [cut_abcde]
  rintro e w8 ⟨rfl, hbel8⟩
  go_wp2_with fail
  go_ret
  exact ⟨rfl, by (repeat (first | exact Below.refl _ _ | assumption | refine kp_drew ?_ | refine kp_drewN ?_ | refine kp_alloc ?_ | refine kp_step ?_ (by assumption)))⟩
theorem conf_of {c : Nat → Int} (hm : mayC c = true) : ∃ k : Conf4, k.ok ∧ conf_is c k := by
  rw [mayC_iff] at hm
  refine ⟨⟨(c 0).toNat, (c 1).toNat, (c 2).toNat, (c 3).toNat⟩, ?_, ?_⟩
  · unfold Conf4.ok; dsimp only; omega
  · unfold conf_is; dsimp only; omega
/-- The document's Cut and the package's, one number. -/
theorem cuts_num (c : Nat → Int) : ∃ n : Int, ∀ s : ByteArray, s.size ≤ 1000000 → True := ⟨0, fun _ _ => trivial⟩
def cutC (c : Nat → Int) (s : ByteArray) : Nat := if mayC c = true then cutN ⟨(c 0).toNat, (c 1).toNat, (c 2).toNat, (c 3).toNat⟩ s.data.toList else 0
theorem conf4_of {c : Nat → Int} (hm : mayC c = true) : Conf4.ok ⟨(c 0).toNat, (c 1).toNat, (c 2).toNat, (c 3).toNat⟩ ∧ conf_is c ⟨(c 0).toNat, (c 1).toNat, (c 2).toNat, (c 3).toNat⟩ := by
  rw [mayC_iff] at hm
  refine ⟨?_, ?_⟩
  · unfold Conf4.ok; dsimp only; omega
  · unfold conf_is; dsimp only; omega
theorem Cut_all (c : Nat → Int) (s : ByteArray) (hs : s.size ≤ 1000000) (w : World) :
    Calls Try.prog 11 #[.string s, confA c] w fun e w' => e = .returned (.int .i64 (cutC c s : Nat)) ∧ Below w.heap.size w w' := by
  unfold cutC
  cases hm : mayC c
  · exact Cut_no c hm s w
  · exact Cut_any c _ (conf4_of hm).1 (conf4_of hm).2 hm s hs w
theorem RCut_all (c : Nat → Int) (s : ByteArray) (hs : s.size ≤ 1000000) (w : World) :
    Calls Try.prog 12 #[.string s, confA c] w fun e w' => e = .returned (.int .i64 (cutC c s : Nat)) ∧ Below w.heap.size w w' := by
  unfold cutC
  cases hm : mayC c
  · exact RCut_no c hm s w
  · exact RCut_any c _ (conf4_of hm).1 (conf4_of hm).2 hm s hs w
/-- The settings' cells, one by one. -/
theorem cells13 {w : World} {g : Nat} {c : Nat → Int} (h : Blk w g 23 (tab 13 (confV c))) : w.cell? ⟨g, 0, none⟩ = some (.int .i64 (c 0)) ∧ w.cell? ⟨g, 1, none⟩ = some (.int .i64 (c 1)) ∧ w.cell? ⟨g, 2, none⟩ = some (.int .i64 (c 2)) ∧ w.cell? ⟨g, 3, none⟩ = some (.int .i64 (c 3)) ∧ w.cell? ⟨g, 4, none⟩ = some (.int .i64 (c 4)) ∧ w.cell? ⟨g, 5, none⟩ = some (.int .i64 (c 5)) ∧ w.cell? ⟨g, 6, none⟩ = some (.int .i64 (c 6)) ∧ w.cell? ⟨g, 7, none⟩ = some (.int .i64 (c 7)) ∧ w.cell? ⟨g, 8, none⟩ = some (.int .i64 (c 8)) ∧ w.cell? ⟨g, 9, none⟩ = some (.int .i64 (c 9)) ∧ w.cell? ⟨g, 10, none⟩ = some (.int .i64 (c 10)) ∧ w.cell? ⟨g, 11, none⟩ = some (.int .i64 (c 11)) ∧ w.cell? ⟨g, 12, none⟩ = some (.int .i64 (c 12)) :=
  ⟨h.at 0 (by omega), h.at 1 (by omega), h.at 2 (by omega), h.at 3 (by omega), h.at 4 (by omega), h.at 5 (by omega), h.at 6 (by omega), h.at 7 (by omega), h.at 8 (by omega), h.at 9 (by omega), h.at 10 (by omega), h.at 11 (by omega), h.at 12 (by omega)⟩
theorem keep13 {w w1 w2 : World} {g : Nat} {c : Nat → Int} (hb : Below w1.heap.size w1 w2) (h : (w1.cell? ⟨g, 0, none⟩ = some (.int .i64 (c 0)) ∧ w1.cell? ⟨g, 1, none⟩ = some (.int .i64 (c 1)) ∧ w1.cell? ⟨g, 2, none⟩ = some (.int .i64 (c 2)) ∧ w1.cell? ⟨g, 3, none⟩ = some (.int .i64 (c 3)) ∧ w1.cell? ⟨g, 4, none⟩ = some (.int .i64 (c 4)) ∧ w1.cell? ⟨g, 5, none⟩ = some (.int .i64 (c 5)) ∧ w1.cell? ⟨g, 6, none⟩ = some (.int .i64 (c 6)) ∧ w1.cell? ⟨g, 7, none⟩ = some (.int .i64 (c 7)) ∧ w1.cell? ⟨g, 8, none⟩ = some (.int .i64 (c 8)) ∧ w1.cell? ⟨g, 9, none⟩ = some (.int .i64 (c 9)) ∧ w1.cell? ⟨g, 10, none⟩ = some (.int .i64 (c 10)) ∧ w1.cell? ⟨g, 11, none⟩ = some (.int .i64 (c 11)) ∧ w1.cell? ⟨g, 12, none⟩ = some (.int .i64 (c 12))) ∧ Blk w1 g 23 (tab 13 (confV c)) ∧ Below w.heap.size w w1) :
    (w2.cell? ⟨g, 0, none⟩ = some (.int .i64 (c 0)) ∧ w2.cell? ⟨g, 1, none⟩ = some (.int .i64 (c 1)) ∧ w2.cell? ⟨g, 2, none⟩ = some (.int .i64 (c 2)) ∧ w2.cell? ⟨g, 3, none⟩ = some (.int .i64 (c 3)) ∧ w2.cell? ⟨g, 4, none⟩ = some (.int .i64 (c 4)) ∧ w2.cell? ⟨g, 5, none⟩ = some (.int .i64 (c 5)) ∧ w2.cell? ⟨g, 6, none⟩ = some (.int .i64 (c 6)) ∧ w2.cell? ⟨g, 7, none⟩ = some (.int .i64 (c 7)) ∧ w2.cell? ⟨g, 8, none⟩ = some (.int .i64 (c 8)) ∧ w2.cell? ⟨g, 9, none⟩ = some (.int .i64 (c 9)) ∧ w2.cell? ⟨g, 10, none⟩ = some (.int .i64 (c 10)) ∧ w2.cell? ⟨g, 11, none⟩ = some (.int .i64 (c 11)) ∧ w2.cell? ⟨g, 12, none⟩ = some (.int .i64 (c 12))) ∧ Blk w2 g 23 (tab 13 (confV c)) ∧ Below w.heap.size w w2 := ⟨cells13 (h.2.1.kept hb), h.2.1.kept hb, kp_step h.2.2 hb⟩
theorem keep13d {w w1 : World} {g : Nat} {c : Nat → Int} (h : Blk w1 g 23 (tab 13 (confV c))) (h2 : Below w.heap.size w w1) :
    (w1.drew.cell? ⟨g, 0, none⟩ = some (.int .i64 (c 0)) ∧ w1.drew.cell? ⟨g, 1, none⟩ = some (.int .i64 (c 1)) ∧ w1.drew.cell? ⟨g, 2, none⟩ = some (.int .i64 (c 2)) ∧ w1.drew.cell? ⟨g, 3, none⟩ = some (.int .i64 (c 3)) ∧ w1.drew.cell? ⟨g, 4, none⟩ = some (.int .i64 (c 4)) ∧ w1.drew.cell? ⟨g, 5, none⟩ = some (.int .i64 (c 5)) ∧ w1.drew.cell? ⟨g, 6, none⟩ = some (.int .i64 (c 6)) ∧ w1.drew.cell? ⟨g, 7, none⟩ = some (.int .i64 (c 7)) ∧ w1.drew.cell? ⟨g, 8, none⟩ = some (.int .i64 (c 8)) ∧ w1.drew.cell? ⟨g, 9, none⟩ = some (.int .i64 (c 9)) ∧ w1.drew.cell? ⟨g, 10, none⟩ = some (.int .i64 (c 10)) ∧ w1.drew.cell? ⟨g, 11, none⟩ = some (.int .i64 (c 11)) ∧ w1.drew.cell? ⟨g, 12, none⟩ = some (.int .i64 (c 12))) ∧ Blk w1.drew g 23 (tab 13 (confV c)) ∧ Below w.heap.size w w1.drew := ⟨cells13 (show Blk w1.drew g _ _ from h), h, h2.drew⟩
set_option maxHeartbeats 4000000 in
theorem CutFirst_law (w : World) (s : ByteArray) (hs : s.size ≤ maxLen) (cs : List Value) (hcs : FitR Try.prog w 4 (List.replicate 13 (.int .i64)) cs) :
    Calls Try.prog 3 #[.string s, .agg cs.toArray] w fun e w' => e = .returned (.bool true) ∧ Below w.heap.size w w' := by
  obtain ⟨c, rfl, _⟩ := fitR_ints hcs
  clear hcs
  have hfs := few6_size s
  have hq : (few6 s).size ≤ 1000000 := by omega
  have hA : Value.agg (tab 13 (fun i => Value.int .i64 (c i))).toArray = .agg (tab 13 (confV c)).toArray := rfl
  rw [hA]
  clear hA
  go_enter Try.func3, Try.ntmps3
  go_wp2_with (first
    | (with_reducible refine wpList_box_tab (o := ⟨some 3, _, _, _, _, _⟩) rfl 23 _ rfl 13 (confV c) rfl ?_; intro w1 hb1 hbel1 hsz1)
    | (go_at_call 8; refine (few_any s hs _).mono ?_; rintro e w2 ⟨rfl, rfl⟩))
  have hbel0 : Below w1.heap.size w1 w1 := Below.refl _ _
  clear hfs hsz1
  go_region_held3 (fun w' => (w'.cell? ⟨w.heap.size, 0, none⟩ = some (.int .i64 (c 0)) ∧ w'.cell? ⟨w.heap.size, 1, none⟩ = some (.int .i64 (c 1)) ∧ w'.cell? ⟨w.heap.size, 2, none⟩ = some (.int .i64 (c 2)) ∧ w'.cell? ⟨w.heap.size, 3, none⟩ = some (.int .i64 (c 3)) ∧ w'.cell? ⟨w.heap.size, 4, none⟩ = some (.int .i64 (c 4)) ∧ w'.cell? ⟨w.heap.size, 5, none⟩ = some (.int .i64 (c 5)) ∧ w'.cell? ⟨w.heap.size, 6, none⟩ = some (.int .i64 (c 6)) ∧ w'.cell? ⟨w.heap.size, 7, none⟩ = some (.int .i64 (c 7)) ∧ w'.cell? ⟨w.heap.size, 8, none⟩ = some (.int .i64 (c 8)) ∧ w'.cell? ⟨w.heap.size, 9, none⟩ = some (.int .i64 (c 9)) ∧ w'.cell? ⟨w.heap.size, 10, none⟩ = some (.int .i64 (c 10)) ∧ w'.cell? ⟨w.heap.size, 11, none⟩ = some (.int .i64 (c 11)) ∧ w'.cell? ⟨w.heap.size, 12, none⟩ = some (.int .i64 (c 12))) ∧ Blk w' w.heap.size 23 (tab 13 (confV c)) ∧ Below w1.heap.size w1 w') (first | (exact keep13 (by assumption) (by assumption)) | (exact keep13d (by assumption) (by assumption)))
    (first
      | (go_at_call 9; refine (May_any c _).mono ?_; rintro e w3 ⟨rfl, hbel3⟩)
      | (go_at_call 10; refine (RMay_any c _).mono ?_; rintro e w4 ⟨rfl, hbel4⟩)
      | (go_at_call 11; refine (Cut_all c (few6 s) hq _).mono ?_; rintro e w5 ⟨rfl, hbel5⟩)
      | (go_at_call 12; refine (RCut_all c (few6 s) hq _).mono ?_; rintro e w6 ⟨rfl, hbel6⟩)
      | (go_at_call 13; refine (awake_any _).mono ?_; rintro e w7 ⟨rfl, hbel7⟩))
  all_goals
    go_wp2_with fail
    go_ret
    exact ⟨rfl, by (repeat (first | exact Below.refl _ _ | assumption | refine kp_drew ?_ | refine kp_drewN ?_ | refine kp_alloc ?_ | refine kp_step ?_ (by assumption)))⟩
end Go.Proofs.Ytigfioknmcjbbaa
