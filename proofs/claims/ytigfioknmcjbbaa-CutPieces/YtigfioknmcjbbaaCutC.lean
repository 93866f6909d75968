/- The walks over the cutter's made, take and New. -/
import Derived.Test.YtigfioknmcjbbaaCutB
namespace Go.Proofs.Ytigfioknmcjbbaa
open Go.RowKit

set_option maxHeartbeats 1000000 in
theorem made_any (g gr : Nat) (c : Nat → Int) (s : ByteArray) (at_ back : Nat) (l : List UInt8) (w : World) (hst : CutS w g gr c s at_ back l) :
    Calls Try.prog 29 #[.pointer (some ⟨g, 0, none⟩)] w fun e w' => e = .returned (.bool true) ∧ w = w' := by
  have c13 : w.cell? ⟨g, 13, none⟩ = some (.pointer (some ⟨gr, 0, none⟩)) := hst.1.at 13 (by omega)
  go_enter Try.func29, Try.ntmps29
  go_wp2
  go_ret
  exact ⟨rfl, rfl⟩
set_option maxHeartbeats 4000000 in
theorem take_any (g gr : Nat) (c : Nat → Int) (s : ByteArray) (hs : s.size ≤ 1000000) (at_ back : Nat) (l : List UInt8) (n : Nat) (hn : n ≤ s.size) (w : World) (hst : CutS w g gr c s at_ back l) :
    Calls Try.prog 30 #[.pointer (some ⟨g, 0, none⟩), .int .i64 (n : Nat)] w fun e w' => e = .returned (.string (s.extract 0 n)) ∧ CutS w' g gr c (s.extract n s.size) 0 0 [] ∧ Only2 g gr w w' := by
  obtain ⟨hb, hr, hgg⟩ := hst
  have cLeft : w.cell? ⟨g, 14, none⟩ = some (.string s) := hb.at 14 (by omega)
  have cRoll : w.cell? ⟨g, 13, none⟩ = some (.pointer (some ⟨gr, 0, none⟩)) := hb.at 13 (by omega)
  have c15 : w.cell? ⟨g, 15, none⟩ = some (.int .i64 (at_ : Nat)) := hb.at 15 (by omega)
  have c16 : w.cell? ⟨g, 16, none⟩ = some (.int .i64 (back : Nat)) := hb.at 16 (by omega)
  have f14 := hb.freeAt 14 (by omega)
  have f15 := hb.freeAt 15 (by omega)
  have f16 := hb.freeAt 16 (by omega)
  have hcut : ((((tab 17 (cutAt c gr s at_ back)).set 14 (.string (s.extract n s.size))).set 15 (.int .i64 0)).set 16 (.int .i64 0)) = tab 17 (cutAt c gr (s.extract n s.size) 0 0) := by
    rw [tab_set, tab_set, tab_set]
    refine tab_congr fun j hj => ?_
    unfold cutAt
    by_cases h16 : j = 16
    · subst h16; rfl
    · by_cases h15 : j = 15
      · subst h15; rfl
      · by_cases h14 : j = 14
        · subst h14; rfl
        · rw [if_neg h16, if_neg h15, if_neg h14]
          by_cases h13 : j < 13
          · simp [h13]
          · have : j = 13 := by omega
            subst this; rfl
  have HC := Go.Lib.hid hcut
  have HB := Go.Lib.hid hb
  clear hcut hb
  go_enter Try.func30, Try.ntmps30
  go_wp2_with (go_at_call 34; refine (Reset_roll gr l _ (((hr.other (fun h => hgg h) _).other (fun h => hgg h) _).other (fun h => hgg h) _)).mono ?_; rintro e w2 ⟨rfl, hr2, ho2⟩)
  go_ret
  have hb3 := ((HB.out.set 14 (.string (s.extract n s.size))).set 15 (.int .i64 0)).set 16 (.int .i64 0)
  have ho3 : Only g w (((w.setCell ⟨g, 14, none⟩ (.string (s.extract n s.size))).setCell ⟨g, 15, none⟩ (.int .i64 0)).setCell ⟨g, 16, none⟩ (.int .i64 0)) := ((Only.setCell 14 _).setCell' 15 _).setCell' 16 _
  exact ⟨rfl, ⟨(ho2.other hb3 hgg).congr HC.out, hr2, hgg⟩, ho3.two.trans ho2.two'⟩
theorem newBlk (c : Nat → Int) (gr : Nat) : (tab 13 (confV c)).toArray ++ #[.pointer (some ⟨gr, 0, none⟩), .string { data := #[] }, .int .i64 0, .int .i64 0] = (tab 17 (cutAt c gr { data := #[] } 0 0)).toArray := rfl
set_option maxHeartbeats 4000000 in
theorem New_no (c : Nat → Int) (hm : mayC c = false) (w : World) :
    Calls Try.prog 16 #[confA c] w fun e w' => e = .returned (.tuple #[.pointer none, .int .i64 1]) ∧ Below w.heap.size w w' := by
  unfold confA
  go_enter Try.func16, Try.ntmps16
  go_wp2_with (with_reducible refine wpList_box_tab (o := ⟨some 1, _, _, _, _, _⟩) rfl 23 _ rfl 13 (confV c) rfl ?_)
  intro w1 hb1 hbel1 hsz1
  go_wp2_with (first
    | (with_reducible refine wpList_load_tab (o := ⟨some 4, _, _, _, _, _⟩) rfl 23 _ rfl w.heap.size 23 rfl 13 (confV c) _ hb1 rfl rfl (by kernel_rfl) ?_)
    | (go_at_call 9; refine (May_any c _).mono ?_; rintro e w2 ⟨rfl, hbel2⟩))
  go_ret2
  exact ⟨rfl, kp_step hbel1 hbel2⟩
set_option maxHeartbeats 4000000 in
theorem New_any' (c : Nat → Int) (hm : mayC c = true) (w : World) :
    Calls Try.prog 16 #[confA c] w fun e w' => ∃ g gr, e = .returned (.tuple #[.pointer (some ⟨g, 0, none⟩), .int .i64 0]) ∧ CutS w' g gr c { data := #[] } 0 0 [] ∧ Below w.heap.size w w' ∧ w.heap.size ≤ g ∧ w.heap.size ≤ gr := by
  unfold confA
  go_enter Try.func16, Try.ntmps16
  go_wp2_with (with_reducible refine wpList_box_tab (o := ⟨some 1, _, _, _, _, _⟩) rfl 23 _ rfl 13 (confV c) rfl ?_)
  intro w1 hb1 hbel1 hsz1
  go_wp2_with (first
    | (with_reducible refine wpList_load_tab (o := ⟨some 4, _, _, _, _, _⟩) rfl 23 _ rfl w.heap.size 23 rfl 13 (confV c) _ hb1 rfl rfl (by kernel_rfl) ?_)
    | (go_at_call 9; refine (May_any c _).mono ?_; rintro e w2 ⟨rfl, hbel2⟩))
  have hb2 := hb1.kept hbel2
  have hbel12 := kp_step hbel1 hbel2
  have hsz2 := hbel2.size
  clear hb1 hbel1 hbel2
  have hlt2 : w.heap.size < w2.heap.size := by omega
  have c0 : w2.cell? ⟨w.heap.size, 0, none⟩ = some (.int .i64 (c 0)) := hb2.at 0 (by omega)
  have c1 : w2.cell? ⟨w.heap.size, 1, none⟩ = some (.int .i64 (c 1)) := hb2.at 1 (by omega)
  have c2 : w2.cell? ⟨w.heap.size, 2, none⟩ = some (.int .i64 (c 2)) := hb2.at 2 (by omega)
  have c3 : w2.cell? ⟨w.heap.size, 3, none⟩ = some (.int .i64 (c 3)) := hb2.at 3 (by omega)
  have c4 : w2.cell? ⟨w.heap.size, 4, none⟩ = some (.int .i64 (c 4)) := hb2.at 4 (by omega)
  have c5 : w2.cell? ⟨w.heap.size, 5, none⟩ = some (.int .i64 (c 5)) := hb2.at 5 (by omega)
  have c6 : w2.cell? ⟨w.heap.size, 6, none⟩ = some (.int .i64 (c 6)) := hb2.at 6 (by omega)
  have c7 : w2.cell? ⟨w.heap.size, 7, none⟩ = some (.int .i64 (c 7)) := hb2.at 7 (by omega)
  have c8 : w2.cell? ⟨w.heap.size, 8, none⟩ = some (.int .i64 (c 8)) := hb2.at 8 (by omega)
  have c9 : w2.cell? ⟨w.heap.size, 9, none⟩ = some (.int .i64 (c 9)) := hb2.at 9 (by omega)
  have c10 : w2.cell? ⟨w.heap.size, 10, none⟩ = some (.int .i64 (c 10)) := hb2.at 10 (by omega)
  have c11 : w2.cell? ⟨w.heap.size, 11, none⟩ = some (.int .i64 (c 11)) := hb2.at 11 (by omega)
  have c12 : w2.cell? ⟨w.heap.size, 12, none⟩ = some (.int .i64 (c 12)) := hb2.at 12 (by omega)
  go_region_with (go_at_call 28; refine (New_any _).mono ?_; rintro e w3 ⟨rfl, hr3, hbel3⟩; obtain ⟨hcc, hff⟩ := bcell (W := w2) (w1 := w3) ⟨hbel3.os, hbel3.tape, hbel3.output, hbel3.size, hbel3.block⟩)
  all_goals
    go_wp2_with fail
    go_ret2
    have hl3 : w2.heap.size < w3.heap.size := hr3.lt
    have hbc : ∀ y : World, y.heap = w3.heap → Blk (y.alloc (.cells #[.int .i64 (c 0), .int .i64 (c 1), .int .i64 (c 2), .int .i64 (c 3), .int .i64 (c 4), .int .i64 (c 5), .int .i64 (c 6), .int .i64 (c 7), .int .i64 (c 8), .int .i64 (c 9), .int .i64 (c 10), .int .i64 (c 11), .int .i64 (c 12), .pointer (some ⟨w2.heap.size, 0, none⟩), .string { data := #[] }, .int .i64 0, .int .i64 0] 47)) w3.heap.size 47 (tab 17 (cutAt c w2.heap.size { data := #[] } 0 0)) := fun y hy => by
      rw [← hy]; exact (Blk.new y _ _).congr rfl
    refine ⟨w3.heap.size, w2.heap.size, rfl, ⟨hbc _ rfl, Blk.alloc hr3 _, by omega⟩, ?_, by omega, by omega⟩
    have hb3 : Below w.heap.size w w3 := kp_step hbel12 ⟨hbel3.os, hbel3.tape, hbel3.output, hbel3.size, hbel3.block⟩
    exact kp_alloc hb3
end Go.Proofs.Ytigfioknmcjbbaa
