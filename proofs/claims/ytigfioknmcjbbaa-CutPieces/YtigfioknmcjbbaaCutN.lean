/- The statement CutAll. -/
import Derived.Test.YtigfioknmcjbbaaCutM
namespace Go.Proofs.Ytigfioknmcjbbaa
open Go.RowKit

theorem empty_app (a : ByteArray) (r : ByteArray) (h : r.size = 0) : a ++ r = a := by
  rw [size_none r h]; apply ByteArray.ext; simp
theorem app_extract (a r : ByteArray) (n : Nat) (h : n ≤ r.size) : (a ++ r.extract 0 n) ++ r.extract n r.size = a ++ r := by
  apply ByteArray.ext
  simp only [ByteArray.data_append, ByteArray.data_extract, Array.append_assoc]
  congr 1
  have : r.size = r.data.size := rfl
  rw [this, Array.extract_append_extract, Nat.min_eq_left (Nat.zero_le _), Nat.max_eq_right (by omega), Array.extract_size]
set_option maxHeartbeats 4000000 in
theorem CutAll_no (w : World) (s : ByteArray) (hs : s.size ≤ maxLen) (c : Nat → Int) (hm : mayC c = false) :
    Calls Try.prog 7 #[.string s, confA c] w fun e w' => e = .returned (.bool true) ∧ Below w.heap.size w w' := by
  have few_s := fun (W : World) => few_any s hs W
  generalize few6 s = q at few_s
  have FQ := Go.Lib.hid few_s
  clear few_s
  unfold confA
  go_enter Try.func7, Try.ntmps7
  go_wp2_with (with_reducible refine wpList_box_tab (o := ⟨some 3, _, _, _, _, _⟩) rfl 23 _ rfl 13 (confV c) rfl ?_; intro w1 hb1 hbel1 hsz1)
  refine (FQ.out _).mono ?_
  rintro e w2 ⟨rfl, rfl⟩
  go_wp2_with (with_reducible refine wpList_load_tab (o := ⟨some 12, _, _, _, _, _⟩) rfl 23 _ rfl w.heap.size 23 rfl 13 (confV c) _ hb1 rfl rfl (by kernel_rfl) ?_)
  refine (All_no c hm q _).mono ?_
  rintro e w2 ⟨rfl, hbel2⟩
  have hb2 := hb1.kept hbel2
  go_wp2_with (with_reducible refine wpList_load_tab (o := ⟨some 15, _, _, _, _, _⟩) rfl 23 _ rfl w.heap.size 23 rfl 13 (confV c) _ hb2 rfl rfl (by kernel_rfl) ?_)
  refine (Split_no c hm q _).mono ?_
  rintro e w3 ⟨rfl, hbel3⟩
  have hb3 := hb2.kept hbel3
  go_wp2_with (with_reducible refine wpList_load_tab (o := ⟨some 19, _, _, _, _, _⟩) rfl 23 _ rfl w.heap.size 23 rfl 13 (confV c) _ hb3 rfl rfl (by kernel_rfl) ?_)
  refine (RSplit_no c hm q _).mono ?_
  rintro e w4 ⟨rfl, hbel4⟩
  have hb4 := hb3.kept hbel4
  go_wp2_with fail
  refine (RSame_any [] 0 0 0 rfl (by omega) none none _ (Rd.empty _ _) (Rd.empty _ _)).mono ?_
  rintro e w5 ⟨rfl, hbel5⟩
  have hb5 := hb4.kept hbel5
  go_wp2_with fail
  refine (awake_any _).mono ?_
  rintro e w6 ⟨rfl, hbel6⟩
  have hb6 := hb5.kept hbel6
  have hbel06 : Below w.heap.size w w6 := by (repeat (first | exact Below.refl _ _ | assumption | refine kp_drew ?_ | refine kp_drewN ?_ | refine kp_alloc ?_ | refine kp_step ?_ (by assumption)))
  clear hb1 hb2 hb3 hb4 hb5 hbel1 hbel2 hbel3 hbel4 hbel5 hbel6 hsz1
  go_wp2_with fail
  go_loop [7, 8] (fun a i => a = .string { data := #[] } ∧ i = .int .i64 0) (fun _ _ => 0)
  case atStart => exact ⟨rfl, rfl⟩
  case round =>
    obtain ⟨rfl, rfl⟩ := hrel
    obtain ⟨e0, e1, e2, e3, e4, e5, e6, e7, e8, e9, e10, e11, e12⟩ := cells13 hb6
    go_wp2_with (go_at_call 10; refine (RMay_any c _).mono ?_; rw [hm]; rintro e w7 ⟨rfl, hbel7⟩)
    all_goals
      go_ret
      exact ⟨rfl, by (repeat (first | exact Below.refl _ _ | assumption | refine kp_drew ?_ | refine kp_drewN ?_ | refine kp_alloc ?_ | refine kp_step ?_ (by assumption)))⟩
set_option maxHeartbeats 8000000 in
theorem CutAll_yes (w : World) (s : ByteArray) (hs : s.size ≤ maxLen) (c : Nat → Int) (hm : mayC c = true) :
    Calls Try.prog 7 #[.string s, confA c] w fun e w' => e = .returned (.bool true) ∧ Below w.heap.size w w' := by
  have hfs := few6_size s
  have few_s := fun (W : World) => few_any s hs W
  generalize few6 s = q at few_s hfs
  have FQ := Go.Lib.hid few_s
  clear few_s
  have hk := conf4_of hm
  generalize (⟨(c 0).toNat, (c 1).toNat, (c 2).toNat, (c 3).toNat⟩ : Conf4) = k at hk
  obtain ⟨hk1, hk2⟩ := hk
  have HK := Go.Lib.hid hk2
  have hq : q.size ≤ 1000000 := by omega
  unfold confA
  go_enter Try.func7, Try.ntmps7
  go_wp2_with (with_reducible refine wpList_box_tab (o := ⟨some 3, _, _, _, _, _⟩) rfl 23 _ rfl 13 (confV c) rfl ?_; intro w1 hb1 hbel1 hsz1)
  refine (FQ.out _).mono ?_
  rintro e w2 ⟨rfl, rfl⟩
  go_wp2_with (with_reducible refine wpList_load_tab (o := ⟨some 12, _, _, _, _, _⟩) rfl 23 _ rfl w.heap.size 23 rfl 13 (confV c) _ hb1 rfl rfl (by kernel_rfl) ?_)
  refine (All_cut c k hk1 HK.out hm q hq _).mono ?_
  rintro e w2 ⟨v, cs, rfl, hwh, hown, hbel2⟩
  obtain ⟨ao, cap, rfl, hrd, hrl⟩ := Rd.of_owns hown
  have hb2 := hb1.kept hbel2
  have hlen := hwh.len
  have hcl : cs.length ≤ 6000 := by omega
  clear hown hrl hlen
  go_wp2_with (with_reducible refine wpList_load_tab (o := ⟨some 15, _, _, _, _, _⟩) rfl 23 _ rfl w.heap.size 23 rfl 13 (confV c) _ hb2 rfl rfl (by kernel_rfl) ?_)
  refine (Split_whole c k hk1 HK.out hm q hq _).mono ?_
  rintro e w3 ⟨v3, cs3, rfl, hwh3, hown3, hbel3⟩
  obtain rfl := hwh.det hwh3
  obtain ⟨ao3, cap3, rfl, hrd3, hrl3⟩ := Rd.of_owns hown3
  have hb3 := hb2.kept hbel3
  have hrdA := hrd.kept hbel3
  clear hown3 hrl3 hwh3 hrd
  go_wp2_with (with_reducible refine wpList_load_tab (o := ⟨some 19, _, _, _, _, _⟩) rfl 23 _ rfl w.heap.size 23 rfl 13 (confV c) _ hb3 rfl rfl (by kernel_rfl) ?_)
  refine (RSplit_any c k hk1 HK.out hm q hq _).mono ?_
  rintro e w4 ⟨v4, cs4, rfl, hwh4, hown4, hbel4⟩
  obtain rfl := hwh.det hwh4
  obtain ⟨ao4, cap4, rfl, hrd4, hrl4⟩ := Rd.of_owns hown4
  have hb4 := hb3.kept hbel4
  have hrdA := hrdA.kept hbel4
  have hrdB := hrd3.kept hbel4
  clear hown4 hrl4 hwh4 hrd3
  go_wp2_with fail
  refine (RSame_any cs _ cap3 cap4 rfl (by omega) ao3 ao4 _ hrdB hrd4).mono ?_
  rintro e w5 ⟨rfl, hbel5⟩
  have hb5 := hb4.kept hbel5
  have hrdA := hrdA.kept hbel5
  have hrdB := hrdB.kept hbel5
  have hnn : ((cs.length : Int) != (cs.length : Int)) = false := by simp
  go_wp2_with fail
  refine (awake_any _).mono ?_
  rintro e w6 ⟨rfl, hbel6⟩
  have hb6 := hb5.kept hbel6
  have hrdA := hrdA.kept hbel6
  have hrdB := hrdB.kept hbel6
  have hbel06 : Below w.heap.size w w6 := by (repeat (first | exact Below.refl _ _ | assumption | refine kp_drew ?_ | refine kp_drewN ?_ | refine kp_alloc ?_ | refine kp_step ?_ (by assumption)))
  have hparts := hwh.parts
  have hsized := fun i hi => hwh.sized hk1 i hi
  have HA := Go.Lib.hid hrdA; have HB := Go.Lib.hid hrdB; have HS := Go.Lib.hid hsized; have HP := Go.Lib.hid hparts; have HBB := Go.Lib.hid hb6; have HL := Go.Lib.hid hbel06
  clear hb1 hb2 hb3 hb4 hb5 hb6 hbel1 hbel2 hbel3 hbel4 hbel5 hbel6 hsz1 hrdA hrdB hrd4 hparts hsized hwh hbel06 hnn
  go_wp2_with fail
  go_loopw [7, 8] (fun a i wr => ∃ (j : Nat) (x r : ByteArray), j ≤ cs.length ∧ i = .int .i64 j ∧ a = .string x ∧ Parts r (cs.drop j) ∧ Hid (x ++ r = q) ∧ x.size + r.size ≤ q.size ∧ Below w6.heap.size w6 wr) (fun _ i _ => cs.length - (intOf i).toNat)
  case atStart => exact ⟨0, { data := #[] }, q, Nat.zero_le _, rfl, rfl, HP.out, Go.Lib.hid (by apply ByteArray.ext; simp), by show 0 + q.size ≤ q.size; omega, Below.refl _ _⟩
  case round =>
    obtain ⟨j, x, r, hj, rfl, rfl, hp, hxr, hxs, hbw⟩ := hrel
    by_cases hlt : j < cs.length
    · obtain ⟨ga, oa, rfl, hga, hca⟩ := (HA.out.kept hbw).2 (by rw [List.length_map]; omega)
      obtain ⟨gb, ob, rfl, hgb, hcb⟩ := (HB.out.kept hbw).2 (by rw [List.length_map]; omega)
      have h1 := hca j (by rw [List.length_map]; exact hlt)
      have h2 := hcb j (by rw [List.length_map]; exact hlt)
      obtain ⟨n, hn, he, hse, hp2⟩ := parts_at hp hlt
      obtain ⟨z1, z2, z3⟩ := HS.out j hlt
      rw [map_getD j hlt] at h1 h2
      have hk2 := HK.out
      have hb := HBB.out.kept hbw
      have d0 : wr.cell? ⟨w.heap.size, 0, none⟩ = some (.int .i64 (k.mn : Nat)) := by { rw [hb.at 0 (by omega), ← hk2.1]; rfl }
      have d1 : wr.cell? ⟨w.heap.size, 1, none⟩ = some (.int .i64 (k.mx : Nat)) := by { rw [hb.at 1 (by omega), ← hk2.2.1]; rfl }
      have hszx : szV (cs.getD j { data := #[] }) = .int .i64 (n : Nat) := by unfold szV; rw [hse]
      rw [hszx] at h1
      rw [hse] at z1 z2 z3
      have hx2 := app_extract x r n hn
      have hes := extract_size r n hn
      rw [he] at h2 hse
      have hses : (r.extract 0 n).size ≤ n ∧ n ≤ (r.extract 0 n).size := by omega
      obtain ⟨y, hy⟩ : ∃ y, r.extract 0 n = y := ⟨_, rfl⟩
      rw [hy] at h2 hx2 hse hses
      have hyl : (y.size : Int) = (n : Int) := by omega
      have hxy : x.size + y.size ≤ 6000 := by omega
      have HX2 := Go.Lib.hid hx2; have HES := Go.Lib.hid hes; have HP2 := Go.Lib.hid hp2; have HW := Go.Lib.hid hbw
      have HSZ : Hid ((x ++ y).size = x.size + n) := Go.Lib.hid (by simp; omega)
      have g1 : ((n : Int) != (n : Int)) = false := by simp
      have g2 : decide ((n : Int) < 1) = false := by simp; omega
      have g3 : decide ((k.mx : Int) < (n : Int)) = false := by simp; omega
      have g8 : decide (k.mx < n) = false := by simp; omega
      have g9 : (n : Int) ≤ (k.mx : Int) := by omega
      have i0 : (0 : Int) ≤ (j : Int) := by omega
      have i1 : (j : Int) < (cs.length : Int) := by omega
      clear hca hcb he hp hk2 hb hszx hx2 hes hp2 hbw hy hse hses
      have hw : IntKind.i64.wrap ((j : Int) + 1) = (j : Int) + 1 := IntWalk.i64_in _ (by omega)
      have hrel : ∀ nq : Nat, (∃ (j_1 : Nat) (x_1 r : ByteArray), j_1 ≤ cs.length ∧ Value.int .i64 ((j : Int) + 1) = .int .i64 j_1 ∧ Value.string (x ++ y) = .string x_1 ∧ Parts r (cs.drop j_1) ∧ Hid (x_1 ++ r = q) ∧ x_1.size + r.size ≤ q.size ∧ Below w6.heap.size w6 (wr.drewN nq)) :=
        fun nq => ⟨j + 1, x ++ y, r.extract n r.size, by omega, by go_num, rfl, HP2.out, Go.Lib.hid (HX2.out.trans hxr.out), by rw [HSZ.out, HES.out]; omega, below_drewN HW.out _⟩
      have HREL := Go.Lib.hid hrel
      clear hrel
      by_cases hl : j + 1 < cs.length
      · have g4 : decide ((j : Int) + 1 < (cs.length : Int)) = true := by simp; omega
        have g5 : decide ((n : Int) < (k.mn : Int)) = false := by simp; have := z3 hl; omega
        have g10 : decide (n < k.mn) = false := by simp; have := z3 hl; omega
        have g11 : decide (j + 1 < cs.length) = true := by simp; omega
        clear z3
        go_wp2_with fail
        go_big_quiet (fail)
        go_wp2_with fail
        go_roundw
        case rel => exact HREL.out _
        case measure => simp [intOf]; omega
      · have g4 : decide ((j : Int) + 1 < (cs.length : Int)) = false := by simp; omega
        have g6 : (cs.length : Int) ≤ (j : Int) + 1 := by omega
        have g7 : decide (j + 1 < cs.length) = false := by simp; omega
        clear hl z3
        go_wp2_with fail
        go_big_quiet (fail)
        go_wp2_with fail
        go_roundw
        case rel => exact HREL.out _
        case measure => simp [intOf]; omega
    · obtain rfl : j = cs.length := by omega
      rw [List.drop_length] at hp
      obtain rfl : x = q := by
        cases hp with
        | nil h0 => rw [← hxr.out, empty_app x r h0]
      clear hp hxr
      go_wp2_with fail
      go_ret
      exact ⟨rfl, HL.out.trans (hbw.mono (by have := HL.out.size; omega))⟩
theorem CutAll_law (w : World) (s : ByteArray) (hs : s.size ≤ maxLen) (cs : List Value) (hcs : FitR Try.prog w 4 (List.replicate 13 (.int .i64)) cs) :
    Calls Try.prog 7 #[.string s, .agg cs.toArray] w fun e w' => e = .returned (.bool true) ∧ Below w.heap.size w w' := by
  obtain ⟨c, rfl, _⟩ := fitR_ints hcs
  cases hm : mayC c
  · exact CutAll_no w s hs c hm
  · exact CutAll_yes w s hs c hm
end Go.Proofs.Ytigfioknmcjbbaa
