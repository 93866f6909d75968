/- The statements CutNobody and CutBehind. -/
import Derived.Test.YtigfioknmcjbbaaCutL
namespace Go.Proofs.Ytigfioknmcjbbaa
open Go.RowKit

set_option maxHeartbeats 4000000 in
theorem CutNobody_law (w : World) (s : ByteArray) (hs : s.size ≤ maxLen) :
    Calls Try.prog 6 #[.string s] w fun e w' => e = .returned (.bool true) ∧ Below w.heap.size w w' := by
  go_enter Try.func6, Try.ntmps6
  go_wp2_with (first
    | (go_at_call 8; refine (few_any s hs _).mono ?_; rintro e w2 ⟨rfl, rfl⟩)
    | (go_at_call 17; refine (Write_nil _ _).mono ?_; rintro e w2 ⟨rfl, rfl⟩)
    | (go_at_call 20; refine (End_nil _).mono ?_; rintro e w2 ⟨rfl, rfl⟩)
    | (go_at_call 19; refine (Left_nil _).mono ?_; rintro e w2 ⟨rfl, rfl⟩)
    | (go_at_call 13; refine (awake_any _).mono ?_; rintro e w7 ⟨rfl, hbel7⟩))
  go_ret
  exact ⟨rfl, hbel7⟩
theorem Whole.tail {k : Conf4} {s : ByteArray} {cs : List ByteArray} (h : Whole k s cs) (hn : 0 < cutN k s.data.toList) : ∃ cs2, cs = s.extract 0 (cutN k s.data.toList) :: cs2 ∧ Whole k (s.extract (cutN k s.data.toList) s.size) cs2 := by
  obtain ⟨c0, r, h1, rfl⟩ := h.falls
  cases h1 with
  | nil hz => omega
  | @cons _ cs r hp h2 =>
    refine ⟨cs ++ lastOf r, rfl, ?_⟩
    have := h2.whole (s0 := s.extract (cutN k s.data.toList) s.size) (c0 := []) .nil
    rwa [List.nil_append] at this
theorem Rd.tail {w : World} {g off : Nat} {x : Value} {xs : List Value} (h : Rd w (some ⟨g, off, none⟩) (x :: xs)) : Rd w (some ⟨g, off + 1, none⟩) xs := by
  refine ⟨by have := h.1; simp at this; omega, fun hn => ?_⟩
  obtain ⟨g', off', he, h1, h2⟩ := h.2 (by simp)
  simp only [Option.some.injEq, Addr.mk.injEq, and_true] at he
  obtain ⟨rfl, rfl⟩ := he
  refine ⟨g, off + 1, rfl, h1, fun j hj => ?_⟩
  have := h2 (j + 1) (by simp; omega)
  rw [show off + 1 + j = off + (j + 1) by omega, this]
  rfl
theorem Rd.empty (w : World) (ao : Option Addr) : Rd w ao [] := ⟨by simp, fun h => by simp at h⟩
theorem cutC_yes {c : Nat → Int} {s : ByteArray} (h : 0 < cutC c s) : mayC c = true ∧ cutN ⟨(c 0).toNat, (c 1).toNat, (c 2).toNat, (c 3).toNat⟩ s.data.toList = cutC c s := by
  unfold cutC at h ⊢
  split at h
  · rename_i hm; exact ⟨hm, by rw [if_pos hm]⟩
  · omega
theorem cutC_app {c : Nat → Int} {s : ByteArray} (t : ByteArray) (h : 0 < cutC c s) : cutC c (s ++ t) = cutC c s := by
  obtain ⟨hm, he⟩ := cutC_yes h
  have h2 := cutN_app ⟨(c 0).toNat, (c 1).toNat, (c 2).toNat, (c 3).toNat⟩ s.data.toList t.data.toList (by rw [he]; exact h)
  have h3 : (s ++ t).data.toList = s.data.toList ++ t.data.toList := by simp
  rw [← he, ← h2, ← h3]
  unfold cutC
  rw [if_pos hm]
theorem cutC_le (c : Nat → Int) (s : ByteArray) : cutC c s ≤ s.size := by
  unfold cutC
  split
  · have := cutN_le ⟨(c 0).toNat, (c 1).toNat, (c 2).toNat, (c 3).toNat⟩ s.data.toList
    simpa using this
  · omega
theorem Same_refl (xs : List ByteArray) (n ca cb : Nat) (hl : xs.length = n) (hn : n ≤ 1000000) (ao bo : Option Addr) (w : World) (ha : Rd w ao (xs.map .string)) (hb : Rd w bo (xs.map .string)) :
    Calls Try.prog 15 #[.slice ao n ca, .slice bo n cb] w fun e w' => e = .returned (.bool true) ∧ Below w.heap.size w w' := RSame_any xs n ca cb hl hn ao bo w ha hb
set_option maxHeartbeats 4000000 in
theorem CutBehind_law (w : World) (s : ByteArray) (hs : s.size ≤ maxLen) (t : ByteArray) (ht : t.size ≤ maxLen) (cs : List Value) (hcs : FitR Try.prog w 4 (List.replicate 13 (.int .i64)) cs) :
    Calls Try.prog 4 #[.string s, .string t, .agg cs.toArray] w fun e w' => e = .returned (.bool true) ∧ Below w.heap.size w w' := by
  obtain ⟨c, rfl, _⟩ := fitR_ints hcs
  clear hcs
  have hfs := few6_size s
  have hft := few6_size t
  have hA : Value.agg (tab 13 (fun i => Value.int .i64 (c i))).toArray = .agg (tab 13 (confV c)).toArray := rfl
  rw [hA]
  clear hA
  have few_s := fun (W : World) => few_any s hs W
  have few_t := fun (W : World) => few_any t ht W
  generalize few6 s = q at hfs few_s
  generalize few6 t = u at hft few_t
  have FQ := Go.Lib.hid few_s; have FT := Go.Lib.hid few_t
  clear few_s few_t
  have hle := cutC_le c q
  obtain ⟨n, hn⟩ : ∃ n, cutC c q = n := ⟨_, rfl⟩
  rw [hn] at hle
  have HN := Go.Lib.hid hn
  by_cases h0 : n = 0
  · subst h0
    clear hn
    go_enter Try.func4, Try.ntmps4
    go_wp2_with (with_reducible refine wpList_box_tab (o := ⟨some 5, _, _, _, _, _⟩) rfl 23 _ rfl 13 (confV c) rfl ?_; intro w1 hb1 hbel1 hsz1)
    refine (FQ.out _).mono ?_
    rintro e w2 ⟨rfl, rfl⟩
    go_wp2_with fail
    refine (FT.out _).mono ?_
    rintro e w2 ⟨rfl, rfl⟩
    go_wp2_with (first
      | (with_reducible refine wpList_load_tab (o := ⟨some 14, _, _, _, _, _⟩) rfl 23 _ rfl w.heap.size 23 rfl 13 (confV c) _ hb1 rfl rfl (by kernel_rfl) ?_)
      | (go_at_call 11; refine (Cut_all c q (by omega) _).mono ?_; rw [HN.out]; rintro e w5 ⟨rfl, hbel5⟩; have hb5 := hb1.kept hbel5)
      | (with_reducible refine wpList_load_tab (o := ⟨some 19, _, _, _, _, _⟩) rfl 23 _ rfl w.heap.size 23 rfl 13 (confV c) _ hb5 rfl rfl (by kernel_rfl) ?_)
      | (go_at_call 12; refine (RCut_all c q (by omega) _).mono ?_; rw [HN.out]; rintro e w6 ⟨rfl, hbel6⟩)
      | (go_at_call 13; refine (awake_any _).mono ?_; rintro e w7 ⟨rfl, hbel7⟩))
    go_ret
    exact ⟨rfl, by (repeat (first | exact Below.refl _ _ | assumption | refine kp_drew ?_ | refine kp_drewN ?_ | refine kp_alloc ?_ | refine kp_step ?_ (by assumption)))⟩
  · obtain ⟨hm, hcn⟩ := cutC_yes (c := c) (s := q) (by omega)
    have hk := conf4_of hm
    have hap : cutC c (q ++ u) = n := by rw [cutC_app u (by omega), hn]
    rw [hn] at hcn
    generalize (⟨(c 0).toNat, (c 1).toNat, (c 2).toNat, (c 3).toNat⟩ : Conf4) = k at hk hcn
    obtain ⟨hk1, hk2⟩ := hk
    have hqu : (q ++ u).size = q.size + u.size := by simp
    have hqs : (q ++ u).size ≤ 1000000 := by omega
    have hxs := extract_size q n hle
    have hxl : (q.extract n q.size).size ≤ 1000000 := by omega
    have HCN := Go.Lib.hid hcn; have HAP := Go.Lib.hid hap; have HQS := Go.Lib.hid hqs; have HXL := Go.Lib.hid hxl
    have hz : ((n : Int) == 0) = false := by rw [beq_eq_false_iff_ne]; omega
    have hnn : ((n : Int) != n) = false := by simp
    have HK2 := Go.Lib.hid hk2
    clear hcn hap hqu hqs hxs hxl hn hk2
    go_enter Try.func4, Try.ntmps4
    go_wp2_with (with_reducible refine wpList_box_tab (o := ⟨some 5, _, _, _, _, _⟩) rfl 23 _ rfl 13 (confV c) rfl ?_; intro w1 hb1 hbel1 hsz1)
    refine (FQ.out _).mono ?_
    rintro e w2 ⟨rfl, rfl⟩
    go_wp2_with fail
    refine (FT.out _).mono ?_
    rintro e w2 ⟨rfl, rfl⟩
    go_wp2_with (first
      | (with_reducible refine wpList_load_tab (o := ⟨some 14, _, _, _, _, _⟩) rfl 23 _ rfl w.heap.size 23 rfl 13 (confV c) _ hb1 rfl rfl (by kernel_rfl) ?_))
    refine (Cut_all c q (by omega) _).mono ?_
    rw [HN.out]
    rintro e w5 ⟨rfl, hbel5⟩
    have hb5 := hb1.kept hbel5
    obtain ⟨e0, e1, e2, e3, e4, e5, e6, e7, e8, e9, e10, e11, e12⟩ := cells13 hb5
    go_wp2_with fail
    refine (Cut_all c (q ++ u) HQS.out _).mono ?_
    rw [HAP.out]
    rintro e w6 ⟨rfl, hbel6⟩
    clear e0 e1 e2 e3 e4 e5 e6 e7 e8 e9 e10 e11 e12
    have hb6 := hb5.kept hbel6
    go_wp2_with (first
      | (with_reducible refine wpList_load_tab (o := ⟨some 43, _, _, _, _, _⟩) rfl 23 _ rfl w.heap.size 23 rfl 13 (confV c) _ hb6 rfl rfl (by kernel_rfl) ?_))
    refine (Split_whole c k hk1 HK2.out hm q (by omega) _).mono ?_
    rintro e w7 ⟨v, ds, rfl, hwh, hown, hbel7⟩
    have hb7 := hb6.kept hbel7
    have hlen := hwh.len
    obtain ⟨ds2, rfl, hwh2⟩ := hwh.tail (by rw [HCN.out]; omega)
    rw [HCN.out] at hwh2
    have hbel07 : Below w.heap.size w w7 := by (repeat (first | exact Below.refl _ _ | assumption | refine kp_drew ?_ | refine kp_drewN ?_ | refine kp_alloc ?_ | refine kp_step ?_ (by assumption)))
    rcases hown.2 with ⟨_, hnil⟩ | ⟨g, cap, cur, rfl, hgb, hh, hnc, hcm, _⟩
    · simp at hnil
    · obtain ⟨ao, cap', heq, hrd, hrl⟩ := Rd.of_owns hown
      clear hrl
      simp only [Value.slice.injEq] at heq
      obtain ⟨rfl, _, rfl⟩ := heq
      have hrt : Rd w7 (if cap = 1 then some ⟨g, 0, none⟩ else some ⟨g, 1, none⟩) (ds2.map .string) := by
        split
        · rename_i hc1
          have : ds2 = [] := by
            rw [hc1, List.length_cons] at hnc
            exact List.eq_nil_of_length_eq_zero (by omega)
          subst this
          exact Rd.empty _ _
        · have h2 := hrd
          rw [List.map_cons] at h2
          have := h2.tail
          simpa using this
      have HRT := Go.Lib.hid hrt; have HW2 := Go.Lib.hid hwh2
      have hdl : ds2.length ≤ 6000 := by rw [List.length_cons] at hlen; omega
      simp only [List.length_cons] at hnc ⊢
      clear hwh2 hrd hrt hown hlen hh
      have hS := cells13 hb7
      clear hb1 hb5 hb6 hbel1 hbel5 hbel6 hbel7
      have hbel0 : Below w7.heap.size w7 w7 := Below.refl _ _
      clear hwh
      by_cases hc1 : cap = 1
      · subst hc1
        obtain rfl : ds2 = [] := List.eq_nil_of_length_eq_zero (by omega)
        have hni : (n : Int) ≤ (q.size : Int) := by omega
        have hn0 : (0 : Int) ≤ (n : Int) := by omega
        clear hnc
        go_wp2_with fail
        go_region_held3 (fun w' => (w'.cell? ⟨w.heap.size, 0, none⟩ = some (.int .i64 (c 0)) ∧ w'.cell? ⟨w.heap.size, 1, none⟩ = some (.int .i64 (c 1)) ∧ w'.cell? ⟨w.heap.size, 2, none⟩ = some (.int .i64 (c 2)) ∧ w'.cell? ⟨w.heap.size, 3, none⟩ = some (.int .i64 (c 3)) ∧ w'.cell? ⟨w.heap.size, 4, none⟩ = some (.int .i64 (c 4)) ∧ w'.cell? ⟨w.heap.size, 5, none⟩ = some (.int .i64 (c 5)) ∧ w'.cell? ⟨w.heap.size, 6, none⟩ = some (.int .i64 (c 6)) ∧ w'.cell? ⟨w.heap.size, 7, none⟩ = some (.int .i64 (c 7)) ∧ w'.cell? ⟨w.heap.size, 8, none⟩ = some (.int .i64 (c 8)) ∧ w'.cell? ⟨w.heap.size, 9, none⟩ = some (.int .i64 (c 9)) ∧ w'.cell? ⟨w.heap.size, 10, none⟩ = some (.int .i64 (c 10)) ∧ w'.cell? ⟨w.heap.size, 11, none⟩ = some (.int .i64 (c 11)) ∧ w'.cell? ⟨w.heap.size, 12, none⟩ = some (.int .i64 (c 12))) ∧ Blk w' w.heap.size 23 (tab 13 (confV c)) ∧ Below w7.heap.size w7 w') (first | (exact keep13 (by assumption) (by assumption)) | (exact keep13d (by assumption) (by assumption)))
          (first
            | (go_at_call 14; refine (Split_whole c k hk1 HK2.out hm (q.extract n q.size) HXL.out _).mono ?_; rintro e w8 ⟨v8, ds8, rfl, hwh8, hown8, hbel8⟩; obtain rfl := HW2.out.det hwh8; obtain ⟨ao8, cap8, rfl, hrd8, hrl8⟩ := Rd.of_owns hown8; clear hrl8 hwh8 hown8)
            | (go_at_call 15; refine (RSame_any [] 0 _ cap8 rfl (by omega) _ ao8 _ (Rd.empty _ _) (by exact hrd8)).mono ?_; rintro e w9 ⟨rfl, hbel9⟩)
            | (go_at_call 13; refine (awake_any _).mono ?_; rintro e w10 ⟨rfl, hbel10⟩))
        all_goals
          go_wp2_with fail
          go_ret
          exact ⟨rfl, by (repeat (first | exact Below.refl _ _ | assumption | refine kp_drew ?_ | refine kp_drewN ?_ | refine kp_alloc ?_ | refine kp_step ?_ (by assumption)))⟩
      · have hcap : (1 : Int) ≤ (cap : Int) := by omega
        have hl2 : (1 : Int) ≤ (ds2.length : Int) + 1 := by omega
        have hl3 : (ds2.length : Int) + 1 ≤ (cap : Int) := by omega
        have hni : (n : Int) ≤ (q.size : Int) := by omega
        have hn0 : (0 : Int) ≤ (n : Int) := by omega
        have hpos : (0 : Int) < (ds2.length : Int) + 1 := by omega
        have hrt2 := HRT.out
        rw [if_neg hc1] at hrt2
        have HR2 := Go.Lib.hid hrt2
        clear hrt2 HRT
        go_wp2_with fail
        go_region_held3 (fun w' => (w'.cell? ⟨w.heap.size, 0, none⟩ = some (.int .i64 (c 0)) ∧ w'.cell? ⟨w.heap.size, 1, none⟩ = some (.int .i64 (c 1)) ∧ w'.cell? ⟨w.heap.size, 2, none⟩ = some (.int .i64 (c 2)) ∧ w'.cell? ⟨w.heap.size, 3, none⟩ = some (.int .i64 (c 3)) ∧ w'.cell? ⟨w.heap.size, 4, none⟩ = some (.int .i64 (c 4)) ∧ w'.cell? ⟨w.heap.size, 5, none⟩ = some (.int .i64 (c 5)) ∧ w'.cell? ⟨w.heap.size, 6, none⟩ = some (.int .i64 (c 6)) ∧ w'.cell? ⟨w.heap.size, 7, none⟩ = some (.int .i64 (c 7)) ∧ w'.cell? ⟨w.heap.size, 8, none⟩ = some (.int .i64 (c 8)) ∧ w'.cell? ⟨w.heap.size, 9, none⟩ = some (.int .i64 (c 9)) ∧ w'.cell? ⟨w.heap.size, 10, none⟩ = some (.int .i64 (c 10)) ∧ w'.cell? ⟨w.heap.size, 11, none⟩ = some (.int .i64 (c 11)) ∧ w'.cell? ⟨w.heap.size, 12, none⟩ = some (.int .i64 (c 12))) ∧ Blk w' w.heap.size 23 (tab 13 (confV c)) ∧ Below w7.heap.size w7 w') (first | (exact keep13 (by assumption) (by assumption)) | (exact keep13d (by assumption) (by assumption)))
          (first
            | (go_at_call 14; refine (Split_whole c k hk1 HK2.out hm (q.extract n q.size) HXL.out _).mono ?_; rintro e w8 ⟨v8, ds8, rfl, hwh8, hown8, hbel8⟩; obtain rfl := HW2.out.det hwh8; obtain ⟨ao8, cap8, rfl, hrd8, hrl8⟩ := Rd.of_owns hown8; clear hrl8 hwh8 hown8)
            | (go_at_call 15; refine (RSame_any ds2 _ _ cap8 rfl (by omega) _ ao8 _ (HR2.out.kept (by (repeat (first | exact Below.refl _ _ | assumption | refine kp_drew ?_ | refine kp_drewN ?_ | refine kp_alloc ?_ | refine kp_step ?_ (by assumption))))) (by exact hrd8)).mono ?_; rintro e w9 ⟨rfl, hbel9⟩)
            | (go_at_call 13; refine (awake_any _).mono ?_; rintro e w10 ⟨rfl, hbel10⟩))
        all_goals
          go_wp2_with fail
          go_ret
          exact ⟨rfl, by (repeat (first | exact Below.refl _ _ | assumption | refine kp_drew ?_ | refine kp_drewN ?_ | refine kp_alloc ?_ | refine kp_step ?_ (by assumption)))⟩
end Go.Proofs.Ytigfioknmcjbbaa
