/- The walk over the document's Cut. -/
import Derived.Test.YtigfioknmcjbbaaCutG
namespace Go.Proofs.Ytigfioknmcjbbaa
open Go.RowKit

theorem firstM_low (k : Conf4) (l : List UInt8) (m : Nat) (h : m < k.mn) : firstM k l m = 0 := by
  induction m with
  | zero => rfl
  | succ m ih => simp only [firstM, ih (by omega)]; rw [if_neg (by simp), if_neg (by omega)]
theorem lastB_low (k : Conf4) (l : List UInt8) (m : Nat) (h : m < k.mn) : lastB k l m = 0 := by
  induction m with
  | zero => rfl
  | succ m ih => simp only [lastB, ih (by omega)]; rw [if_neg (by omega)]
set_option maxHeartbeats 4000000 in
theorem RCut_any (c : Nat → Int) (k : Conf4) (hk : k.ok) (hc : conf_is c k) (hm : mayC c = true) (s : ByteArray) (hs : s.size ≤ 1000000) (w : World) :
    Calls Try.prog 12 #[.string s, confA c] w fun e w' => e = .returned (.int .i64 (cutN k s.data.toList : Nat)) ∧ Below w.heap.size w w' := by
  obtain ⟨hk1, hk2, hk3, hk4, hk5, hk6, hk7⟩ := id hk
  obtain ⟨hc0, hc1, hc2, hc3⟩ := id hc
  unfold confA
  obtain ⟨q, hq⟩ : ∃ q : ByteArray, (if k.mx ≤ s.size then s.extract 0 k.mx else s) = q := ⟨_, rfl⟩
  have hqs : q.size = min s.size k.mx := by rw [← hq]; split
                                            · simp; omega
                                            · omega
  go_enter Try.func12, Try.ntmps12
  go_wp2_with (with_reducible refine wpList_box_tab (o := ⟨some 3, _, _, _, _, _⟩) rfl 23 _ rfl 13 (confV c) rfl ?_)
  intro w1 hb1 hbel1 hsz1
  by_cases hfull : k.mx ≤ s.size
  · rw [if_pos hfull] at hq
    go_wp2_with (first
      | (with_reducible refine wpList_load_tab (o := ⟨some 9, _, _, _, _, _⟩) rfl 23 _ rfl w.heap.size 23 rfl 13 (confV c) _ hb1 rfl rfl (by kernel_rfl) ?_)
      | (go_at_call 10; refine (RMay_any c _).mono ?_; rw [hm]; rintro e w2 ⟨rfl, hbel2⟩; have hb2 := hb1.kept hbel2; have c0 : w2.cell? ⟨w.heap.size, 0, none⟩ = some (.int .i64 (k.mn : Nat)) := by { rw [hb2.at 0 (by omega), ← hc0]; rfl }; have c1 : w2.cell? ⟨w.heap.size, 1, none⟩ = some (.int .i64 (k.mx : Nat)) := by { rw [hb2.at 1 (by omega), ← hc1]; rfl })
      | (go_at_call 25; first | rw [hq] | skip; refine (RAll_any q (by omega) _).mono ?_; rintro e w3 ⟨v, rfl, hown, hbel3⟩; obtain ⟨ao, cap, rfl, hrd, hrl⟩ := Rd.of_owns hown; have hb3 := hb2.kept (show Below w2.heap.size w2 w3 from hbel3); have d0 : w3.cell? ⟨w.heap.size, 0, none⟩ = some (.int .i64 (k.mn : Nat)) := by { rw [hb3.at 0 (by omega), ← hc0]; rfl }))
    have hbel : Below w.heap.size w w3 := kp_step (kp_step hbel1 hbel2) hbel3
    have HRD := Go.Lib.hid hrd; have HB3 := Go.Lib.hid hb3; have HQ := Go.Lib.hid hq; have HBEL := Go.Lib.hid hbel
    have hwlt : w.heap.size < w3.heap.size := hb3.lt
    clear hrd hb3 hq hbel hb1 hb2 hown hbel1 hbel2 hbel3 c0 c1
    go_loopw [7] (fun i wr => ∃ p : Nat, k.mn ≤ p + 1 ∧ p ≤ q.size ∧ i = .int .i64 (p + 1 : Nat) ∧ firstM k s.data.toList p = 0 ∧ Below w3.heap.size w3 wr) (fun i _ => q.size + 1 - (intOf i).toNat)
    case atStart =>
      exact ⟨k.mn - 1, by omega, by omega, by go_num, firstM_low k _ _ (by omega), Below.refl _ _⟩
    case round =>
      obtain ⟨p, hp1, hp2, rfl, hfm, hbw⟩ := hrel
      by_cases hlt : p < q.size
      · obtain ⟨ga, oa, rfl, hga, hca⟩ := (HRD.out.kept hbw).2 (by omega)
        have h1 := hca p (by omega)
        have hb4 := HB3.out.kept hbw
        have d2 : wr.cell? ⟨w.heap.size, 2, none⟩ = some (.int .i64 (k.md : Nat)) := by { rw [hb4.at 2 (by omega), ← hc2]; rfl }
        have hp : IntKind.i64.wrap ((p + 1 : Nat) - 1 : Int) = p := by rw [show ((p + 1 : Nat) - 1 : Int) = p by omega]; exact IntWalk.i64_in _ (by omega)
        rw [allV, tab_get _ _ _ hlt] at h1
        have HH : rollL (q.data.toList.take (p + 1)) < 4294967296 := by have := rollL_lt (q.data.toList.take (p + 1)); omega
        have HP : Hid (isP s.data.toList k.md (p + 1) = decide (rollL (q.data.toList.take (p + 1)) % k.md = k.md - 1)) := Go.Lib.hid (by rw [isP, ← HQ.out]; simp [List.take_take, show min (p + 1) k.mx = p + 1 by omega])
        generalize rollL (q.data.toList.take (p + 1)) = h at h1 HH HP
        have hh : h < 4294967296 := HH
        have hpm : p < k.mx := by omega
        have hpi : (p : Int) < (k.mx : Int) := by omega
        have hpw : IntKind.i64.wrap (p : Int) = p := IntWalk.i64_in _ (by omega)
        have hpw2 : IntKind.i64.wrap ((p : Int) + 1 - 1) = p := by rw [show ((p : Int) + 1 - 1) = p by omega]; exact hpw
        have hpl : p + 1 ≤ 4096 := by omega
        clear hca
        go_wp2_with fail
        go_upto_region 10 with fail
        go_cut [39] (fun b wx => b = .bool (decide (h % k.md = k.md - 1)) ∧ Below w3.heap.size w3 wx)
        case first =>
          go_region_with (go_at_call 26; refine (Ris_any h k.md hh hk4 hk5 _).mono ?_; rintro e w5 ⟨rfl, rfl⟩)
          all_goals
            go_wp2_with fail
            go_meet
            exact ⟨rfl, ⟨hbw.os, hbw.tape, hbw.output, hbw.size, hbw.block⟩⟩
        case rest =>
          obtain ⟨rfl, hbx⟩ := hcut
          have hsl : s.data.toList.length = s.size := by simp
          cases hd : decide (h % k.md = k.md - 1)
          · have hf : firstM k s.data.toList (p + 1) = 0 := by simp only [firstM, hfm]; rw [HP.out, hd]; simp
            have HF := Go.Lib.hid hf; clear hf hfm hd HP
            go_wp2_with fail
            go_roundw
            case rel => exact ⟨p + 1, by omega, by omega, by go_num, HF.out, hbx⟩
            case measure => simp [intOf]; omega
          · have hf : firstM k s.data.toList (p + 1) = p + 1 := by simp only [firstM, hfm]; rw [HP.out, hd]; simp [hp1]
            have hcm := cutN_main k s.data.toList (p + 1) hf (by omega) (by omega) (by omega)
            have HCM := Go.Lib.hid hcm; clear hf hfm hd HP hcm
            go_wp2_with fail
            go_ret
            exact ⟨ret_int (by rw [HCM.out]), HBEL.out.trans (hbx.mono (by omega))⟩
      · obtain rfl : p = k.mx := by omega
        have hb4 := HB3.out.kept hbw
        have d1 : wr.cell? ⟨w.heap.size, 1, none⟩ = some (.int .i64 (k.mx : Nat)) := by { rw [hb4.at 1 (by omega), ← hc1]; rfl }
        have hsl : s.data.toList.length = s.size := by simp
        have hcf := cutN_full k s.data.toList hfm (by omega)
        have HCF := Go.Lib.hid hcf; clear hcf hfm
        go_wp2_with fail
        go_loopw [8] (fun i wr2 => ∃ m : Nat, k.mn ≤ m + 1 ∧ m ≤ k.mx ∧ i = .int .i64 (m : Nat) ∧ lastB k s.data.toList k.mx = lastB k s.data.toList m ∧ Below w3.heap.size w3 wr2) (fun i _ => (intOf i).toNat)
        case atStart => exact ⟨k.mx, by omega, Nat.le_refl _, rfl, rfl, hbw⟩
        case round =>
          obtain ⟨m, hm1, hm2, rfl, hlb, hbw2⟩ := hrel
          clear d0 d1 hb4 hbw
          have hb4 := HB3.out.kept hbw2
          have d0 : wr.cell? ⟨w.heap.size, 0, none⟩ = some (.int .i64 (k.mn : Nat)) := by { rw [hb4.at 0 (by omega), ← hc0]; rfl }
          by_cases hge : k.mn ≤ m
          · obtain ⟨p, rfl⟩ : ∃ p, m = p + 1 := ⟨m - 1, by omega⟩
            obtain ⟨ga, oa, rfl, hga, hca⟩ := (HRD.out.kept hbw2).2 (by omega)
            have h1 := hca p (by omega)
            have d3 : wr.cell? ⟨w.heap.size, 3, none⟩ = some (.int .i64 (k.bd : Nat)) := by { rw [hb4.at 3 (by omega), ← hc3]; rfl }
            rw [allV, tab_get _ _ _ (by omega)] at h1
            have HH : rollL (q.data.toList.take (p + 1)) < 4294967296 := by have := rollL_lt (q.data.toList.take (p + 1)); omega
            have HP : Hid (isP s.data.toList k.bd (p + 1) = decide (rollL (q.data.toList.take (p + 1)) % k.bd = k.bd - 1)) := Go.Lib.hid (by rw [isP, ← HQ.out]; simp [List.take_take, show min (p + 1) k.mx = p + 1 by omega])
            generalize rollL (q.data.toList.take (p + 1)) = h at h1 HH HP
            have hh : h < 4294967296 := HH
            have hpm : p < k.mx := by omega
            have hpi : (p : Int) < (k.mx : Int) := by omega
            have hpw : IntKind.i64.wrap (p : Int) = p := IntWalk.i64_in _ (by omega)
            have hpw2 : IntKind.i64.wrap ((p : Int) + 1 - 1) = p := by rw [show ((p : Int) + 1 - 1) = p by omega]; exact hpw
            have hpl : p + 1 ≤ 4096 := by omega
            have HLB := Go.Lib.hid hlb
            clear hca hlb
            go_wp2_with fail
            go_upto_region 17 with fail
            go_cut [58] (fun b wx => b = .bool (decide (h % k.bd = k.bd - 1)) ∧ Below w3.heap.size w3 wx)
            case first =>
              go_region_with (go_at_call 26; refine (Ris_any h k.bd hh hk6 hk7 _).mono ?_; rintro e w5 ⟨rfl, rfl⟩)
              all_goals
                go_wp2_with fail
                go_meet
                exact ⟨rfl, ⟨hbw2.os, hbw2.tape, hbw2.output, hbw2.size, hbw2.block⟩⟩
            case rest =>
              obtain ⟨rfl, hbx⟩ := hcut
              cases hd : decide (h % k.bd = k.bd - 1)
              · have hf : lastB k s.data.toList (p + 1) = lastB k s.data.toList p := by simp only [lastB]; rw [HP.out, hd]; simp
                have HF := Go.Lib.hid hf; clear hf hd HP
                go_wp2_with fail
                go_roundw
                case rel => exact ⟨p, by omega, by omega, by go_num, HLB.out.trans HF.out, hbx⟩
                case measure => simp [intOf]
              · have hf : lastB k s.data.toList (p + 1) = p + 1 := by simp only [lastB]; rw [HP.out, hd]; simp [hge]
                have HF := Go.Lib.hid hf; clear hf hd HP
                go_wp2_with fail
                go_ret
                exact ⟨ret_int (by rw [HCF.out, HLB.out, HF.out, if_pos (by omega)]), HBEL.out.trans (hbx.mono (by omega))⟩
          · have d1 : wr.cell? ⟨w.heap.size, 1, none⟩ = some (.int .i64 (k.mx : Nat)) := by { rw [hb4.at 1 (by omega), ← hc1]; rfl }
            rw [lastB_low k _ m (by omega)] at hlb
            have HLB := Go.Lib.hid hlb; clear hlb
            go_wp2_with fail
            go_ret
            exact ⟨ret_int (by rw [HCF.out, HLB.out]; rfl), HBEL.out.trans (hbw2.mono (by omega))⟩
  · rw [if_neg hfull] at hq
    subst hq
    clear hqs
    go_wp2_with (first
      | (with_reducible refine wpList_load_tab (o := ⟨some 9, _, _, _, _, _⟩) rfl 23 _ rfl w.heap.size 23 rfl 13 (confV c) _ hb1 rfl rfl (by kernel_rfl) ?_)
      | (go_at_call 10; refine (RMay_any c _).mono ?_; rw [hm]; rintro e w2 ⟨rfl, hbel2⟩; have hb2 := hb1.kept hbel2; have c0 : w2.cell? ⟨w.heap.size, 0, none⟩ = some (.int .i64 (k.mn : Nat)) := by { rw [hb2.at 0 (by omega), ← hc0]; rfl }; have c1 : w2.cell? ⟨w.heap.size, 1, none⟩ = some (.int .i64 (k.mx : Nat)) := by { rw [hb2.at 1 (by omega), ← hc1]; rfl })
      | (go_at_call 25; refine (RAll_any s hs _).mono ?_; rintro e w3 ⟨v, rfl, hown, hbel3⟩; obtain ⟨ao, cap, rfl, hrd, hrl⟩ := Rd.of_owns hown; have hb3 := hb2.kept (show Below w2.heap.size w2 w3 from hbel3); have d0 : w3.cell? ⟨w.heap.size, 0, none⟩ = some (.int .i64 (k.mn : Nat)) := by { rw [hb3.at 0 (by omega), ← hc0]; rfl }))
    have hbel : Below w.heap.size w w3 := kp_step (kp_step hbel1 hbel2) hbel3
    have HRD := Go.Lib.hid hrd; have HB3 := Go.Lib.hid hb3; have HBEL := Go.Lib.hid hbel
    have hwlt : w.heap.size < w3.heap.size := hb3.lt
    have hmc : s.size < k.mx := by omega
    have hbf : ((k.mx : Int) ≤ (s.size : Int)) = False := by simp; omega
    clear hrd hb3 hbel hb1 hb2 hown hbel1 hbel2 hbel3 c0 c1
    go_loopw [7] (fun i wr => ∃ p : Nat, k.mn ≤ p + 1 ∧ (p ≤ s.size ∨ p + 1 = k.mn) ∧ i = .int .i64 (p + 1 : Nat) ∧ firstM k s.data.toList p = 0 ∧ Below w3.heap.size w3 wr) (fun i _ => s.size + 1 - (intOf i).toNat)
    case atStart =>
      exact ⟨k.mn - 1, by omega, by omega, by go_num, firstM_low k _ _ (by omega), Below.refl _ _⟩
    case round =>
      obtain ⟨p, hp1, hp2, rfl, hfm, hbw⟩ := hrel
      by_cases hlt : p < s.size
      · obtain ⟨ga, oa, rfl, hga, hca⟩ := (HRD.out.kept hbw).2 (by omega)
        have h1 := hca p (by omega)
        have hb4 := HB3.out.kept hbw
        have d2 : wr.cell? ⟨w.heap.size, 2, none⟩ = some (.int .i64 (k.md : Nat)) := by { rw [hb4.at 2 (by omega), ← hc2]; rfl }
        have hp : IntKind.i64.wrap ((p + 1 : Nat) - 1 : Int) = p := by rw [show ((p + 1 : Nat) - 1 : Int) = p by omega]; exact IntWalk.i64_in _ (by omega)
        rw [allV, tab_get _ _ _ hlt] at h1
        have HH : rollL (s.data.toList.take (p + 1)) < 4294967296 := by have := rollL_lt (s.data.toList.take (p + 1)); omega
        have HP : Hid (isP s.data.toList k.md (p + 1) = decide (rollL (s.data.toList.take (p + 1)) % k.md = k.md - 1)) := Go.Lib.hid rfl
        generalize rollL (s.data.toList.take (p + 1)) = h at h1 HH HP
        have hh : h < 4294967296 := HH
        have hpm : p < k.mx := by omega
        have hpi : (p : Int) < (k.mx : Int) := by omega
        have hpw : IntKind.i64.wrap (p : Int) = p := IntWalk.i64_in _ (by omega)
        have hpw2 : IntKind.i64.wrap ((p : Int) + 1 - 1) = p := by rw [show ((p : Int) + 1 - 1) = p by omega]; exact hpw
        have hpl : p + 1 ≤ 4096 := by omega
        clear hca
        go_wp2_with fail
        go_upto_region 10 with fail
        go_cut [39] (fun b wx => b = .bool (decide (h % k.md = k.md - 1)) ∧ Below w3.heap.size w3 wx)
        case first =>
          go_region_with (go_at_call 26; refine (Ris_any h k.md hh hk4 hk5 _).mono ?_; rintro e w5 ⟨rfl, rfl⟩)
          all_goals
            go_wp2_with fail
            go_meet
            exact ⟨rfl, ⟨hbw.os, hbw.tape, hbw.output, hbw.size, hbw.block⟩⟩
        case rest =>
          obtain ⟨rfl, hbx⟩ := hcut
          have hsl : s.data.toList.length = s.size := by simp
          cases hd : decide (h % k.md = k.md - 1)
          · have hf : firstM k s.data.toList (p + 1) = 0 := by simp only [firstM, hfm]; rw [HP.out, hd]; simp
            have HF := Go.Lib.hid hf; clear hf hfm hd HP
            go_wp2_with fail
            go_roundw
            case rel => exact ⟨p + 1, by omega, by omega, by go_num, HF.out, hbx⟩
            case measure => simp [intOf]; omega
          · have hf : firstM k s.data.toList (p + 1) = p + 1 := by simp only [firstM, hfm]; rw [HP.out, hd]; simp [hp1]
            have hcm := cutN_main k s.data.toList (p + 1) hf (by omega) (by omega) (by omega)
            have HCM := Go.Lib.hid hcm; clear hf hfm hd HP hcm
            go_wp2_with fail
            go_ret
            exact ⟨ret_int (by rw [HCM.out]), HBEL.out.trans (hbx.mono (by omega))⟩
      · have hcn : cutN k s.data.toList = 0 := by
          have hsl : s.data.toList.length = s.size := by simp
          have hz : firstM k s.data.toList s.size = 0 := by
            by_cases hps : p = s.size
            · rw [← hps]; exact hfm
            · exact firstM_low k _ _ (by omega)
          unfold cutN
          rw [hsl, show min s.size k.mx = s.size by omega, hz, if_neg (by simp), if_pos (by omega)]
        have HCN := Go.Lib.hid hcn; clear hcn hfm
        go_wp2_with fail
        go_ret
        exact ⟨ret_int (by rw [HCN.out]; rfl), HBEL.out.trans (hbw.mono (by omega))⟩
end Go.Proofs.Ytigfioknmcjbbaa
