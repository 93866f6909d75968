/- Texts of this claim, one behind the other. -/
import Derived.Test.YtlmefcepdadfjaaGreatZCutG
import Derived.Deep.RegionHeld3
import Derived.Deep.MidRow
import Derived.Test.YtlmefcepdadfjaaGreatZOwnF
import Derived.Test.YtlmefcepdadfjaaGreatZEnA
import Derived.WalkKit
import Derived.ProofKit
import Derived.OpenShut
import Derived.Test.YtlmefcepdadfjaaGreatZRds
import Derived.Test.YtlmefcepdadfjaaGreatZMtB
import Derived.Test.YtlmefcepdadfjaaGreatZHkFp
/- The walk over the document's Cut. -/
namespace Go.Proofs.YtlmefcepdadfjaaGreat
open Go.RowKit
set_option maxRecDepth 20000

theorem firstM_low (k : Conf4) (l : List UInt8) (m : Nat) (h : m < k.mn) : firstM k l m = 0 := by
  induction m with
  | zero => rfl
  | succ m ih => simp only [firstM, ih (by omega)]; rw [if_neg (by simp), if_neg (by omega)]
theorem lastB_low (k : Conf4) (l : List UInt8) (m : Nat) (h : m < k.mn) : lastB k l m = 0 := by
  induction m with
  | zero => rfl
  | succ m ih => simp only [lastB, ih (by omega)]; rw [if_neg (by omega)]
set_option maxHeartbeats 4000000 in
theorem RCut_any (c : Nat → Int) (k : Conf4) (hk : k.ok) (hc : conf_is c k) (hm : mayC c = true) (s : ByteArray) (hs : s.size ≤ 1000000) (w : World) :
    Calls Tryz.prog 79 #[.string s, confA c] w fun e w' => e = .returned (.int .i64 (cutN k s.data.toList : Nat)) ∧ Below w.heap.size w w' := by
  obtain ⟨hk1, hk2, hk3, hk4, hk5, hk6, hk7⟩ := id hk
  obtain ⟨hc0, hc1, hc2, hc3⟩ := id hc
  unfold confA
  obtain ⟨q, hq⟩ : ∃ q : ByteArray, (if k.mx ≤ s.size then s.extract 0 k.mx else s) = q := ⟨_, rfl⟩
  have hqs : q.size = min s.size k.mx := by rw [← hq]; split
                                            · simp; omega
                                            · omega
  go_enter Tryz.func79, Tryz.ntmps79
  go_wp2_with (with_reducible refine wpList_box_tab (o := ⟨some 3, _, _, _, _, _⟩) rfl 23 _ rfl 13 (confV c) rfl ?_)
  intro w1 hb1 hbel1 hsz1
  by_cases hfull : k.mx ≤ s.size
  · rw [if_pos hfull] at hq
    go_wp2_with (first
      | (with_reducible refine wpList_load_tab (o := ⟨some 9, _, _, _, _, _⟩) rfl 23 _ rfl w.heap.size 23 rfl 13 (confV c) _ hb1 rfl rfl (by kernel_rfl) ?_)
      | (go_at_call 105; refine (RMay_anyCt c _).mono ?_; rw [hm]; rintro e w2 ⟨rfl, hbel2⟩; have hb2 := hb1.kept hbel2; have c0 : w2.cell? ⟨w.heap.size, 0, none⟩ = some (.int .i64 (k.mn : Nat)) := by { rw [hb2.at 0 (by omega), ← hc0]; rfl }; have c1 : w2.cell? ⟨w.heap.size, 1, none⟩ = some (.int .i64 (k.mx : Nat)) := by { rw [hb2.at 1 (by omega), ← hc1]; rfl })
      | (go_at_call 106; first | rw [hq] | skip; refine (RAll_any q (by omega) _).mono ?_; rintro e w3 ⟨v, rfl, hown, hbel3⟩; obtain ⟨ao, cap, rfl, hrd, hrl⟩ := Rd.of_owns hown; have hb3 := hb2.kept (show Below w2.heap.size w2 w3 from hbel3); have d0 : w3.cell? ⟨w.heap.size, 0, none⟩ = some (.int .i64 (k.mn : Nat)) := by { rw [hb3.at 0 (by omega), ← hc0]; rfl }))
    have hbel : Below w.heap.size w w3 := kp_step (kp_step hbel1 hbel2) hbel3
    have HRD := Go.Lib.hid hrd; have HB3 := Go.Lib.hid hb3; have HQ := Go.Lib.hid hq; have HBEL := Go.Lib.hid hbel
    have hwlt : w.heap.size < w3.heap.size := hb3.lt
    clear hrd hb3 hq hbel hb1 hb2 hown hbel1 hbel2 hbel3 c0 c1
    go_loopw [7] (fun i wr => ∃ p : Nat, k.mn ≤ p + 1 ∧ p ≤ q.size ∧ i = .int .i64 (p + 1 : Nat) ∧ firstM k s.data.toList p = 0 ∧ Below w3.heap.size w3 wr) (fun i _ => q.size + 1 - (intOf i).toNat)
    case atStart =>
      exact ⟨k.mn - 1, by omega, by omega, by go_num, firstM_low k _ _ (by omega), Below.refl _ _⟩
    case round =>
      obtain ⟨p, hp1, hp2, rfl, hfm, hbw⟩ := hrel
      by_cases hlt : p < q.size
      · obtain ⟨ga, oa, rfl, hga, hca⟩ := (HRD.out.kept hbw).2 (by omega)
        have h1 := hca p (by omega)
        have hb4 := HB3.out.kept hbw
        have d2 : wr.cell? ⟨w.heap.size, 2, none⟩ = some (.int .i64 (k.md : Nat)) := by { rw [hb4.at 2 (by omega), ← hc2]; rfl }
        have hp : IntKind.i64.wrap ((p + 1 : Nat) - 1 : Int) = p := by rw [show ((p + 1 : Nat) - 1 : Int) = p by omega]; exact IntWalk.i64_in _ (by omega)
        rw [allV, tab_get _ _ _ hlt] at h1
        have HH : rollL (q.data.toList.take (p + 1)) < 4294967296 := by have := rollL_lt (q.data.toList.take (p + 1)); omega
        have HP : Hid (isP s.data.toList k.md (p + 1) = decide (rollL (q.data.toList.take (p + 1)) % k.md = k.md - 1)) := Go.Lib.hid (by rw [isP, ← HQ.out]; simp [List.take_take, show min (p + 1) k.mx = p + 1 by omega])
        generalize rollL (q.data.toList.take (p + 1)) = h at h1 HH HP
        have hh : h < 4294967296 := HH
        have hpm : p < k.mx := by omega
        have hpi : (p : Int) < (k.mx : Int) := by omega
        have hpw : IntKind.i64.wrap (p : Int) = p := IntWalk.i64_in _ (by omega)
        have hpw2 : IntKind.i64.wrap ((p : Int) + 1 - 1) = p := by rw [show ((p : Int) + 1 - 1) = p by omega]; exact hpw
        have hpl : p + 1 ≤ 4096 := by omega
        clear hca
        go_wp2_with fail
        go_upto_region 10 with fail
        go_cut [39] (fun b wx => b = .bool (decide (h % k.md = k.md - 1)) ∧ Below w3.heap.size w3 wx)
        case first =>
          go_region_with (go_at_call 107; refine (Ris_any h k.md hh hk4 hk5 _).mono ?_; rintro e w5 ⟨rfl, rfl⟩)
          all_goals
            go_wp2_with fail
            go_meet
            exact ⟨rfl, ⟨hbw.os, hbw.tape, hbw.output, hbw.size, hbw.block⟩⟩
        case rest =>
          obtain ⟨rfl, hbx⟩ := hcut
          have hsl : s.data.toList.length = s.size := by simp
          cases hd : decide (h % k.md = k.md - 1)
          · have hf : firstM k s.data.toList (p + 1) = 0 := by simp only [firstM, hfm]; rw [HP.out, hd]; simp
            have HF := Go.Lib.hid hf; clear hf hfm hd HP
            go_wp2_with fail
            go_roundw
            case rel => exact ⟨p + 1, by omega, by omega, by go_num, HF.out, hbx⟩
            case measure => simp [intOf]; omega
          · have hf : firstM k s.data.toList (p + 1) = p + 1 := by simp only [firstM, hfm]; rw [HP.out, hd]; simp [hp1]
            have hcm := cutN_main k s.data.toList (p + 1) hf (by omega) (by omega) (by omega)
            have HCM := Go.Lib.hid hcm; clear hf hfm hd HP hcm
            go_wp2_with fail
            go_ret
            exact ⟨ret_int (by rw [HCM.out]), HBEL.out.trans (hbx.mono (by omega))⟩
      · obtain rfl : p = k.mx := by omega
        have hb4 := HB3.out.kept hbw
        have d1 : wr.cell? ⟨w.heap.size, 1, none⟩ = some (.int .i64 (k.mx : Nat)) := by { rw [hb4.at 1 (by omega), ← hc1]; rfl }
        have hsl : s.data.toList.length = s.size := by simp
        have hcf := cutN_full k s.data.toList hfm (by omega)
        have HCF := Go.Lib.hid hcf; clear hcf hfm
        go_wp2_with fail
        go_loopw [8] (fun i wr2 => ∃ m : Nat, k.mn ≤ m + 1 ∧ m ≤ k.mx ∧ i = .int .i64 (m : Nat) ∧ lastB k s.data.toList k.mx = lastB k s.data.toList m ∧ Below w3.heap.size w3 wr2) (fun i _ => (intOf i).toNat)
        case atStart => exact ⟨k.mx, by omega, Nat.le_refl _, rfl, rfl, hbw⟩
        case round =>
          obtain ⟨m, hm1, hm2, rfl, hlb, hbw2⟩ := hrel
          clear d0 d1 hb4 hbw
          have hb4 := HB3.out.kept hbw2
          have d0 : wr.cell? ⟨w.heap.size, 0, none⟩ = some (.int .i64 (k.mn : Nat)) := by { rw [hb4.at 0 (by omega), ← hc0]; rfl }
          by_cases hge : k.mn ≤ m
          · obtain ⟨p, rfl⟩ : ∃ p, m = p + 1 := ⟨m - 1, by omega⟩
            obtain ⟨ga, oa, rfl, hga, hca⟩ := (HRD.out.kept hbw2).2 (by omega)
            have h1 := hca p (by omega)
            have d3 : wr.cell? ⟨w.heap.size, 3, none⟩ = some (.int .i64 (k.bd : Nat)) := by { rw [hb4.at 3 (by omega), ← hc3]; rfl }
            rw [allV, tab_get _ _ _ (by omega)] at h1
            have HH : rollL (q.data.toList.take (p + 1)) < 4294967296 := by have := rollL_lt (q.data.toList.take (p + 1)); omega
            have HP : Hid (isP s.data.toList k.bd (p + 1) = decide (rollL (q.data.toList.take (p + 1)) % k.bd = k.bd - 1)) := Go.Lib.hid (by rw [isP, ← HQ.out]; simp [List.take_take, show min (p + 1) k.mx = p + 1 by omega])
            generalize rollL (q.data.toList.take (p + 1)) = h at h1 HH HP
            have hh : h < 4294967296 := HH
            have hpm : p < k.mx := by omega
            have hpi : (p : Int) < (k.mx : Int) := by omega
            have hpw : IntKind.i64.wrap (p : Int) = p := IntWalk.i64_in _ (by omega)
            have hpw2 : IntKind.i64.wrap ((p : Int) + 1 - 1) = p := by rw [show ((p : Int) + 1 - 1) = p by omega]; exact hpw
            have hpl : p + 1 ≤ 4096 := by omega
            have HLB := Go.Lib.hid hlb
            clear hca hlb
            go_wp2_with fail
            go_upto_region 17 with fail
            go_cut [58] (fun b wx => b = .bool (decide (h % k.bd = k.bd - 1)) ∧ Below w3.heap.size w3 wx)
            case first =>
              go_region_with (go_at_call 107; refine (Ris_any h k.bd hh hk6 hk7 _).mono ?_; rintro e w5 ⟨rfl, rfl⟩)
              all_goals
                go_wp2_with fail
                go_meet
                exact ⟨rfl, ⟨hbw2.os, hbw2.tape, hbw2.output, hbw2.size, hbw2.block⟩⟩
            case rest =>
              obtain ⟨rfl, hbx⟩ := hcut
              cases hd : decide (h % k.bd = k.bd - 1)
              · have hf : lastB k s.data.toList (p + 1) = lastB k s.data.toList p := by simp only [lastB]; rw [HP.out, hd]; simp
                have HF := Go.Lib.hid hf; clear hf hd HP
                go_wp2_with fail
                go_roundw
                case rel => exact ⟨p, by omega, by omega, by go_num, HLB.out.trans HF.out, hbx⟩
                case measure => simp [intOf]
              · have hf : lastB k s.data.toList (p + 1) = p + 1 := by simp only [lastB]; rw [HP.out, hd]; simp [hge]
                have HF := Go.Lib.hid hf; clear hf hd HP
                go_wp2_with fail
                go_ret
                exact ⟨ret_int (by rw [HCF.out, HLB.out, HF.out, if_pos (by omega)]), HBEL.out.trans (hbx.mono (by omega))⟩
          · have d1 : wr.cell? ⟨w.heap.size, 1, none⟩ = some (.int .i64 (k.mx : Nat)) := by { rw [hb4.at 1 (by omega), ← hc1]; rfl }
            rw [lastB_low k _ m (by omega)] at hlb
            have HLB := Go.Lib.hid hlb; clear hlb
            go_wp2_with fail
            go_ret
            exact ⟨ret_int (by rw [HCF.out, HLB.out]; rfl), HBEL.out.trans (hbw2.mono (by omega))⟩
  · rw [if_neg hfull] at hq
    subst hq
    clear hqs
    go_wp2_with (first
      | (with_reducible refine wpList_load_tab (o := ⟨some 9, _, _, _, _, _⟩) rfl 23 _ rfl w.heap.size 23 rfl 13 (confV c) _ hb1 rfl rfl (by kernel_rfl) ?_)
      | (go_at_call 105; refine (RMay_anyCt c _).mono ?_; rw [hm]; rintro e w2 ⟨rfl, hbel2⟩; have hb2 := hb1.kept hbel2; have c0 : w2.cell? ⟨w.heap.size, 0, none⟩ = some (.int .i64 (k.mn : Nat)) := by { rw [hb2.at 0 (by omega), ← hc0]; rfl }; have c1 : w2.cell? ⟨w.heap.size, 1, none⟩ = some (.int .i64 (k.mx : Nat)) := by { rw [hb2.at 1 (by omega), ← hc1]; rfl })
      | (go_at_call 106; refine (RAll_any s hs _).mono ?_; rintro e w3 ⟨v, rfl, hown, hbel3⟩; obtain ⟨ao, cap, rfl, hrd, hrl⟩ := Rd.of_owns hown; have hb3 := hb2.kept (show Below w2.heap.size w2 w3 from hbel3); have d0 : w3.cell? ⟨w.heap.size, 0, none⟩ = some (.int .i64 (k.mn : Nat)) := by { rw [hb3.at 0 (by omega), ← hc0]; rfl }))
    have hbel : Below w.heap.size w w3 := kp_step (kp_step hbel1 hbel2) hbel3
    have HRD := Go.Lib.hid hrd; have HB3 := Go.Lib.hid hb3; have HBEL := Go.Lib.hid hbel
    have hwlt : w.heap.size < w3.heap.size := hb3.lt
    have hmc : s.size < k.mx := by omega
    have hbf : ((k.mx : Int) ≤ (s.size : Int)) = False := by simp; omega
    clear hrd hb3 hbel hb1 hb2 hown hbel1 hbel2 hbel3 c0 c1
    go_loopw [7] (fun i wr => ∃ p : Nat, k.mn ≤ p + 1 ∧ (p ≤ s.size ∨ p + 1 = k.mn) ∧ i = .int .i64 (p + 1 : Nat) ∧ firstM k s.data.toList p = 0 ∧ Below w3.heap.size w3 wr) (fun i _ => s.size + 1 - (intOf i).toNat)
    case atStart =>
      exact ⟨k.mn - 1, by omega, by omega, by go_num, firstM_low k _ _ (by omega), Below.refl _ _⟩
    case round =>
      obtain ⟨p, hp1, hp2, rfl, hfm, hbw⟩ := hrel
      by_cases hlt : p < s.size
      · obtain ⟨ga, oa, rfl, hga, hca⟩ := (HRD.out.kept hbw).2 (by omega)
        have h1 := hca p (by omega)
        have hb4 := HB3.out.kept hbw
        have d2 : wr.cell? ⟨w.heap.size, 2, none⟩ = some (.int .i64 (k.md : Nat)) := by { rw [hb4.at 2 (by omega), ← hc2]; rfl }
        have hp : IntKind.i64.wrap ((p + 1 : Nat) - 1 : Int) = p := by rw [show ((p + 1 : Nat) - 1 : Int) = p by omega]; exact IntWalk.i64_in _ (by omega)
        rw [allV, tab_get _ _ _ hlt] at h1
        have HH : rollL (s.data.toList.take (p + 1)) < 4294967296 := by have := rollL_lt (s.data.toList.take (p + 1)); omega
        have HP : Hid (isP s.data.toList k.md (p + 1) = decide (rollL (s.data.toList.take (p + 1)) % k.md = k.md - 1)) := Go.Lib.hid rfl
        generalize rollL (s.data.toList.take (p + 1)) = h at h1 HH HP
        have hh : h < 4294967296 := HH
        have hpm : p < k.mx := by omega
        have hpi : (p : Int) < (k.mx : Int) := by omega
        have hpw : IntKind.i64.wrap (p : Int) = p := IntWalk.i64_in _ (by omega)
        have hpw2 : IntKind.i64.wrap ((p : Int) + 1 - 1) = p := by rw [show ((p : Int) + 1 - 1) = p by omega]; exact hpw
        have hpl : p + 1 ≤ 4096 := by omega
        clear hca
        go_wp2_with fail
        go_upto_region 10 with fail
        go_cut [39] (fun b wx => b = .bool (decide (h % k.md = k.md - 1)) ∧ Below w3.heap.size w3 wx)
        case first =>
          go_region_with (go_at_call 107; refine (Ris_any h k.md hh hk4 hk5 _).mono ?_; rintro e w5 ⟨rfl, rfl⟩)
          all_goals
            go_wp2_with fail
            go_meet
            exact ⟨rfl, ⟨hbw.os, hbw.tape, hbw.output, hbw.size, hbw.block⟩⟩
        case rest =>
          obtain ⟨rfl, hbx⟩ := hcut
          have hsl : s.data.toList.length = s.size := by simp
          cases hd : decide (h % k.md = k.md - 1)
          · have hf : firstM k s.data.toList (p + 1) = 0 := by simp only [firstM, hfm]; rw [HP.out, hd]; simp
            have HF := Go.Lib.hid hf; clear hf hfm hd HP
            go_wp2_with fail
            go_roundw
            case rel => exact ⟨p + 1, by omega, by omega, by go_num, HF.out, hbx⟩
            case measure => simp [intOf]; omega
          · have hf : firstM k s.data.toList (p + 1) = p + 1 := by simp only [firstM, hfm]; rw [HP.out, hd]; simp [hp1]
            have hcm := cutN_main k s.data.toList (p + 1) hf (by omega) (by omega) (by omega)
            have HCM := Go.Lib.hid hcm; clear hf hfm hd HP hcm
            go_wp2_with fail
            go_ret
            exact ⟨ret_int (by rw [HCM.out]), HBEL.out.trans (hbx.mono (by omega))⟩
      · have hcn : cutN k s.data.toList = 0 := by
          have hsl : s.data.toList.length = s.size := by simp
          have hz : firstM k s.data.toList s.size = 0 := by
            by_cases hps : p = s.size
            · rw [← hps]; exact hfm
            · exact firstM_low k _ _ (by omega)
          unfold cutN
          rw [hsl, show min s.size k.mx = s.size by omega, hz, if_neg (by simp), if_pos (by omega)]
        have HCN := Go.Lib.hid hcn; clear hcn hfm
        go_wp2_with fail
        go_ret
        exact ⟨ret_int (by rw [HCN.out]; rfl), HBEL.out.trans (hbw.mono (by omega))⟩
end Go.Proofs.YtlmefcepdadfjaaGreat
/- Plain: the chunks of a whole text are told by the text. The walks over the document's All and Done. -/
namespace Go.Proofs.YtlmefcepdadfjaaGreat
open Go.RowKit
set_option maxRecDepth 20000

def Whole (k : Conf4) (s : ByteArray) (cs : List ByteArray) : Prop := ∃ c0 r, Cuts k s c0 r ∧ cutN k r.data.toList = 0 ∧ cs = c0 ++ lastOf r
inductive Falls (k : Conf4) : ByteArray → List ByteArray → ByteArray → Prop
  | nil {s : ByteArray} : cutN k s.data.toList = 0 → Falls k s [] s
  | cons {s : ByteArray} {cs : List ByteArray} {r : ByteArray} : 0 < cutN k s.data.toList → Falls k (s.extract (cutN k s.data.toList) s.size) cs r → Falls k s (s.extract 0 (cutN k s.data.toList) :: cs) r
theorem Cuts.falls {k : Conf4} {s r : ByteArray} {cs : List ByteArray} (h : Cuts k s cs r) : ∀ cs' r', Falls k r cs' r' → Falls k s (cs ++ cs') r' := by
  induction h with
  | nil => intro cs' r' hf; exact hf
  | snoc h hn ih =>
    intro cs' r' hf
    rw [List.append_assoc]
    exact ih _ _ (.cons hn hf)
theorem Falls.det {k : Conf4} {s r : ByteArray} {cs : List ByteArray} (h : Falls k s cs r) : ∀ {cs' r'}, Falls k s cs' r' → cs = cs' ∧ r = r' := by
  induction h with
  | nil hz =>
    intro cs' r' hf
    cases hf with
    | nil => exact ⟨rfl, rfl⟩
    | cons hp _ => omega
  | cons hp h ih =>
    intro cs' r' hf
    cases hf with
    | nil hz => omega
    | cons _ hf => exact ⟨by rw [(ih hf).1], (ih hf).2⟩
theorem Cuts.det {k : Conf4} {s r r' : ByteArray} {cs cs' : List ByteArray} (h : Cuts k s cs r) (hz : cutN k r.data.toList = 0) (h' : Cuts k s cs' r') (hz' : cutN k r'.data.toList = 0) : cs = cs' ∧ r = r' := by
  have a := h.falls [] r (.nil hz)
  have b := h'.falls [] r' (.nil hz')
  rw [List.append_nil] at a b
  exact a.det b
theorem Whole.det {k : Conf4} {s : ByteArray} {cs cs' : List ByteArray} (h : Whole k s cs) (h' : Whole k s cs') : cs = cs' := by
  obtain ⟨c0, r, h1, h2, rfl⟩ := h
  obtain ⟨c1, r1, h3, h4, rfl⟩ := h'
  obtain ⟨rfl, rfl⟩ := h1.det h2 h3 h4
  rfl
theorem Whole.len {k : Conf4} {s : ByteArray} {cs : List ByteArray} (h : Whole k s cs) : cs.length ≤ s.size := by
  obtain ⟨c0, r, h1, h2, rfl⟩ := h
  have := h1.len
  unfold lastOf
  split <;> simp <;> omega
theorem cutN_nil (k : Conf4) (hk : k.ok) : cutN k [] = 0 := by
  have := hk.1; have := hk.2.1
  unfold cutN
  simp [firstM]
  omega
end Go.Proofs.YtlmefcepdadfjaaGreat
/- Plain: chunks are parts of the text, and how great they are. The walks over the document's Split and the package's All and Left. -/
namespace Go.Proofs.YtlmefcepdadfjaaGreat
open Go.RowKit
set_option maxRecDepth 20000

theorem firstM_ge (k : Conf4) (l : List UInt8) (m : Nat) (h : firstM k l m ≠ 0) : k.mn ≤ firstM k l m := by
  induction m with
  | zero => simp [firstM] at h
  | succ m ih =>
    simp only [firstM] at h ⊢
    split at h
    · rename_i h1; rw [if_pos h1]; exact ih h1
    · rename_i h1
      rw [if_neg h1]
      split at h
      · rename_i h2; rw [if_pos h2]; exact h2.1
      · exact absurd rfl h
theorem lastB_ge (k : Conf4) (l : List UInt8) (m : Nat) (h : lastB k l m ≠ 0) : k.mn ≤ lastB k l m := by
  induction m with
  | zero => simp [lastB] at h
  | succ m ih =>
    simp only [lastB] at h ⊢
    split at h
    · rename_i h1; rw [if_pos h1]; exact h1.1
    · rename_i h1; rw [if_neg h1]; exact ih h
theorem cutN_bd (k : Conf4) (hk : k.ok) (l : List UInt8) (h : 0 < cutN k l) : k.mn ≤ cutN k l ∧ cutN k l ≤ k.mx := by
  have h1 := firstM_le k l (min l.length k.mx)
  have h2 := lastB_le k l k.mx
  have h3 := firstM_ge k l (min l.length k.mx)
  have h4 := lastB_ge k l k.mx
  have h5 := hk.2.1
  unfold cutN at h ⊢
  split
  · rename_i h6; have := h3 h6; omega
  · rename_i h6
    rw [if_neg h6] at h
    split
    · rename_i h7; rw [if_pos h7] at h; omega
    · split
      · rename_i h8; have := h4 h8; omega
      · omega
theorem cutN_app (k : Conf4) (l r : List UInt8) (h : 0 < cutN k l) : cutN k (l ++ r) = cutN k l := by
  by_cases h1 : firstM k l (min l.length k.mx) ≠ 0
  · have h2 : cutN k l = firstM k l (min l.length k.mx) := by unfold cutN; rw [if_pos h1]
    have h3 : firstM k (l ++ r) (min l.length k.mx) = firstM k l (min l.length k.mx) := firstM_app k l r _ (by omega)
    have h4 := firstM_stay k (l ++ r) (min l.length k.mx) (min (l ++ r).length k.mx) (by rw [h3]; exact h1) (by rw [List.length_append]; omega)
    rw [h2]
    unfold cutN
    rw [h4, h3, if_pos h1]
  · have h2 : ¬ l.length < k.mx := by
      intro h2
      unfold cutN at h
      rw [if_neg h1, if_pos h2] at h
      omega
    have e1 : min l.length k.mx = k.mx := by omega
    have e2 : min (l ++ r).length k.mx = k.mx := by rw [List.length_append]; omega
    unfold cutN
    rw [e1] at h1 ⊢
    rw [e2, firstM_app k l r _ (by omega), lastB_app k l r _ (by omega), if_neg h1, if_neg h1, if_neg h2, if_neg (by rw [List.length_append]; omega)]
end Go.Proofs.YtlmefcepdadfjaaGreat
/- The walks where settings may not cut, and over a cutter that nobody made; the statement's small, few and awake. -/
namespace Go.Proofs.YtlmefcepdadfjaaGreat
open Go.RowKit
set_option maxRecDepth 20000

set_option maxHeartbeats 4000000 in
theorem Cut_no (c : Nat → Int) (hm : mayC c = false) (s : ByteArray) (w : World) :
    Calls Tryz.prog 64 #[.string s, confA c] w fun e w' => e = .returned (.int .i64 0) ∧ Below w.heap.size w w' := by
  unfold confA
  go_enter Tryz.func64, Tryz.ntmps64
  go_wp2_with (with_reducible refine wpList_box_tab (o := ⟨some 3, _, _, _, _, _⟩) rfl 23 _ rfl 13 (confV c) rfl ?_)
  intro w1 hb1 hbel1 hsz1
  go_wp2_with (first
    | (with_reducible refine wpList_load_tab (o := ⟨some 8, _, _, _, _, _⟩) rfl 23 _ rfl w.heap.size 23 rfl 13 (confV c) _ hb1 rfl rfl (by kernel_rfl) ?_)
    | (go_at_call 92; refine (New_no c hm _).mono ?_; rintro e w2 ⟨rfl, hbel⟩))
  go_ret
  exact ⟨rfl, kp_step hbel1 hbel⟩
set_option maxHeartbeats 4000000 in
theorem RCut_no (c : Nat → Int) (hm : mayC c = false) (s : ByteArray) (w : World) :
    Calls Tryz.prog 79 #[.string s, confA c] w fun e w' => e = .returned (.int .i64 0) ∧ Below w.heap.size w w' := by
  unfold confA
  go_enter Tryz.func79, Tryz.ntmps79
  go_wp2_with (with_reducible refine wpList_box_tab (o := ⟨some 3, _, _, _, _, _⟩) rfl 23 _ rfl 13 (confV c) rfl ?_)
  intro w1 hb1 hbel1 hsz1
  go_wp2_with (first
    | (with_reducible refine wpList_load_tab (o := ⟨some 9, _, _, _, _, _⟩) rfl 23 _ rfl w.heap.size 23 rfl 13 (confV c) _ hb1 rfl rfl (by kernel_rfl) ?_)
    | (go_at_call 105; refine (RMay_anyCt c _).mono ?_; rw [hm]; rintro e w2 ⟨rfl, hbel2⟩))
  go_ret
  exact ⟨rfl, kp_step hbel1 hbel2⟩
end Go.Proofs.YtlmefcepdadfjaaGreat
/- The statement's awake; the statement CutFirst. -/
namespace Go.Proofs.YtlmefcepdadfjaaGreat
open Go.RowKit
set_option maxRecDepth 20000

theorem conf_of {c : Nat → Int} (hm : mayC c = true) : ∃ k : Conf4, k.ok ∧ conf_is c k := by
  rw [mayC_iff] at hm
  refine ⟨⟨(c 0).toNat, (c 1).toNat, (c 2).toNat, (c 3).toNat⟩, ?_, ?_⟩
  · unfold Conf4.ok; dsimp only; omega
  · unfold conf_is; dsimp only; omega
def cutC (c : Nat → Int) (s : ByteArray) : Nat := if mayC c = true then cutN ⟨(c 0).toNat, (c 1).toNat, (c 2).toNat, (c 3).toNat⟩ s.data.toList else 0
theorem conf4_of {c : Nat → Int} (hm : mayC c = true) : Conf4.ok ⟨(c 0).toNat, (c 1).toNat, (c 2).toNat, (c 3).toNat⟩ ∧ conf_is c ⟨(c 0).toNat, (c 1).toNat, (c 2).toNat, (c 3).toNat⟩ := by
  rw [mayC_iff] at hm
  refine ⟨?_, ?_⟩
  · unfold Conf4.ok; dsimp only; omega
  · unfold conf_is; dsimp only; omega
theorem Cut_all (c : Nat → Int) (s : ByteArray) (hs : s.size ≤ 1000000) (w : World) :
    Calls Tryz.prog 64 #[.string s, confA c] w fun e w' => e = .returned (.int .i64 (cutC c s : Nat)) ∧ Below w.heap.size w w' := by
  unfold cutC
  cases hm : mayC c
  · exact Cut_no c hm s w
  · exact Cut_any c _ (conf4_of hm).1 (conf4_of hm).2 hm s hs w
theorem RCut_all (c : Nat → Int) (s : ByteArray) (hs : s.size ≤ 1000000) (w : World) :
    Calls Tryz.prog 79 #[.string s, confA c] w fun e w' => e = .returned (.int .i64 (cutC c s : Nat)) ∧ Below w.heap.size w w' := by
  unfold cutC
  cases hm : mayC c
  · exact RCut_no c hm s w
  · exact RCut_any c _ (conf4_of hm).1 (conf4_of hm).2 hm s hs w
end Go.Proofs.YtlmefcepdadfjaaGreat
/- Plain: bounds of numbers that came in. -/
namespace Go.Proofs.YtlmefcepdadfjaaGreat
open Go.ChangeShapes Go.WideShapes Go.ChangeAt Go.RowKit
theorem wf_bd {k : IntKind} {a : Int} (h : (Lit.int k a).wf = true) : k.min ≤ a ∧ a ≤ k.max := by
  simpa [Lit.wf] using h
theorem nat_u8 {a : Int} (h : (Lit.int .u8 a).wf = true) : ∃ x : Nat, x < 256 ∧ a = x := by
  have := wf_bd h
  have h1 : IntKind.u8.min = 0 := rfl
  have h2 : IntKind.u8.max = 255 := rfl
  exact ⟨a.toNat, by omega, by omega⟩
end Go.Proofs.YtlmefcepdadfjaaGreat
/- Layer 23: the law's own: a case as it came in; what is light, what is apart. -/
namespace Go.Proofs.YtlmefcepdadfjaaGreat
open Go.RowKit

structure Tw where
  s : ByteArray
  bx : Nat
  sl : Nat
  other : Bool
  none_ : Bool
  h1 : bx < 256
  h2 : sl < 256
instance : Inhabited Tw := ⟨⟨⟨#[]⟩, 0, 0, false, false, by decide, by decide⟩⟩
def twC (t : Tw) : List Value := [.string t.s, .int .u8 (t.bx : Nat), .int .u8 (t.sl : Nat), .bool t.other, .bool t.none_]
def twE : Enc Tw := ⟨twC, 5, by decide, fun _ => rfl, fun _ => rfl⟩
theorem twE_len (l : List Tw) : (twE.fl l).length = l.length * 5 := twE.fl_len l
theorem tw_cell {l : List Tw} {k : Nat} {x : Tw} (j : Nat) {v : Value} (h : l[k]? = some x) (hv : (twC x)[j]? = some v) : (twE.fl l)[k * 5 + j]? = some v := twE.fl_cell (j := j) h hv
theorem open_tws {w : World} {d : Nat} {v : Value} (hv : FitK Tryz.prog w (d + 1) (.slice 90) v) : ∃ (ao : Option Addr) (n cap : Nat), v = .slice ao n cap ∧ n ≤ maxLen ∧ ∃ l : List Tw, l.length = min n 1000 ∧ Rd w ao (twE.fl l) :=
  open_rows twE (by show 5 ≤ 100; decide) [.str, .int .u8, .int .u8, .bool, .bool] hv (by kernel_rfl) (by kernel_rfl) rfl fun cs h => by
    obtain ⟨hl, hf⟩ := h
    match cs, hl with
    | [a, b, c, x, y], _ =>
      obtain ⟨a, rfl, _⟩ := fitK_str (hf 0 _ _ rfl rfl)
      obtain ⟨b, rfl, hb⟩ := fitK_int (hf 1 _ _ rfl rfl)
      obtain ⟨c, rfl, hc⟩ := fitK_int (hf 2 _ _ rfl rfl)
      obtain ⟨x, rfl⟩ := fitK_bool (hf 3 _ _ rfl rfl)
      obtain ⟨y, rfl⟩ := fitK_bool (hf 4 _ _ rfl rfl)
      obtain ⟨b, hb8, rfl⟩ := nat_u8 hb
      obtain ⟨c, hc8, rfl⟩ := nat_u8 hc
      exact ⟨⟨a, b, c, x, y, hb8, hc8⟩, rfl⟩
structure Gr where
  ao : Option Addr
  n : Nat
  cap : Nat
def okGr (w : World) (g : Gr) : Prop := ∃ l : List Tw, l.length = min g.n 1000 ∧ Rd w g.ao (twE.fl l)
abbrev Gw (w : World) := {g : Gr // okGr w g}
instance (w : World) : Inhabited (Gw w) := ⟨⟨⟨none, 0, 0⟩, [], rfl, by decide, fun h => absurd h (by decide)⟩⟩
def gwE (w : World) : Enc (Gw w) := ⟨fun g => [.slice g.1.ao g.1.n g.1.cap], 1, by decide, fun _ => rfl, fun _ => rfl⟩
theorem gwE_len {w : World} (l : List (Gw w)) : ((gwE w).fl l).length = l.length * 1 := (gwE w).fl_len l
theorem gwE_at {w : World} {l : List (Gw w)} {k : Nat} {x : Gw w} (h : l[k]? = some x) : ((gwE w).fl l)[k * 1]? = some (.slice x.1.ao x.1.n x.1.cap) := (gwE w).fl_cell (j := 0) h rfl
noncomputable def Gw.l {w : World} (g : Gw w) : List Tw := Classical.choose g.2
theorem Gw.l_spec {w : World} (g : Gw w) : g.l.length = min g.1.n 1000 ∧ Rd w g.1.ao (twE.fl g.l) := Classical.choose_spec g.2
theorem open_gws {w : World} {d : Nat} {v : Value} (hv : FitK Tryz.prog w (d + 2) (.slice 88) v) : ∃ (ao : Option Addr) (n cap : Nat), v = .slice ao n cap ∧ n ≤ maxLen ∧ ∃ l : List (Gw w), l.length = min n 1000 ∧ Rd w ao ((gwE w).fl l) :=
  open_rows (gwE w) (by show 1 ≤ 100; decide) [.slice 90] hv (by kernel_rfl) (by kernel_rfl) rfl fun cs h => by
    obtain ⟨hl, hf⟩ := h
    match cs, hl with
    | [y], _ =>
      obtain ⟨ao, n, cap, rfl, _, h2⟩ := open_tws (hf 0 _ _ rfl rfl)
      exact ⟨⟨⟨ao, n, cap⟩, h2⟩, rfl⟩
def caC (c : Nat → Int) (box man : Int) (gv pv : Value) : List Value := [confV c 0, confV c 1, confV c 2, confV c 3, confV c 4, confV c 5, confV c 6, confV c 7, confV c 8, confV c 9, confV c 10, confV c 11, confV c 12, .int .u32 box, .int .u32 man, gv, pv]
theorem szB_take1 {l : List ByteArray} {i : Nat} {s : ByteArray} (h : l[i]? = some s) : szB (l.take (i + 1)) = szB (l.take i) + s.size := by rw [take_snocE h, szB_snoc]
theorem apart_any (c : Nat → Int) (box man : Int) (gv pv : Value) (w : World) : Calls Tryz.prog 10 #[.agg (caC c box man gv pv).toArray] w fun e w' => e = .returned (.bool (decide (box > 300))) ∧ Below w.heap.size w w' := by
  refine sx_fn (S := SX) (M := []) (N := 6) (H0 := []) Tryz.func10 rfl rfl rfl (Sat.nil _ _) ?_
  ((try refine sU ?_);repeat(refine sN fun _=>?_;try refine sU ?_))
  exact SxDone.mk fun w' hs => ⟨rfl, hs.touch.below⟩
noncomputable def gwL {w : World} (gs : List (Gw w)) : RdL := gs.map fun g => (g.1.ao, twE.fl g.l)
theorem gwL_mem {w : World} {gs : List (Gw w)} {g : Gw w} (h : g ∈ gs) : (g.1.ao, twE.fl g.l) ∈ gwL gs := List.mem_map.2 ⟨g, h, rfl⟩
structure Light {w : World} (gn : Nat) (gs : List (Gw w)) (pn : Nat) (ps : List ByteArray) : Prop where
  gn : gn ≤ 6
  pn : pn ≤ 10
  g : ∀ x ∈ gs, x.1.n ≤ 10 ∧ ∀ t ∈ x.l, t.s.size ≤ 60
  p : szB ps ≤ 500
set_option maxHeartbeats 8000000 in
theorem light_any {w0 : World} (c : Nat → Int) (box man : Int) (go : Option Addr) (gn gc : Nat) (gs : List (Gw w0)) (po : Option Addr) (pn pc : Nat) (ps : List ByteArray) (hgl : gs.length = min gn 1000) (hpl : ps.length = min pn 1000) (w : World) (hg : Rd w go ((gwE w0).fl gs)) (ht : RdAll w (gwL gs)) (hp : Rd w po (strE.fl ps)) :
    Calls Tryz.prog 8 #[.agg (caC c box man (.slice go gn gc) (.slice po pn pc)).toArray] w fun e w' => ∃ v, e = .returned v ∧ (v = .bool false ∨ (v = .bool true ∧ Light gn gs pn ps)) ∧ Below w.heap.size w w' := by
  refine sx_fn (S := SX) (M := []) (N := 90) (H0 := [.rd go ((gwE w0).fl gs), .gen (rdsG (gwL gs)), .rd po (strE.fl ps)]) Tryz.func8 rfl rfl rfl (Sat.rdsM w [] _ fun j e hj => by
    match j, hj with
    | 0, hj => cases hj; exact ⟨rfl, hg⟩
    | 1, hj => cases hj; exact ⟨rfl, ht⟩
    | 2, hj => cases hj; exact ⟨rfl, hp⟩) ?_
  ((try refine sU ?_);repeat(refine sN fun _=>?_;try refine sU ?_))
  rename_i b0
  refine SxCode.loop (σ := Nat) [3, 4, 2] [7, 8, 9, 10, 11, 12, 13, 14, 15, 18, 19, 20, 21, 22, 23, 24, 2, 25, 26, 27, 28, 29, 30, 31, 32, 3, 16, 17, 4] (fun i => [.int .i64 (szB (ps.take i) : Nat), .int .i64 (i : Nat), .bool false]) (fun _ => [.blk b0 28 (caC c box man (.slice go gn gc) (.slice po pn pc)), .rd go ((gwE w0).fl gs), .gen (rdsG (gwL gs)), .rd po (strE.fl ps)]) (fun i => i ≤ pn ∧ i ≤ 10 ∧ szB (ps.take i) ≤ 300 * i) (fun i => pn - i) 0 [0, 1, 2, 3] rfl rfl rfl rfl ⟨Nat.zero_le _, by omega, Nat.le_refl _⟩ ?_
  rintro i ⟨hi, hi10, hsz⟩
  by_cases hlt : i < pn ∧ i < 10
  · obtain ⟨h1, h2⟩ := hlt
    obtain ⟨s, hs⟩ : ∃ s, ps[i]? = some s := ⟨ps[i]'(by omega), by simp [show i < ps.length by omega]⟩
    have hsn := szB_take1 hs
    ((try refine sU ?_);repeat(refine sN fun _=>?_;try refine sU ?_))
    refine SxIA.rd 3 _ rfl i rfl (by omega) (by rw [strE_len]; omega) fun g off ha => ?_
    ((try refine sU ?_);repeat(refine sN fun _=>?_;try refine sU ?_))
    refine SxLd.rd 3 rfl ha rfl (j := i * 1) (strE_at hs) ?_
    ((try refine sU ?_);repeat(refine sN fun _=>?_;try refine sU ?_))
    refine SxIf.dec (fun h3 => ?_) (fun h3 => ?_)
    · ((try refine sU ?_);repeat(refine sN fun _=>?_;try refine sU ?_))
      exact SxDone.mk fun w' hs => ⟨_, rfl, .inl rfl, hs.touch.below⟩
    · ((try refine sU ?_);repeat(refine sN fun _=>?_;try refine sU ?_))
      refine SxIA.rd 3 _ rfl i rfl (by omega) (by rw [strE_len]; omega) fun g off ha => ?_
      ((try refine sU ?_);repeat(refine sN fun _=>?_;try refine sU ?_))
      refine SxLd.rd 3 rfl ha rfl (j := i * 1) (strE_at hs) ?_
      ((try refine sU ?_);repeat(refine sN fun _=>?_;try refine sU ?_))
      refine SxRound.mk (i + 1) [0, 1, 2, 3] (by rw [hsn]; rfl) rfl rfl ⟨by omega, by omega, by omega⟩ (by omega)
  have hout : pn ≤ 10 → ps.take i = ps := fun h => List.take_of_length_le (by omega)
  obtain ⟨K, hK⟩ : ∃ K, K = szB (ps.take i) := ⟨_, rfl⟩
  rw [← hK] at hsz ⊢
  have hKp : pn ≤ 10 → K = szB ps := fun h => by rw [hK, hout h]
  by_cases hlt2 : i < pn
  all_goals
    ((try refine sU ?_);repeat(refine sN fun _=>?_;try refine sU ?_))
    refine SxCode.loop (σ := Nat) [5, 2] [33, 34, 35, 36, 37, 38, 39, 40, 41, 6, 44, 45, 46, 47, 48, 49, 50, 51, 52, 53, 54, 55, 58, 59, 60, 61, 62, 63, 64, 65, 66, 67, 68, 2, 56, 57, 69, 70, 71, 72, 73, 74, 75, 42, 43, 5] (fun i => [.int .i64 (i : Nat), .bool false]) (fun _ => [.blk b0 28 (caC c box man (.slice go gn gc) (.slice po pn pc)), .rd go ((gwE w0).fl gs), .gen (rdsG (gwL gs)), .rd po (strE.fl ps)]) (fun j => j ≤ gn ∧ j ≤ 6 ∧ ∀ x ∈ gs.take j, x.1.n ≤ 10 ∧ ∀ t ∈ x.l, t.s.size ≤ 60) (fun i => gn - i) 0 [0, 1, 2, 3] rfl rfl rfl rfl ⟨Nat.zero_le _, by omega, fun x hx => by cases hx⟩ ?_
    rintro j ⟨hj, hj6, hgs⟩
    by_cases hjlt : j < gn ∧ j < 6
    · obtain ⟨h1, h2⟩ := hjlt
      obtain ⟨G, hG⟩ : ∃ G, gs[j]? = some G := ⟨gs[j]'(by omega), by simp [show j < gs.length by omega]⟩
      have hGm := List.mem_of_getElem? hG
      have hGl := G.l_spec.1
      have hi1 : j * 1 < ((gwE w0).fl gs).length := by rw [gwE_len]; omega
      ((try refine sU ?_);repeat(refine sN fun _=>?_;try refine sU ?_))
      refine SxCode.loop (σ := Nat) [6, 2] [44, 45, 46, 47, 48, 49, 50, 51, 52, 53, 54, 55, 58, 59, 60, 61, 62, 63, 64, 65, 66, 67, 68, 2, 56, 57, 6] (fun k => [.int .i64 (k : Nat), .bool false]) (fun _ => [.blk b0 28 (caC c box man (.slice go gn gc) (.slice po pn pc)), .rd go ((gwE w0).fl gs), .gen (rdsG (gwL gs)), .rd po (strE.fl ps)]) (fun k => k ≤ G.1.n ∧ k ≤ 10 ∧ ∀ t ∈ G.l.take k, t.s.size ≤ 60) (fun k => 10 - k) 0 [0, 1, 2, 3] rfl rfl rfl rfl ⟨Nat.zero_le _, by omega, fun x hx => by cases hx⟩ ?_
      rintro k ⟨hk, hk10, hts⟩
      rcases (by omega : (k < G.1.n ∧ k < 10) ∨ (k < G.1.n ∧ ¬ k < 10) ∨ ¬ k < G.1.n) with ⟨h3, h4⟩ | ⟨h3, h4⟩ | h3
      · obtain ⟨t, ht⟩ : ∃ t, G.l[k]? = some t := ⟨G.l[k]'(by omega), by simp [show k < G.l.length by omega]⟩
        have hsn := take_snocE ht
        ((try refine sU ?_);repeat(refine sN fun _=>?_;try refine sU ?_))
        refine SxIA.rd 1 _ rfl j rfl h1 hi1 fun g off ha => ?_
        ((try refine sU ?_);repeat(refine sN fun _=>?_;try refine sU ?_))
        refine SxLd.rd 1 rfl ha rfl (j := j * 1) (gwE_at hG) ?_
        ((try refine sU ?_);repeat(refine sN fun _=>?_;try refine sU ?_))
        refine SxIA.rd 1 _ rfl j rfl h1 hi1 fun g off ha => ?_
        ((try refine sU ?_);repeat(refine sN fun _=>?_;try refine sU ?_))
        refine SxLd.rd 1 rfl ha rfl (j := j * 1) (gwE_at hG) ?_
        ((try refine sU ?_);repeat(refine sN fun _=>?_;try refine sU ?_))
        refine SxIA.of 2 rfl (gwL_mem hGm) k rfl h3 (by rw [twE_len]; omega) fun g off ha => ?_
        ((try refine sU ?_);repeat(refine sN fun _=>?_;try refine sU ?_))
        refine SxLd.of 2 rfl (gwL_mem hGm) ha rfl (j := k * 5) (tw_cell 0 ht rfl) ?_
        ((try refine sU ?_);repeat(refine sN fun _=>?_;try refine sU ?_))
        refine SxIf.dec (fun h5 => ?_) (fun h5 => ?_)
        · ((try refine sU ?_);repeat(refine sN fun _=>?_;try refine sU ?_))
          exact SxDone.mk fun w' hs => ⟨_, rfl, .inl rfl, hs.touch.below⟩
        · ((try refine sU ?_);repeat(refine sN fun _=>?_;try refine sU ?_))
          refine SxRound.mk (k + 1) [0, 1, 2, 3] rfl rfl rfl ⟨h3, h4, fun t' ht' => ?_⟩ (by omega)
          rw [hsn] at ht'
          rcases List.mem_append.1 ht' with h6 | h6
          · exact hts t' h6
          · obtain rfl := List.mem_singleton.1 h6
            omega
      · ((try refine sU ?_);repeat(refine sN fun _=>?_;try refine sU ?_))
        refine SxIA.rd 1 _ rfl j rfl h1 hi1 fun g off ha => ?_
        ((try refine sU ?_);repeat(refine sN fun _=>?_;try refine sU ?_))
        refine SxLd.rd 1 rfl ha rfl (j := j * 1) (gwE_at hG) ?_
        ((try refine sU ?_);repeat(refine sN fun _=>?_;try refine sU ?_))
        refine SxIA.rd 1 _ rfl j rfl h1 hi1 fun g off ha => ?_
        ((try refine sU ?_);repeat(refine sN fun _=>?_;try refine sU ?_))
        refine SxLd.rd 1 rfl ha rfl (j := j * 1) (gwE_at hG) ?_
        ((try refine sU ?_);repeat(refine sN fun _=>?_;try refine sU ?_))
        exact SxDone.mk fun w' hs => ⟨_, rfl, .inl rfl, hs.touch.below⟩
      · ((try refine sU ?_);repeat(refine sN fun _=>?_;try refine sU ?_))
        refine SxIA.rd 1 _ rfl j rfl h1 hi1 fun g off ha => ?_
        ((try refine sU ?_);repeat(refine sN fun _=>?_;try refine sU ?_))
        refine SxLd.rd 1 rfl ha rfl (j := j * 1) (gwE_at hG) ?_
        ((try refine sU ?_);repeat(refine sN fun _=>?_;try refine sU ?_))
        refine SxIA.rd 1 _ rfl j rfl h1 hi1 fun g off ha => ?_
        ((try refine sU ?_);repeat(refine sN fun _=>?_;try refine sU ?_))
        refine SxLd.rd 1 rfl ha rfl (j := j * 1) (gwE_at hG) ?_
        ((try refine sU ?_);repeat(refine sN fun _=>?_;try refine sU ?_))
        have hk9 : k = G.1.n := by omega
        refine SxRound.mk (j + 1) [0, 1, 2, 3] rfl rfl rfl ⟨h1, h2, fun y hy => ?_⟩ (by omega)
        rw [take_snocE hG] at hy
        rcases List.mem_append.1 hy with h6 | h6
        · exact hgs y h6
        · obtain rfl := List.mem_singleton.1 h6
          refine ⟨by omega, fun t ht => hts t ?_⟩
          rw [List.take_of_length_le (by omega)]; exact ht
    · rcases (by omega : (j < gn ∧ ¬ j < 6) ∨ ¬ j < gn) with ⟨h1, h2⟩ | h1
      all_goals
        ((try refine sU ?_);repeat(refine sN fun _=>?_;try refine sU ?_))
        refine SxDone.mk fun w' hs => ⟨_, rfl, ?_, hs.touch.below⟩
        first
          | exact .inl rfl
          | (cases hd : decide ((K : Int) ≤ 500) with
             | false => exact .inl rfl
             | true =>
               refine .inr ⟨rfl, by omega, by omega, fun y hy => hgs y ?_, by rw [← hKp (by omega)]; have := of_decide_eq_true hd; omega⟩
               rw [List.take_of_length_le (by omega)]; exact hy)
end Go.Proofs.YtlmefcepdadfjaaGreat
/- Layer 23: which settings may be, of the program and of the document. -/
namespace Go.Proofs.YtlmefcepdadfjaaGreat
open Go.RowKit

def conC (c : Nat → Int) : Bool := mayC c && segC c && inC (c 7) 0 32 && inC (c 8) 0 64 && inC (c 9) 0 64 && inC (c 10) 0 65536 && inC (c 11) 1 256 && inC (c 12) (c 1) 65536
set_option maxHeartbeats 4000000 in
theorem SCheck_any (c : Nat → Int) (w : World) : Calls Tryz.prog 22 #[confA c] w fun e w' => e = .returned (.int .i64 (if conC c then 0 else 230)) ∧ Below w.heap.size w w' := by
  refine sx_fn (S := SX) (M := []) (N := 55) (H0 := []) Tryz.func22 rfl rfl rfl (Sat.nil _ _) ?_
  ((try refine sU ?_);repeat(refine sN fun _=>?_;try refine sU ?_))
  repeat' ((first
    | refine SxCall.quiet (May_any c) ?_
    | refine SxCall.quiet (SMay_any c) ?_
    | refine SxCall.quiet (In_any _ _ _) ?_
    | refine SxIf.nt (SxIf.mk (fun hg => ?_) (fun hg => ?_))
    | refine SxIf.mk (fun hg => ?_) (fun hg => ?_)) <;> ((try refine sU ?_);repeat(refine sN fun _=>?_;try refine sU ?_)))
  all_goals
    refine SxDone.mk fun w' hs => ⟨?_, hs.touch.below⟩
    clear hs
    simp_all [conC, resV]
set_option maxHeartbeats 4000000 in
theorem RStMay_any (c : Nat → Int) (w : World) : Calls Tryz.prog 9 #[confA c] w fun e w' => e = .returned (.bool (conC c)) ∧ Below w.heap.size w w' := by
  refine sx_fn (S := SX) (M := []) (N := 74) (H0 := []) Tryz.func9 rfl rfl rfl (Sat.nil _ _) ?_
  ((try refine sU ?_);repeat(refine sN fun _=>?_;try refine sU ?_))
  repeat' ((first
    | refine SxCall.quiet (RIn_any _ _ _) ?_
    | refine SxIf.nt (SxIf.mk (fun hg => ?_) (fun hg => ?_))
    | refine SxIf.dec (fun hg => ?_) (fun hg => ?_)
    | refine SxIf.mk (fun hg => ?_) (fun hg => ?_)) <;> ((try refine sU ?_);repeat(refine sN fun _=>?_;try refine sU ?_)))
  all_goals
    refine SxDone.mk fun w' hs => ⟨?_, hs.touch.below⟩
    clear hs
    show Ending.returned (.bool _) = .returned (.bool _)
    congr 2
    rw [Bool.eq_iff_iff]
    simp only [conC, mayC, segC, inC, Bool.and_eq_true, decide_eq_true_eq, decide_eq_false_iff_not, gt_iff_lt, Bool.false_eq_true, false_iff] at *
    omega
end Go.Proofs.YtlmefcepdadfjaaGreat
