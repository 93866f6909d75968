/- The law RollPushes. -/
import Derived.Test.YtojeelgloacadaaRollL
namespace Go.Proofs.Ytojeelgloacadaa
open Go.RowKit

def segL (s : ByteArray) (f i : Nat) : List UInt8 := (s.data.toList.take i).drop f
theorem segL_length (s : ByteArray) (f i : Nat) (h : i ≤ s.size) : (segL s f i).length = i - f := by simp [segL]; omega
theorem segL_self (s : ByteArray) (i : Nat) : segL s i i = [] := by unfold segL; rw [List.drop_of_length_le (by simp; omega)]
theorem segL_snoc (s : ByteArray) (f i : Nat) (hf : f ≤ i) (h : i < s.size) : segL s f (i + 1) = segL s f i ++ [s[i]] := by
  unfold segL; rw [take_snoc s i h, List.drop_append_of_le_length (by simp; omega)]
set_option maxHeartbeats 4000000 in
set_option maxRecDepth 100000 in
theorem RollPushes_law (s : ByteArray) (hs : s.size ≤ maxLen) (ao : Option Addr) (n cap : Nat) (zs : List Int) (hz : zs.length = n) (hwf : ∀ x ∈ zs, 0 ≤ x ∧ x ≤ 255) (w : World) (hrd : Rd w ao (zs.map (Value.int .u8))) :
    Calls Try.prog 4 #[.string s, .slice ao n cap] w fun e w' => e = .returned (.bool true) ∧ Below w.heap.size w w' := by
  have hs' := hs
  unfold maxLen at hs'
  have hnm : n ≤ 9223372036854775807 := by have := hrd.1; unfold maxLen at this; simp at this; omega
  obtain ⟨g, hg⟩ : ∃ g, w.heap.size = g := ⟨_, rfl⟩
  have HG := Go.Lib.hid hg
  have HR := Go.Lib.hid hrd; have HZ := Go.Lib.hid hz; have HWF := Go.Lib.hid hwf
  clear hrd hz hwf
  by_cases h300 : 300 < s.size
  · clear hg
    go_enter Try.func4, Try.ntmps4
    go_wp2_with (first
      | (go_at_call 14; refine (New_any _).mono ?_; rintro e w1 ⟨rfl, hb1, hbel1⟩)
      | (go_at_call 8; refine (awake_any _).mono ?_; rintro e w1 ⟨rfl, hb2⟩))
    go_ret
    refine ⟨rfl, ?_⟩
    (repeat (first | exact Below.refl _ _ | assumption | refine kp_drew ?_ | refine kp_drewN ?_ | refine kp_alloc ?_ | refine kp_step ?_ (by assumption)))
  · have h3 : s.size ≤ 300 := by omega
    clear h300
    go_enter Try.func4, Try.ntmps4
    go_wp2_with fail
    refine (New_any _).mono ?_
    rintro e w1 ⟨rfl, hb1, hbel1⟩
    rw [hg] at hb1 hbel1
    simp only [hg]
    clear hg
    go_wp2_with fail
    go_loopw [6, 7, 8, 9] (fun f i _ _ wr => ∃ ff ii : Nat, ff ≤ ii ∧ ii ≤ s.size ∧ i = .int .i64 ii ∧ f = .int .i64 ff ∧ Blk wr g 49 (tab 18 (rollAt (segL s ff ii))) ∧ Below g w wr) (fun _ i _ _ _ => s.size - (intOf i).toNat)
    case atStart => exact ⟨0, 0, by omega, by omega, rfl, rfl, hb1, hbel1⟩
    case round =>
      obtain ⟨ff, i, hfi, hi, rfl, rfl, hbr, hbel⟩ := hrel
      clear hb1 hbel1
      by_cases hlt : i < s.size
      · obtain ⟨wo, rfl⟩ : ∃ wo : World, wo = wr := ⟨_, rfl⟩
        have HBR := Go.Lib.hid hbr; have HBL := Go.Lib.hid hbel
        clear hbr hbel
        go_wp2_with fail
        go_loopw [6, 8] (fun f j wr => ∃ f2 k : Nat, f2 ≤ i ∧ k ≤ n ∧ k ≤ 5 ∧ j = .int .i64 k ∧ f = .int .i64 f2 ∧ Blk wr g 49 (tab 18 (rollAt (segL s f2 i))) ∧ Below g w wr) (fun _ j _ => 5 - (intOf j).toNat)
        case atStart => exact ⟨ff, 0, hfi, by omega, by omega, rfl, rfl, HBR.out, HBL.out⟩
        case round =>
          obtain ⟨f2, k, hf2, hkn, hk5, rfl, rfl, hbr, hbel⟩ := hrel
          clear HBR HBL
          by_cases hkn2 : k < n
          · by_cases hk52 : k < 5
            · obtain ⟨ga, oa, rfl, hga, hca⟩ := (HR.out.kept (by rw [HG.out]; exact hbel)).2 (by rw [List.length_map, HZ.out]; omega)
              have hc := hca k (by rw [List.length_map, HZ.out]; exact hkn2)
              have hkz : k < zs.length := by have := HZ.out; omega
              rw [List.getElem?_map, List.getElem?_eq_getElem hkz] at hc
              have hzb := HWF.out zs[k] (List.getElem_mem hkz)
              simp only [Option.map_some] at hc
              generalize zs[k] = z at hc hzb
              obtain ⟨hz0, hz1⟩ := hzb
              have HBR := Go.Lib.hid hbr; have HBL := Go.Lib.hid hbel
              clear hca hbr hbel hkz
              by_cases hzi : z = i
              · subst hzi
                go_wp2_with fail
                refine (Reset_roll g _ _ HBR.out).mono ?_
                rintro e w2 ⟨rfl, hb2, ho2⟩
                have hbel2 := HBL.out.trans (ho2.below (Nat.le_refl _))
                clear HBR HBL ho2
                go_wp2_with fail
                refine (Sum_roll g [] _ hb2).mono ?_
                rintro e w3 ⟨rfl, rfl⟩
                rw [show rollL [] = 0 from rfl]
                go_wp2_with fail
                refine (Len_roll g [] _ hb2).mono ?_
                rintro e w3 ⟨rfl, rfl⟩
                go_wp2_with fail
                go_roundw
                case rel => exact ⟨i, k + 1, by omega, by omega, by omega, by go_num, rfl, by rw [segL_self]; exact hb2, hbel2⟩
                case measure => simp [intOf]; omega
              · have hzf : (z == (i : Int)) = false := by rw [beq_eq_false_iff_ne]; exact hzi
                clear hzi
                go_wp2_with fail
                go_roundw
                case rel => exact ⟨f2, k + 1, by omega, by omega, by omega, by go_num, rfl, HBR.out, HBL.out⟩
                case measure => simp [intOf]; omega
            · obtain rfl : k = 5 := by omega
              have hsl := segL_length s f2 i (by omega)
              have hsn := segL_snoc s f2 i hf2 hlt
              have hx : (s.extract f2 (i + 1)).size ≤ maxLen := by rw [ByteArray.size_extract]; unfold maxLen; omega
              have hxl : (s.extract f2 (i + 1)).data.toList = segL s f2 (i + 1) := by
                rw [Go.Lib.extract_data, segL, List.drop_take]
              have hln : ((segL s f2 (i + 1)).length : Int) = (i : Int) + 1 - f2 := by rw [segL_length s f2 (i + 1) (by omega)]; omega
              have hL : (segL s f2 i).length ≤ 1000000 := by omega
              have HX := Go.Lib.hid hx; have HXL := Go.Lib.hid hxl; have HSN := Go.Lib.hid hsn; have HLN := Go.Lib.hid hln; have HL := Go.Lib.hid hL; have HBR := Go.Lib.hid hbr; have HBL := Go.Lib.hid hbel
              clear hx hxl hsn hln hL hsl hbr hbel
              go_wp2_with fail
              refine (RSum_any _ HX.out _).mono ?_
              rw [HXL.out]
              rintro e w3 ⟨rfl, rfl⟩
              go_wp2_with fail
              refine (Push_of g _ HL.out s[i] _ rfl _ HSN.out.symm _ HBR.out).mono ?_
              rintro e w4 ⟨rfl, hb4, ho4⟩
              have hbel4 := HBL.out.trans (ho4.below (Nat.le_refl _))
              clear HBR HBL ho4
              go_wp2_with fail
              refine (Sum_roll g _ _ hb4).mono ?_
              rintro e w5 ⟨rfl, rfl⟩
              go_wp2_with fail
              refine (Len_roll g _ _ hb4).mono ?_
              rw [HLN.out]
              rintro e w5 ⟨rfl, rfl⟩
              go_wp2_with fail
              go_roundw
              case rel => exact ⟨f2, i + 1, by omega, by omega, by go_num, rfl, hb4, hbel4⟩
              case measure => simp [intOf]; omega
          · obtain rfl : k = n := by omega
            have hsl := segL_length s f2 i (by omega)
            have hsn := segL_snoc s f2 i hf2 hlt
            have hx : (s.extract f2 (i + 1)).size ≤ maxLen := by rw [ByteArray.size_extract]; unfold maxLen; omega
            have hxl : (s.extract f2 (i + 1)).data.toList = segL s f2 (i + 1) := by
              rw [Go.Lib.extract_data, segL, List.drop_take]
            have hln : ((segL s f2 (i + 1)).length : Int) = (i : Int) + 1 - f2 := by rw [segL_length s f2 (i + 1) (by omega)]; omega
            have hL : (segL s f2 i).length ≤ 1000000 := by omega
            have HX := Go.Lib.hid hx; have HXL := Go.Lib.hid hxl; have HSN := Go.Lib.hid hsn; have HLN := Go.Lib.hid hln; have HL := Go.Lib.hid hL; have HBR := Go.Lib.hid hbr; have HBL := Go.Lib.hid hbel
            clear hx hxl hsn hln hL hsl hbr hbel
            go_wp2_with fail
            refine (RSum_any _ HX.out _).mono ?_
            rw [HXL.out]
            rintro e w3 ⟨rfl, rfl⟩
            go_wp2_with fail
            refine (Push_of g _ HL.out s[i] _ rfl _ HSN.out.symm _ HBR.out).mono ?_
            rintro e w4 ⟨rfl, hb4, ho4⟩
            have hbel4 := HBL.out.trans (ho4.below (Nat.le_refl _))
            clear HBR HBL ho4
            go_wp2_with fail
            refine (Sum_roll g _ _ hb4).mono ?_
            rintro e w5 ⟨rfl, rfl⟩
            go_wp2_with fail
            refine (Len_roll g _ _ hb4).mono ?_
            rw [HLN.out]
            rintro e w5 ⟨rfl, rfl⟩
            go_wp2_with fail
            go_roundw
            case rel => exact ⟨f2, i + 1, by omega, by omega, by go_num, rfl, hb4, hbel4⟩
            case measure => simp [intOf]; omega
      · obtain rfl : i = s.size := by omega
        go_wp2_with (first
          | (go_at_call 15; refine (nil_Reset _).mono ?_; rintro e w2 ⟨rfl, rfl⟩)
          | (go_at_call 18; refine (nil_Push _ _).mono ?_; rintro e w2 ⟨rfl, rfl⟩)
          | (go_at_call 16; refine (nil_Sum _).mono ?_; rintro e w2 ⟨rfl, rfl⟩)
          | (go_at_call 17; refine (nil_Len _).mono ?_; rintro e w2 ⟨rfl, rfl⟩)
          | (go_at_call 8; refine (awake_any _).mono ?_; rintro e w1 ⟨rfl, hb2⟩))
        go_ret
        refine ⟨rfl, ?_⟩
        rw [HG.out]
        exact hbel.trans (hb2.mono (by have := hbel.size; have := HG.out; omega))
end Go.Proofs.Ytojeelgloacadaa
