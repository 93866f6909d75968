/- The walk over the document's Pad and Sum. -/
import Derived.Test.YtipmmknecadkkaaZShaM
namespace Go.Proofs.Ytipmmknecadkkaa
open Go.RowKit

theorem one_set (st : Nat → Nat) (n : Nat) :
    (tab 32 fun j => if j < n then sumV st j else .int .u8 0).set n (.int .u8 ((st (n / 4) : Int) / 2 ^ (24 - 8 * (n % 4)) % 256)) = tab 32 fun j => if j < n + 1 then sumV st j else .int .u8 0 := by
  rw [tab_set]
  refine tab_congr fun j hj => ?_
  by_cases h : j = n
  · subst h
    rw [if_pos rfl, if_pos (by omega)]
    have h4 : j % 4 = 0 ∨ j % 4 = 1 ∨ j % 4 = 2 ∨ j % 4 = 3 := by omega
    unfold sumV
    rcases h4 with h4 | h4 | h4 | h4 <;> rw [h4] <;> congr 1 <;> omega
  · rw [if_neg h]
    by_cases hh : j < n
    · rw [if_pos hh, if_pos (by omega)]
    · rw [if_neg hh, if_neg (by omega)]
set_option maxHeartbeats 4000000 in
set_option maxRecDepth 100000 in
theorem RSum_any (str : ByteArray) (hl : str.size ≤ 900000) (hpd : ∀ W : World, Calls Try.prog 24 #[.int .i64 (str.size : Nat)] W fun e w' => e = .returned (.string (padB str.size)) ∧ Below W.heap.size W w') (w : World) :
    Calls Try.prog 10 #[.string str] w fun e w' => e = .returned (shaV str.data.toList) ∧ Below w.heap.size w w' := by
  have hps := padB_size str.size
  have hzl := zeros_lt str.size
  have hfull := pad_full str.size
  obtain ⟨text, htx⟩ : ∃ t, str ++ padB str.size = t := ⟨_, rfl⟩
  have hts : text.size = str.size + (padB str.size).size := by rw [← htx, ByteArray.size_append]
  have htl : text.size ≤ 1000000 := by omega
  have htm : text.size % 64 = 0 := by omega
  have HPD := Go.Lib.hid hpd; have HTX := Go.Lib.hid htx
  have hsum : str.size + (padB str.size).size ≤ 9223372036854775807 := by omega
  generalize hpp : padB str.size = pad at *
  have HPP := Go.Lib.hid hpp
  clear hpp
  clear hpd hps hzl hfull hts
  go_enter Try.func10, Try.ntmps10
  go_wp2_with (with_reducible refine wpList_alloc_blk (o := ⟨some 2, _, _, _, _, _⟩) rfl 38 rfl (.agg (tab 32 (sumV fun _ => 0)).toArray) (by kernel_rfl) ?_)
  intro w1 hb1 hbel1 hsz1
  obtain ⟨g2, hg2⟩ : ∃ g, w.heap.size = g := ⟨_, rfl⟩
  have HG := Go.Lib.hid hg2
  rw [hg2] at hb1 hbel1
  simp only [hg2]
  have HB1 := Go.Lib.hid hb1; have HBEL := Go.Lib.hid hbel1
  have hg2w : g2 < w1.heap.size := hb1.lt
  clear hb1 hbel1 hsz1 hg2
  go_wp2_with (go_at_call 24; refine (HPD.out _).mono ?_; rintro e w2 ⟨rfl, hb2⟩)
  have HB2 := Go.Lib.hid hb2
  clear hb2
  refine (RStart_any _).mono ?_
  rintro e w3 ⟨gv, rfl, hbv, hgv, hb3⟩
  have hbel3 := kp_step HB2.out hb3
  have hrd := Rd.of_blk hbv (by rw [tab_length]; unfold maxLen; omega)
  have HBE3 := Go.Lib.hid hbel3; have HRD := Go.Lib.hid hrd
  clear hbv hgv hb3 hbel3 hrd HB2 htx hsum HPD
  go_wp2_with fail
  go_loopw [4, 5] (fun v i wr => ∃ (k : Nat) (ao : Option Addr) (cp : Nat), 64 * k ≤ text.size ∧ i = .int .i64 ((64 * k : Nat) : Int) ∧ v = .slice ao 8 cp ∧ Hid (Rd wr ao (tab 8 (stV (fedS text.data.toList hF k)))) ∧ Below w1.heap.size w1 wr) (fun _ i _ => (text.size - intOf i).toNat)
  case atStart => exact ⟨0, some ⟨gv, 0, none⟩, 8, by omega, rfl, rfl, HRD, HBE3.out⟩
  case round =>
    obtain ⟨k, ao, cp, hk, rfl, rfl, hrd, hbl⟩ := hrel
    by_cases hlt : 64 * k < text.size
    · have hk1 : 64 * k + 64 ≤ text.size := by omega
      have i0 : (0 : Int) ≤ ((64 * k : Nat) : Int) := by omega
      have i1 : ((64 * k : Nat) : Int) < (text.size : Int) := by omega
      have i2 : ((64 * k : Nat) : Int) + 64 ≤ (text.size : Int) := by omega
      generalize hkk : 64 * k = kk at *
      have HKK := Go.Lib.hid hkk
      clear hkk
      have t1 : ((kk : Int) + 64).toNat = kk + 64 := by omega
      have HBL := Go.Lib.hid hbl
      clear hbl
      go_wp2_with fail
      refine (RBlock_any (fedS text.data.toList hF k) (fedS_lt _ _ hF_lt _) (text.extract kk (kk + 64)) (by rw [ByteArray.size_extract]; omega) ao cp wr hrd.out).mono ?_
      rintro e w4 ⟨v, rfl, hov, hb4⟩
      obtain ⟨ao2, cp2, rfl, hrd2, -⟩ := Rd.of_owns hov
      have HRD2 := Go.Lib.hid hrd2; have HB4 := Go.Lib.hid hb4
      clear hov hrd2 hb4 hrd
      go_wp2_with fail
      go_roundw
      case rel =>
        refine ⟨k + 1, ao2, cp2, by have := HKK.out; omega, by rw [← HKK.out, Nat.mul_add]; simp, rfl, ?_, kp_step HBL.out HB4.out⟩
        have hx : (text.extract kk (kk + 64)).data.toList = (text.data.toList.drop (64 * k)).take 64 := by rw [HKK.out]; simp
        refine Go.Lib.hid ?_
        have h2 := HRD2.out
        rw [hx] at h2
        exact h2
      case measure => simp [intOf]; omega
    · have hke : k = text.size / 64 := by omega
      have hfin : fedS text.data.toList hF k = shaS str.data.toList := by
        have h1 : text.data.toList = str.data.toList ++ padL str.size := by rw [← HTX.out, ← HPP.out]; simp [padB]
        unfold shaS
        rw [show str.data.toList.length = str.size from by simp, ← h1, hke]
        rw [show text.data.toList.length = text.size from by simp]
      rw [hfin] at hrd
      obtain ⟨gx, ox, rfl, hgx, hcs⟩ := hrd.out.2 (by rw [tab_length]; omega)
      have hcell : ∀ (W : World) (j : Nat), j < 8 → Below wr.heap.size wr W → W.cell? ⟨gx, ox + j, none⟩ = some (.int .u32 (shaS str.data.toList j : Nat)) := fun W j hj hb => by
        rw [(bcell hb).1 gx _ hgx, hcs j (by rw [tab_length]; exact hj)]
        exact tab_get 8 _ j hj
      have hsl : ∀ j, shaS str.data.toList j < 4294967296 := fun j => fedS_lt _ _ hF_lt _ j
      have HCELL := Go.Lib.hid hcell; have HBL := Go.Lib.hid hbl; have HSL := Go.Lib.hid hsl
      clear hcell hcs hrd hfin hbl hsl
      generalize hss : shaS str.data.toList = st at *
      have HSS := Go.Lib.hid hss
      clear hss
      go_wp2_with (with_reducible refine wpList_alloc_blk (o := ⟨some 6, _, _, _, _, _⟩) rfl 38 rfl (.agg (tab 32 (sumV fun _ => 0)).toArray) (by kernel_rfl) ?_)
      intro w5 hb5 hbel5 hsz5
      obtain ⟨g6, hg6⟩ : ∃ g, wr.heap.size = g := ⟨_, rfl⟩
      have HG6 := Go.Lib.hid hg6
      rw [hg6] at hb5 hbel5
      simp only [hg6]
      have hle6 : w1.heap.size ≤ g6 := by have := HBL.out.size; have := HG6.out; omega
      have HB5 := Go.Lib.hid hb5; have HBEL5 := Go.Lib.hid hbel5; have HBT5 := Go.Lib.hid (HBL.out.trans (hbel5.mono hle6))
      clear hb5 hbel5 hg6
      go_wp2_with fail
      go_loopw [7] (fun i wx => ∃ n : Nat, n ≤ 32 ∧ i = .int .i64 (n : Nat) ∧ Hid (Blk wx g6 38 (tab 32 (fun j => if j < n then sumV st j else .int .u8 0))) ∧ Below g6 wr wx ∧ Below w1.heap.size w1 wx) (fun i _ => (32 - intOf i).toNat)
      case atStart => exact ⟨0, by omega, rfl, HB5, HBEL5.out, HBT5.out⟩
      case round =>
        obtain ⟨n, hn, rfl, hbx, hblx, hbty⟩ := hrel
        have HBTY := Go.Lib.hid hbty
        clear hbty
        by_cases hn32 : n < 32
        · have hcx := HCELL.out wr (n / 4) (by omega) (by rw [HG6.out]; exact hblx)
          have HBX := Go.Lib.hid hblx
          have hsn := HSL.out (n / 4)
          have n0 : (0 : Int) ≤ (n : Int) := by omega
          have n1 : (n : Int) < 32 := by omega
          clear hblx
          go_wp2_with (with_reducible refine wpList_store_cell (o := ⟨none, .store 5 (.tmp 44) (.tmp 43), _, _, _, _⟩) rfl 5 _ _ rfl g6 n 38 _ rfl rfl _ hbx.out (by kernel_rfl) (by rw [tab_length]; exact hn32) rfl rfl ?_)
          intro w6 hb6 ho6
          have HB6 := Go.Lib.hid hb6
          clear hb6
          go_wp2_with fail
          go_roundw
          case rel => exact ⟨n + 1, by omega, by simp, Go.Lib.hid (HB6.out.congr (one_set st n)), HBX.out.trans (ho6.below (Nat.le_refl _)), HBTY.out.trans (ho6.below hle6)⟩
          case measure => simp [intOf]; omega
        · obtain rfl : n = 32 := by omega
          have hb6 : Blk wr g6 38 (tab 32 (sumV st)) := hbx.out.congr (tab_congr fun j hj => if_pos hj)
          have hb2 := HB1.out.kept HBTY.out
          clear hblx
          go_wp2_with (first
            | (with_reducible refine wpList_load_tab (o := ⟨some 45, _, _, _, _, _⟩) rfl 38 _ rfl g6 38 rfl 32 _ _ hb6 Try.underlying38 rfl (by kernel_rfl) ?_)
            | (with_reducible refine wpList_store_tab (o := ⟨none, .store _ (.tmp 2) (.tmp 45), _, _, _, _⟩) rfl 38 _ _ rfl g2 38 32 _ _ rfl rfl hb2 (by kernel_rfl) (fun _ => rfl) ?_))
          intro w7 hb7 ho7
          go_wp2_with fail
          refine bodyPost_ret (results_cell_tab rfl _ _ g2 38 32 _ _ rfl hb7 Try.underlying38 rfl (by kernel_rfl)) rfl ⟨by rw [shaV, HSS.out], ?_⟩
          rw [HG.out]
          exact (HBEL.out.trans (HBTY.out.mono (Nat.le_of_lt hg2w))).trans (ho7.below (Nat.le_refl _))
end Go.Proofs.Ytipmmknecadkkaa
