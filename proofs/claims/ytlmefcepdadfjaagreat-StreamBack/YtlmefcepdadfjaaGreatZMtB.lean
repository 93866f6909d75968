/- Texts of this claim, one behind the other. -/
import Derived.Test.YtlmefcepdadfjaaGreatZShaL
import Derived.Test.YtlmefcepdadfjaaGreatZSxO
import Derived.Test.YtlmefcepdadfjaaGreatZShaA
import Derived.Test.YtlmefcepdadfjaaGreatZGen
import Derived.Test.YtlmefcepdadfjaaGreatZHkD
/- What a hash holds behind a text, and what its functions do to it. -/
namespace Go.Proofs.YtlmefcepdadfjaaGreat
open Go.RowKit

theorem fedS_add (l : List UInt8) (s : Nat → Nat) (a b : Nat) : fedS l s (a + b) = fedS (l.drop (64 * a)) (fedS l s a) b := by
  induction b with
  | zero => rfl
  | succ b ih =>
    show blockF ((l.drop (64 * (a + b))).take 64) (fedS l s (a + b)) = blockF (((l.drop (64 * a)).drop (64 * b)).take 64) (fedS (l.drop (64 * a)) (fedS l s a) b)
    rw [ih, List.drop_drop, Nat.mul_add]
theorem fedS_app (l t : List UInt8) (s : Nat → Nat) : ∀ k, 64 * k ≤ l.length → fedS (l ++ t) s k = fedS l s k
  | 0, _ => rfl
  | k + 1, h => by
    show blockF (((l ++ t).drop (64 * k)).take 64) (fedS (l ++ t) s k) = blockF ((l.drop (64 * k)).take 64) (fedS l s k)
    rw [fedS_app l t s k (by omega), List.drop_append_of_le_length (by omega), List.take_append_of_le_length (by simp; omega)]
theorem fed_step (l t : List UInt8) (s : Nat → Nat) : fedS (l.drop (64 * (l.length / 64)) ++ t) (fedS l s (l.length / 64)) ((l.drop (64 * (l.length / 64)) ++ t).length / 64) = fedS (l ++ t) s ((l ++ t).length / 64) := by
  have hlen : (l ++ t).length / 64 = l.length / 64 + (l.drop (64 * (l.length / 64)) ++ t).length / 64 := by simp; omega
  rw [hlen, fedS_add, fedS_app l t s _ (by omega), List.drop_append_of_le_length (by omega)]
theorem fed_rest (l t : List UInt8) : (l.drop (64 * (l.length / 64)) ++ t).drop (64 * ((l.drop (64 * (l.length / 64)) ++ t).length / 64)) = (l ++ t).drop (64 * ((l ++ t).length / 64)) := by
  have hlen : (l ++ t).length / 64 = l.length / 64 + (l.drop (64 * (l.length / 64)) ++ t).length / 64 := by simp; omega
  rw [hlen, Nat.mul_add, ← List.drop_drop, List.drop_append_of_le_length (l₁ := l) (by omega)]
def restB (l : List UInt8) : ByteArray := ⟨(l.drop (64 * (l.length / 64))).toArray⟩
theorem restB_size (l : List UInt8) : (restB l).size = l.length % 64 := by
  show (l.drop (64 * (l.length / 64))).toArray.size = _
  simp; omega
def HashL (p c : Nat) (l : List UInt8) (w : World) : Prop :=
  Blk w p 209 (tab 11 (hV (cloV c) (fedS l hF (l.length / 64)) (restB l) l.length)) ∧ Blk w c 190 [.pointer (some ⟨p, 0, none⟩)] ∧ p < c
def shaS (l : List UInt8) : Nat → Nat := fedS (l ++ padL l.length) hF ((l ++ padL l.length).length / 64)
def shaV (l : List UInt8) : Value := .agg (tab 32 (sumV (shaS l))).toArray
theorem ba_of {a : ByteArray} {l : List UInt8} (h : a.data.toList = l) : a = ⟨l.toArray⟩ := by
  apply ByteArray.ext
  apply Array.ext'
  simpa using h
theorem NewL_any (w : World) : Calls Tryz.prog 116 #[] w fun e w' => ∃ p c, e = .returned (.pointer (some ⟨p, 0, none⟩)) ∧ HashL p c [] w' ∧ w.heap.size ≤ p ∧ Below w.heap.size w w' :=
  (New_any w).mono fun _ _ ⟨p, c, he, h1, h2, h3, h4, h5⟩ => ⟨p, c, he, ⟨h1, h2, h3⟩, h4, h5⟩
theorem Write_any (p c : Nat) (l : List UInt8) (str : ByteArray) (hl : l.length + str.size ≤ 900000) (w : World) (hH : HashL p c l w) :
    Calls Tryz.prog 117 #[.pointer (some ⟨p, 0, none⟩), .string str] w fun e w' => e = .returned (.int .i64 0) ∧ HashL p c (l ++ str.data.toList) w' ∧ Below p w w' := by
  have hr := restB_size l
  refine (Write_cells p c l.length (fedS l hF (l.length / 64)) (fedS_lt _ _ hF_lt _) (restB l) str (by omega) (by omega) w hH.2.2 hH.1 hH.2.1).mono fun e w' h => ⟨h.1, ⟨?_, h.2.blkC, hH.2.2⟩, h.2.low⟩
  have hls : (restB l ++ str).data.toList = l.drop (64 * (l.length / 64)) ++ str.data.toList := by simp [restB]
  have hsz : (restB l ++ str).size = (l.drop (64 * (l.length / 64)) ++ str.data.toList).length := by rw [← hls]; rfl
  have hb := h.2.atP
  rw [hls, hsz, fed_step] at hb
  refine hb.congr ?_
  have e1 : (restB l ++ str).extract (64 * ((l.drop (64 * (l.length / 64)) ++ str.data.toList).length / 64)) (l.drop (64 * (l.length / 64)) ++ str.data.toList).length = restB (l ++ str.data.toList) := by
    refine (ba_of ?_)
    rw [← fed_rest]
    rw [show ∀ (s : ByteArray) (i j : Nat), (s.extract i j).data.toList = (s.data.toList.drop i).take (j - i) from fun s i j => by simp, hls]
    rw [List.take_of_length_le (by simp)]
  rw [e1, List.length_append]
  rfl
theorem SumL_any (p c : Nat) (l : List UInt8) (hl : l.length ≤ 900000) (w : World) (hH : HashL p c l w) :
    Calls Tryz.prog 118 #[.pointer (some ⟨p, 0, none⟩)] w fun e w' => e = .returned (shaV l) ∧ Below w.heap.size w w' := by
  have hr := restB_size l
  refine (Sum_cells p c l.length (fedS l hF (l.length / 64)) (fedS_lt _ _ hF_lt _) (restB l) (by omega) (by omega) w hH.1).mono fun e w' h => ⟨h.1.trans ?_, h.2⟩
  have hls : (restB l ++ padB l.length).data.toList = l.drop (64 * (l.length / 64)) ++ padL l.length := by simp [restB, padB]
  have hsz : (restB l ++ padB l.length).size = (l.drop (64 * (l.length / 64)) ++ padL l.length).length := by rw [← hls]; rfl
  rw [hls, hsz, fed_step]
  rfl
end Go.Proofs.YtlmefcepdadfjaaGreat
/- The walk over the document's Pad and Sum. -/
namespace Go.Proofs.YtlmefcepdadfjaaGreat
open Go.RowKit

theorem one_set (st : Nat → Nat) (n : Nat) :
    (tab 32 fun j => if j < n then sumV st j else .int .u8 0).set n (.int .u8 ((st (n / 4) : Int) / 2 ^ (24 - 8 * (n % 4)) % 256)) = tab 32 fun j => if j < n + 1 then sumV st j else .int .u8 0 := by
  rw [tab_set]
  refine tab_congr fun j hj => ?_
  by_cases h : j = n
  · subst h
    rw [if_pos rfl, if_pos (by omega)]
    have h4 : j % 4 = 0 ∨ j % 4 = 1 ∨ j % 4 = 2 ∨ j % 4 = 3 := by omega
    unfold sumV
    rcases h4 with h4 | h4 | h4 | h4 <;> rw [h4] <;> congr 1 <;> omega
  · rw [if_neg h]
    by_cases hh : j < n
    · rw [if_pos hh, if_pos (by omega)]
    · rw [if_neg hh, if_neg (by omega)]
set_option maxHeartbeats 4000000 in
set_option maxRecDepth 100000 in
theorem RSum_any (str : ByteArray) (hl : str.size ≤ 900000) (hpd : ∀ W : World, Calls Tryz.prog 47 #[.int .i64 (str.size : Nat)] W fun e w' => e = .returned (.string (padB str.size)) ∧ Below W.heap.size W w') (w : World) :
    Calls Tryz.prog 20 #[.string str] w fun e w' => e = .returned (shaV str.data.toList) ∧ Below w.heap.size w w' := by
  have hps := padB_size str.size
  have hzl := zeros_lt str.size
  have hfull := pad_full str.size
  obtain ⟨text, htx⟩ : ∃ t, str ++ padB str.size = t := ⟨_, rfl⟩
  have hts : text.size = str.size + (padB str.size).size := by rw [← htx, ByteArray.size_append]
  have htl : text.size ≤ 1000000 := by omega
  have htm : text.size % 64 = 0 := by omega
  have HPD := Go.Lib.hid hpd; have HTX := Go.Lib.hid htx
  have hsum : str.size + (padB str.size).size ≤ 9223372036854775807 := by omega
  generalize hpp : padB str.size = pad at *
  have HPP := Go.Lib.hid hpp
  clear hpp
  clear hpd hps hzl hfull hts
  go_enter Tryz.func20, Tryz.ntmps20
  go_wp2_with (with_reducible refine wpList_alloc_blk (o := ⟨some 2, _, _, _, _, _⟩) rfl 69 rfl (.agg (tab 32 (sumV fun _ => 0)).toArray) (by kernel_rfl) ?_)
  intro w1 hb1 hbel1 hsz1
  obtain ⟨g2, hg2⟩ : ∃ g, w.heap.size = g := ⟨_, rfl⟩
  have HG := Go.Lib.hid hg2
  rw [hg2] at hb1 hbel1
  simp only [hg2]
  have HB1 := Go.Lib.hid hb1; have HBEL := Go.Lib.hid hbel1
  have hg2w : g2 < w1.heap.size := hb1.lt
  clear hb1 hbel1 hsz1 hg2
  go_wp2_with (go_at_call 47; refine (HPD.out _).mono ?_; rintro e w2 ⟨rfl, hb2⟩)
  have HB2 := Go.Lib.hid hb2
  clear hb2
  refine (RStart_any _).mono ?_
  rintro e w3 ⟨gv, rfl, hbv, hgv, hb3⟩
  have hbel3 := kp_step HB2.out hb3
  have hrd := Rd.of_blk hbv (by rw [tab_length]; unfold maxLen; omega)
  have HBE3 := Go.Lib.hid hbel3; have HRD := Go.Lib.hid hrd
  clear hbv hgv hb3 hbel3 hrd HB2 htx hsum HPD
  go_wp2_with fail
  go_loopw [4, 5] (fun v i wr => ∃ (k : Nat) (ao : Option Addr) (cp : Nat), 64 * k ≤ text.size ∧ i = .int .i64 ((64 * k : Nat) : Int) ∧ v = .slice ao 8 cp ∧ Hid (Rd wr ao (tab 8 (stV (fedS text.data.toList hF k)))) ∧ Below w1.heap.size w1 wr) (fun _ i _ => (text.size - intOf i).toNat)
  case atStart => exact ⟨0, some ⟨gv, 0, none⟩, 8, by omega, rfl, rfl, HRD, HBE3.out⟩
  case round =>
    obtain ⟨k, ao, cp, hk, rfl, rfl, hrd, hbl⟩ := hrel
    by_cases hlt : 64 * k < text.size
    · have hk1 : 64 * k + 64 ≤ text.size := by omega
      have i0 : (0 : Int) ≤ ((64 * k : Nat) : Int) := by omega
      have i1 : ((64 * k : Nat) : Int) < (text.size : Int) := by omega
      have i2 : ((64 * k : Nat) : Int) + 64 ≤ (text.size : Int) := by omega
      generalize hkk : 64 * k = kk at *
      have HKK := Go.Lib.hid hkk
      clear hkk
      have t1 : ((kk : Int) + 64).toNat = kk + 64 := by omega
      have HBL := Go.Lib.hid hbl
      clear hbl
      go_wp2_with fail
      refine (RBlock_any (fedS text.data.toList hF k) (fedS_lt _ _ hF_lt _) (text.extract kk (kk + 64)) (by rw [ByteArray.size_extract]; omega) ao cp wr hrd.out).mono ?_
      rintro e w4 ⟨v, rfl, hov, hb4⟩
      obtain ⟨ao2, cp2, rfl, hrd2, -⟩ := Rd.of_owns hov
      have HRD2 := Go.Lib.hid hrd2; have HB4 := Go.Lib.hid hb4
      clear hov hrd2 hb4 hrd
      go_wp2_with fail
      go_roundw
      case rel =>
        refine ⟨k + 1, ao2, cp2, by have := HKK.out; omega, by rw [← HKK.out, Nat.mul_add]; simp, rfl, ?_, kp_step HBL.out HB4.out⟩
        have hx : (text.extract kk (kk + 64)).data.toList = (text.data.toList.drop (64 * k)).take 64 := by rw [HKK.out]; simp
        refine Go.Lib.hid ?_
        have h2 := HRD2.out
        rw [hx] at h2
        exact h2
      case measure => simp [intOf]; omega
    · have hke : k = text.size / 64 := by omega
      have hfin : fedS text.data.toList hF k = shaS str.data.toList := by
        have h1 : text.data.toList = str.data.toList ++ padL str.size := by rw [← HTX.out, ← HPP.out]; simp [padB]
        unfold shaS
        rw [show str.data.toList.length = str.size from by simp, ← h1, hke]
        rw [show text.data.toList.length = text.size from by simp]
      rw [hfin] at hrd
      obtain ⟨gx, ox, rfl, hgx, hcs⟩ := hrd.out.2 (by rw [tab_length]; omega)
      have hcell : ∀ (W : World) (j : Nat), j < 8 → Below wr.heap.size wr W → W.cell? ⟨gx, ox + j, none⟩ = some (.int .u32 (shaS str.data.toList j : Nat)) := fun W j hj hb => by
        rw [(bcell hb).1 gx _ hgx, hcs j (by rw [tab_length]; exact hj)]
        exact tab_get 8 _ j hj
      have hsl : ∀ j, shaS str.data.toList j < 4294967296 := fun j => fedS_lt _ _ hF_lt _ j
      have HCELL := Go.Lib.hid hcell; have HBL := Go.Lib.hid hbl; have HSL := Go.Lib.hid hsl
      clear hcell hcs hrd hfin hbl hsl
      generalize hss : shaS str.data.toList = st at *
      have HSS := Go.Lib.hid hss
      clear hss
      go_wp2_with (with_reducible refine wpList_alloc_blk (o := ⟨some 6, _, _, _, _, _⟩) rfl 69 rfl (.agg (tab 32 (sumV fun _ => 0)).toArray) (by kernel_rfl) ?_)
      intro w5 hb5 hbel5 hsz5
      obtain ⟨g6, hg6⟩ : ∃ g, wr.heap.size = g := ⟨_, rfl⟩
      have HG6 := Go.Lib.hid hg6
      rw [hg6] at hb5 hbel5
      simp only [hg6]
      have hle6 : w1.heap.size ≤ g6 := by have := HBL.out.size; have := HG6.out; omega
      have HB5 := Go.Lib.hid hb5; have HBEL5 := Go.Lib.hid hbel5; have HBT5 := Go.Lib.hid (HBL.out.trans (hbel5.mono hle6))
      clear hb5 hbel5 hg6
      go_wp2_with fail
      go_loopw [7] (fun i wx => ∃ n : Nat, n ≤ 32 ∧ i = .int .i64 (n : Nat) ∧ Hid (Blk wx g6 69 (tab 32 (fun j => if j < n then sumV st j else .int .u8 0))) ∧ Below g6 wr wx ∧ Below w1.heap.size w1 wx) (fun i _ => (32 - intOf i).toNat)
      case atStart => exact ⟨0, by omega, rfl, HB5, HBEL5.out, HBT5.out⟩
      case round =>
        obtain ⟨n, hn, rfl, hbx, hblx, hbty⟩ := hrel
        have HBTY := Go.Lib.hid hbty
        clear hbty
        by_cases hn32 : n < 32
        · have hcx := HCELL.out wr (n / 4) (by omega) (by rw [HG6.out]; exact hblx)
          have HBX := Go.Lib.hid hblx
          have hsn := HSL.out (n / 4)
          have n0 : (0 : Int) ≤ (n : Int) := by omega
          have n1 : (n : Int) < 32 := by omega
          clear hblx
          go_wp2_with (with_reducible refine wpList_store_cell (o := ⟨none, .store 5 (.tmp 44) (.tmp 43), _, _, _, _⟩) rfl 5 _ _ rfl g6 n 69 _ rfl rfl _ hbx.out (by kernel_rfl) (by rw [tab_length]; exact hn32) rfl rfl ?_)
          intro w6 hb6 ho6
          have HB6 := Go.Lib.hid hb6
          clear hb6
          go_wp2_with fail
          go_roundw
          case rel => exact ⟨n + 1, by omega, by simp, Go.Lib.hid (HB6.out.congr (one_set st n)), HBX.out.trans (ho6.below (Nat.le_refl _)), HBTY.out.trans (ho6.below hle6)⟩
          case measure => simp [intOf]; omega
        · obtain rfl : n = 32 := by omega
          have hb6 : Blk wr g6 69 (tab 32 (sumV st)) := hbx.out.congr (tab_congr fun j hj => if_pos hj)
          have hb2 := HB1.out.kept HBTY.out
          clear hblx
          go_wp2_with (first
            | (with_reducible refine wpList_load_tab (o := ⟨some 45, _, _, _, _, _⟩) rfl 69 _ rfl g6 69 rfl 32 _ _ hb6 Tryz.underlying69 rfl (by kernel_rfl) ?_)
            | (with_reducible refine wpList_store_tab (o := ⟨none, .store _ (.tmp 2) (.tmp 45), _, _, _, _⟩) rfl 69 _ _ rfl g2 69 32 _ _ rfl rfl hb2 (by kernel_rfl) (fun _ => rfl) ?_))
          intro w7 hb7 ho7
          go_wp2_with fail
          refine bodyPost_ret (results_cell_tab rfl _ _ g2 69 32 _ _ rfl hb7 Tryz.underlying69 rfl (by kernel_rfl)) rfl ⟨by rw [shaV, HSS.out], ?_⟩
          rw [HG.out]
          exact (HBEL.out.trans (HBTY.out.mono (Nat.le_of_lt hg2w))).trans (ho7.below (Nat.le_refl _))
end Go.Proofs.YtlmefcepdadfjaaGreat
/- The walk over the document's Pad. -/
namespace Go.Proofs.YtlmefcepdadfjaaGreat
open Go.RowKit

theorem lenB_int (n j : Nat) (hj : j < 8) : ((lenB n j).toNat : Int) = (n : Int) * 8 / 2 ^ (56 - 8 * j) % 256 := by
  have h : (lenB n j).toNat = n * 8 / 256 ^ (7 - j) % 256 := by unfold lenB; simp
  rw [h]
  have hj' : j = 0 ∨ j = 1 ∨ j = 2 ∨ j = 3 ∨ j = 4 ∨ j = 5 ∨ j = 6 ∨ j = 7 := by omega
  rcases hj' with rfl | rfl | rfl | rfl | rfl | rfl | rfl | rfl <;> simp
def headL (z : Nat) : List UInt8 := [128] ++ List.replicate z 0
theorem head_next (z : Nat) : (⟨(headL z).toArray⟩ : ByteArray) ++ ⟨#[0]⟩ = ⟨(headL (z + 1)).toArray⟩ := by
  apply ByteArray.ext
  simp [headL, List.replicate_succ']
set_option maxHeartbeats 4000000 in
set_option maxRecDepth 100000 in
theorem RPad_any (n : Nat) (hn : n ≤ 1099511627776) (w : World) :
    Calls Tryz.prog 47 #[.int .i64 (n : Nat)] w fun e w' => e = .returned (.string (padB n)) ∧ Below w.heap.size w w' := by
  obtain ⟨B, hB⟩ : ∃ B, w.heap.size = B := ⟨_, rfl⟩
  have HB := Go.Lib.hid hB
  clear hB
  go_enter Tryz.func47, Tryz.ntmps47
  go_wp2_with fail
  go_loop [3] (fun v => ∃ (z : Nat) (q : ByteArray), z ≤ zerosN n ∧ v = .string q ∧ Hid (q = ⟨(headL z).toArray⟩) ∧ q.size = 1 + z) (fun v => zerosN n + 1 - strSz v)
  case atStart => exact ⟨0, ⟨#[128]⟩, by omega, rfl, Go.Lib.hid rfl, rfl⟩
  case round =>
    obtain ⟨z, q, hz, rfl, hq, hqs⟩ := hrel
    have hzl := zeros_lt n
    by_cases hzz : z < zerosN n
    · have hne : (((n : Int) + (q.size : Int) + 8) % 64 != 0) = true := by
        rw [hqs]
        unfold zerosN at hzz
        simp
        omega
      have hq0 : q.size ≤ 100 := by omega
      have hnx : q ++ ⟨#[0]⟩ = (⟨(headL (z + 1)).toArray⟩ : ByteArray) := by rw [hq.out]; exact head_next z
      have HNX := Go.Lib.hid hnx
      clear hnx
      go_wp2_with fail
      go_round
      case rel => exact ⟨z + 1, q ++ ⟨#[0]⟩, by omega, rfl, Go.Lib.hid HNX.out, by rw [ByteArray.size_append, hqs, show (⟨#[0]⟩ : ByteArray).size = 1 from rfl]; omega⟩
      case measure =>
        show zerosN n + 1 - (q ++ ⟨#[0]⟩ : ByteArray).size < zerosN n + 1 - q.size
        rw [ByteArray.size_append, show (⟨#[0]⟩ : ByteArray).size = 1 from rfl]; omega
    · obtain rfl : z = zerosN n := by omega
      have hne : (((n : Int) + (q.size : Int) + 8) % 64 != 0) = false := by
        rw [hqs]
        unfold zerosN
        simp
        omega
      have hq0 : q.size ≤ 100 := by omega
      have HQS := Go.Lib.hid hqs
      clear hqs hzz hz hzl
      go_wp2_with fail
      go_loopw [5, 6] (fun v i wr => ∃ j : Nat, j ≤ 8 ∧ i = .int .i64 j ∧ wr.ownsRow B 5 1 v j ((tab j (lenB n)).map fun b => .int .u8 (b.toNat : Int)) ∧ Below B w wr) (fun _ i _ => 8 - (intOf i).toNat)
      case atStart => exact ⟨0, by omega, rfl, World.ownsRow_nil _ _ _ _, Below.refl _ _⟩
      case round =>
        obtain ⟨j, hj, rfl, hown, hbel⟩ := hrel
        by_cases hj8 : j < 8
        · have HO := Go.Lib.hid hown; have HL := Go.Lib.hid hbel
          have hBr : B ≤ wr.heap.size := by have := hbel.size; have := HB.out; omega
          have j0 : (0 : Int) ≤ (j : Int) := by omega
          have j1 : (j : Int) < 8 := by omega
          clear hown hbel
          go_wp2_with (at_builtin; refine wpList_append_one _ rfl _ _ 84 rfl B 5 (.int .u8 0) 1 Tryz.underlying84 (by kernel_rfl) rfl _ j _ rfl HO.out (.int .u8 ((n : Int) * 8 / 2 ^ (56 - 8 * j) % 256)) rfl rfl (by unfold maxLen; omega) (by omega) hBr ?_)
          intro v' w3 hown3 hbel3 _
          have HO3 := Go.Lib.hid hown3; have HL3 := Go.Lib.hid (HL.out.trans hbel3)
          clear hown3 hbel3
          go_wp2_with fail
          go_roundw
          case rel =>
            refine ⟨j + 1, by omega, by go_num, ?_, HL3.out⟩
            rw [tab_snoc, List.map_append, List.map_singleton, lenB_int n j hj8]
            exact HO3.out
          case measure => simp [intOf]; omega
        · obtain rfl : j = 8 := by omega
          have hs := run_string_own (P := Tryz.prog) wr 84 9 5 Tryz.underlying84 Tryz.underlying5 Tryz.underlying9 B 8 _ (tab 8 (lenB n)) (tab_length _ _) hown
          have hfin : q ++ ⟨(tab 8 (lenB n)).toArray⟩ = padB n := by rw [hq.out, ba_cat]; rfl
          have h8 : (⟨(tab 8 (lenB n)).toArray⟩ : ByteArray).size = 8 := by show (tab 8 (lenB n)).toArray.size = 8; rw [List.size_toArray, tab_length]
          have HFIN := Go.Lib.hid hfin; have HL := Go.Lib.hid hbel
          clear hfin hbel hown
          obtain ⟨t8, ht8⟩ : ∃ t : ByteArray, (⟨(tab 8 (lenB n)).toArray⟩ : ByteArray) = t := ⟨_, rfl⟩
          rw [ht8] at hs h8 HFIN
          have hsz : q.size + t8.size ≤ 9223372036854775807 := by omega
          clear ht8
          go_wp2_with fail
          go_ret
          exact ⟨by rw [HFIN.out]; rfl, by rw [HB.out]; exact HL.out⟩
end Go.Proofs.YtlmefcepdadfjaaGreat
/- The walk over the package's Sum of parts. -/
namespace Go.Proofs.YtlmefcepdadfjaaGreat
open Go.RowKit

def joinL (ps : List ByteArray) : List UInt8 := (ps.map fun b => b.data.toList).flatten
theorem joinL_snoc (ps : List ByteArray) (k : Nat) (hk : k < ps.length) : joinL (ps.take (k + 1)) = joinL (ps.take k) ++ (ps[k]).data.toList := by
  unfold joinL
  rw [List.take_succ_eq_append_getElem hk, List.map_append, List.flatten_append, List.map_singleton, List.flatten_singleton]
theorem joinL_le (ps : List ByteArray) (k : Nat) : (joinL (ps.take k)).length ≤ (joinL ps).length := by
  have : joinL ps = joinL (ps.take k) ++ joinL (ps.drop k) := by
    unfold joinL
    rw [← List.flatten_append, ← List.map_append, List.take_append_drop]
  rw [this, List.length_append]
  omega
set_option maxHeartbeats 4000000 in
set_option maxRecDepth 100000 in
theorem Sum_any (ps : List ByteArray) (hl : (joinL ps).length ≤ 900000) (hn : ps.length ≤ 1000000) (ao : Option Addr) (cp : Nat) (w : World) (hrd : Rd w ao (ps.map Value.string)) :
    Calls Tryz.prog 94 #[.slice ao ps.length cp] w fun e w' => e = .returned (shaV (joinL ps)) ∧ Below w.heap.size w w' := by
  obtain ⟨m, hm⟩ : ∃ m, ps.length = m := ⟨_, rfl⟩
  rw [hm] at hn ⊢
  have HM := Go.Lib.hid hm; have HRD := Go.Lib.hid hrd; have HL := Go.Lib.hid hl
  clear hm hrd hl
  go_enter Tryz.func94, Tryz.ntmps94
  go_wp2_with (with_reducible refine wpList_alloc_blk (o := ⟨some 2, _, _, _, _, _⟩) rfl 69 rfl (.agg (tab 32 (sumV fun _ => 0)).toArray) (by kernel_rfl) ?_)
  intro w1 hb1 hbel1 hsz1
  obtain ⟨g2, hg2⟩ : ∃ g, w.heap.size = g := ⟨_, rfl⟩
  have HG := Go.Lib.hid hg2
  rw [hg2] at hb1 hbel1
  simp only [hg2]
  have HB1 := Go.Lib.hid hb1; have HBEL := Go.Lib.hid hbel1
  have hg2w : g2 < w1.heap.size := hb1.lt
  clear hb1 hbel1 hsz1 hg2
  go_wp2_with (go_at_call 116; refine (NewL_any _).mono ?_; rintro e w2 ⟨p, c, rfl, hH, hp, hb2⟩; have HH := Go.Lib.hid hH; have HB2 := Go.Lib.hid hb2; clear hH hb2)
  go_loopw [9] (fun i wr => ∃ k : Nat, k ≤ m ∧ i = .int .i64 (k : Nat) ∧ Hid (HashL p c (joinL (ps.take k)) wr) ∧ Below w1.heap.size w1 wr) (fun i _ => (m - intOf i).toNat)
  case atStart => exact ⟨0, by omega, rfl, HH, HB2.out⟩
  case round =>
    obtain ⟨k, hk, rfl, hh, hbl⟩ := hrel
    have HBL := Go.Lib.hid hbl
    clear hbl
    by_cases hkm : k < m
    · have hkp : k < ps.length := by have := HM.out; omega
      obtain ⟨gx, ox, rfl, hgx, hcs⟩ := HRD.out.2 (by rw [List.length_map]; omega)
      have hcx : wr.cell? ⟨gx, ox + k, none⟩ = some (.string ps[k]) := by
        rw [(bcell ((HBEL.out.trans (HBL.out.mono (Nat.le_of_lt hg2w))).mono (by rw [HG.out]; omega))).1 gx _ hgx, hcs k (by rw [List.length_map]; exact hkp)]
        simp [hkp]
      have hlen : (joinL (ps.take k)).length + (ps[k]).size ≤ 900000 := by
        have h1 := joinL_snoc ps k hkp
        have h2 := joinL_le ps (k + 1)
        rw [h1, List.length_append] at h2
        have h3 : (ps[k]).data.toList.length = (ps[k]).size := by simp
        have := HL.out
        omega
      have hsn := joinL_snoc ps k hkp
      have HSN := Go.Lib.hid hsn; have HLEN := Go.Lib.hid hlen
      generalize ps[k] = part at *
      have hps : part.size ≤ 900000 := by omega
      have k0 : (0 : Int) ≤ (k : Int) := by omega
      have k1 : (k : Int) < (m : Int) := by omega
      clear hsn hlen
      go_wp2_with (go_at_call 117; refine (Write_any p c (joinL (ps.take k)) part HLEN.out wr hh.out).mono ?_; rintro e w3 ⟨rfl, hh3, hb3⟩; have HH3 := Go.Lib.hid hh3; have HB3 := Go.Lib.hid hb3; clear hh3 hb3 hh)
      go_roundw
      case rel => exact ⟨k + 1, by omega, by simp, Go.Lib.hid (by rw [HSN.out]; exact HH3.out), HBL.out.trans (HB3.out.mono hp)⟩
      case measure => simp [intOf]; omega
    · obtain rfl : k = m := by omega
      have hfull : ps.take k = ps := List.take_of_length_le (by have := HM.out; omega)
      rw [hfull] at hh
      have HF := Go.Lib.hid hfull
      clear hfull
      have hsum : ∀ W : World, HashL p c (joinL ps) W → Calls Tryz.prog 118 #[.pointer (some ⟨p, 0, none⟩)] W fun e w' => e = .returned (.agg (tab 32 (sumV (shaS (joinL ps)))).toArray) ∧ Below W.heap.size W w' := fun W h => SumL_any p c (joinL ps) HL.out W h
      generalize hst : shaS (joinL ps) = st at hsum
      have HST := Go.Lib.hid hst; have HSUM := Go.Lib.hid hsum
      clear hst hsum
      go_wp2_with fail
      refine (HSUM.out wr hh.out).mono ?_
      rintro e w3 ⟨rfl, hb3⟩
      have hbt := kp_step HBL.out hb3
      have hb2 := HB1.out.kept hbt
      have HBT := Go.Lib.hid hbt
      clear hb3 hbt
      go_wp2_with (with_reducible refine wpList_store_tab (o := ⟨none, .store _ (.tmp 2) (.tmp 18), _, _, _, _⟩) rfl 69 _ _ rfl g2 69 32 _ _ rfl rfl hb2 (by kernel_rfl) (fun _ => rfl) ?_)
      intro w4 hb4 ho4
      go_wp2_with fail
      refine bodyPost_ret (results_cell_tab rfl _ _ g2 69 32 _ _ rfl hb4 Tryz.underlying69 rfl (by kernel_rfl)) rfl ⟨by rw [shaV, HST.out], ?_⟩
      rw [HG.out]
      exact (HBEL.out.trans (HBT.out.mono (Nat.le_of_lt hg2w))).trans (ho4.below (Nat.le_refl _))
end Go.Proofs.YtlmefcepdadfjaaGreat
/- Layer 19: fingerprints as keys, of sums; Fps. -/
namespace Go.Proofs.YtlmefcepdadfjaaGreat
open Go.RowKit

abbrev Fq := {f : List UInt8 // f.length = 32}
instance instFq : Inhabited Fq := ⟨⟨List.replicate 32 0, rfl⟩⟩
def fqC (f : Fq) : List Value := f.1.map u8V
def fqV (f : Fq) : Value := .agg (fqC f).toArray
theorem fqC_len (f : Fq) : (fqC f).length = 32 := by unfold fqC; rw [List.length_map, f.2]
theorem fqC_one (f : Fq) : allOne (fqC f) = true := by
  have := allOne_u8 f.1 []
  rw [List.append_nil] at this
  exact this
def fqE : Enc Fq := ⟨fqC, 32, by decide, fqC_len, fqC_one⟩
theorem fqC_inj {f g : Fq} (h : fqC f = fqC g) : f = g := Subtype.ext (u8V_inj h)
theorem fqV_inj {f g : Fq} (h : fqV f = fqV g) : f = g := by
  unfold fqV at h
  simp only [Value.agg.injEq] at h
  exact fqC_inj (by simpa using congrArg Array.toList h)
def fqK : List KD := List.replicate 32 (.int .u8)
theorem fqK_all (f : Fq) : allK fqK (fqC f) = true := by
  have := allK_u8 [] [] f.1
  rw [f.2, List.append_nil, List.append_nil] at this
  exact this
def fqKey : KeyT SX 69 := ⟨3, fqK, _, rfl, rfl, rfl⟩
theorem fqKey_ok (f : Fq) : fqKey.ok (fqV f) := ⟨fqK_all f, rfl⟩
theorem fq_eq (x y : Fq) : cellsEq (fqC x) (fqC y) = decide (x = y) := by
  have h := cellsEq_iff (ks := fqK) (us := fqC x) (vs := fqC y) (fqK_all x) (fqK_all y)
  by_cases he : x = y
  · rw [decide_eq_true he, he]
    exact (cellsEq_iff (ks := fqK) (us := fqC y) (vs := fqC y) (fqK_all y) (fqK_all y)).2 rfl
  · rw [decide_eq_false he]
    cases hc : cellsEq (fqC x) (fqC y) with
    | false => rfl
    | true => exact absurd (fqC_inj (h.1 hc)) he
theorem SxRun.neFq {x y : Fq} {o1 o2 : Operand} {A : Value → Prop} (h : A (.bool (!decide (x = y)))) : SxRun SX.P (do eqGuard .neq 69 o1 o2 (.agg (fqC x).toArray) (.agg (fqC y).toArray); binOp .neq 69 (.agg (fqC x).toArray) (.agg (fqC y).toArray)) A :=
  SxRun.ne 3 rfl (ks := fqK) rfl rfl (by kernel_rfl) rfl (fqK_all x) (fqK_all y) (by show A (.bool (!cellsEq (fqC x) (fqC y))); rw [fq_eq]; exact h)
def shaFq (l : List UInt8) : Fq := ⟨tab 32 (fun j => UInt8.ofNat (shaS l (j / 4) / 256 ^ (3 - j % 4) % 256)), tab_length _ _⟩
theorem shaV_eq (l : List UInt8) : shaV l = fqV (shaFq l) := by
  unfold shaV fqV fqC shaFq
  congr 2
  unfold tab
  rw [List.map_map]
  refine List.map_congr_left fun j _ => ?_
  show sumV (shaS l) j = u8V _
  unfold sumV u8V
  congr 2
  rw [UInt8.toNat_ofNat']
  omega
def bFq (b : ByteArray) : Fq := shaFq b.data.toList
section
variable {W : World} {M : List Nat} {H : Hp} {A : Value → Hp → Prop}
theorem SxCall.rsumF (s : ByteArray) (hl : s.size ≤ 900000) (h : A (fqV (bFq s)) H) : SxCall SX W M 20 #[.string s] H A := SxCall.quiet (fun w => by
  have h5 := RSum_any s hl (fun W => RPad_any s.size (by omega) W) w
  rw [shaV_eq] at h5
  exact h5) h
theorem SxCall.sumF (p : Nat) {ao : Option Addr} {cap e k : Nat} (s : ByteArray) (hl : s.size ≤ 900000) (hp : H[p]? = some (.row ao 1 cap e k [.string s])) (h : A (fqV (bFq s)) H) : SxCall SX W M 94 #[.slice ao 1 cap] H A := SxCall.quietS (fun w hs => by
  have hj : joinL [s] = s.data.toList := by simp [joinL]
  have h5 := Sum_any [s] (by rw [hj]; exact hl) (by simp) ao cap w (hs.rowRd p hp (by show 1 ≤ maxLen; decide))
  rw [hj, shaV_eq] at h5
  exact h5) h
end
attribute [irreducible] bFq
end Go.Proofs.YtlmefcepdadfjaaGreat
/- Rows of which there are as many as come. No program is named here. -/
namespace Go.Proofs.YtlmefcepdadfjaaGreat
open Go.RowKit

def tailIx (c n : Nat) : List Nat := (List.range n).map (· + c)
theorem pickH_cons {H : Hp} {i : Nat} {e : Ent} {r : List Nat} {es : Hp} (hi : H[i]? = some e) (hr : pickH H r = some es) : pickH H (i :: r) = some (e :: es) := by
  unfold pickH
  rw [hi]
  dsimp only
  rw [hr]
theorem pickH_append {H : Hp} : ∀ {a : List Nat} {A : Hp} {b : List Nat} {B : Hp}, pickH H a = some A → pickH H b = some B → pickH H (a ++ b) = some (A ++ B)
  | [], A, b, B, ha, hb => by
    simp only [pickH, Option.some.injEq] at ha
    subst ha
    exact hb
  | i :: r, A, b, B, ha, hb => by
    unfold pickH at ha
    split at ha
    · rename_i e he
      split at ha
      · rename_i es hes
        simp only [Option.some.injEq] at ha
        subst ha
        exact pickH_cons he (pickH_append hes hb)
      · cases ha
    · cases ha
theorem pickH_map {H : Hp} {f : Nat → Nat} : ∀ {n : Nat} {L : Hp}, L.length = n → (∀ (j : Nat) (e : Ent), L[j]? = some e → H[f j]? = some e) → pickH H ((List.range n).map f) = some L := by
  intro n
  induction n with
  | zero => intro L hn _; rw [List.eq_nil_of_length_eq_zero hn]; rfl
  | succ n ih =>
    intro L hn h
    rcases List.eq_nil_or_concat L with h0 | ⟨L', x, h0⟩
    · subst h0; simp at hn
    · rw [List.concat_eq_append] at h0
      subst h0
      have hl : L'.length = n := by simpa using hn
      rw [List.range_succ, List.map_append]
      refine pickH_append (ih hl fun j e hj => h j e ?_) (pickH_cons (e := x) (h n x ?_) rfl)
      · rw [List.getElem?_append_left (List.getElem?_eq_some_iff.1 hj).1]; exact hj
      · rw [List.getElem?_append_right (by omega), hl, Nat.sub_self]; rfl
theorem pickH_tail {H L : Hp} (c : Nat) (h : H.drop c = L) {n : Nat} (hn : L.length = n) : pickH H (tailIx c n) = some L :=
  pickH_map hn fun j e hj => by rw [← h, List.getElem?_drop] at hj; rw [← hj, Nat.add_comm]
theorem nodupB_of : ∀ {l : List Nat}, l.Nodup → nodupB l = true
  | [], _ => rfl
  | x :: r, h => by
    obtain ⟨h1, h2⟩ := List.nodup_cons.1 h
    simp only [nodupB, Bool.and_eq_true, Bool.not_eq_true', List.any_eq_false]
    exact ⟨fun y hy he => h1 (by have := Nat.eq_of_beq_eq_true he; exact this ▸ hy), nodupB_of h2⟩
theorem nodup_ofB {l : List Nat} (h : nodupB l = true) : l.Nodup := List.nodup_iff_pairwise_ne.2 (List.pairwise_iff_getElem.2 fun i j hi hj hij he => nodupB_get h i j (l[i]) (by omega) (by simp [hi]) (by simp [hj, he]))
theorem tailIx_mem {c n x : Nat} : x ∈ tailIx c n ↔ c ≤ x ∧ x < c + n := by
  unfold tailIx
  rw [List.mem_map]
  constructor
  · rintro ⟨j, hj, rfl⟩; have := List.mem_range.1 hj; omega
  · rintro ⟨h1, h2⟩; exact ⟨x - c, List.mem_range.2 (by omega), by omega⟩
theorem tailIx_nodup (c n : Nat) : (tailIx c n).Nodup := List.nodup_iff_pairwise_ne.2 (List.pairwise_map.2 ((List.nodup_iff_pairwise_ne.1 List.nodup_range).imp fun h e => h (by omega)))
theorem nodup_tail {ks : List Nat} (c n : Nat) (h : nodupB ks = true) (hb : (ks.all fun k => Nat.blt k c) = true) : nodupB (ks ++ tailIx c n) = true := by
  refine nodupB_of (List.nodup_append.2 ⟨nodup_ofB h, tailIx_nodup c n, fun a ha b hb' e => ?_⟩)
  have h1 := List.all_eq_true.1 hb a ha
  have h2 := tailIx_mem.1 hb'
  simp at h1
  omega
theorem nodup_tail_new {ks : List Nat} (c n p : Nat) (h : nodupB (p :: ks) = true) (hb : ((p :: ks).all fun k => Nat.blt k c) = true) : nodupB (ks ++ (tailIx c n ++ [p])) = true := by
  have h0 := nodup_tail (ks := ks) c n (nodupB_of (List.nodup_cons.1 (nodup_ofB h)).2) (by simp only [List.all_cons, Bool.and_eq_true] at hb; exact hb.2)
  rw [← List.append_assoc]
  refine nodupB_of (List.nodup_append.2 ⟨nodup_ofB h0, by simp, fun a ha b hb' e => ?_⟩)
  simp at hb'
  subst hb' e
  rcases List.mem_append.1 ha with h1 | h1
  · exact (List.nodup_cons.1 (nodup_ofB h)).1 h1
  · have h2 := tailIx_mem.1 h1
    simp only [List.all_cons, Bool.and_eq_true] at hb
    have := hb.1
    simp at this
    omega
structure Drow (α : Type) where
  ao : Option Addr
  cap : Nat
  l : List α
section
variable {α : Type} (E : Enc α) (e : Nat)
def Drow.ent (d : Drow α) : Ent := .row d.ao d.l.length d.cap e E.k (E.fl d.l)
def Drow.v (d : Drow α) : Value := .slice d.ao d.l.length d.cap
theorem Weak.nil {H : Hp} (e k : Nat) : Weak H (.row none 0 0 e k [] :: H) := fun _ _ _ hs => hs.nilRow e k
def readsG (ds : List (Drow α)) : Ent := .gen
  { own := none, uses := fun g => ∃ d ∈ ds, (Ent.rd d.ao (E.fl d.l)).uses g, holds := fun w => ∀ d ∈ ds, Rd w d.ao (E.fl d.l),
    own_uses := fun _ h => (by cases h),
    uses_lt := fun w g h ⟨d, hd, hu⟩ => Ent.uses_lt (e := .rd d.ao (E.fl d.l)) (h d hd) hu,
    kept := fun w w' row h hg hr d hd => Ent.Holds.kept (e := .rd d.ao (E.fl d.l)) (h d hd) hg fun g hrow hu => hr g hrow ⟨d, hd, hu⟩ }
theorem Weak.gather {A : Hp} {ds : List (Drow α)} (hm : ∀ d ∈ ds, (E.fl d.l).length ≤ maxLen) : Weak (A ++ ds.map (Drow.ent E e)) (A ++ [readsG E ds]) := fun W M w hs => by
  have get : ∀ j x, (A ++ [readsG E ds])[j]? = some x → (j < A.length ∧ (A ++ ds.map (Drow.ent E e))[j]? = some x) ∨ (j = A.length ∧ x = readsG E ds) := by
    intro j x hj
    by_cases h : j < A.length
    · rw [List.getElem?_append_left h] at hj
      exact .inl ⟨h, by rw [List.getElem?_append_left h]; exact hj⟩
    · rw [List.getElem?_append_right (by omega)] at hj
      cases hd : j - A.length with
      | zero => rw [hd] at hj; simp at hj; exact .inr ⟨by omega, hj.symm⟩
      | succ n => rw [hd] at hj; simp at hj
  have at_ : ∀ d ∈ ds, ∃ j, A.length ≤ j ∧ (A ++ ds.map (Drow.ent E e))[j]? = some (Drow.ent E e d) := by
    intro d hd
    obtain ⟨j, hj⟩ := List.getElem?_of_mem hd
    exact ⟨A.length + j, by omega, by rw [List.getElem?_append_right (by omega), Nat.add_sub_cancel_left, List.getElem?_map, hj]; rfl⟩
  refine ⟨hs.touch, fun j x hj => ?_, fun j x hj g hg => ?_, fun i j a b hij hi hj g hg => ?_⟩
  · rcases get j x hj with ⟨_, hj'⟩ | ⟨_, rfl⟩
    · exact hs.holds j x hj'
    · intro d hd
      obtain ⟨i, _, hi⟩ := at_ d hd
      exact hs.rowRd i hi (hm d hd)
  · rcases get j x hj with ⟨_, hj'⟩ | ⟨_, rfl⟩
    · exact hs.own j x hj' g hg
    · cases hg
  · rcases get i a hi with ⟨hil, hi'⟩ | ⟨_, rfl⟩
    · rcases get j b hj with ⟨_, hj'⟩ | ⟨_, rfl⟩
      · exact hs.sep i j a b hij hi' hj' g hg
      · rintro ⟨d, hd, hu⟩
        obtain ⟨k, hk, hk'⟩ := at_ d hd
        exact hs.sep i k a _ (by omega) hi' hk' g hg hu.2
    · cases hg
end
end Go.Proofs.YtlmefcepdadfjaaGreat
/- Rows of texts, of numbers. No program is named here but its types. -/
namespace Go.Proofs.YtlmefcepdadfjaaGreat
open Go.RowKit

instance instBA : Inhabited ByteArray := ⟨ByteArray.empty⟩
def strE : Enc ByteArray := ⟨fun s => [.string s], 1, by decide, fun _ => rfl, fun _ => rfl⟩
theorem open_strs {w : World} {d : Nat} {v : Value} (hv : FitK Tryz.prog w (d + 1) (.slice 9) v) : ∃ (ao : Option Addr) (n cap : Nat), v = .slice ao n cap ∧ n ≤ maxLen ∧ ∃ l : List ByteArray, l.length = min n 1000 ∧ Rd w ao (strE.fl l) :=
  open_rows strE (by decide) [.str] hv (by kernel_rfl) (by kernel_rfl) rfl fun cs h => by
    obtain ⟨hl, hf⟩ := h
    match cs, hl with
    | [x], _ =>
      obtain ⟨s, rfl, _⟩ := fitK_str (hf 0 _ _ rfl rfl)
      exact ⟨s, rfl⟩
theorem strE_len (l : List ByteArray) : (strE.fl l).length = l.length * 1 := strE.fl_len l
theorem strE_at {l : List ByteArray} {k : Nat} {x : ByteArray} (h : l[k]? = some x) : (strE.fl l)[k * 1]? = some (.string x) := strE.fl_cell (j := 0) h rfl
def natE : Enc Nat := ⟨fun n => [.int .i64 (n : Nat)], 1, by decide, fun _ => rfl, fun _ => rfl⟩
theorem natE_len (l : List Nat) : (natE.fl l).length = l.length * 1 := natE.fl_len l
theorem natE_at {l : List Nat} {k : Nat} {x : Nat} (h : l[k]? = some x) : (natE.fl l)[k * 1]? = some (.int .i64 (x : Nat)) := natE.fl_cell (j := 0) h rfl
end Go.Proofs.YtlmefcepdadfjaaGreat
/- Layer 19: Fps, fresh, at, the closures of Segment. -/
namespace Go.Proofs.YtlmefcepdadfjaaGreat
open Go.RowKit

theorem fqE_len (l : List Fq) : (fqE.fl l).length = l.length * 32 := fqE.fl_len l
theorem fqE_at {l : List Fq} {k : Nat} {x : Fq} (h : l[k]? = some x) : ((fqE.fl l).drop (k * 32)).take 32 = fqC x := fqE.fl_at h
theorem fqC_take (q : Fq) : ((fqC q).drop 0).take 32 = fqC q := by rw [List.drop_zero, List.take_of_length_le (by rw [fqC_len]; exact Nat.le_refl _)]
set_option maxHeartbeats 4000000 in
theorem Fps_any (cs : List ByteArray) (hl : cs.length ≤ 100000) (hs : ∀ c ∈ cs, c.size ≤ 900000) (ao : Option Addr) (ac : Nat) (w : World) (hr : Rd w ao (strE.fl cs)) :
    Calls Tryz.prog 66 #[.slice ao cs.length ac] w fun e w' => ∃ ao' cap', e = .returned (.slice ao' (cs.map bFq).length cap') ∧ NewRow w w' ao' (cs.map bFq).length cap' 69 32 (fqE.fl (cs.map bFq)) := by
  refine sx_fn (S := SX) (M := []) (N := 20) (H0 := [.row none 0 0 69 32 [], .rd ao (strE.fl cs)]) Tryz.func66 rfl rfl rfl ((Sat.oneRd _ hr).nilRow 69 32) ?_
  ((try refine sU ?_);repeat(refine sN fun _=>?_;try refine sU ?_))
  refine SxCode.loop (σ := Nat × Option Addr × Nat) [8, 3] [9, 10, 11, 5, 12, 13, 14, 15, 16, 17, 3, 18, 8] (fun x => [.int .i64 (x.1 : Nat), .slice x.2.1 x.1 x.2.2]) (fun x => [.row x.2.1 x.1 x.2.2 69 32 (fqE.fl ((cs.take x.1).map bFq)), .rd ao (strE.fl cs)]) (fun x => x.1 ≤ cs.length) (fun x => cs.length - x.1) (0, none, 0) [0, 1] rfl rfl rfl rfl (Nat.zero_le _) ?_
  rintro ⟨k, ro, rc⟩ hk
  dsimp only at hk ⊢
  ((try refine sU ?_);repeat(refine sN fun _=>?_;try refine sU ?_))
  refine SxIf.dec (fun h => ?_) (fun h => ?_)
  · have hlt : k < cs.length := by omega
    obtain ⟨x, hx⟩ : ∃ x, cs[k]? = some x := ⟨cs[k], by simp [hlt]⟩
    have hxs := hs x (List.mem_of_getElem? hx)
    have hsm : (cs.take (k + 1)).map bFq = (cs.take k).map bFq ++ [bFq x] := by rw [take_snocE hx]; exact List.map_append
    ((try refine sU ?_);repeat(refine sN fun _=>?_;try refine sU ?_))
    refine SxIA.rd 1 _ rfl k rfl hlt (by rw [strE_len]; omega) fun g off ha => ?_
    ((try refine sU ?_);repeat(refine sN fun _=>?_;try refine sU ?_))
    refine SxLd.rd 1 rfl ha rfl (j := k * 1) (strE_at hx) ?_
    ((try refine sU ?_);repeat(refine sN fun _=>?_;try refine sU ?_))
    refine SxCall.sumF 0 x hxs rfl ?_
    ((try refine sU ?_);repeat(refine sN fun _=>?_;try refine sU ?_))
    refine SxFill.one rfl (fqC_len _) ?_
    ((try refine sU ?_);repeat(refine sN fun _=>?_;try refine sU ?_))
    refine SxApp.mk 2 rfl 0 (.inr (.inr (.inr ⟨by decide, _, rfl⟩))) (vs := fqC (bFq x)) (m := 1) (by rw [fqC_len]) (fqC_one _) (by unfold maxLen; omega) (by omega) (cs' := fqE.fl ((cs.take (k + 1)).map bFq)) (by rw [hsm, fqE.fl_append, fqE.fl_one]; rfl) fun ao' cap' => ?_
    ((try refine sU ?_);repeat(refine sN fun _=>?_;try refine sU ?_))
    exact SxRound.mk (k + 1, ao', cap') [2, 3] rfl rfl rfl hlt (by dsimp only; omega)
  · obtain rfl : k = cs.length := by omega
    rw [List.take_length]
    ((try refine sU ?_);repeat(refine sN fun _=>?_;try refine sU ?_))
    exact SxDone.mk fun w' hs => ⟨ro, rc, by rw [List.length_map]; rfl, by rw [List.length_map]; exact hs.newRow 0 rfl⟩
def fdC (x : Int × Int) : List Value := [.int .i64 x.1, .int .i64 x.2]
def fdE : Enc (Int × Int) := ⟨fdC, 2, by decide, fun _ => rfl, fun _ => rfl⟩
theorem fdE_len (l : List (Int × Int)) : (fdE.fl l).length = l.length * 2 := fdE.fl_len l
theorem fdE_at {l : List (Int × Int)} {k : Nat} {x : Int × Int} (h : l[k]? = some x) : ((fdE.fl l).drop (k * 2)).take 2 = fdC x := fdE.fl_at h
def freshB (x : Int × Int) : Bool := decide (x.1 < 0) && decide (x.2 < 0)
theorem fresh_any (x : Int × Int) (w : World) : Calls Tryz.prog 102 #[.agg (fdC x).toArray] w fun e w' => e = .returned (.bool (freshB x)) ∧ Below w.heap.size w w' := by
  obtain ⟨a, b⟩ := x
  refine sx_fn (S := SX) (M := []) (N := 11) (H0 := []) Tryz.func102 rfl rfl rfl (Sat.nil _ _) ?_
  ((try refine sU ?_);repeat(refine sN fun _=>?_;try refine sU ?_))
  refine SxIf.dec (fun h1 => ?_) (fun h1 => ?_)
  · ((try refine sU ?_);repeat(refine sN fun _=>?_;try refine sU ?_))
    exact SxDone.mk fun w' hs => ⟨by unfold freshB; dsimp only; rw [decide_eq_true h1]; rfl, hs.touch.below⟩
  · ((try refine sU ?_);repeat(refine sN fun _=>?_;try refine sU ?_))
    exact SxDone.mk fun w' hs => ⟨by unfold freshB; dsimp only; rw [decide_eq_false h1]; rfl, hs.touch.below⟩
def atL (p : Nat → Bool) (l : List Nat) : Int := match l.find? p with
  | some i => (i : Nat)
  | none => -1
theorem Seg3_any (cs : List ByteArray) (c : ByteArray) (i : Nat) (hi : i < cs.length) (so : Option Addr) (sc g1 g2 : Nat) (w : World) (h1 : Rd w (some ⟨g1, 0, none⟩) [.slice so cs.length sc]) (h2 : Rd w (some ⟨g2, 0, none⟩) [.string c]) (hr : Rd w so (strE.fl cs)) :
    Calls Tryz.prog 101 #[.int .i64 (i : Nat), .pointer (some ⟨g1, 0, none⟩), .pointer (some ⟨g2, 0, none⟩)] w fun e w' => e = .returned (.bool (decide (cs[i]? = some c))) ∧ Below w.heap.size w w' := by
  obtain ⟨x, hx⟩ : ∃ x, cs[i]? = some x := ⟨cs[i], by simp [hi]⟩
  have hcl : cs.length * 1 ≤ maxLen := by have := hr.1; rw [strE_len] at this; exact this
  unfold maxLen at hcl
  refine sx_fn (S := SX) (M := []) (N := 11) (H0 := [.rd (some ⟨g1, 0, none⟩) [.slice so cs.length sc], .rd (some ⟨g2, 0, none⟩) [.string c], .rd so (strE.fl cs)]) Tryz.func101 rfl rfl rfl (Sat.rdsM w [] _ fun j e hj => by
    match j, hj with
    | 0, hj => cases hj; exact ⟨rfl, h1⟩
    | 1, hj => cases hj; exact ⟨rfl, h2⟩
    | 2, hj => cases hj; exact ⟨rfl, hr⟩) ?_
  ((try refine sU ?_);repeat(refine sN fun _=>?_;try refine sU ?_))
  refine SxCode.drawAll rfl [] ?_
  ((try refine sU ?_);repeat(refine sN fun _=>?_;try refine sU ?_))
  refine SxLd.rd 0 rfl rfl (j := 0) rfl rfl ?_
  ((try refine sU ?_);repeat(refine sN fun _=>?_;try refine sU ?_))
  refine SxIA.rd 2 _ rfl i rfl hi (by rw [strE_len]; omega) fun g off ha => ?_
  ((try refine sU ?_);repeat(refine sN fun _=>?_;try refine sU ?_))
  refine SxLd.rd 2 rfl ha rfl (j := i * 1) (strE_at hx) ?_
  ((try refine sU ?_);repeat(refine sN fun _=>?_;try refine sU ?_))
  refine SxLd.rd 1 rfl rfl (j := 0) rfl rfl ?_
  ((try refine sU ?_);repeat(refine sN fun _=>?_;try refine sU ?_))
  refine SxDone.mk fun w' hs => ⟨?_, hs.touch.below⟩
  show Ending.returned (.bool (strEq x c)) = _
  congr 2
  rw [hx]
  by_cases he : x = c
  · rw [decide_eq_true (by rw [he]), he]; exact (strEq_iff _ _).2 rfl
  · rw [decide_eq_false (by simpa using he)]
    cases hb : strEq x c with
    | false => rfl
    | true => exact absurd ((strEq_iff _ _).1 hb) he
end Go.Proofs.YtlmefcepdadfjaaGreat
