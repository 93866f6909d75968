/- The walk over crc.Join; the laws CrcJoins, CrcFar. -/
import Derived.Test.YtalfmnkkganimaaCrcJ
namespace Go.Proofs.Ytalfmnkkganimaa
open Go.RowKit

def tabOf (K i : Nat) : Nat := if i < 32 then iter stepN K (2 ^ i) else 0
theorem tabOf_lt (K i : Nat) : tabOf K i < 4294967296 := by
  unfold tabOf
  split
  · exact iter_lt _ _ (Nat.pow_lt_pow_right (a := 2) (by omega) (by omega : i < 32))
  · omega
theorem do_tab (K x i : Nat) (hi : i ≤ 32) : doTo (tabOf K) x i = iter stepN K (x % 2 ^ i) := by
  induction i with
  | zero => simp [doTo, Nat.mod_one, iter_zero]
  | succ i ih =>
    simp only [doTo]
    rw [ih (by omega), mod_pow_succ_xor, iter_xor]
    congr 1
    split
    · unfold tabOf; rw [if_pos (by omega)]
    · rw [iter_zero]
theorem twice_tab (K i : Nat) (hi : i < 32) : twiceF (tabOf K) i = tabOf (2 * K) i := by
  unfold twiceF
  rw [do_tab K _ 32 (Nat.le_refl _), Nat.mod_eq_of_lt (tabOf_lt K i)]
  unfold tabOf
  rw [if_pos hi, if_pos hi, ← iter_add, show K + K = 2 * K from by omega]
theorem i64_and1 (n : Int) : bits .and .i64 n 1 = n % 2 := by
  have h127 : (BitVec.ofInt 64 1).toNat = 2 ^ 1 - 1 := by decide
  have key : (BitVec.ofInt 64 n &&& BitVec.ofInt 64 1).toNat = (n % ((2 ^ 64 : Nat) : Int)).toNat % 2 ^ 1 := by
    rw [BitVec.toNat_and, BitVec.toNat_ofInt, h127, Nat.and_two_pow_sub_one_eq_mod]
  show IntKind.i64.wrap ((BitVec.ofInt 64 n &&& BitVec.ofInt 64 1).toNat : Nat) = n % 2
  rw [key, IntKind.wrap_i64]
  omega
theorem pow_mod32 (k : Nat) (h : k < 32) : ((2 : Int) ^ k % 4294967296) = ((2 ^ k : Nat) : Int) := by
  have hp : 2 ^ k < 4294967296 := Nat.pow_lt_pow_right (a := 2) (by omega) h
  have h2 : ((2 : Int) ^ k) = ((2 ^ k : Nat) : Int) := by simp
  rw [h2]; generalize 2 ^ k = q at hp; omega
set_option maxHeartbeats 2000000 in
theorem Join_any (a b : Nat) (ha : a < 4294967296) (hb : b < 4294967296) (n : Int) (hn : -9223372036854775808 ≤ n ∧ n ≤ 9223372036854775807) (w : World) :
    Calls Try.prog 23 #[.int .u32 a, .int .u32 b, .int .i64 n] w fun e w' => e = .returned (.int .u32 (iter stepN (8 * n.toNat) a ^^^ b : Nat)) ∧ Below w.heap.size w w' := by
  go_enter Try.func23, Try.ntmps23
  go_wp2_with (with_reducible refine wpList_alloc_blk (o := ⟨some 7, _, _, _, _, _⟩) rfl 51 rfl (.agg (tab 32 fun _ => .int .u32 0).toArray) (by kernel_rfl) ?_)
  intro w1 hb1 hbel1 hsz1
  obtain ⟨B, hB⟩ : ∃ B, w.heap.size = B := ⟨_, rfl⟩
  have HB := Go.Lib.hid hB
  rw [hB] at hb1 hbel1
  simp only [hB]
  clear hB hsz1
  have hb1' : Blk w1 B 51 (tab 32 fun j => .int .u32 ((if j < 0 then tabOf 1 j else 0 : Nat) : Int)) := hb1
  clear hb1
  go_wp2_with fail
  go_loopw [8, 9] (fun _ i wr => ∃ k : Nat, k ≤ 32 ∧ i = .int .i64 k ∧ Blk wr B 51 (tab 32 fun j => .int .u32 ((if j < k then tabOf 1 j else 0 : Nat) : Int)) ∧ Below B w wr) (fun _ i _ => 32 - (intOf i).toNat)
  case atStart => exact ⟨0, by omega, rfl, hb1', hbel1⟩
  case round =>
    obtain ⟨k, hk, rfl, hbr, hbel⟩ := hrel
    clear hb1' hbel1
    by_cases hlt : k < 32
    · have hc := hbr.at k hlt
      have hfz := hbr.freeAt k hlt
      rw [if_neg (by omega)] at hc
      have hp : 2 ^ k < 4294967296 := Nat.pow_lt_pow_right (a := 2) (by omega) hlt
      go_wp2_with fail
      rw [pow_mod32 k hlt]
      refine (step_any (2 ^ k) hp _).mono ?_
      rintro e w' ⟨rfl, rfl⟩
      go_wp2_with fail
      go_roundw
      case rel =>
        refine ⟨k + 1, by omega, by go_num, hbr.setTab k _ _ ?_ ?_, hbel.setCell (Nat.le_refl _) _⟩
        · rw [if_pos (by omega)]; unfold tabOf; rw [if_pos hlt]; rfl
        · intro i _ hne
          by_cases h : i < k
          · rw [if_pos h, if_pos (by omega)]
          · rw [if_neg h, if_neg (by omega)]
      case measure => simp [intOf]; omega
    · obtain rfl : k = 32 := by omega
      have hbr' : Blk wr B 51 (tab 32 fun j => .int .u32 (tabOf (2 ^ 0) j : Nat)) := hbr.congr (tab_congr fun j hj => by rw [if_pos hj])
      clear hbr
      obtain ⟨wo, rfl⟩ : ∃ wo : World, wo = wr := ⟨_, rfl⟩
      rw [show ((32 : Nat) : Int) = 32 from rfl]
      go_wp2_with fail
      go_loopw [18] (fun i wr => ∃ k : Nat, k ≤ 3 ∧ i = .int .i64 k ∧ Blk wr B 51 (tab 32 fun j => .int .u32 (tabOf (2 ^ k) j : Nat)) ∧ Below B w wr) (fun i _ => 3 - (intOf i).toNat)
      case atStart => exact ⟨0, by omega, rfl, hbr', hbel⟩
      case round =>
        obtain ⟨k, hk, rfl, hbr, hbel⟩ := hrel
        clear hbr'
        by_cases hlt : k < 3
        · go_wp2_with (first
            | (go_at_call 32; refine (twice_any B (tabOf (2 ^ k)) (fun j => tabOf_lt _ j) _ hbr).mono ?_; rintro e w' ⟨rfl, hbel2⟩; have hbr2 := hbr.kept hbel2)
            | (with_reducible refine wpList_store_tab (o := ⟨none, .store 51 (.tmp 7) (.tmp 20), _, _, _, _⟩) rfl 51 _ _ rfl B 51 32 _ _ rfl rfl hbr2 (by kernel_rfl) (fun _ => rfl) ?_))
          intro w4 hb4 ho4
          have hlB := hbr.lt
          have hbel3 := (hbel.trans (hbel2.mono (by omega))).trans (ho4.below (Nat.le_refl _))
          clear hbel2 hbr2 ho4 hbr hbel
          go_wp2_with fail
          go_roundw
          case rel => exact ⟨k + 1, by omega, by go_num, hb4.congr (tab_congr fun j hj => by rw [twice_tab _ _ hj, Nat.pow_succ, Nat.mul_comm]), hbel3⟩
          case measure => simp [intOf]; omega
        · obtain rfl : k = 3 := by omega
          obtain ⟨wp, rfl⟩ : ∃ wo : World, wo = wr := ⟨_, rfl⟩
          rw [show ((3 : Nat) : Int) = 3 from rfl]
          obtain ⟨N, hN⟩ : ∃ N : Nat, n.toNat = N := ⟨_, rfl⟩
          have hNb : N < 9223372036854775808 := by omega
          go_wp2_with fail
          go_loopw [0, 2] (fun x m wr => ∃ (r : Nat) (q : Int), m = .int .i64 q ∧ q.toNat = N / 2 ^ r ∧ q ≤ 9223372036854775807 ∧ -9223372036854775808 ≤ q ∧ x = .int .u32 (iter stepN (8 * (N % 2 ^ r)) a : Nat) ∧ Blk wr B 51 (tab 32 fun j => .int .u32 (tabOf (2 ^ (r + 3)) j : Nat)) ∧ Below B w wr) (fun _ m _ => (intOf m).toNat)
          case atStart => exact ⟨0, n, rfl, by simp [hN], by omega, by omega, by simp [Nat.mod_one, iter], hbr, hbel⟩
          case round =>
            obtain ⟨r, q, rfl, hq, hq1, hq2, rfl, hbr, hbel⟩ := hrel
            have hlB := hbr.lt
            have hlA := iter_lt (8 * (N % 2 ^ r)) a ha
            by_cases hq0 : 0 < q
            · obtain ⟨Q, hQ⟩ : ∃ Q : Nat, q = Q := ⟨q.toNat, by omega⟩
              subst hQ
              rw [Int.toNat_natCast] at hq
              have hstep : N / 2 ^ (r + 1) = Q / 2 := by rw [Nat.pow_succ, ← Nat.div_div_eq_div_mul, ← hq]
              have hmod := mod_pow_succ_xor N r
              have hbt : N.testBit r = decide (Q % 2 = 1) := by rw [Nat.testBit_eq_decide_div_mod_eq, ← hq]
              have hmodA : N % 2 ^ (r + 1) = N % 2 ^ r + (if Q % 2 = 1 then 2 ^ r else 0) := by
                rw [Nat.mod_pow_succ, ← hq]
                rcases Nat.mod_two_eq_zero_or_one Q with h | h <;> simp [h]
              have hand := i64_and1 (Q : Int)
              have HST := Go.Lib.hid hstep; have HMA := Go.Lib.hid hmodA; have HQ := Go.Lib.hid hq
              have HIT : ∀ m, Hid (iter stepN (8 * (N % 2 ^ r + m)) a = iter stepN (8 * m) (iter stepN (8 * (N % 2 ^ r)) a)) := fun m => by
                show _ = _
                rw [show 8 * (N % 2 ^ r + m) = 8 * m + 8 * (N % 2 ^ r) from by omega, iter_add]
              clear hq hstep hmod hbt hmodA
              generalize iter stepN (8 * (N % 2 ^ r)) a = c at hlA HIT
              have hdo : doTo (tabOf (2 ^ (r + 3))) c 32 = iter stepN (8 * 2 ^ r) c := by
                rw [do_tab _ _ 32 (Nat.le_refl _), Nat.mod_eq_of_lt hlA, Nat.pow_add]
                congr 1
                omega
              have HDO := Go.Lib.hid hdo; clear hdo
              have htw : ∀ j, j < 32 → twiceF (tabOf (2 ^ (r + 3))) j = tabOf (2 ^ (r + 1 + 3)) j := fun j hj => by
                rw [twice_tab _ _ hj]
                congr 1
                rw [show r + 1 + 3 = (r + 3) + 1 from by omega, Nat.pow_succ (m := r + 3)]
                exact Nat.mul_comm _ _
              have HTW := Go.Lib.hid htw; clear htw
              generalize hG : tabOf (2 ^ (r + 3)) = G at hbr HDO HTW
              have hGlt : ∀ j, G j < 4294967296 := fun j => by rw [← hG]; exact tabOf_lt _ j
              have HGL := Go.Lib.hid hGlt; clear hGlt hG
              by_cases hodd : Q % 2 = 1
              · have hoddz : (Q : Int) % 2 = 1 := by omega
                have HOD := Go.Lib.hid hodd; clear hodd
                go_wp2_with (first
                  | (go_at_call 33; refine (do_any B G HGL.out c hlA _ hbr).mono ?_; rw [HDO.out]; rintro e w' ⟨rfl, rfl⟩)
                  | (go_at_call 32; refine (twice_any B G HGL.out _ hbr).mono ?_; rintro e w' ⟨rfl, hbel2⟩; have hbr2 := hbr.kept hbel2)
                  | (with_reducible refine wpList_store_tab (o := ⟨none, .store 51 (.tmp 7) (.tmp 31), _, _, _, _⟩) rfl 51 _ _ rfl B 51 32 _ _ rfl rfl hbr2 (by kernel_rfl) (fun _ => rfl) ?_))
                intro w4 hb4 ho4
                have hbel3 := (hbel.trans (hbel2.mono (by omega))).trans (ho4.below (Nat.le_refl _))
                clear hbel2 hbr2 ho4 hbr hbel
                go_wp2_with fail
                go_roundw
                case rel =>
                  refine ⟨r + 1, (Q : Int) / 2, rfl, by rw [HST.out]; omega, by omega, by omega, ?_, hb4.congr (tab_congr fun j hj => by rw [HTW.out j hj]), hbel3⟩
                  rw [HMA.out, if_pos HOD.out, (HIT _).out]
                case measure => simp [intOf]; omega
              · have hoddz : (Q : Int) % 2 = 0 := by omega
                have HOD := Go.Lib.hid hodd; clear hodd
                go_wp2_with (first
                  | (go_at_call 32; refine (twice_any B G HGL.out _ hbr).mono ?_; rintro e w' ⟨rfl, hbel2⟩; have hbr2 := hbr.kept hbel2)
                  | (with_reducible refine wpList_store_tab (o := ⟨none, .store 51 (.tmp 7) (.tmp 31), _, _, _, _⟩) rfl 51 _ _ rfl B 51 32 _ _ rfl rfl hbr2 (by kernel_rfl) (fun _ => rfl) ?_))
                intro w4 hb4 ho4
                have hbel3 := (hbel.trans (hbel2.mono (by omega))).trans (ho4.below (Nat.le_refl _))
                clear hbel2 hbr2 ho4 hbr hbel
                go_wp2_with fail
                go_roundw
                case rel =>
                  refine ⟨r + 1, (Q : Int) / 2, rfl, by rw [HST.out]; omega, by omega, by omega, ?_, hb4.congr (tab_congr fun j hj => by rw [HTW.out j hj]), hbel3⟩
                  rw [HMA.out, if_neg HOD.out, (HIT _).out]
                  rfl
                case measure => simp [intOf]; omega
            · have hz : N / 2 ^ r = 0 := by omega
              have hlt2 : N < 2 ^ r := by
                rcases Nat.lt_or_ge N (2 ^ r) with h | h
                · exact h
                · have := Nat.div_pos h (Nat.two_pow_pos r)
                  omega
              have HM : Hid (N % 2 ^ r = N) := Nat.mod_eq_of_lt hlt2
              have HNN := Go.Lib.hid hN
              clear hz hlt2 hN hq
              go_wp2_with fail
              go_ret
              refine ⟨ret_int ?_, by rw [HB.out]; exact hbel⟩
              rw [HM.out, HNN.out]
end Go.Proofs.Ytalfmnkkganimaa
