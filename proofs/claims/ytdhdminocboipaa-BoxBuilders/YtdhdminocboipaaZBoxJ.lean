/- The walk: the document's Head, and that it asks what box.Head asks. -/
import Derived.Test.YtdhdminocboipaaZBoxI
import Derived.Test.YtdhdminocboipaaZReadR
import Derived.Test.YtdhdminocboipaaZSxb
namespace Go.Proofs.Ytdhdminocboipaa
open Go.RowKit

/-- What the document's reader reads, told by the other reader. -/
theorem takeS_R (n : Nat) (s : List UInt8) (a : Nat) (e : Int) : takeR n (s.drop a) e = ((takeS n ⟨s.toArray⟩ a e).1, s.drop (takeS n ⟨s.toArray⟩ a e).2.1, (takeS n ⟨s.toArray⟩ a e).2.2) := by
  have hsz : (⟨s.toArray⟩ : ByteArray).size = s.length := mk_size s
  unfold takeR takeS
  rw [hsz, List.length_drop]
  split
  · rfl
  · split
    · simp
    · simp [List.drop_drop]
theorem takeS_le (n : Nat) (s : List UInt8) (a : Nat) (e : Int) (h : a ≤ s.length) : (takeS n ⟨s.toArray⟩ a e).2.1 ≤ s.length := by
  have hsz : (⟨s.toArray⟩ : ByteArray).size = s.length := mk_size s
  unfold takeS
  rw [hsz]
  split
  · exact h
  · split
    · exact Nat.le_refl _
    · dsimp only; omega
theorem leV_num : ∀ (n k : Nat), n < 2 ^ (8 * k) → leV (numL n k) = n
  | n, 0, h => by simp at h; subst h; rfl
  | n, k + 1, h => by
    rw [numL_succ, leV, leV_num (n / 256) k (by
      rw [show 8 * (k + 1) = 8 * k + 8 by omega, Nat.pow_add] at h
      exact Nat.div_lt_of_lt_mul (by rw [Nat.mul_comm]; exact h))]
    have h1 : (numAt n 0).toNat = n % 256 := by unfold numAt; simp
    rw [h1]; omega
theorem numL_leV : ∀ (l : List UInt8), numL (leV l) l.length = l
  | [] => rfl
  | b :: r => by
    have hb := b.toNat_lt
    rw [List.length_cons, numL_succ, leV]
    congr 1
    · unfold numAt
      apply UInt8.toNat_inj.1
      simp
    · rw [show (b.toNat + 256 * leV r) / 256 = leV r by omega]
      exact numL_leV r
theorem numL_slice (s : List UInt8) (a k : Nat) (h : a + k ≤ s.length) : numL (sliceN s a k) k = (s.drop a).take k := by
  have h1 := numL_leV ((s.drop a).take k)
  rw [List.length_take, List.length_drop, Nat.min_eq_left (by omega)] at h1
  exact h1
theorem front_split (s : List UInt8) : ∀ n, 10 + 6 * n ≤ s.length → (slP s n).flatMap encB = (s.drop 10).take (6 * n)
  | 0, _ => by simp [slP, tab]
  | n + 1, h => by
    rw [slP_snoc, List.flatMap_append, front_split s n (by omega)]
    have h1 : ([slotP s n] : List (Int × Int)).flatMap encB = (s.drop (10 + 6 * n)).take 6 := by
      simp only [List.flatMap_cons, List.flatMap_nil, List.append_nil, encB, slotP, Int.toNat_natCast]
      rw [numL_slice s _ 2 (by omega), numL_slice s _ 4 (by omega)]
      rw [show (6 : Nat) = 2 + 4 from rfl, List.take_add, List.drop_drop]
      congr 3
      omega
    rw [h1, show 6 * (n + 1) = 6 * n + 6 by omega, List.take_add, List.drop_drop]
theorem front_eq (s : List UInt8) (n : Nat) (hn : n = cntP s) (h : 10 + 6 * n ≤ s.length) : frontL (idN s) (slP s n) = s.take (10 + 6 * n) ↔ s.take 4 = magicL := by
  have hc : numL (idN s).toNat 4 ++ numL (slP s n).length 2 ++ (slP s n).flatMap encB = (s.drop 4).take (6 + 6 * n) := by
    rw [slP_len, front_split s n h]
    have h1 : numL (idN s).toNat 4 = (s.drop 4).take 4 := by
      unfold idN; rw [Int.toNat_natCast]; exact numL_slice s 4 4 (by omega)
    have h2 : numL n 2 = (s.drop 8).take 2 := by rw [hn]; exact numL_slice s 8 2 (by omega)
    rw [h1, h2, show 6 + 6 * n = 4 + (2 + 6 * n) by omega, List.take_add, List.take_add, List.drop_drop, List.drop_drop, List.append_assoc]
  have hf : frontL (idN s) (slP s n) = magicL ++ (s.drop 4).take (6 + 6 * n) := by
    rw [← hc]; simp [frontL, preL, magicL]
  have hs : s.take (10 + 6 * n) = s.take 4 ++ (s.drop 4).take (6 + 6 * n) := by
    rw [show 10 + 6 * n = 4 + (6 + 6 * n) by omega, List.take_add]
  rw [hf, hs]
  constructor
  · intro h; exact (List.append_cancel_right h).symm
  · intro h; rw [h]
theorem crcI_nat (l : List UInt8) : (crcI l).toNat = crcMore 0 l := rfl
theorem seal_eq (s f : List UInt8) (m : Nat) (hf : f.length = m) (h : m + 4 ≤ s.length) : s.take (m + 4) = sealL f ↔ f = s.take m ∧ crcI (s.take m) = (sliceN s m 4 : Nat) := by
  rw [List.take_add]
  unfold sealL
  have hm : (s.take m).length = m := by rw [List.length_take]; omega
  constructor
  · intro h1
    obtain ⟨h2, h3⟩ := List.append_inj h1 (by rw [hm, hf])
    refine ⟨h2.symm, ?_⟩
    rw [h2]
    unfold crcI sliceN
    rw [h3]
    have hlt := crcMore_lt 0 f
    congr 1
    exact (leV_num _ 4 (by omega)).symm
  · rintro ⟨h1, h2⟩
    rw [← h1, ← numL_slice s m 4 (by omega)]
    congr 2
    rw [h1]
    unfold crcI at h2
    omega
theorem size_good {id : Int} {sl : List (Int × Int)} {n : Nat} (h : sizeV id sl = n) (hn : 0 < n) : goodB id sl = true ∧ sl.length ≤ 256 ∧ 14 + 6 * sl.length ≤ n := by
  unfold sizeV at h
  split at h
  · rename_i hg
    have hP := goodB_P hg
    have := (sum_le sl hP.2.2.2.2.1).1
    exact ⟨hg, hP.2.2.2.1, by omega⟩
  · omega
theorem headOk_R (s : List UInt8) (h10 : 10 + 6 * cntP s ≤ s.length) : headOk s ↔ cntP s ≤ 256 ∧ sizeV (idN s) (slP s (cntP s)) = s.length ∧ s.take (14 + 6 * cntP s) = sealL (frontL (idN s) (slP s (cntP s))) := by
  have hfl : (frontL (idN s) (slP s (cntP s))).length = 10 + 6 * cntP s := by rw [frontL_len, slP_len]
  have hfe := front_eq s (cntP s) rfl h10
  constructor
  · rintro ⟨h1, h2, h3, h4⟩
    obtain ⟨_, h5, _⟩ := size_good h3 (by omega)
    rw [slP_len] at h5
    refine ⟨h5, h3, ?_⟩
    rw [show 14 + 6 * cntP s = (10 + 6 * cntP s) + 4 by omega]
    exact (seal_eq s _ _ hfl (by omega)).2 ⟨hfe.2 h2, h4⟩
  · rintro ⟨h1, h2, h3⟩
    obtain ⟨_, _, h6⟩ := size_good h2 (by omega)
    rw [slP_len] at h6
    rw [show 14 + 6 * cntP s = (10 + 6 * cntP s) + 4 by omega] at h3
    obtain ⟨h4, h5⟩ := (seal_eq s _ _ hfl (by omega)).1 h3
    exact ⟨h6, hfe.1 h4, h2, h5⟩
/-- What the document's reader has read. -/
def rs1 (s : List UInt8) := takeS 4 ⟨s.toArray⟩ 0 0
def rs2 (s : List UInt8) := takeS 4 ⟨s.toArray⟩ (rs1 s).2.1 (rs1 s).2.2
def rs3 (s : List UInt8) := takeS 2 ⟨s.toArray⟩ (rs2 s).2.1 (rs2 s).2.2
theorem rs_eq (s : List UInt8) : rd1 s = ((rs1 s).1, s.drop (rs1 s).2.1, (rs1 s).2.2) ∧ rd2 s = ((rs2 s).1, s.drop (rs2 s).2.1, (rs2 s).2.2) ∧ rd3 s = ((rs3 s).1, s.drop (rs3 s).2.1, (rs3 s).2.2) := by
  have h1 : rd1 s = ((rs1 s).1, s.drop (rs1 s).2.1, (rs1 s).2.2) := takeS_R 4 s 0 0
  have h2 : rd2 s = ((rs2 s).1, s.drop (rs2 s).2.1, (rs2 s).2.2) := by unfold rd2; rw [h1]; exact takeS_R 4 s _ _
  exact ⟨h1, h2, by unfold rd3; rw [h2]; exact takeS_R 2 s _ _⟩
theorem rs_le (s : List UInt8) : (rs1 s).2.1 ≤ s.length ∧ (rs2 s).2.1 ≤ s.length ∧ (rs3 s).2.1 ≤ s.length := by
  have h1 : (rs1 s).2.1 ≤ s.length := takeS_le 4 s 0 0 (Nat.zero_le _)
  have h2 : (rs2 s).2.1 ≤ s.length := takeS_le 4 s _ _ h1
  exact ⟨h1, h2, takeS_le 2 s _ _ h2⟩
/-- How far the document's loop over slots has come. -/
def hdSR (s : List UInt8) (n : Nat) (x : List (Int × Int) × Nat × Int × Option Addr × Nat) : Prop :=
  x.1.length ≤ n ∧ x.1.length ≤ 300 ∧ x.2.1 ≤ s.length ∧ okF x.1 ∧ (x.2.2.1 = 0 → 10 + 6 * x.1.length ≤ s.length ∧ n = cntP s ∧ x.2.1 = 10 + 6 * x.1.length ∧ x.1 = slP s x.1.length) ∧ (x.2.2.1 ≠ 0 → ¬ headOk s)
set_option maxHeartbeats 2000000 in
theorem RHead_any (s : List UInt8) (hs : s.length ≤ 1000000) (w : World) :
    Calls Try.prog 23 #[txV s] w fun e w' => (headOk s → ∃ ao cap, e = .returned (.tuple #[hdV (idN s) ao (cntP s) cap, .bool true]) ∧ NewRow w w' ao (cntP s) cap 70 2 ((slP s (cntP s)).flatMap encS)) ∧ (¬ headOk s → e = .returned (.tuple #[hdV 0 none 0 0, .bool false]) ∧ Below w.heap.size w w') := by
  have hsz : (⟨s.toArray⟩ : ByteArray).size = s.length := mk_size s
  have hszm : (⟨s.toArray⟩ : ByteArray).size ≤ maxLen := by rw [hsz]; unfold maxLen; omega
  obtain ⟨hle1, hle2, hle3⟩ := rs_le s
  obtain ⟨heq1, heq2, heq3⟩ := rs_eq s
  refine sx_fn (S := SX) (M := []) (N := 69) (H0 := [.row none 0 0 70 2 []]) Try.func23 rfl rfl rfl ((Sat.nil _ _).nilRow 70 2) ?_
  ((try refine sx_use ?_); (repeat (refine SxNew.mk fun _ => ?_; (try refine sx_use ?_))))
  rename_i b2 g
  change SxCall _ _ _ _ _ [rrE g ⟨s.toArray⟩ 0 0, .blk b2 36 [.int .u32 0, .slice none 0 0], .row none 0 0 70 2 []] _
  refine SxCall.sat [rrE g ⟨s.toArray⟩ (rs1 s).2.1 (rs1 s).2.2, .blk b2 36 [.int .u32 0, .slice none 0 0], .row none 0 0 70 2 []] (fun w hs => RTake_sat hs 0 g ⟨s.toArray⟩ hszm 0 (Nat.zero_le _) 0 rfl 4 (by decide)) ?_
  ((try refine sx_use ?_); (repeat (refine SxNew.mk fun _ => ?_; (try refine sx_use ?_))))
  refine SxCall.sat [rrE g ⟨s.toArray⟩ (rs2 s).2.1 (rs2 s).2.2, .blk b2 36 [.int .u32 0, .slice none 0 0], .row none 0 0 70 2 []] (fun w hs => RNum_sat hs 0 g ⟨s.toArray⟩ hszm _ hle1 _ rfl 4 (by decide)) ?_
  have hid : leV (rs2 s).1 < 4294967296 := by
    have h := leV_take4 (rd1 s).2.1 (rd1 s).2.2
    have h2 : takeR 4 (rd1 s).2.1 (rd1 s).2.2 = rd2 s := rfl
    rw [h2, heq2] at h; exact h
  have hn : leV (rs3 s).1 < 65536 := by
    have h := leV_take2 (rd2 s).2.1 (rd2 s).2.2
    have h2 : takeR 2 (rd2 s).2.1 (rd2 s).2.2 = rd3 s := rfl
    rw [h2, heq3] at h; exact h
  change leV (takeS 4 ⟨s.toArray⟩ (rs1 s).2.1 (rs1 s).2.2).1 < 4294967296 at hid
  ((try refine sx_use ?_); (repeat (refine SxNew.mk fun _ => ?_; (try refine sx_use ?_))))
  refine SxRng.u32 (by omega) (by omega) ?_
  ((try refine sx_use ?_); (repeat (refine SxNew.mk fun _ => ?_; (try refine sx_use ?_))))
  rename_i b
  have hidv : ((leV (takeS 4 ⟨s.toArray⟩ (rs1 s).2.1 (rs1 s).2.2).1 : Nat) : Int) = (leV (rs2 s).1 : Nat) := rfl
  refine SxCall.sat [.blk b 36 [.int .u32 (leV (rs2 s).1 : Nat), .slice none 0 0], rrE g ⟨s.toArray⟩ (rs3 s).2.1 (rs3 s).2.2, .blk b2 36 [.int .u32 0, .slice none 0 0], .row none 0 0 70 2 []] (fun w hs => RNum_sat hs 1 g ⟨s.toArray⟩ hszm _ hle2 _ rfl 2 (by decide)) ?_
  ((try refine sx_use ?_); (repeat (refine SxNew.mk fun _ => ?_; (try refine sx_use ?_))))
  have hst0 : hdSR s (leV (rs3 s).1) ([], (rs3 s).2.1, (rs3 s).2.2, none, 0) := by
    by_cases h10 : 10 ≤ s.length
    · obtain ⟨h1, h2, h3, h4, h5⟩ := rd_long s h10
      rw [heq3] at h3 h4 h5
      have hle : (rs3 s).2.1 = 10 := by
        have := congrArg List.length h4
        simp only [List.length_drop] at this
        omega
      exact ⟨Nat.zero_le _, Nat.zero_le _, hle3, fun x hx => by simp at hx, fun _ => ⟨by simpa using h10, h3, by simpa using hle, rfl⟩, fun h => absurd h5 h⟩
    · obtain ⟨h1, h2⟩ := rd_short s (by omega)
      rw [heq3] at h2
      exact ⟨Nat.zero_le _, Nat.zero_le _, hle3, fun x hx => by simp at hx, fun h => absurd h h2, fun _ hok => by have := hok.1; omega⟩
  obtain ⟨n, hnn⟩ : ∃ n, n = leV (rs3 s).1 := ⟨_, rfl⟩
  have hn2 : n < 65536 := by rw [hnn]; exact hn
  refine SxCode.loop (σ := List (Int × Int) × Nat × Int × Option Addr × Nat) [7] [20, 21, 22, 23, 24, 25, 26, 29, 30, 31, 8, 32, 33, 34, 35, 36, 37, 38, 39, 40, 41, 27, 28, 7] (fun x => [.int .u64 (x.1.length : Nat)]) (fun x => [.blk b 36 [.int .u32 (leV (rs2 s).1 : Nat), .slice x.2.2.2.1 x.1.length x.2.2.2.2], rrE g ⟨s.toArray⟩ x.2.1 x.2.2.1, .blk b2 36 [.int .u32 0, .slice none 0 0], .row x.2.2.2.1 x.1.length x.2.2.2.2 70 2 (x.1.flatMap encS)]) (hdSR s n) (fun x => n - x.1.length) ([], (rs3 s).2.1, (rs3 s).2.2, none, 0) [0, 1, 2, 3] rfl rfl rfl rfl (hnn ▸ hst0) ?_
  rintro ⟨sl, a, e, ao, cap⟩ ⟨hx1, hx2, hx3, hx4, hx5, hx6⟩
  dsimp only at hx1 hx2 hx3 hx4 hx5 hx6 ⊢
  have hnn2 : leV (takeS 2 ⟨s.toArray⟩ (rs2 s).2.1 (rs2 s).2.2).1 = n := hnn.symm
  rw [hnn2]
  ((try refine sx_use ?_); (repeat (refine SxNew.mk fun _ => ?_; (try refine sx_use ?_))))
  refine SxIf.dec (fun h => ?_) (fun h => ?_)
  · ((try refine sx_use ?_); (repeat (refine SxNew.mk fun _ => ?_; (try refine sx_use ?_))))
    refine SxIf.dec (fun h300 => ?_) (fun h300 => ?_)
    · have hA := takeS_R 2 s a e
      have hle' := takeS_le 2 s a e hx3
      have hB := takeS_R 4 s (takeS 2 ⟨s.toArray⟩ a e).2.1 (takeS 2 ⟨s.toArray⟩ a e).2.2
      have hle'' := takeS_le 4 s (takeS 2 ⟨s.toArray⟩ a e).2.1 (takeS 2 ⟨s.toArray⟩ a e).2.2 hle'
      have hb2 := leV_take2 (s.drop a) e
      rw [hA] at hb2
      have hb4 := leV_take4 (s.drop (takeS 2 ⟨s.toArray⟩ a e).2.1) (takeS 2 ⟨s.toArray⟩ a e).2.2
      rw [hB] at hb4
      dsimp only at hb2 hb4
      ((try refine sx_use ?_); (repeat (refine SxNew.mk fun _ => ?_; (try refine sx_use ?_))))
      refine SxCall.sat [.blk b 36 [.int .u32 (leV (rs2 s).1 : Nat), .slice ao sl.length cap], rrE g ⟨s.toArray⟩ (takeS 2 ⟨s.toArray⟩ a e).2.1 (takeS 2 ⟨s.toArray⟩ a e).2.2, .blk b2 36 [.int .u32 0, .slice none 0 0], .row ao sl.length cap 70 2 (sl.flatMap encS)] (fun w hs => RNum_sat hs 1 g ⟨s.toArray⟩ hszm a hx3 e rfl 2 (by decide)) ?_
      ((try refine sx_use ?_); (repeat (refine SxNew.mk fun _ => ?_; (try refine sx_use ?_))))
      refine SxCode.draw rfl [.blk b 36 [.int .u32 (leV (rs2 s).1 : Nat), .slice ao sl.length cap]] [10] [0] rfl rfl ?_
      ((try refine sx_use ?_); (repeat (refine SxNew.mk fun _ => ?_; (try refine sx_use ?_))))
      refine SxCall.sat [.blk b 36 [.int .u32 (leV (rs2 s).1 : Nat), .slice ao sl.length cap], rrE g ⟨s.toArray⟩ (takeS 4 ⟨s.toArray⟩ (takeS 2 ⟨s.toArray⟩ a e).2.1 (takeS 2 ⟨s.toArray⟩ a e).2.2).2.1 (takeS 4 ⟨s.toArray⟩ (takeS 2 ⟨s.toArray⟩ a e).2.1 (takeS 2 ⟨s.toArray⟩ a e).2.2).2.2, .blk b2 36 [.int .u32 0, .slice none 0 0], .row ao sl.length cap 70 2 (sl.flatMap encS)] (fun w hs => RNum_sat hs 1 g ⟨s.toArray⟩ hszm _ hle' _ rfl 4 (by decide)) ?_
      ((try refine sx_use ?_); (repeat (refine SxNew.mk fun _ => ?_; (try refine sx_use ?_))))
      refine SxRng.u32 (by omega) (by omega) ?_
      ((try refine sx_use ?_); (repeat (refine SxNew.mk fun _ => ?_; (try refine sx_use ?_))))
      refine SxApp.mk 4 rfl 0 (.inr (.inr (.inr ⟨by decide, _, rfl⟩))) rfl rfl (by unfold maxLen; omega) (by omega) (cs' := (sl ++ [((leV (takeS 2 ⟨s.toArray⟩ a e).1 : Int), (leV (takeS 4 ⟨s.toArray⟩ (takeS 2 ⟨s.toArray⟩ a e).2.1 (takeS 2 ⟨s.toArray⟩ a e).2.2).1 : Int))]).flatMap encS) (by rw [List.flatMap_append]; rfl) fun ao' cap' => ?_
      ((try refine sx_use ?_); (repeat (refine SxNew.mk fun _ => ?_; (try refine sx_use ?_))))
      refine SxRng.u64 (by omega) (by omega) ?_
      ((try refine sx_use ?_); (repeat (refine SxNew.mk fun _ => ?_; (try refine sx_use ?_))))
      refine SxRound.mk (sl ++ [((leV (takeS 2 ⟨s.toArray⟩ a e).1 : Int), (leV (takeS 4 ⟨s.toArray⟩ (takeS 2 ⟨s.toArray⟩ a e).2.1 (takeS 2 ⟨s.toArray⟩ a e).2.2).1 : Int))], (takeS 4 ⟨s.toArray⟩ (takeS 2 ⟨s.toArray⟩ a e).2.1 (takeS 2 ⟨s.toArray⟩ a e).2.2).2.1, (takeS 4 ⟨s.toArray⟩ (takeS 2 ⟨s.toArray⟩ a e).2.1 (takeS 2 ⟨s.toArray⟩ a e).2.2).2.2, ao', cap') [1, 2, 3, 4] (by simp only [List.length_append, List.length_singleton]; rfl) (by simp only [List.length_append, List.length_singleton]; rfl) rfl ?_ (by simp; omega)
      generalize hr2 : takeS 2 ⟨s.toArray⟩ a e = r2 at *
      generalize hr4 : takeS 4 ⟨s.toArray⟩ r2.2.1 r2.2.2 = r4 at *
      have hlen1 : (sl ++ [((leV r2.1 : Int), (leV r4.1 : Int))]).length = sl.length + 1 := by simp
      refine ⟨by dsimp only; omega, by dsimp only; omega, hle'', ?_, ?_, ?_⟩
      · dsimp only
        intro x hx
        rcases List.mem_append.1 hx with h | h
        · exact hx4 x h
        · simp only [List.mem_singleton] at h
          subst h
          dsimp only
          omega
      · dsimp only
        intro he
        rw [hlen1]
        by_cases he0 : e = 0
        · obtain ⟨hy1, hy2, hy3, hy4⟩ := hx5 he0
          subst he0
          have hround := round_rd s sl.length hy1
          rw [← hy3, hA] at hround
          dsimp only at hround
          rw [hB] at hround
          dsimp only at hround
          have h16 : 16 + 6 * sl.length ≤ s.length := by
            rcases Nat.lt_or_ge s.length (16 + 6 * sl.length) with h2 | h2
            · exact absurd he (hround.2 h2)
            · exact h2
          obtain ⟨ha, hb⟩ := hround.1 h16
          have hd := congrArg (fun x => List.length x.1) hb
          simp only [List.length_drop] at hd
          rw [ha, slP_snoc, ← hy4]
          exact ⟨by omega, hy2, by omega, rfl⟩
        · rw [takeR_err _ e 2 he0] at hA
          have h1 : r2.2.2 = e := (congrArg (fun x => x.2.2) hA).symm
          rw [h1, takeR_err _ e 4 he0] at hB
          have h2 : r4.2.2 = e := (congrArg (fun x => x.2.2) hB).symm
          exact absurd (h2 ▸ he) he0
      · dsimp only
        intro he
        by_cases he0 : e = 0
        · obtain ⟨hy1, hy2, hy3, hy4⟩ := hx5 he0
          subst he0
          have hround := round_rd s sl.length hy1
          rw [← hy3, hA] at hround
          dsimp only at hround
          rw [hB] at hround
          dsimp only at hround
          have h16 : s.length < 16 + 6 * sl.length := by
            rcases Nat.lt_or_ge s.length (16 + 6 * sl.length) with h2 | h2
            · exact h2
            · exact absurd (congrArg Prod.snd (hround.1 h2).2) he
          intro hok
          have := hok.1
          omega
        · exact hx6 he0
    · have hl300 : sl.length = 300 := by omega
      have hbad : ¬ headOk s := fun hok => by
        by_cases he0 : e = 0
        · obtain ⟨hy1, hy2, hy3, hy4⟩ := hx5 he0
          have h1 := (headOk_R s (by have := hok.1; omega)).1 hok
          omega
        · exact hx6 he0 hok
      ((try refine sx_use ?_); (repeat (refine SxNew.mk fun _ => ?_; (try refine sx_use ?_))))
      refine SxCode.drawAll rfl [] ?_
      ((try refine sx_use ?_); (repeat (refine SxNew.mk fun _ => ?_; (try refine sx_use ?_))))
      refine SxIf.ne (fun he => ?_) (fun he => ?_)
      · ((try refine sx_use ?_); (repeat (refine SxNew.mk fun _ => ?_; (try refine sx_use ?_))))
        exact SxDone.mk fun w' hs => ⟨fun hok => absurd hok hbad, fun _ => ⟨rfl, hs.touch.below⟩⟩
      · ((try refine sx_use ?_); (repeat (refine SxNew.mk fun _ => ?_; (try refine sx_use ?_))))
        exact SxDone.mk fun w' hs => ⟨fun hok => absurd hok hbad, fun _ => ⟨rfl, hs.touch.below⟩⟩
  · ((try refine sx_use ?_); (repeat (refine SxNew.mk fun _ => ?_; (try refine sx_use ?_))))
    have hln : sl.length = n := by omega
    refine SxCode.drawAll rfl [] ?_
    ((try refine sx_use ?_); (repeat (refine SxNew.mk fun _ => ?_; (try refine sx_use ?_))))
    refine SxIf.ne (fun he => ?_) (fun he => ?_)
    · have hbad := hx6 he
      ((try refine sx_use ?_); (repeat (refine SxNew.mk fun _ => ?_; (try refine sx_use ?_))))
      exact SxDone.mk fun w' hs => ⟨fun hok => absurd hok hbad, fun _ => ⟨rfl, hs.touch.below⟩⟩
    obtain ⟨hy1, hy2, hy3, hy4⟩ := hx5 he
    have hln2 : sl.length = cntP s := by omega
    have hR := headOk_R s (by omega)
    have hsle : sl = slP s (cntP s) := by rw [← hln2]; exact hy4
    ((try refine sx_use ?_); (repeat (refine SxNew.mk fun _ => ?_; (try refine sx_use ?_))))
    refine SxIf.dec (fun h256 => ?_) (fun h256 => ?_)
    · have hbad : ¬ headOk s := fun hok => by have := (hR.1 hok).1; omega
      ((try refine sx_use ?_); (repeat (refine SxNew.mk fun _ => ?_; (try refine sx_use ?_))))
      exact SxDone.mk fun w' hs => ⟨fun hok => absurd hok hbad, fun _ => ⟨rfl, hs.touch.below⟩⟩
    have hid2 : ((leV (rs2 s).1 : Nat) : Int) = idN s := by
      obtain ⟨h1, h2, h3, h4, h5⟩ := rd_long s (by omega)
      rw [heq2] at h2
      unfold idN
      rw [← h2]
    rw [hid2]
    ((try refine sx_use ?_); (repeat (refine SxNew.mk fun _ => ?_; (try refine sx_use ?_))))
    refine SxCall.quietS (fun w hs => RSize_any (idN s) sl ao cap w (hs.rowRd 3 rfl (by rw [flat_len encS 2 (fun _ => rfl)]; unfold maxLen; omega)) (by omega)) ?_
    ((try refine sx_use ?_); (repeat (refine SxNew.mk fun _ => ?_; (try refine sx_use ?_))))
    refine SxIf.ne (fun hz => ?_) (fun hz => ?_)
    · have hbad : ¬ headOk s := fun hok => hz (by rw [hsle]; exact (hR.1 hok).2.1)
      ((try refine sx_use ?_); (repeat (refine SxNew.mk fun _ => ?_; (try refine sx_use ?_))))
      exact SxDone.mk fun w' hs => ⟨fun hok => absurd hok hbad, fun _ => ⟨rfl, hs.touch.below⟩⟩
    obtain ⟨_, _, h14⟩ := size_good hz (by show 0 < s.length; omega)
    change 14 + 6 * sl.length ≤ s.length at h14
    ((try refine sx_use ?_); (repeat (refine SxNew.mk fun _ => ?_; (try refine sx_use ?_))))
    refine SxCall.quiet (Rfront_any (idN s) ao sl.length cap (by omega)) ?_
    ((try refine sx_use ?_); (repeat (refine SxNew.mk fun _ => ?_; (try refine sx_use ?_))))
    refine SxBnd.mk 0 (14 + 6 * sl.length) rfl (by omega) (Nat.zero_le _) (by rw [mk_size]; omega) ?_
    ((try refine sx_use ?_); (repeat (refine SxNew.mk fun _ => ?_; (try refine sx_use ?_))))
    refine SxCall.quietS (fun w hs => RFront_any (idN s) ⟨by unfold idN; omega, by have := sliceN_lt4 s 4; unfold idN; omega⟩ sl hx4 ao cap w (hs.rowRd 3 rfl (by rw [flat_len encS 2 (fun _ => rfl)]; unfold maxLen; omega)) (by omega)) ?_
    ((try refine sx_use ?_); (repeat (refine SxNew.mk fun _ => ?_; (try refine sx_use ?_))))
    have hex : (⟨s.toArray⟩ : ByteArray).extract 0 (14 + 6 * sl.length) = ⟨(s.take (14 + 6 * sl.length)).toArray⟩ := by rw [mk_extract]; simp
    refine SxIf.nt (SxIf.str (fun hq => ?_) (fun hq => ?_))
    · have hok : headOk s := by
        refine hR.2 ⟨by omega, by rw [← hsle]; exact hz, ?_⟩
        have h2 := mk_inj (hex.symm.trans hq)
        rw [← hln2, h2, hln2, ← hsle]
      ((try refine sx_use ?_); (repeat (refine SxNew.mk fun _ => ?_; (try refine sx_use ?_))))
      refine SxDone.mk fun w' hs => ⟨fun _ => ⟨ao, cap, ?_, ?_⟩, fun h => absurd hok h⟩
      · rw [← hln2]; rfl
      · rw [← hsle, ← hln2]; exact hs.newRow 3 rfl
    · have hbad : ¬ headOk s := fun hok => by
        have h3 := (hR.1 hok).2.2
        apply hq
        rw [← hsle, ← hln2] at h3
        show (⟨s.toArray⟩ : ByteArray).extract 0 (14 + 6 * sl.length) = _
        rw [hex, h3]
      ((try refine sx_use ?_); (repeat (refine SxNew.mk fun _ => ?_; (try refine sx_use ?_))))
      exact SxDone.mk fun w' hs => ⟨fun hok => absurd hok hbad, fun _ => ⟨rfl, hs.touch.below⟩⟩
end Go.Proofs.Ytdhdminocboipaa
