/- The walk: box.Head. -/
import Derived.Test.YtdhdminocboipaaZBoxH
namespace Go.Proofs.Ytdhdminocboipaa
open Go.RowKit

def sliceN (s : List UInt8) (a k : Nat) : Nat := leV ((s.drop a).take k)
def slotP (s : List UInt8) (j : Nat) : Int × Int := ((sliceN s (10 + 6 * j) 2 : Nat), (sliceN s (12 + 6 * j) 4 : Nat))
def cntP (s : List UInt8) : Nat := sliceN s 8 2
def idN (s : List UInt8) : Int := (sliceN s 4 4 : Nat)
def slP (s : List UInt8) (n : Nat) : List (Int × Int) := tab n (slotP s)
def magicL : List UInt8 := [83, 66, 79, 88]
/-- Have bytes a right head? -/
def headOk (s : List UInt8) : Prop := 14 + 6 * cntP s ≤ s.length ∧ s.take 4 = magicL ∧ sizeV (idN s) (slP s (cntP s)) = s.length ∧ crcI (s.take (10 + 6 * cntP s)) = (sliceN s (10 + 6 * cntP s) 4 : Nat)
theorem takeR_drop (s : List UInt8) (a k : Nat) (h : a + k ≤ s.length) : takeR k (s.drop a) 0 = ((s.drop a).take k, s.drop (a + k), 0) := by
  unfold takeR
  rw [if_neg (by simp), if_neg (by rw [List.length_drop]; omega), List.drop_drop]
theorem takeR_short (s : List UInt8) (a k : Nat) (h : s.length < a + k) (h2 : a ≤ s.length) : takeR k (s.drop a) 0 = ([], [], 10) := by
  unfold takeR
  rw [if_neg (by simp), if_pos (by rw [List.length_drop]; omega)]
theorem takeR_err (l : List UInt8) (e : Int) (k : Nat) (h : e ≠ 0) : takeR k l e = ([], l, e) := by unfold takeR; rw [if_pos h]
theorem sliceN_lt2 (s : List UInt8) (a : Nat) : sliceN s a 2 < 65536 := by
  have h := leV_lt ((s.drop a).take 2)
  have : 2 ^ (8 * ((s.drop a).take 2).length) ≤ 2 ^ 16 := Nat.pow_le_pow_right (by omega) (by rw [List.length_take]; omega)
  simp only [Nat.reducePow] at this
  unfold sliceN
  omega
theorem sliceN_lt4 (s : List UInt8) (a : Nat) : sliceN s a 4 < 4294967296 := by
  have h := leV_lt ((s.drop a).take 4)
  have : 2 ^ (8 * ((s.drop a).take 4).length) ≤ 2 ^ 32 := Nat.pow_le_pow_right (by omega) (by rw [List.length_take]; omega)
  simp only [Nat.reducePow] at this
  unfold sliceN
  omega
/-- The three first reads. -/
def rd1 (s : List UInt8) := takeR 4 s 0
def rd2 (s : List UInt8) := takeR 4 (rd1 s).2.1 (rd1 s).2.2
def rd3 (s : List UInt8) := takeR 2 (rd2 s).2.1 (rd2 s).2.2
theorem rd_long (s : List UInt8) (h : 10 ≤ s.length) : (rd1 s).1 = s.take 4 ∧ leV (rd2 s).1 = sliceN s 4 4 ∧ leV (rd3 s).1 = cntP s ∧ (rd3 s).2.1 = s.drop 10 ∧ (rd3 s).2.2 = 0 := by
  have h1 : rd1 s = (s.take 4, s.drop 4, 0) := by have := takeR_drop s 0 4 (by omega); simpa [rd1] using this
  have h2 : rd2 s = ((s.drop 4).take 4, s.drop 8, 0) := by unfold rd2; rw [h1]; exact takeR_drop s 4 4 (by omega)
  have h3 : rd3 s = ((s.drop 8).take 2, s.drop 10, 0) := by unfold rd3; rw [h2]; exact takeR_drop s 8 2 (by omega)
  rw [h1, h2, h3]
  exact ⟨rfl, rfl, rfl, rfl, rfl⟩
theorem rd_short (s : List UInt8) (h : s.length < 10) : leV (rd3 s).1 = 0 ∧ (rd3 s).2.2 ≠ 0 := by
  by_cases h4 : 4 ≤ s.length
  · have h1 : rd1 s = (s.take 4, s.drop 4, 0) := by have := takeR_drop s 0 4 (by omega); simpa [rd1] using this
    by_cases h8 : 8 ≤ s.length
    · have h2 : rd2 s = ((s.drop 4).take 4, s.drop 8, 0) := by unfold rd2; rw [h1]; exact takeR_drop s 4 4 (by omega)
      have h3 : rd3 s = ([], [], 10) := by unfold rd3; rw [h2]; exact takeR_short s 8 2 (by omega) (by omega)
      rw [h3]; exact ⟨rfl, by simp⟩
    · have h2 : rd2 s = ([], [], 10) := by unfold rd2; rw [h1]; exact takeR_short s 4 4 (by omega) (by omega)
      have h3 : rd3 s = ([], [], 10) := by unfold rd3; rw [h2]; exact takeR_err _ _ _ (by simp)
      rw [h3]; exact ⟨rfl, by simp⟩
  · have h1 : rd1 s = ([], [], 10) := by have := takeR_short s 0 4 (by omega) (by omega); simpa [rd1] using this
    have h2 : rd2 s = ([], [], 10) := by unfold rd2; rw [h1]; exact takeR_err _ _ _ (by simp)
    have h3 : rd3 s = ([], [], 10) := by unfold rd3; rw [h2]; exact takeR_err _ _ _ (by simp)
    rw [h3]; exact ⟨rfl, by simp⟩
theorem slP_snoc (s : List UInt8) (k : Nat) : slP s (k + 1) = slP s k ++ [slotP s k] := by simp [slP, tab, List.range_succ]
theorem slP_len (s : List UInt8) (n : Nat) : (slP s n).length = n := tab_length _ _
theorem round_rd (s : List UInt8) (k : Nat) (h : 10 + 6 * k ≤ s.length) :
    (16 + 6 * k ≤ s.length → ((leV (takeR 2 (s.drop (10 + 6 * k)) 0).1 : Int), (leV (takeR 4 (takeR 2 (s.drop (10 + 6 * k)) 0).2.1 (takeR 2 (s.drop (10 + 6 * k)) 0).2.2).1 : Int)) = slotP s k ∧ (takeR 4 (takeR 2 (s.drop (10 + 6 * k)) 0).2.1 (takeR 2 (s.drop (10 + 6 * k)) 0).2.2).2 = (s.drop (10 + 6 * (k + 1)), 0)) ∧
    (s.length < 16 + 6 * k → (takeR 4 (takeR 2 (s.drop (10 + 6 * k)) 0).2.1 (takeR 2 (s.drop (10 + 6 * k)) 0).2.2).2.2 ≠ 0) := by
  constructor
  · intro h2
    rw [takeR_drop s (10 + 6 * k) 2 (by omega)]
    dsimp only
    rw [takeR_drop s (10 + 6 * k + 2) 4 (by omega)]
    refine ⟨?_, by rw [show 10 + 6 * k + 2 + 4 = 10 + 6 * (k + 1) by omega]⟩
    unfold slotP sliceN
    rw [show 10 + 6 * k + 2 = 12 + 6 * k by omega]
  · intro h2
    by_cases h3 : 12 + 6 * k ≤ s.length
    · rw [takeR_drop s (10 + 6 * k) 2 (by omega)]
      dsimp only
      rw [takeR_short s (10 + 6 * k + 2) 4 (by omega) (by omega)]
      simp
    · rw [takeR_short s (10 + 6 * k) 2 (by omega) (by omega)]
      dsimp only
      rw [takeR_err _ _ _ (by simp)]
      simp
/-- How far the loop over slots has come. -/
def hdSt (s : List UInt8) (n : Nat) (x : List (Int × Int) × List UInt8 × Int × Option Addr × Nat) : Prop :=
  x.1.length ≤ n ∧ (x.2.2.1 = 0 → 10 + 6 * x.1.length ≤ s.length ∧ n = cntP s ∧ x.2.1 = s.drop (10 + 6 * x.1.length) ∧ x.1 = slP s x.1.length) ∧ (x.2.2.1 ≠ 0 → ¬ 14 + 6 * cntP s ≤ s.length)
set_option maxHeartbeats 2000000 in
theorem BHead_any (s : List UInt8) (hs : s.length ≤ 1000000) (w : World) :
    Calls Try.prog 19 #[txV s] w fun e w' => (headOk s → ∃ ao cap, e = .returned (.tuple #[hdV (idN s) ao (cntP s) cap, .int .i64 0]) ∧ NewRow w w' ao (cntP s) cap 70 2 ((slP s (cntP s)).flatMap encS)) ∧ (¬ headOk s → e = .returned (.tuple #[hdV 0 none 0 0, .int .i64 110]) ∧ Below w.heap.size w w') := by
  refine sx_fn (S := SX) (M := []) (N := 72) (H0 := [.row none 0 0 70 2 []]) Try.func19 rfl rfl rfl ((Sat.nil _ _).nilRow 70 2) ?_
  ((try refine sx_use ?_); (repeat (refine SxNew.mk fun _ => ?_; (try refine sx_use ?_))))
  rename_i b2
  refine SxCall.mk fun w hs => (Read_sat hs ⟨s.toArray⟩).mono ?_
  rintro e w' ⟨g, rfl, hs'⟩
  refine ⟨_, [rdE g s 0, .blk b2 36 [.int .u32 0, .slice none 0 0], .row none 0 0 70 2 []], rfl, hs', ?_⟩
  clear hs' hs w'
  ((try refine sx_use ?_); (repeat (refine SxNew.mk fun _ => ?_; (try refine sx_use ?_))))
  refine SxCall.mk fun w hs => (Take_sat hs 0 g s 0 rfl 4 (by decide)).mono ?_
  rintro e w' ⟨rfl, hs'⟩
  refine ⟨_, [rdE g (rd1 s).2.1 (rd1 s).2.2, .blk b2 36 [.int .u32 0, .slice none 0 0], .row none 0 0 70 2 []], rfl, hs', ?_⟩
  clear hs' hs w'
  ((try refine sx_use ?_); (repeat (refine SxNew.mk fun _ => ?_; (try refine sx_use ?_))))
  refine SxCall.mk fun w hs => (U32_sat hs 0 g _ _ rfl).mono ?_
  rintro e w' ⟨rfl, hs'⟩
  refine ⟨_, [rdE g (rd2 s).2.1 (rd2 s).2.2, .blk b2 36 [.int .u32 0, .slice none 0 0], .row none 0 0 70 2 []], rfl, hs', ?_⟩
  clear hs' hs w'
  ((try refine sx_use ?_); (repeat (refine SxNew.mk fun _ => ?_; (try refine sx_use ?_))))
  rename_i b
  refine SxCall.mk fun w hs => (U16_sat hs 1 g _ _ rfl).mono ?_
  rintro e w' ⟨rfl, hs'⟩
  refine ⟨_, [.blk b 36 [.int .u32 (leV (rd2 s).1 : Nat), .slice none 0 0], rdE g (rd3 s).2.1 (rd3 s).2.2, .blk b2 36 [.int .u32 0, .slice none 0 0], .row none 0 0 70 2 []], rfl, hs', ?_⟩
  clear hs' hs w'
  ((try refine sx_use ?_); (repeat (refine SxNew.mk fun _ => ?_; (try refine sx_use ?_))))
  have hn := leV_take2 (rd2 s).2.1 (rd2 s).2.2
  refine SxRng.i64 (by omega) (by omega) ?_
  ((try refine sx_use ?_); (repeat (refine SxNew.mk fun _ => ?_; (try refine sx_use ?_))))
  have hst0 : hdSt s (leV (rd3 s).1) ([], (rd3 s).2.1, (rd3 s).2.2, none, 0) := by
    by_cases h10 : 10 ≤ s.length
    · obtain ⟨h1, h2, h3, h4, h5⟩ := rd_long s h10
      exact ⟨Nat.zero_le _, fun _ => ⟨by simpa using h10, h3, by simpa using h4, rfl⟩, fun h => absurd h5 h⟩
    · obtain ⟨h1, h2⟩ := rd_short s (by omega)
      exact ⟨Nat.zero_le _, fun h => absurd h h2, fun _ => by omega⟩
  obtain ⟨n, hnn⟩ : ∃ n, n = leV (rd3 s).1 := ⟨_, rfl⟩
  have hn2 : n < 65536 := by rw [hnn]; exact hn
  refine SxCode.loop (σ := List (Int × Int) × List UInt8 × Int × Option Addr × Nat) [8] [22, 23, 24, 25, 26, 27, 28, 29, 32, 33, 34, 9, 35, 36, 37, 38, 39, 40, 41, 42, 43, 30, 31, 8] (fun x => [.int .i64 (x.1.length : Nat)]) (fun x => [.blk b 36 [.int .u32 (leV (rd2 s).1 : Nat), .slice x.2.2.2.1 x.1.length x.2.2.2.2], rdE g x.2.1 x.2.2.1, .blk b2 36 [.int .u32 0, .slice none 0 0], .row x.2.2.2.1 x.1.length x.2.2.2.2 70 2 (x.1.flatMap encS)]) (hdSt s n) (fun x => n - x.1.length) ([], (rd3 s).2.1, (rd3 s).2.2, none, 0) [0, 1, 2, 3] rfl rfl rfl rfl (hnn ▸ hst0) ?_
  rintro ⟨sl, l, e, ao, cap⟩ ⟨hx1, hx2, hx3⟩
  dsimp only at hx1 hx2 hx3 ⊢
  have hnn2 : leV (takeR 2 (rd2 s).2.1 (rd2 s).2.2).1 = n := hnn.symm
  rw [hnn2]
  ((try refine sx_use ?_); (repeat (refine SxNew.mk fun _ => ?_; (try refine sx_use ?_))))
  refine SxIf.dec (fun h => ?_) (fun h => ?_)
  · ((try refine sx_use ?_); (repeat (refine SxNew.mk fun _ => ?_; (try refine sx_use ?_))))
    refine SxCall.mk fun w hs => (Err_sat hs 1 g l e rfl).mono ?_
    rintro en w' ⟨rfl, hs'⟩
    refine ⟨_, _, rfl, hs', ?_⟩
    clear hs' hs w'
    ((try refine sx_use ?_); (repeat (refine SxNew.mk fun _ => ?_; (try refine sx_use ?_))))
    refine SxIf.eq (fun he => ?_) (fun he => ?_)
    · subst he
      obtain ⟨hy1, hy2, hy3, hy4⟩ := hx2 rfl
      subst hy3
      have hround := round_rd s sl.length hy1
      ((try refine sx_use ?_); (repeat (refine SxNew.mk fun _ => ?_; (try refine sx_use ?_))))
      refine SxCall.mk fun w hs => (U16_sat hs 1 g _ _ rfl).mono ?_
      rintro en w' ⟨rfl, hs'⟩
      refine ⟨_, [.blk b 36 [.int .u32 (leV (rd2 s).1 : Nat), .slice ao sl.length cap], rdE g (takeR 2 (s.drop (10 + 6 * sl.length)) 0).2.1 (takeR 2 (s.drop (10 + 6 * sl.length)) 0).2.2, .blk b2 36 [.int .u32 0, .slice none 0 0], .row ao sl.length cap 70 2 (sl.flatMap encS)], rfl, hs', ?_⟩
      clear hs' hs w'
      have hl2 := leV_take2 (s.drop (10 + 6 * sl.length)) 0
      ((try refine sx_use ?_); (repeat (refine SxNew.mk fun _ => ?_; (try refine sx_use ?_))))
      refine SxCode.draw rfl [.blk b 36 [.int .u32 (leV (rd2 s).1 : Nat), .slice ao sl.length cap]] [9] [0] rfl rfl ?_
      ((try refine sx_use ?_); (repeat (refine SxNew.mk fun _ => ?_; (try refine sx_use ?_))))
      refine SxCall.mk fun w hs => (U32_sat hs 1 g _ _ rfl).mono ?_
      rintro en w' ⟨rfl, hs'⟩
      refine ⟨_, [.blk b 36 [.int .u32 (leV (rd2 s).1 : Nat), .slice ao sl.length cap], rdE g (takeR 4 (takeR 2 (s.drop (10 + 6 * sl.length)) 0).2.1 (takeR 2 (s.drop (10 + 6 * sl.length)) 0).2.2).2.1 (takeR 4 (takeR 2 (s.drop (10 + 6 * sl.length)) 0).2.1 (takeR 2 (s.drop (10 + 6 * sl.length)) 0).2.2).2.2, .blk b2 36 [.int .u32 0, .slice none 0 0], .row ao sl.length cap 70 2 (sl.flatMap encS)], rfl, hs', ?_⟩
      clear hs' hs w'
      ((try refine sx_use ?_); (repeat (refine SxNew.mk fun _ => ?_; (try refine sx_use ?_))))
      refine SxApp.mk 4 rfl 0 (.inr (.inr (.inr ⟨by decide, _, rfl⟩))) rfl rfl (by unfold maxLen; omega) (by omega) (cs' := (sl ++ [((leV (takeR 2 (s.drop (10 + 6 * sl.length)) 0).1 : Int), (leV (takeR 4 (takeR 2 (s.drop (10 + 6 * sl.length)) 0).2.1 (takeR 2 (s.drop (10 + 6 * sl.length)) 0).2.2).1 : Int))]).flatMap encS) (by rw [List.flatMap_append]; rfl) fun ao' cap' => ?_
      ((try refine sx_use ?_); (repeat (refine SxNew.mk fun _ => ?_; (try refine sx_use ?_))))
      refine SxRound.mk (sl ++ [((leV (takeR 2 (s.drop (10 + 6 * sl.length)) 0).1 : Int), (leV (takeR 4 (takeR 2 (s.drop (10 + 6 * sl.length)) 0).2.1 (takeR 2 (s.drop (10 + 6 * sl.length)) 0).2.2).1 : Int))], (takeR 4 (takeR 2 (s.drop (10 + 6 * sl.length)) 0).2.1 (takeR 2 (s.drop (10 + 6 * sl.length)) 0).2.2).2.1, (takeR 4 (takeR 2 (s.drop (10 + 6 * sl.length)) 0).2.1 (takeR 2 (s.drop (10 + 6 * sl.length)) 0).2.2).2.2, ao', cap') [1, 2, 3, 4] (by simp only [List.length_append, List.length_singleton]; rfl) (by simp only [List.length_append, List.length_singleton]; rfl) rfl ?_ (by simp; omega)
      have hlen1 : (sl ++ [((leV (takeR 2 (s.drop (10 + 6 * sl.length)) 0).1 : Int), (leV (takeR 4 (takeR 2 (s.drop (10 + 6 * sl.length)) 0).2.1 (takeR 2 (s.drop (10 + 6 * sl.length)) 0).2.2).1 : Int))]).length = sl.length + 1 := by simp
      refine ⟨by dsimp only; omega, ?_, ?_⟩
      · dsimp only
        intro he
        have h16 : 16 + 6 * sl.length ≤ s.length := by
          rcases Nat.lt_or_ge s.length (16 + 6 * sl.length) with h2 | h2
          · exact absurd he (hround.2 h2)
          · exact h2
        obtain ⟨ha, hb⟩ := hround.1 h16
        rw [hlen1, hb, ha, slP_snoc, ← hy4]
        exact ⟨by omega, hy2, rfl, rfl⟩
      · dsimp only
        intro he
        have h16 : s.length < 16 + 6 * sl.length := by
          rcases Nat.lt_or_ge s.length (16 + 6 * sl.length) with h2 | h2
          · exact h2
          · exact absurd (congrArg Prod.snd (hround.1 h2).2) he
        omega
    · have hbad : ¬ headOk s := fun hok => hx3 he hok.1
      have hr2 : (takeR 4 l e).2.2 ≠ 0 := by rw [takeR_err l e 4 he]; exact he
      ((try refine sx_use ?_); (repeat (refine SxNew.mk fun _ => ?_; (try refine sx_use ?_))))
      refine SxCall.mk fun w hs => (U32_sat hs 1 g l e rfl).mono ?_
      rintro en w' ⟨rfl, hs'⟩
      refine ⟨_, [.blk b 36 [.int .u32 (leV (rd2 s).1 : Nat), .slice ao sl.length cap], rdE g (takeR 4 l e).2.1 (takeR 4 l e).2.2, .blk b2 36 [.int .u32 0, .slice none 0 0], .row ao sl.length cap 70 2 (sl.flatMap encS)], rfl, hs', ?_⟩
      clear hs' hs w'
      ((try refine sx_use ?_); (repeat (refine SxNew.mk fun _ => ?_; (try refine sx_use ?_))))
      refine SxIf.nt (SxIf.str (fun hmg => ?_) (fun hmg => ?_))
      · ((try refine sx_use ?_); (repeat (refine SxNew.mk fun _ => ?_; (try refine sx_use ?_))))
        refine SxCall.mk fun w hs => (Err_sat hs 1 g _ _ rfl).mono ?_
        rintro en w' ⟨rfl, hs'⟩
        refine ⟨_, _, rfl, hs', ?_⟩
        clear hs' hs w'
        ((try refine sx_use ?_); (repeat (refine SxNew.mk fun _ => ?_; (try refine sx_use ?_))))
        exact SxDone.mk fun w' hs => ⟨fun hok => absurd hok hbad, fun _ => ⟨rfl, hs.touch.below⟩⟩
      · ((try refine sx_use ?_); (repeat (refine SxNew.mk fun _ => ?_; (try refine sx_use ?_))))
        exact SxDone.mk fun w' hs => ⟨fun hok => absurd hok hbad, fun _ => ⟨rfl, hs.touch.below⟩⟩
  · ((try refine sx_use ?_); (repeat (refine SxNew.mk fun _ => ?_; (try refine sx_use ?_))))
    refine SxCall.mk fun w hs => (U32_sat hs 1 g l e rfl).mono ?_
    rintro en w' ⟨rfl, hs'⟩
    refine ⟨_, [.blk b 36 [.int .u32 (leV (rd2 s).1 : Nat), .slice ao sl.length cap], rdE g (takeR 4 l e).2.1 (takeR 4 l e).2.2, .blk b2 36 [.int .u32 0, .slice none 0 0], .row ao sl.length cap 70 2 (sl.flatMap encS)], rfl, hs', ?_⟩
    clear hs' hs w'
    ((try refine sx_use ?_); (repeat (refine SxNew.mk fun _ => ?_; (try refine sx_use ?_))))
    refine SxIf.nt (SxIf.str (fun hmg => ?_) (fun hmg => ?_))
    · ((try refine sx_use ?_); (repeat (refine SxNew.mk fun _ => ?_; (try refine sx_use ?_))))
      refine SxCall.mk fun w hs => (Err_sat hs 1 g _ _ rfl).mono ?_
      rintro en w' ⟨rfl, hs'⟩
      refine ⟨_, _, rfl, hs', ?_⟩
      clear hs' hs w'
      ((try refine sx_use ?_); (repeat (refine SxNew.mk fun _ => ?_; (try refine sx_use ?_))))
      refine SxIf.ne (fun he => ?_) (fun he => ?_)
      · have hbad : ¬ headOk s := fun hok => by
          by_cases he0 : e = 0
          · obtain ⟨hy1, hy2, hy3, hy4⟩ := hx2 he0
            subst he0
            apply he
            rw [hy3, takeR_drop s (10 + 6 * sl.length) 4 (by have := hok.1; omega)]
          · exact hx3 he0 hok.1
        ((try refine sx_use ?_); (repeat (refine SxNew.mk fun _ => ?_; (try refine sx_use ?_))))
        exact SxDone.mk fun w' hs => ⟨fun hok => absurd hok hbad, fun _ => ⟨rfl, hs.touch.below⟩⟩
      · have he0 : e = 0 := by
          by_cases he0 : e = 0
          · exact he0
          · rw [takeR_err l e 4 he0] at he; exact absurd he he0
        obtain ⟨hy1, hy2, hy3, hy4⟩ := hx2 he0
        subst he0
        have hsl : sl.length = cntP s := by omega
        have h14 : 14 + 6 * cntP s ≤ s.length := by
          rcases Nat.lt_or_ge s.length (14 + 6 * cntP s) with h2 | h2
          · rw [hy3, takeR_short s (10 + 6 * sl.length) 4 (by omega) (by omega)] at he
            cases he
          · exact h2
        obtain ⟨q1, q2, q3, q4, q5⟩ := rd_long s (by omega)
        have hid : ((leV (rd2 s).1 : Nat) : Int) = idN s := by rw [q2]; rfl
        rw [hid]
        ((try refine sx_use ?_); (repeat (refine SxNew.mk fun _ => ?_; (try refine sx_use ?_))))
        refine SxCall.quietS (fun w hs => BSize_any (idN s) sl ao cap w (hs.rowRd 3 rfl (by rw [flat_len encS 2 (fun _ => rfl)]; unfold maxLen; omega)) (by omega)) ?_
        ((try refine sx_use ?_); (repeat (refine SxNew.mk fun _ => ?_; (try refine sx_use ?_))))
        have hsle : sl = slP s (cntP s) := by rw [← hsl]; exact hy4
        refine SxIf.ne (fun hz => ?_) (fun hz => ?_)
        · have hbad : ¬ headOk s := fun hok => hz (by rw [hsle]; exact hok.2.2.1)
          ((try refine sx_use ?_); (repeat (refine SxNew.mk fun _ => ?_; (try refine sx_use ?_))))
          exact SxDone.mk fun w' hs => ⟨fun hok => absurd hok hbad, fun _ => ⟨rfl, hs.touch.below⟩⟩
        · ((try refine sx_use ?_); (repeat (refine SxNew.mk fun _ => ?_; (try refine sx_use ?_))))
          refine SxCall.quiet (front_any n (by omega)) ?_
          ((try refine sx_use ?_); (repeat (refine SxNew.mk fun _ => ?_; (try refine sx_use ?_))))
          obtain ⟨hy0, hy5, hy6⟩ : n = cntP s ∧ l = s.drop (10 + 6 * n) ∧ 14 + 6 * n ≤ s.length := ⟨hy2, by rw [hy3, hsl, hy2], by rw [hy2]; exact h14⟩
          refine SxBnd.mk 0 (10 + 6 * n) rfl (by omega) (Nat.zero_le _) (by rw [mk_size]; omega) ?_
          ((try refine sx_use ?_); (repeat (refine SxNew.mk fun _ => ?_; (try refine sx_use ?_))))
          have hex : (⟨s.toArray⟩ : ByteArray).extract 0 (10 + 6 * n) = ⟨(s.take (10 + 6 * n)).toArray⟩ := by rw [mk_extract]; simp
          refine SxCall.pure (v := .int .u32 (crcI (s.take (10 + 6 * n)))) (fun w => by rw [show (Value.string ((⟨s.toArray⟩ : ByteArray).extract 0 (10 + 6 * n))) = txV (s.take (10 + 6 * n)) from by rw [hex]; rfl]; exact bsum_any _ (by rw [List.length_take]; omega) w) ?_
          ((try refine sx_use ?_); (repeat (refine SxNew.mk fun _ => ?_; (try refine sx_use ?_))))
          have hlv : leV (takeR 4 l 0).1 = sliceN s (10 + 6 * n) 4 := by
            rw [hy5, takeR_drop s (10 + 6 * n) 4 (by omega)]; rfl
          refine SxIf.ne (fun hc => ?_) (fun hc => ?_)
          · have hbad : ¬ headOk s := fun hok => hc (by rw [hlv, hy0]; exact hok.2.2.2)
            ((try refine sx_use ?_); (repeat (refine SxNew.mk fun _ => ?_; (try refine sx_use ?_))))
            exact SxDone.mk fun w' hs => ⟨fun hok => absurd hok hbad, fun _ => ⟨rfl, hs.touch.below⟩⟩
          · have hok : headOk s := by
              refine ⟨h14, ?_, by rw [← hsle]; exact hz, by rw [← hy0, ← hlv]; exact hc⟩
              have h2 := mk_inj (a := (rd1 s).1) (b := magicL) hmg
              rw [q1] at h2; exact h2
            ((try refine sx_use ?_); (repeat (refine SxNew.mk fun _ => ?_; (try refine sx_use ?_))))
            refine SxDone.mk fun w' hs => ⟨fun _ => ⟨ao, cap, ?_, ?_⟩, fun h => absurd hok h⟩
            · rw [← hsl]; rfl
            · rw [← hsle, ← hsl]; exact hs.newRow 3 rfl
    · have hbad : ¬ headOk s := fun hok => by
        have h10 : 10 ≤ s.length := by have := hok.1; omega
        exact hmg (by show (⟨(rd1 s).1.toArray⟩ : ByteArray) = _; rw [(rd_long s h10).1, hok.2.1]; rfl)
      ((try refine sx_use ?_); (repeat (refine SxNew.mk fun _ => ?_; (try refine sx_use ?_))))
      exact SxDone.mk fun w' hs => ⟨fun hok => absurd hok hbad, fun _ => ⟨rfl, hs.touch.below⟩⟩
end Go.Proofs.Ytdhdminocboipaa
