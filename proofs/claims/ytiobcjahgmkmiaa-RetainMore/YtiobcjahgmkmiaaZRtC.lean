/- The walks of layer 32: Date, Week, Month. -/
import Derived.Test.YtiobcjahgmkmiaaZRtB
namespace Go.Proofs.Ytiobcjahgmkmiaa
open Go.RowKit

def inDays (n : Int) : Prop := -719162 ≤ n ∧ n ≤ 2932896
set_option maxHeartbeats 1000000 in
theorem Date_in (y m d : Nat) (hD : IsD y m d) (w : World) : Calls Try.prog 10 #[.int .i64 (-719162 + (numD y m d : Nat))] w fun e w' => e = .returned (.tuple #[.int .i64 (y : Nat), .int .i64 (m : Nat), .int .i64 (d : Nat), .int .i64 0]) ∧ Below w.heap.size w w' := by
  have hlt := numD_lt hD
  have hY := numD_year hD
  have hM := numD_month hD
  have hy1 := hD.y1
  have hy2 := hD.y2
  have hm1 := hD.m1
  have hm2 := hD.m2
  obtain ⟨n, hn⟩ : ∃ n, n = numD y m d := ⟨_, rfl⟩
  rw [← hn] at hlt hY hM ⊢
  have hal := ahN_le (y + 1) (by omega)
  have hal2 := ahN_le y (by omega)
  refine sx_fn (S := SX) (M := []) (N := 49) (H0 := []) Try.func10 rfl rfl rfl (Sat.nil _ _) ?_
  ((try refine sx_use ?_); (repeat (refine SxNew.mk fun _ => ?_; (try refine sx_use ?_))))
  refine SxCode.loop (σ := Nat) [2] [18, 19, 20, 21, 22, 23, 24, 25, 26, 27, 28, 2] (fun k => [.int .i64 (k : Nat)]) (fun _ => []) (fun k => 1 ≤ k ∧ k ≤ y) (fun k => y - k) (n / 366 + 1) [] rfl (by rw [show (-719162 + ((n : Nat) : Int) - -719162) / 366 + 1 = ((n / 366 + 1 : Nat) : Int) by omega]; rfl) rfl rfl ⟨by omega, by omega⟩ ?_
  rintro k ⟨k1, k2⟩
  have hk1 := ahN_le (k + 1) (by omega)
  have hk3 : k < y → ahN (k + 1) ≤ ahN y := fun h => ahN_mono (by omega) (by omega)
  ((try refine sx_use ?_); (repeat (refine SxNew.mk fun _ => ?_; (try refine sx_use ?_))))
  refine SxIf.dec (fun h => ?_) (fun h => ?_)
  · ((try refine sx_use ?_); (repeat (refine SxNew.mk fun _ => ?_; (try refine sx_use ?_))))
    refine SxCall.quiet (ahead_any (k + 1) (by omega) (by omega)) ?_
    ((try refine sx_use ?_); (repeat (refine SxNew.mk fun _ => ?_; (try refine sx_use ?_))))
    refine SxIf.dec (fun h1 => ?_) (fun h1 => ?_)
    · have hky : k < y := by
        rcases Nat.lt_or_ge k y with h3 | h3
        · exact h3
        · obtain rfl : k = y := by omega
          omega
      ((try refine sx_use ?_); (repeat (refine SxNew.mk fun _ => ?_; (try refine sx_use ?_))))
      exact SxRound.mk (k + 1) [] rfl rfl rfl ⟨by omega, by omega⟩ (by omega)
    · obtain rfl : k = y := by
        rcases Nat.lt_or_ge k y with h3 | h3
        · have := hk3 h3; omega
        · omega
      ((try refine sx_use ?_); (repeat (refine SxNew.mk fun _ => ?_; (try refine sx_use ?_))))
      refine SxCall.quiet (ahead_any k (by omega) (by omega)) ?_
      ((try refine sx_use ?_); (repeat (refine SxNew.mk fun _ => ?_; (try refine sx_use ?_))))
      refine SxCode.loop (σ := Nat) [3, 6] [33, 34, 35, 36, 37, 38, 39, 40, 41, 42, 6, 43, 44, 3] (fun q => [.int .i64 (q : Nat), .int .i64 ((n : Nat) - (ahN k : Nat) - (moN k q : Nat))]) (fun _ => []) (fun q => 1 ≤ q ∧ q ≤ m) (fun q => m - q) 1 [] rfl (by rw [show ((n : Nat) : Int) - (ahN k : Nat) - (moN k 1 : Nat) = -719162 + ((n : Nat) : Int) - -719162 - (ahN k : Nat) by rw [moN_one]; omega]; rfl) rfl rfl ⟨Nat.le_refl _, hm1⟩ ?_
      rintro q ⟨q1, q2⟩
      have hq1 := moN_succ k q q1
      have hq2 : q < m → moN k (q + 1) ≤ moN k m := fun h => moN_mono h
      have hq3 := moN_mono (y := k) q2
      have hq4 := daysN_bd k q
      ((try refine sx_use ?_); (repeat (refine SxNew.mk fun _ => ?_; (try refine sx_use ?_))))
      refine SxCall.quiet (days_any k q (by omega)) ?_
      ((try refine sx_use ?_); (repeat (refine SxNew.mk fun _ => ?_; (try refine sx_use ?_))))
      refine SxIf.dec (fun h2 => ?_) (fun h2 => ?_)
      · have hqm : q < m := by
          rcases Nat.lt_or_ge q m with h3 | h3
          · exact h3
          · obtain rfl : q = m := by omega
            omega
        have hq5 := hq2 hqm
        ((try refine sx_use ?_); (repeat (refine SxNew.mk fun _ => ?_; (try refine sx_use ?_))))
        refine SxCall.quiet (days_any k q (by omega)) ?_
        ((try refine sx_use ?_); (repeat (refine SxNew.mk fun _ => ?_; (try refine sx_use ?_))))
        exact SxRound.mk (q + 1) [] (by rw [show ((n : Nat) : Int) - (ahN k : Nat) - (moN k (q + 1) : Nat) = ((n : Nat) : Int) - (ahN k : Nat) - (moN k q : Nat) - (daysN k q : Nat) by rw [hq1]; omega]; rfl) rfl rfl ⟨by omega, by omega⟩ (by omega)
      · obtain rfl : q = m := by
          rcases Nat.lt_or_ge q m with h3 | h3
          · have := hq2 h3; omega
          · omega
        ((try refine sx_use ?_); (repeat (refine SxNew.mk fun _ => ?_; (try refine sx_use ?_))))
        refine SxDone.mk fun w' hs => ⟨?_, hs.touch.below⟩
        rw [show ((d : Nat) : Int) = ((n : Nat) : Int) - (ahN k : Nat) - (moN k q : Nat) + 1 by omega]
        rfl
  · obtain rfl : k = y := by omega
    ((try refine sx_use ?_); (repeat (refine SxNew.mk fun _ => ?_; (try refine sx_use ?_))))
    refine SxCall.quiet (ahead_any k (by omega) (by omega)) ?_
    ((try refine sx_use ?_); (repeat (refine SxNew.mk fun _ => ?_; (try refine sx_use ?_))))
    refine SxCode.loop (σ := Nat) [3, 6] [33, 34, 35, 36, 37, 38, 39, 40, 41, 42, 6, 43, 44, 3] (fun q => [.int .i64 (q : Nat), .int .i64 ((n : Nat) - (ahN k : Nat) - (moN k q : Nat))]) (fun _ => []) (fun q => 1 ≤ q ∧ q ≤ m) (fun q => m - q) 1 [] rfl (by rw [show ((n : Nat) : Int) - (ahN k : Nat) - (moN k 1 : Nat) = -719162 + ((n : Nat) : Int) - -719162 - (ahN k : Nat) by rw [moN_one]; omega]; rfl) rfl rfl ⟨Nat.le_refl _, hm1⟩ ?_
    rintro q ⟨q1, q2⟩
    have hq1 := moN_succ k q q1
    have hq2 : q < m → moN k (q + 1) ≤ moN k m := fun h => moN_mono h
    have hq3 := moN_mono (y := k) q2
    have hq4 := daysN_bd k q
    ((try refine sx_use ?_); (repeat (refine SxNew.mk fun _ => ?_; (try refine sx_use ?_))))
    refine SxCall.quiet (days_any k q (by omega)) ?_
    ((try refine sx_use ?_); (repeat (refine SxNew.mk fun _ => ?_; (try refine sx_use ?_))))
    refine SxIf.dec (fun h2 => ?_) (fun h2 => ?_)
    · have hqm : q < m := by
        rcases Nat.lt_or_ge q m with h3 | h3
        · exact h3
        · obtain rfl : q = m := by omega
          omega
      have hq5 := hq2 hqm
      ((try refine sx_use ?_); (repeat (refine SxNew.mk fun _ => ?_; (try refine sx_use ?_))))
      refine SxCall.quiet (days_any k q (by omega)) ?_
      ((try refine sx_use ?_); (repeat (refine SxNew.mk fun _ => ?_; (try refine sx_use ?_))))
      exact SxRound.mk (q + 1) [] (by rw [show ((n : Nat) : Int) - (ahN k : Nat) - (moN k (q + 1) : Nat) = ((n : Nat) : Int) - (ahN k : Nat) - (moN k q : Nat) - (daysN k q : Nat) by rw [hq1]; omega]; rfl) rfl rfl ⟨by omega, by omega⟩ (by omega)
    · obtain rfl : q = m := by
        rcases Nat.lt_or_ge q m with h3 | h3
        · have := hq2 h3; omega
        · omega
      ((try refine sx_use ?_); (repeat (refine SxNew.mk fun _ => ?_; (try refine sx_use ?_))))
      refine SxDone.mk fun w' hs => ⟨?_, hs.touch.below⟩
      rw [show ((d : Nat) : Int) = ((n : Nat) : Int) - (ahN k : Nat) - (moN k q : Nat) + 1 by omega]
      rfl
theorem Date_out (n : Int) (h : ¬ inDays n) (w : World) : Calls Try.prog 10 #[.int .i64 n] w fun e w' => e = .returned (.tuple #[.int .i64 0, .int .i64 0, .int .i64 0, .int .i64 5]) ∧ Below w.heap.size w w' := by
  unfold inDays at h
  refine sx_fn (S := SX) (M := []) (N := 49) (H0 := []) Try.func10 rfl rfl rfl (Sat.nil _ _) ?_
  by_cases h1 : n < -719162
  · ((try refine sx_use ?_); (repeat (refine SxNew.mk fun _ => ?_; (try refine sx_use ?_))))
    exact SxDone.mk fun w' hs => ⟨rfl, hs.touch.below⟩
  · ((try refine sx_use ?_); (repeat (refine SxNew.mk fun _ => ?_; (try refine sx_use ?_))))
    exact SxDone.mk fun w' hs => ⟨rfl, hs.touch.below⟩
theorem down_any (n : Int) (h : -10000000 ≤ n ∧ n ≤ 10000000) (w : World) : Calls Try.prog 32 #[.int .i64 n, .int .i64 7] w fun e w' => e = .returned (.int .i64 (n / 7)) ∧ Below w.heap.size w w' := by
  obtain ⟨a, b⟩ := h
  refine sx_fn (S := SX) (M := []) (N := 16) (H0 := []) Try.func32 rfl rfl rfl (Sat.nil _ _) ?_
  have h1 : n.tdiv 7 = if n % 7 ≠ 0 ∧ n < 0 then n / 7 + 1 else n / 7 := by
    by_cases hn : 0 ≤ n
    · rw [Int.tdiv_eq_ediv_of_nonneg hn, if_neg (by omega)]
    · have := Int.mul_tdiv_add_tmod n 7
      have h2 := Int.tmod_lt_of_pos n (show (0 : Int) < 7 by omega)
      have h3 : n.tmod 7 ≤ 0 := by have := Int.neg_tmod (-n) 7; have := Int.tmod_nonneg 7 (show 0 ≤ -n by omega); rw [Int.neg_neg] at *; omega
      have h4 : -7 < n.tmod 7 := by have := Int.neg_tmod (-n) 7; have := Int.tmod_lt_of_pos (-n) (show (0 : Int) < 7 by omega); rw [Int.neg_neg] at *; omega
      split <;> omega
  have h5 : n.tmod 7 = n - 7 * n.tdiv 7 := by have := Int.mul_tdiv_add_tmod n 7; omega
  ((try refine sx_use ?_); (repeat (refine SxNew.mk fun _ => ?_; (try refine sx_use ?_))))
  refine SxQ.mk (n.tdiv 7) rfl ?_
  ((try refine sx_use ?_); (repeat (refine SxNew.mk fun _ => ?_; (try refine sx_use ?_))))
  refine SxQ.mk (n.tmod 7) rfl ?_
  ((try refine sx_use ?_); (repeat (refine SxNew.mk fun _ => ?_; (try refine sx_use ?_))))
  refine SxIf.dec (fun h6 => ?_) (fun h6 => ?_)
  · rw [h5, h1] at h6
    have h7 : n % 7 ≠ 0 ∧ n < 0 := by
      rcases Classical.em (n % 7 ≠ 0 ∧ n < 0) with h8 | h8
      · exact h8
      · rw [if_neg h8] at h6; omega
    rw [h1, if_pos h7]
    ((try refine sx_use ?_); (repeat (refine SxNew.mk fun _ => ?_; (try refine sx_use ?_))))
    refine SxDone.mk fun w' hs => ⟨?_, hs.touch.below⟩
    show Ending.returned (.int .i64 (n / 7 + 1 - 1)) = _
    congr 2
    omega
  · rw [h5, h1] at h6
    have h7 : ¬ (n % 7 ≠ 0 ∧ n < 0) := fun h8 => by rw [if_pos h8] at h6; omega
    rw [h1, if_neg h7]
    ((try refine sx_use ?_); (repeat (refine SxNew.mk fun _ => ?_; (try refine sx_use ?_))))
    exact SxDone.mk fun w' hs => ⟨rfl, hs.touch.below⟩
def weekN (n : Nat) : Int := (n : Nat) / 7 - 102738
theorem Week_in (n : Nat) (hn : n < 3652059) (w : World) : Calls Try.prog 12 #[.int .i64 (-719162 + (n : Nat))] w fun e w' => e = .returned (.tuple #[.int .i64 (weekN n), .int .i64 0]) ∧ Below w.heap.size w w' := by
  refine sx_fn (S := SX) (M := []) (N := 16) (H0 := []) Try.func12 rfl rfl rfl (Sat.nil _ _) ?_
  ((try refine sx_use ?_); (repeat (refine SxNew.mk fun _ => ?_; (try refine sx_use ?_))))
  refine SxCall.quiet (down_any _ ⟨by omega, by omega⟩) ?_
  ((try refine sx_use ?_); (repeat (refine SxNew.mk fun _ => ?_; (try refine sx_use ?_))))
  refine SxCall.quiet (down_any _ ⟨by omega, by omega⟩) ?_
  ((try refine sx_use ?_); (repeat (refine SxNew.mk fun _ => ?_; (try refine sx_use ?_))))
  refine SxDone.mk fun w' hs => ⟨?_, hs.touch.below⟩
  unfold weekN
  rw [show ((n : Nat) : Int) / 7 - 102738 = ((-719162 + ((n : Nat) : Int) - 4) / 7 * 7 + 4) / 7 by omega]
  rfl
theorem Week_out (n : Int) (h : ¬ inDays n) (w : World) : Calls Try.prog 12 #[.int .i64 n] w fun e w' => e = .returned (.tuple #[.int .i64 0, .int .i64 5]) ∧ Below w.heap.size w w' := by
  unfold inDays at h
  refine sx_fn (S := SX) (M := []) (N := 16) (H0 := []) Try.func12 rfl rfl rfl (Sat.nil _ _) ?_
  by_cases h1 : n < -719162
  · ((try refine sx_use ?_); (repeat (refine SxNew.mk fun _ => ?_; (try refine sx_use ?_))))
    exact SxDone.mk fun w' hs => ⟨rfl, hs.touch.below⟩
  · ((try refine sx_use ?_); (repeat (refine SxNew.mk fun _ => ?_; (try refine sx_use ?_))))
    exact SxDone.mk fun w' hs => ⟨rfl, hs.touch.below⟩
theorem Month_in (y m d : Nat) (hD : IsD y m d) (w : World) : Calls Try.prog 13 #[.int .i64 (-719162 + (numD y m d : Nat))] w fun e w' => e = .returned (.tuple #[.int .i64 (12 * (y : Nat) + (m : Nat) - 1), .int .i64 0]) ∧ Below w.heap.size w w' := by
  have hy1 := hD.y1
  have hy2 := hD.y2
  have hm1 := hD.m1
  have hm2 := hD.m2
  refine sx_fn (S := SX) (M := []) (N := 23) (H0 := []) Try.func13 rfl rfl rfl (Sat.nil _ _) ?_
  ((try refine sx_use ?_); (repeat (refine SxNew.mk fun _ => ?_; (try refine sx_use ?_))))
  refine SxCall.quiet (Date_in y m d hD) ?_
  ((try refine sx_use ?_); (repeat (refine SxNew.mk fun _ => ?_; (try refine sx_use ?_))))
  exact SxDone.mk fun w' hs => ⟨rfl, hs.touch.below⟩
theorem Month_out (n : Int) (h : ¬ inDays n) (w : World) : Calls Try.prog 13 #[.int .i64 n] w fun e w' => e = .returned (.tuple #[.int .i64 0, .int .i64 5]) ∧ Below w.heap.size w w' := by
  refine sx_fn (S := SX) (M := []) (N := 23) (H0 := []) Try.func13 rfl rfl rfl (Sat.nil _ _) ?_
  ((try refine sx_use ?_); (repeat (refine SxNew.mk fun _ => ?_; (try refine sx_use ?_))))
  refine SxCall.quiet (Date_out n h) ?_
  ((try refine sx_use ?_); (repeat (refine SxNew.mk fun _ => ?_; (try refine sx_use ?_))))
  exact SxDone.mk fun w' hs => ⟨rfl, hs.touch.below⟩
end Go.Proofs.Ytiobcjahgmkmiaa
