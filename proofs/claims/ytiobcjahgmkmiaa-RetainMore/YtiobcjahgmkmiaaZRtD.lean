/- The walks of layer 32: the document's calendar. -/
import Derived.Test.YtiobcjahgmkmiaaZRtC
namespace Go.Proofs.Ytiobcjahgmkmiaa
open Go.RowKit

theorem Rsize_any (y m : Nat) (h : y ≤ 1000000) (h1 : 1 ≤ m) (h2 : m ≤ 12) (w : World) : Calls Try.prog 30 #[.int .i64 (y : Nat), .int .i64 (m : Nat)] w fun e w' => e = .returned (.int .i64 (daysN y m : Nat)) ∧ Below w.heap.size w w' := by
  refine sx_fn (S := SX) (M := []) (N := 16) (H0 := []) Try.func30 rfl rfl rfl (Sat.nil _ _) ?_
  by_cases hm : m = 2
  · subst hm
    ((try refine sx_use ?_); (repeat (refine SxNew.mk fun _ => ?_; (try refine sx_use ?_))))
    refine SxCall.quiet (Rleap_any y h) ?_
    unfold daysN
    rw [if_pos rfl]
    cases hl : leapN y
    · ((try refine sx_use ?_); (repeat (refine SxNew.mk fun _ => ?_; (try refine sx_use ?_))))
      refine SxIA.row 0 _ _ _ rfl 1 (by omega) (by omega) fun g' hg' => ?_
      simp only [Option.some.injEq, Addr.mk.injEq, and_true] at hg'
      subst hg'
      ((try refine sx_use ?_); (repeat (refine SxNew.mk fun _ => ?_; (try refine sx_use ?_))))
      refine SxLd.row 0 rfl rfl rfl rfl ?_
      ((try refine sx_use ?_); (repeat (refine SxNew.mk fun _ => ?_; (try refine sx_use ?_))))
      exact SxDone.mk fun w' hs => ⟨rfl, hs.touch.below⟩
    · ((try refine sx_use ?_); (repeat (refine SxNew.mk fun _ => ?_; (try refine sx_use ?_))))
      exact SxDone.mk fun w' hs => ⟨rfl, hs.touch.below⟩
  · have hc : m = 1 ∨ m = 3 ∨ m = 4 ∨ m = 5 ∨ m = 6 ∨ m = 7 ∨ m = 8 ∨ m = 9 ∨ m = 10 ∨ m = 11 ∨ m = 12 := by omega
    have hm2 : ((m : Nat) : Int) ≠ 2 := by omega
    ((try refine sx_use ?_); (repeat (refine SxNew.mk fun _ => ?_; (try refine sx_use ?_))))
    refine SxIA.row 0 _ _ _ rfl (m - 1) (by omega) (by omega) fun g' hg' => ?_
    simp only [Option.some.injEq, Addr.mk.injEq, and_true] at hg'
    subst hg'
    ((try refine sx_use ?_); (repeat (refine SxNew.mk fun _ => ?_; (try refine sx_use ?_))))
    refine SxLd.row 0 rfl rfl rfl (v := .int .i64 (daysN y m : Nat)) (by
      clear hm hm2 h1 h2
      rcases hc with rfl | rfl | rfl | rfl | rfl | rfl | rfl | rfl | rfl | rfl | rfl <;> rfl) ?_
    ((try refine sx_use ?_); (repeat (refine SxNew.mk fun _ => ?_; (try refine sx_use ?_))))
    exact SxDone.mk fun w' hs => ⟨rfl, hs.touch.below⟩
theorem Rdays_any (y : Nat) (h : y ≤ 1000000) (w : World) : Calls Try.prog 31 #[.int .i64 (y : Nat)] w fun e w' => e = .returned (.int .i64 (ydN y : Nat)) ∧ Below w.heap.size w w' := by
  refine sx_fn (S := SX) (M := []) (N := 5) (H0 := []) Try.func31 rfl rfl rfl (Sat.nil _ _) ?_
  ((try refine sx_use ?_); (repeat (refine SxNew.mk fun _ => ?_; (try refine sx_use ?_))))
  refine SxCall.quiet (Rleap_any y h) ?_
  unfold ydN
  cases hl : leapN y
  · ((try refine sx_use ?_); (repeat (refine SxNew.mk fun _ => ?_; (try refine sx_use ?_))))
    exact SxDone.mk fun w' hs => ⟨rfl, hs.touch.below⟩
  · ((try refine sx_use ?_); (repeat (refine SxNew.mk fun _ => ?_; (try refine sx_use ?_))))
    exact SxDone.mk fun w' hs => ⟨rfl, hs.touch.below⟩
set_option maxHeartbeats 1000000 in
theorem RDate_in (y m d : Nat) (hD : IsD y m d) (w : World) : Calls Try.prog 15 #[.int .i64 (-719162 + (numD y m d : Nat))] w fun e w' => e = .returned (.tuple #[.int .i64 (y : Nat), .int .i64 (m : Nat), .int .i64 (d : Nat)]) ∧ Below w.heap.size w w' := by
  have hlt := numD_lt hD
  have hY := numD_year hD
  have hM := numD_month hD
  have hy1 := hD.y1
  have hy2 := hD.y2
  have hm1 := hD.m1
  have hm2 := hD.m2
  obtain ⟨n, hn⟩ : ∃ n, n = numD y m d := ⟨_, rfl⟩
  rw [← hn] at hlt hY hM ⊢
  refine sx_fn (S := SX) (M := []) (N := 36) (H0 := []) Try.func15 rfl rfl rfl (Sat.nil _ _) ?_
  ((try refine sx_use ?_); (repeat (refine SxNew.mk fun _ => ?_; (try refine sx_use ?_))))
  refine SxCode.loop (σ := Nat) [6, 5] [10, 11, 12, 13, 14, 15, 16, 17, 5, 18, 19, 6] (fun k => [.int .i64 (k : Nat), .int .i64 ((n : Nat) - (ahN k : Nat))]) (fun _ => []) (fun k => 1 ≤ k ∧ k ≤ y) (fun k => y - k) 1 [] rfl (by rw [show ((n : Nat) : Int) - (ahN 1 : Nat) = -719162 + ((n : Nat) : Int) - -719162 by rw [ahN_one]; omega]; rfl) rfl rfl ⟨Nat.le_refl _, hy1⟩ ?_
  rintro k ⟨k1, k2⟩
  have hk1 := ahN_succ k1
  have hk2 := ahN_mono k1 k2
  have hk3 : k < y → ahN (k + 1) ≤ ahN y := fun h => ahN_mono (by omega) (by omega)
  have hk4 := ydN_bd k
  ((try refine sx_use ?_); (repeat (refine SxNew.mk fun _ => ?_; (try refine sx_use ?_))))
  refine SxCall.quiet (Rdays_any k (by omega)) ?_
  ((try refine sx_use ?_); (repeat (refine SxNew.mk fun _ => ?_; (try refine sx_use ?_))))
  refine SxIf.dec (fun h => ?_) (fun h => ?_)
  · have hky : k < y := by
      rcases Nat.lt_or_ge k y with h3 | h3
      · exact h3
      · obtain rfl : k = y := by omega
        omega
    have hk5 := hk3 hky
    ((try refine sx_use ?_); (repeat (refine SxNew.mk fun _ => ?_; (try refine sx_use ?_))))
    refine SxCall.quiet (Rdays_any k (by omega)) ?_
    ((try refine sx_use ?_); (repeat (refine SxNew.mk fun _ => ?_; (try refine sx_use ?_))))
    exact SxRound.mk (k + 1) [] (by rw [show ((n : Nat) : Int) - (ahN (k + 1) : Nat) = ((n : Nat) : Int) - (ahN k : Nat) - (ydN k : Nat) by rw [hk1]; omega]; rfl) rfl rfl ⟨by omega, by omega⟩ (by omega)
  · obtain rfl : k = y := by
      rcases Nat.lt_or_ge k y with h3 | h3
      · have := hk3 h3; omega
      · omega
    ((try refine sx_use ?_); (repeat (refine SxNew.mk fun _ => ?_; (try refine sx_use ?_))))
    refine SxCode.loop (σ := Nat) [7, 5] [20, 21, 22, 23, 24, 25, 26, 27, 28, 29, 5, 30, 31, 7] (fun q => [.int .i64 (q : Nat), .int .i64 ((n : Nat) - (ahN k : Nat) - (moN k q : Nat))]) (fun _ => []) (fun q => 1 ≤ q ∧ q ≤ m) (fun q => m - q) 1 [] rfl (by rw [show ((n : Nat) : Int) - (ahN k : Nat) - (moN k 1 : Nat) = ((n : Nat) : Int) - (ahN k : Nat) by rw [moN_one]; omega]; rfl) rfl rfl ⟨Nat.le_refl _, hm1⟩ ?_
    rintro q ⟨q1, q2⟩
    have hq1 := moN_succ k q q1
    have hq2 : q < m → moN k (q + 1) ≤ moN k m := fun h => moN_mono h
    have hq3 := moN_mono (y := k) q2
    have hq4 := daysN_bd k q
    ((try refine sx_use ?_); (repeat (refine SxNew.mk fun _ => ?_; (try refine sx_use ?_))))
    refine SxCall.quiet (Rsize_any k q (by omega) q1 (by omega)) ?_
    ((try refine sx_use ?_); (repeat (refine SxNew.mk fun _ => ?_; (try refine sx_use ?_))))
    refine SxIf.dec (fun h2 => ?_) (fun h2 => ?_)
    · have hqm : q < m := by
        rcases Nat.lt_or_ge q m with h3 | h3
        · exact h3
        · obtain rfl : q = m := by omega
          omega
      have hq5 := hq2 hqm
      ((try refine sx_use ?_); (repeat (refine SxNew.mk fun _ => ?_; (try refine sx_use ?_))))
      refine SxCall.quiet (Rsize_any k q (by omega) q1 (by omega)) ?_
      ((try refine sx_use ?_); (repeat (refine SxNew.mk fun _ => ?_; (try refine sx_use ?_))))
      exact SxRound.mk (q + 1) [] (by rw [show ((n : Nat) : Int) - (ahN k : Nat) - (moN k (q + 1) : Nat) = ((n : Nat) : Int) - (ahN k : Nat) - (moN k q : Nat) - (daysN k q : Nat) by rw [hq1]; omega]; rfl) rfl rfl ⟨by omega, by omega⟩ (by omega)
    · obtain rfl : q = m := by
        rcases Nat.lt_or_ge q m with h3 | h3
        · have := hq2 h3; omega
        · omega
      ((try refine sx_use ?_); (repeat (refine SxNew.mk fun _ => ?_; (try refine sx_use ?_))))
      refine SxDone.mk fun w' hs => ⟨?_, hs.touch.below⟩
      rw [show ((d : Nat) : Int) = ((n : Nat) : Int) - (ahN k : Nat) - (moN k q : Nat) + 1 by omega]
      rfl
theorem RIs_any (y m d : Int) (w : World) : Calls Try.prog 9 #[.int .i64 y, .int .i64 m, .int .i64 d] w fun e w' => e = .returned (.bool (decide (isDB y m d))) ∧ Below w.heap.size w w' := by
  refine sx_fn (S := SX) (M := []) (N := 30) (H0 := []) Try.func9 rfl rfl rfl (Sat.nil _ _) ?_
  by_cases hy : 1 ≤ y ∧ y ≤ 9999 ∧ 1 ≤ m ∧ m ≤ 12
  · obtain ⟨y1, y2, m1, m2⟩ := hy
    obtain ⟨yn, rfl⟩ : ∃ n : Nat, y = n := ⟨y.toNat, by omega⟩
    obtain ⟨mn, rfl⟩ : ∃ n : Nat, m = n := ⟨m.toNat, by omega⟩
    by_cases hd1 : 1 ≤ d
    · ((try refine sx_use ?_); (repeat (refine SxNew.mk fun _ => ?_; (try refine sx_use ?_))))
      refine SxCall.quiet (Rsize_any yn mn (by omega) (by omega) (by omega)) ?_
      ((try refine sx_use ?_); (repeat (refine SxNew.mk fun _ => ?_; (try refine sx_use ?_))))
      refine SxDone.mk fun w' hs => ⟨?_, hs.touch.below⟩
      show Ending.returned (.bool (decide (d ≤ (daysN yn mn : Nat)))) = _
      congr 2
      rw [decide_eq_decide]
      unfold isDB
      simp only [Int.toNat_natCast]
      omega
    · rw [decide_eq_false (fun hh : isDB _ _ _ => hd1 hh.2.2.2.2.1)]
      ((try refine sx_use ?_); (repeat (refine SxNew.mk fun _ => ?_; (try refine sx_use ?_))))
      exact SxDone.mk fun w' hs => ⟨rfl, hs.touch.below⟩
  · rw [decide_eq_false (fun hh : isDB _ _ _ => hy ⟨hh.1, hh.2.1, hh.2.2.1, hh.2.2.2.1⟩)]
    by_cases a : y < 1
    · ((try refine sx_use ?_); (repeat (refine SxNew.mk fun _ => ?_; (try refine sx_use ?_))))
      exact SxDone.mk fun w' hs => ⟨rfl, hs.touch.below⟩
    · by_cases b : y > 9999
      · ((try refine sx_use ?_); (repeat (refine SxNew.mk fun _ => ?_; (try refine sx_use ?_))))
        exact SxDone.mk fun w' hs => ⟨rfl, hs.touch.below⟩
      · by_cases c : m < 1
        · ((try refine sx_use ?_); (repeat (refine SxNew.mk fun _ => ?_; (try refine sx_use ?_))))
          exact SxDone.mk fun w' hs => ⟨rfl, hs.touch.below⟩
        · have e : m > 12 := by omega
          ((try refine sx_use ?_); (repeat (refine SxNew.mk fun _ => ?_; (try refine sx_use ?_))))
          exact SxDone.mk fun w' hs => ⟨rfl, hs.touch.below⟩
set_option maxHeartbeats 1000000 in
theorem RDay_in (y m d : Nat) (hD : IsD y m d) (w : World) : Calls Try.prog 11 #[.int .i64 (y : Nat), .int .i64 (m : Nat), .int .i64 (d : Nat)] w fun e w' => e = .returned (.int .i64 (-719162 + (numD y m d : Nat))) ∧ Below w.heap.size w w' := by
  have hlt := numD_lt hD
  have hy1 := hD.y1
  have hy2 := hD.y2
  have hm1 := hD.m1
  have hm2 := hD.m2
  have hd1 := hD.d1
  have hal := (ahN_le y hy1).1
  refine sx_fn (S := SX) (M := []) (N := 33) (H0 := []) Try.func11 rfl rfl rfl (Sat.nil _ _) ?_
  ((try refine sx_use ?_); (repeat (refine SxNew.mk fun _ => ?_; (try refine sx_use ?_))))
  refine SxCode.loop (σ := Nat) [8, 7] [10, 11, 12, 15, 16, 17, 18, 7, 13, 14, 8] (fun k => [.int .i64 (k : Nat), .int .i64 (-719162 + (ahN k : Nat))]) (fun _ => []) (fun k => 1 ≤ k ∧ k ≤ y) (fun k => y - k) 1 [] rfl rfl rfl rfl ⟨Nat.le_refl _, hy1⟩ ?_
  rintro k ⟨k1, k2⟩
  have hk1 := ahN_succ k1
  have hk2 := ahN_mono k1 k2
  have hk4 := ydN_bd k
  ((try refine sx_use ?_); (repeat (refine SxNew.mk fun _ => ?_; (try refine sx_use ?_))))
  refine SxIf.dec (fun h => ?_) (fun h => ?_)
  · have hk5 := ahN_mono (a := k + 1) (b := y) (by omega) (by omega)
    ((try refine sx_use ?_); (repeat (refine SxNew.mk fun _ => ?_; (try refine sx_use ?_))))
    refine SxCall.quiet (Rdays_any k (by omega)) ?_
    ((try refine sx_use ?_); (repeat (refine SxNew.mk fun _ => ?_; (try refine sx_use ?_))))
    exact SxRound.mk (k + 1) [] (by rw [show -719162 + ((ahN (k + 1) : Nat) : Int) = -719162 + ((ahN k : Nat) : Int) + (ydN k : Nat) by rw [hk1]; omega]; rfl) rfl rfl ⟨by omega, by omega⟩ (by omega)
  · obtain rfl : k = y := by omega
    ((try refine sx_use ?_); (repeat (refine SxNew.mk fun _ => ?_; (try refine sx_use ?_))))
    refine SxCode.loop (σ := Nat) [9, 7] [19, 20, 21, 24, 25, 26, 27, 28, 7, 22, 23, 9] (fun q => [.int .i64 (q : Nat), .int .i64 (-719162 + (ahN k : Nat) + (moN k q : Nat))]) (fun _ => []) (fun q => 1 ≤ q ∧ q ≤ m) (fun q => m - q) 1 [] rfl (by rw [show -719162 + ((ahN k : Nat) : Int) + (moN k 1 : Nat) = -719162 + ((ahN k : Nat) : Int) by rw [moN_one]; omega]; rfl) rfl rfl ⟨Nat.le_refl _, hm1⟩ ?_
    rintro q ⟨q1, q2⟩
    have hq1 := moN_succ k q q1
    have hq3 := moN_mono (y := k) q2
    have hq4 := daysN_bd k q
    have hq6 := moN_mono (y := k) (show m ≤ 13 by omega)
    rw [moN_all] at hq6
    ((try refine sx_use ?_); (repeat (refine SxNew.mk fun _ => ?_; (try refine sx_use ?_))))
    refine SxIf.dec (fun h2 => ?_) (fun h2 => ?_)
    · ((try refine sx_use ?_); (repeat (refine SxNew.mk fun _ => ?_; (try refine sx_use ?_))))
      refine SxCall.quiet (Rsize_any k q (by omega) q1 (by omega)) ?_
      ((try refine sx_use ?_); (repeat (refine SxNew.mk fun _ => ?_; (try refine sx_use ?_))))
      exact SxRound.mk (q + 1) [] (by rw [show -719162 + ((ahN k : Nat) : Int) + (moN k (q + 1) : Nat) = -719162 + ((ahN k : Nat) : Int) + (moN k q : Nat) + (daysN k q : Nat) by rw [hq1]; omega]; rfl) rfl rfl ⟨by omega, by omega⟩ (by omega)
    · obtain rfl : q = m := by omega
      have hd2 := hD.d2
      ((try refine sx_use ?_); (repeat (refine SxNew.mk fun _ => ?_; (try refine sx_use ?_))))
      refine SxDone.mk fun w' hs => ⟨?_, hs.touch.below⟩
      rw [show -719162 + ((numD k q d : Nat) : Int) = -719162 + ((ahN k : Nat) : Int) + (moN k q : Nat) + (d : Nat) - 1 by unfold numD; omega]
      rfl
theorem RWeek_in (n : Nat) (hn : n < 3652059) (w : World) : Calls Try.prog 16 #[.int .i64 (-719162 + (n : Nat))] w fun e w' => e = .returned (.int .i64 (weekN n)) ∧ Below w.heap.size w w' := by
  refine sx_fn (S := SX) (M := []) (N := 9) (H0 := []) Try.func16 rfl rfl rfl (Sat.nil _ _) ?_
  ((try refine sx_use ?_); (repeat (refine SxNew.mk fun _ => ?_; (try refine sx_use ?_))))
  refine SxDone.mk fun w' hs => ⟨?_, hs.touch.below⟩
  unfold weekN
  rw [show ((n : Nat) : Int) / 7 - 102738 = (-719162 + ((n : Nat) : Int) - -719162) / 7 - 102738 by omega]
  rfl
theorem RMonth_in (y m d : Nat) (hD : IsD y m d) (w : World) : Calls Try.prog 17 #[.int .i64 (-719162 + (numD y m d : Nat))] w fun e w' => e = .returned (.int .i64 (12 * (y : Nat) + (m : Nat) - 1)) ∧ Below w.heap.size w w' := by
  have hy1 := hD.y1
  have hy2 := hD.y2
  have hm1 := hD.m1
  have hm2 := hD.m2
  refine sx_fn (S := SX) (M := []) (N := 17) (H0 := []) Try.func17 rfl rfl rfl (Sat.nil _ _) ?_
  ((try refine sx_use ?_); (repeat (refine SxNew.mk fun _ => ?_; (try refine sx_use ?_))))
  refine SxCall.quiet (RDate_in y m d hD) ?_
  ((try refine sx_use ?_); (repeat (refine SxNew.mk fun _ => ?_; (try refine sx_use ?_))))
  exact SxDone.mk fun w' hs => ⟨rfl, hs.touch.below⟩
end Go.Proofs.Ytiobcjahgmkmiaa
