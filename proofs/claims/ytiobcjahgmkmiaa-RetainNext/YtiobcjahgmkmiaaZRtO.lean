/- The laws of layer 32: RetainDates, RetainNext. -/
import Derived.Test.YtiobcjahgmkmiaaZRtN
namespace Go.Proofs.Ytiobcjahgmkmiaa
open Go.RowKit

set_option maxHeartbeats 4000000 in
theorem RetainDates_law (w : World) (y : Int) (_hy : IntKind.i64.min ≤ y ∧ y ≤ IntKind.i64.max) (m : Int) (_hm : IntKind.i64.min ≤ m ∧ m ≤ IntKind.i64.max) (d : Int) (_hd : IntKind.i64.min ≤ d ∧ d ≤ IntKind.i64.max) (n : Int) (_hn : IntKind.i64.min ≤ n ∧ n ≤ IntKind.i64.max) :
    Calls Try.prog 3 #[.int .i64 y, .int .i64 m, .int .i64 d, .int .i64 n] w fun e w' => e = .returned (.bool true) ∧ Below w.heap.size w w' := by
  clear _hy _hm _hd _hn
  have h1 := Day_any y m d
  have h2 := RIs_any y m d
  by_cases hB : isDB y m d
  · rw [if_pos hB] at h1
    rw [decide_eq_true hB] at h2
    have hD := isDB_D hB
    obtain ⟨y, rfl⟩ : ∃ y' : Nat, y = y' := ⟨y.toNat, by have := hB.1; omega⟩
    obtain ⟨m, rfl⟩ : ∃ m' : Nat, m = m' := ⟨m.toNat, by have := hB.2.2.1; omega⟩
    obtain ⟨d, rfl⟩ : ∃ d' : Nat, d = d' := ⟨d.toNat, by have := hB.2.2.2.2.1; omega⟩
    simp only [Int.toNat_natCast] at h1 hD
    have hlt := numD_lt hD
    have h3 := Date_in y m d hD
    have h4 := RDay_in y m d hD
    obtain ⟨N, hN⟩ : ∃ N, N = numD y m d := ⟨_, rfl⟩
    rw [← hN] at h1 h3 h4 hlt
    refine sx_fn (S := SX) (M := []) (N := 199) (H0 := []) Try.func3 rfl rfl rfl (Sat.nil _ _) ?_
    ((try refine sx_use ?_); (repeat (refine SxNew.mk fun _ => ?_; (try refine sx_use ?_))))
    refine SxCall.quiet h1 ?_
    ((try refine sx_use ?_); (repeat (refine SxNew.mk fun _ => ?_; (try refine sx_use ?_))))
    refine SxCall.quiet h2 ?_
    ((try refine sx_use ?_); (repeat (refine SxNew.mk fun _ => ?_; (try refine sx_use ?_))))
    refine SxCall.quiet h3 ?_
    ((try refine sx_use ?_); (repeat (refine SxNew.mk fun _ => ?_; (try refine sx_use ?_))))
    refine SxCall.quiet h4 ?_
    clear h1 h2 h3 h4 hN hD hB
    ((try refine sx_use ?_); (repeat (refine SxNew.mk fun _ => ?_; (try refine sx_use ?_))))
    by_cases hn : inDays n
    · obtain ⟨k, rfl⟩ : ∃ k : Nat, n = -719162 + (k : Nat) := ⟨(n + 719162).toNat, by unfold inDays at hn; omega⟩
      have hk : k < 3652059 := by unfold inDays at hn; omega
      obtain ⟨y', m', d', hE, rfl⟩ := exists_date hk
      have hB' : isDB (y' : Nat) (m' : Nat) (d' : Nat) := ⟨by have := hE.y1; omega, by have := hE.y2; omega, by have := hE.m1; omega, by have := hE.m2; omega, by have := hE.d1; omega, by have := hE.d2; simp only [Int.toNat_natCast]; omega⟩
      have g1 := Date_in y' m' d' hE
      have g2 := Week_in _ hk
      have g3 := Month_in y' m' d' hE
      have g4 := RDate_in y' m' d' hE
      have g5 := Day_any y' m' d'
      rw [if_pos hB'] at g5
      simp only [Int.toNat_natCast] at g5
      have g6 := RWeek_in _ hk
      have g7 := RMonth_in y' m' d' hE
      have hM : numD y' m' d' < 3652059 := hk
      obtain ⟨M, hM0⟩ : ∃ M, M = numD y' m' d' := ⟨_, rfl⟩
      rw [← hM0] at g1 g2 g3 g4 g5 g6 g7 hM ⊢
      have hy1 := hE.y1; have hy2 := hE.y2; have hm2 := hE.m2; have hm1 := hE.m1
      clear hn hk hE hB'
      refine SxCall.quiet g1 ?_
      ((try refine sx_use ?_); (repeat (refine SxNew.mk fun _ => ?_; (try refine sx_use ?_))))
      refine SxCall.quiet g2 ?_
      ((try refine sx_use ?_); (repeat (refine SxNew.mk fun _ => ?_; (try refine sx_use ?_))))
      refine SxCall.quiet g3 ?_
      ((try refine sx_use ?_); (repeat (refine SxNew.mk fun _ => ?_; (try refine sx_use ?_))))
      refine SxCall.quiet g4 ?_
      ((try refine sx_use ?_); (repeat (refine SxNew.mk fun _ => ?_; (try refine sx_use ?_))))
      refine SxCall.quiet g5 ?_
      ((try refine sx_use ?_); (repeat (refine SxNew.mk fun _ => ?_; (try refine sx_use ?_))))
      refine SxCall.quiet g6 ?_
      ((try refine sx_use ?_); (repeat (refine SxNew.mk fun _ => ?_; (try refine sx_use ?_))))
      refine SxCall.quiet g7 ?_
      ((try refine sx_use ?_); (repeat (refine SxNew.mk fun _ => ?_; (try refine sx_use ?_))))
      refine SxCall.quiet rt_awake ?_
      ((try refine sx_use ?_); (repeat (refine SxNew.mk fun _ => ?_; (try refine sx_use ?_))))
      exact SxDone.mk fun w' hs => ⟨rfl, hs.touch.below⟩
    · refine SxCall.quiet (Date_out n hn) ?_
      ((try refine sx_use ?_); (repeat (refine SxNew.mk fun _ => ?_; (try refine sx_use ?_))))
      refine SxCall.quiet (Week_out n hn) ?_
      ((try refine sx_use ?_); (repeat (refine SxNew.mk fun _ => ?_; (try refine sx_use ?_))))
      refine SxCall.quiet (Month_out n hn) ?_
      unfold inDays at hn
      ((try refine sx_use ?_); (repeat (refine SxNew.mk fun _ => ?_; (try refine sx_use ?_))))
      refine SxIf.dec (fun h => ?_) (fun h => ?_)
      · ((try refine sx_use ?_); (repeat (refine SxNew.mk fun _ => ?_; (try refine sx_use ?_))))
        refine SxCall.quiet rt_awake ?_
        ((try refine sx_use ?_); (repeat (refine SxNew.mk fun _ => ?_; (try refine sx_use ?_))))
        exact SxDone.mk fun w' hs => ⟨rfl, hs.touch.below⟩
      · ((try refine sx_use ?_); (repeat (refine SxNew.mk fun _ => ?_; (try refine sx_use ?_))))
        refine SxCall.quiet rt_awake ?_
        ((try refine sx_use ?_); (repeat (refine SxNew.mk fun _ => ?_; (try refine sx_use ?_))))
        exact SxDone.mk fun w' hs => ⟨rfl, hs.touch.below⟩
  · rw [if_neg hB] at h1
    rw [decide_eq_false hB] at h2
    refine sx_fn (S := SX) (M := []) (N := 199) (H0 := []) Try.func3 rfl rfl rfl (Sat.nil _ _) ?_
    ((try refine sx_use ?_); (repeat (refine SxNew.mk fun _ => ?_; (try refine sx_use ?_))))
    refine SxCall.quiet h1 ?_
    ((try refine sx_use ?_); (repeat (refine SxNew.mk fun _ => ?_; (try refine sx_use ?_))))
    refine SxCall.quiet h2 ?_
    clear h1 h2 hB
    ((try refine sx_use ?_); (repeat (refine SxNew.mk fun _ => ?_; (try refine sx_use ?_))))
    by_cases hn : inDays n
    · obtain ⟨k, rfl⟩ : ∃ k : Nat, n = -719162 + (k : Nat) := ⟨(n + 719162).toNat, by unfold inDays at hn; omega⟩
      have hk : k < 3652059 := by unfold inDays at hn; omega
      obtain ⟨y', m', d', hE, rfl⟩ := exists_date hk
      have hB' : isDB (y' : Nat) (m' : Nat) (d' : Nat) := ⟨by have := hE.y1; omega, by have := hE.y2; omega, by have := hE.m1; omega, by have := hE.m2; omega, by have := hE.d1; omega, by have := hE.d2; simp only [Int.toNat_natCast]; omega⟩
      have g1 := Date_in y' m' d' hE
      have g2 := Week_in _ hk
      have g3 := Month_in y' m' d' hE
      have g4 := RDate_in y' m' d' hE
      have g5 := Day_any y' m' d'
      rw [if_pos hB'] at g5
      simp only [Int.toNat_natCast] at g5
      have g6 := RWeek_in _ hk
      have g7 := RMonth_in y' m' d' hE
      have hM : numD y' m' d' < 3652059 := hk
      obtain ⟨M, hM0⟩ : ∃ M, M = numD y' m' d' := ⟨_, rfl⟩
      rw [← hM0] at g1 g2 g3 g4 g5 g6 g7 hM ⊢
      have hy1 := hE.y1; have hy2 := hE.y2; have hm2 := hE.m2; have hm1 := hE.m1
      clear hn hk hE hB'
      refine SxCall.quiet g1 ?_
      ((try refine sx_use ?_); (repeat (refine SxNew.mk fun _ => ?_; (try refine sx_use ?_))))
      refine SxCall.quiet g2 ?_
      ((try refine sx_use ?_); (repeat (refine SxNew.mk fun _ => ?_; (try refine sx_use ?_))))
      refine SxCall.quiet g3 ?_
      ((try refine sx_use ?_); (repeat (refine SxNew.mk fun _ => ?_; (try refine sx_use ?_))))
      refine SxCall.quiet g4 ?_
      ((try refine sx_use ?_); (repeat (refine SxNew.mk fun _ => ?_; (try refine sx_use ?_))))
      refine SxCall.quiet g5 ?_
      ((try refine sx_use ?_); (repeat (refine SxNew.mk fun _ => ?_; (try refine sx_use ?_))))
      refine SxCall.quiet g6 ?_
      ((try refine sx_use ?_); (repeat (refine SxNew.mk fun _ => ?_; (try refine sx_use ?_))))
      refine SxCall.quiet g7 ?_
      ((try refine sx_use ?_); (repeat (refine SxNew.mk fun _ => ?_; (try refine sx_use ?_))))
      refine SxCall.quiet rt_awake ?_
      ((try refine sx_use ?_); (repeat (refine SxNew.mk fun _ => ?_; (try refine sx_use ?_))))
      exact SxDone.mk fun w' hs => ⟨rfl, hs.touch.below⟩
    · refine SxCall.quiet (Date_out n hn) ?_
      ((try refine sx_use ?_); (repeat (refine SxNew.mk fun _ => ?_; (try refine sx_use ?_))))
      refine SxCall.quiet (Week_out n hn) ?_
      ((try refine sx_use ?_); (repeat (refine SxNew.mk fun _ => ?_; (try refine sx_use ?_))))
      refine SxCall.quiet (Month_out n hn) ?_
      unfold inDays at hn
      ((try refine sx_use ?_); (repeat (refine SxNew.mk fun _ => ?_; (try refine sx_use ?_))))
      refine SxIf.dec (fun h => ?_) (fun h => ?_)
      · ((try refine sx_use ?_); (repeat (refine SxNew.mk fun _ => ?_; (try refine sx_use ?_))))
        refine SxCall.quiet rt_awake ?_
        ((try refine sx_use ?_); (repeat (refine SxNew.mk fun _ => ?_; (try refine sx_use ?_))))
        exact SxDone.mk fun w' hs => ⟨rfl, hs.touch.below⟩
      · ((try refine sx_use ?_); (repeat (refine SxNew.mk fun _ => ?_; (try refine sx_use ?_))))
        refine SxCall.quiet rt_awake ?_
        ((try refine sx_use ?_); (repeat (refine SxNew.mk fun _ => ?_; (try refine sx_use ?_))))
        exact SxDone.mk fun w' hs => ⟨rfl, hs.touch.below⟩

theorem next_day {y m d : Nat} (h : IsD y m d) (hl : numD y m d + 1 < 3652059) : ∃ y' m' d', IsD y' m' d' ∧ numD y' m' d' = numD y m d + 1 ∧ ((y' = y ∧ m' = m ∧ d' = d + 1) ∨ (d' = 1 ∧ y' = y ∧ m' = m + 1) ∨ (d' = 1 ∧ m' = 1 ∧ m = 12 ∧ y' = y + 1)) := by
  have hy1 := h.y1; have hy2 := h.y2; have hm1 := h.m1; have hm2 := h.m2; have hd1 := h.d1; have hd2 := h.d2
  by_cases c1 : d + 1 ≤ daysN y m
  · exact ⟨y, m, d + 1, ⟨hy1, hy2, hm1, hm2, by omega, c1⟩, by unfold numD; omega, .inl ⟨rfl, rfl, rfl⟩⟩
  · have hs := moN_succ y m hm1
    by_cases c2 : m < 12
    · exact ⟨y, m + 1, 1, ⟨hy1, hy2, by omega, by omega, Nat.le_refl _, by have := daysN_bd y (m + 1); omega⟩, by unfold numD; rw [hs]; omega, .inr (.inl ⟨rfl, rfl, rfl⟩)⟩
    · obtain rfl : m = 12 := by omega
      have ha := moN_all y
      have hz := ahN_succ hy1
      have hn : numD y 12 d + 1 = ahN (y + 1) := by unfold numD; rw [hz, ← ha, hs]; omega
      have hy3 : y + 1 ≤ 9999 := by
        rcases Nat.lt_or_ge 9999 (y + 1) with h3 | h3
        · obtain rfl : y = 9999 := by omega
          rw [hn, ahN_end] at hl
          omega
        · exact h3
      exact ⟨y + 1, 1, 1, ⟨by omega, hy3, Nat.le_refl _, by omega, Nat.le_refl _, by have := daysN_bd (y + 1) 1; omega⟩, by rw [hn]; unfold numD; rw [moN_one]; omega, .inr (.inr ⟨rfl, rfl, rfl, rfl⟩)⟩
set_option maxHeartbeats 4000000 in
theorem RetainNext_law (w : World) (x : Nat) (_hx : x < 2 ^ 32) :
    Calls Try.prog 4 #[.int .u32 x] w fun e w' => e = .returned (.bool true) ∧ Below w.heap.size w w' := by
  obtain ⟨N, hN⟩ : ∃ N : Nat, N = x % 3652058 := ⟨_, rfl⟩
  have hNl : N < 3652058 := by omega
  obtain ⟨y, m, d, hD, rfl⟩ := exists_date (show N < 3652059 by omega)
  obtain ⟨y', m', d', hE, hnum, hcase⟩ := next_day hD (by omega)
  have g1 := Date_in y m d hD
  have g2 := Week_in (numD y m d) (by omega)
  have g3 := Month_in y m d hD
  have e1 := Date_in y' m' d' hE
  have e2 := Week_in (numD y m d + 1) (by omega)
  have e3 := Month_in y' m' d' hE
  rw [hnum] at e1 e3
  have hy1 := hD.y1; have hy2 := hD.y2; have hm2 := hD.m2; have hm1 := hD.m1; have hd1 := hD.d1
  have hy1' := hE.y1; have hy2' := hE.y2; have hm2' := hE.m2; have hm1' := hE.m1; have hd1' := hE.d1
  have hd2 : d ≤ 31 := by have := hD.d2; have := daysN_bd y m; omega
  have hd2' : d' ≤ 31 := by have := hE.d2; have := daysN_bd y' m'; omega
  unfold weekN at g2 e2
  obtain ⟨M, hM⟩ : ∃ M, M = numD y m d := ⟨_, rfl⟩
  rw [← hM] at g1 g2 g3 e1 e2 e3 hN hNl
  clear hD hE hnum hM
  have ht : ∀ w, Calls Try.prog 18 #[.bool (((d' : Nat) : Int) == 1)] w fun e w' => e = .returned (.int .i64 (if d' = 1 then 1 else 0)) ∧ Below w.heap.size w w' := fun w => by
    have := one_any (((d' : Nat) : Int) == 1) w
    by_cases h : d' = 1
    · subst h; exact this
    · rw [if_neg (by simp; omega)] at this
      rw [if_neg h]
      exact this
  rcases hcase with ⟨rfl, rfl, rfl⟩ | ⟨rfl, rfl, rfl⟩ | ⟨rfl, rfl, rfl, rfl⟩
  · refine sx_fn (S := SX) (M := []) (N := 136) (H0 := []) Try.func4 rfl rfl rfl (Sat.nil _ _) ?_
    ((try refine sx_use ?_); (repeat (refine SxNew.mk fun _ => ?_; (try refine sx_use ?_))))
    rw [show ((x : Nat) : Int) % 3652058 = (M : Nat) by rw [hN]; omega]
    refine SxCall.quiet g1 ?_
    ((try refine sx_use ?_); (repeat (refine SxNew.mk fun _ => ?_; (try refine sx_use ?_))))
    rw [show (-719162 + (M : Nat) + 1 : Int) = -719162 + ((M + 1 : Nat) : Int) by omega]
    refine SxCall.quiet e1 ?_
    ((try refine sx_use ?_); (repeat (refine SxNew.mk fun _ => ?_; (try refine sx_use ?_))))
    refine SxCall.quiet rt_awake ?_
    ((try refine sx_use ?_); (repeat (refine SxNew.mk fun _ => ?_; (try refine sx_use ?_))))
    refine SxCall.quiet g2 ?_
    ((try refine sx_use ?_); (repeat (refine SxNew.mk fun _ => ?_; (try refine sx_use ?_))))
    rw [show (-719162 + (M : Nat) + 1 : Int) = -719162 + ((M + 1 : Nat) : Int) by omega]
    refine SxCall.quiet e2 ?_
    ((try refine sx_use ?_); (repeat (refine SxNew.mk fun _ => ?_; (try refine sx_use ?_))))
    refine SxCall.quiet g3 ?_
    ((try refine sx_use ?_); (repeat (refine SxNew.mk fun _ => ?_; (try refine sx_use ?_))))
    rw [show (-719162 + (M : Nat) + 1 : Int) = -719162 + ((M + 1 : Nat) : Int) by omega]
    refine SxCall.quiet e3 ?_
    ((try refine sx_use ?_); (repeat (refine SxNew.mk fun _ => ?_; (try refine sx_use ?_))))
    by_cases hz : M % 7 = 6
    · refine SxQ.mk 0 (Int.tmod_eq_zero_of_dvd ⟨((M : Int) - 719165) / 7, by omega⟩) ?_
      ((try refine sx_use ?_); (repeat (refine SxNew.mk fun _ => ?_; (try refine sx_use ?_))))
      refine SxCall.quiet (one_any true) ?_
      ((try refine sx_use ?_); (repeat (refine SxNew.mk fun _ => ?_; (try refine sx_use ?_))))
      refine SxIf.eqT (by rw [if_pos rfl]; omega) ?_
      ((try refine sx_use ?_); (repeat (refine SxNew.mk fun _ => ?_; (try refine sx_use ?_))))
      refine SxCall.quiet ht ?_
      ((try refine sx_use ?_); (repeat (refine SxNew.mk fun _ => ?_; (try refine sx_use ?_))))
      (try refine SxIf.eqT (by split <;> omega) ?_)
      (try ((try refine sx_use ?_); (repeat (refine SxNew.mk fun _ => ?_; (try refine sx_use ?_)))))
      exact SxDone.mk fun w' hs => ⟨by (try rw [beq_iff_eq.2 (by split <;> omega)]); (try rfl), hs.touch.below⟩
    · obtain ⟨r, hr⟩ : ∃ r, r = (-719162 + (M : Nat) + 1 - 4 : Int).tmod 7 := ⟨_, rfl⟩
      have hr0 : r ≠ 0 := fun h0 => by
        have := Int.dvd_of_tmod_eq_zero (hr.symm.trans h0)
        omega
      have ho : ∀ w, Calls Try.prog 18 #[.bool (r == 0)] w fun e w' => e = .returned (.int .i64 0) ∧ Below w.heap.size w w' := fun w => by
        have := one_any (r == 0) w
        rw [if_neg (by simp [hr0])] at this
        exact this
      refine SxQ.mk r hr.symm ?_
      clear hr
      ((try refine sx_use ?_); (repeat (refine SxNew.mk fun _ => ?_; (try refine sx_use ?_))))
      refine SxCall.quiet ho ?_
      ((try refine sx_use ?_); (repeat (refine SxNew.mk fun _ => ?_; (try refine sx_use ?_))))
      refine SxCall.quiet ht ?_
      ((try refine sx_use ?_); (repeat (refine SxNew.mk fun _ => ?_; (try refine sx_use ?_))))
      (try refine SxIf.eqT (by split <;> omega) ?_)
      (try ((try refine sx_use ?_); (repeat (refine SxNew.mk fun _ => ?_; (try refine sx_use ?_)))))
      exact SxDone.mk fun w' hs => ⟨by (try rw [beq_iff_eq.2 (by split <;> omega)]); (try rfl), hs.touch.below⟩
  · refine sx_fn (S := SX) (M := []) (N := 136) (H0 := []) Try.func4 rfl rfl rfl (Sat.nil _ _) ?_
    ((try refine sx_use ?_); (repeat (refine SxNew.mk fun _ => ?_; (try refine sx_use ?_))))
    rw [show ((x : Nat) : Int) % 3652058 = (M : Nat) by rw [hN]; omega]
    refine SxCall.quiet g1 ?_
    ((try refine sx_use ?_); (repeat (refine SxNew.mk fun _ => ?_; (try refine sx_use ?_))))
    rw [show (-719162 + (M : Nat) + 1 : Int) = -719162 + ((M + 1 : Nat) : Int) by omega]
    refine SxCall.quiet e1 ?_
    ((try refine sx_use ?_); (repeat (refine SxNew.mk fun _ => ?_; (try refine sx_use ?_))))
    refine SxCall.quiet rt_awake ?_
    ((try refine sx_use ?_); (repeat (refine SxNew.mk fun _ => ?_; (try refine sx_use ?_))))
    refine SxCall.quiet g2 ?_
    ((try refine sx_use ?_); (repeat (refine SxNew.mk fun _ => ?_; (try refine sx_use ?_))))
    rw [show (-719162 + (M : Nat) + 1 : Int) = -719162 + ((M + 1 : Nat) : Int) by omega]
    refine SxCall.quiet e2 ?_
    ((try refine sx_use ?_); (repeat (refine SxNew.mk fun _ => ?_; (try refine sx_use ?_))))
    refine SxCall.quiet g3 ?_
    ((try refine sx_use ?_); (repeat (refine SxNew.mk fun _ => ?_; (try refine sx_use ?_))))
    rw [show (-719162 + (M : Nat) + 1 : Int) = -719162 + ((M + 1 : Nat) : Int) by omega]
    refine SxCall.quiet e3 ?_
    ((try refine sx_use ?_); (repeat (refine SxNew.mk fun _ => ?_; (try refine sx_use ?_))))
    by_cases hz : M % 7 = 6
    · refine SxQ.mk 0 (Int.tmod_eq_zero_of_dvd ⟨((M : Int) - 719165) / 7, by omega⟩) ?_
      ((try refine sx_use ?_); (repeat (refine SxNew.mk fun _ => ?_; (try refine sx_use ?_))))
      refine SxCall.quiet (one_any true) ?_
      ((try refine sx_use ?_); (repeat (refine SxNew.mk fun _ => ?_; (try refine sx_use ?_))))
      refine SxIf.eqT (by rw [if_pos rfl]; omega) ?_
      ((try refine sx_use ?_); (repeat (refine SxNew.mk fun _ => ?_; (try refine sx_use ?_))))
      refine SxCall.quiet ht ?_
      ((try refine sx_use ?_); (repeat (refine SxNew.mk fun _ => ?_; (try refine sx_use ?_))))
      (try refine SxIf.eqT (by split <;> omega) ?_)
      (try ((try refine sx_use ?_); (repeat (refine SxNew.mk fun _ => ?_; (try refine sx_use ?_)))))
      exact SxDone.mk fun w' hs => ⟨by (try rw [beq_iff_eq.2 (by split <;> omega)]); (try rfl), hs.touch.below⟩
    · obtain ⟨r, hr⟩ : ∃ r, r = (-719162 + (M : Nat) + 1 - 4 : Int).tmod 7 := ⟨_, rfl⟩
      have hr0 : r ≠ 0 := fun h0 => by
        have := Int.dvd_of_tmod_eq_zero (hr.symm.trans h0)
        omega
      have ho : ∀ w, Calls Try.prog 18 #[.bool (r == 0)] w fun e w' => e = .returned (.int .i64 0) ∧ Below w.heap.size w w' := fun w => by
        have := one_any (r == 0) w
        rw [if_neg (by simp [hr0])] at this
        exact this
      refine SxQ.mk r hr.symm ?_
      clear hr
      ((try refine sx_use ?_); (repeat (refine SxNew.mk fun _ => ?_; (try refine sx_use ?_))))
      refine SxCall.quiet ho ?_
      ((try refine sx_use ?_); (repeat (refine SxNew.mk fun _ => ?_; (try refine sx_use ?_))))
      refine SxCall.quiet ht ?_
      ((try refine sx_use ?_); (repeat (refine SxNew.mk fun _ => ?_; (try refine sx_use ?_))))
      (try refine SxIf.eqT (by split <;> omega) ?_)
      (try ((try refine sx_use ?_); (repeat (refine SxNew.mk fun _ => ?_; (try refine sx_use ?_)))))
      exact SxDone.mk fun w' hs => ⟨by (try rw [beq_iff_eq.2 (by split <;> omega)]); (try rfl), hs.touch.below⟩
  · refine sx_fn (S := SX) (M := []) (N := 136) (H0 := []) Try.func4 rfl rfl rfl (Sat.nil _ _) ?_
    ((try refine sx_use ?_); (repeat (refine SxNew.mk fun _ => ?_; (try refine sx_use ?_))))
    rw [show ((x : Nat) : Int) % 3652058 = (M : Nat) by rw [hN]; omega]
    refine SxCall.quiet g1 ?_
    ((try refine sx_use ?_); (repeat (refine SxNew.mk fun _ => ?_; (try refine sx_use ?_))))
    rw [show (-719162 + (M : Nat) + 1 : Int) = -719162 + ((M + 1 : Nat) : Int) by omega]
    refine SxCall.quiet e1 ?_
    ((try refine sx_use ?_); (repeat (refine SxNew.mk fun _ => ?_; (try refine sx_use ?_))))
    refine SxCall.quiet rt_awake ?_
    ((try refine sx_use ?_); (repeat (refine SxNew.mk fun _ => ?_; (try refine sx_use ?_))))
    refine SxCall.quiet g2 ?_
    ((try refine sx_use ?_); (repeat (refine SxNew.mk fun _ => ?_; (try refine sx_use ?_))))
    rw [show (-719162 + (M : Nat) + 1 : Int) = -719162 + ((M + 1 : Nat) : Int) by omega]
    refine SxCall.quiet e2 ?_
    ((try refine sx_use ?_); (repeat (refine SxNew.mk fun _ => ?_; (try refine sx_use ?_))))
    refine SxCall.quiet g3 ?_
    ((try refine sx_use ?_); (repeat (refine SxNew.mk fun _ => ?_; (try refine sx_use ?_))))
    rw [show (-719162 + (M : Nat) + 1 : Int) = -719162 + ((M + 1 : Nat) : Int) by omega]
    refine SxCall.quiet e3 ?_
    ((try refine sx_use ?_); (repeat (refine SxNew.mk fun _ => ?_; (try refine sx_use ?_))))
    by_cases hz : M % 7 = 6
    · refine SxQ.mk 0 (Int.tmod_eq_zero_of_dvd ⟨((M : Int) - 719165) / 7, by omega⟩) ?_
      ((try refine sx_use ?_); (repeat (refine SxNew.mk fun _ => ?_; (try refine sx_use ?_))))
      refine SxCall.quiet (one_any true) ?_
      ((try refine sx_use ?_); (repeat (refine SxNew.mk fun _ => ?_; (try refine sx_use ?_))))
      refine SxIf.eqT (by rw [if_pos rfl]; omega) ?_
      ((try refine sx_use ?_); (repeat (refine SxNew.mk fun _ => ?_; (try refine sx_use ?_))))
      refine SxCall.quiet ht ?_
      ((try refine sx_use ?_); (repeat (refine SxNew.mk fun _ => ?_; (try refine sx_use ?_))))
      (try refine SxIf.eqT (by split <;> omega) ?_)
      (try ((try refine sx_use ?_); (repeat (refine SxNew.mk fun _ => ?_; (try refine sx_use ?_)))))
      exact SxDone.mk fun w' hs => ⟨by (try rw [beq_iff_eq.2 (by split <;> omega)]); (try rfl), hs.touch.below⟩
    · obtain ⟨r, hr⟩ : ∃ r, r = (-719162 + (M : Nat) + 1 - 4 : Int).tmod 7 := ⟨_, rfl⟩
      have hr0 : r ≠ 0 := fun h0 => by
        have := Int.dvd_of_tmod_eq_zero (hr.symm.trans h0)
        omega
      have ho : ∀ w, Calls Try.prog 18 #[.bool (r == 0)] w fun e w' => e = .returned (.int .i64 0) ∧ Below w.heap.size w w' := fun w => by
        have := one_any (r == 0) w
        rw [if_neg (by simp [hr0])] at this
        exact this
      refine SxQ.mk r hr.symm ?_
      clear hr
      ((try refine sx_use ?_); (repeat (refine SxNew.mk fun _ => ?_; (try refine sx_use ?_))))
      refine SxCall.quiet ho ?_
      ((try refine sx_use ?_); (repeat (refine SxNew.mk fun _ => ?_; (try refine sx_use ?_))))
      refine SxCall.quiet ht ?_
      ((try refine sx_use ?_); (repeat (refine SxNew.mk fun _ => ?_; (try refine sx_use ?_))))
      (try refine SxIf.eqT (by split <;> omega) ?_)
      (try ((try refine sx_use ?_); (repeat (refine SxNew.mk fun _ => ?_; (try refine sx_use ?_)))))
      exact SxDone.mk fun w' hs => ⟨by (try rw [beq_iff_eq.2 (by split <;> omega)]); (try rfl), hs.touch.below⟩
end Go.Proofs.Ytiobcjahgmkmiaa
