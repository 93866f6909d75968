/- The walks of layer 32: the calendar. -/
import Derived.Test.YtiobcjahgmkmiaaZRtA
import Derived.Test.YtiobcjahgmkmiaaZSxT
namespace Go.Proofs.Ytiobcjahgmkmiaa
open Go.RowKit

theorem beq0 (n k : Nat) : (((n : Nat) : Int) % (k : Nat) == 0) = decide (n % k = 0) := by
  rw [Bool.eq_iff_iff, beq_iff_eq, decide_eq_true_iff]
  omega
theorem leap_any (y : Nat) (h : y ≤ 1000000) (w : World) : Calls Try.prog 43 #[.int .i64 (y : Nat)] w fun e w' => e = .returned (.bool (leapN y)) ∧ Below w.heap.size w w' := by
  refine sx_fn (S := SX) (M := []) (N := 16) (H0 := []) Try.func43 rfl rfl rfl (Sat.nil _ _) ?_
  unfold leapN
  by_cases h4 : y % 4 = 0
  · by_cases h1 : y % 100 = 0
    · rw [show decide (y % 4 = 0 ∧ (y % 100 ≠ 0 ∨ y % 400 = 0)) = (((y : Nat) : Int) % (400 : Nat) == 0) by rw [beq0, decide_eq_decide]; omega]
      ((try refine sx_use ?_); (repeat (refine SxNew.mk fun _ => ?_; (try refine sx_use ?_))))
      exact SxDone.mk fun w' hs => ⟨rfl, hs.touch.below⟩
    · rw [decide_eq_true (show y % 4 = 0 ∧ (y % 100 ≠ 0 ∨ y % 400 = 0) from ⟨h4, .inl h1⟩)]
      ((try refine sx_use ?_); (repeat (refine SxNew.mk fun _ => ?_; (try refine sx_use ?_))))
      exact SxDone.mk fun w' hs => ⟨rfl, hs.touch.below⟩
  · rw [decide_eq_false (show ¬ (y % 4 = 0 ∧ (y % 100 ≠ 0 ∨ y % 400 = 0)) from fun h => h4 h.1)]
    ((try refine sx_use ?_); (repeat (refine SxNew.mk fun _ => ?_; (try refine sx_use ?_))))
    exact SxDone.mk fun w' hs => ⟨rfl, hs.touch.below⟩
theorem Rleap_any (y : Nat) (h : y ≤ 1000000) (w : World) : Calls Try.prog 44 #[.int .i64 (y : Nat)] w fun e w' => e = .returned (.bool (leapN y)) ∧ Below w.heap.size w w' := by
  refine sx_fn (S := SX) (M := []) (N := 16) (H0 := []) Try.func44 rfl rfl rfl (Sat.nil _ _) ?_
  unfold leapN
  by_cases h4 : y % 4 = 0
  · by_cases h1 : y % 100 = 0
    · rw [show decide (y % 4 = 0 ∧ (y % 100 ≠ 0 ∨ y % 400 = 0)) = (((y : Nat) : Int) % (400 : Nat) == 0) by rw [beq0, decide_eq_decide]; omega]
      ((try refine sx_use ?_); (repeat (refine SxNew.mk fun _ => ?_; (try refine sx_use ?_))))
      exact SxDone.mk fun w' hs => ⟨rfl, hs.touch.below⟩
    · rw [decide_eq_true (show y % 4 = 0 ∧ (y % 100 ≠ 0 ∨ y % 400 = 0) from ⟨h4, .inl h1⟩)]
      ((try refine sx_use ?_); (repeat (refine SxNew.mk fun _ => ?_; (try refine sx_use ?_))))
      exact SxDone.mk fun w' hs => ⟨rfl, hs.touch.below⟩
  · rw [decide_eq_false (show ¬ (y % 4 = 0 ∧ (y % 100 ≠ 0 ∨ y % 400 = 0)) from fun h => h4 h.1)]
    ((try refine sx_use ?_); (repeat (refine SxNew.mk fun _ => ?_; (try refine sx_use ?_))))
    exact SxDone.mk fun w' hs => ⟨rfl, hs.touch.below⟩
theorem dm_30 {m : Nat} (h : m = 4 ∨ m = 6 ∨ m = 9 ∨ m = 11) (y : Nat) : daysN y m = 30 := by unfold daysN; rw [if_neg (by omega), if_pos h]
theorem dm_31 {m : Nat} (h2 : m ≠ 2) (h : ¬ (m = 4 ∨ m = 6 ∨ m = 9 ∨ m = 11)) (y : Nat) : daysN y m = 31 := by unfold daysN; rw [if_neg h2, if_neg h]
theorem days_any (y m : Nat) (h : y ≤ 1000000) (w : World) : Calls Try.prog 28 #[.int .i64 (y : Nat), .int .i64 (m : Nat)] w fun e w' => e = .returned (.int .i64 (daysN y m : Nat)) ∧ Below w.heap.size w w' := by
  refine sx_fn (S := SX) (M := []) (N := 15) (H0 := []) Try.func28 rfl rfl rfl (Sat.nil _ _) ?_
  by_cases h2 : m = 2
  · subst h2
    ((try refine sx_use ?_); (repeat (refine SxNew.mk fun _ => ?_; (try refine sx_use ?_))))
    refine SxCall.quiet (leap_any y h) ?_
    unfold daysN
    rw [if_pos rfl]
    cases hl : leapN y
    · ((try refine sx_use ?_); (repeat (refine SxNew.mk fun _ => ?_; (try refine sx_use ?_))))
      exact SxDone.mk fun w' hs => ⟨rfl, hs.touch.below⟩
    · ((try refine sx_use ?_); (repeat (refine SxNew.mk fun _ => ?_; (try refine sx_use ?_))))
      exact SxDone.mk fun w' hs => ⟨rfl, hs.touch.below⟩
  · by_cases h3 : m = 4 ∨ m = 6 ∨ m = 9 ∨ m = 11
    · rw [dm_30 h3]
      rcases h3 with rfl | rfl | rfl | rfl
      all_goals ((try refine sx_use ?_); (repeat (refine SxNew.mk fun _ => ?_; (try refine sx_use ?_))))
      all_goals exact SxDone.mk fun w' hs => ⟨rfl, hs.touch.below⟩
    · rw [dm_31 h2 h3]
      ((try refine sx_use ?_); (repeat (refine SxNew.mk fun _ => ?_; (try refine sx_use ?_))))
      exact SxDone.mk fun w' hs => ⟨rfl, hs.touch.below⟩
def ahI (y : Nat) : Int := (ahN y : Nat)
theorem ahead_any (y : Nat) (h1 : 1 ≤ y) (h : y ≤ 1000000) (w : World) : Calls Try.prog 29 #[.int .i64 (y : Nat)] w fun e w' => e = .returned (.int .i64 (ahN y : Nat)) ∧ Below w.heap.size w w' := by
  refine sx_fn (S := SX) (M := []) (N := 17) (H0 := []) Try.func29 rfl rfl rfl (Sat.nil _ _) ?_
  obtain ⟨n, rfl⟩ : ∃ n, y = n + 1 := ⟨y - 1, by omega⟩
  ((try refine sx_use ?_); (repeat (refine SxNew.mk fun _ => ?_; (try refine sx_use ?_))))
  refine SxDone.mk fun w' hs => ⟨?_, hs.touch.below⟩
  show Ending.returned (.int .i64 _) = _
  congr 2
  unfold ahN
  omega
def isDB (y m d : Int) : Prop := 1 ≤ y ∧ y ≤ 9999 ∧ 1 ≤ m ∧ m ≤ 12 ∧ 1 ≤ d ∧ d ≤ (daysN y.toNat m.toNat : Nat)
instance (y m d : Int) : Decidable (isDB y m d) := by unfold isDB; infer_instance
theorem isDB_D {y m d : Int} (h : isDB y m d) : IsD y.toNat m.toNat d.toNat := by
  obtain ⟨a, b, c, e, f, g⟩ := h
  exact ⟨by omega, by omega, by omega, by omega, by omega, by omega⟩
set_option maxHeartbeats 1000000 in
theorem Day_any (y m d : Int) (w : World) : Calls Try.prog 8 #[.int .i64 y, .int .i64 m, .int .i64 d] w fun e w' => e = .returned (if isDB y m d then .tuple #[.int .i64 (-719162 + (numD y.toNat m.toNat d.toNat : Nat)), .int .i64 0] else .tuple #[.int .i64 0, .int .i64 5]) ∧ Below w.heap.size w w' := by
  refine sx_fn (S := SX) (M := []) (N := 52) (H0 := []) Try.func8 rfl rfl rfl (Sat.nil _ _) ?_
  by_cases hy : 1 ≤ y ∧ y ≤ 9999 ∧ 1 ≤ m ∧ m ≤ 12
  · obtain ⟨y1, y2, m1, m2⟩ := hy
    obtain ⟨yn, rfl⟩ : ∃ n : Nat, y = n := ⟨y.toNat, by omega⟩
    obtain ⟨mn, rfl⟩ : ∃ n : Nat, m = n := ⟨m.toNat, by omega⟩
    by_cases hd1 : 1 ≤ d
    · obtain ⟨dn, rfl⟩ : ∃ n : Nat, d = n := ⟨d.toNat, by omega⟩
      have hdb := daysN_bd yn mn
      ((try refine sx_use ?_); (repeat (refine SxNew.mk fun _ => ?_; (try refine sx_use ?_))))
      refine SxCall.quiet (days_any yn mn (by omega)) ?_
      ((try refine sx_use ?_); (repeat (refine SxNew.mk fun _ => ?_; (try refine sx_use ?_))))
      refine SxIf.dec (fun h => ?_) (fun h => ?_)
      · rw [if_neg (fun hh : isDB _ _ _ => by have := hh.2.2.2.2.2; simp only [Int.toNat_natCast] at this; omega)]
        ((try refine sx_use ?_); (repeat (refine SxNew.mk fun _ => ?_; (try refine sx_use ?_))))
        exact SxDone.mk fun w' hs => ⟨rfl, hs.touch.below⟩
      · have his : isDB (yn : Nat) (mn : Nat) (dn : Nat) := ⟨y1, y2, m1, m2, hd1, by simp only [Int.toNat_natCast]; omega⟩
        have hD := isDB_D his
        have hlt := numD_lt hD
        simp only [Int.toNat_natCast] at hD hlt
        have hal := (ahN_le yn (by omega)).1
        rw [if_pos his]
        simp only [Int.toNat_natCast]
        ((try refine sx_use ?_); (repeat (refine SxNew.mk fun _ => ?_; (try refine sx_use ?_))))
        refine SxCall.quiet (ahead_any yn (by omega) (by omega)) ?_
        ((try refine sx_use ?_); (repeat (refine SxNew.mk fun _ => ?_; (try refine sx_use ?_))))
        refine SxCode.loop (σ := Nat) [9, 8] [41, 42, 43, 46, 47, 48, 49, 50, 8, 44, 45, 9] (fun k => [.int .i64 (k : Nat), .int .i64 (-719162 + (ahN yn : Nat) + (dn : Nat) - 1 + (moN yn k : Nat))]) (fun _ => []) (fun k => 1 ≤ k ∧ k ≤ mn) (fun k => mn - k) 1 [] rfl (by rw [show (-719162 + ((ahN yn : Nat) : Int) + (dn : Nat) - 1 + (moN yn 1 : Nat)) = -719162 + ((ahN yn : Nat) : Int) + (dn : Nat) - 1 by rw [moN_one]; omega]; rfl) rfl rfl ⟨Nat.le_refl _, by omega⟩ ?_
        rintro k ⟨k1, k2⟩
        have hmk := moN_mono (y := yn) k2
        have hms := moN_succ yn k k1
        unfold numD at hlt
        ((try refine sx_use ?_); (repeat (refine SxNew.mk fun _ => ?_; (try refine sx_use ?_))))
        refine SxIf.dec (fun h2 => ?_) (fun h2 => ?_)
        · have hdk := daysN_bd yn k
          ((try refine sx_use ?_); (repeat (refine SxNew.mk fun _ => ?_; (try refine sx_use ?_))))
          refine SxCall.quiet (days_any yn k (by omega)) ?_
          ((try refine sx_use ?_); (repeat (refine SxNew.mk fun _ => ?_; (try refine sx_use ?_))))
          exact SxRound.mk (k + 1) [] (by rw [show (-719162 + ((ahN yn : Nat) : Int) + (dn : Nat) - 1 + (moN yn (k + 1) : Nat)) = -719162 + ((ahN yn : Nat) : Int) + (dn : Nat) - 1 + (moN yn k : Nat) + (daysN yn k : Nat) by rw [hms]; omega]; rfl) rfl rfl ⟨by omega, by omega⟩ (by omega)
        · obtain rfl : k = mn := by omega
          ((try refine sx_use ?_); (repeat (refine SxNew.mk fun _ => ?_; (try refine sx_use ?_))))
          refine SxDone.mk fun w' hs => ⟨?_, hs.touch.below⟩
          have h1 := hD.d1
          rw [show (-719162 + ((numD yn k dn : Nat) : Int)) = -719162 + ((ahN yn : Nat) : Int) + (dn : Nat) - 1 + (moN yn k : Nat) by unfold numD; omega]
          rfl
    · rw [if_neg (fun hh : isDB _ _ _ => hd1 hh.2.2.2.2.1)]
      ((try refine sx_use ?_); (repeat (refine SxNew.mk fun _ => ?_; (try refine sx_use ?_))))
      exact SxDone.mk fun w' hs => ⟨rfl, hs.touch.below⟩
  · rw [if_neg (fun hh : isDB _ _ _ => hy ⟨hh.1, hh.2.1, hh.2.2.1, hh.2.2.2.1⟩)]
    by_cases a : y < 1
    · ((try refine sx_use ?_); (repeat (refine SxNew.mk fun _ => ?_; (try refine sx_use ?_))))
      exact SxDone.mk fun w' hs => ⟨rfl, hs.touch.below⟩
    · by_cases b : y > 9999
      · ((try refine sx_use ?_); (repeat (refine SxNew.mk fun _ => ?_; (try refine sx_use ?_))))
        exact SxDone.mk fun w' hs => ⟨rfl, hs.touch.below⟩
      · by_cases c : m < 1
        · ((try refine sx_use ?_); (repeat (refine SxNew.mk fun _ => ?_; (try refine sx_use ?_))))
          exact SxDone.mk fun w' hs => ⟨rfl, hs.touch.below⟩
        · have e : m > 12 := by omega
          ((try refine sx_use ?_); (repeat (refine SxNew.mk fun _ => ?_; (try refine sx_use ?_))))
          exact SxDone.mk fun w' hs => ⟨rfl, hs.touch.below⟩
end Go.Proofs.Ytiobcjahgmkmiaa
