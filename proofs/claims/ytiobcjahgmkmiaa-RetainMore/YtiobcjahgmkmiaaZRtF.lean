/- The walks of layer 32: Sort. -/
import Derived.Test.YtiobcjahgmkmiaaZSlBk
import Derived.Test.YtiobcjahgmkmiaaZSlBr
import Derived.Test.YtiobcjahgmkmiaaZShelf
import Derived.Test.YtiobcjahgmkmiaaZLyBk
namespace Go.Proofs.Ytiobcjahgmkmiaa
open Go.RowKit Go.Sort Go.Shelf

def orI (a b : Int) : Int := if a ≠ 0 then a else b
theorem Or2_any (a b : Int) (ao : Option Addr) (cap : Nat) (w : World) (hr : Rd w ao [.int .i64 a, .int .i64 b]) :
    Calls Try.prog 36 #[.slice ao 2 cap] w fun e w' => e = .returned (.int .i64 (orI a b)) ∧ Below w.heap.size w w' := by
  refine sx_fn (S := SX) (M := []) (N := 18) (H0 := [.rd ao [.int .i64 a, .int .i64 b]]) Try.func36 rfl rfl rfl (Sat.oneRd _ hr) ?_
  ((try refine sx_use ?_); (repeat (refine SxNew.mk fun _ => ?_; (try refine sx_use ?_))))
  refine SxCode.loop (σ := Nat) [8] [9, 10, 11, 5, 12, 13, 14, 15, 2, 16, 8] (fun k => [.int .i64 (k : Nat)]) (fun _ => [.rd ao [.int .i64 a, .int .i64 b]]) (fun k => k ≤ 2 ∧ (0 < k → a = 0) ∧ (1 < k → b = 0)) (fun k => 2 - k) 0 [0] rfl rfl rfl rfl ⟨Nat.zero_le _, fun h => absurd h (Nat.lt_irrefl _), fun h => absurd h (by decide)⟩ ?_
  rintro k ⟨hk, h0, h1⟩
  have hc : k = 0 ∨ k = 1 ∨ k = 2 := by omega
  rcases hc with rfl | rfl | rfl
  · ((try refine sx_use ?_); (repeat (refine SxNew.mk fun _ => ?_; (try refine sx_use ?_))))
    refine SxIA.rd 0 _ rfl 0 rfl (by omega) (by simp) fun g off ha => ?_
    ((try refine sx_use ?_); (repeat (refine SxNew.mk fun _ => ?_; (try refine sx_use ?_))))
    refine SxLd.rd 0 rfl ha rfl (j := 0) rfl ?_
    ((try refine sx_use ?_); (repeat (refine SxNew.mk fun _ => ?_; (try refine sx_use ?_))))
    refine SxIf.ne (fun h => ?_) (fun h => ?_)
    · ((try refine sx_use ?_); (repeat (refine SxNew.mk fun _ => ?_; (try refine sx_use ?_))))
      exact SxDone.mk fun w' hs => ⟨by unfold orI; rw [if_pos h]; rfl, hs.touch.below⟩
    · ((try refine sx_use ?_); (repeat (refine SxNew.mk fun _ => ?_; (try refine sx_use ?_))))
      exact SxRound.mk 1 [0] rfl rfl rfl ⟨by omega, fun _ => by omega, fun h => absurd h (by decide)⟩ (by omega)
  · have ha0 := h0 (by omega)
    ((try refine sx_use ?_); (repeat (refine SxNew.mk fun _ => ?_; (try refine sx_use ?_))))
    refine SxIA.rd 0 _ rfl 1 rfl (by omega) (by simp) fun g off ha => ?_
    ((try refine sx_use ?_); (repeat (refine SxNew.mk fun _ => ?_; (try refine sx_use ?_))))
    refine SxLd.rd 0 rfl ha rfl (j := 1) rfl ?_
    ((try refine sx_use ?_); (repeat (refine SxNew.mk fun _ => ?_; (try refine sx_use ?_))))
    refine SxIf.ne (fun h => ?_) (fun h => ?_)
    · ((try refine sx_use ?_); (repeat (refine SxNew.mk fun _ => ?_; (try refine sx_use ?_))))
      exact SxDone.mk fun w' hs => ⟨by unfold orI; rw [if_neg (by omega)]; rfl, hs.touch.below⟩
    · ((try refine sx_use ?_); (repeat (refine SxNew.mk fun _ => ?_; (try refine sx_use ?_))))
      exact SxRound.mk 2 [0] rfl rfl rfl ⟨by omega, fun _ => ha0, fun _ => by omega⟩ (by omega)
  · have ha0 := h0 (by omega)
    have hb0 := h1 (by omega)
    ((try refine sx_use ?_); (repeat (refine SxNew.mk fun _ => ?_; (try refine sx_use ?_))))
    exact SxDone.mk fun w' hs => ⟨by unfold orI; rw [if_neg (by omega), hb0]; rfl, hs.touch.below⟩
def cfK (a b : Bk) : Int := orI (Go.Lib.compareInt b.day a.day) (cB b.nm a.nm)
def ltK (a b : Bk) : Prop := b.day < a.day ∨ (a.day = b.day ∧ cB b.nm a.nm < 0)
theorem cfK_iff (a b : Bk) : cfK a b < 0 ↔ ltK a b := by
  unfold cfK ltK orI Go.Lib.compareInt
  by_cases h1 : b.day < a.day
  · rw [if_pos h1]; simp [h1]
  · rw [if_neg h1]
    by_cases h2 : b.day > a.day
    · rw [if_pos h2]
      simp only [ne_eq, Int.one_ne_zero, not_false_eq_true, if_true]
      constructor
      · intro h; omega
      · rintro (h | ⟨h, _⟩) <;> omega
    · rw [if_neg h2]
      simp only [ne_eq, not_true_eq_false, if_false]
      constructor
      · intro h; exact .inr ⟨by omega, h⟩
      · rintro (h | ⟨_, h⟩)
        · omega
        · exact h
theorem ltK_ord : Ordr ltK where
  irr := fun x h => by
    rcases h with h | ⟨_, h⟩
    · omega
    · exact cB_ord.irr _ h
  tr := fun x y z h1 h2 => by
    rcases h1 with h1 | ⟨h1, h3⟩
    · rcases h2 with h2 | ⟨h2, _⟩
      · exact .inl (by omega)
      · exact .inl (by omega)
    · rcases h2 with h2 | ⟨h2, h4⟩
      · exact .inl (by omega)
      · exact .inr ⟨by omega, cB_trans h4 h3⟩
  tri := fun x y h1 h2 => by
    unfold ltK at h1 h2
    have hd : x.day = y.day := by
      rcases Int.lt_trichotomy x.day y.day with h | h | h
      · exact absurd (.inl h) h2
      · exact h
      · exact absurd (.inl h) h1
    have hn := cB_ord.tri x.nm y.nm (fun h => h2 (.inr ⟨hd.symm, h⟩)) (fun h => h1 (.inr ⟨hd, h⟩))
    obtain ⟨nm, d⟩ := x
    obtain ⟨nm', d'⟩ := y
    simp only at hd hn
    rw [hd, hn]
def ltbK (a b : Bk) : Bool := decide (a.day > b.day) || (decide (a.day = b.day) && decide (cB b.nm a.nm < 0))
theorem ltbK_iff (a b : Bk) : ltbK a b = true ↔ ltK a b := by
  unfold ltbK ltK
  simp only [Bool.or_eq_true, Bool.and_eq_true, decide_eq_true_eq, gt_iff_lt]
theorem cI_bd (x y : Int) : -1 ≤ Go.Lib.compareInt x y ∧ Go.Lib.compareInt x y ≤ 1 := by unfold Go.Lib.compareInt; split; · omega
                                                                                         split <;> omega
theorem Sort1_any (a b : Bk) (w : World) : Calls Try.prog 35 #[.agg (bkC a).toArray, .agg (bkC b).toArray] w fun e w' => e = .returned (.int .i64 (cfK a b)) ∧ Below w.heap.size w w' := by
  refine sx_fn (S := SX) (M := []) (N := 17) (H0 := []) Try.func35 rfl rfl rfl (Sat.nil _ _) ?_
  ((try refine sx_use ?_); (repeat (refine SxNew.mk fun _ => ?_; (try refine sx_use ?_))))
  refine SxCode.drawAll rfl [] ?_
  ((try refine sx_use ?_); (repeat (refine SxNew.mk fun _ => ?_; (try refine sx_use ?_))))
  refine SxCall.pure (fun w => (Try.cmp_Compare_int b.day a.day w).mono fun e w' h => ⟨h.1, h.2.symm⟩) ?_
  ((try refine sx_use ?_); (repeat (refine SxNew.mk fun _ => ?_; (try refine sx_use ?_))))
  refine SxCall.pure (fun w => (Try.strings_Compare ⟨b.nm.toArray⟩ ⟨a.nm.toArray⟩ w).mono fun e w' h => ⟨h.1, h.2.symm⟩) ?_
  ((try refine sx_use ?_); (repeat (refine SxNew.mk fun _ => ?_; (try refine sx_use ?_))))
  refine SxCall.quietS (fun w hs => Or2_any (Go.Lib.compareInt b.day a.day) (cB b.nm a.nm) _ _ w (hs.rowRd 0 rfl (by show (2 : Nat) ≤ maxLen; decide))) ?_
  ((try refine sx_use ?_); (repeat (refine SxNew.mk fun _ => ?_; (try refine sx_use ?_))))
  exact SxDone.mk fun w' hs => ⟨rfl, hs.touch.below⟩
abbrev sortK (l : List Bk) : List Bk := setS cfK l
theorem Sort_any (l : List Bk) (hl : l.length ≤ 1000000) (ao : Option Addr) (cap : Nat) (w : World) (hr : Rd w ao (bkE.fl l)) :
    Calls Try.prog 22 #[.slice ao l.length cap] w fun e w' => ∃ ao' cap', e = .returned (.slice ao' (sortK l).length cap') ∧ NewRow w w' ao' (sortK l).length cap' 55 2 (bkE.fl (sortK l)) := by
  refine sx_fn (S := SX) (M := []) (N := 10) (H0 := [.rd ao (bkE.fl l)]) Try.func22 rfl rfl rfl (Sat.oneRd _ hr) ?_
  ((try refine sx_use ?_); (repeat (refine SxNew.mk fun _ => ?_; (try refine sx_use ?_))))
  refine SxCall.newRow (fun w hs => (CloneBk_any l ao cap hl w (hs.rd 0 rfl)).mono fun e w' ⟨ao', cap', h1, h2⟩ => ⟨ao', cap', h1, h2⟩) fun ao' cap' => ?_
  ((try refine sx_use ?_); (repeat (refine SxNew.mk fun _ => ?_; (try refine sx_use ?_))))
  refine SxCall.sort (S := SX) (cf := cfK) (g := 35) (cb := #[]) (l := l) (n := l.length) Try.layBk bkE Try.isAgg55 Try.sizeOf55 (cmpOk_of ltK_ord cfK_iff) (enters_of Try.func35 (by kernel_rfl) rfl) 0 rfl (by omega) (fun x y w w' _ _ => Sort1_any x y w') ?_
  ((try refine sx_use ?_); (repeat (refine SxNew.mk fun _ => ?_; (try refine sx_use ?_))))
  have e : l.length = (sorted cfK l).length := (sorted_len cfK l).symm
  rw [e]
  refine SxCall.mk fun w hs => (CompactBk_sat hs 0 (by rw [sorted_len]; exact hl) rfl).mono fun en w' he => ⟨_, _, he.1, he.2, ?_⟩
  ((try refine sx_use ?_); (repeat (refine SxNew.mk fun _ => ?_; (try refine sx_use ?_))))
  exact SxDone.mk fun w' hs => ⟨ao', cap', rfl, hs.newRow 0 rfl⟩
theorem Rahead_any (a b : Bk) (w : World) : Calls Try.prog 40 #[.agg (bkC a).toArray, .agg (bkC b).toArray] w fun e w' => e = .returned (.bool (ltbK a b)) ∧ Below w.heap.size w w' := by
  refine sx_fn (S := SX) (M := []) (N := 24) (H0 := []) Try.func40 rfl rfl rfl (Sat.nil _ _) ?_
  ((try refine sx_use ?_); (repeat (refine SxNew.mk fun _ => ?_; (try refine sx_use ?_))))
  refine SxIf.dec (fun h => ?_) (fun h => ?_)
  · ((try refine sx_use ?_); (repeat (refine SxNew.mk fun _ => ?_; (try refine sx_use ?_))))
    exact SxDone.mk fun w' hs => ⟨by unfold ltbK; rw [decide_eq_true h]; rfl, hs.touch.below⟩
  · ((try refine sx_use ?_); (repeat (refine SxNew.mk fun _ => ?_; (try refine sx_use ?_))))
    refine SxIf.eq (fun h1 => ?_) (fun h1 => ?_)
    · ((try refine sx_use ?_); (repeat (refine SxNew.mk fun _ => ?_; (try refine sx_use ?_))))
      refine SxDone.mk fun w' hs => ⟨?_, hs.touch.below⟩
      have h2 : strLt ⟨a.nm.toArray⟩ ⟨b.nm.toArray⟩ = decide (cB a.nm b.nm < 0) := strLt_cB _ _
      show Ending.returned (.bool (!(strLt ⟨a.nm.toArray⟩ ⟨b.nm.toArray⟩ || strEq ⟨a.nm.toArray⟩ ⟨b.nm.toArray⟩))) = _
      congr 2
      unfold ltbK
      rw [decide_eq_false h, decide_eq_true h1, h2, cB_swap a.nm b.nm, Bool.false_or, Bool.true_and, Bool.eq_iff_iff]
      simp only [Bool.not_eq_true', Bool.or_eq_false_iff, decide_eq_false_iff_not, decide_eq_true_eq]
      constructor
      · rintro ⟨h3, h4⟩
        rcases Int.lt_trichotomy (cB a.nm b.nm) 0 with h5 | h5 | h5
        · exact absurd h5 h3
        · have := cB_zero h5
          rw [this, (strEq_iff _ _).2 rfl] at h4
          cases h4
        · omega
      · intro h3
        refine ⟨by omega, ?_⟩
        cases hc : strEq ⟨a.nm.toArray⟩ ⟨b.nm.toArray⟩ with
        | false => rfl
        | true =>
          have := mkb_inj ((strEq_iff _ _).1 hc)
          rw [this, cB_self] at h3
          omega
    · ((try refine sx_use ?_); (repeat (refine SxNew.mk fun _ => ?_; (try refine sx_use ?_))))
      exact SxDone.mk fun w' hs => ⟨by unfold ltbK; rw [decide_eq_false h, decide_eq_false h1]; rfl, hs.touch.below⟩
end Go.Proofs.Ytiobcjahgmkmiaa
