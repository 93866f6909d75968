/- The walks: Turn and Join of package weigh; Of, Turn and Join of the document's. -/
import Derived.Test.YtbbngmlgpjepnaaZWg
namespace Go.Proofs.Ytbbngmlgpjepnaa
open Go.RowKit

theorem xor_top (R : Nat) (h : R < 2 ^ 63) : R ^^^ 2 ^ 63 = 2 ^ 63 + R := by
  have h1 := Nat.two_pow_add_eq_or_of_lt (i := 63) h 1
  rw [Nat.mul_one] at h1
  rw [h1]
  apply Nat.eq_of_testBit_eq
  intro i
  rw [Nat.testBit_xor, Nat.testBit_or, Nat.testBit_two_pow]
  by_cases hi : 63 = i
  · subst hi
    have : R.testBit 63 = false := Nat.testBit_lt_two_pow h
    simp [this]
  · simp [hi]
theorem negF_W {a : Nat} {n : Int} (ha : IsW a n) : IsW (Op.negFloat .f64 a) (-n) := by
  obtain ⟨_, hb, s, rfl, h1, h2⟩ := ha
  have hneg : Op.negFloat .f64 (fW s n.natAbs) = fW (!s) n.natAbs := by
    rcases Nat.eq_zero_or_pos n.natAbs with h0 | h0
    · rw [h0, fW_zero, fW_zero]; cases s <;> decide +kernel
    · rw [fW_word s _ h0 hb, fW_word (!s) _ h0 hb]
      have hf := full_bounds h0 hb
      have hl := log2_lt53 h0 hb
      have hr : rungOf n.natAbs < 9223372036854775808 := by unfold rungOf; omega
      have hx := xor_top (rungOf n.natAbs) hr
      have hx2 : (2 ^ 63 + rungOf n.natAbs) ^^^ 2 ^ 63 = rungOf n.natAbs := by rw [← hx, Nat.xor_assoc, Nat.xor_self, Nat.xor_zero]
      have hsw : Ieee.double.signWeight = 2 ^ 63 := dbl_sign
      show (Ieee.double.word s (rungOf n.natAbs)) ^^^ 2 ^ 63 = Ieee.double.word (!s) (rungOf n.natAbs)
      unfold Ieee.Format.word
      rw [hsw]
      cases s
      · exact hx
      · exact hx2
  rw [hneg, ← Int.natAbs_neg]
  exact isW_fW (!s) (-n) (by rw [Int.natAbs_neg]; exact hb) (fun h => by rw [h2 (by omega)]; rfl) (fun h => by rw [h1 (by omega)]; rfl)
def turnW (a b : Int) : Nat → Int × Int
  | 0 => (a, b)
  | k + 1 => (-(turnW a b k).2, (turnW a b k).1)
theorem turnW_bd (a b : Int) : ∀ k, (turnW a b k).1.natAbs ≤ max a.natAbs b.natAbs ∧ (turnW a b k).2.natAbs ≤ max a.natAbs b.natAbs
  | 0 => by simp only [turnW]; omega
  | k + 1 => by have := turnW_bd a b k; simp only [turnW, Int.natAbs_neg]; omega
theorem Turn_any (a b : Nat) (m n : Int) (ha : IsW a m) (hb : IsW b n) (k : Nat) (hk : k ≤ 1000000000) (w : World) :
    Calls Try.prog 59 #[.complex .f64 a b, .int .i64 k] w fun e w' => e = .returned (wv (turnW m n (k % 4)).1 (turnW m n (k % 4)).2) ∧ Below w.heap.size w w' := by
  refine sx_fn (S := SX) (M := []) (N := 23) (H0 := []) Try.func59 rfl rfl rfl (Sat.nil _ _) ?_
  ((try refine sx_use ?_); (repeat (refine SxNew.mk fun _ => ?_; (try refine sx_use ?_))))
  refine SxCall.quiet (may_any a b m n ha hb) ?_
  ((try refine sx_use ?_); (repeat (refine SxNew.mk fun _ => ?_; (try refine sx_use ?_))))
  refine SxCode.loop (σ := Nat × Nat × Nat) [12, 0] [13, 14, 15, 16, 17, 18, 19, 0, 20, 12] (fun x => [.int .i64 (x.1 : Nat), .complex .f64 x.2.1 x.2.2]) (fun _ => []) (fun x => x.1 ≤ k % 4 ∧ IsW x.2.1 (turnW m n x.1).1 ∧ IsW x.2.2 (turnW m n x.1).2) (fun x => k % 4 - x.1) (0, a, b) [] rfl rfl rfl rfl ⟨Nat.zero_le _, ha, hb⟩ ?_
  rintro ⟨j, U, V⟩ ⟨hj, hU, hV⟩
  dsimp only at hj hU hV ⊢
  ((try refine sx_use ?_); (repeat (refine SxNew.mk fun _ => ?_; (try refine sx_use ?_))))
  refine SxIf.dec (fun h => ?_) (fun h => ?_)
  · have hlt : j < k % 4 := by omega
    ((try refine sx_use ?_); (repeat (refine SxNew.mk fun _ => ?_; (try refine sx_use ?_))))
    refine SxRun.fneg (r := Op.negFloat .f64 V) rfl ?_
    ((try refine sx_use ?_); (repeat (refine SxNew.mk fun _ => ?_; (try refine sx_use ?_))))
    exact SxRound.mk (j + 1, Op.negFloat .f64 V, U) [] rfl rfl rfl ⟨by dsimp only; omega, negF_W hV, hU⟩ (by dsimp only; omega)
  · obtain rfl : j = k % 4 := by omega
    ((try refine sx_use ?_); (repeat (refine SxNew.mk fun _ => ?_; (try refine sx_use ?_))))
    refine SxCall.quiet (plain_any U V _ _ hU hV) ?_
    ((try refine sx_use ?_); (repeat (refine SxNew.mk fun _ => ?_; (try refine sx_use ?_))))
    exact SxDone.mk fun w' hs => ⟨rfl, hs.touch.below⟩
theorem WJoin_any (a b c d : Nat) (A B C D : Int) (ha : IsW a A) (hb : IsW b B) (hc : IsW c C) (hd : IsW d D) (k : Nat) (hk : k ≤ 1000000000) (h1 : (A + (turnW C D (k % 4)).1).natAbs < 9007199254740992) (h2 : (B + (turnW C D (k % 4)).2).natAbs < 9007199254740992) (w : World) :
    Calls Try.prog 30 #[.complex .f64 a b, .int .i64 k, .complex .f64 c d] w fun e w' => e = .returned (wv (A + (turnW C D (k % 4)).1) (B + (turnW C D (k % 4)).2)) ∧ Below w.heap.size w w' := by
  have hbd := turnW_bd C D (k % 4)
  have hcb := hc.2.1
  have hdb := hd.2.1
  have e1 := cadd_W ha hb (isW_fI (turnW C D (k % 4)).1 (by omega)) (isW_fI (turnW C D (k % 4)).2 (by omega)) h1 h2 (.inr rfl) (.inr rfl)
  refine sx_fn (S := SX) (M := []) (N := 21) (H0 := []) Try.func30 rfl rfl rfl (Sat.nil _ _) ?_
  ((try refine sx_use ?_); (repeat (refine SxNew.mk fun _ => ?_; (try refine sx_use ?_))))
  refine SxCall.quiet (may_any a b A B ha hb) ?_
  ((try refine sx_use ?_); (repeat (refine SxNew.mk fun _ => ?_; (try refine sx_use ?_))))
  refine SxCall.quiet (may_any c d C D hc hd) ?_
  ((try refine sx_use ?_); (repeat (refine SxNew.mk fun _ => ?_; (try refine sx_use ?_))))
  refine SxCall.quiet (Turn_any c d C D hc hd k hk) ?_
  ((try refine sx_use ?_); (repeat (refine SxNew.mk fun _ => ?_; (try refine sx_use ?_))))
  refine SxRun.cadd e1 ?_
  ((try refine sx_use ?_); (repeat (refine SxNew.mk fun _ => ?_; (try refine sx_use ?_))))
  refine SxCall.quiet (plain_any _ _ _ _ (isW_fI _ h1) (isW_fI _ h2)) ?_
  ((try refine sx_use ?_); (repeat (refine SxNew.mk fun _ => ?_; (try refine sx_use ?_))))
  exact SxDone.mk fun w' hs => ⟨rfl, hs.touch.below⟩
end Go.Proofs.Ytbbngmlgpjepnaa
