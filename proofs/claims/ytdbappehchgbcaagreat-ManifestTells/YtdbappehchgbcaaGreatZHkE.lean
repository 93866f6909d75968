/- The walks of layer 7: the document's Zeros; Is. -/
import Derived.Test.YtdbappehchgbcaaGreatZHkD
namespace Go.Proofs.YtdbappehchgbcaaGreat
open Go.RowKit

theorem lz_bits (b : UInt8) : ∀ j : Nat, j < 8 → (b.toNat / 2 ^ (8 - j) = 0 → b.toNat / 2 ^ (7 - j) % 2 = 1 → lz b = j) ∧ (b.toNat / 2 ^ (8 - j) = 0 → ¬ b.toNat / 2 ^ (7 - j) % 2 = 1 → b.toNat / 2 ^ (7 - j) = 0) := by
  refine all_bytes (P := fun b => ∀ j : Nat, j < 8 → (b.toNat / 2 ^ (8 - j) = 0 → b.toNat / 2 ^ (7 - j) % 2 = 1 → lz b = j) ∧ (b.toNat / 2 ^ (8 - j) = 0 → ¬ b.toNat / 2 ^ (7 - j) % 2 = 1 → b.toNat / 2 ^ (7 - j) = 0)) ?_ b
  decide +kernel
theorem lz_pos {b : UInt8} (h : b ≠ 0) : lz b < 8 := by
  revert h
  refine all_bytes (P := fun b => b ≠ 0 → lz b < 8) ?_ b
  decide +kernel
def wrt (j : Nat) : Int := if j < 8 then ((2 ^ (7 - j) : Nat) : Int) else 0
theorem wrt_step (j : Nat) (h : j < 8) : wrt j / 2 = wrt (j + 1) ∧ 0 < wrt j ∧ wrt j ≤ 128 ∧ wrt j = ((2 ^ (7 - j) : Nat) : Int) := by
  have : j = 0 ∨ j = 1 ∨ j = 2 ∨ j = 3 ∨ j = 4 ∨ j = 5 ∨ j = 6 ∨ j = 7 := by omega
  rcases this with h | h | h | h | h | h | h | h <;> subst h <;> decide
set_option maxHeartbeats 1000000 in
theorem RZeros_any (f : List UInt8) (hf : f.length = 32) (w : World) : Calls Tryz.prog 81 #[fpV f] w fun e w' => e = .returned (.int .i64 (zr f : Nat)) ∧ Below w.heap.size w w' := by
  refine sx_fn (S := SX) (M := []) (N := 26) (H0 := []) Tryz.func81 rfl rfl rfl (Sat.nil _ _) ?_
  ((try refine sx_use ?_); (repeat (refine SxNew.mk fun _ => ?_; (try refine sx_use ?_))))
  rename_i b
  refine SxCode.loop (σ := Nat) [4, 3] [6, 7, 5, 10, 11, 12, 13, 14, 15, 16, 17, 18, 19, 20, 2, 21, 22, 3, 23, 24, 8, 9, 4] (fun k => [.int .i64 (k : Nat), .int .i64 ((8 * k : Nat) : Int)]) (fun _ => [.blk b 39 (fpC f)]) (fun k => k ≤ 32 ∧ zr f = 8 * k + zr (f.drop k)) (fun k => 32 - k) 0 [0] rfl rfl rfl rfl ⟨Nat.zero_le _, by rw [List.drop_zero]; omega⟩ ?_
  rintro k ⟨hk, hz⟩
  dsimp only
  ((try refine sx_use ?_); (repeat (refine SxNew.mk fun _ => ?_; (try refine sx_use ?_))))
  refine SxIf.dec (fun h => ?_) (fun h => ?_)
  · have hlt : k < 32 := by omega
    have hzd := zr_drop (f := f) (k := k) (by omega)
    have hgl := getD_lt f k
    ((try refine sx_use ?_); (repeat (refine SxNew.mk fun _ => ?_; (try refine sx_use ?_))))
    refine SxCode.loop (σ := Nat) [5, 3] [10, 11, 12, 13, 14, 15, 16, 17, 18, 19, 20, 2, 21, 22, 3, 23, 24, 5] (fun j => [.int .i64 (wrt j), .int .i64 ((8 * k + j : Nat) : Int)]) (fun _ => [.blk b 39 (fpC f)]) (fun j => j ≤ 8 ∧ (f.getD k 0).toNat / 2 ^ (8 - j) = 0) (fun j => 8 - j) 0 [0] rfl rfl rfl rfl ⟨Nat.zero_le _, by omega⟩ ?_
    rintro j ⟨hj, hb⟩
    dsimp only
    ((try refine sx_use ?_); (repeat (refine SxNew.mk fun _ => ?_; (try refine sx_use ?_))))
    refine SxIf.dec (fun h1 => ?_) (fun h1 => ?_)
    · have hj8 : j < 8 := by
        rcases Nat.lt_or_ge j 8 with h2 | h2
        · exact h2
        · exact absurd h1 (by unfold wrt; rw [if_neg (by omega)]; omega)
      obtain ⟨hw1, hw2, hw3, hw4⟩ := wrt_step j hj8
      obtain ⟨l1, l2⟩ := lz_bits (f.getD k 0) j hj8
      have hdl := Nat.div_le_self (f.getD k 0).toNat (2 ^ (7 - j))
      obtain ⟨q, hq⟩ : ∃ q : Nat, q = (f.getD k 0).toNat / 2 ^ (7 - j) := ⟨_, rfl⟩
      have hdq : ((f.getD k 0).toNat : Int) / wrt j = (q : Nat) := by rw [hw4, hq]; rfl
      have hdiv : ((f.getD k 0).toNat : Int) / wrt j % 2 = ((q % 2 : Nat) : Int) := by rw [hdq]; rfl
      rw [← hq] at hdl l1 l2
      ((try refine sx_use ?_); (repeat (refine SxNew.mk fun _ => ?_; (try refine sx_use ?_))))
      refine SxIdx.mk k rfl hlt ?_
      ((try refine sx_use ?_); (repeat (refine SxNew.mk fun _ => ?_; (try refine sx_use ?_))))
      refine SxLd.blk 0 rfl (v := bV (f.getD k 0)) (by rw [Nat.zero_add, Nat.mul_one]; exact fpC_get (by omega)) ?_
      ((try refine sx_use ?_); (repeat (refine SxNew.mk fun _ => ?_; (try refine sx_use ?_))))
      rw [hdiv]
      refine SxIf.eq (fun h2 => ?_) (fun h2 => ?_)
      · have hl := l1 hb (by omega)
        have hne : f.getD k 0 ≠ 0 := fun h => by rw [h, lz_zero] at hl; omega
        rw [if_neg hne] at hzd
        ((try refine sx_use ?_); (repeat (refine SxNew.mk fun _ => ?_; (try refine sx_use ?_))))
        exact SxDone.mk fun w' hs => ⟨by rw [show zr f = 8 * k + j by omega]; rfl, hs.touch.below⟩
      · have hb2 := l2 hb (by omega)
        ((try refine sx_use ?_); (repeat (refine SxNew.mk fun _ => ?_; (try refine sx_use ?_))))
        exact SxRound.mk (j + 1) [0] (by rw [← hw1]; rfl) rfl rfl ⟨by omega, by rw [show 8 - (j + 1) = 7 - j by omega, ← hq]; exact hb2⟩ (by omega)
    · have hj8 : j = 8 := by
        rcases Nat.lt_or_ge j 8 with h2 | h2
        · have := (wrt_step j h2).2.1; omega
        · omega
      subst hj8
      have he : f.getD k 0 = 0 := UInt8.toNat_inj.1 (by rw [UInt8.toNat_zero]; omega)
      rw [if_pos he] at hzd
      ((try refine sx_use ?_); (repeat (refine SxNew.mk fun _ => ?_; (try refine sx_use ?_))))
      exact SxRound.mk (k + 1) [0] rfl rfl rfl ⟨by omega, by omega⟩ (by omega)
  · obtain rfl : k = 32 := by omega
    ((try refine sx_use ?_); (repeat (refine SxNew.mk fun _ => ?_; (try refine sx_use ?_))))
    exact SxDone.mk fun w' hs => ⟨by rw [show zr f = 8 * 32 by rw [hz, List.drop_of_length_le (by omega)]; rfl]; rfl, hs.touch.below⟩
/-- The number of bits that may be asked. -/
def clampN (n : Int) : Int := if 256 < (if n < 0 then 0 else n) then 256 else (if n < 0 then 0 else n)
def hooksV (g : Nat) : Value := .func (.func 74) #[] #[.pointer (some ⟨g, 0, none⟩)]
theorem hooks_sat {W : World} {M : List Nat} {H : Hp} {w : World} (hs : Sat W M H w) (n : Int) : Calls Tryz.prog 52 #[.int .i64 n] w fun e w' => ∃ g, e = .returned (hooksV g) ∧ Sat W M (.blk g 3 [.int .i64 (clampN n)] :: H) w' := by
  refine sx_fn (S := SX) (N := 8) Tryz.func52 rfl rfl rfl hs ?_
  ((try refine sx_use ?_); (repeat (refine SxNew.mk fun _ => ?_; (try refine sx_use ?_))))
  exact SxDone.mk fun w' hs => ⟨_, rfl, hs⟩
def isF (f : List UInt8) (n : Int) : Bool := decide (((zr f : Nat) : Int) ≥ clampN n)
theorem hooks1_any (f : List UInt8) (hf : f.length = 32) (g : Nat) (m : Int) (w : World) (hb : Blk w g 3 [.int .i64 m]) : Calls Tryz.prog 74 #[fpV f, .pointer (some ⟨g, 0, none⟩)] w fun e w' => e = .returned (.bool (decide (((zr f : Nat) : Int) ≥ m))) ∧ Below w.heap.size w w' := by
  refine sx_fn (S := SX) (M := []) (N := 8) (H0 := [.rd (some ⟨g, 0, none⟩) [.int .i64 m]]) Tryz.func74 rfl rfl rfl (Sat.oneRd _ (Rd_blk hb (by simp [maxLen]))) ?_
  ((try refine sx_use ?_); (repeat (refine SxNew.mk fun _ => ?_; (try refine sx_use ?_))))
  refine SxCode.drawAll rfl [] ?_
  ((try refine sx_use ?_); (repeat (refine SxNew.mk fun _ => ?_; (try refine sx_use ?_))))
  refine SxLdN.blk 0 rfl (vs := fpC f) (by rw [fpC_len, hf]) (fp_vs hf) ?_
  ((try refine sx_use ?_); (repeat (refine SxNew.mk fun _ => ?_; (try refine sx_use ?_))))
  refine SxLd.rd 1 rfl rfl (j := 0) rfl rfl ?_
  ((try refine sx_use ?_); (repeat (refine SxNew.mk fun _ => ?_; (try refine sx_use ?_))))
  refine SxCall.quiet (Zeros_any f hf) ?_
  ((try refine sx_use ?_); (repeat (refine SxNew.mk fun _ => ?_; (try refine sx_use ?_))))
  exact SxDone.mk fun w' hs => ⟨rfl, hs.touch.below⟩
theorem RIs_any (f : List UInt8) (hf : f.length = 32) (n : Int) (w : World) : Calls Tryz.prog 54 #[fpV f, .int .i64 n] w fun e w' => e = .returned (.bool (isF f n)) ∧ Below w.heap.size w w' := by
  have hz := zr_le f
  refine sx_fn (S := SX) (M := []) (N := 11) (H0 := []) Tryz.func54 rfl rfl rfl (Sat.nil _ _) ?_
  ((try refine sx_use ?_); (repeat (refine SxNew.mk fun _ => ?_; (try refine sx_use ?_))))
  refine SxIf.dec (fun h => ?_) (fun h => ?_)
  · ((try refine sx_use ?_); (repeat (refine SxNew.mk fun _ => ?_; (try refine sx_use ?_))))
    refine SxLdN.blk 0 rfl (vs := fpC f) (by rw [fpC_len, hf]) (fp_vs hf) ?_
    ((try refine sx_use ?_); (repeat (refine SxNew.mk fun _ => ?_; (try refine sx_use ?_))))
    refine SxCall.quiet (RZeros_any f hf) ?_
    ((try refine sx_use ?_); (repeat (refine SxNew.mk fun _ => ?_; (try refine sx_use ?_))))
    exact SxDone.mk fun w' hs => ⟨by unfold isF clampN; rw [if_neg (show ¬ n < 0 by omega), if_pos (by omega)]; rfl, hs.touch.below⟩
  · ((try refine sx_use ?_); (repeat (refine SxNew.mk fun _ => ?_; (try refine sx_use ?_))))
    refine SxLdN.blk 0 rfl (vs := fpC f) (by rw [fpC_len, hf]) (fp_vs hf) ?_
    ((try refine sx_use ?_); (repeat (refine SxNew.mk fun _ => ?_; (try refine sx_use ?_))))
    refine SxCall.quiet (RZeros_any f hf) ?_
    ((try refine sx_use ?_); (repeat (refine SxNew.mk fun _ => ?_; (try refine sx_use ?_))))
    refine SxDone.mk fun w' hs => ⟨?_, hs.touch.below⟩
    show Ending.returned (.bool (decide (((zr f : Nat) : Int) ≥ n))) = _
    unfold isF clampN
    congr 2
    rw [decide_eq_decide]
    by_cases h0 : n < 0
    · rw [if_pos h0]; omega
    · rw [if_neg h0]; omega
end Go.Proofs.YtdbappehchgbcaaGreat
