/- Layers 8 and 23: what settings may be; the first segment. -/
import Derived.Test.YtlmefcepdadfjaaGreatZGen
import Derived.Test.YtlmefcepdadfjaaGreatZCutA
namespace Go.Proofs.YtlmefcepdadfjaaGreat
open Go.RowKit

def segC (c : Nat → Int) : Bool := decide (1 ≤ c 4 ∧ c 4 ≤ c 5 ∧ c 5 ≤ 256 ∧ 1 ≤ c 6 ∧ c 6 ≤ 1048576)
def inC (n lo hi : Int) : Bool := decide (lo ≤ n ∧ n ≤ hi)
theorem In_any (n lo hi : Int) (w : World) : Calls Tryz.prog 50 #[.int .i64 n, .int .i64 lo, .int .i64 hi] w fun e w' => e = .returned (.bool (inC n lo hi)) ∧ Below w.heap.size w w' := by
  by_cases h1 : lo ≤ n
  all_goals
    refine sx_fn (S := SX) (M := []) (N := 15) (H0 := []) Tryz.func50 rfl rfl rfl (Sat.nil _ _) ?_
    ((try refine sU ?_);repeat(refine sN fun _=>?_;try refine sU ?_))
    refine SxDone.mk fun w' hs => ⟨?_, hs.touch.below⟩
    simp [inC, h1, resV]
theorem RIn_any (n lo hi : Int) (w : World) : Calls Tryz.prog 32 #[.int .i64 n, .int .i64 lo, .int .i64 hi] w fun e w' => e = .returned (.bool (inC n lo hi)) ∧ Below w.heap.size w w' := by
  by_cases h1 : lo ≤ n
  all_goals
    refine sx_fn (S := SX) (M := []) (N := 15) (H0 := []) Tryz.func32 rfl rfl rfl (Sat.nil _ _) ?_
    ((try refine sU ?_);repeat(refine sN fun _=>?_;try refine sU ?_))
    refine SxDone.mk fun w' hs => ⟨?_, hs.touch.below⟩
    simp [inC, h1, resV]
theorem SMay_any (c : Nat → Int) (w : World) : Calls Tryz.prog 52 #[confA c] w fun e w' => e = .returned (.bool (segC c)) ∧ Below w.heap.size w w' := by
  refine sx_fn (S := SX) (M := []) (N := 28) (H0 := []) Tryz.func52 rfl rfl rfl (Sat.nil _ _) ?_
  ((try refine sU ?_);repeat(refine sN fun _=>?_;try refine sU ?_))
  repeat' (refine SxIf.dec (fun h => ?_) (fun h => ?_) <;> ((try refine sU ?_);repeat(refine sN fun _=>?_;try refine sU ?_)))
  all_goals
    refine SxDone.mk fun w' hs => ⟨?_, hs.touch.below⟩
    show Ending.returned (.bool _) = .returned (.bool _)
    congr 2
    unfold segC
    simp only [ge_iff_le] at *
    first
      | (rw [decide_eq_decide]; omega)
      | (symm; rw [decide_eq_true_iff]; omega)
      | (symm; rw [decide_eq_false_iff_not]; omega)
theorem RSMay_any (c : Nat → Int) (w : World) : Calls Tryz.prog 80 #[confA c] w fun e w' => e = .returned (.bool (segC c)) ∧ Below w.heap.size w w' := by
  refine sx_fn (S := SX) (M := []) (N := 28) (H0 := []) Tryz.func80 rfl rfl rfl (Sat.nil _ _) ?_
  ((try refine sU ?_);repeat(refine sN fun _=>?_;try refine sU ?_))
  repeat' (refine SxIf.dec (fun h => ?_) (fun h => ?_) <;> ((try refine sU ?_);repeat(refine sN fun _=>?_;try refine sU ?_)))
  all_goals
    refine SxDone.mk fun w' hs => ⟨?_, hs.touch.below⟩
    show Ending.returned (.bool _) = .returned (.bool _)
    congr 2
    unfold segC
    simp only [ge_iff_le] at *
    first
      | (rw [decide_eq_decide]; omega)
      | (symm; rw [decide_eq_true_iff]; omega)
      | (symm; rw [decide_eq_false_iff_not]; omega)
def endC (c : Nat → Int) (i : Nat) (f : List UInt8) : Bool := decide ((i : Int) + 1 = c 5 ∨ (c 4 ≤ (i : Int) + 1 ∧ ((beV (f.take 4) : Nat) : Int) % c 6 = 0))
def enderV (g : Nat) : Value := .func (.func 119) #[] #[.pointer (some ⟨g, 0, none⟩)]
theorem ender_sat {W : World} {M : List Nat} {H : Hp} {w : World} (hs : Sat W M H w) (c : Nat → Int) : Calls Tryz.prog 95 #[confA c] w fun e w' => ∃ g, e = .returned (enderV g) ∧ Sat W M (.blk g 23 (tab 13 (confV c)) :: H) w' := by
  refine sx_fn (S := SX) (N := 4) Tryz.func95 rfl rfl rfl hs ?_
  ((try refine sU ?_);repeat(refine sN fun _=>?_;try refine sU ?_))
  exact SxDone.mk fun w' hs => ⟨_, rfl, hs⟩
theorem ender1_any (c : Nat → Int) (hc : segC c = true) (i : Nat) (hi : i < 1000000000) (f : List UInt8) (hf : f.length = 32) (g : Nat) (w : World) (hb : Blk w g 23 (tab 13 (confV c))) : Calls Tryz.prog 119 #[.int .i64 i, fpV f, .pointer (some ⟨g, 0, none⟩)] w fun e w' => e = .returned (.bool (endC c i f)) ∧ Below w.heap.size w w' := by
  have hc' : 1 ≤ c 4 ∧ c 4 ≤ c 5 ∧ c 5 ≤ 256 ∧ 1 ≤ c 6 ∧ c 6 ≤ 1048576 := by unfold segC at hc; exact of_decide_eq_true hc
  have hbs : ((beV (f.take 4) : Nat) : Int) < 4294967296 := by
    have := beV_lt 4 f
    omega
  have hv : ∀ b : Bool, (b = true ↔ ((i : Int) + 1 = c 5 ∨ (c 4 ≤ (i : Int) + 1 ∧ ((beV (f.take 4) : Nat) : Int) % c 6 = 0))) → b = endC c i f := by
    intro b h; unfold endC; rw [Bool.eq_iff_iff, h, decide_eq_true_iff]
  refine sx_fn (S := SX) (M := []) (N := 27) (H0 := [.rd (some ⟨g, 0, none⟩) (tab 13 (confV c))]) Tryz.func119 rfl rfl rfl (Sat.oneRd _ (Rd_blk hb (by simp [tab, maxLen]))) ?_
  by_cases h1 : (i : Int) + 1 = c 5
  · ((try refine sU ?_);repeat(refine sN fun _=>?_;try refine sU ?_))
    refine SxCode.drawAll rfl [] ?_
    ((try refine sU ?_);repeat(refine sN fun _=>?_;try refine sU ?_))
    refine SxLd.rd 1 rfl rfl (j := 5) (v := .int .i64 (c 5)) rfl rfl ?_
    ((try refine sU ?_);repeat(refine sN fun _=>?_;try refine sU ?_))
    refine SxDone.mk fun w' hs => ⟨?_, hs.touch.below⟩
    rw [← hv true (by simp [h1])]
    rfl
  · by_cases h2 : c 4 ≤ (i : Int) + 1
    · ((try refine sU ?_);repeat(refine sN fun _=>?_;try refine sU ?_))
      refine SxCode.drawAll rfl [] ?_
      ((try refine sU ?_);repeat(refine sN fun _=>?_;try refine sU ?_))
      refine SxLd.rd 1 rfl rfl (j := 5) (v := .int .i64 (c 5)) rfl rfl ?_
      ((try refine sU ?_);repeat(refine sN fun _=>?_;try refine sU ?_))
      refine SxLd.rd 1 rfl rfl (j := 4) (v := .int .i64 (c 4)) rfl rfl ?_
      ((try refine sU ?_);repeat(refine sN fun _=>?_;try refine sU ?_))
      refine SxLdN.blk 0 rfl (vs := fpC f) (by rw [fpC_len, hf]) (fp_vs hf) ?_
      ((try refine sU ?_);repeat(refine sN fun _=>?_;try refine sU ?_))
      refine SxLd.rd 1 rfl rfl (j := 6) (v := .int .i64 (c 6)) rfl rfl ?_
      ((try refine sU ?_);repeat(refine sN fun _=>?_;try refine sU ?_))
      refine SxRng.u32 (by omega) (by omega) ?_
      ((try refine sU ?_);repeat(refine sN fun _=>?_;try refine sU ?_))
      refine SxCall.quiet (Num_any f hf) ?_
      ((try refine sU ?_);repeat(refine sN fun _=>?_;try refine sU ?_))
      refine SxDone.mk fun w' hs => ⟨?_, hs.touch.below⟩
      rw [← hv (((beV (f.take 4) : Nat) : Int) % c 6 == 0) (by simp [h1, h2])]
      rfl
    · ((try refine sU ?_);repeat(refine sN fun _=>?_;try refine sU ?_))
      refine SxCode.drawAll rfl [] ?_
      ((try refine sU ?_);repeat(refine sN fun _=>?_;try refine sU ?_))
      refine SxLd.rd 1 rfl rfl (j := 5) (v := .int .i64 (c 5)) rfl rfl ?_
      ((try refine sU ?_);repeat(refine sN fun _=>?_;try refine sU ?_))
      refine SxLd.rd 1 rfl rfl (j := 4) (v := .int .i64 (c 4)) rfl rfl ?_
      ((try refine sU ?_);repeat(refine sN fun _=>?_;try refine sU ?_))
      refine SxDone.mk fun w' hs => ⟨?_, hs.touch.below⟩
      rw [← hv false (by simp [h1, h2])]
      rfl
end Go.Proofs.YtlmefcepdadfjaaGreat
