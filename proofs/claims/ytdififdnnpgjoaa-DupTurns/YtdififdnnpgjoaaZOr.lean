/- cmp.Or of two numbers. -/
import Derived.Test.YtdififdnnpgjoaaZGen
import Derived.Test.YtdififdnnpgjoaaZSxT
import Derived.Lib.Small
namespace Go.Proofs.Ytdififdnnpgjoaa
open Go.RowKit

def orI (a b : Int) : Int := if a ≠ 0 then a else b
theorem Or2_any (a b : Int) (ao : Option Addr) (cap : Nat) (w : World) (hr : Rd w ao [.int .i64 a, .int .i64 b]) :
    Calls Try.prog 28 #[.slice ao 2 cap] w fun e w' => e = .returned (.int .i64 (orI a b)) ∧ Below w.heap.size w w' := by
  refine sx_fn (S := SX) (M := []) (N := 18) (H0 := [.rd ao [.int .i64 a, .int .i64 b]]) Try.func28 rfl rfl rfl (Sat.oneRd _ hr) ?_
  ((try refine sx_use ?_); (repeat (refine SxNew.mk fun _ => ?_; (try refine sx_use ?_))))
  refine SxCode.loop (σ := Nat) [8] [9, 10, 11, 5, 12, 13, 14, 15, 2, 16, 8] (fun k => [.int .i64 (k : Nat)]) (fun _ => [.rd ao [.int .i64 a, .int .i64 b]]) (fun k => k ≤ 2 ∧ (0 < k → a = 0) ∧ (1 < k → b = 0)) (fun k => 2 - k) 0 [0] rfl rfl rfl rfl ⟨Nat.zero_le _, fun h => absurd h (Nat.lt_irrefl _), fun h => absurd h (by decide)⟩ ?_
  rintro k ⟨hk, h0, h1⟩
  have hc : k = 0 ∨ k = 1 ∨ k = 2 := by omega
  rcases hc with rfl | rfl | rfl
  · ((try refine sx_use ?_); (repeat (refine SxNew.mk fun _ => ?_; (try refine sx_use ?_))))
    refine SxIA.rd 0 _ rfl 0 rfl (by omega) (by simp) fun g off ha => ?_
    ((try refine sx_use ?_); (repeat (refine SxNew.mk fun _ => ?_; (try refine sx_use ?_))))
    refine SxLd.rd 0 rfl ha rfl (j := 0) rfl ?_
    ((try refine sx_use ?_); (repeat (refine SxNew.mk fun _ => ?_; (try refine sx_use ?_))))
    refine SxIf.ne (fun h => ?_) (fun h => ?_)
    · ((try refine sx_use ?_); (repeat (refine SxNew.mk fun _ => ?_; (try refine sx_use ?_))))
      exact SxDone.mk fun w' hs => ⟨by unfold orI; rw [if_pos h]; rfl, hs.touch.below⟩
    · ((try refine sx_use ?_); (repeat (refine SxNew.mk fun _ => ?_; (try refine sx_use ?_))))
      exact SxRound.mk 1 [0] rfl rfl rfl ⟨by omega, fun _ => by omega, fun h => absurd h (by decide)⟩ (by omega)
  · have ha0 := h0 (by omega)
    ((try refine sx_use ?_); (repeat (refine SxNew.mk fun _ => ?_; (try refine sx_use ?_))))
    refine SxIA.rd 0 _ rfl 1 rfl (by omega) (by simp) fun g off ha => ?_
    ((try refine sx_use ?_); (repeat (refine SxNew.mk fun _ => ?_; (try refine sx_use ?_))))
    refine SxLd.rd 0 rfl ha rfl (j := 1) rfl ?_
    ((try refine sx_use ?_); (repeat (refine SxNew.mk fun _ => ?_; (try refine sx_use ?_))))
    refine SxIf.ne (fun h => ?_) (fun h => ?_)
    · ((try refine sx_use ?_); (repeat (refine SxNew.mk fun _ => ?_; (try refine sx_use ?_))))
      exact SxDone.mk fun w' hs => ⟨by unfold orI; rw [if_neg (by omega)]; rfl, hs.touch.below⟩
    · ((try refine sx_use ?_); (repeat (refine SxNew.mk fun _ => ?_; (try refine sx_use ?_))))
      exact SxRound.mk 2 [0] rfl rfl rfl ⟨by omega, fun _ => ha0, fun _ => by omega⟩ (by omega)
  · have ha0 := h0 (by omega)
    have hb0 := h1 (by omega)
    ((try refine sx_use ?_); (repeat (refine SxNew.mk fun _ => ?_; (try refine sx_use ?_))))
    exact SxDone.mk fun w' hs => ⟨by unfold orI; rw [if_neg (by omega), hb0]; rfl, hs.touch.below⟩
theorem cI_bd (x y : Int) : -1 ≤ Go.Lib.compareInt x y ∧ Go.Lib.compareInt x y ≤ 1 := by unfold Go.Lib.compareInt; split; · omega
                                                                                         split <;> omega
end Go.Proofs.Ytdififdnnpgjoaa
