/- The law of any text. -/
import Derived.Test.YtoacohlbelfkcaaZShaS
import Derived.Test.YtoacohlbelfkcaaZSxT
import Derived.Test.YtoacohlbelfkcaaZSxb
namespace Go.Proofs.Ytoacohlbelfkcaa
open Go.RowKit

theorem tab32_ok (st : Nat → Nat) : allK (reps 32 [.int .u8]) (tab 32 (sumV st)) = true := rfl
theorem ShaSums_law (w : World) (s : ByteArray) (hs : s.size ≤ maxLen) :
    Calls Try.prog 3 #[.string s] w fun e w' => e = .returned (.bool true) ∧ Below w.heap.size w w' := by
  refine sx_fn (S := SX) (M := []) (N := 16) (H0 := []) Try.func3 rfl rfl rfl (Sat.nil _ _) ?_
  ((try refine sx_use ?_); (repeat (refine SxNew.mk fun _ => ?_; (try refine sx_use ?_))))
  refine SxIf.dec (fun h => ?_) (fun h => ?_)
  · ((try refine sx_use ?_); (repeat (refine SxNew.mk fun _ => ?_; (try refine sx_use ?_))))
    refine SxCall.quiet awake_any ?_
    ((try refine sx_use ?_); (repeat (refine SxNew.mk fun _ => ?_; (try refine sx_use ?_))))
    exact SxDone.mk fun w' hs => ⟨rfl, hs.touch.below⟩
  have h1 : s.size ≤ 1000 := by omega
  have hj : joinL [s] = s.data.toList := by simp [joinL]
  ((try refine sx_use ?_); (repeat (refine SxNew.mk fun _ => ?_; (try refine sx_use ?_))))
  refine SxCall.quietS (v := .agg (tab 32 (sumV (shaS s.data.toList))).toArray) (fun w1 hs1 => ?_) ?_
  · have := Sum_any [s] (by rw [hj]; simp; omega) (by simp) _ 1 w1 (hs1.rowRd 0 rfl (by rw [maxLen_val]; simp))
    rw [hj] at this
    exact this
  ((try refine sx_use ?_); (repeat (refine SxNew.mk fun _ => ?_; (try refine sx_use ?_))))
  refine SxCall.quiet (v := .agg (tab 32 (sumV (shaS s.data.toList))).toArray) (fun W => RSum_any s (by omega) (fun W => RPad_any s.size (by omega) W) W) ?_
  ((try refine sx_use ?_); (repeat (refine SxNew.mk fun _ => ?_; (try refine sx_use ?_))))
  refine SxRun.eq 3 rfl (ks := reps 32 [.int .u8]) rfl rfl (by kernel_rfl) rfl rfl rfl ?_
  ((try refine sx_use ?_); (repeat (refine SxNew.mk fun _ => ?_; (try refine sx_use ?_))))
  refine SxIf.at ((cellsEq_iff (tab32_ok _) (tab32_ok _)).2 rfl) ?_
  ((try refine sx_use ?_); (repeat (refine SxNew.mk fun _ => ?_; (try refine sx_use ?_))))
  refine SxCall.quiet awake_any ?_
  ((try refine sx_use ?_); (repeat (refine SxNew.mk fun _ => ?_; (try refine sx_use ?_))))
  exact SxDone.mk fun w' hs => ⟨rfl, hs.touch.below⟩
end Go.Proofs.Ytoacohlbelfkcaa
