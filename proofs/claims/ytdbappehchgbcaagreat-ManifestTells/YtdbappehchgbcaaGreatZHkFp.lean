/- Fingerprints as elements of rows. -/
import Derived.Test.YtdbappehchgbcaaGreatZHkE
import Derived.Test.YtdbappehchgbcaaGreatZGen
namespace Go.Proofs.YtdbappehchgbcaaGreat
open Go.RowKit

abbrev Fp := {f : List UInt8 // f.length = 32}
instance : Inhabited Fp := ⟨⟨List.replicate 32 0, rfl⟩⟩
theorem fpC_one : ∀ f : List UInt8, allOne (fpC f) = true
  | [] => rfl
  | _ :: f => fpC_one f
def fpE : Enc Fp := ⟨fun f => fpC f.1, 32, by decide, fun f => by rw [fpC_len, f.2], fun f => fpC_one f.1⟩
theorem SxRun.eqFp {x y : Fp} {o1 o2 : Operand} {A : Value → Prop} (h : A (.bool (decide (x = y)))) : SxRun SX.P (do eqGuard .eql 39 o1 o2 (fpV x.1) (fpV y.1); binOp .eql 39 (fpV x.1) (fpV y.1)) A :=
  SxRun.fpEq x.2 y.2 (by rw [show decide (x.1 = y.1) = decide (x = y) by rw [decide_eq_decide]; exact Subtype.ext_iff.symm]; exact h)
theorem SxRun.neFp {x y : Fp} {o1 o2 : Operand} {A : Value → Prop} (h : A (.bool (!decide (x = y)))) : SxRun SX.P (do eqGuard .neq 39 o1 o2 (fpV x.1) (fpV y.1); binOp .neq 39 (fpV x.1) (fpV y.1)) A :=
  SxRun.fpNe x.2 y.2 (by rw [show decide (x.1 = y.1) = decide (x = y) by rw [decide_eq_decide]; exact Subtype.ext_iff.symm]; exact h)
end Go.Proofs.YtdbappehchgbcaaGreat
