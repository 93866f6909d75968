/- '==' and '!=' of truth values. No program is named here. -/
import Derived.Test.YtdbappehchgbcaaZSxb
namespace Go.Proofs.Ytdbappehchgbcaa
open Go.RowKit

theorem SxRun.blNe {P : Program} {A : Value → Prop} {t : Nat} {x y : Operand} {a b : Bool} (h : P.underlying t = some .bool) (hA : A (.bool (a != b))) : SxRun P (do eqGuard .neq t x y (.bool a) (.bool b); binOp .neq t (.bool a) (.bool b)) A :=
  ⟨_, fun w => by have : (Op.equal t (.bool a) (.bool b)).run P w = .ok (a == b) w := run_equalIn_bool' (P := P) w 9999 t a b h; simp [eqGuard, binOp, this, bne], hA⟩
theorem SxRun.blEq {P : Program} {A : Value → Prop} {t : Nat} {x y : Operand} {a b : Bool} (h : P.underlying t = some .bool) (hA : A (.bool (a == b))) : SxRun P (do eqGuard .eql t x y (.bool a) (.bool b); binOp .eql t (.bool a) (.bool b)) A :=
  ⟨_, fun w => by have : (Op.equal t (.bool a) (.bool b)).run P w = .ok (a == b) w := run_equalIn_bool' (P := P) w 9999 t a b h; simp [eqGuard, binOp, this], hA⟩
end Go.Proofs.Ytdbappehchgbcaa
