/- The walks of layer 15: number, Check, Size; Entry, May, Same. -/
import Derived.Test.YtdififdnnpgjoaaZSlEn
namespace Go.Proofs.Ytdififdnnpgjoaa
open Go.RowKit

def mnV (id : Int) (ao : Option Addr) (n cap : Nat) : Value := .agg #[.int .u32 id, .slice ao n cap]
def okNo (x : Int) : Prop := 1 ≤ x ∧ x ≤ 4294967294
instance (x : Int) : Decidable (okNo x) := by unfold okNo; infer_instance
def okEn (e : En) : Prop := 1 ≤ e.ln ∧ e.ln ≤ 4096 ∧ okNo e.bx ∧ 0 ≤ e.sl ∧ e.sl < 256
instance (e : En) : Decidable (okEn e) := by unfold okEn; infer_instance
def allEn (es : List En) : Prop := ∀ e ∈ es, okEn e
instance (es : List En) : Decidable (allEn es) := by unfold allEn; infer_instance
def sizeM (n : Int) : Int := if 1 ≤ n ∧ n ≤ 256 then 14 + n * 40 else 0
/-- P15.1: may there be such a manifest? -/
def mayM (id : Int) (es : List En) : Prop := okNo id ∧ 1 ≤ es.length ∧ es.length ≤ 256 ∧ allEn es
instance (id : Int) (es : List En) : Decidable (mayM id es) := by unfold mayM; infer_instance
end Go.Proofs.Ytdififdnnpgjoaa
