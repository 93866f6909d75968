/- Rows of texts, of numbers. No program is named here but its types. -/
import Derived.Test.YtipmmknecadkkaaZOpnR
import Derived.Test.YtipmmknecadkkaaZGen
import Derived.Test.YtipmmknecadkkaaZSxT
namespace Go.Proofs.Ytipmmknecadkkaa
open Go.RowKit

instance instBA : Inhabited ByteArray := ⟨ByteArray.empty⟩
def strE : Enc ByteArray := ⟨fun s => [.string s], 1, by decide, fun _ => rfl, fun _ => rfl⟩
theorem open_strs {w : World} {d : Nat} {v : Value} (hv : FitK Try.prog w (d + 1) (.slice 9) v) : ∃ (ao : Option Addr) (n cap : Nat), v = .slice ao n cap ∧ n ≤ maxLen ∧ ∃ l : List ByteArray, l.length = min n 1000 ∧ Rd w ao (strE.fl l) :=
  open_rows strE (by decide) [.str] hv (by kernel_rfl) (by kernel_rfl) rfl fun cs h => by
    obtain ⟨hl, hf⟩ := h
    match cs, hl with
    | [x], _ =>
      obtain ⟨s, rfl, _⟩ := fitK_str (hf 0 _ _ rfl rfl)
      exact ⟨s, rfl⟩
theorem strE_len (l : List ByteArray) : (strE.fl l).length = l.length * 1 := strE.fl_len l
theorem strE_at {l : List ByteArray} {k : Nat} {x : ByteArray} (h : l[k]? = some x) : (strE.fl l)[k * 1]? = some (.string x) := strE.fl_cell (j := 0) h rfl
def natE : Enc Nat := ⟨fun n => [.int .i64 (n : Nat)], 1, by decide, fun _ => rfl, fun _ => rfl⟩
theorem natE_len (l : List Nat) : (natE.fl l).length = l.length * 1 := natE.fl_len l
theorem natE_at {l : List Nat} {k : Nat} {x : Nat} (h : l[k]? = some x) : (natE.fl l)[k * 1]? = some (.int .i64 (x : Nat)) := natE.fl_cell (j := 0) h rfl
end Go.Proofs.Ytipmmknecadkkaa
