/-
  No cell of these rows narrows 'for every input' (looked for: loops, veiled, ifaces, maps, wideKeys, modest, calm, conditions, laid).
  DERIVED. THE GIVEN ROWS OF THIS SEAT. 5 by the template 'for every input the law returns true; each argument reads behind the call as it read before'; 0 by the template 'total and deterministic' (their statements: YtffkjbcelbfejaaTotals.lean).
  GIVEN WITH THE SEED: the statements are not yours to turn. If you find one false, say at which input.
  Laid BY PROGRAM, IN A SANDBOX (cutbox-rows.mjs): the forced cells as the released guide's own fill.sh prints them over the translation f4fddf75aae44fd2… (all of the seat's roots in one cut). By AI agents, Wed Nov 11 2026. No macro, syntax, notation, axiom, sorry.
-/
import Derived.Test.YtffkjbcelbfejaaChecked
import GoSem.Claim
import GoSem.ClaimJoined
import GoSem.ClaimMapViews
import Derived.JoinedTies
import Derived.KernelRfl
namespace Go.Proofs.Ytffkjbcelbfejaa
/- THE CELL 'sum', in the pinned program and in every row, IS THE sha256 OF THE DUMP (.gsa) THAT YtffkjbcelbfejaaProg.lean LOADS. Nothing in Lean hashes anything: it is a label: what it is worth is what the hold of that sum in a sandbox is worth. -/
noncomputable def Try.pinned : Pinned := { name := "ytffkjbcelbfejaa", sum := "f4fddf75aae44fd262fb68b591d8e051efc9aa20ef43f81b3c2b7685a4ac18f8", checked := Try.checked }
namespace Rows
def none {H : Type} : Left H := { results := [], args := [] }

/-- 'sheaflaw07.HookTexts': WHATEVER THE INPUT: true; the input reads as it did. -/
def hookTextsSpec : ChangeSpec := { name := "hookTexts", fn := fun _ => fun
  | [d] => { results := [.lit (.bool true)], args := [d] }
  | _ => none }
def hookTextsRow : OpenClaim := { program := "ytffkjbcelbfejaa", sum := "f4fddf75aae44fd262fb68b591d8e051efc9aa20ef43f81b3c2b7685a4ac18f8", func := "sheaf/sheaflaw07.HookTexts", spec := "hookTexts", inPlace := ["internal/abi.NoEscape", "internal/bytealg.IndexByteString", "internal/bytealg.Compare"], unfollowed := true, recurses := true, apart := false }
def HookTextsSaid : Prop := hookTextsRow.holds Try.pinned (OpenSpec.ofChange hookTextsSpec)

/-- ITS FALSE NEIGHBOUR: 'it returns false'. Refute it at one input. -/
def hookTextsWrong : ChangeSpec := { name := "hookTexts", fn := fun _ => fun
  | [d] => { results := [.lit (.bool false)], args := [d] }
  | _ => none }
def HookTextsWrongFalsely : Prop := hookTextsRow.holds Try.pinned (OpenSpec.ofChange hookTextsWrong)

/-- 'sheaflaw07.HookParses': WHATEVER THE INPUT: true; the input reads as it did. -/
def hookParsesSpec : ChangeSpec := { name := "hookParses", fn := fun _ => fun
  | [d] => { results := [.lit (.bool true)], args := [d] }
  | _ => none }
def hookParsesRow : OpenClaim := { program := "ytffkjbcelbfejaa", sum := "f4fddf75aae44fd262fb68b591d8e051efc9aa20ef43f81b3c2b7685a4ac18f8", func := "sheaf/sheaflaw07.HookParses", spec := "hookParses", inPlace := ["internal/bytealg.IndexByteString", "internal/abi.NoEscape", "internal/bytealg.Compare"], unfollowed := true, recurses := true, apart := false }
def HookParsesSaid : Prop := hookParsesRow.holds Try.pinned (OpenSpec.ofChange hookParsesSpec)

/-- ITS FALSE NEIGHBOUR: 'it returns false'. Refute it at one input. -/
def hookParsesWrong : ChangeSpec := { name := "hookParses", fn := fun _ => fun
  | [d] => { results := [.lit (.bool false)], args := [d] }
  | _ => none }
def HookParsesWrongFalsely : Prop := hookParsesRow.holds Try.pinned (OpenSpec.ofChange hookParsesWrong)

/-- 'sheaflaw07.HookZeros': WHATEVER THE INPUT: true; the input reads as it did. -/
def hookZerosSpec : ChangeSpec := { name := "hookZeros", fn := fun _ => fun
  | [d1, d2, d3] => { results := [.lit (.bool true)], args := [d1, d2, d3] }
  | _ => none }
def hookZerosRow : OpenClaim := { program := "ytffkjbcelbfejaa", sum := "f4fddf75aae44fd262fb68b591d8e051efc9aa20ef43f81b3c2b7685a4ac18f8", func := "sheaf/sheaflaw07.HookZeros", spec := "hookZeros", inPlace := ["internal/bytealg.Compare", "internal/abi.NoEscape", "internal/bytealg.IndexByteString"], unfollowed := true, recurses := true, apart := false }
def HookZerosSaid : Prop := hookZerosRow.holds Try.pinned (OpenSpec.ofChange hookZerosSpec)

/-- ITS FALSE NEIGHBOUR: 'it returns false'. Refute it at one input. -/
def hookZerosWrong : ChangeSpec := { name := "hookZeros", fn := fun _ => fun
  | [d1, d2, d3] => { results := [.lit (.bool false)], args := [d1, d2, d3] }
  | _ => none }
def HookZerosWrongFalsely : Prop := hookZerosRow.holds Try.pinned (OpenSpec.ofChange hookZerosWrong)

/-- 'sheaflaw07.HookSets': WHATEVER THE INPUT: true; the input reads as it did. -/
def hookSetsSpec : ChangeSpec := { name := "hookSets", fn := fun _ => fun
  | [d1, d2, d3] => { results := [.lit (.bool true)], args := [d1, d2, d3] }
  | _ => none }
def hookSetsRow : OpenClaim := { program := "ytffkjbcelbfejaa", sum := "f4fddf75aae44fd262fb68b591d8e051efc9aa20ef43f81b3c2b7685a4ac18f8", func := "sheaf/sheaflaw07.HookSets", spec := "hookSets", inPlace := ["internal/abi.NoEscape", "internal/bytealg.IndexByteString", "internal/bytealg.Compare"], unfollowed := true, recurses := true, apart := false }
def HookSetsSaid : Prop := hookSetsRow.holds Try.pinned (OpenSpec.ofChange hookSetsSpec)

/-- ITS FALSE NEIGHBOUR: 'it returns false'. Refute it at one input. -/
def hookSetsWrong : ChangeSpec := { name := "hookSets", fn := fun _ => fun
  | [d1, d2, d3] => { results := [.lit (.bool false)], args := [d1, d2, d3] }
  | _ => none }
def HookSetsWrongFalsely : Prop := hookSetsRow.holds Try.pinned (OpenSpec.ofChange hookSetsWrong)

/-- 'sheaflaw07.HookPairs': WHATEVER THE INPUT: true; the input reads as it did. -/
def hookPairsSpec : ChangeSpec := { name := "hookPairs", fn := fun _ => fun
  | [d1, d2] => { results := [.lit (.bool true)], args := [d1, d2] }
  | _ => none }
def hookPairsRow : OpenClaim := { program := "ytffkjbcelbfejaa", sum := "f4fddf75aae44fd262fb68b591d8e051efc9aa20ef43f81b3c2b7685a4ac18f8", func := "sheaf/sheaflaw07.HookPairs", spec := "hookPairs", inPlace := ["internal/abi.NoEscape", "internal/bytealg.IndexByteString", "internal/bytealg.Compare"], unfollowed := true, recurses := true, apart := false }
def HookPairsSaid : Prop := hookPairsRow.holds Try.pinned (OpenSpec.ofChange hookPairsSpec)

/-- ITS FALSE NEIGHBOUR: 'it returns false'. Refute it at one input. -/
def hookPairsWrong : ChangeSpec := { name := "hookPairs", fn := fun _ => fun
  | [d1, d2] => { results := [.lit (.bool false)], args := [d1, d2] }
  | _ => none }
def HookPairsWrongFalsely : Prop := hookPairsRow.holds Try.pinned (OpenSpec.ofChange hookPairsWrong)

/- THE SECOND FORM. 'bulk': how many values and letters a reading holds, each counted each time it is reached (what is shared counts as often as it is met; a slice's spare places count too). A statement '..UptoSaid' is the law's where the arguments, and the package variables that the reading takes, are together of bulk at most 1048576: NARROWER than '..Said'. Prove '..Said' where nothing that the law and all that it calls make is longer than what came in: it says more and counts as full. Else prove '..UptoSaid'. A law counts once. -/
mutual
def uptoBulk {H : Type} : DataW H → Nat
  | .lit (.string bytes) => bytes.length + 1
  | .lit _ => 1
  | .nil => 1
  | .ptr d => uptoBulk d + 1
  | .slice elems spare => uptoBulkAll elems + uptoBulkAll spare + 1
  | .agg parts => uptoBulkAll parts + 1
  | .iface _ d => uptoBulk d + 1
  | .map entries => uptoBulkEntries entries + 1
  | .held _ => 1
def uptoBulkAll {H : Type} : List (DataW H) → Nat
  | [] => 0
  | d :: r => uptoBulk d + uptoBulkAll r
def uptoBulkEntries {H : Type} : List (Lit × DataW H) → Nat
  | [] => 0
  | x :: r => uptoBulkEntry x + uptoBulkEntries r
def uptoBulkEntry {H : Type} : Lit × DataW H → Nat
  | (.string bytes, d) => bytes.length + uptoBulk d + 1
  | (_, d) => uptoBulk d + 1
 end
def uptoSmall : (H : Type) → List (DataW H) → Bool := fun _ ds => decide (uptoBulkAll ds ≤ 1048576)
def OpenSpec.upto (s : _root_.Go.ChangeSpec) : _root_.Go.OpenSpec := { _root_.Go.OpenSpec.ofChange s with cond := some uptoSmall }

/-- 'sheaflaw07.HookTexts', WHERE WHAT IT READS IS OF BULK AT MOST 1048576: true; the input reads as it did. -/
def hookTextsUptoRow : OpenClaim := { program := "ytffkjbcelbfejaa", sum := "f4fddf75aae44fd262fb68b591d8e051efc9aa20ef43f81b3c2b7685a4ac18f8", func := "sheaf/sheaflaw07.HookTexts", spec := "hookTexts", inPlace := ["internal/abi.NoEscape", "internal/bytealg.IndexByteString", "internal/bytealg.Compare"], unfollowed := true, recurses := true, apart := false, narrowed := true }
def HookTextsUptoSaid : Prop := hookTextsUptoRow.holds Try.pinned (OpenSpec.upto hookTextsSpec)

/-- 'sheaflaw07.HookParses', WHERE WHAT IT READS IS OF BULK AT MOST 1048576: true; the input reads as it did. -/
def hookParsesUptoRow : OpenClaim := { program := "ytffkjbcelbfejaa", sum := "f4fddf75aae44fd262fb68b591d8e051efc9aa20ef43f81b3c2b7685a4ac18f8", func := "sheaf/sheaflaw07.HookParses", spec := "hookParses", inPlace := ["internal/bytealg.IndexByteString", "internal/abi.NoEscape", "internal/bytealg.Compare"], unfollowed := true, recurses := true, apart := false, narrowed := true }
def HookParsesUptoSaid : Prop := hookParsesUptoRow.holds Try.pinned (OpenSpec.upto hookParsesSpec)

/-- 'sheaflaw07.HookZeros', WHERE WHAT IT READS IS OF BULK AT MOST 1048576: true; the input reads as it did. -/
def hookZerosUptoRow : OpenClaim := { program := "ytffkjbcelbfejaa", sum := "f4fddf75aae44fd262fb68b591d8e051efc9aa20ef43f81b3c2b7685a4ac18f8", func := "sheaf/sheaflaw07.HookZeros", spec := "hookZeros", inPlace := ["internal/bytealg.Compare", "internal/abi.NoEscape", "internal/bytealg.IndexByteString"], unfollowed := true, recurses := true, apart := false, narrowed := true }
def HookZerosUptoSaid : Prop := hookZerosUptoRow.holds Try.pinned (OpenSpec.upto hookZerosSpec)

/-- 'sheaflaw07.HookSets', WHERE WHAT IT READS IS OF BULK AT MOST 1048576: true; the input reads as it did. -/
def hookSetsUptoRow : OpenClaim := { program := "ytffkjbcelbfejaa", sum := "f4fddf75aae44fd262fb68b591d8e051efc9aa20ef43f81b3c2b7685a4ac18f8", func := "sheaf/sheaflaw07.HookSets", spec := "hookSets", inPlace := ["internal/abi.NoEscape", "internal/bytealg.IndexByteString", "internal/bytealg.Compare"], unfollowed := true, recurses := true, apart := false, narrowed := true }
def HookSetsUptoSaid : Prop := hookSetsUptoRow.holds Try.pinned (OpenSpec.upto hookSetsSpec)

/-- 'sheaflaw07.HookPairs', WHERE WHAT IT READS IS OF BULK AT MOST 1048576: true; the input reads as it did. -/
def hookPairsUptoRow : OpenClaim := { program := "ytffkjbcelbfejaa", sum := "f4fddf75aae44fd262fb68b591d8e051efc9aa20ef43f81b3c2b7685a4ac18f8", func := "sheaf/sheaflaw07.HookPairs", spec := "hookPairs", inPlace := ["internal/abi.NoEscape", "internal/bytealg.IndexByteString", "internal/bytealg.Compare"], unfollowed := true, recurses := true, apart := false, narrowed := true }
def HookPairsUptoSaid : Prop := hookPairsUptoRow.holds Try.pinned (OpenSpec.upto hookPairsSpec)

end Rows
end Go.Proofs.Ytffkjbcelbfejaa
