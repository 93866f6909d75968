/-
  No cell of these rows narrows 'for every input' (looked for: loops, veiled, ifaces, maps, wideKeys, modest, calm, conditions, laid).
  DERIVED. THE GIVEN ROWS OF THIS SEAT. 3 by the template 'for every input the law returns true; each argument reads behind the call as it read before'; 0 by the template 'total and deterministic' (their statements: YtcpbgacdoigpnaaTotals.lean).
  GIVEN WITH THE SEED: the statements are not yours to turn. If you find one false, say at which input.
  Laid BY PROGRAM, IN A SANDBOX (cutbox-rows.mjs): the forced cells as the released guide's own fill.sh prints them over the translation 509455215e9378ef… (all of the seat's roots in one cut). By AI agents, Wed Nov 11 2026. No macro, syntax, notation, axiom, sorry.
-/
import Derived.Test.YtcpbgacdoigpnaaChecked
import GoSem.Claim
import GoSem.ClaimJoined
import GoSem.ClaimMapViews
import Derived.JoinedTies
import Derived.KernelRfl
namespace Go.Proofs.Ytcpbgacdoigpnaa
/- THE CELL 'sum', in the pinned program and in every row, IS THE sha256 OF THE DUMP (.gsa) THAT YtcpbgacdoigpnaaProg.lean LOADS. Nothing in Lean hashes anything: it is a label: what it is worth is what the hold of that sum in a sandbox is worth. -/
noncomputable def Try.pinned : Pinned := { name := "ytcpbgacdoigpnaa", sum := "509455215e9378ef134a6c09158c5da653e77c6fe59d9327f84116124dc640b0", checked := Try.checked }
namespace Rows
def none {H : Type} : Left H := { results := [], args := [] }

/-- 'sheaflaw20.LiveCounts': WHATEVER THE INPUT: true; the input reads as it did. -/
def liveCountsSpec : ChangeSpec := { name := "liveCounts", fn := fun _ => fun
  | [d1, d2] => { results := [.lit (.bool true)], args := [d1, d2] }
  | _ => none }
def liveCountsRow : OpenClaim := { program := "ytcpbgacdoigpnaa", sum := "509455215e9378ef134a6c09158c5da653e77c6fe59d9327f84116124dc640b0", func := "sheaf/sheaflaw20.LiveCounts", spec := "liveCounts", unfollowed := true, recurses := true, plainKeys := false, apart := false }
def LiveCountsSaid : Prop := liveCountsRow.holds Try.pinned (OpenSpec.ofChange liveCountsSpec)

/-- ITS FALSE NEIGHBOUR: 'it returns false'. Refute it at one input. -/
def liveCountsWrong : ChangeSpec := { name := "liveCounts", fn := fun _ => fun
  | [d1, d2] => { results := [.lit (.bool false)], args := [d1, d2] }
  | _ => none }
def LiveCountsWrongFalsely : Prop := liveCountsRow.holds Try.pinned (OpenSpec.ofChange liveCountsWrong)

/-- 'sheaflaw20.LiveBack': WHATEVER THE INPUT: true; the input reads as it did. -/
def liveBackSpec : ChangeSpec := { name := "liveBack", fn := fun _ => fun
  | [d1, d2] => { results := [.lit (.bool true)], args := [d1, d2] }
  | _ => none }
def liveBackRow : OpenClaim := { program := "ytcpbgacdoigpnaa", sum := "509455215e9378ef134a6c09158c5da653e77c6fe59d9327f84116124dc640b0", func := "sheaf/sheaflaw20.LiveBack", spec := "liveBack", unfollowed := true, recurses := true, plainKeys := false, apart := false }
def LiveBackSaid : Prop := liveBackRow.holds Try.pinned (OpenSpec.ofChange liveBackSpec)

/-- ITS FALSE NEIGHBOUR: 'it returns false'. Refute it at one input. -/
def liveBackWrong : ChangeSpec := { name := "liveBack", fn := fun _ => fun
  | [d1, d2] => { results := [.lit (.bool false)], args := [d1, d2] }
  | _ => none }
def LiveBackWrongFalsely : Prop := liveBackRow.holds Try.pinned (OpenSpec.ofChange liveBackWrong)

/-- 'sheaflaw20.LiveNobody': WHATEVER THE INPUT: true; the input reads as it did. -/
def liveNobodySpec : ChangeSpec := { name := "liveNobody", fn := fun _ => fun
  | [d1, d2, d3] => { results := [.lit (.bool true)], args := [d1, d2, d3] }
  | _ => none }
def liveNobodyRow : OpenClaim := { program := "ytcpbgacdoigpnaa", sum := "509455215e9378ef134a6c09158c5da653e77c6fe59d9327f84116124dc640b0", func := "sheaf/sheaflaw20.LiveNobody", spec := "liveNobody", unfollowed := true, recurses := true, plainKeys := false, apart := false }
def LiveNobodySaid : Prop := liveNobodyRow.holds Try.pinned (OpenSpec.ofChange liveNobodySpec)

/-- ITS FALSE NEIGHBOUR: 'it returns false'. Refute it at one input. -/
def liveNobodyWrong : ChangeSpec := { name := "liveNobody", fn := fun _ => fun
  | [d1, d2, d3] => { results := [.lit (.bool false)], args := [d1, d2, d3] }
  | _ => none }
def LiveNobodyWrongFalsely : Prop := liveNobodyRow.holds Try.pinned (OpenSpec.ofChange liveNobodyWrong)

/- THE SECOND FORM. 'bulk': how many values and letters a reading holds, each counted each time it is reached (what is shared counts as often as it is met; a slice's spare places count too). A statement '..UptoSaid' is the law's where the arguments, and the package variables that the reading takes, are together of bulk at most 1048576: NARROWER than '..Said'. Prove '..Said' where nothing that the law and all that it calls make is longer than what came in: it says more and counts as full. Else prove '..UptoSaid'. A law counts once. -/
mutual
def uptoBulk {H : Type} : DataW H → Nat
  | .lit (.string bytes) => bytes.length + 1
  | .lit _ => 1
  | .nil => 1
  | .ptr d => uptoBulk d + 1
  | .slice elems spare => uptoBulkAll elems + uptoBulkAll spare + 1
  | .agg parts => uptoBulkAll parts + 1
  | .iface _ d => uptoBulk d + 1
  | .map entries => uptoBulkEntries entries + 1
  | .held _ => 1
def uptoBulkAll {H : Type} : List (DataW H) → Nat
  | [] => 0
  | d :: r => uptoBulk d + uptoBulkAll r
def uptoBulkEntries {H : Type} : List (Lit × DataW H) → Nat
  | [] => 0
  | x :: r => uptoBulkEntry x + uptoBulkEntries r
def uptoBulkEntry {H : Type} : Lit × DataW H → Nat
  | (.string bytes, d) => bytes.length + uptoBulk d + 1
  | (_, d) => uptoBulk d + 1
 end
def uptoSmall : (H : Type) → List (DataW H) → Bool := fun _ ds => decide (uptoBulkAll ds ≤ 1048576)
def OpenSpec.upto (s : _root_.Go.ChangeSpec) : _root_.Go.OpenSpec := { _root_.Go.OpenSpec.ofChange s with cond := some uptoSmall }

/-- 'sheaflaw20.LiveCounts', WHERE WHAT IT READS IS OF BULK AT MOST 1048576: true; the input reads as it did. -/
def liveCountsUptoRow : OpenClaim := { program := "ytcpbgacdoigpnaa", sum := "509455215e9378ef134a6c09158c5da653e77c6fe59d9327f84116124dc640b0", func := "sheaf/sheaflaw20.LiveCounts", spec := "liveCounts", unfollowed := true, recurses := true, plainKeys := false, apart := false, narrowed := true }
def LiveCountsUptoSaid : Prop := liveCountsUptoRow.holds Try.pinned (OpenSpec.upto liveCountsSpec)

/-- 'sheaflaw20.LiveBack', WHERE WHAT IT READS IS OF BULK AT MOST 1048576: true; the input reads as it did. -/
def liveBackUptoRow : OpenClaim := { program := "ytcpbgacdoigpnaa", sum := "509455215e9378ef134a6c09158c5da653e77c6fe59d9327f84116124dc640b0", func := "sheaf/sheaflaw20.LiveBack", spec := "liveBack", unfollowed := true, recurses := true, plainKeys := false, apart := false, narrowed := true }
def LiveBackUptoSaid : Prop := liveBackUptoRow.holds Try.pinned (OpenSpec.upto liveBackSpec)

/-- 'sheaflaw20.LiveNobody', WHERE WHAT IT READS IS OF BULK AT MOST 1048576: true; the input reads as it did. -/
def liveNobodyUptoRow : OpenClaim := { program := "ytcpbgacdoigpnaa", sum := "509455215e9378ef134a6c09158c5da653e77c6fe59d9327f84116124dc640b0", func := "sheaf/sheaflaw20.LiveNobody", spec := "liveNobody", unfollowed := true, recurses := true, plainKeys := false, apart := false, narrowed := true }
def LiveNobodyUptoSaid : Prop := liveNobodyUptoRow.holds Try.pinned (OpenSpec.upto liveNobodySpec)

end Rows
end Go.Proofs.Ytcpbgacdoigpnaa
