/-
  No cell of these rows narrows 'for every input' (looked for: loops, veiled, ifaces, maps, wideKeys, modest, calm, conditions, laid).
  DERIVED. THE GIVEN ROWS OF THIS SEAT. 5 by the template 'for every input the law returns true; each argument reads behind the call as it read before'; 0 by the template 'total and deterministic' (their statements: YtiobcjahgmkmiaaTotals.lean).
  GIVEN WITH THE SEED: the statements are not yours to turn. If you find one false, say at which input.
  Laid BY PROGRAM, IN A SANDBOX (cutbox-rows.mjs): the forced cells as the released guide's own fill.sh prints them over the translation bbc4473a95c4c1eb… (all of the seat's roots in one cut). By AI agents, Wed Nov 11 2026. No macro, syntax, notation, axiom, sorry.
-/
import Derived.Test.YtiobcjahgmkmiaaChecked
import GoSem.Claim
import GoSem.ClaimJoined
import GoSem.ClaimMapViews
import Derived.JoinedTies
import Derived.KernelRfl
namespace Go.Proofs.Ytiobcjahgmkmiaa
/- THE CELL 'sum', in the pinned program and in every row, IS THE sha256 OF THE DUMP (.gsa) THAT YtiobcjahgmkmiaaProg.lean LOADS. Nothing in Lean hashes anything: it is a label: what it is worth is what the hold of that sum in a sandbox is worth. -/
noncomputable def Try.pinned : Pinned := { name := "ytiobcjahgmkmiaa", sum := "bbc4473a95c4c1eb9602043927e9f8f6538e58110df302206834246f6b2fea09", checked := Try.checked }
namespace Rows
def none {H : Type} : Left H := { results := [], args := [] }

/-- 'sheaflaw32.RetainDates': WHATEVER THE INPUT: true; the input reads as it did. -/
def retainDatesSpec : ChangeSpec := { name := "retainDates", fn := fun _ => fun
  | [d1, d2, d3, d4] => { results := [.lit (.bool true)], args := [d1, d2, d3, d4] }
  | _ => none }
def retainDatesRow : OpenClaim := { program := "ytiobcjahgmkmiaa", sum := "bbc4473a95c4c1eb9602043927e9f8f6538e58110df302206834246f6b2fea09", func := "sheaf/sheaflaw32.RetainDates", spec := "retainDates", inPlace := ["internal/bytealg.abigen_runtime_cmpstring"], unfollowed := true, recurses := true, apart := false }
def RetainDatesSaid : Prop := retainDatesRow.holds Try.pinned (OpenSpec.ofChange retainDatesSpec)

/-- ITS FALSE NEIGHBOUR: 'it returns false'. Refute it at one input. -/
def retainDatesWrong : ChangeSpec := { name := "retainDates", fn := fun _ => fun
  | [d1, d2, d3, d4] => { results := [.lit (.bool false)], args := [d1, d2, d3, d4] }
  | _ => none }
def RetainDatesWrongFalsely : Prop := retainDatesRow.holds Try.pinned (OpenSpec.ofChange retainDatesWrong)

/-- 'sheaflaw32.RetainNext': WHATEVER THE INPUT: true; the input reads as it did. -/
def retainNextSpec : ChangeSpec := { name := "retainNext", fn := fun _ => fun
  | [d] => { results := [.lit (.bool true)], args := [d] }
  | _ => none }
def retainNextRow : OpenClaim := { program := "ytiobcjahgmkmiaa", sum := "bbc4473a95c4c1eb9602043927e9f8f6538e58110df302206834246f6b2fea09", func := "sheaf/sheaflaw32.RetainNext", spec := "retainNext", inPlace := ["internal/bytealg.abigen_runtime_cmpstring"], unfollowed := true, recurses := true, apart := false }
def RetainNextSaid : Prop := retainNextRow.holds Try.pinned (OpenSpec.ofChange retainNextSpec)

/-- ITS FALSE NEIGHBOUR: 'it returns false'. Refute it at one input. -/
def retainNextWrong : ChangeSpec := { name := "retainNext", fn := fun _ => fun
  | [d] => { results := [.lit (.bool false)], args := [d] }
  | _ => none }
def RetainNextWrongFalsely : Prop := retainNextRow.holds Try.pinned (OpenSpec.ofChange retainNextWrong)

/-- 'sheaflaw32.RetainSorts': WHATEVER THE INPUT: true; the input reads as it did. -/
def retainSortsSpec : ChangeSpec := { name := "retainSorts", fn := fun _ => fun
  | [d] => { results := [.lit (.bool true)], args := [d] }
  | _ => none }
def retainSortsRow : OpenClaim := { program := "ytiobcjahgmkmiaa", sum := "bbc4473a95c4c1eb9602043927e9f8f6538e58110df302206834246f6b2fea09", func := "sheaf/sheaflaw32.RetainSorts", spec := "retainSorts", inPlace := ["internal/bytealg.abigen_runtime_cmpstring"], unfollowed := true, recurses := true, apart := false }
def RetainSortsSaid : Prop := retainSortsRow.holds Try.pinned (OpenSpec.ofChange retainSortsSpec)

/-- ITS FALSE NEIGHBOUR: 'it returns false'. Refute it at one input. -/
def retainSortsWrong : ChangeSpec := { name := "retainSorts", fn := fun _ => fun
  | [d] => { results := [.lit (.bool false)], args := [d] }
  | _ => none }
def RetainSortsWrongFalsely : Prop := retainSortsRow.holds Try.pinned (OpenSpec.ofChange retainSortsWrong)

/-- 'sheaflaw32.RetainMore': WHATEVER THE INPUT: true; the input reads as it did. -/
def retainMoreSpec : ChangeSpec := { name := "retainMore", fn := fun _ => fun
  | [d1, d2, d3, d4, d5, d6] => { results := [.lit (.bool true)], args := [d1, d2, d3, d4, d5, d6] }
  | _ => none }
def retainMoreRow : OpenClaim := { program := "ytiobcjahgmkmiaa", sum := "bbc4473a95c4c1eb9602043927e9f8f6538e58110df302206834246f6b2fea09", func := "sheaf/sheaflaw32.RetainMore", spec := "retainMore", inPlace := ["internal/bytealg.abigen_runtime_cmpstring"], unfollowed := true, recurses := true, apart := false }
def RetainMoreSaid : Prop := retainMoreRow.holds Try.pinned (OpenSpec.ofChange retainMoreSpec)

/-- ITS FALSE NEIGHBOUR: 'it returns false'. Refute it at one input. -/
def retainMoreWrong : ChangeSpec := { name := "retainMore", fn := fun _ => fun
  | [d1, d2, d3, d4, d5, d6] => { results := [.lit (.bool false)], args := [d1, d2, d3, d4, d5, d6] }
  | _ => none }
def RetainMoreWrongFalsely : Prop := retainMoreRow.holds Try.pinned (OpenSpec.ofChange retainMoreWrong)

/-- 'sheaflaw32.RetainKeeps': WHATEVER THE INPUT: true; the input reads as it did. -/
def retainKeepsSpec : ChangeSpec := { name := "retainKeeps", fn := fun _ => fun
  | [d1, d2] => { results := [.lit (.bool true)], args := [d1, d2] }
  | _ => none }
def retainKeepsRow : OpenClaim := { program := "ytiobcjahgmkmiaa", sum := "bbc4473a95c4c1eb9602043927e9f8f6538e58110df302206834246f6b2fea09", func := "sheaf/sheaflaw32.RetainKeeps", spec := "retainKeeps", inPlace := ["internal/bytealg.abigen_runtime_cmpstring"], unfollowed := true, recurses := true, apart := false }
def RetainKeepsSaid : Prop := retainKeepsRow.holds Try.pinned (OpenSpec.ofChange retainKeepsSpec)

/-- ITS FALSE NEIGHBOUR: 'it returns false'. Refute it at one input. -/
def retainKeepsWrong : ChangeSpec := { name := "retainKeeps", fn := fun _ => fun
  | [d1, d2] => { results := [.lit (.bool false)], args := [d1, d2] }
  | _ => none }
def RetainKeepsWrongFalsely : Prop := retainKeepsRow.holds Try.pinned (OpenSpec.ofChange retainKeepsWrong)

/- THE SECOND FORM. 'bulk': how many values and letters a reading holds, each counted each time it is reached (what is shared counts as often as it is met; a slice's spare places count too). A statement '..UptoSaid' is the law's where the arguments, and the package variables that the reading takes, are together of bulk at most 1048576: NARROWER than '..Said'. Prove '..Said' where nothing that the law and all that it calls make is longer than what came in: it says more and counts as full. Else prove '..UptoSaid'. A law counts once. -/
mutual
def uptoBulk {H : Type} : DataW H → Nat
  | .lit (.string bytes) => bytes.length + 1
  | .lit _ => 1
  | .nil => 1
  | .ptr d => uptoBulk d + 1
  | .slice elems spare => uptoBulkAll elems + uptoBulkAll spare + 1
  | .agg parts => uptoBulkAll parts + 1
  | .iface _ d => uptoBulk d + 1
  | .map entries => uptoBulkEntries entries + 1
  | .held _ => 1
def uptoBulkAll {H : Type} : List (DataW H) → Nat
  | [] => 0
  | d :: r => uptoBulk d + uptoBulkAll r
def uptoBulkEntries {H : Type} : List (Lit × DataW H) → Nat
  | [] => 0
  | x :: r => uptoBulkEntry x + uptoBulkEntries r
def uptoBulkEntry {H : Type} : Lit × DataW H → Nat
  | (.string bytes, d) => bytes.length + uptoBulk d + 1
  | (_, d) => uptoBulk d + 1
 end
def uptoSmall : (H : Type) → List (DataW H) → Bool := fun _ ds => decide (uptoBulkAll ds ≤ 1048576)
def OpenSpec.upto (s : _root_.Go.ChangeSpec) : _root_.Go.OpenSpec := { _root_.Go.OpenSpec.ofChange s with cond := some uptoSmall }

/-- 'sheaflaw32.RetainDates', WHERE WHAT IT READS IS OF BULK AT MOST 1048576: true; the input reads as it did. -/
def retainDatesUptoRow : OpenClaim := { program := "ytiobcjahgmkmiaa", sum := "bbc4473a95c4c1eb9602043927e9f8f6538e58110df302206834246f6b2fea09", func := "sheaf/sheaflaw32.RetainDates", spec := "retainDates", inPlace := ["internal/bytealg.abigen_runtime_cmpstring"], unfollowed := true, recurses := true, apart := false, narrowed := true }
def RetainDatesUptoSaid : Prop := retainDatesUptoRow.holds Try.pinned (OpenSpec.upto retainDatesSpec)

/-- 'sheaflaw32.RetainNext', WHERE WHAT IT READS IS OF BULK AT MOST 1048576: true; the input reads as it did. -/
def retainNextUptoRow : OpenClaim := { program := "ytiobcjahgmkmiaa", sum := "bbc4473a95c4c1eb9602043927e9f8f6538e58110df302206834246f6b2fea09", func := "sheaf/sheaflaw32.RetainNext", spec := "retainNext", inPlace := ["internal/bytealg.abigen_runtime_cmpstring"], unfollowed := true, recurses := true, apart := false, narrowed := true }
def RetainNextUptoSaid : Prop := retainNextUptoRow.holds Try.pinned (OpenSpec.upto retainNextSpec)

/-- 'sheaflaw32.RetainSorts', WHERE WHAT IT READS IS OF BULK AT MOST 1048576: true; the input reads as it did. -/
def retainSortsUptoRow : OpenClaim := { program := "ytiobcjahgmkmiaa", sum := "bbc4473a95c4c1eb9602043927e9f8f6538e58110df302206834246f6b2fea09", func := "sheaf/sheaflaw32.RetainSorts", spec := "retainSorts", inPlace := ["internal/bytealg.abigen_runtime_cmpstring"], unfollowed := true, recurses := true, apart := false, narrowed := true }
def RetainSortsUptoSaid : Prop := retainSortsUptoRow.holds Try.pinned (OpenSpec.upto retainSortsSpec)

/-- 'sheaflaw32.RetainMore', WHERE WHAT IT READS IS OF BULK AT MOST 1048576: true; the input reads as it did. -/
def retainMoreUptoRow : OpenClaim := { program := "ytiobcjahgmkmiaa", sum := "bbc4473a95c4c1eb9602043927e9f8f6538e58110df302206834246f6b2fea09", func := "sheaf/sheaflaw32.RetainMore", spec := "retainMore", inPlace := ["internal/bytealg.abigen_runtime_cmpstring"], unfollowed := true, recurses := true, apart := false, narrowed := true }
def RetainMoreUptoSaid : Prop := retainMoreUptoRow.holds Try.pinned (OpenSpec.upto retainMoreSpec)

/-- 'sheaflaw32.RetainKeeps', WHERE WHAT IT READS IS OF BULK AT MOST 1048576: true; the input reads as it did. -/
def retainKeepsUptoRow : OpenClaim := { program := "ytiobcjahgmkmiaa", sum := "bbc4473a95c4c1eb9602043927e9f8f6538e58110df302206834246f6b2fea09", func := "sheaf/sheaflaw32.RetainKeeps", spec := "retainKeeps", inPlace := ["internal/bytealg.abigen_runtime_cmpstring"], unfollowed := true, recurses := true, apart := false, narrowed := true }
def RetainKeepsUptoSaid : Prop := retainKeepsUptoRow.holds Try.pinned (OpenSpec.upto retainKeepsSpec)

end Rows
end Go.Proofs.Ytiobcjahgmkmiaa
