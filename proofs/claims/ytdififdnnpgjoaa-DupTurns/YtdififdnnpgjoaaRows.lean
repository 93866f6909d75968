/-
  No cell of these rows narrows 'for every input' (looked for: loops, veiled, ifaces, maps, wideKeys, modest, calm, conditions, laid).
  DERIVED. THE GIVEN ROWS OF THIS SEAT. 5 by the template 'for every input the law returns true; each argument reads behind the call as it read before'; 0 by the template 'total and deterministic' (their statements: YtdififdnnpgjoaaTotals.lean).
  GIVEN WITH THE SEED: the statements are not yours to turn. If you find one false, say at which input.
  Laid BY PROGRAM, IN A SANDBOX (cutbox-rows.mjs): the forced cells as the released guide's own fill.sh prints them over the translation 5c92aedd197efd0a… (all of the seat's roots in one cut). By AI agents, Wed Nov 11 2026. No macro, syntax, notation, axiom, sorry.
-/
import Derived.Test.YtdififdnnpgjoaaChecked
import GoSem.Claim
import GoSem.ClaimJoined
import GoSem.ClaimMapViews
import Derived.JoinedTies
import Derived.KernelRfl
namespace Go.Proofs.Ytdififdnnpgjoaa
/- THE CELL 'sum', in the pinned program and in every row, IS THE sha256 OF THE DUMP (.gsa) THAT YtdififdnnpgjoaaProg.lean LOADS. Nothing in Lean hashes anything: it is a label: what it is worth is what the hold of that sum in a sandbox is worth. -/
noncomputable def Try.pinned : Pinned := { name := "ytdififdnnpgjoaa", sum := "5c92aedd197efd0a8d4eb455edd959a24990429296c6e859adcd559a63091ae5", checked := Try.checked }
namespace Rows
def none {H : Type} : Left H := { results := [], args := [] }

/-- 'sheaflaw26.DupSorts': WHATEVER THE INPUT: true; the input reads as it did. -/
def dupSortsSpec : ChangeSpec := { name := "dupSorts", fn := fun _ => fun
  | [d] => { results := [.lit (.bool true)], args := [d] }
  | _ => none }
def dupSortsRow : OpenClaim := { program := "ytdififdnnpgjoaa", sum := "5c92aedd197efd0a8d4eb455edd959a24990429296c6e859adcd559a63091ae5", func := "sheaf/sheaflaw26.DupSorts", spec := "dupSorts", inPlace := ["internal/bytealg.abigen_runtime_cmpstring"], unfollowed := true, recurses := true, plainKeys := false, apart := false }
def DupSortsSaid : Prop := dupSortsRow.holds Try.pinned (OpenSpec.ofChange dupSortsSpec)

/-- ITS FALSE NEIGHBOUR: 'it returns false'. Refute it at one input. -/
def dupSortsWrong : ChangeSpec := { name := "dupSorts", fn := fun _ => fun
  | [d] => { results := [.lit (.bool false)], args := [d] }
  | _ => none }
def DupSortsWrongFalsely : Prop := dupSortsRow.holds Try.pinned (OpenSpec.ofChange dupSortsWrong)

/-- 'sheaflaw26.DupClasses': WHATEVER THE INPUT: true; the input reads as it did. -/
def dupClassesSpec : ChangeSpec := { name := "dupClasses", fn := fun _ => fun
  | [d] => { results := [.lit (.bool true)], args := [d] }
  | _ => none }
def dupClassesRow : OpenClaim := { program := "ytdififdnnpgjoaa", sum := "5c92aedd197efd0a8d4eb455edd959a24990429296c6e859adcd559a63091ae5", func := "sheaf/sheaflaw26.DupClasses", spec := "dupClasses", inPlace := ["internal/bytealg.abigen_runtime_cmpstring"], unfollowed := true, recurses := true, plainKeys := false, apart := false }
def DupClassesSaid : Prop := dupClassesRow.holds Try.pinned (OpenSpec.ofChange dupClassesSpec)

/-- ITS FALSE NEIGHBOUR: 'it returns false'. Refute it at one input. -/
def dupClassesWrong : ChangeSpec := { name := "dupClasses", fn := fun _ => fun
  | [d] => { results := [.lit (.bool false)], args := [d] }
  | _ => none }
def DupClassesWrongFalsely : Prop := dupClassesRow.holds Try.pinned (OpenSpec.ofChange dupClassesWrong)

/-- 'sheaflaw26.DupMoves': WHATEVER THE INPUT: true; the input reads as it did. -/
def dupMovesSpec : ChangeSpec := { name := "dupMoves", fn := fun _ => fun
  | [d] => { results := [.lit (.bool true)], args := [d] }
  | _ => none }
def dupMovesRow : OpenClaim := { program := "ytdififdnnpgjoaa", sum := "5c92aedd197efd0a8d4eb455edd959a24990429296c6e859adcd559a63091ae5", func := "sheaf/sheaflaw26.DupMoves", spec := "dupMoves", inPlace := ["internal/bytealg.abigen_runtime_cmpstring"], unfollowed := true, recurses := true, plainKeys := false, apart := false }
def DupMovesSaid : Prop := dupMovesRow.holds Try.pinned (OpenSpec.ofChange dupMovesSpec)

/-- ITS FALSE NEIGHBOUR: 'it returns false'. Refute it at one input. -/
def dupMovesWrong : ChangeSpec := { name := "dupMoves", fn := fun _ => fun
  | [d] => { results := [.lit (.bool false)], args := [d] }
  | _ => none }
def DupMovesWrongFalsely : Prop := dupMovesRow.holds Try.pinned (OpenSpec.ofChange dupMovesWrong)

/-- 'sheaflaw26.DupOnce': WHATEVER THE INPUT: true; the input reads as it did. -/
def dupOnceSpec : ChangeSpec := { name := "dupOnce", fn := fun _ => fun
  | [d] => { results := [.lit (.bool true)], args := [d] }
  | _ => none }
def dupOnceRow : OpenClaim := { program := "ytdififdnnpgjoaa", sum := "5c92aedd197efd0a8d4eb455edd959a24990429296c6e859adcd559a63091ae5", func := "sheaf/sheaflaw26.DupOnce", spec := "dupOnce", inPlace := ["internal/bytealg.abigen_runtime_cmpstring"], unfollowed := true, recurses := true, plainKeys := false, apart := false }
def DupOnceSaid : Prop := dupOnceRow.holds Try.pinned (OpenSpec.ofChange dupOnceSpec)

/-- ITS FALSE NEIGHBOUR: 'it returns false'. Refute it at one input. -/
def dupOnceWrong : ChangeSpec := { name := "dupOnce", fn := fun _ => fun
  | [d] => { results := [.lit (.bool false)], args := [d] }
  | _ => none }
def DupOnceWrongFalsely : Prop := dupOnceRow.holds Try.pinned (OpenSpec.ofChange dupOnceWrong)

/-- 'sheaflaw26.DupTurns': WHATEVER THE INPUT: true; the input reads as it did. -/
def dupTurnsSpec : ChangeSpec := { name := "dupTurns", fn := fun _ => fun
  | [d1, d2, d3] => { results := [.lit (.bool true)], args := [d1, d2, d3] }
  | _ => none }
def dupTurnsRow : OpenClaim := { program := "ytdififdnnpgjoaa", sum := "5c92aedd197efd0a8d4eb455edd959a24990429296c6e859adcd559a63091ae5", func := "sheaf/sheaflaw26.DupTurns", spec := "dupTurns", inPlace := ["internal/bytealg.abigen_runtime_cmpstring"], unfollowed := true, recurses := true, plainKeys := false, apart := false }
def DupTurnsSaid : Prop := dupTurnsRow.holds Try.pinned (OpenSpec.ofChange dupTurnsSpec)

/-- ITS FALSE NEIGHBOUR: 'it returns false'. Refute it at one input. -/
def dupTurnsWrong : ChangeSpec := { name := "dupTurns", fn := fun _ => fun
  | [d1, d2, d3] => { results := [.lit (.bool false)], args := [d1, d2, d3] }
  | _ => none }
def DupTurnsWrongFalsely : Prop := dupTurnsRow.holds Try.pinned (OpenSpec.ofChange dupTurnsWrong)

/- THE SECOND FORM. 'bulk': how many values and letters a reading holds, each counted each time it is reached (what is shared counts as often as it is met; a slice's spare places count too). A statement '..UptoSaid' is the law's where the arguments, and the package variables that the reading takes, are together of bulk at most 1048576: NARROWER than '..Said'. Prove '..Said' where nothing that the law and all that it calls make is longer than what came in: it says more and counts as full. Else prove '..UptoSaid'. A law counts once. -/
mutual
def uptoBulk {H : Type} : DataW H → Nat
  | .lit (.string bytes) => bytes.length + 1
  | .lit _ => 1
  | .nil => 1
  | .ptr d => uptoBulk d + 1
  | .slice elems spare => uptoBulkAll elems + uptoBulkAll spare + 1
  | .agg parts => uptoBulkAll parts + 1
  | .iface _ d => uptoBulk d + 1
  | .map entries => uptoBulkEntries entries + 1
  | .held _ => 1
def uptoBulkAll {H : Type} : List (DataW H) → Nat
  | [] => 0
  | d :: r => uptoBulk d + uptoBulkAll r
def uptoBulkEntries {H : Type} : List (Lit × DataW H) → Nat
  | [] => 0
  | x :: r => uptoBulkEntry x + uptoBulkEntries r
def uptoBulkEntry {H : Type} : Lit × DataW H → Nat
  | (.string bytes, d) => bytes.length + uptoBulk d + 1
  | (_, d) => uptoBulk d + 1
 end
def uptoSmall : (H : Type) → List (DataW H) → Bool := fun _ ds => decide (uptoBulkAll ds ≤ 1048576)
def OpenSpec.upto (s : _root_.Go.ChangeSpec) : _root_.Go.OpenSpec := { _root_.Go.OpenSpec.ofChange s with cond := some uptoSmall }

/-- 'sheaflaw26.DupSorts', WHERE WHAT IT READS IS OF BULK AT MOST 1048576: true; the input reads as it did. -/
def dupSortsUptoRow : OpenClaim := { program := "ytdififdnnpgjoaa", sum := "5c92aedd197efd0a8d4eb455edd959a24990429296c6e859adcd559a63091ae5", func := "sheaf/sheaflaw26.DupSorts", spec := "dupSorts", inPlace := ["internal/bytealg.abigen_runtime_cmpstring"], unfollowed := true, recurses := true, plainKeys := false, apart := false, narrowed := true }
def DupSortsUptoSaid : Prop := dupSortsUptoRow.holds Try.pinned (OpenSpec.upto dupSortsSpec)

/-- 'sheaflaw26.DupClasses', WHERE WHAT IT READS IS OF BULK AT MOST 1048576: true; the input reads as it did. -/
def dupClassesUptoRow : OpenClaim := { program := "ytdififdnnpgjoaa", sum := "5c92aedd197efd0a8d4eb455edd959a24990429296c6e859adcd559a63091ae5", func := "sheaf/sheaflaw26.DupClasses", spec := "dupClasses", inPlace := ["internal/bytealg.abigen_runtime_cmpstring"], unfollowed := true, recurses := true, plainKeys := false, apart := false, narrowed := true }
def DupClassesUptoSaid : Prop := dupClassesUptoRow.holds Try.pinned (OpenSpec.upto dupClassesSpec)

/-- 'sheaflaw26.DupMoves', WHERE WHAT IT READS IS OF BULK AT MOST 1048576: true; the input reads as it did. -/
def dupMovesUptoRow : OpenClaim := { program := "ytdififdnnpgjoaa", sum := "5c92aedd197efd0a8d4eb455edd959a24990429296c6e859adcd559a63091ae5", func := "sheaf/sheaflaw26.DupMoves", spec := "dupMoves", inPlace := ["internal/bytealg.abigen_runtime_cmpstring"], unfollowed := true, recurses := true, plainKeys := false, apart := false, narrowed := true }
def DupMovesUptoSaid : Prop := dupMovesUptoRow.holds Try.pinned (OpenSpec.upto dupMovesSpec)

/-- 'sheaflaw26.DupOnce', WHERE WHAT IT READS IS OF BULK AT MOST 1048576: true; the input reads as it did. -/
def dupOnceUptoRow : OpenClaim := { program := "ytdififdnnpgjoaa", sum := "5c92aedd197efd0a8d4eb455edd959a24990429296c6e859adcd559a63091ae5", func := "sheaf/sheaflaw26.DupOnce", spec := "dupOnce", inPlace := ["internal/bytealg.abigen_runtime_cmpstring"], unfollowed := true, recurses := true, plainKeys := false, apart := false, narrowed := true }
def DupOnceUptoSaid : Prop := dupOnceUptoRow.holds Try.pinned (OpenSpec.upto dupOnceSpec)

/-- 'sheaflaw26.DupTurns', WHERE WHAT IT READS IS OF BULK AT MOST 1048576: true; the input reads as it did. -/
def dupTurnsUptoRow : OpenClaim := { program := "ytdififdnnpgjoaa", sum := "5c92aedd197efd0a8d4eb455edd959a24990429296c6e859adcd559a63091ae5", func := "sheaf/sheaflaw26.DupTurns", spec := "dupTurns", inPlace := ["internal/bytealg.abigen_runtime_cmpstring"], unfollowed := true, recurses := true, plainKeys := false, apart := false, narrowed := true }
def DupTurnsUptoSaid : Prop := dupTurnsUptoRow.holds Try.pinned (OpenSpec.upto dupTurnsSpec)

end Rows
end Go.Proofs.Ytdififdnnpgjoaa
