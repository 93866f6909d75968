/-
  No cell of these rows narrows 'for every input' (looked for: loops, veiled, ifaces, maps, wideKeys, modest, calm, conditions, laid).
  DERIVED. THE GIVEN ROWS OF THIS SEAT. 5 by the template 'for every input the law returns true; each argument reads behind the call as it read before'; 0 by the template 'total and deterministic' (their statements: YtigfioknmcjbbaaTotals.lean).
  GIVEN WITH THE SEED: the statements are not yours to turn. If you find one false, say at which input.
  Laid BY PROGRAM, IN A SANDBOX (cutbox-rows.mjs): the forced cells as the released guide's own fill.sh prints them over the translation 5c10292ab04e27ec… (all of the seat's roots in one cut). By AI agents, Wed Nov 11 2026. No macro, syntax, notation, axiom, sorry.
-/
import Derived.Test.YtigfioknmcjbbaaChecked
import GoSem.Claim
import GoSem.ClaimJoined
import GoSem.ClaimMapViews
import Derived.JoinedTies
import Derived.KernelRfl
namespace Go.Proofs.Ytigfioknmcjbbaa
/- THE CELL 'sum', in the pinned program and in every row, IS THE sha256 OF THE DUMP (.gsa) THAT YtigfioknmcjbbaaProg.lean LOADS. Nothing in Lean hashes anything: it is a label: what it is worth is what the hold of that sum in a sandbox is worth. -/
noncomputable def Try.pinned : Pinned := { name := "ytigfioknmcjbbaa", sum := "5c10292ab04e27ec5a1bc745cd36b6cdf0c141c2aed3273ca373334a8c7508d7", checked := Try.checked }
namespace Rows
def none {H : Type} : Left H := { results := [], args := [] }

/-- 'sheaflaw06.CutFirst': WHATEVER THE INPUT: true; the input reads as it did. -/
def cutFirstSpec : ChangeSpec := { name := "cutFirst", fn := fun _ => fun
  | [d1, d2] => { results := [.lit (.bool true)], args := [d1, d2] }
  | _ => none }
def cutFirstRow : OpenClaim := { program := "ytigfioknmcjbbaa", sum := "5c10292ab04e27ec5a1bc745cd36b6cdf0c141c2aed3273ca373334a8c7508d7", func := "sheaf/sheaflaw06.CutFirst", spec := "cutFirst", unfollowed := true, recurses := true, apart := false }
def CutFirstSaid : Prop := cutFirstRow.holds Try.pinned (OpenSpec.ofChange cutFirstSpec)

/-- ITS FALSE NEIGHBOUR: 'it returns false'. Refute it at one input. -/
def cutFirstWrong : ChangeSpec := { name := "cutFirst", fn := fun _ => fun
  | [d1, d2] => { results := [.lit (.bool false)], args := [d1, d2] }
  | _ => none }
def CutFirstWrongFalsely : Prop := cutFirstRow.holds Try.pinned (OpenSpec.ofChange cutFirstWrong)

/-- 'sheaflaw06.CutBehind': WHATEVER THE INPUT: true; the input reads as it did. -/
def cutBehindSpec : ChangeSpec := { name := "cutBehind", fn := fun _ => fun
  | [d1, d2, d3] => { results := [.lit (.bool true)], args := [d1, d2, d3] }
  | _ => none }
def cutBehindRow : OpenClaim := { program := "ytigfioknmcjbbaa", sum := "5c10292ab04e27ec5a1bc745cd36b6cdf0c141c2aed3273ca373334a8c7508d7", func := "sheaf/sheaflaw06.CutBehind", spec := "cutBehind", unfollowed := true, recurses := true, apart := false }
def CutBehindSaid : Prop := cutBehindRow.holds Try.pinned (OpenSpec.ofChange cutBehindSpec)

/-- ITS FALSE NEIGHBOUR: 'it returns false'. Refute it at one input. -/
def cutBehindWrong : ChangeSpec := { name := "cutBehind", fn := fun _ => fun
  | [d1, d2, d3] => { results := [.lit (.bool false)], args := [d1, d2, d3] }
  | _ => none }
def CutBehindWrongFalsely : Prop := cutBehindRow.holds Try.pinned (OpenSpec.ofChange cutBehindWrong)

/-- 'sheaflaw06.CutPieces': WHATEVER THE INPUT: true; the input reads as it did. -/
def cutPiecesSpec : ChangeSpec := { name := "cutPieces", fn := fun _ => fun
  | [d1, d2] => { results := [.lit (.bool true)], args := [d1, d2] }
  | _ => none }
def cutPiecesRow : OpenClaim := { program := "ytigfioknmcjbbaa", sum := "5c10292ab04e27ec5a1bc745cd36b6cdf0c141c2aed3273ca373334a8c7508d7", func := "sheaf/sheaflaw06.CutPieces", spec := "cutPieces", unfollowed := true, recurses := true, apart := false }
def CutPiecesSaid : Prop := cutPiecesRow.holds Try.pinned (OpenSpec.ofChange cutPiecesSpec)

/-- ITS FALSE NEIGHBOUR: 'it returns false'. Refute it at one input. -/
def cutPiecesWrong : ChangeSpec := { name := "cutPieces", fn := fun _ => fun
  | [d1, d2] => { results := [.lit (.bool false)], args := [d1, d2] }
  | _ => none }
def CutPiecesWrongFalsely : Prop := cutPiecesRow.holds Try.pinned (OpenSpec.ofChange cutPiecesWrong)

/-- 'sheaflaw06.CutNobody': WHATEVER THE INPUT: true; the input reads as it did. -/
def cutNobodySpec : ChangeSpec := { name := "cutNobody", fn := fun _ => fun
  | [d] => { results := [.lit (.bool true)], args := [d] }
  | _ => none }
def cutNobodyRow : OpenClaim := { program := "ytigfioknmcjbbaa", sum := "5c10292ab04e27ec5a1bc745cd36b6cdf0c141c2aed3273ca373334a8c7508d7", func := "sheaf/sheaflaw06.CutNobody", spec := "cutNobody", unfollowed := true, recurses := true, apart := false }
def CutNobodySaid : Prop := cutNobodyRow.holds Try.pinned (OpenSpec.ofChange cutNobodySpec)

/-- ITS FALSE NEIGHBOUR: 'it returns false'. Refute it at one input. -/
def cutNobodyWrong : ChangeSpec := { name := "cutNobody", fn := fun _ => fun
  | [d] => { results := [.lit (.bool false)], args := [d] }
  | _ => none }
def CutNobodyWrongFalsely : Prop := cutNobodyRow.holds Try.pinned (OpenSpec.ofChange cutNobodyWrong)

/-- 'sheaflaw06.CutAll': WHATEVER THE INPUT: true; the input reads as it did. -/
def cutAllSpec : ChangeSpec := { name := "cutAll", fn := fun _ => fun
  | [d1, d2] => { results := [.lit (.bool true)], args := [d1, d2] }
  | _ => none }
def cutAllRow : OpenClaim := { program := "ytigfioknmcjbbaa", sum := "5c10292ab04e27ec5a1bc745cd36b6cdf0c141c2aed3273ca373334a8c7508d7", func := "sheaf/sheaflaw06.CutAll", spec := "cutAll", unfollowed := true, recurses := true, apart := false }
def CutAllSaid : Prop := cutAllRow.holds Try.pinned (OpenSpec.ofChange cutAllSpec)

/-- ITS FALSE NEIGHBOUR: 'it returns false'. Refute it at one input. -/
def cutAllWrong : ChangeSpec := { name := "cutAll", fn := fun _ => fun
  | [d1, d2] => { results := [.lit (.bool false)], args := [d1, d2] }
  | _ => none }
def CutAllWrongFalsely : Prop := cutAllRow.holds Try.pinned (OpenSpec.ofChange cutAllWrong)

/- THE SECOND FORM. 'bulk': how many values and letters a reading holds, each counted each time it is reached (what is shared counts as often as it is met; a slice's spare places count too). A statement '..UptoSaid' is the law's where the arguments, and the package variables that the reading takes, are together of bulk at most 1048576: NARROWER than '..Said'. Prove '..Said' where nothing that the law and all that it calls make is longer than what came in: it says more and counts as full. Else prove '..UptoSaid'. A law counts once. -/
mutual
def uptoBulk {H : Type} : DataW H → Nat
  | .lit (.string bytes) => bytes.length + 1
  | .lit _ => 1
  | .nil => 1
  | .ptr d => uptoBulk d + 1
  | .slice elems spare => uptoBulkAll elems + uptoBulkAll spare + 1
  | .agg parts => uptoBulkAll parts + 1
  | .iface _ d => uptoBulk d + 1
  | .map entries => uptoBulkEntries entries + 1
  | .held _ => 1
def uptoBulkAll {H : Type} : List (DataW H) → Nat
  | [] => 0
  | d :: r => uptoBulk d + uptoBulkAll r
def uptoBulkEntries {H : Type} : List (Lit × DataW H) → Nat
  | [] => 0
  | x :: r => uptoBulkEntry x + uptoBulkEntries r
def uptoBulkEntry {H : Type} : Lit × DataW H → Nat
  | (.string bytes, d) => bytes.length + uptoBulk d + 1
  | (_, d) => uptoBulk d + 1
 end
def uptoSmall : (H : Type) → List (DataW H) → Bool := fun _ ds => decide (uptoBulkAll ds ≤ 1048576)
def OpenSpec.upto (s : _root_.Go.ChangeSpec) : _root_.Go.OpenSpec := { _root_.Go.OpenSpec.ofChange s with cond := some uptoSmall }

/-- 'sheaflaw06.CutFirst', WHERE WHAT IT READS IS OF BULK AT MOST 1048576: true; the input reads as it did. -/
def cutFirstUptoRow : OpenClaim := { program := "ytigfioknmcjbbaa", sum := "5c10292ab04e27ec5a1bc745cd36b6cdf0c141c2aed3273ca373334a8c7508d7", func := "sheaf/sheaflaw06.CutFirst", spec := "cutFirst", unfollowed := true, recurses := true, apart := false, narrowed := true }
def CutFirstUptoSaid : Prop := cutFirstUptoRow.holds Try.pinned (OpenSpec.upto cutFirstSpec)

/-- 'sheaflaw06.CutBehind', WHERE WHAT IT READS IS OF BULK AT MOST 1048576: true; the input reads as it did. -/
def cutBehindUptoRow : OpenClaim := { program := "ytigfioknmcjbbaa", sum := "5c10292ab04e27ec5a1bc745cd36b6cdf0c141c2aed3273ca373334a8c7508d7", func := "sheaf/sheaflaw06.CutBehind", spec := "cutBehind", unfollowed := true, recurses := true, apart := false, narrowed := true }
def CutBehindUptoSaid : Prop := cutBehindUptoRow.holds Try.pinned (OpenSpec.upto cutBehindSpec)

/-- 'sheaflaw06.CutPieces', WHERE WHAT IT READS IS OF BULK AT MOST 1048576: true; the input reads as it did. -/
def cutPiecesUptoRow : OpenClaim := { program := "ytigfioknmcjbbaa", sum := "5c10292ab04e27ec5a1bc745cd36b6cdf0c141c2aed3273ca373334a8c7508d7", func := "sheaf/sheaflaw06.CutPieces", spec := "cutPieces", unfollowed := true, recurses := true, apart := false, narrowed := true }
def CutPiecesUptoSaid : Prop := cutPiecesUptoRow.holds Try.pinned (OpenSpec.upto cutPiecesSpec)

/-- 'sheaflaw06.CutNobody', WHERE WHAT IT READS IS OF BULK AT MOST 1048576: true; the input reads as it did. -/
def cutNobodyUptoRow : OpenClaim := { program := "ytigfioknmcjbbaa", sum := "5c10292ab04e27ec5a1bc745cd36b6cdf0c141c2aed3273ca373334a8c7508d7", func := "sheaf/sheaflaw06.CutNobody", spec := "cutNobody", unfollowed := true, recurses := true, apart := false, narrowed := true }
def CutNobodyUptoSaid : Prop := cutNobodyUptoRow.holds Try.pinned (OpenSpec.upto cutNobodySpec)

/-- 'sheaflaw06.CutAll', WHERE WHAT IT READS IS OF BULK AT MOST 1048576: true; the input reads as it did. -/
def cutAllUptoRow : OpenClaim := { program := "ytigfioknmcjbbaa", sum := "5c10292ab04e27ec5a1bc745cd36b6cdf0c141c2aed3273ca373334a8c7508d7", func := "sheaf/sheaflaw06.CutAll", spec := "cutAll", unfollowed := true, recurses := true, apart := false, narrowed := true }
def CutAllUptoSaid : Prop := cutAllUptoRow.holds Try.pinned (OpenSpec.upto cutAllSpec)

end Rows
end Go.Proofs.Ytigfioknmcjbbaa
