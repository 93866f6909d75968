/-
  No cell of these rows narrows 'for every input' (looked for: loops, veiled, ifaces, maps, wideKeys, modest, calm, conditions, laid).
  DERIVED. THE GIVEN ROWS OF THIS SEAT. 5 by the template 'for every input the law returns true; each argument reads behind the call as it read before'; 0 by the template 'total and deterministic' (their statements: YtlmefcepdadfjaaGreatTotals.lean).
  GIVEN WITH THE SEED: the statements are not yours to turn. If you find one false, say at which input.
  Laid BY PROGRAM, IN A SANDBOX (cutbox-rows.mjs): the forced cells as the released guide's own fill.sh prints them over the translation 153ee9f60bb2ff6c… (all of the seat's roots in one cut). By AI agents, Wed Nov 11 2026. No macro, syntax, notation, axiom, sorry.
-/
import Derived.Test.YtlmefcepdadfjaaGreatChecked
import GoSem.Claim
import GoSem.ClaimJoined
import GoSem.ClaimMapViews
import Derived.JoinedTies
import Derived.KernelRfl
namespace Go.Proofs.YtlmefcepdadfjaaGreat
/- THE CELL 'sum', in the pinned program and in every row, IS THE sha256 OF THE DUMP (.gsa) THAT YtlmefcepdadfjaaGreatProg.lean LOADS. Nothing in Lean hashes anything: it is a label: what it is worth is what the hold of that sum in a sandbox is worth. -/
noncomputable def Tryz.pinned : Pinned := { name := "ytlmefcepdadfjaagreat", sum := "153ee9f60bb2ff6c0d52b05e4356bf16950e1196e123d71f2f8875aa4da5aae3", checked := Tryz.checked }
namespace Rows
def none {H : Type} : Left H := { results := [], args := [] }

/-- 'sheaflaw23.StreamBack': WHATEVER THE INPUT: true; the input reads as it did. -/
def streamBackSpec : ChangeSpec := { name := "streamBack", fn := fun _ => fun
  | [d] => { results := [.lit (.bool true)], args := [d] }
  | _ => none }
def streamBackRow : OpenClaim := { program := "ytlmefcepdadfjaagreat", sum := "153ee9f60bb2ff6c0d52b05e4356bf16950e1196e123d71f2f8875aa4da5aae3", func := "sheaf/sheaflaw23.StreamBack", spec := "streamBack", inPlace := ["internal/abi.NoEscape", "internal/bytealg.MakeNoZero", "internal/bytealg.Compare"], unfollowed := true, recurses := true, plainKeys := false, apart := false }
def StreamBackSaid : Prop := streamBackRow.holds Tryz.pinned (OpenSpec.ofChange streamBackSpec)

/-- ITS FALSE NEIGHBOUR: 'it returns false'. Refute it at one input. -/
def streamBackWrong : ChangeSpec := { name := "streamBack", fn := fun _ => fun
  | [d] => { results := [.lit (.bool false)], args := [d] }
  | _ => none }
def StreamBackWrongFalsely : Prop := streamBackRow.holds Tryz.pinned (OpenSpec.ofChange streamBackWrong)

/-- 'sheaflaw23.StreamChecks': WHATEVER THE INPUT: true; the input reads as it did. -/
def streamChecksSpec : ChangeSpec := { name := "streamChecks", fn := fun _ => fun
  | [d1, d2, d3] => { results := [.lit (.bool true)], args := [d1, d2, d3] }
  | _ => none }
def streamChecksRow : OpenClaim := { program := "ytlmefcepdadfjaagreat", sum := "153ee9f60bb2ff6c0d52b05e4356bf16950e1196e123d71f2f8875aa4da5aae3", func := "sheaf/sheaflaw23.StreamChecks", spec := "streamChecks", inPlace := ["internal/abi.NoEscape", "internal/bytealg.MakeNoZero", "internal/bytealg.Compare"], unfollowed := true, recurses := true, plainKeys := false, apart := false }
def StreamChecksSaid : Prop := streamChecksRow.holds Tryz.pinned (OpenSpec.ofChange streamChecksSpec)

/-- ITS FALSE NEIGHBOUR: 'it returns false'. Refute it at one input. -/
def streamChecksWrong : ChangeSpec := { name := "streamChecks", fn := fun _ => fun
  | [d1, d2, d3] => { results := [.lit (.bool false)], args := [d1, d2, d3] }
  | _ => none }
def StreamChecksWrongFalsely : Prop := streamChecksRow.holds Tryz.pinned (OpenSpec.ofChange streamChecksWrong)

/-- 'sheaflaw23.StreamMakes': WHATEVER THE INPUT: true; the input reads as it did. -/
def streamMakesSpec : ChangeSpec := { name := "streamMakes", fn := fun _ => fun
  | [d] => { results := [.lit (.bool true)], args := [d] }
  | _ => none }
def streamMakesRow : OpenClaim := { program := "ytlmefcepdadfjaagreat", sum := "153ee9f60bb2ff6c0d52b05e4356bf16950e1196e123d71f2f8875aa4da5aae3", func := "sheaf/sheaflaw23.StreamMakes", spec := "streamMakes", inPlace := ["internal/abi.NoEscape", "internal/bytealg.MakeNoZero", "internal/bytealg.Compare"], unfollowed := true, recurses := true, plainKeys := false, apart := false }
def StreamMakesSaid : Prop := streamMakesRow.holds Tryz.pinned (OpenSpec.ofChange streamMakesSpec)

/-- ITS FALSE NEIGHBOUR: 'it returns false'. Refute it at one input. -/
def streamMakesWrong : ChangeSpec := { name := "streamMakes", fn := fun _ => fun
  | [d] => { results := [.lit (.bool false)], args := [d] }
  | _ => none }
def StreamMakesWrongFalsely : Prop := streamMakesRow.holds Tryz.pinned (OpenSpec.ofChange streamMakesWrong)

/-- 'sheaflaw23.StreamPieces': WHATEVER THE INPUT: true; the input reads as it did. -/
def streamPiecesSpec : ChangeSpec := { name := "streamPieces", fn := fun _ => fun
  | [d1, d2] => { results := [.lit (.bool true)], args := [d1, d2] }
  | _ => none }
def streamPiecesRow : OpenClaim := { program := "ytlmefcepdadfjaagreat", sum := "153ee9f60bb2ff6c0d52b05e4356bf16950e1196e123d71f2f8875aa4da5aae3", func := "sheaf/sheaflaw23.StreamPieces", spec := "streamPieces", inPlace := ["internal/abi.NoEscape", "internal/bytealg.MakeNoZero", "internal/bytealg.Compare"], unfollowed := true, recurses := true, plainKeys := false, apart := false }
def StreamPiecesSaid : Prop := streamPiecesRow.holds Tryz.pinned (OpenSpec.ofChange streamPiecesSpec)

/-- ITS FALSE NEIGHBOUR: 'it returns false'. Refute it at one input. -/
def streamPiecesWrong : ChangeSpec := { name := "streamPieces", fn := fun _ => fun
  | [d1, d2] => { results := [.lit (.bool false)], args := [d1, d2] }
  | _ => none }
def StreamPiecesWrongFalsely : Prop := streamPiecesRow.holds Tryz.pinned (OpenSpec.ofChange streamPiecesWrong)

/-- 'sheaflaw23.StreamLong': WHATEVER THE INPUT: true; the input reads as it did. -/
def streamLongSpec : ChangeSpec := { name := "streamLong", fn := fun _ => fun
  | [d1, d2] => { results := [.lit (.bool true)], args := [d1, d2] }
  | _ => none }
def streamLongRow : OpenClaim := { program := "ytlmefcepdadfjaagreat", sum := "153ee9f60bb2ff6c0d52b05e4356bf16950e1196e123d71f2f8875aa4da5aae3", func := "sheaf/sheaflaw23.StreamLong", spec := "streamLong", inPlace := ["internal/abi.NoEscape", "internal/bytealg.MakeNoZero", "internal/bytealg.Compare"], unfollowed := true, recurses := true, plainKeys := false, apart := false }
def StreamLongSaid : Prop := streamLongRow.holds Tryz.pinned (OpenSpec.ofChange streamLongSpec)

/-- ITS FALSE NEIGHBOUR: 'it returns false'. Refute it at one input. -/
def streamLongWrong : ChangeSpec := { name := "streamLong", fn := fun _ => fun
  | [d1, d2] => { results := [.lit (.bool false)], args := [d1, d2] }
  | _ => none }
def StreamLongWrongFalsely : Prop := streamLongRow.holds Tryz.pinned (OpenSpec.ofChange streamLongWrong)

/- THE SECOND FORM. 'bulk': how many values and letters a reading holds, each counted each time it is reached (what is shared counts as often as it is met; a slice's spare places count too). A statement '..UptoSaid' is the law's where the arguments, and the package variables that the reading takes, are together of bulk at most 1048576: NARROWER than '..Said'. Prove '..Said' where nothing that the law and all that it calls make is longer than what came in: it says more and counts as full. Else prove '..UptoSaid'. A law counts once. -/
mutual
def uptoBulk {H : Type} : DataW H → Nat
  | .lit (.string bytes) => bytes.length + 1
  | .lit _ => 1
  | .nil => 1
  | .ptr d => uptoBulk d + 1
  | .slice elems spare => uptoBulkAll elems + uptoBulkAll spare + 1
  | .agg parts => uptoBulkAll parts + 1
  | .iface _ d => uptoBulk d + 1
  | .map entries => uptoBulkEntries entries + 1
  | .held _ => 1
def uptoBulkAll {H : Type} : List (DataW H) → Nat
  | [] => 0
  | d :: r => uptoBulk d + uptoBulkAll r
def uptoBulkEntries {H : Type} : List (Lit × DataW H) → Nat
  | [] => 0
  | x :: r => uptoBulkEntry x + uptoBulkEntries r
def uptoBulkEntry {H : Type} : Lit × DataW H → Nat
  | (.string bytes, d) => bytes.length + uptoBulk d + 1
  | (_, d) => uptoBulk d + 1
 end
def uptoSmall : (H : Type) → List (DataW H) → Bool := fun _ ds => decide (uptoBulkAll ds ≤ 1048576)
def OpenSpec.upto (s : _root_.Go.ChangeSpec) : _root_.Go.OpenSpec := { _root_.Go.OpenSpec.ofChange s with cond := some uptoSmall }

/-- 'sheaflaw23.StreamBack', WHERE WHAT IT READS IS OF BULK AT MOST 1048576: true; the input reads as it did. -/
def streamBackUptoRow : OpenClaim := { program := "ytlmefcepdadfjaagreat", sum := "153ee9f60bb2ff6c0d52b05e4356bf16950e1196e123d71f2f8875aa4da5aae3", func := "sheaf/sheaflaw23.StreamBack", spec := "streamBack", inPlace := ["internal/abi.NoEscape", "internal/bytealg.MakeNoZero", "internal/bytealg.Compare"], unfollowed := true, recurses := true, plainKeys := false, apart := false, narrowed := true }
def StreamBackUptoSaid : Prop := streamBackUptoRow.holds Tryz.pinned (OpenSpec.upto streamBackSpec)

/-- 'sheaflaw23.StreamChecks', WHERE WHAT IT READS IS OF BULK AT MOST 1048576: true; the input reads as it did. -/
def streamChecksUptoRow : OpenClaim := { program := "ytlmefcepdadfjaagreat", sum := "153ee9f60bb2ff6c0d52b05e4356bf16950e1196e123d71f2f8875aa4da5aae3", func := "sheaf/sheaflaw23.StreamChecks", spec := "streamChecks", inPlace := ["internal/abi.NoEscape", "internal/bytealg.MakeNoZero", "internal/bytealg.Compare"], unfollowed := true, recurses := true, plainKeys := false, apart := false, narrowed := true }
def StreamChecksUptoSaid : Prop := streamChecksUptoRow.holds Tryz.pinned (OpenSpec.upto streamChecksSpec)

/-- 'sheaflaw23.StreamMakes', WHERE WHAT IT READS IS OF BULK AT MOST 1048576: true; the input reads as it did. -/
def streamMakesUptoRow : OpenClaim := { program := "ytlmefcepdadfjaagreat", sum := "153ee9f60bb2ff6c0d52b05e4356bf16950e1196e123d71f2f8875aa4da5aae3", func := "sheaf/sheaflaw23.StreamMakes", spec := "streamMakes", inPlace := ["internal/abi.NoEscape", "internal/bytealg.MakeNoZero", "internal/bytealg.Compare"], unfollowed := true, recurses := true, plainKeys := false, apart := false, narrowed := true }
def StreamMakesUptoSaid : Prop := streamMakesUptoRow.holds Tryz.pinned (OpenSpec.upto streamMakesSpec)

/-- 'sheaflaw23.StreamPieces', WHERE WHAT IT READS IS OF BULK AT MOST 1048576: true; the input reads as it did. -/
def streamPiecesUptoRow : OpenClaim := { program := "ytlmefcepdadfjaagreat", sum := "153ee9f60bb2ff6c0d52b05e4356bf16950e1196e123d71f2f8875aa4da5aae3", func := "sheaf/sheaflaw23.StreamPieces", spec := "streamPieces", inPlace := ["internal/abi.NoEscape", "internal/bytealg.MakeNoZero", "internal/bytealg.Compare"], unfollowed := true, recurses := true, plainKeys := false, apart := false, narrowed := true }
def StreamPiecesUptoSaid : Prop := streamPiecesUptoRow.holds Tryz.pinned (OpenSpec.upto streamPiecesSpec)

/-- 'sheaflaw23.StreamLong', WHERE WHAT IT READS IS OF BULK AT MOST 1048576: true; the input reads as it did. -/
def streamLongUptoRow : OpenClaim := { program := "ytlmefcepdadfjaagreat", sum := "153ee9f60bb2ff6c0d52b05e4356bf16950e1196e123d71f2f8875aa4da5aae3", func := "sheaf/sheaflaw23.StreamLong", spec := "streamLong", inPlace := ["internal/abi.NoEscape", "internal/bytealg.MakeNoZero", "internal/bytealg.Compare"], unfollowed := true, recurses := true, plainKeys := false, apart := false, narrowed := true }
def StreamLongUptoSaid : Prop := streamLongUptoRow.holds Tryz.pinned (OpenSpec.upto streamLongSpec)

end Rows
end Go.Proofs.YtlmefcepdadfjaaGreat
