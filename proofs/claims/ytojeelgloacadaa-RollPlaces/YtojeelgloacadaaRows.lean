/-
  No cell of these rows narrows 'for every input' (looked for: loops, veiled, ifaces, maps, wideKeys, modest, calm, conditions, laid).
  DERIVED. THE GIVEN ROWS OF THIS SEAT. 5 by the template 'for every input the law returns true; each argument reads behind the call as it read before'; 0 by the template 'total and deterministic' (their statements: YtojeelgloacadaaTotals.lean).
  GIVEN WITH THE SEED: the statements are not yours to turn. If you find one false, say at which input.
  Laid BY PROGRAM, IN A SANDBOX (cutbox-rows.mjs): the forced cells as the released guide's own fill.sh prints them over the translation 5a3224d3fc639d93… (all of the seat's roots in one cut). By AI agents, Wed Nov 11 2026. No macro, syntax, notation, axiom, sorry.
-/
import Derived.Test.YtojeelgloacadaaChecked
import GoSem.Claim
import GoSem.ClaimJoined
import GoSem.ClaimMapViews
import Derived.JoinedTies
import Derived.KernelRfl
namespace Go.Proofs.Ytojeelgloacadaa
/- THE CELL 'sum', in the pinned program and in every row, IS THE sha256 OF THE DUMP (.gsa) THAT YtojeelgloacadaaProg.lean LOADS. Nothing in Lean hashes anything: it is a label: what it is worth is what the hold of that sum in a sandbox is worth. -/
noncomputable def Try.pinned : Pinned := { name := "ytojeelgloacadaa", sum := "5a3224d3fc639d9373a0a8a6d0ece0d583d567b31013f2e5851ea4a256ba3bac", checked := Try.checked }
namespace Rows
def none {H : Type} : Left H := { results := [], args := [] }

/-- 'sheaflaw05.RollSums': WHATEVER THE INPUT: true; the input reads as it did. -/
def rollSumsSpec : ChangeSpec := { name := "rollSums", fn := fun _ => fun
  | [d] => { results := [.lit (.bool true)], args := [d] }
  | _ => none }
def rollSumsRow : OpenClaim := { program := "ytojeelgloacadaa", sum := "5a3224d3fc639d9373a0a8a6d0ece0d583d567b31013f2e5851ea4a256ba3bac", func := "sheaf/sheaflaw05.RollSums", spec := "rollSums", apart := false }
def RollSumsSaid : Prop := rollSumsRow.holds Try.pinned (OpenSpec.ofChange rollSumsSpec)

/-- ITS FALSE NEIGHBOUR: 'it returns false'. Refute it at one input. -/
def rollSumsWrong : ChangeSpec := { name := "rollSums", fn := fun _ => fun
  | [d] => { results := [.lit (.bool false)], args := [d] }
  | _ => none }
def RollSumsWrongFalsely : Prop := rollSumsRow.holds Try.pinned (OpenSpec.ofChange rollSumsWrong)

/-- 'sheaflaw05.RollPushes': WHATEVER THE INPUT: true; the input reads as it did. -/
def rollPushesSpec : ChangeSpec := { name := "rollPushes", fn := fun _ => fun
  | [d1, d2] => { results := [.lit (.bool true)], args := [d1, d2] }
  | _ => none }
def rollPushesRow : OpenClaim := { program := "ytojeelgloacadaa", sum := "5a3224d3fc639d9373a0a8a6d0ece0d583d567b31013f2e5851ea4a256ba3bac", func := "sheaf/sheaflaw05.RollPushes", spec := "rollPushes", apart := false }
def RollPushesSaid : Prop := rollPushesRow.holds Try.pinned (OpenSpec.ofChange rollPushesSpec)

/-- ITS FALSE NEIGHBOUR: 'it returns false'. Refute it at one input. -/
def rollPushesWrong : ChangeSpec := { name := "rollPushes", fn := fun _ => fun
  | [d1, d2] => { results := [.lit (.bool false)], args := [d1, d2] }
  | _ => none }
def RollPushesWrongFalsely : Prop := rollPushesRow.holds Try.pinned (OpenSpec.ofChange rollPushesWrong)

/-- 'sheaflaw05.RollForgets': WHATEVER THE INPUT: true; the input reads as it did. -/
def rollForgetsSpec : ChangeSpec := { name := "rollForgets", fn := fun _ => fun
  | [d1, d2, d3] => { results := [.lit (.bool true)], args := [d1, d2, d3] }
  | _ => none }
def rollForgetsRow : OpenClaim := { program := "ytojeelgloacadaa", sum := "5a3224d3fc639d9373a0a8a6d0ece0d583d567b31013f2e5851ea4a256ba3bac", func := "sheaf/sheaflaw05.RollForgets", spec := "rollForgets", apart := false }
def RollForgetsSaid : Prop := rollForgetsRow.holds Try.pinned (OpenSpec.ofChange rollForgetsSpec)

/-- ITS FALSE NEIGHBOUR: 'it returns false'. Refute it at one input. -/
def rollForgetsWrong : ChangeSpec := { name := "rollForgets", fn := fun _ => fun
  | [d1, d2, d3] => { results := [.lit (.bool false)], args := [d1, d2, d3] }
  | _ => none }
def RollForgetsWrongFalsely : Prop := rollForgetsRow.holds Try.pinned (OpenSpec.ofChange rollForgetsWrong)

/-- 'sheaflaw05.RollSlides': WHATEVER THE INPUT: true; the input reads as it did. -/
def rollSlidesSpec : ChangeSpec := { name := "rollSlides", fn := fun _ => fun
  | [d1, d2, d3, d4] => { results := [.lit (.bool true)], args := [d1, d2, d3, d4] }
  | _ => none }
def rollSlidesRow : OpenClaim := { program := "ytojeelgloacadaa", sum := "5a3224d3fc639d9373a0a8a6d0ece0d583d567b31013f2e5851ea4a256ba3bac", func := "sheaf/sheaflaw05.RollSlides", spec := "rollSlides", apart := false }
def RollSlidesSaid : Prop := rollSlidesRow.holds Try.pinned (OpenSpec.ofChange rollSlidesSpec)

/-- ITS FALSE NEIGHBOUR: 'it returns false'. Refute it at one input. -/
def rollSlidesWrong : ChangeSpec := { name := "rollSlides", fn := fun _ => fun
  | [d1, d2, d3, d4] => { results := [.lit (.bool false)], args := [d1, d2, d3, d4] }
  | _ => none }
def RollSlidesWrongFalsely : Prop := rollSlidesRow.holds Try.pinned (OpenSpec.ofChange rollSlidesWrong)

/-- 'sheaflaw05.RollPlaces': WHATEVER THE INPUT: true; the input reads as it did. -/
def rollPlacesSpec : ChangeSpec := { name := "rollPlaces", fn := fun _ => fun
  | [d1, d2] => { results := [.lit (.bool true)], args := [d1, d2] }
  | _ => none }
def rollPlacesRow : OpenClaim := { program := "ytojeelgloacadaa", sum := "5a3224d3fc639d9373a0a8a6d0ece0d583d567b31013f2e5851ea4a256ba3bac", func := "sheaf/sheaflaw05.RollPlaces", spec := "rollPlaces", apart := false }
def RollPlacesSaid : Prop := rollPlacesRow.holds Try.pinned (OpenSpec.ofChange rollPlacesSpec)

/-- ITS FALSE NEIGHBOUR: 'it returns false'. Refute it at one input. -/
def rollPlacesWrong : ChangeSpec := { name := "rollPlaces", fn := fun _ => fun
  | [d1, d2] => { results := [.lit (.bool false)], args := [d1, d2] }
  | _ => none }
def RollPlacesWrongFalsely : Prop := rollPlacesRow.holds Try.pinned (OpenSpec.ofChange rollPlacesWrong)

/- THE SECOND FORM. 'bulk': how many values and letters a reading holds, each counted each time it is reached (what is shared counts as often as it is met; a slice's spare places count too). A statement '..UptoSaid' is the law's where the arguments, and the package variables that the reading takes, are together of bulk at most 1048576: NARROWER than '..Said'. Prove '..Said' where nothing that the law and all that it calls make is longer than what came in: it says more and counts as full. Else prove '..UptoSaid'. A law counts once. -/
mutual
def uptoBulk {H : Type} : DataW H → Nat
  | .lit (.string bytes) => bytes.length + 1
  | .lit _ => 1
  | .nil => 1
  | .ptr d => uptoBulk d + 1
  | .slice elems spare => uptoBulkAll elems + uptoBulkAll spare + 1
  | .agg parts => uptoBulkAll parts + 1
  | .iface _ d => uptoBulk d + 1
  | .map entries => uptoBulkEntries entries + 1
  | .held _ => 1
def uptoBulkAll {H : Type} : List (DataW H) → Nat
  | [] => 0
  | d :: r => uptoBulk d + uptoBulkAll r
def uptoBulkEntries {H : Type} : List (Lit × DataW H) → Nat
  | [] => 0
  | x :: r => uptoBulkEntry x + uptoBulkEntries r
def uptoBulkEntry {H : Type} : Lit × DataW H → Nat
  | (.string bytes, d) => bytes.length + uptoBulk d + 1
  | (_, d) => uptoBulk d + 1
 end
def uptoSmall : (H : Type) → List (DataW H) → Bool := fun _ ds => decide (uptoBulkAll ds ≤ 1048576)
def OpenSpec.upto (s : _root_.Go.ChangeSpec) : _root_.Go.OpenSpec := { _root_.Go.OpenSpec.ofChange s with cond := some uptoSmall }

/-- 'sheaflaw05.RollSums', WHERE WHAT IT READS IS OF BULK AT MOST 1048576: true; the input reads as it did. -/
def rollSumsUptoRow : OpenClaim := { program := "ytojeelgloacadaa", sum := "5a3224d3fc639d9373a0a8a6d0ece0d583d567b31013f2e5851ea4a256ba3bac", func := "sheaf/sheaflaw05.RollSums", spec := "rollSums", apart := false, narrowed := true }
def RollSumsUptoSaid : Prop := rollSumsUptoRow.holds Try.pinned (OpenSpec.upto rollSumsSpec)

/-- 'sheaflaw05.RollPushes', WHERE WHAT IT READS IS OF BULK AT MOST 1048576: true; the input reads as it did. -/
def rollPushesUptoRow : OpenClaim := { program := "ytojeelgloacadaa", sum := "5a3224d3fc639d9373a0a8a6d0ece0d583d567b31013f2e5851ea4a256ba3bac", func := "sheaf/sheaflaw05.RollPushes", spec := "rollPushes", apart := false, narrowed := true }
def RollPushesUptoSaid : Prop := rollPushesUptoRow.holds Try.pinned (OpenSpec.upto rollPushesSpec)

/-- 'sheaflaw05.RollForgets', WHERE WHAT IT READS IS OF BULK AT MOST 1048576: true; the input reads as it did. -/
def rollForgetsUptoRow : OpenClaim := { program := "ytojeelgloacadaa", sum := "5a3224d3fc639d9373a0a8a6d0ece0d583d567b31013f2e5851ea4a256ba3bac", func := "sheaf/sheaflaw05.RollForgets", spec := "rollForgets", apart := false, narrowed := true }
def RollForgetsUptoSaid : Prop := rollForgetsUptoRow.holds Try.pinned (OpenSpec.upto rollForgetsSpec)

/-- 'sheaflaw05.RollSlides', WHERE WHAT IT READS IS OF BULK AT MOST 1048576: true; the input reads as it did. -/
def rollSlidesUptoRow : OpenClaim := { program := "ytojeelgloacadaa", sum := "5a3224d3fc639d9373a0a8a6d0ece0d583d567b31013f2e5851ea4a256ba3bac", func := "sheaf/sheaflaw05.RollSlides", spec := "rollSlides", apart := false, narrowed := true }
def RollSlidesUptoSaid : Prop := rollSlidesUptoRow.holds Try.pinned (OpenSpec.upto rollSlidesSpec)

/-- 'sheaflaw05.RollPlaces', WHERE WHAT IT READS IS OF BULK AT MOST 1048576: true; the input reads as it did. -/
def rollPlacesUptoRow : OpenClaim := { program := "ytojeelgloacadaa", sum := "5a3224d3fc639d9373a0a8a6d0ece0d583d567b31013f2e5851ea4a256ba3bac", func := "sheaf/sheaflaw05.RollPlaces", spec := "rollPlaces", apart := false, narrowed := true }
def RollPlacesUptoSaid : Prop := rollPlacesUptoRow.holds Try.pinned (OpenSpec.upto rollPlacesSpec)

end Rows
end Go.Proofs.Ytojeelgloacadaa
