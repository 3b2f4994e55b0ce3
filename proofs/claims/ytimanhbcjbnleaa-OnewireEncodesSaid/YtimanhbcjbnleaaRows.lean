/-
  No cell of these rows narrows 'for every input' (looked for: loops, veiled, ifaces, maps, wideKeys, modest, calm, conditions, laid).
  DERIVED. THE GIVEN ROWS OF THIS SEAT. 6 by the template 'for every input the law returns true; each argument reads behind the call as it read before'; 0 by the template 'total and deterministic' (their statements: YtimanhbcjbnleaaTotals.lean).
  GIVEN WITH THE SEED: the statements are not yours to turn. If you find one false, say at which input.
  Laid BY PROGRAM, IN A SANDBOX (cutbox-rows.mjs): the forced cells as the released guide's own fill.sh prints them over the translation 1abc8b684e423ea0… (all of the seat's roots in one cut). By AI agents, Wed Nov 11 2026. No macro, syntax, notation, axiom, sorry.
-/
import Derived.Test.YtimanhbcjbnleaaChecked
import GoSem.Claim
import GoSem.ClaimJoined
import GoSem.ClaimMapViews
import Derived.JoinedTies
import Derived.KernelRfl
namespace Go.Proofs.Ytimanhbcjbnleaa
/- THE CELL 'sum', in the pinned program and in every row, IS THE sha256 OF THE DUMP (.gsa) THAT YtimanhbcjbnleaaProg.lean LOADS. Nothing in Lean hashes anything: it is a label: what it is worth is what the hold of that sum in a sandbox is worth. -/
noncomputable def Try.pinned : Pinned := { name := "ytimanhbcjbnleaa", sum := "1abc8b684e423ea04b9c8e7238c7e55d4fc80adf5390d511f6c1af99f78f636e", checked := Try.checked }
namespace Rows
def none {H : Type} : Left H := { results := [], args := [] }

/-- 'signalbenchlaw25.OnewireDecodes': WHATEVER THE INPUT: true; the input reads as it did. -/
def onewireDecodesSpec : ChangeSpec := { name := "onewireDecodes", fn := fun _ => fun
  | [d1, d2] => { results := [.lit (.bool true)], args := [d1, d2] }
  | _ => none }
def onewireDecodesRow : OpenClaim := { program := "ytimanhbcjbnleaa", sum := "1abc8b684e423ea04b9c8e7238c7e55d4fc80adf5390d511f6c1af99f78f636e", func := "signalbench/signalbenchlaw25.OnewireDecodes", spec := "onewireDecodes", apart := false }
def OnewireDecodesSaid : Prop := onewireDecodesRow.holds Try.pinned (OpenSpec.ofChange onewireDecodesSpec)

/-- ITS FALSE NEIGHBOUR: 'it returns false'. Refute it at one input. -/
def onewireDecodesWrong : ChangeSpec := { name := "onewireDecodes", fn := fun _ => fun
  | [d1, d2] => { results := [.lit (.bool false)], args := [d1, d2] }
  | _ => none }
def OnewireDecodesWrongFalsely : Prop := onewireDecodesRow.holds Try.pinned (OpenSpec.ofChange onewireDecodesWrong)

/-- 'signalbenchlaw25.OnewireEncodes': WHATEVER THE INPUT: true; the input reads as it did. -/
def onewireEncodesSpec : ChangeSpec := { name := "onewireEncodes", fn := fun _ => fun
  | [d1, d2] => { results := [.lit (.bool true)], args := [d1, d2] }
  | _ => none }
def onewireEncodesRow : OpenClaim := { program := "ytimanhbcjbnleaa", sum := "1abc8b684e423ea04b9c8e7238c7e55d4fc80adf5390d511f6c1af99f78f636e", func := "signalbench/signalbenchlaw25.OnewireEncodes", spec := "onewireEncodes", apart := false }
def OnewireEncodesSaid : Prop := onewireEncodesRow.holds Try.pinned (OpenSpec.ofChange onewireEncodesSpec)

/-- ITS FALSE NEIGHBOUR: 'it returns false'. Refute it at one input. -/
def onewireEncodesWrong : ChangeSpec := { name := "onewireEncodes", fn := fun _ => fun
  | [d1, d2] => { results := [.lit (.bool false)], args := [d1, d2] }
  | _ => none }
def OnewireEncodesWrongFalsely : Prop := onewireEncodesRow.holds Try.pinned (OpenSpec.ofChange onewireEncodesWrong)

/-- 'signalbenchlaw25.OnewireExpects': WHATEVER THE INPUT: true; the input reads as it did. -/
def onewireExpectsSpec : ChangeSpec := { name := "onewireExpects", fn := fun _ => fun
  | [d1, d2] => { results := [.lit (.bool true)], args := [d1, d2] }
  | _ => none }
def onewireExpectsRow : OpenClaim := { program := "ytimanhbcjbnleaa", sum := "1abc8b684e423ea04b9c8e7238c7e55d4fc80adf5390d511f6c1af99f78f636e", func := "signalbench/signalbenchlaw25.OnewireExpects", spec := "onewireExpects", apart := false }
def OnewireExpectsSaid : Prop := onewireExpectsRow.holds Try.pinned (OpenSpec.ofChange onewireExpectsSpec)

/-- ITS FALSE NEIGHBOUR: 'it returns false'. Refute it at one input. -/
def onewireExpectsWrong : ChangeSpec := { name := "onewireExpects", fn := fun _ => fun
  | [d1, d2] => { results := [.lit (.bool false)], args := [d1, d2] }
  | _ => none }
def OnewireExpectsWrongFalsely : Prop := onewireExpectsRow.holds Try.pinned (OpenSpec.ofChange onewireExpectsWrong)

/-- 'signalbenchlaw25.OnewireRoundTrips': WHATEVER THE INPUT: true; the input reads as it did. -/
def onewireRoundTripsSpec : ChangeSpec := { name := "onewireRoundTrips", fn := fun _ => fun
  | [d1, d2] => { results := [.lit (.bool true)], args := [d1, d2] }
  | _ => none }
def onewireRoundTripsRow : OpenClaim := { program := "ytimanhbcjbnleaa", sum := "1abc8b684e423ea04b9c8e7238c7e55d4fc80adf5390d511f6c1af99f78f636e", func := "signalbench/signalbenchlaw25.OnewireRoundTrips", spec := "onewireRoundTrips", apart := false }
def OnewireRoundTripsSaid : Prop := onewireRoundTripsRow.holds Try.pinned (OpenSpec.ofChange onewireRoundTripsSpec)

/-- ITS FALSE NEIGHBOUR: 'it returns false'. Refute it at one input. -/
def onewireRoundTripsWrong : ChangeSpec := { name := "onewireRoundTrips", fn := fun _ => fun
  | [d1, d2] => { results := [.lit (.bool false)], args := [d1, d2] }
  | _ => none }
def OnewireRoundTripsWrongFalsely : Prop := onewireRoundTripsRow.holds Try.pinned (OpenSpec.ofChange onewireRoundTripsWrong)

/-- 'signalbenchlaw25.OnewirePieces': WHATEVER THE INPUT: true; the input reads as it did. -/
def onewirePiecesSpec : ChangeSpec := { name := "onewirePieces", fn := fun _ => fun
  | [d1, d2, d3] => { results := [.lit (.bool true)], args := [d1, d2, d3] }
  | _ => none }
def onewirePiecesRow : OpenClaim := { program := "ytimanhbcjbnleaa", sum := "1abc8b684e423ea04b9c8e7238c7e55d4fc80adf5390d511f6c1af99f78f636e", func := "signalbench/signalbenchlaw25.OnewirePieces", spec := "onewirePieces", apart := false }
def OnewirePiecesSaid : Prop := onewirePiecesRow.holds Try.pinned (OpenSpec.ofChange onewirePiecesSpec)

/-- ITS FALSE NEIGHBOUR: 'it returns false'. Refute it at one input. -/
def onewirePiecesWrong : ChangeSpec := { name := "onewirePieces", fn := fun _ => fun
  | [d1, d2, d3] => { results := [.lit (.bool false)], args := [d1, d2, d3] }
  | _ => none }
def OnewirePiecesWrongFalsely : Prop := onewirePiecesRow.holds Try.pinned (OpenSpec.ofChange onewirePiecesWrong)

/-- 'signalbenchlaw25.OnewireIgnores': WHATEVER THE INPUT: true; the input reads as it did. -/
def onewireIgnoresSpec : ChangeSpec := { name := "onewireIgnores", fn := fun _ => fun
  | [d1, d2, d3] => { results := [.lit (.bool true)], args := [d1, d2, d3] }
  | _ => none }
def onewireIgnoresRow : OpenClaim := { program := "ytimanhbcjbnleaa", sum := "1abc8b684e423ea04b9c8e7238c7e55d4fc80adf5390d511f6c1af99f78f636e", func := "signalbench/signalbenchlaw25.OnewireIgnores", spec := "onewireIgnores", apart := false }
def OnewireIgnoresSaid : Prop := onewireIgnoresRow.holds Try.pinned (OpenSpec.ofChange onewireIgnoresSpec)

/-- ITS FALSE NEIGHBOUR: 'it returns false'. Refute it at one input. -/
def onewireIgnoresWrong : ChangeSpec := { name := "onewireIgnores", fn := fun _ => fun
  | [d1, d2, d3] => { results := [.lit (.bool false)], args := [d1, d2, d3] }
  | _ => none }
def OnewireIgnoresWrongFalsely : Prop := onewireIgnoresRow.holds Try.pinned (OpenSpec.ofChange onewireIgnoresWrong)

/- THE SECOND FORM. 'bulk': how many values and letters a reading holds, each counted each time it is reached (what is shared counts as often as it is met; a slice's spare places count too). A statement '..UptoSaid' is the law's where the arguments, and the package variables that the reading takes, are together of bulk at most 1048576: NARROWER than '..Said'. Prove '..Said' where nothing that the law and all that it calls make is longer than what came in: it says more and counts as full. Else prove '..UptoSaid'. A law counts once. -/
mutual
def uptoBulk {H : Type} : DataW H → Nat
  | .lit (.string bytes) => bytes.length + 1
  | .lit _ => 1
  | .nil => 1
  | .ptr d => uptoBulk d + 1
  | .slice elems spare => uptoBulkAll elems + uptoBulkAll spare + 1
  | .agg parts => uptoBulkAll parts + 1
  | .iface _ d => uptoBulk d + 1
  | .map entries => uptoBulkEntries entries + 1
  | .held _ => 1
def uptoBulkAll {H : Type} : List (DataW H) → Nat
  | [] => 0
  | d :: r => uptoBulk d + uptoBulkAll r
def uptoBulkEntries {H : Type} : List (Lit × DataW H) → Nat
  | [] => 0
  | x :: r => uptoBulkEntry x + uptoBulkEntries r
def uptoBulkEntry {H : Type} : Lit × DataW H → Nat
  | (.string bytes, d) => bytes.length + uptoBulk d + 1
  | (_, d) => uptoBulk d + 1
 end
def uptoSmall : (H : Type) → List (DataW H) → Bool := fun _ ds => decide (uptoBulkAll ds ≤ 1048576)
def OpenSpec.upto (s : _root_.Go.ChangeSpec) : _root_.Go.OpenSpec := { _root_.Go.OpenSpec.ofChange s with cond := some uptoSmall }

/-- 'signalbenchlaw25.OnewireDecodes', WHERE WHAT IT READS IS OF BULK AT MOST 1048576: true; the input reads as it did. -/
def onewireDecodesUptoRow : OpenClaim := { program := "ytimanhbcjbnleaa", sum := "1abc8b684e423ea04b9c8e7238c7e55d4fc80adf5390d511f6c1af99f78f636e", func := "signalbench/signalbenchlaw25.OnewireDecodes", spec := "onewireDecodes", apart := false, narrowed := true }
def OnewireDecodesUptoSaid : Prop := onewireDecodesUptoRow.holds Try.pinned (OpenSpec.upto onewireDecodesSpec)

/-- 'signalbenchlaw25.OnewireEncodes', WHERE WHAT IT READS IS OF BULK AT MOST 1048576: true; the input reads as it did. -/
def onewireEncodesUptoRow : OpenClaim := { program := "ytimanhbcjbnleaa", sum := "1abc8b684e423ea04b9c8e7238c7e55d4fc80adf5390d511f6c1af99f78f636e", func := "signalbench/signalbenchlaw25.OnewireEncodes", spec := "onewireEncodes", apart := false, narrowed := true }
def OnewireEncodesUptoSaid : Prop := onewireEncodesUptoRow.holds Try.pinned (OpenSpec.upto onewireEncodesSpec)

/-- 'signalbenchlaw25.OnewireExpects', WHERE WHAT IT READS IS OF BULK AT MOST 1048576: true; the input reads as it did. -/
def onewireExpectsUptoRow : OpenClaim := { program := "ytimanhbcjbnleaa", sum := "1abc8b684e423ea04b9c8e7238c7e55d4fc80adf5390d511f6c1af99f78f636e", func := "signalbench/signalbenchlaw25.OnewireExpects", spec := "onewireExpects", apart := false, narrowed := true }
def OnewireExpectsUptoSaid : Prop := onewireExpectsUptoRow.holds Try.pinned (OpenSpec.upto onewireExpectsSpec)

/-- 'signalbenchlaw25.OnewireRoundTrips', WHERE WHAT IT READS IS OF BULK AT MOST 1048576: true; the input reads as it did. -/
def onewireRoundTripsUptoRow : OpenClaim := { program := "ytimanhbcjbnleaa", sum := "1abc8b684e423ea04b9c8e7238c7e55d4fc80adf5390d511f6c1af99f78f636e", func := "signalbench/signalbenchlaw25.OnewireRoundTrips", spec := "onewireRoundTrips", apart := false, narrowed := true }
def OnewireRoundTripsUptoSaid : Prop := onewireRoundTripsUptoRow.holds Try.pinned (OpenSpec.upto onewireRoundTripsSpec)

/-- 'signalbenchlaw25.OnewirePieces', WHERE WHAT IT READS IS OF BULK AT MOST 1048576: true; the input reads as it did. -/
def onewirePiecesUptoRow : OpenClaim := { program := "ytimanhbcjbnleaa", sum := "1abc8b684e423ea04b9c8e7238c7e55d4fc80adf5390d511f6c1af99f78f636e", func := "signalbench/signalbenchlaw25.OnewirePieces", spec := "onewirePieces", apart := false, narrowed := true }
def OnewirePiecesUptoSaid : Prop := onewirePiecesUptoRow.holds Try.pinned (OpenSpec.upto onewirePiecesSpec)

/-- 'signalbenchlaw25.OnewireIgnores', WHERE WHAT IT READS IS OF BULK AT MOST 1048576: true; the input reads as it did. -/
def onewireIgnoresUptoRow : OpenClaim := { program := "ytimanhbcjbnleaa", sum := "1abc8b684e423ea04b9c8e7238c7e55d4fc80adf5390d511f6c1af99f78f636e", func := "signalbench/signalbenchlaw25.OnewireIgnores", spec := "onewireIgnores", apart := false, narrowed := true }
def OnewireIgnoresUptoSaid : Prop := onewireIgnoresUptoRow.holds Try.pinned (OpenSpec.upto onewireIgnoresSpec)

end Rows
end Go.Proofs.Ytimanhbcjbnleaa
