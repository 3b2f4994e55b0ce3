/-
  No cell of these rows narrows 'for every input' (looked for: loops, veiled, ifaces, maps, wideKeys, modest, calm, conditions, laid).
  DERIVED. THE GIVEN ROWS OF THIS SEAT. 6 by the template 'for every input the law returns true; each argument reads behind the call as it read before'; 0 by the template 'total and deterministic' (their statements: YtkackeahklljiaaTotals.lean).
  GIVEN WITH THE SEED: the statements are not yours to turn. If you find one false, say at which input.
  Laid BY PROGRAM, IN A SANDBOX (cutbox-rows.mjs): the forced cells as the released guide's own fill.sh prints them over the translation da53546a51f36de8… (all of the seat's roots in one cut). By AI agents, Wed Nov 11 2026. No macro, syntax, notation, axiom, sorry.
-/
import Derived.Test.YtkackeahklljiaaChecked
import GoSem.Claim
import GoSem.ClaimJoined
import GoSem.ClaimMapViews
import Derived.JoinedTies
import Derived.KernelRfl
namespace Go.Proofs.Ytkackeahklljiaa
/- THE CELL 'sum', in the pinned program and in every row, IS THE sha256 OF THE DUMP (.gsa) THAT YtkackeahklljiaaProg.lean LOADS. Nothing in Lean hashes anything: it is a label: what it is worth is what the hold of that sum in a sandbox is worth. -/
noncomputable def Try.pinned : Pinned := { name := "ytkackeahklljiaa", sum := "da53546a51f36de8bda513676137d1049153b2bb19baf7eb73f0160069474917", checked := Try.checked }
namespace Rows
def none {H : Type} : Left H := { results := [], args := [] }

/-- 'signalbenchlaw24.SpiDecodes': WHATEVER THE INPUT: true; the input reads as it did. -/
def spiDecodesSpec : ChangeSpec := { name := "spiDecodes", fn := fun _ => fun
  | [d1, d2] => { results := [.lit (.bool true)], args := [d1, d2] }
  | _ => none }
def spiDecodesRow : OpenClaim := { program := "ytkackeahklljiaa", sum := "da53546a51f36de8bda513676137d1049153b2bb19baf7eb73f0160069474917", func := "signalbench/signalbenchlaw24.SpiDecodes", spec := "spiDecodes", unfollowed := true, recurses := true, apart := false }
def SpiDecodesSaid : Prop := spiDecodesRow.holds Try.pinned (OpenSpec.ofChange spiDecodesSpec)

/-- ITS FALSE NEIGHBOUR: 'it returns false'. Refute it at one input. -/
def spiDecodesWrong : ChangeSpec := { name := "spiDecodes", fn := fun _ => fun
  | [d1, d2] => { results := [.lit (.bool false)], args := [d1, d2] }
  | _ => none }
def SpiDecodesWrongFalsely : Prop := spiDecodesRow.holds Try.pinned (OpenSpec.ofChange spiDecodesWrong)

/-- 'signalbenchlaw24.SpiRoundTrips': WHATEVER THE INPUT: true; the input reads as it did. -/
def spiRoundTripsSpec : ChangeSpec := { name := "spiRoundTrips", fn := fun _ => fun
  | [d1, d2] => { results := [.lit (.bool true)], args := [d1, d2] }
  | _ => none }
def spiRoundTripsRow : OpenClaim := { program := "ytkackeahklljiaa", sum := "da53546a51f36de8bda513676137d1049153b2bb19baf7eb73f0160069474917", func := "signalbench/signalbenchlaw24.SpiRoundTrips", spec := "spiRoundTrips", unfollowed := true, recurses := true, apart := false }
def SpiRoundTripsSaid : Prop := spiRoundTripsRow.holds Try.pinned (OpenSpec.ofChange spiRoundTripsSpec)

/-- ITS FALSE NEIGHBOUR: 'it returns false'. Refute it at one input. -/
def spiRoundTripsWrong : ChangeSpec := { name := "spiRoundTrips", fn := fun _ => fun
  | [d1, d2] => { results := [.lit (.bool false)], args := [d1, d2] }
  | _ => none }
def SpiRoundTripsWrongFalsely : Prop := spiRoundTripsRow.holds Try.pinned (OpenSpec.ofChange spiRoundTripsWrong)

/-- 'signalbenchlaw24.SpiPieces': WHATEVER THE INPUT: true; the input reads as it did. -/
def spiPiecesSpec : ChangeSpec := { name := "spiPieces", fn := fun _ => fun
  | [d1, d2, d3] => { results := [.lit (.bool true)], args := [d1, d2, d3] }
  | _ => none }
def spiPiecesRow : OpenClaim := { program := "ytkackeahklljiaa", sum := "da53546a51f36de8bda513676137d1049153b2bb19baf7eb73f0160069474917", func := "signalbench/signalbenchlaw24.SpiPieces", spec := "spiPieces", unfollowed := true, recurses := true, apart := false }
def SpiPiecesSaid : Prop := spiPiecesRow.holds Try.pinned (OpenSpec.ofChange spiPiecesSpec)

/-- ITS FALSE NEIGHBOUR: 'it returns false'. Refute it at one input. -/
def spiPiecesWrong : ChangeSpec := { name := "spiPieces", fn := fun _ => fun
  | [d1, d2, d3] => { results := [.lit (.bool false)], args := [d1, d2, d3] }
  | _ => none }
def SpiPiecesWrongFalsely : Prop := spiPiecesRow.holds Try.pinned (OpenSpec.ofChange spiPiecesWrong)

/-- 'signalbenchlaw24.SpiModes': WHATEVER THE INPUT: true; the input reads as it did. -/
def spiModesSpec : ChangeSpec := { name := "spiModes", fn := fun _ => fun
  | [d1, d2] => { results := [.lit (.bool true)], args := [d1, d2] }
  | _ => none }
def spiModesRow : OpenClaim := { program := "ytkackeahklljiaa", sum := "da53546a51f36de8bda513676137d1049153b2bb19baf7eb73f0160069474917", func := "signalbench/signalbenchlaw24.SpiModes", spec := "spiModes", unfollowed := true, recurses := true, apart := false }
def SpiModesSaid : Prop := spiModesRow.holds Try.pinned (OpenSpec.ofChange spiModesSpec)

/-- ITS FALSE NEIGHBOUR: 'it returns false'. Refute it at one input. -/
def spiModesWrong : ChangeSpec := { name := "spiModes", fn := fun _ => fun
  | [d1, d2] => { results := [.lit (.bool false)], args := [d1, d2] }
  | _ => none }
def SpiModesWrongFalsely : Prop := spiModesRow.holds Try.pinned (OpenSpec.ofChange spiModesWrong)

/-- 'signalbenchlaw24.SpiOrder': WHATEVER THE INPUT: true; the input reads as it did. -/
def spiOrderSpec : ChangeSpec := { name := "spiOrder", fn := fun _ => fun
  | [d1, d2] => { results := [.lit (.bool true)], args := [d1, d2] }
  | _ => none }
def spiOrderRow : OpenClaim := { program := "ytkackeahklljiaa", sum := "da53546a51f36de8bda513676137d1049153b2bb19baf7eb73f0160069474917", func := "signalbench/signalbenchlaw24.SpiOrder", spec := "spiOrder", unfollowed := true, recurses := true, apart := false }
def SpiOrderSaid : Prop := spiOrderRow.holds Try.pinned (OpenSpec.ofChange spiOrderSpec)

/-- ITS FALSE NEIGHBOUR: 'it returns false'. Refute it at one input. -/
def spiOrderWrong : ChangeSpec := { name := "spiOrder", fn := fun _ => fun
  | [d1, d2] => { results := [.lit (.bool false)], args := [d1, d2] }
  | _ => none }
def SpiOrderWrongFalsely : Prop := spiOrderRow.holds Try.pinned (OpenSpec.ofChange spiOrderWrong)

/-- 'signalbenchlaw24.SpiEncodes': WHATEVER THE INPUT: true; the input reads as it did. -/
def spiEncodesSpec : ChangeSpec := { name := "spiEncodes", fn := fun _ => fun
  | [d1, d2] => { results := [.lit (.bool true)], args := [d1, d2] }
  | _ => none }
def spiEncodesRow : OpenClaim := { program := "ytkackeahklljiaa", sum := "da53546a51f36de8bda513676137d1049153b2bb19baf7eb73f0160069474917", func := "signalbench/signalbenchlaw24.SpiEncodes", spec := "spiEncodes", unfollowed := true, recurses := true, apart := false }
def SpiEncodesSaid : Prop := spiEncodesRow.holds Try.pinned (OpenSpec.ofChange spiEncodesSpec)

/-- ITS FALSE NEIGHBOUR: 'it returns false'. Refute it at one input. -/
def spiEncodesWrong : ChangeSpec := { name := "spiEncodes", fn := fun _ => fun
  | [d1, d2] => { results := [.lit (.bool false)], args := [d1, d2] }
  | _ => none }
def SpiEncodesWrongFalsely : Prop := spiEncodesRow.holds Try.pinned (OpenSpec.ofChange spiEncodesWrong)

/- THE SECOND FORM. 'bulk': how many values and letters a reading holds, each counted each time it is reached (what is shared counts as often as it is met; a slice's spare places count too). A statement '..UptoSaid' is the law's where the arguments, and the package variables that the reading takes, are together of bulk at most 1048576: NARROWER than '..Said'. Prove '..Said' where nothing that the law and all that it calls make is longer than what came in: it says more and counts as full. Else prove '..UptoSaid'. A law counts once. -/
mutual
def uptoBulk {H : Type} : DataW H → Nat
  | .lit (.string bytes) => bytes.length + 1
  | .lit _ => 1
  | .nil => 1
  | .ptr d => uptoBulk d + 1
  | .slice elems spare => uptoBulkAll elems + uptoBulkAll spare + 1
  | .agg parts => uptoBulkAll parts + 1
  | .iface _ d => uptoBulk d + 1
  | .map entries => uptoBulkEntries entries + 1
  | .held _ => 1
def uptoBulkAll {H : Type} : List (DataW H) → Nat
  | [] => 0
  | d :: r => uptoBulk d + uptoBulkAll r
def uptoBulkEntries {H : Type} : List (Lit × DataW H) → Nat
  | [] => 0
  | x :: r => uptoBulkEntry x + uptoBulkEntries r
def uptoBulkEntry {H : Type} : Lit × DataW H → Nat
  | (.string bytes, d) => bytes.length + uptoBulk d + 1
  | (_, d) => uptoBulk d + 1
 end
def uptoSmall : (H : Type) → List (DataW H) → Bool := fun _ ds => decide (uptoBulkAll ds ≤ 1048576)
def OpenSpec.upto (s : _root_.Go.ChangeSpec) : _root_.Go.OpenSpec := { _root_.Go.OpenSpec.ofChange s with cond := some uptoSmall }

/-- 'signalbenchlaw24.SpiDecodes', WHERE WHAT IT READS IS OF BULK AT MOST 1048576: true; the input reads as it did. -/
def spiDecodesUptoRow : OpenClaim := { program := "ytkackeahklljiaa", sum := "da53546a51f36de8bda513676137d1049153b2bb19baf7eb73f0160069474917", func := "signalbench/signalbenchlaw24.SpiDecodes", spec := "spiDecodes", unfollowed := true, recurses := true, apart := false, narrowed := true }
def SpiDecodesUptoSaid : Prop := spiDecodesUptoRow.holds Try.pinned (OpenSpec.upto spiDecodesSpec)

/-- 'signalbenchlaw24.SpiRoundTrips', WHERE WHAT IT READS IS OF BULK AT MOST 1048576: true; the input reads as it did. -/
def spiRoundTripsUptoRow : OpenClaim := { program := "ytkackeahklljiaa", sum := "da53546a51f36de8bda513676137d1049153b2bb19baf7eb73f0160069474917", func := "signalbench/signalbenchlaw24.SpiRoundTrips", spec := "spiRoundTrips", unfollowed := true, recurses := true, apart := false, narrowed := true }
def SpiRoundTripsUptoSaid : Prop := spiRoundTripsUptoRow.holds Try.pinned (OpenSpec.upto spiRoundTripsSpec)

/-- 'signalbenchlaw24.SpiPieces', WHERE WHAT IT READS IS OF BULK AT MOST 1048576: true; the input reads as it did. -/
def spiPiecesUptoRow : OpenClaim := { program := "ytkackeahklljiaa", sum := "da53546a51f36de8bda513676137d1049153b2bb19baf7eb73f0160069474917", func := "signalbench/signalbenchlaw24.SpiPieces", spec := "spiPieces", unfollowed := true, recurses := true, apart := false, narrowed := true }
def SpiPiecesUptoSaid : Prop := spiPiecesUptoRow.holds Try.pinned (OpenSpec.upto spiPiecesSpec)

/-- 'signalbenchlaw24.SpiModes', WHERE WHAT IT READS IS OF BULK AT MOST 1048576: true; the input reads as it did. -/
def spiModesUptoRow : OpenClaim := { program := "ytkackeahklljiaa", sum := "da53546a51f36de8bda513676137d1049153b2bb19baf7eb73f0160069474917", func := "signalbench/signalbenchlaw24.SpiModes", spec := "spiModes", unfollowed := true, recurses := true, apart := false, narrowed := true }
def SpiModesUptoSaid : Prop := spiModesUptoRow.holds Try.pinned (OpenSpec.upto spiModesSpec)

/-- 'signalbenchlaw24.SpiOrder', WHERE WHAT IT READS IS OF BULK AT MOST 1048576: true; the input reads as it did. -/
def spiOrderUptoRow : OpenClaim := { program := "ytkackeahklljiaa", sum := "da53546a51f36de8bda513676137d1049153b2bb19baf7eb73f0160069474917", func := "signalbench/signalbenchlaw24.SpiOrder", spec := "spiOrder", unfollowed := true, recurses := true, apart := false, narrowed := true }
def SpiOrderUptoSaid : Prop := spiOrderUptoRow.holds Try.pinned (OpenSpec.upto spiOrderSpec)

/-- 'signalbenchlaw24.SpiEncodes', WHERE WHAT IT READS IS OF BULK AT MOST 1048576: true; the input reads as it did. -/
def spiEncodesUptoRow : OpenClaim := { program := "ytkackeahklljiaa", sum := "da53546a51f36de8bda513676137d1049153b2bb19baf7eb73f0160069474917", func := "signalbench/signalbenchlaw24.SpiEncodes", spec := "spiEncodes", unfollowed := true, recurses := true, apart := false, narrowed := true }
def SpiEncodesUptoSaid : Prop := spiEncodesUptoRow.holds Try.pinned (OpenSpec.upto spiEncodesSpec)

end Rows
end Go.Proofs.Ytkackeahklljiaa
