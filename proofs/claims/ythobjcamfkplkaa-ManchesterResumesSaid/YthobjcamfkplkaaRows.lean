/-
  No cell of these rows narrows 'for every input' (looked for: loops, veiled, ifaces, maps, wideKeys, modest, calm, conditions, laid).
  DERIVED. THE GIVEN ROWS OF THIS SEAT. 7 by the template 'for every input the law returns true; each argument reads behind the call as it read before'; 0 by the template 'total and deterministic' (their statements: YthobjcamfkplkaaTotals.lean).
  GIVEN WITH THE SEED: the statements are not yours to turn. If you find one false, say at which input.
  Laid BY PROGRAM, IN A SANDBOX (cutbox-rows.mjs): the forced cells as the released guide's own fill.sh prints them over the translation 9baaface03668e0d… (all of the seat's roots in one cut). By AI agents, Wed Nov 11 2026. No macro, syntax, notation, axiom, sorry.
-/
import Derived.Test.YthobjcamfkplkaaChecked
import GoSem.Claim
import GoSem.ClaimJoined
import GoSem.ClaimMapViews
import Derived.JoinedTies
import Derived.KernelRfl
namespace Go.Proofs.Ythobjcamfkplkaa
/- THE CELL 'sum', in the pinned program and in every row, IS THE sha256 OF THE DUMP (.gsa) THAT YthobjcamfkplkaaProg.lean LOADS. Nothing in Lean hashes anything: it is a label: what it is worth is what the hold of that sum in a sandbox is worth. -/
noncomputable def Try.pinned : Pinned := { name := "ythobjcamfkplkaa", sum := "9baaface03668e0d7054f2480e1f3ac6cd3275420f3c2a1a0b0bea209a450723", checked := Try.checked }
namespace Rows
def none {H : Type} : Left H := { results := [], args := [] }

/-- 'signalbenchlaw17.ManchesterChecks': WHATEVER THE INPUT: true; the input reads as it did. -/
def manchesterChecksSpec : ChangeSpec := { name := "manchesterChecks", fn := fun _ => fun
  | [d1, d2, d3] => { results := [.lit (.bool true)], args := [d1, d2, d3] }
  | _ => none }
def manchesterChecksRow : OpenClaim := { program := "ythobjcamfkplkaa", sum := "9baaface03668e0d7054f2480e1f3ac6cd3275420f3c2a1a0b0bea209a450723", func := "signalbench/signalbenchlaw17.ManchesterChecks", spec := "manchesterChecks", recurses := true, apart := false }
def ManchesterChecksSaid : Prop := manchesterChecksRow.holds Try.pinned (OpenSpec.ofChange manchesterChecksSpec)

/-- ITS FALSE NEIGHBOUR: 'it returns false'. Refute it at one input. -/
def manchesterChecksWrong : ChangeSpec := { name := "manchesterChecks", fn := fun _ => fun
  | [d1, d2, d3] => { results := [.lit (.bool false)], args := [d1, d2, d3] }
  | _ => none }
def ManchesterChecksWrongFalsely : Prop := manchesterChecksRow.holds Try.pinned (OpenSpec.ofChange manchesterChecksWrong)

/-- 'signalbenchlaw17.ManchesterDecodes': WHATEVER THE INPUT: true; the input reads as it did. -/
def manchesterDecodesSpec : ChangeSpec := { name := "manchesterDecodes", fn := fun _ => fun
  | [d1, d2] => { results := [.lit (.bool true)], args := [d1, d2] }
  | _ => none }
def manchesterDecodesRow : OpenClaim := { program := "ythobjcamfkplkaa", sum := "9baaface03668e0d7054f2480e1f3ac6cd3275420f3c2a1a0b0bea209a450723", func := "signalbench/signalbenchlaw17.ManchesterDecodes", spec := "manchesterDecodes", recurses := true, apart := false }
def ManchesterDecodesSaid : Prop := manchesterDecodesRow.holds Try.pinned (OpenSpec.ofChange manchesterDecodesSpec)

/-- ITS FALSE NEIGHBOUR: 'it returns false'. Refute it at one input. -/
def manchesterDecodesWrong : ChangeSpec := { name := "manchesterDecodes", fn := fun _ => fun
  | [d1, d2] => { results := [.lit (.bool false)], args := [d1, d2] }
  | _ => none }
def ManchesterDecodesWrongFalsely : Prop := manchesterDecodesRow.holds Try.pinned (OpenSpec.ofChange manchesterDecodesWrong)

/-- 'signalbenchlaw17.ManchesterEncodes': WHATEVER THE INPUT: true; the input reads as it did. -/
def manchesterEncodesSpec : ChangeSpec := { name := "manchesterEncodes", fn := fun _ => fun
  | [d1, d2] => { results := [.lit (.bool true)], args := [d1, d2] }
  | _ => none }
def manchesterEncodesRow : OpenClaim := { program := "ythobjcamfkplkaa", sum := "9baaface03668e0d7054f2480e1f3ac6cd3275420f3c2a1a0b0bea209a450723", func := "signalbench/signalbenchlaw17.ManchesterEncodes", spec := "manchesterEncodes", recurses := true, apart := false }
def ManchesterEncodesSaid : Prop := manchesterEncodesRow.holds Try.pinned (OpenSpec.ofChange manchesterEncodesSpec)

/-- ITS FALSE NEIGHBOUR: 'it returns false'. Refute it at one input. -/
def manchesterEncodesWrong : ChangeSpec := { name := "manchesterEncodes", fn := fun _ => fun
  | [d1, d2] => { results := [.lit (.bool false)], args := [d1, d2] }
  | _ => none }
def ManchesterEncodesWrongFalsely : Prop := manchesterEncodesRow.holds Try.pinned (OpenSpec.ofChange manchesterEncodesWrong)

/-- 'signalbenchlaw17.ManchesterRoundTrips': WHATEVER THE INPUT: true; the input reads as it did. -/
def manchesterRoundTripsSpec : ChangeSpec := { name := "manchesterRoundTrips", fn := fun _ => fun
  | [d1, d2] => { results := [.lit (.bool true)], args := [d1, d2] }
  | _ => none }
def manchesterRoundTripsRow : OpenClaim := { program := "ythobjcamfkplkaa", sum := "9baaface03668e0d7054f2480e1f3ac6cd3275420f3c2a1a0b0bea209a450723", func := "signalbench/signalbenchlaw17.ManchesterRoundTrips", spec := "manchesterRoundTrips", apart := false }
def ManchesterRoundTripsSaid : Prop := manchesterRoundTripsRow.holds Try.pinned (OpenSpec.ofChange manchesterRoundTripsSpec)

/-- ITS FALSE NEIGHBOUR: 'it returns false'. Refute it at one input. -/
def manchesterRoundTripsWrong : ChangeSpec := { name := "manchesterRoundTrips", fn := fun _ => fun
  | [d1, d2] => { results := [.lit (.bool false)], args := [d1, d2] }
  | _ => none }
def ManchesterRoundTripsWrongFalsely : Prop := manchesterRoundTripsRow.holds Try.pinned (OpenSpec.ofChange manchesterRoundTripsWrong)

/-- 'signalbenchlaw17.ManchesterPieces': WHATEVER THE INPUT: true; the input reads as it did. -/
def manchesterPiecesSpec : ChangeSpec := { name := "manchesterPieces", fn := fun _ => fun
  | [d1, d2, d3, d4] => { results := [.lit (.bool true)], args := [d1, d2, d3, d4] }
  | _ => none }
def manchesterPiecesRow : OpenClaim := { program := "ythobjcamfkplkaa", sum := "9baaface03668e0d7054f2480e1f3ac6cd3275420f3c2a1a0b0bea209a450723", func := "signalbench/signalbenchlaw17.ManchesterPieces", spec := "manchesterPieces", apart := false }
def ManchesterPiecesSaid : Prop := manchesterPiecesRow.holds Try.pinned (OpenSpec.ofChange manchesterPiecesSpec)

/-- ITS FALSE NEIGHBOUR: 'it returns false'. Refute it at one input. -/
def manchesterPiecesWrong : ChangeSpec := { name := "manchesterPieces", fn := fun _ => fun
  | [d1, d2, d3, d4] => { results := [.lit (.bool false)], args := [d1, d2, d3, d4] }
  | _ => none }
def ManchesterPiecesWrongFalsely : Prop := manchesterPiecesRow.holds Try.pinned (OpenSpec.ofChange manchesterPiecesWrong)

/-- 'signalbenchlaw17.ManchesterInverts': WHATEVER THE INPUT: true; the input reads as it did. -/
def manchesterInvertsSpec : ChangeSpec := { name := "manchesterInverts", fn := fun _ => fun
  | [d1, d2, d3] => { results := [.lit (.bool true)], args := [d1, d2, d3] }
  | _ => none }
def manchesterInvertsRow : OpenClaim := { program := "ythobjcamfkplkaa", sum := "9baaface03668e0d7054f2480e1f3ac6cd3275420f3c2a1a0b0bea209a450723", func := "signalbench/signalbenchlaw17.ManchesterInverts", spec := "manchesterInverts", apart := false }
def ManchesterInvertsSaid : Prop := manchesterInvertsRow.holds Try.pinned (OpenSpec.ofChange manchesterInvertsSpec)

/-- ITS FALSE NEIGHBOUR: 'it returns false'. Refute it at one input. -/
def manchesterInvertsWrong : ChangeSpec := { name := "manchesterInverts", fn := fun _ => fun
  | [d1, d2, d3] => { results := [.lit (.bool false)], args := [d1, d2, d3] }
  | _ => none }
def ManchesterInvertsWrongFalsely : Prop := manchesterInvertsRow.holds Try.pinned (OpenSpec.ofChange manchesterInvertsWrong)

/-- 'signalbenchlaw17.ManchesterResumes': WHATEVER THE INPUT: true; the input reads as it did. -/
def manchesterResumesSpec : ChangeSpec := { name := "manchesterResumes", fn := fun _ => fun
  | [d1, d2, d3] => { results := [.lit (.bool true)], args := [d1, d2, d3] }
  | _ => none }
def manchesterResumesRow : OpenClaim := { program := "ythobjcamfkplkaa", sum := "9baaface03668e0d7054f2480e1f3ac6cd3275420f3c2a1a0b0bea209a450723", func := "signalbench/signalbenchlaw17.ManchesterResumes", spec := "manchesterResumes", apart := false }
def ManchesterResumesSaid : Prop := manchesterResumesRow.holds Try.pinned (OpenSpec.ofChange manchesterResumesSpec)

/-- ITS FALSE NEIGHBOUR: 'it returns false'. Refute it at one input. -/
def manchesterResumesWrong : ChangeSpec := { name := "manchesterResumes", fn := fun _ => fun
  | [d1, d2, d3] => { results := [.lit (.bool false)], args := [d1, d2, d3] }
  | _ => none }
def ManchesterResumesWrongFalsely : Prop := manchesterResumesRow.holds Try.pinned (OpenSpec.ofChange manchesterResumesWrong)

/- THE SECOND FORM. 'bulk': how many values and letters a reading holds, each counted each time it is reached (what is shared counts as often as it is met; a slice's spare places count too). A statement '..UptoSaid' is the law's where the arguments, and the package variables that the reading takes, are together of bulk at most 1048576: NARROWER than '..Said'. Prove '..Said' where nothing that the law and all that it calls make is longer than what came in: it says more and counts as full. Else prove '..UptoSaid'. A law counts once. -/
mutual
def uptoBulk {H : Type} : DataW H → Nat
  | .lit (.string bytes) => bytes.length + 1
  | .lit _ => 1
  | .nil => 1
  | .ptr d => uptoBulk d + 1
  | .slice elems spare => uptoBulkAll elems + uptoBulkAll spare + 1
  | .agg parts => uptoBulkAll parts + 1
  | .iface _ d => uptoBulk d + 1
  | .map entries => uptoBulkEntries entries + 1
  | .held _ => 1
def uptoBulkAll {H : Type} : List (DataW H) → Nat
  | [] => 0
  | d :: r => uptoBulk d + uptoBulkAll r
def uptoBulkEntries {H : Type} : List (Lit × DataW H) → Nat
  | [] => 0
  | x :: r => uptoBulkEntry x + uptoBulkEntries r
def uptoBulkEntry {H : Type} : Lit × DataW H → Nat
  | (.string bytes, d) => bytes.length + uptoBulk d + 1
  | (_, d) => uptoBulk d + 1
 end
def uptoSmall : (H : Type) → List (DataW H) → Bool := fun _ ds => decide (uptoBulkAll ds ≤ 1048576)
def OpenSpec.upto (s : _root_.Go.ChangeSpec) : _root_.Go.OpenSpec := { _root_.Go.OpenSpec.ofChange s with cond := some uptoSmall }

/-- 'signalbenchlaw17.ManchesterChecks', WHERE WHAT IT READS IS OF BULK AT MOST 1048576: true; the input reads as it did. -/
def manchesterChecksUptoRow : OpenClaim := { program := "ythobjcamfkplkaa", sum := "9baaface03668e0d7054f2480e1f3ac6cd3275420f3c2a1a0b0bea209a450723", func := "signalbench/signalbenchlaw17.ManchesterChecks", spec := "manchesterChecks", recurses := true, apart := false, narrowed := true }
def ManchesterChecksUptoSaid : Prop := manchesterChecksUptoRow.holds Try.pinned (OpenSpec.upto manchesterChecksSpec)

/-- 'signalbenchlaw17.ManchesterDecodes', WHERE WHAT IT READS IS OF BULK AT MOST 1048576: true; the input reads as it did. -/
def manchesterDecodesUptoRow : OpenClaim := { program := "ythobjcamfkplkaa", sum := "9baaface03668e0d7054f2480e1f3ac6cd3275420f3c2a1a0b0bea209a450723", func := "signalbench/signalbenchlaw17.ManchesterDecodes", spec := "manchesterDecodes", recurses := true, apart := false, narrowed := true }
def ManchesterDecodesUptoSaid : Prop := manchesterDecodesUptoRow.holds Try.pinned (OpenSpec.upto manchesterDecodesSpec)

/-- 'signalbenchlaw17.ManchesterEncodes', WHERE WHAT IT READS IS OF BULK AT MOST 1048576: true; the input reads as it did. -/
def manchesterEncodesUptoRow : OpenClaim := { program := "ythobjcamfkplkaa", sum := "9baaface03668e0d7054f2480e1f3ac6cd3275420f3c2a1a0b0bea209a450723", func := "signalbench/signalbenchlaw17.ManchesterEncodes", spec := "manchesterEncodes", recurses := true, apart := false, narrowed := true }
def ManchesterEncodesUptoSaid : Prop := manchesterEncodesUptoRow.holds Try.pinned (OpenSpec.upto manchesterEncodesSpec)

/-- 'signalbenchlaw17.ManchesterRoundTrips', WHERE WHAT IT READS IS OF BULK AT MOST 1048576: true; the input reads as it did. -/
def manchesterRoundTripsUptoRow : OpenClaim := { program := "ythobjcamfkplkaa", sum := "9baaface03668e0d7054f2480e1f3ac6cd3275420f3c2a1a0b0bea209a450723", func := "signalbench/signalbenchlaw17.ManchesterRoundTrips", spec := "manchesterRoundTrips", apart := false, narrowed := true }
def ManchesterRoundTripsUptoSaid : Prop := manchesterRoundTripsUptoRow.holds Try.pinned (OpenSpec.upto manchesterRoundTripsSpec)

/-- 'signalbenchlaw17.ManchesterPieces', WHERE WHAT IT READS IS OF BULK AT MOST 1048576: true; the input reads as it did. -/
def manchesterPiecesUptoRow : OpenClaim := { program := "ythobjcamfkplkaa", sum := "9baaface03668e0d7054f2480e1f3ac6cd3275420f3c2a1a0b0bea209a450723", func := "signalbench/signalbenchlaw17.ManchesterPieces", spec := "manchesterPieces", apart := false, narrowed := true }
def ManchesterPiecesUptoSaid : Prop := manchesterPiecesUptoRow.holds Try.pinned (OpenSpec.upto manchesterPiecesSpec)

/-- 'signalbenchlaw17.ManchesterInverts', WHERE WHAT IT READS IS OF BULK AT MOST 1048576: true; the input reads as it did. -/
def manchesterInvertsUptoRow : OpenClaim := { program := "ythobjcamfkplkaa", sum := "9baaface03668e0d7054f2480e1f3ac6cd3275420f3c2a1a0b0bea209a450723", func := "signalbench/signalbenchlaw17.ManchesterInverts", spec := "manchesterInverts", apart := false, narrowed := true }
def ManchesterInvertsUptoSaid : Prop := manchesterInvertsUptoRow.holds Try.pinned (OpenSpec.upto manchesterInvertsSpec)

/-- 'signalbenchlaw17.ManchesterResumes', WHERE WHAT IT READS IS OF BULK AT MOST 1048576: true; the input reads as it did. -/
def manchesterResumesUptoRow : OpenClaim := { program := "ythobjcamfkplkaa", sum := "9baaface03668e0d7054f2480e1f3ac6cd3275420f3c2a1a0b0bea209a450723", func := "signalbench/signalbenchlaw17.ManchesterResumes", spec := "manchesterResumes", apart := false, narrowed := true }
def ManchesterResumesUptoSaid : Prop := manchesterResumesUptoRow.holds Try.pinned (OpenSpec.upto manchesterResumesSpec)

end Rows
end Go.Proofs.Ythobjcamfkplkaa
