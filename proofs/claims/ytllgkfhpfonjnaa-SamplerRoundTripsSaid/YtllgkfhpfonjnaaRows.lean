/-
  No cell of these rows narrows 'for every input' (looked for: loops, veiled, ifaces, maps, wideKeys, modest, calm, conditions, laid).
  DERIVED. THE GIVEN ROWS OF THIS SEAT. 6 by the template 'for every input the law returns true; each argument reads behind the call as it read before'; 0 by the template 'total and deterministic' (their statements: YtllgkfhpfonjnaaTotals.lean).
  GIVEN WITH THE SEED: the statements are not yours to turn. If you find one false, say at which input.
  Laid BY PROGRAM, IN A SANDBOX (cutbox-rows.mjs): the forced cells as the released guide's own fill.sh prints them over the translation 84e6dd39adc82bc0… (all of the seat's roots in one cut). By AI agents, Wed Nov 11 2026. No macro, syntax, notation, axiom, sorry.
-/
import Derived.Test.YtllgkfhpfonjnaaChecked
import GoSem.Claim
import GoSem.ClaimJoined
import GoSem.ClaimMapViews
import Derived.JoinedTies
import Derived.KernelRfl
namespace Go.Proofs.Ytllgkfhpfonjnaa
/- THE CELL 'sum', in the pinned program and in every row, IS THE sha256 OF THE DUMP (.gsa) THAT YtllgkfhpfonjnaaProg.lean LOADS. Nothing in Lean hashes anything: it is a label: what it is worth is what the hold of that sum in a sandbox is worth. -/
noncomputable def Try.pinned : Pinned := { name := "ytllgkfhpfonjnaa", sum := "84e6dd39adc82bc0c761e41fa42ee0f5a52d4623402aca7aff0770095a544770", checked := Try.checked }
namespace Rows
def none {H : Type} : Left H := { results := [], args := [] }

/-- 'signalbenchlaw15.SamplerPieces': WHATEVER THE INPUT: true; the input reads as it did. -/
def samplerPiecesSpec : ChangeSpec := { name := "samplerPieces", fn := fun _ => fun
  | [d1, d2, d3] => { results := [.lit (.bool true)], args := [d1, d2, d3] }
  | _ => none }
def samplerPiecesRow : OpenClaim := { program := "ytllgkfhpfonjnaa", sum := "84e6dd39adc82bc0c761e41fa42ee0f5a52d4623402aca7aff0770095a544770", func := "signalbench/signalbenchlaw15.SamplerPieces", spec := "samplerPieces", unfollowed := true, recurses := true, apart := false }
def SamplerPiecesSaid : Prop := samplerPiecesRow.holds Try.pinned (OpenSpec.ofChange samplerPiecesSpec)

/-- ITS FALSE NEIGHBOUR: 'it returns false'. Refute it at one input. -/
def samplerPiecesWrong : ChangeSpec := { name := "samplerPieces", fn := fun _ => fun
  | [d1, d2, d3] => { results := [.lit (.bool false)], args := [d1, d2, d3] }
  | _ => none }
def SamplerPiecesWrongFalsely : Prop := samplerPiecesRow.holds Try.pinned (OpenSpec.ofChange samplerPiecesWrong)

/-- 'signalbenchlaw15.SamplerGrid': WHATEVER THE INPUT: true; the input reads as it did. -/
def samplerGridSpec : ChangeSpec := { name := "samplerGrid", fn := fun _ => fun
  | [d1, d2, d3, d4] => { results := [.lit (.bool true)], args := [d1, d2, d3, d4] }
  | _ => none }
def samplerGridRow : OpenClaim := { program := "ytllgkfhpfonjnaa", sum := "84e6dd39adc82bc0c761e41fa42ee0f5a52d4623402aca7aff0770095a544770", func := "signalbench/signalbenchlaw15.SamplerGrid", spec := "samplerGrid", unfollowed := true, recurses := true, apart := false }
def SamplerGridSaid : Prop := samplerGridRow.holds Try.pinned (OpenSpec.ofChange samplerGridSpec)

/-- ITS FALSE NEIGHBOUR: 'it returns false'. Refute it at one input. -/
def samplerGridWrong : ChangeSpec := { name := "samplerGrid", fn := fun _ => fun
  | [d1, d2, d3, d4] => { results := [.lit (.bool false)], args := [d1, d2, d3, d4] }
  | _ => none }
def SamplerGridWrongFalsely : Prop := samplerGridRow.holds Try.pinned (OpenSpec.ofChange samplerGridWrong)

/-- 'signalbenchlaw15.SamplerDecodes': WHATEVER THE INPUT: true; the input reads as it did. -/
def samplerDecodesSpec : ChangeSpec := { name := "samplerDecodes", fn := fun _ => fun
  | [d1, d2] => { results := [.lit (.bool true)], args := [d1, d2] }
  | _ => none }
def samplerDecodesRow : OpenClaim := { program := "ytllgkfhpfonjnaa", sum := "84e6dd39adc82bc0c761e41fa42ee0f5a52d4623402aca7aff0770095a544770", func := "signalbench/signalbenchlaw15.SamplerDecodes", spec := "samplerDecodes", unfollowed := true, recurses := true, apart := false }
def SamplerDecodesSaid : Prop := samplerDecodesRow.holds Try.pinned (OpenSpec.ofChange samplerDecodesSpec)

/-- ITS FALSE NEIGHBOUR: 'it returns false'. Refute it at one input. -/
def samplerDecodesWrong : ChangeSpec := { name := "samplerDecodes", fn := fun _ => fun
  | [d1, d2] => { results := [.lit (.bool false)], args := [d1, d2] }
  | _ => none }
def SamplerDecodesWrongFalsely : Prop := samplerDecodesRow.holds Try.pinned (OpenSpec.ofChange samplerDecodesWrong)

/-- 'signalbenchlaw15.SamplerChecks': WHATEVER THE INPUT: true; the input reads as it did. -/
def samplerChecksSpec : ChangeSpec := { name := "samplerChecks", fn := fun _ => fun
  | [d] => { results := [.lit (.bool true)], args := [d] }
  | _ => none }
def samplerChecksRow : OpenClaim := { program := "ytllgkfhpfonjnaa", sum := "84e6dd39adc82bc0c761e41fa42ee0f5a52d4623402aca7aff0770095a544770", func := "signalbench/signalbenchlaw15.SamplerChecks", spec := "samplerChecks", unfollowed := true, recurses := true, apart := false }
def SamplerChecksSaid : Prop := samplerChecksRow.holds Try.pinned (OpenSpec.ofChange samplerChecksSpec)

/-- ITS FALSE NEIGHBOUR: 'it returns false'. Refute it at one input. -/
def samplerChecksWrong : ChangeSpec := { name := "samplerChecks", fn := fun _ => fun
  | [d] => { results := [.lit (.bool false)], args := [d] }
  | _ => none }
def SamplerChecksWrongFalsely : Prop := samplerChecksRow.holds Try.pinned (OpenSpec.ofChange samplerChecksWrong)

/-- 'signalbenchlaw15.SamplerRoundTrips': WHATEVER THE INPUT: true; the input reads as it did. -/
def samplerRoundTripsSpec : ChangeSpec := { name := "samplerRoundTrips", fn := fun _ => fun
  | [d1, d2] => { results := [.lit (.bool true)], args := [d1, d2] }
  | _ => none }
def samplerRoundTripsRow : OpenClaim := { program := "ytllgkfhpfonjnaa", sum := "84e6dd39adc82bc0c761e41fa42ee0f5a52d4623402aca7aff0770095a544770", func := "signalbench/signalbenchlaw15.SamplerRoundTrips", spec := "samplerRoundTrips", unfollowed := true, recurses := true, apart := false }
def SamplerRoundTripsSaid : Prop := samplerRoundTripsRow.holds Try.pinned (OpenSpec.ofChange samplerRoundTripsSpec)

/-- ITS FALSE NEIGHBOUR: 'it returns false'. Refute it at one input. -/
def samplerRoundTripsWrong : ChangeSpec := { name := "samplerRoundTrips", fn := fun _ => fun
  | [d1, d2] => { results := [.lit (.bool false)], args := [d1, d2] }
  | _ => none }
def SamplerRoundTripsWrongFalsely : Prop := samplerRoundTripsRow.holds Try.pinned (OpenSpec.ofChange samplerRoundTripsWrong)

/-- 'signalbenchlaw15.SamplerEncodes': WHATEVER THE INPUT: true; the input reads as it did. -/
def samplerEncodesSpec : ChangeSpec := { name := "samplerEncodes", fn := fun _ => fun
  | [d1, d2] => { results := [.lit (.bool true)], args := [d1, d2] }
  | _ => none }
def samplerEncodesRow : OpenClaim := { program := "ytllgkfhpfonjnaa", sum := "84e6dd39adc82bc0c761e41fa42ee0f5a52d4623402aca7aff0770095a544770", func := "signalbench/signalbenchlaw15.SamplerEncodes", spec := "samplerEncodes", unfollowed := true, recurses := true, apart := false }
def SamplerEncodesSaid : Prop := samplerEncodesRow.holds Try.pinned (OpenSpec.ofChange samplerEncodesSpec)

/-- ITS FALSE NEIGHBOUR: 'it returns false'. Refute it at one input. -/
def samplerEncodesWrong : ChangeSpec := { name := "samplerEncodes", fn := fun _ => fun
  | [d1, d2] => { results := [.lit (.bool false)], args := [d1, d2] }
  | _ => none }
def SamplerEncodesWrongFalsely : Prop := samplerEncodesRow.holds Try.pinned (OpenSpec.ofChange samplerEncodesWrong)

/- THE SECOND FORM. 'bulk': how many values and letters a reading holds, each counted each time it is reached (what is shared counts as often as it is met; a slice's spare places count too). A statement '..UptoSaid' is the law's where the arguments, and the package variables that the reading takes, are together of bulk at most 1048576: NARROWER than '..Said'. Prove '..Said' where nothing that the law and all that it calls make is longer than what came in: it says more and counts as full. Else prove '..UptoSaid'. A law counts once. -/
mutual
def uptoBulk {H : Type} : DataW H → Nat
  | .lit (.string bytes) => bytes.length + 1
  | .lit _ => 1
  | .nil => 1
  | .ptr d => uptoBulk d + 1
  | .slice elems spare => uptoBulkAll elems + uptoBulkAll spare + 1
  | .agg parts => uptoBulkAll parts + 1
  | .iface _ d => uptoBulk d + 1
  | .map entries => uptoBulkEntries entries + 1
  | .held _ => 1
def uptoBulkAll {H : Type} : List (DataW H) → Nat
  | [] => 0
  | d :: r => uptoBulk d + uptoBulkAll r
def uptoBulkEntries {H : Type} : List (Lit × DataW H) → Nat
  | [] => 0
  | x :: r => uptoBulkEntry x + uptoBulkEntries r
def uptoBulkEntry {H : Type} : Lit × DataW H → Nat
  | (.string bytes, d) => bytes.length + uptoBulk d + 1
  | (_, d) => uptoBulk d + 1
 end
def uptoSmall : (H : Type) → List (DataW H) → Bool := fun _ ds => decide (uptoBulkAll ds ≤ 1048576)
def OpenSpec.upto (s : _root_.Go.ChangeSpec) : _root_.Go.OpenSpec := { _root_.Go.OpenSpec.ofChange s with cond := some uptoSmall }

/-- 'signalbenchlaw15.SamplerPieces', WHERE WHAT IT READS IS OF BULK AT MOST 1048576: true; the input reads as it did. -/
def samplerPiecesUptoRow : OpenClaim := { program := "ytllgkfhpfonjnaa", sum := "84e6dd39adc82bc0c761e41fa42ee0f5a52d4623402aca7aff0770095a544770", func := "signalbench/signalbenchlaw15.SamplerPieces", spec := "samplerPieces", unfollowed := true, recurses := true, apart := false, narrowed := true }
def SamplerPiecesUptoSaid : Prop := samplerPiecesUptoRow.holds Try.pinned (OpenSpec.upto samplerPiecesSpec)

/-- 'signalbenchlaw15.SamplerGrid', WHERE WHAT IT READS IS OF BULK AT MOST 1048576: true; the input reads as it did. -/
def samplerGridUptoRow : OpenClaim := { program := "ytllgkfhpfonjnaa", sum := "84e6dd39adc82bc0c761e41fa42ee0f5a52d4623402aca7aff0770095a544770", func := "signalbench/signalbenchlaw15.SamplerGrid", spec := "samplerGrid", unfollowed := true, recurses := true, apart := false, narrowed := true }
def SamplerGridUptoSaid : Prop := samplerGridUptoRow.holds Try.pinned (OpenSpec.upto samplerGridSpec)

/-- 'signalbenchlaw15.SamplerDecodes', WHERE WHAT IT READS IS OF BULK AT MOST 1048576: true; the input reads as it did. -/
def samplerDecodesUptoRow : OpenClaim := { program := "ytllgkfhpfonjnaa", sum := "84e6dd39adc82bc0c761e41fa42ee0f5a52d4623402aca7aff0770095a544770", func := "signalbench/signalbenchlaw15.SamplerDecodes", spec := "samplerDecodes", unfollowed := true, recurses := true, apart := false, narrowed := true }
def SamplerDecodesUptoSaid : Prop := samplerDecodesUptoRow.holds Try.pinned (OpenSpec.upto samplerDecodesSpec)

/-- 'signalbenchlaw15.SamplerChecks', WHERE WHAT IT READS IS OF BULK AT MOST 1048576: true; the input reads as it did. -/
def samplerChecksUptoRow : OpenClaim := { program := "ytllgkfhpfonjnaa", sum := "84e6dd39adc82bc0c761e41fa42ee0f5a52d4623402aca7aff0770095a544770", func := "signalbench/signalbenchlaw15.SamplerChecks", spec := "samplerChecks", unfollowed := true, recurses := true, apart := false, narrowed := true }
def SamplerChecksUptoSaid : Prop := samplerChecksUptoRow.holds Try.pinned (OpenSpec.upto samplerChecksSpec)

/-- 'signalbenchlaw15.SamplerRoundTrips', WHERE WHAT IT READS IS OF BULK AT MOST 1048576: true; the input reads as it did. -/
def samplerRoundTripsUptoRow : OpenClaim := { program := "ytllgkfhpfonjnaa", sum := "84e6dd39adc82bc0c761e41fa42ee0f5a52d4623402aca7aff0770095a544770", func := "signalbench/signalbenchlaw15.SamplerRoundTrips", spec := "samplerRoundTrips", unfollowed := true, recurses := true, apart := false, narrowed := true }
def SamplerRoundTripsUptoSaid : Prop := samplerRoundTripsUptoRow.holds Try.pinned (OpenSpec.upto samplerRoundTripsSpec)

/-- 'signalbenchlaw15.SamplerEncodes', WHERE WHAT IT READS IS OF BULK AT MOST 1048576: true; the input reads as it did. -/
def samplerEncodesUptoRow : OpenClaim := { program := "ytllgkfhpfonjnaa", sum := "84e6dd39adc82bc0c761e41fa42ee0f5a52d4623402aca7aff0770095a544770", func := "signalbench/signalbenchlaw15.SamplerEncodes", spec := "samplerEncodes", unfollowed := true, recurses := true, apart := false, narrowed := true }
def SamplerEncodesUptoSaid : Prop := samplerEncodesUptoRow.holds Try.pinned (OpenSpec.upto samplerEncodesSpec)

end Rows
end Go.Proofs.Ytllgkfhpfonjnaa
