/-
  No cell of these rows narrows 'for every input' (looked for: loops, veiled, ifaces, maps, wideKeys, modest, calm, conditions, laid).
  DERIVED. THE GIVEN ROWS OF THIS SEAT. 5 by the template 'for every input the law returns true; each argument reads behind the call as it read before'; 0 by the template 'total and deterministic' (their statements: YtcagcnlddcloiaaTotals.lean).
  GIVEN WITH THE SEED: the statements are not yours to turn. If you find one false, say at which input.
  Laid BY PROGRAM, IN A SANDBOX (cutbox-rows.mjs): the forced cells as the released guide's own fill.sh prints them over the translation 8d78eb2c43345626… (all of the seat's roots in one cut). By AI agents, Wed Nov 11 2026. No macro, syntax, notation, axiom, sorry.
-/
import Derived.Test.YtcagcnlddcloiaaChecked
import GoSem.Claim
import GoSem.ClaimJoined
import GoSem.ClaimMapViews
import Derived.JoinedTies
import Derived.KernelRfl
namespace Go.Proofs.Ytcagcnlddcloiaa
/- THE CELL 'sum', in the pinned program and in every row, IS THE sha256 OF THE DUMP (.gsa) THAT YtcagcnlddcloiaaProg.lean LOADS. Nothing in Lean hashes anything: it is a label: what it is worth is what the hold of that sum in a sandbox is worth. -/
noncomputable def Try.pinned : Pinned := { name := "ytcagcnlddcloiaa", sum := "8d78eb2c4334562630ef0fd6e6d0922f50a356147ca3ce77d131e5129fc26e71", checked := Try.checked }
namespace Rows
def none {H : Type} : Left H := { results := [], args := [] }

/-- 'signalbenchlaw33.PairDecodes': WHATEVER THE INPUT: true; the input reads as it did. -/
def pairDecodesSpec : ChangeSpec := { name := "pairDecodes", fn := fun _ => fun
  | [d1, d2] => { results := [.lit (.bool true)], args := [d1, d2] }
  | _ => none }
def pairDecodesRow : OpenClaim := { program := "ytcagcnlddcloiaa", sum := "8d78eb2c4334562630ef0fd6e6d0922f50a356147ca3ce77d131e5129fc26e71", func := "signalbench/signalbenchlaw33.PairDecodes", spec := "pairDecodes", apart := false }
def PairDecodesSaid : Prop := pairDecodesRow.holds Try.pinned (OpenSpec.ofChange pairDecodesSpec)

/-- ITS FALSE NEIGHBOUR: 'it returns false'. Refute it at one input. -/
def pairDecodesWrong : ChangeSpec := { name := "pairDecodes", fn := fun _ => fun
  | [d1, d2] => { results := [.lit (.bool false)], args := [d1, d2] }
  | _ => none }
def PairDecodesWrongFalsely : Prop := pairDecodesRow.holds Try.pinned (OpenSpec.ofChange pairDecodesWrong)

/-- 'signalbenchlaw33.PairEncodes': WHATEVER THE INPUT: true; the input reads as it did. -/
def pairEncodesSpec : ChangeSpec := { name := "pairEncodes", fn := fun _ => fun
  | [d1, d2] => { results := [.lit (.bool true)], args := [d1, d2] }
  | _ => none }
def pairEncodesRow : OpenClaim := { program := "ytcagcnlddcloiaa", sum := "8d78eb2c4334562630ef0fd6e6d0922f50a356147ca3ce77d131e5129fc26e71", func := "signalbench/signalbenchlaw33.PairEncodes", spec := "pairEncodes", apart := false }
def PairEncodesSaid : Prop := pairEncodesRow.holds Try.pinned (OpenSpec.ofChange pairEncodesSpec)

/-- ITS FALSE NEIGHBOUR: 'it returns false'. Refute it at one input. -/
def pairEncodesWrong : ChangeSpec := { name := "pairEncodes", fn := fun _ => fun
  | [d1, d2] => { results := [.lit (.bool false)], args := [d1, d2] }
  | _ => none }
def PairEncodesWrongFalsely : Prop := pairEncodesRow.holds Try.pinned (OpenSpec.ofChange pairEncodesWrong)

/-- 'signalbenchlaw33.PairMatches': WHATEVER THE INPUT: true; the input reads as it did. -/
def pairMatchesSpec : ChangeSpec := { name := "pairMatches", fn := fun _ => fun
  | [d] => { results := [.lit (.bool true)], args := [d] }
  | _ => none }
def pairMatchesRow : OpenClaim := { program := "ytcagcnlddcloiaa", sum := "8d78eb2c4334562630ef0fd6e6d0922f50a356147ca3ce77d131e5129fc26e71", func := "signalbench/signalbenchlaw33.PairMatches", spec := "pairMatches", apart := false }
def PairMatchesSaid : Prop := pairMatchesRow.holds Try.pinned (OpenSpec.ofChange pairMatchesSpec)

/-- ITS FALSE NEIGHBOUR: 'it returns false'. Refute it at one input. -/
def pairMatchesWrong : ChangeSpec := { name := "pairMatches", fn := fun _ => fun
  | [d] => { results := [.lit (.bool false)], args := [d] }
  | _ => none }
def PairMatchesWrongFalsely : Prop := pairMatchesRow.holds Try.pinned (OpenSpec.ofChange pairMatchesWrong)

/-- 'signalbenchlaw33.PairRoundTrips': WHATEVER THE INPUT: true; the input reads as it did. -/
def pairRoundTripsSpec : ChangeSpec := { name := "pairRoundTrips", fn := fun _ => fun
  | [d1, d2] => { results := [.lit (.bool true)], args := [d1, d2] }
  | _ => none }
def pairRoundTripsRow : OpenClaim := { program := "ytcagcnlddcloiaa", sum := "8d78eb2c4334562630ef0fd6e6d0922f50a356147ca3ce77d131e5129fc26e71", func := "signalbench/signalbenchlaw33.PairRoundTrips", spec := "pairRoundTrips", apart := false }
def PairRoundTripsSaid : Prop := pairRoundTripsRow.holds Try.pinned (OpenSpec.ofChange pairRoundTripsSpec)

/-- ITS FALSE NEIGHBOUR: 'it returns false'. Refute it at one input. -/
def pairRoundTripsWrong : ChangeSpec := { name := "pairRoundTrips", fn := fun _ => fun
  | [d1, d2] => { results := [.lit (.bool false)], args := [d1, d2] }
  | _ => none }
def PairRoundTripsWrongFalsely : Prop := pairRoundTripsRow.holds Try.pinned (OpenSpec.ofChange pairRoundTripsWrong)

/-- 'signalbenchlaw33.PairTimeouts': WHATEVER THE INPUT: true; the input reads as it did. -/
def pairTimeoutsSpec : ChangeSpec := { name := "pairTimeouts", fn := fun _ => fun
  | [d1, d2, d3, d4, d5] => { results := [.lit (.bool true)], args := [d1, d2, d3, d4, d5] }
  | _ => none }
def pairTimeoutsRow : OpenClaim := { program := "ytcagcnlddcloiaa", sum := "8d78eb2c4334562630ef0fd6e6d0922f50a356147ca3ce77d131e5129fc26e71", func := "signalbench/signalbenchlaw33.PairTimeouts", spec := "pairTimeouts", apart := false }
def PairTimeoutsSaid : Prop := pairTimeoutsRow.holds Try.pinned (OpenSpec.ofChange pairTimeoutsSpec)

/-- ITS FALSE NEIGHBOUR: 'it returns false'. Refute it at one input. -/
def pairTimeoutsWrong : ChangeSpec := { name := "pairTimeouts", fn := fun _ => fun
  | [d1, d2, d3, d4, d5] => { results := [.lit (.bool false)], args := [d1, d2, d3, d4, d5] }
  | _ => none }
def PairTimeoutsWrongFalsely : Prop := pairTimeoutsRow.holds Try.pinned (OpenSpec.ofChange pairTimeoutsWrong)

/- THE SECOND FORM. 'bulk': how many values and letters a reading holds, each counted each time it is reached (what is shared counts as often as it is met; a slice's spare places count too). A statement '..UptoSaid' is the law's where the arguments, and the package variables that the reading takes, are together of bulk at most 1048576: NARROWER than '..Said'. Prove '..Said' where nothing that the law and all that it calls make is longer than what came in: it says more and counts as full. Else prove '..UptoSaid'. A law counts once. -/
mutual
def uptoBulk {H : Type} : DataW H → Nat
  | .lit (.string bytes) => bytes.length + 1
  | .lit _ => 1
  | .nil => 1
  | .ptr d => uptoBulk d + 1
  | .slice elems spare => uptoBulkAll elems + uptoBulkAll spare + 1
  | .agg parts => uptoBulkAll parts + 1
  | .iface _ d => uptoBulk d + 1
  | .map entries => uptoBulkEntries entries + 1
  | .held _ => 1
def uptoBulkAll {H : Type} : List (DataW H) → Nat
  | [] => 0
  | d :: r => uptoBulk d + uptoBulkAll r
def uptoBulkEntries {H : Type} : List (Lit × DataW H) → Nat
  | [] => 0
  | x :: r => uptoBulkEntry x + uptoBulkEntries r
def uptoBulkEntry {H : Type} : Lit × DataW H → Nat
  | (.string bytes, d) => bytes.length + uptoBulk d + 1
  | (_, d) => uptoBulk d + 1
 end
def uptoSmall : (H : Type) → List (DataW H) → Bool := fun _ ds => decide (uptoBulkAll ds ≤ 1048576)
def OpenSpec.upto (s : _root_.Go.ChangeSpec) : _root_.Go.OpenSpec := { _root_.Go.OpenSpec.ofChange s with cond := some uptoSmall }

/-- 'signalbenchlaw33.PairDecodes', WHERE WHAT IT READS IS OF BULK AT MOST 1048576: true; the input reads as it did. -/
def pairDecodesUptoRow : OpenClaim := { program := "ytcagcnlddcloiaa", sum := "8d78eb2c4334562630ef0fd6e6d0922f50a356147ca3ce77d131e5129fc26e71", func := "signalbench/signalbenchlaw33.PairDecodes", spec := "pairDecodes", apart := false, narrowed := true }
def PairDecodesUptoSaid : Prop := pairDecodesUptoRow.holds Try.pinned (OpenSpec.upto pairDecodesSpec)

/-- 'signalbenchlaw33.PairEncodes', WHERE WHAT IT READS IS OF BULK AT MOST 1048576: true; the input reads as it did. -/
def pairEncodesUptoRow : OpenClaim := { program := "ytcagcnlddcloiaa", sum := "8d78eb2c4334562630ef0fd6e6d0922f50a356147ca3ce77d131e5129fc26e71", func := "signalbench/signalbenchlaw33.PairEncodes", spec := "pairEncodes", apart := false, narrowed := true }
def PairEncodesUptoSaid : Prop := pairEncodesUptoRow.holds Try.pinned (OpenSpec.upto pairEncodesSpec)

/-- 'signalbenchlaw33.PairMatches', WHERE WHAT IT READS IS OF BULK AT MOST 1048576: true; the input reads as it did. -/
def pairMatchesUptoRow : OpenClaim := { program := "ytcagcnlddcloiaa", sum := "8d78eb2c4334562630ef0fd6e6d0922f50a356147ca3ce77d131e5129fc26e71", func := "signalbench/signalbenchlaw33.PairMatches", spec := "pairMatches", apart := false, narrowed := true }
def PairMatchesUptoSaid : Prop := pairMatchesUptoRow.holds Try.pinned (OpenSpec.upto pairMatchesSpec)

/-- 'signalbenchlaw33.PairRoundTrips', WHERE WHAT IT READS IS OF BULK AT MOST 1048576: true; the input reads as it did. -/
def pairRoundTripsUptoRow : OpenClaim := { program := "ytcagcnlddcloiaa", sum := "8d78eb2c4334562630ef0fd6e6d0922f50a356147ca3ce77d131e5129fc26e71", func := "signalbench/signalbenchlaw33.PairRoundTrips", spec := "pairRoundTrips", apart := false, narrowed := true }
def PairRoundTripsUptoSaid : Prop := pairRoundTripsUptoRow.holds Try.pinned (OpenSpec.upto pairRoundTripsSpec)

/-- 'signalbenchlaw33.PairTimeouts', WHERE WHAT IT READS IS OF BULK AT MOST 1048576: true; the input reads as it did. -/
def pairTimeoutsUptoRow : OpenClaim := { program := "ytcagcnlddcloiaa", sum := "8d78eb2c4334562630ef0fd6e6d0922f50a356147ca3ce77d131e5129fc26e71", func := "signalbench/signalbenchlaw33.PairTimeouts", spec := "pairTimeouts", apart := false, narrowed := true }
def PairTimeoutsUptoSaid : Prop := pairTimeoutsUptoRow.holds Try.pinned (OpenSpec.upto pairTimeoutsSpec)

end Rows
end Go.Proofs.Ytcagcnlddcloiaa
