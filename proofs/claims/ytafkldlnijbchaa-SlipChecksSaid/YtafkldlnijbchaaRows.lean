/-
  No cell of these rows narrows 'for every input' (looked for: loops, veiled, ifaces, maps, wideKeys, modest, calm, conditions, laid).
  DERIVED. THE GIVEN ROWS OF THIS SEAT. 7 by the template 'for every input the law returns true; each argument reads behind the call as it read before'; 0 by the template 'total and deterministic' (their statements: YtafkldlnijbchaaTotals.lean).
  GIVEN WITH THE SEED: the statements are not yours to turn. If you find one false, say at which input.
  Laid BY PROGRAM, IN A SANDBOX (cutbox-rows.mjs): the forced cells as the released guide's own fill.sh prints them over the translation f44348b68757d076… (all of the seat's roots in one cut). By AI agents, Wed Nov 11 2026. No macro, syntax, notation, axiom, sorry.
-/
import Derived.Test.YtafkldlnijbchaaChecked
import GoSem.Claim
import GoSem.ClaimJoined
import GoSem.ClaimMapViews
import Derived.JoinedTies
import Derived.KernelRfl
namespace Go.Proofs.Ytafkldlnijbchaa
/- THE CELL 'sum', in the pinned program and in every row, IS THE sha256 OF THE DUMP (.gsa) THAT YtafkldlnijbchaaProg.lean LOADS. Nothing in Lean hashes anything: it is a label: what it is worth is what the hold of that sum in a sandbox is worth. -/
noncomputable def Try.pinned : Pinned := { name := "ytafkldlnijbchaa", sum := "f44348b68757d076a1bfe27f49a121442b6d66705e3122045e6d7fd60d9f0047", checked := Try.checked }
namespace Rows
def none {H : Type} : Left H := { results := [], args := [] }

/-- 'signalbenchlaw29.SlipChecks': WHATEVER THE INPUT: true; the input reads as it did. -/
def slipChecksSpec : ChangeSpec := { name := "slipChecks", fn := fun _ => fun
  | [d1, d2, d3] => { results := [.lit (.bool true)], args := [d1, d2, d3] }
  | _ => none }
def slipChecksRow : OpenClaim := { program := "ytafkldlnijbchaa", sum := "f44348b68757d076a1bfe27f49a121442b6d66705e3122045e6d7fd60d9f0047", func := "signalbench/signalbenchlaw29.SlipChecks", spec := "slipChecks", apart := false }
def SlipChecksSaid : Prop := slipChecksRow.holds Try.pinned (OpenSpec.ofChange slipChecksSpec)

/-- ITS FALSE NEIGHBOUR: 'it returns false'. Refute it at one input. -/
def slipChecksWrong : ChangeSpec := { name := "slipChecks", fn := fun _ => fun
  | [d1, d2, d3] => { results := [.lit (.bool false)], args := [d1, d2, d3] }
  | _ => none }
def SlipChecksWrongFalsely : Prop := slipChecksRow.holds Try.pinned (OpenSpec.ofChange slipChecksWrong)

/-- 'signalbenchlaw29.SlipDecodes': WHATEVER THE INPUT: true; the input reads as it did. -/
def slipDecodesSpec : ChangeSpec := { name := "slipDecodes", fn := fun _ => fun
  | [d1, d2] => { results := [.lit (.bool true)], args := [d1, d2] }
  | _ => none }
def slipDecodesRow : OpenClaim := { program := "ytafkldlnijbchaa", sum := "f44348b68757d076a1bfe27f49a121442b6d66705e3122045e6d7fd60d9f0047", func := "signalbench/signalbenchlaw29.SlipDecodes", spec := "slipDecodes", apart := false }
def SlipDecodesSaid : Prop := slipDecodesRow.holds Try.pinned (OpenSpec.ofChange slipDecodesSpec)

/-- ITS FALSE NEIGHBOUR: 'it returns false'. Refute it at one input. -/
def slipDecodesWrong : ChangeSpec := { name := "slipDecodes", fn := fun _ => fun
  | [d1, d2] => { results := [.lit (.bool false)], args := [d1, d2] }
  | _ => none }
def SlipDecodesWrongFalsely : Prop := slipDecodesRow.holds Try.pinned (OpenSpec.ofChange slipDecodesWrong)

/-- 'signalbenchlaw29.SlipEncodes': WHATEVER THE INPUT: true; the input reads as it did. -/
def slipEncodesSpec : ChangeSpec := { name := "slipEncodes", fn := fun _ => fun
  | [d1, d2] => { results := [.lit (.bool true)], args := [d1, d2] }
  | _ => none }
def slipEncodesRow : OpenClaim := { program := "ytafkldlnijbchaa", sum := "f44348b68757d076a1bfe27f49a121442b6d66705e3122045e6d7fd60d9f0047", func := "signalbench/signalbenchlaw29.SlipEncodes", spec := "slipEncodes", apart := false }
def SlipEncodesSaid : Prop := slipEncodesRow.holds Try.pinned (OpenSpec.ofChange slipEncodesSpec)

/-- ITS FALSE NEIGHBOUR: 'it returns false'. Refute it at one input. -/
def slipEncodesWrong : ChangeSpec := { name := "slipEncodes", fn := fun _ => fun
  | [d1, d2] => { results := [.lit (.bool false)], args := [d1, d2] }
  | _ => none }
def SlipEncodesWrongFalsely : Prop := slipEncodesRow.holds Try.pinned (OpenSpec.ofChange slipEncodesWrong)

/-- 'signalbenchlaw29.SlipRoundTrips': WHATEVER THE INPUT: true; the input reads as it did. -/
def slipRoundTripsSpec : ChangeSpec := { name := "slipRoundTrips", fn := fun _ => fun
  | [d1, d2] => { results := [.lit (.bool true)], args := [d1, d2] }
  | _ => none }
def slipRoundTripsRow : OpenClaim := { program := "ytafkldlnijbchaa", sum := "f44348b68757d076a1bfe27f49a121442b6d66705e3122045e6d7fd60d9f0047", func := "signalbench/signalbenchlaw29.SlipRoundTrips", spec := "slipRoundTrips", apart := false }
def SlipRoundTripsSaid : Prop := slipRoundTripsRow.holds Try.pinned (OpenSpec.ofChange slipRoundTripsSpec)

/-- ITS FALSE NEIGHBOUR: 'it returns false'. Refute it at one input. -/
def slipRoundTripsWrong : ChangeSpec := { name := "slipRoundTrips", fn := fun _ => fun
  | [d1, d2] => { results := [.lit (.bool false)], args := [d1, d2] }
  | _ => none }
def SlipRoundTripsWrongFalsely : Prop := slipRoundTripsRow.holds Try.pinned (OpenSpec.ofChange slipRoundTripsWrong)

/-- 'signalbenchlaw29.SlipResumes': WHATEVER THE INPUT: true; the input reads as it did. -/
def slipResumesSpec : ChangeSpec := { name := "slipResumes", fn := fun _ => fun
  | [d1, d2, d3] => { results := [.lit (.bool true)], args := [d1, d2, d3] }
  | _ => none }
def slipResumesRow : OpenClaim := { program := "ytafkldlnijbchaa", sum := "f44348b68757d076a1bfe27f49a121442b6d66705e3122045e6d7fd60d9f0047", func := "signalbench/signalbenchlaw29.SlipResumes", spec := "slipResumes", apart := false }
def SlipResumesSaid : Prop := slipResumesRow.holds Try.pinned (OpenSpec.ofChange slipResumesSpec)

/-- ITS FALSE NEIGHBOUR: 'it returns false'. Refute it at one input. -/
def slipResumesWrong : ChangeSpec := { name := "slipResumes", fn := fun _ => fun
  | [d1, d2, d3] => { results := [.lit (.bool false)], args := [d1, d2, d3] }
  | _ => none }
def SlipResumesWrongFalsely : Prop := slipResumesRow.holds Try.pinned (OpenSpec.ofChange slipResumesWrong)

/-- 'signalbenchlaw29.SlipRestarts': WHATEVER THE INPUT: true; the input reads as it did. -/
def slipRestartsSpec : ChangeSpec := { name := "slipRestarts", fn := fun _ => fun
  | [d1, d2, d3, d4] => { results := [.lit (.bool true)], args := [d1, d2, d3, d4] }
  | _ => none }
def slipRestartsRow : OpenClaim := { program := "ytafkldlnijbchaa", sum := "f44348b68757d076a1bfe27f49a121442b6d66705e3122045e6d7fd60d9f0047", func := "signalbench/signalbenchlaw29.SlipRestarts", spec := "slipRestarts", apart := false }
def SlipRestartsSaid : Prop := slipRestartsRow.holds Try.pinned (OpenSpec.ofChange slipRestartsSpec)

/-- ITS FALSE NEIGHBOUR: 'it returns false'. Refute it at one input. -/
def slipRestartsWrong : ChangeSpec := { name := "slipRestarts", fn := fun _ => fun
  | [d1, d2, d3, d4] => { results := [.lit (.bool false)], args := [d1, d2, d3, d4] }
  | _ => none }
def SlipRestartsWrongFalsely : Prop := slipRestartsRow.holds Try.pinned (OpenSpec.ofChange slipRestartsWrong)

/-- 'signalbenchlaw29.SlipWaits': WHATEVER THE INPUT: true; the input reads as it did. -/
def slipWaitsSpec : ChangeSpec := { name := "slipWaits", fn := fun _ => fun
  | [d1, d2] => { results := [.lit (.bool true)], args := [d1, d2] }
  | _ => none }
def slipWaitsRow : OpenClaim := { program := "ytafkldlnijbchaa", sum := "f44348b68757d076a1bfe27f49a121442b6d66705e3122045e6d7fd60d9f0047", func := "signalbench/signalbenchlaw29.SlipWaits", spec := "slipWaits", apart := false }
def SlipWaitsSaid : Prop := slipWaitsRow.holds Try.pinned (OpenSpec.ofChange slipWaitsSpec)

/-- ITS FALSE NEIGHBOUR: 'it returns false'. Refute it at one input. -/
def slipWaitsWrong : ChangeSpec := { name := "slipWaits", fn := fun _ => fun
  | [d1, d2] => { results := [.lit (.bool false)], args := [d1, d2] }
  | _ => none }
def SlipWaitsWrongFalsely : Prop := slipWaitsRow.holds Try.pinned (OpenSpec.ofChange slipWaitsWrong)

/- THE SECOND FORM. 'bulk': how many values and letters a reading holds, each counted each time it is reached (what is shared counts as often as it is met; a slice's spare places count too). A statement '..UptoSaid' is the law's where the arguments, and the package variables that the reading takes, are together of bulk at most 1048576: NARROWER than '..Said'. Prove '..Said' where nothing that the law and all that it calls make is longer than what came in: it says more and counts as full. Else prove '..UptoSaid'. A law counts once. -/
mutual
def uptoBulk {H : Type} : DataW H → Nat
  | .lit (.string bytes) => bytes.length + 1
  | .lit _ => 1
  | .nil => 1
  | .ptr d => uptoBulk d + 1
  | .slice elems spare => uptoBulkAll elems + uptoBulkAll spare + 1
  | .agg parts => uptoBulkAll parts + 1
  | .iface _ d => uptoBulk d + 1
  | .map entries => uptoBulkEntries entries + 1
  | .held _ => 1
def uptoBulkAll {H : Type} : List (DataW H) → Nat
  | [] => 0
  | d :: r => uptoBulk d + uptoBulkAll r
def uptoBulkEntries {H : Type} : List (Lit × DataW H) → Nat
  | [] => 0
  | x :: r => uptoBulkEntry x + uptoBulkEntries r
def uptoBulkEntry {H : Type} : Lit × DataW H → Nat
  | (.string bytes, d) => bytes.length + uptoBulk d + 1
  | (_, d) => uptoBulk d + 1
 end
def uptoSmall : (H : Type) → List (DataW H) → Bool := fun _ ds => decide (uptoBulkAll ds ≤ 1048576)
def OpenSpec.upto (s : _root_.Go.ChangeSpec) : _root_.Go.OpenSpec := { _root_.Go.OpenSpec.ofChange s with cond := some uptoSmall }

/-- 'signalbenchlaw29.SlipChecks', WHERE WHAT IT READS IS OF BULK AT MOST 1048576: true; the input reads as it did. -/
def slipChecksUptoRow : OpenClaim := { program := "ytafkldlnijbchaa", sum := "f44348b68757d076a1bfe27f49a121442b6d66705e3122045e6d7fd60d9f0047", func := "signalbench/signalbenchlaw29.SlipChecks", spec := "slipChecks", apart := false, narrowed := true }
def SlipChecksUptoSaid : Prop := slipChecksUptoRow.holds Try.pinned (OpenSpec.upto slipChecksSpec)

/-- 'signalbenchlaw29.SlipDecodes', WHERE WHAT IT READS IS OF BULK AT MOST 1048576: true; the input reads as it did. -/
def slipDecodesUptoRow : OpenClaim := { program := "ytafkldlnijbchaa", sum := "f44348b68757d076a1bfe27f49a121442b6d66705e3122045e6d7fd60d9f0047", func := "signalbench/signalbenchlaw29.SlipDecodes", spec := "slipDecodes", apart := false, narrowed := true }
def SlipDecodesUptoSaid : Prop := slipDecodesUptoRow.holds Try.pinned (OpenSpec.upto slipDecodesSpec)

/-- 'signalbenchlaw29.SlipEncodes', WHERE WHAT IT READS IS OF BULK AT MOST 1048576: true; the input reads as it did. -/
def slipEncodesUptoRow : OpenClaim := { program := "ytafkldlnijbchaa", sum := "f44348b68757d076a1bfe27f49a121442b6d66705e3122045e6d7fd60d9f0047", func := "signalbench/signalbenchlaw29.SlipEncodes", spec := "slipEncodes", apart := false, narrowed := true }
def SlipEncodesUptoSaid : Prop := slipEncodesUptoRow.holds Try.pinned (OpenSpec.upto slipEncodesSpec)

/-- 'signalbenchlaw29.SlipRoundTrips', WHERE WHAT IT READS IS OF BULK AT MOST 1048576: true; the input reads as it did. -/
def slipRoundTripsUptoRow : OpenClaim := { program := "ytafkldlnijbchaa", sum := "f44348b68757d076a1bfe27f49a121442b6d66705e3122045e6d7fd60d9f0047", func := "signalbench/signalbenchlaw29.SlipRoundTrips", spec := "slipRoundTrips", apart := false, narrowed := true }
def SlipRoundTripsUptoSaid : Prop := slipRoundTripsUptoRow.holds Try.pinned (OpenSpec.upto slipRoundTripsSpec)

/-- 'signalbenchlaw29.SlipResumes', WHERE WHAT IT READS IS OF BULK AT MOST 1048576: true; the input reads as it did. -/
def slipResumesUptoRow : OpenClaim := { program := "ytafkldlnijbchaa", sum := "f44348b68757d076a1bfe27f49a121442b6d66705e3122045e6d7fd60d9f0047", func := "signalbench/signalbenchlaw29.SlipResumes", spec := "slipResumes", apart := false, narrowed := true }
def SlipResumesUptoSaid : Prop := slipResumesUptoRow.holds Try.pinned (OpenSpec.upto slipResumesSpec)

/-- 'signalbenchlaw29.SlipRestarts', WHERE WHAT IT READS IS OF BULK AT MOST 1048576: true; the input reads as it did. -/
def slipRestartsUptoRow : OpenClaim := { program := "ytafkldlnijbchaa", sum := "f44348b68757d076a1bfe27f49a121442b6d66705e3122045e6d7fd60d9f0047", func := "signalbench/signalbenchlaw29.SlipRestarts", spec := "slipRestarts", apart := false, narrowed := true }
def SlipRestartsUptoSaid : Prop := slipRestartsUptoRow.holds Try.pinned (OpenSpec.upto slipRestartsSpec)

/-- 'signalbenchlaw29.SlipWaits', WHERE WHAT IT READS IS OF BULK AT MOST 1048576: true; the input reads as it did. -/
def slipWaitsUptoRow : OpenClaim := { program := "ytafkldlnijbchaa", sum := "f44348b68757d076a1bfe27f49a121442b6d66705e3122045e6d7fd60d9f0047", func := "signalbench/signalbenchlaw29.SlipWaits", spec := "slipWaits", apart := false, narrowed := true }
def SlipWaitsUptoSaid : Prop := slipWaitsUptoRow.holds Try.pinned (OpenSpec.upto slipWaitsSpec)

end Rows
end Go.Proofs.Ytafkldlnijbchaa
