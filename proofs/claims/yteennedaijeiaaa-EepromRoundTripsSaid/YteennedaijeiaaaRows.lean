/-
  No cell of these rows narrows 'for every input' (looked for: loops, veiled, ifaces, maps, wideKeys, modest, calm, conditions, laid).
  DERIVED. THE GIVEN ROWS OF THIS SEAT. 5 by the template 'for every input the law returns true; each argument reads behind the call as it read before'; 0 by the template 'total and deterministic' (their statements: YteennedaijeiaaaTotals.lean).
  GIVEN WITH THE SEED: the statements are not yours to turn. If you find one false, say at which input.
  Laid BY PROGRAM, IN A SANDBOX (cutbox-rows.mjs): the forced cells as the released guide's own fill.sh prints them over the translation c3484841251459e1… (all of the seat's roots in one cut). By AI agents, Wed Nov 11 2026. No macro, syntax, notation, axiom, sorry.
-/
import Derived.Test.YteennedaijeiaaaChecked
import GoSem.Claim
import GoSem.ClaimJoined
import GoSem.ClaimMapViews
import Derived.JoinedTies
import Derived.KernelRfl
namespace Go.Proofs.Yteennedaijeiaaa
/- THE CELL 'sum', in the pinned program and in every row, IS THE sha256 OF THE DUMP (.gsa) THAT YteennedaijeiaaaProg.lean LOADS. Nothing in Lean hashes anything: it is a label: what it is worth is what the hold of that sum in a sandbox is worth. -/
noncomputable def Try.pinned : Pinned := { name := "yteennedaijeiaaa", sum := "c3484841251459e1912bc22dfea125927fb8253d9796db1365c55c9da986dcfe", checked := Try.checked }
namespace Rows
def none {H : Type} : Left H := { results := [], args := [] }

/-- 'signalbenchlaw31.EepromDecodes': WHATEVER THE INPUT: true; the input reads as it did. -/
def eepromDecodesSpec : ChangeSpec := { name := "eepromDecodes", fn := fun _ => fun
  | [d1, d2] => { results := [.lit (.bool true)], args := [d1, d2] }
  | _ => none }
def eepromDecodesRow : OpenClaim := { program := "yteennedaijeiaaa", sum := "c3484841251459e1912bc22dfea125927fb8253d9796db1365c55c9da986dcfe", func := "signalbench/signalbenchlaw31.EepromDecodes", spec := "eepromDecodes", apart := false }
def EepromDecodesSaid : Prop := eepromDecodesRow.holds Try.pinned (OpenSpec.ofChange eepromDecodesSpec)

/-- ITS FALSE NEIGHBOUR: 'it returns false'. Refute it at one input. -/
def eepromDecodesWrong : ChangeSpec := { name := "eepromDecodes", fn := fun _ => fun
  | [d1, d2] => { results := [.lit (.bool false)], args := [d1, d2] }
  | _ => none }
def EepromDecodesWrongFalsely : Prop := eepromDecodesRow.holds Try.pinned (OpenSpec.ofChange eepromDecodesWrong)

/-- 'signalbenchlaw31.EepromEncodes': WHATEVER THE INPUT: true; the input reads as it did. -/
def eepromEncodesSpec : ChangeSpec := { name := "eepromEncodes", fn := fun _ => fun
  | [d1, d2] => { results := [.lit (.bool true)], args := [d1, d2] }
  | _ => none }
def eepromEncodesRow : OpenClaim := { program := "yteennedaijeiaaa", sum := "c3484841251459e1912bc22dfea125927fb8253d9796db1365c55c9da986dcfe", func := "signalbench/signalbenchlaw31.EepromEncodes", spec := "eepromEncodes", apart := false }
def EepromEncodesSaid : Prop := eepromEncodesRow.holds Try.pinned (OpenSpec.ofChange eepromEncodesSpec)

/-- ITS FALSE NEIGHBOUR: 'it returns false'. Refute it at one input. -/
def eepromEncodesWrong : ChangeSpec := { name := "eepromEncodes", fn := fun _ => fun
  | [d1, d2] => { results := [.lit (.bool false)], args := [d1, d2] }
  | _ => none }
def EepromEncodesWrongFalsely : Prop := eepromEncodesRow.holds Try.pinned (OpenSpec.ofChange eepromEncodesWrong)

/-- 'signalbenchlaw31.EepromRoundTrips': WHATEVER THE INPUT: true; the input reads as it did. -/
def eepromRoundTripsSpec : ChangeSpec := { name := "eepromRoundTrips", fn := fun _ => fun
  | [d1, d2] => { results := [.lit (.bool true)], args := [d1, d2] }
  | _ => none }
def eepromRoundTripsRow : OpenClaim := { program := "yteennedaijeiaaa", sum := "c3484841251459e1912bc22dfea125927fb8253d9796db1365c55c9da986dcfe", func := "signalbench/signalbenchlaw31.EepromRoundTrips", spec := "eepromRoundTrips", apart := false }
def EepromRoundTripsSaid : Prop := eepromRoundTripsRow.holds Try.pinned (OpenSpec.ofChange eepromRoundTripsSpec)

/-- ITS FALSE NEIGHBOUR: 'it returns false'. Refute it at one input. -/
def eepromRoundTripsWrong : ChangeSpec := { name := "eepromRoundTrips", fn := fun _ => fun
  | [d1, d2] => { results := [.lit (.bool false)], args := [d1, d2] }
  | _ => none }
def EepromRoundTripsWrongFalsely : Prop := eepromRoundTripsRow.holds Try.pinned (OpenSpec.ofChange eepromRoundTripsWrong)

/-- 'signalbenchlaw31.EepromReads': WHATEVER THE INPUT: true; the input reads as it did. -/
def eepromReadsSpec : ChangeSpec := { name := "eepromReads", fn := fun _ => fun
  | [d1, d2, d3] => { results := [.lit (.bool true)], args := [d1, d2, d3] }
  | _ => none }
def eepromReadsRow : OpenClaim := { program := "yteennedaijeiaaa", sum := "c3484841251459e1912bc22dfea125927fb8253d9796db1365c55c9da986dcfe", func := "signalbench/signalbenchlaw31.EepromReads", spec := "eepromReads", apart := false }
def EepromReadsSaid : Prop := eepromReadsRow.holds Try.pinned (OpenSpec.ofChange eepromReadsSpec)

/-- ITS FALSE NEIGHBOUR: 'it returns false'. Refute it at one input. -/
def eepromReadsWrong : ChangeSpec := { name := "eepromReads", fn := fun _ => fun
  | [d1, d2, d3] => { results := [.lit (.bool false)], args := [d1, d2, d3] }
  | _ => none }
def EepromReadsWrongFalsely : Prop := eepromReadsRow.holds Try.pinned (OpenSpec.ofChange eepromReadsWrong)

/-- 'signalbenchlaw31.EepromIgnores': WHATEVER THE INPUT: true; the input reads as it did. -/
def eepromIgnoresSpec : ChangeSpec := { name := "eepromIgnores", fn := fun _ => fun
  | [d1, d2, d3] => { results := [.lit (.bool true)], args := [d1, d2, d3] }
  | _ => none }
def eepromIgnoresRow : OpenClaim := { program := "yteennedaijeiaaa", sum := "c3484841251459e1912bc22dfea125927fb8253d9796db1365c55c9da986dcfe", func := "signalbench/signalbenchlaw31.EepromIgnores", spec := "eepromIgnores", apart := false }
def EepromIgnoresSaid : Prop := eepromIgnoresRow.holds Try.pinned (OpenSpec.ofChange eepromIgnoresSpec)

/-- ITS FALSE NEIGHBOUR: 'it returns false'. Refute it at one input. -/
def eepromIgnoresWrong : ChangeSpec := { name := "eepromIgnores", fn := fun _ => fun
  | [d1, d2, d3] => { results := [.lit (.bool false)], args := [d1, d2, d3] }
  | _ => none }
def EepromIgnoresWrongFalsely : Prop := eepromIgnoresRow.holds Try.pinned (OpenSpec.ofChange eepromIgnoresWrong)

/- THE SECOND FORM. 'bulk': how many values and letters a reading holds, each counted each time it is reached (what is shared counts as often as it is met; a slice's spare places count too). A statement '..UptoSaid' is the law's where the arguments, and the package variables that the reading takes, are together of bulk at most 1048576: NARROWER than '..Said'. Prove '..Said' where nothing that the law and all that it calls make is longer than what came in: it says more and counts as full. Else prove '..UptoSaid'. A law counts once. -/
mutual
def uptoBulk {H : Type} : DataW H → Nat
  | .lit (.string bytes) => bytes.length + 1
  | .lit _ => 1
  | .nil => 1
  | .ptr d => uptoBulk d + 1
  | .slice elems spare => uptoBulkAll elems + uptoBulkAll spare + 1
  | .agg parts => uptoBulkAll parts + 1
  | .iface _ d => uptoBulk d + 1
  | .map entries => uptoBulkEntries entries + 1
  | .held _ => 1
def uptoBulkAll {H : Type} : List (DataW H) → Nat
  | [] => 0
  | d :: r => uptoBulk d + uptoBulkAll r
def uptoBulkEntries {H : Type} : List (Lit × DataW H) → Nat
  | [] => 0
  | x :: r => uptoBulkEntry x + uptoBulkEntries r
def uptoBulkEntry {H : Type} : Lit × DataW H → Nat
  | (.string bytes, d) => bytes.length + uptoBulk d + 1
  | (_, d) => uptoBulk d + 1
 end
def uptoSmall : (H : Type) → List (DataW H) → Bool := fun _ ds => decide (uptoBulkAll ds ≤ 1048576)
def OpenSpec.upto (s : _root_.Go.ChangeSpec) : _root_.Go.OpenSpec := { _root_.Go.OpenSpec.ofChange s with cond := some uptoSmall }

/-- 'signalbenchlaw31.EepromDecodes', WHERE WHAT IT READS IS OF BULK AT MOST 1048576: true; the input reads as it did. -/
def eepromDecodesUptoRow : OpenClaim := { program := "yteennedaijeiaaa", sum := "c3484841251459e1912bc22dfea125927fb8253d9796db1365c55c9da986dcfe", func := "signalbench/signalbenchlaw31.EepromDecodes", spec := "eepromDecodes", apart := false, narrowed := true }
def EepromDecodesUptoSaid : Prop := eepromDecodesUptoRow.holds Try.pinned (OpenSpec.upto eepromDecodesSpec)

/-- 'signalbenchlaw31.EepromEncodes', WHERE WHAT IT READS IS OF BULK AT MOST 1048576: true; the input reads as it did. -/
def eepromEncodesUptoRow : OpenClaim := { program := "yteennedaijeiaaa", sum := "c3484841251459e1912bc22dfea125927fb8253d9796db1365c55c9da986dcfe", func := "signalbench/signalbenchlaw31.EepromEncodes", spec := "eepromEncodes", apart := false, narrowed := true }
def EepromEncodesUptoSaid : Prop := eepromEncodesUptoRow.holds Try.pinned (OpenSpec.upto eepromEncodesSpec)

/-- 'signalbenchlaw31.EepromRoundTrips', WHERE WHAT IT READS IS OF BULK AT MOST 1048576: true; the input reads as it did. -/
def eepromRoundTripsUptoRow : OpenClaim := { program := "yteennedaijeiaaa", sum := "c3484841251459e1912bc22dfea125927fb8253d9796db1365c55c9da986dcfe", func := "signalbench/signalbenchlaw31.EepromRoundTrips", spec := "eepromRoundTrips", apart := false, narrowed := true }
def EepromRoundTripsUptoSaid : Prop := eepromRoundTripsUptoRow.holds Try.pinned (OpenSpec.upto eepromRoundTripsSpec)

/-- 'signalbenchlaw31.EepromReads', WHERE WHAT IT READS IS OF BULK AT MOST 1048576: true; the input reads as it did. -/
def eepromReadsUptoRow : OpenClaim := { program := "yteennedaijeiaaa", sum := "c3484841251459e1912bc22dfea125927fb8253d9796db1365c55c9da986dcfe", func := "signalbench/signalbenchlaw31.EepromReads", spec := "eepromReads", apart := false, narrowed := true }
def EepromReadsUptoSaid : Prop := eepromReadsUptoRow.holds Try.pinned (OpenSpec.upto eepromReadsSpec)

/-- 'signalbenchlaw31.EepromIgnores', WHERE WHAT IT READS IS OF BULK AT MOST 1048576: true; the input reads as it did. -/
def eepromIgnoresUptoRow : OpenClaim := { program := "yteennedaijeiaaa", sum := "c3484841251459e1912bc22dfea125927fb8253d9796db1365c55c9da986dcfe", func := "signalbench/signalbenchlaw31.EepromIgnores", spec := "eepromIgnores", apart := false, narrowed := true }
def EepromIgnoresUptoSaid : Prop := eepromIgnoresUptoRow.holds Try.pinned (OpenSpec.upto eepromIgnoresSpec)

end Rows
end Go.Proofs.Yteennedaijeiaaa
