/-
  No cell of these rows narrows 'for every input' (looked for: loops, veiled, ifaces, maps, wideKeys, modest, calm, conditions, laid).
  DERIVED. THE GIVEN ROWS OF THIS SEAT. 5 by the template 'for every input the law returns true; each argument reads behind the call as it read before'; 0 by the template 'total and deterministic' (their statements: YtohpkolbocmbbaaTotals.lean).
  GIVEN WITH THE SEED: the statements are not yours to turn. If you find one false, say at which input.
  Laid BY PROGRAM, IN A SANDBOX (cutbox-rows.mjs): the forced cells as the released guide's own fill.sh prints them over the translation cc288ab027b8e3af… (all of the seat's roots in one cut). By AI agents, Wed Nov 11 2026. No macro, syntax, notation, axiom, sorry.
-/
import Derived.Test.YtohpkolbocmbbaaChecked
import GoSem.Claim
import GoSem.ClaimJoined
import GoSem.ClaimMapViews
import Derived.JoinedTies
import Derived.KernelRfl
namespace Go.Proofs.Ytohpkolbocmbbaa
/- THE CELL 'sum', in the pinned program and in every row, IS THE sha256 OF THE DUMP (.gsa) THAT YtohpkolbocmbbaaProg.lean LOADS. Nothing in Lean hashes anything: it is a label: what it is worth is what the hold of that sum in a sandbox is worth. -/
noncomputable def Try.pinned : Pinned := { name := "ytohpkolbocmbbaa", sum := "cc288ab027b8e3af7469dfc1ad67f186a86753cd1344a8b74d9d4a8793cbd237", checked := Try.checked }
namespace Rows
def none {H : Type} : Left H := { results := [], args := [] }

/-- 'signalbenchlaw27.LinDecodes': WHATEVER THE INPUT: true; the input reads as it did. -/
def linDecodesSpec : ChangeSpec := { name := "linDecodes", fn := fun _ => fun
  | [d1, d2] => { results := [.lit (.bool true)], args := [d1, d2] }
  | _ => none }
def linDecodesRow : OpenClaim := { program := "ytohpkolbocmbbaa", sum := "cc288ab027b8e3af7469dfc1ad67f186a86753cd1344a8b74d9d4a8793cbd237", func := "signalbench/signalbenchlaw27.LinDecodes", spec := "linDecodes", unfollowed := true, recurses := true, apart := false }
def LinDecodesSaid : Prop := linDecodesRow.holds Try.pinned (OpenSpec.ofChange linDecodesSpec)

/-- ITS FALSE NEIGHBOUR: 'it returns false'. Refute it at one input. -/
def linDecodesWrong : ChangeSpec := { name := "linDecodes", fn := fun _ => fun
  | [d1, d2] => { results := [.lit (.bool false)], args := [d1, d2] }
  | _ => none }
def LinDecodesWrongFalsely : Prop := linDecodesRow.holds Try.pinned (OpenSpec.ofChange linDecodesWrong)

/-- 'signalbenchlaw27.LinRoundTrips': WHATEVER THE INPUT: true; the input reads as it did. -/
def linRoundTripsSpec : ChangeSpec := { name := "linRoundTrips", fn := fun _ => fun
  | [d1, d2, d3] => { results := [.lit (.bool true)], args := [d1, d2, d3] }
  | _ => none }
def linRoundTripsRow : OpenClaim := { program := "ytohpkolbocmbbaa", sum := "cc288ab027b8e3af7469dfc1ad67f186a86753cd1344a8b74d9d4a8793cbd237", func := "signalbench/signalbenchlaw27.LinRoundTrips", spec := "linRoundTrips", unfollowed := true, recurses := true, apart := false }
def LinRoundTripsSaid : Prop := linRoundTripsRow.holds Try.pinned (OpenSpec.ofChange linRoundTripsSpec)

/-- ITS FALSE NEIGHBOUR: 'it returns false'. Refute it at one input. -/
def linRoundTripsWrong : ChangeSpec := { name := "linRoundTrips", fn := fun _ => fun
  | [d1, d2, d3] => { results := [.lit (.bool false)], args := [d1, d2, d3] }
  | _ => none }
def LinRoundTripsWrongFalsely : Prop := linRoundTripsRow.holds Try.pinned (OpenSpec.ofChange linRoundTripsWrong)

/-- 'signalbenchlaw27.LinProtects': WHATEVER THE INPUT: true; the input reads as it did. -/
def linProtectsSpec : ChangeSpec := { name := "linProtects", fn := fun _ => fun
  | [d1, d2, d3, d4, d5] => { results := [.lit (.bool true)], args := [d1, d2, d3, d4, d5] }
  | _ => none }
def linProtectsRow : OpenClaim := { program := "ytohpkolbocmbbaa", sum := "cc288ab027b8e3af7469dfc1ad67f186a86753cd1344a8b74d9d4a8793cbd237", func := "signalbench/signalbenchlaw27.LinProtects", spec := "linProtects", unfollowed := true, recurses := true, apart := false }
def LinProtectsSaid : Prop := linProtectsRow.holds Try.pinned (OpenSpec.ofChange linProtectsSpec)

/-- ITS FALSE NEIGHBOUR: 'it returns false'. Refute it at one input. -/
def linProtectsWrong : ChangeSpec := { name := "linProtects", fn := fun _ => fun
  | [d1, d2, d3, d4, d5] => { results := [.lit (.bool false)], args := [d1, d2, d3, d4, d5] }
  | _ => none }
def LinProtectsWrongFalsely : Prop := linProtectsRow.holds Try.pinned (OpenSpec.ofChange linProtectsWrong)

/-- 'signalbenchlaw27.LinSeparates': WHATEVER THE INPUT: true; the input reads as it did. -/
def linSeparatesSpec : ChangeSpec := { name := "linSeparates", fn := fun _ => fun
  | [d1, d2, d3] => { results := [.lit (.bool true)], args := [d1, d2, d3] }
  | _ => none }
def linSeparatesRow : OpenClaim := { program := "ytohpkolbocmbbaa", sum := "cc288ab027b8e3af7469dfc1ad67f186a86753cd1344a8b74d9d4a8793cbd237", func := "signalbench/signalbenchlaw27.LinSeparates", spec := "linSeparates", unfollowed := true, recurses := true, apart := false }
def LinSeparatesSaid : Prop := linSeparatesRow.holds Try.pinned (OpenSpec.ofChange linSeparatesSpec)

/-- ITS FALSE NEIGHBOUR: 'it returns false'. Refute it at one input. -/
def linSeparatesWrong : ChangeSpec := { name := "linSeparates", fn := fun _ => fun
  | [d1, d2, d3] => { results := [.lit (.bool false)], args := [d1, d2, d3] }
  | _ => none }
def LinSeparatesWrongFalsely : Prop := linSeparatesRow.holds Try.pinned (OpenSpec.ofChange linSeparatesWrong)

/-- 'signalbenchlaw27.LinEncodes': WHATEVER THE INPUT: true; the input reads as it did. -/
def linEncodesSpec : ChangeSpec := { name := "linEncodes", fn := fun _ => fun
  | [d1, d2] => { results := [.lit (.bool true)], args := [d1, d2] }
  | _ => none }
def linEncodesRow : OpenClaim := { program := "ytohpkolbocmbbaa", sum := "cc288ab027b8e3af7469dfc1ad67f186a86753cd1344a8b74d9d4a8793cbd237", func := "signalbench/signalbenchlaw27.LinEncodes", spec := "linEncodes", unfollowed := true, recurses := true, apart := false }
def LinEncodesSaid : Prop := linEncodesRow.holds Try.pinned (OpenSpec.ofChange linEncodesSpec)

/-- ITS FALSE NEIGHBOUR: 'it returns false'. Refute it at one input. -/
def linEncodesWrong : ChangeSpec := { name := "linEncodes", fn := fun _ => fun
  | [d1, d2] => { results := [.lit (.bool false)], args := [d1, d2] }
  | _ => none }
def LinEncodesWrongFalsely : Prop := linEncodesRow.holds Try.pinned (OpenSpec.ofChange linEncodesWrong)

/- THE SECOND FORM. 'bulk': how many values and letters a reading holds, each counted each time it is reached (what is shared counts as often as it is met; a slice's spare places count too). A statement '..UptoSaid' is the law's where the arguments, and the package variables that the reading takes, are together of bulk at most 1048576: NARROWER than '..Said'. Prove '..Said' where nothing that the law and all that it calls make is longer than what came in: it says more and counts as full. Else prove '..UptoSaid'. A law counts once. -/
mutual
def uptoBulk {H : Type} : DataW H → Nat
  | .lit (.string bytes) => bytes.length + 1
  | .lit _ => 1
  | .nil => 1
  | .ptr d => uptoBulk d + 1
  | .slice elems spare => uptoBulkAll elems + uptoBulkAll spare + 1
  | .agg parts => uptoBulkAll parts + 1
  | .iface _ d => uptoBulk d + 1
  | .map entries => uptoBulkEntries entries + 1
  | .held _ => 1
def uptoBulkAll {H : Type} : List (DataW H) → Nat
  | [] => 0
  | d :: r => uptoBulk d + uptoBulkAll r
def uptoBulkEntries {H : Type} : List (Lit × DataW H) → Nat
  | [] => 0
  | x :: r => uptoBulkEntry x + uptoBulkEntries r
def uptoBulkEntry {H : Type} : Lit × DataW H → Nat
  | (.string bytes, d) => bytes.length + uptoBulk d + 1
  | (_, d) => uptoBulk d + 1
 end
def uptoSmall : (H : Type) → List (DataW H) → Bool := fun _ ds => decide (uptoBulkAll ds ≤ 1048576)
def OpenSpec.upto (s : _root_.Go.ChangeSpec) : _root_.Go.OpenSpec := { _root_.Go.OpenSpec.ofChange s with cond := some uptoSmall }

/-- 'signalbenchlaw27.LinDecodes', WHERE WHAT IT READS IS OF BULK AT MOST 1048576: true; the input reads as it did. -/
def linDecodesUptoRow : OpenClaim := { program := "ytohpkolbocmbbaa", sum := "cc288ab027b8e3af7469dfc1ad67f186a86753cd1344a8b74d9d4a8793cbd237", func := "signalbench/signalbenchlaw27.LinDecodes", spec := "linDecodes", unfollowed := true, recurses := true, apart := false, narrowed := true }
def LinDecodesUptoSaid : Prop := linDecodesUptoRow.holds Try.pinned (OpenSpec.upto linDecodesSpec)

/-- 'signalbenchlaw27.LinRoundTrips', WHERE WHAT IT READS IS OF BULK AT MOST 1048576: true; the input reads as it did. -/
def linRoundTripsUptoRow : OpenClaim := { program := "ytohpkolbocmbbaa", sum := "cc288ab027b8e3af7469dfc1ad67f186a86753cd1344a8b74d9d4a8793cbd237", func := "signalbench/signalbenchlaw27.LinRoundTrips", spec := "linRoundTrips", unfollowed := true, recurses := true, apart := false, narrowed := true }
def LinRoundTripsUptoSaid : Prop := linRoundTripsUptoRow.holds Try.pinned (OpenSpec.upto linRoundTripsSpec)

/-- 'signalbenchlaw27.LinProtects', WHERE WHAT IT READS IS OF BULK AT MOST 1048576: true; the input reads as it did. -/
def linProtectsUptoRow : OpenClaim := { program := "ytohpkolbocmbbaa", sum := "cc288ab027b8e3af7469dfc1ad67f186a86753cd1344a8b74d9d4a8793cbd237", func := "signalbench/signalbenchlaw27.LinProtects", spec := "linProtects", unfollowed := true, recurses := true, apart := false, narrowed := true }
def LinProtectsUptoSaid : Prop := linProtectsUptoRow.holds Try.pinned (OpenSpec.upto linProtectsSpec)

/-- 'signalbenchlaw27.LinSeparates', WHERE WHAT IT READS IS OF BULK AT MOST 1048576: true; the input reads as it did. -/
def linSeparatesUptoRow : OpenClaim := { program := "ytohpkolbocmbbaa", sum := "cc288ab027b8e3af7469dfc1ad67f186a86753cd1344a8b74d9d4a8793cbd237", func := "signalbench/signalbenchlaw27.LinSeparates", spec := "linSeparates", unfollowed := true, recurses := true, apart := false, narrowed := true }
def LinSeparatesUptoSaid : Prop := linSeparatesUptoRow.holds Try.pinned (OpenSpec.upto linSeparatesSpec)

/-- 'signalbenchlaw27.LinEncodes', WHERE WHAT IT READS IS OF BULK AT MOST 1048576: true; the input reads as it did. -/
def linEncodesUptoRow : OpenClaim := { program := "ytohpkolbocmbbaa", sum := "cc288ab027b8e3af7469dfc1ad67f186a86753cd1344a8b74d9d4a8793cbd237", func := "signalbench/signalbenchlaw27.LinEncodes", spec := "linEncodes", unfollowed := true, recurses := true, apart := false, narrowed := true }
def LinEncodesUptoSaid : Prop := linEncodesUptoRow.holds Try.pinned (OpenSpec.upto linEncodesSpec)

end Rows
end Go.Proofs.Ytohpkolbocmbbaa
