/-
  No cell of these rows narrows 'for every input' (looked for: loops, veiled, ifaces, maps, wideKeys, modest, calm, conditions, laid).
  DERIVED. THE GIVEN ROWS OF THIS SEAT. 6 by the template 'for every input the law returns true; each argument reads behind the call as it read before'; 0 by the template 'total and deterministic' (their statements: YtlpileejhdadaaaTotals.lean).
  GIVEN WITH THE SEED: the statements are not yours to turn. If you find one false, say at which input.
  Laid BY PROGRAM, IN A SANDBOX (cutbox-rows.mjs): the forced cells as the released guide's own fill.sh prints them over the translation 7dc058acf7cfb126… (all of the seat's roots in one cut). By AI agents, Wed Nov 11 2026. No macro, syntax, notation, axiom, sorry.
-/
import Derived.Test.YtlpileejhdadaaaChecked
import GoSem.Claim
import GoSem.ClaimJoined
import GoSem.ClaimMapViews
import Derived.JoinedTies
import Derived.KernelRfl
namespace Go.Proofs.Ytlpileejhdadaaa
/- THE CELL 'sum', in the pinned program and in every row, IS THE sha256 OF THE DUMP (.gsa) THAT YtlpileejhdadaaaProg.lean LOADS. Nothing in Lean hashes anything: it is a label: what it is worth is what the hold of that sum in a sandbox is worth. -/
noncomputable def Try.pinned : Pinned := { name := "ytlpileejhdadaaa", sum := "7dc058acf7cfb126779bc69f46df99b7e9c1a3adfe625023660f889e0b16b413", checked := Try.checked }
namespace Rows
def none {H : Type} : Left H := { results := [], args := [] }

/-- 'signalbenchlaw22.UartDecodes': WHATEVER THE INPUT: true; the input reads as it did. -/
def uartDecodesSpec : ChangeSpec := { name := "uartDecodes", fn := fun _ => fun
  | [d1, d2] => { results := [.lit (.bool true)], args := [d1, d2] }
  | _ => none }
def uartDecodesRow : OpenClaim := { program := "ytlpileejhdadaaa", sum := "7dc058acf7cfb126779bc69f46df99b7e9c1a3adfe625023660f889e0b16b413", func := "signalbench/signalbenchlaw22.UartDecodes", spec := "uartDecodes", unfollowed := true, recurses := true, apart := false }
def UartDecodesSaid : Prop := uartDecodesRow.holds Try.pinned (OpenSpec.ofChange uartDecodesSpec)

/-- ITS FALSE NEIGHBOUR: 'it returns false'. Refute it at one input. -/
def uartDecodesWrong : ChangeSpec := { name := "uartDecodes", fn := fun _ => fun
  | [d1, d2] => { results := [.lit (.bool false)], args := [d1, d2] }
  | _ => none }
def UartDecodesWrongFalsely : Prop := uartDecodesRow.holds Try.pinned (OpenSpec.ofChange uartDecodesWrong)

/-- 'signalbenchlaw22.UartEncodes': WHATEVER THE INPUT: true; the input reads as it did. -/
def uartEncodesSpec : ChangeSpec := { name := "uartEncodes", fn := fun _ => fun
  | [d1, d2] => { results := [.lit (.bool true)], args := [d1, d2] }
  | _ => none }
def uartEncodesRow : OpenClaim := { program := "ytlpileejhdadaaa", sum := "7dc058acf7cfb126779bc69f46df99b7e9c1a3adfe625023660f889e0b16b413", func := "signalbench/signalbenchlaw22.UartEncodes", spec := "uartEncodes", unfollowed := true, recurses := true, apart := false }
def UartEncodesSaid : Prop := uartEncodesRow.holds Try.pinned (OpenSpec.ofChange uartEncodesSpec)

/-- ITS FALSE NEIGHBOUR: 'it returns false'. Refute it at one input. -/
def uartEncodesWrong : ChangeSpec := { name := "uartEncodes", fn := fun _ => fun
  | [d1, d2] => { results := [.lit (.bool false)], args := [d1, d2] }
  | _ => none }
def UartEncodesWrongFalsely : Prop := uartEncodesRow.holds Try.pinned (OpenSpec.ofChange uartEncodesWrong)

/-- 'signalbenchlaw22.UartExpects': WHATEVER THE INPUT: true; the input reads as it did. -/
def uartExpectsSpec : ChangeSpec := { name := "uartExpects", fn := fun _ => fun
  | [d1, d2] => { results := [.lit (.bool true)], args := [d1, d2] }
  | _ => none }
def uartExpectsRow : OpenClaim := { program := "ytlpileejhdadaaa", sum := "7dc058acf7cfb126779bc69f46df99b7e9c1a3adfe625023660f889e0b16b413", func := "signalbench/signalbenchlaw22.UartExpects", spec := "uartExpects", unfollowed := true, recurses := true, apart := false }
def UartExpectsSaid : Prop := uartExpectsRow.holds Try.pinned (OpenSpec.ofChange uartExpectsSpec)

/-- ITS FALSE NEIGHBOUR: 'it returns false'. Refute it at one input. -/
def uartExpectsWrong : ChangeSpec := { name := "uartExpects", fn := fun _ => fun
  | [d1, d2] => { results := [.lit (.bool false)], args := [d1, d2] }
  | _ => none }
def UartExpectsWrongFalsely : Prop := uartExpectsRow.holds Try.pinned (OpenSpec.ofChange uartExpectsWrong)

/-- 'signalbenchlaw22.UartRoundTrips': WHATEVER THE INPUT: true; the input reads as it did. -/
def uartRoundTripsSpec : ChangeSpec := { name := "uartRoundTrips", fn := fun _ => fun
  | [d1, d2] => { results := [.lit (.bool true)], args := [d1, d2] }
  | _ => none }
def uartRoundTripsRow : OpenClaim := { program := "ytlpileejhdadaaa", sum := "7dc058acf7cfb126779bc69f46df99b7e9c1a3adfe625023660f889e0b16b413", func := "signalbench/signalbenchlaw22.UartRoundTrips", spec := "uartRoundTrips", unfollowed := true, recurses := true, apart := false }
def UartRoundTripsSaid : Prop := uartRoundTripsRow.holds Try.pinned (OpenSpec.ofChange uartRoundTripsSpec)

/-- ITS FALSE NEIGHBOUR: 'it returns false'. Refute it at one input. -/
def uartRoundTripsWrong : ChangeSpec := { name := "uartRoundTrips", fn := fun _ => fun
  | [d1, d2] => { results := [.lit (.bool false)], args := [d1, d2] }
  | _ => none }
def UartRoundTripsWrongFalsely : Prop := uartRoundTripsRow.holds Try.pinned (OpenSpec.ofChange uartRoundTripsWrong)

/-- 'signalbenchlaw22.UartPieces': WHATEVER THE INPUT: true; the input reads as it did. -/
def uartPiecesSpec : ChangeSpec := { name := "uartPieces", fn := fun _ => fun
  | [d1, d2, d3] => { results := [.lit (.bool true)], args := [d1, d2, d3] }
  | _ => none }
def uartPiecesRow : OpenClaim := { program := "ytlpileejhdadaaa", sum := "7dc058acf7cfb126779bc69f46df99b7e9c1a3adfe625023660f889e0b16b413", func := "signalbench/signalbenchlaw22.UartPieces", spec := "uartPieces", unfollowed := true, recurses := true, apart := false }
def UartPiecesSaid : Prop := uartPiecesRow.holds Try.pinned (OpenSpec.ofChange uartPiecesSpec)

/-- ITS FALSE NEIGHBOUR: 'it returns false'. Refute it at one input. -/
def uartPiecesWrong : ChangeSpec := { name := "uartPieces", fn := fun _ => fun
  | [d1, d2, d3] => { results := [.lit (.bool false)], args := [d1, d2, d3] }
  | _ => none }
def UartPiecesWrongFalsely : Prop := uartPiecesRow.holds Try.pinned (OpenSpec.ofChange uartPiecesWrong)

/-- 'signalbenchlaw22.UartIgnores': WHATEVER THE INPUT: true; the input reads as it did. -/
def uartIgnoresSpec : ChangeSpec := { name := "uartIgnores", fn := fun _ => fun
  | [d1, d2, d3] => { results := [.lit (.bool true)], args := [d1, d2, d3] }
  | _ => none }
def uartIgnoresRow : OpenClaim := { program := "ytlpileejhdadaaa", sum := "7dc058acf7cfb126779bc69f46df99b7e9c1a3adfe625023660f889e0b16b413", func := "signalbench/signalbenchlaw22.UartIgnores", spec := "uartIgnores", unfollowed := true, recurses := true, apart := false }
def UartIgnoresSaid : Prop := uartIgnoresRow.holds Try.pinned (OpenSpec.ofChange uartIgnoresSpec)

/-- ITS FALSE NEIGHBOUR: 'it returns false'. Refute it at one input. -/
def uartIgnoresWrong : ChangeSpec := { name := "uartIgnores", fn := fun _ => fun
  | [d1, d2, d3] => { results := [.lit (.bool false)], args := [d1, d2, d3] }
  | _ => none }
def UartIgnoresWrongFalsely : Prop := uartIgnoresRow.holds Try.pinned (OpenSpec.ofChange uartIgnoresWrong)

/- THE SECOND FORM. 'bulk': how many values and letters a reading holds, each counted each time it is reached (what is shared counts as often as it is met; a slice's spare places count too). A statement '..UptoSaid' is the law's where the arguments, and the package variables that the reading takes, are together of bulk at most 1048576: NARROWER than '..Said'. Prove '..Said' where nothing that the law and all that it calls make is longer than what came in: it says more and counts as full. Else prove '..UptoSaid'. A law counts once. -/
mutual
def uptoBulk {H : Type} : DataW H → Nat
  | .lit (.string bytes) => bytes.length + 1
  | .lit _ => 1
  | .nil => 1
  | .ptr d => uptoBulk d + 1
  | .slice elems spare => uptoBulkAll elems + uptoBulkAll spare + 1
  | .agg parts => uptoBulkAll parts + 1
  | .iface _ d => uptoBulk d + 1
  | .map entries => uptoBulkEntries entries + 1
  | .held _ => 1
def uptoBulkAll {H : Type} : List (DataW H) → Nat
  | [] => 0
  | d :: r => uptoBulk d + uptoBulkAll r
def uptoBulkEntries {H : Type} : List (Lit × DataW H) → Nat
  | [] => 0
  | x :: r => uptoBulkEntry x + uptoBulkEntries r
def uptoBulkEntry {H : Type} : Lit × DataW H → Nat
  | (.string bytes, d) => bytes.length + uptoBulk d + 1
  | (_, d) => uptoBulk d + 1
 end
def uptoSmall : (H : Type) → List (DataW H) → Bool := fun _ ds => decide (uptoBulkAll ds ≤ 1048576)
def OpenSpec.upto (s : _root_.Go.ChangeSpec) : _root_.Go.OpenSpec := { _root_.Go.OpenSpec.ofChange s with cond := some uptoSmall }

/-- 'signalbenchlaw22.UartDecodes', WHERE WHAT IT READS IS OF BULK AT MOST 1048576: true; the input reads as it did. -/
def uartDecodesUptoRow : OpenClaim := { program := "ytlpileejhdadaaa", sum := "7dc058acf7cfb126779bc69f46df99b7e9c1a3adfe625023660f889e0b16b413", func := "signalbench/signalbenchlaw22.UartDecodes", spec := "uartDecodes", unfollowed := true, recurses := true, apart := false, narrowed := true }
def UartDecodesUptoSaid : Prop := uartDecodesUptoRow.holds Try.pinned (OpenSpec.upto uartDecodesSpec)

/-- 'signalbenchlaw22.UartEncodes', WHERE WHAT IT READS IS OF BULK AT MOST 1048576: true; the input reads as it did. -/
def uartEncodesUptoRow : OpenClaim := { program := "ytlpileejhdadaaa", sum := "7dc058acf7cfb126779bc69f46df99b7e9c1a3adfe625023660f889e0b16b413", func := "signalbench/signalbenchlaw22.UartEncodes", spec := "uartEncodes", unfollowed := true, recurses := true, apart := false, narrowed := true }
def UartEncodesUptoSaid : Prop := uartEncodesUptoRow.holds Try.pinned (OpenSpec.upto uartEncodesSpec)

/-- 'signalbenchlaw22.UartExpects', WHERE WHAT IT READS IS OF BULK AT MOST 1048576: true; the input reads as it did. -/
def uartExpectsUptoRow : OpenClaim := { program := "ytlpileejhdadaaa", sum := "7dc058acf7cfb126779bc69f46df99b7e9c1a3adfe625023660f889e0b16b413", func := "signalbench/signalbenchlaw22.UartExpects", spec := "uartExpects", unfollowed := true, recurses := true, apart := false, narrowed := true }
def UartExpectsUptoSaid : Prop := uartExpectsUptoRow.holds Try.pinned (OpenSpec.upto uartExpectsSpec)

/-- 'signalbenchlaw22.UartRoundTrips', WHERE WHAT IT READS IS OF BULK AT MOST 1048576: true; the input reads as it did. -/
def uartRoundTripsUptoRow : OpenClaim := { program := "ytlpileejhdadaaa", sum := "7dc058acf7cfb126779bc69f46df99b7e9c1a3adfe625023660f889e0b16b413", func := "signalbench/signalbenchlaw22.UartRoundTrips", spec := "uartRoundTrips", unfollowed := true, recurses := true, apart := false, narrowed := true }
def UartRoundTripsUptoSaid : Prop := uartRoundTripsUptoRow.holds Try.pinned (OpenSpec.upto uartRoundTripsSpec)

/-- 'signalbenchlaw22.UartPieces', WHERE WHAT IT READS IS OF BULK AT MOST 1048576: true; the input reads as it did. -/
def uartPiecesUptoRow : OpenClaim := { program := "ytlpileejhdadaaa", sum := "7dc058acf7cfb126779bc69f46df99b7e9c1a3adfe625023660f889e0b16b413", func := "signalbench/signalbenchlaw22.UartPieces", spec := "uartPieces", unfollowed := true, recurses := true, apart := false, narrowed := true }
def UartPiecesUptoSaid : Prop := uartPiecesUptoRow.holds Try.pinned (OpenSpec.upto uartPiecesSpec)

/-- 'signalbenchlaw22.UartIgnores', WHERE WHAT IT READS IS OF BULK AT MOST 1048576: true; the input reads as it did. -/
def uartIgnoresUptoRow : OpenClaim := { program := "ytlpileejhdadaaa", sum := "7dc058acf7cfb126779bc69f46df99b7e9c1a3adfe625023660f889e0b16b413", func := "signalbench/signalbenchlaw22.UartIgnores", spec := "uartIgnores", unfollowed := true, recurses := true, apart := false, narrowed := true }
def UartIgnoresUptoSaid : Prop := uartIgnoresUptoRow.holds Try.pinned (OpenSpec.upto uartIgnoresSpec)

end Rows
end Go.Proofs.Ytlpileejhdadaaa
