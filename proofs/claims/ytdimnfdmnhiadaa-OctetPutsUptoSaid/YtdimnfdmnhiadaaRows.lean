/-
  No cell of these rows narrows 'for every input' (looked for: loops, veiled, ifaces, maps, wideKeys, modest, calm, conditions, laid).
  DERIVED. THE GIVEN ROWS OF THIS SEAT. 6 by the template 'for every input the law returns true; each argument reads behind the call as it read before'; 0 by the template 'total and deterministic' (their statements: YtdimnfdmnhiadaaTotals.lean).
  GIVEN WITH THE SEED: the statements are not yours to turn. If you find one false, say at which input.
  Laid BY PROGRAM, IN A SANDBOX (cutbox-rows.mjs): the forced cells as the released guide's own fill.sh prints them over the translation 63bd5eff846e1aed… (all of the seat's roots in one cut). By AI agents, Wed Nov 11 2026. No macro, syntax, notation, axiom, sorry.
-/
import Derived.Test.YtdimnfdmnhiadaaChecked
import GoSem.Claim
import GoSem.ClaimJoined
import GoSem.ClaimMapViews
import Derived.JoinedTies
import Derived.KernelRfl
namespace Go.Proofs.Ytdimnfdmnhiadaa
/- THE CELL 'sum', in the pinned program and in every row, IS THE sha256 OF THE DUMP (.gsa) THAT YtdimnfdmnhiadaaProg.lean LOADS. Nothing in Lean hashes anything: it is a label: what it is worth is what the hold of that sum in a sandbox is worth. -/
noncomputable def Try.pinned : Pinned := { name := "ytdimnfdmnhiadaa", sum := "63bd5eff846e1aed051fade5c9b097c2ab47be2857123326f0f8ea64d1e64365", checked := Try.checked }
namespace Rows
def none {H : Type} : Left H := { results := [], args := [] }

/-- 'signalbenchlaw02.OctetPuts': WHATEVER THE INPUT: true; the input reads as it did. -/
def octetPutsSpec : ChangeSpec := { name := "octetPuts", fn := fun _ => fun
  | [d1, d2, d3] => { results := [.lit (.bool true)], args := [d1, d2, d3] }
  | _ => none }
def octetPutsRow : OpenClaim := { program := "ytdimnfdmnhiadaa", sum := "63bd5eff846e1aed051fade5c9b097c2ab47be2857123326f0f8ea64d1e64365", func := "signalbench/signalbenchlaw02.OctetPuts", spec := "octetPuts", apart := false }
def OctetPutsSaid : Prop := octetPutsRow.holds Try.pinned (OpenSpec.ofChange octetPutsSpec)

/-- ITS FALSE NEIGHBOUR: 'it returns false'. Refute it at one input. -/
def octetPutsWrong : ChangeSpec := { name := "octetPuts", fn := fun _ => fun
  | [d1, d2, d3] => { results := [.lit (.bool false)], args := [d1, d2, d3] }
  | _ => none }
def OctetPutsWrongFalsely : Prop := octetPutsRow.holds Try.pinned (OpenSpec.ofChange octetPutsWrong)

/-- 'signalbenchlaw02.OctetShortest': WHATEVER THE INPUT: true; the input reads as it did. -/
def octetShortestSpec : ChangeSpec := { name := "octetShortest", fn := fun _ => fun
  | [d1, d2] => { results := [.lit (.bool true)], args := [d1, d2] }
  | _ => none }
def octetShortestRow : OpenClaim := { program := "ytdimnfdmnhiadaa", sum := "63bd5eff846e1aed051fade5c9b097c2ab47be2857123326f0f8ea64d1e64365", func := "signalbench/signalbenchlaw02.OctetShortest", spec := "octetShortest", apart := false }
def OctetShortestSaid : Prop := octetShortestRow.holds Try.pinned (OpenSpec.ofChange octetShortestSpec)

/-- ITS FALSE NEIGHBOUR: 'it returns false'. Refute it at one input. -/
def octetShortestWrong : ChangeSpec := { name := "octetShortest", fn := fun _ => fun
  | [d1, d2] => { results := [.lit (.bool false)], args := [d1, d2] }
  | _ => none }
def OctetShortestWrongFalsely : Prop := octetShortestRow.holds Try.pinned (OpenSpec.ofChange octetShortestWrong)

/-- 'signalbenchlaw02.OctetApart': WHATEVER THE INPUT: true; the input reads as it did. -/
def octetApartSpec : ChangeSpec := { name := "octetApart", fn := fun _ => fun
  | [d1, d2, d3] => { results := [.lit (.bool true)], args := [d1, d2, d3] }
  | _ => none }
def octetApartRow : OpenClaim := { program := "ytdimnfdmnhiadaa", sum := "63bd5eff846e1aed051fade5c9b097c2ab47be2857123326f0f8ea64d1e64365", func := "signalbench/signalbenchlaw02.OctetApart", spec := "octetApart", apart := false }
def OctetApartSaid : Prop := octetApartRow.holds Try.pinned (OpenSpec.ofChange octetApartSpec)

/-- ITS FALSE NEIGHBOUR: 'it returns false'. Refute it at one input. -/
def octetApartWrong : ChangeSpec := { name := "octetApart", fn := fun _ => fun
  | [d1, d2, d3] => { results := [.lit (.bool false)], args := [d1, d2, d3] }
  | _ => none }
def OctetApartWrongFalsely : Prop := octetApartRow.holds Try.pinned (OpenSpec.ofChange octetApartWrong)

/-- 'signalbenchlaw02.OctetTakes': WHATEVER THE INPUT: true; the input reads as it did. -/
def octetTakesSpec : ChangeSpec := { name := "octetTakes", fn := fun _ => fun
  | [d1, d2] => { results := [.lit (.bool true)], args := [d1, d2] }
  | _ => none }
def octetTakesRow : OpenClaim := { program := "ytdimnfdmnhiadaa", sum := "63bd5eff846e1aed051fade5c9b097c2ab47be2857123326f0f8ea64d1e64365", func := "signalbench/signalbenchlaw02.OctetTakes", spec := "octetTakes", apart := false }
def OctetTakesSaid : Prop := octetTakesRow.holds Try.pinned (OpenSpec.ofChange octetTakesSpec)

/-- ITS FALSE NEIGHBOUR: 'it returns false'. Refute it at one input. -/
def octetTakesWrong : ChangeSpec := { name := "octetTakes", fn := fun _ => fun
  | [d1, d2] => { results := [.lit (.bool false)], args := [d1, d2] }
  | _ => none }
def OctetTakesWrongFalsely : Prop := octetTakesRow.holds Try.pinned (OpenSpec.ofChange octetTakesWrong)

/-- 'signalbenchlaw02.OctetLimits': WHATEVER THE INPUT: true; the input reads as it did. -/
def octetLimitsSpec : ChangeSpec := { name := "octetLimits", fn := fun _ => fun
  | [d1, d2, d3] => { results := [.lit (.bool true)], args := [d1, d2, d3] }
  | _ => none }
def octetLimitsRow : OpenClaim := { program := "ytdimnfdmnhiadaa", sum := "63bd5eff846e1aed051fade5c9b097c2ab47be2857123326f0f8ea64d1e64365", func := "signalbench/signalbenchlaw02.OctetLimits", spec := "octetLimits", apart := false }
def OctetLimitsSaid : Prop := octetLimitsRow.holds Try.pinned (OpenSpec.ofChange octetLimitsSpec)

/-- ITS FALSE NEIGHBOUR: 'it returns false'. Refute it at one input. -/
def octetLimitsWrong : ChangeSpec := { name := "octetLimits", fn := fun _ => fun
  | [d1, d2, d3] => { results := [.lit (.bool false)], args := [d1, d2, d3] }
  | _ => none }
def OctetLimitsWrongFalsely : Prop := octetLimitsRow.holds Try.pinned (OpenSpec.ofChange octetLimitsWrong)

/-- 'signalbenchlaw02.OctetRoundTrips': WHATEVER THE INPUT: true; the input reads as it did. -/
def octetRoundTripsSpec : ChangeSpec := { name := "octetRoundTrips", fn := fun _ => fun
  | [d1, d2, d3, d4, d5] => { results := [.lit (.bool true)], args := [d1, d2, d3, d4, d5] }
  | _ => none }
def octetRoundTripsRow : OpenClaim := { program := "ytdimnfdmnhiadaa", sum := "63bd5eff846e1aed051fade5c9b097c2ab47be2857123326f0f8ea64d1e64365", func := "signalbench/signalbenchlaw02.OctetRoundTrips", spec := "octetRoundTrips", apart := false }
def OctetRoundTripsSaid : Prop := octetRoundTripsRow.holds Try.pinned (OpenSpec.ofChange octetRoundTripsSpec)

/-- ITS FALSE NEIGHBOUR: 'it returns false'. Refute it at one input. -/
def octetRoundTripsWrong : ChangeSpec := { name := "octetRoundTrips", fn := fun _ => fun
  | [d1, d2, d3, d4, d5] => { results := [.lit (.bool false)], args := [d1, d2, d3, d4, d5] }
  | _ => none }
def OctetRoundTripsWrongFalsely : Prop := octetRoundTripsRow.holds Try.pinned (OpenSpec.ofChange octetRoundTripsWrong)

/- THE SECOND FORM. 'bulk': how many values and letters a reading holds, each counted each time it is reached (what is shared counts as often as it is met; a slice's spare places count too). A statement '..UptoSaid' is the law's where the arguments, and the package variables that the reading takes, are together of bulk at most 1048576: NARROWER than '..Said'. Prove '..Said' where nothing that the law and all that it calls make is longer than what came in: it says more and counts as full. Else prove '..UptoSaid'. A law counts once. -/
mutual
def uptoBulk {H : Type} : DataW H → Nat
  | .lit (.string bytes) => bytes.length + 1
  | .lit _ => 1
  | .nil => 1
  | .ptr d => uptoBulk d + 1
  | .slice elems spare => uptoBulkAll elems + uptoBulkAll spare + 1
  | .agg parts => uptoBulkAll parts + 1
  | .iface _ d => uptoBulk d + 1
  | .map entries => uptoBulkEntries entries + 1
  | .held _ => 1
def uptoBulkAll {H : Type} : List (DataW H) → Nat
  | [] => 0
  | d :: r => uptoBulk d + uptoBulkAll r
def uptoBulkEntries {H : Type} : List (Lit × DataW H) → Nat
  | [] => 0
  | x :: r => uptoBulkEntry x + uptoBulkEntries r
def uptoBulkEntry {H : Type} : Lit × DataW H → Nat
  | (.string bytes, d) => bytes.length + uptoBulk d + 1
  | (_, d) => uptoBulk d + 1
 end
def uptoSmall : (H : Type) → List (DataW H) → Bool := fun _ ds => decide (uptoBulkAll ds ≤ 1048576)
def OpenSpec.upto (s : _root_.Go.ChangeSpec) : _root_.Go.OpenSpec := { _root_.Go.OpenSpec.ofChange s with cond := some uptoSmall }

/-- 'signalbenchlaw02.OctetPuts', WHERE WHAT IT READS IS OF BULK AT MOST 1048576: true; the input reads as it did. -/
def octetPutsUptoRow : OpenClaim := { program := "ytdimnfdmnhiadaa", sum := "63bd5eff846e1aed051fade5c9b097c2ab47be2857123326f0f8ea64d1e64365", func := "signalbench/signalbenchlaw02.OctetPuts", spec := "octetPuts", apart := false, narrowed := true }
def OctetPutsUptoSaid : Prop := octetPutsUptoRow.holds Try.pinned (OpenSpec.upto octetPutsSpec)

/-- 'signalbenchlaw02.OctetShortest', WHERE WHAT IT READS IS OF BULK AT MOST 1048576: true; the input reads as it did. -/
def octetShortestUptoRow : OpenClaim := { program := "ytdimnfdmnhiadaa", sum := "63bd5eff846e1aed051fade5c9b097c2ab47be2857123326f0f8ea64d1e64365", func := "signalbench/signalbenchlaw02.OctetShortest", spec := "octetShortest", apart := false, narrowed := true }
def OctetShortestUptoSaid : Prop := octetShortestUptoRow.holds Try.pinned (OpenSpec.upto octetShortestSpec)

/-- 'signalbenchlaw02.OctetApart', WHERE WHAT IT READS IS OF BULK AT MOST 1048576: true; the input reads as it did. -/
def octetApartUptoRow : OpenClaim := { program := "ytdimnfdmnhiadaa", sum := "63bd5eff846e1aed051fade5c9b097c2ab47be2857123326f0f8ea64d1e64365", func := "signalbench/signalbenchlaw02.OctetApart", spec := "octetApart", apart := false, narrowed := true }
def OctetApartUptoSaid : Prop := octetApartUptoRow.holds Try.pinned (OpenSpec.upto octetApartSpec)

/-- 'signalbenchlaw02.OctetTakes', WHERE WHAT IT READS IS OF BULK AT MOST 1048576: true; the input reads as it did. -/
def octetTakesUptoRow : OpenClaim := { program := "ytdimnfdmnhiadaa", sum := "63bd5eff846e1aed051fade5c9b097c2ab47be2857123326f0f8ea64d1e64365", func := "signalbench/signalbenchlaw02.OctetTakes", spec := "octetTakes", apart := false, narrowed := true }
def OctetTakesUptoSaid : Prop := octetTakesUptoRow.holds Try.pinned (OpenSpec.upto octetTakesSpec)

/-- 'signalbenchlaw02.OctetLimits', WHERE WHAT IT READS IS OF BULK AT MOST 1048576: true; the input reads as it did. -/
def octetLimitsUptoRow : OpenClaim := { program := "ytdimnfdmnhiadaa", sum := "63bd5eff846e1aed051fade5c9b097c2ab47be2857123326f0f8ea64d1e64365", func := "signalbench/signalbenchlaw02.OctetLimits", spec := "octetLimits", apart := false, narrowed := true }
def OctetLimitsUptoSaid : Prop := octetLimitsUptoRow.holds Try.pinned (OpenSpec.upto octetLimitsSpec)

/-- 'signalbenchlaw02.OctetRoundTrips', WHERE WHAT IT READS IS OF BULK AT MOST 1048576: true; the input reads as it did. -/
def octetRoundTripsUptoRow : OpenClaim := { program := "ytdimnfdmnhiadaa", sum := "63bd5eff846e1aed051fade5c9b097c2ab47be2857123326f0f8ea64d1e64365", func := "signalbench/signalbenchlaw02.OctetRoundTrips", spec := "octetRoundTrips", apart := false, narrowed := true }
def OctetRoundTripsUptoSaid : Prop := octetRoundTripsUptoRow.holds Try.pinned (OpenSpec.upto octetRoundTripsSpec)

end Rows
end Go.Proofs.Ytdimnfdmnhiadaa
