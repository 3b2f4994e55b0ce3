/- PairRoundTrips: for every input the law returns true and leaves its arguments as they were. No condition beyond those of the row. -/
import Derived.Test.YtcagcnlddcloiaaRows
import Derived.Test.YtcagcnlddcloiaaP10
import Derived.WalkKit
import Derived.ProofKit
import Derived.OpenShut
import Derived.ChangeOld
import Derived.Below
import Derived.SizedLaws
import Derived.ChangeCalls
set_option linter.unusedVariables false
set_option linter.unusedSimpArgs false
namespace Go.Proofs.Ytcagcnlddcloiaa.pairRoundTrips
open Go.ChangeShapes Go.WideShapes Go.ChangeAt Go.RowKit Go.Abs Go.Abs.K
theorem own : ownKnob Try.prog.godebug = none := by kernel_rfl
theorem law (rvs : List (RV C)) (k0 : ToldAll C Try.prog [.row 48 tys_Item, .one (.int .i64)] rvs) : ∃ φ, KnownAt C Try.prog 6 φ ∧ φ rvs = some [.fl (.one (.bool true))] := by
  obtain ⟨r0, rs0, rfl, h0, k1⟩ := k0.uncons
  obtain ⟨p0, rfl, g0, q0'⟩ := told_row h0
  have q0 : (∀ x, x ∈ (show List Go.Abs.K.Item from p0) → wf_Item x) ∧ p0.length * Try.prog.bytesOf 48 ≤ 140737488351232 := ⟨fun x hx => wf_Item_of x (g0 x hx), q0'⟩
  obtain ⟨r1, rs1, rfl, h1, k2⟩ := k1.uncons
  obtain ⟨p1, rfl, q1⟩ := told_int h1
  obtain rfl := k2.unnil
  obtain ⟨M, hM⟩ := PairRoundTrips_true p0 p1 q0 q1
  exact ⟨_, K_law33_PairRoundTrips_ok M, mkK_true (p0, p1, ()) (by kernel_rfl) hM rfl⟩
set_option maxRecDepth 100000 in
theorem lifted (os : Os) (started : os.Started) (H : Type) (enc : TypeId × Value → H) :
    ReturnsInHanded {} Try.checked os 6 .any (Rows.pairRoundTripsSpec.pre6 enc Try.prog Try.f6 Rows.pairRoundTripsRow.domain false) (Rows.pairRoundTripsSpec.post enc Try.prog Try.f6 false true false false) := by
  refine returnsInHanded_of_change_sized (C := Try.checked) own started (by kernel_rfl) Try.func6
    (ChangeSpec.witness6 (enc := enc) (C := Try.checked) false ⟨#[], #[.slice none 0 0, .int .i64 0], []⟩ 8 (by kernel_rfl) (by kernel_rfl) (by kernel_rfl) (by kernel_rfl)) ?_
  intro W base args ds gs before hval0 hW hcnd hsz0 _
  exact row_contract good full (f := 6) (fn := Try.f6) (s := Rows.pairRoundTripsSpec) (ks := [.row 48 tys_Item, .one (.int .i64)]) (rt := 4) (by kernel_rfl) (by kernel_rfl) (by kernel_rfl) (by kernel_rfl) (by kernel_rfl) rfl
    (fun ds hd => match ds, hd with | [_, _], _ => rfl) law hval0 hW hsz0
theorem over : Rows.pairRoundTripsRow.holds Try.pinned (OpenSpec.ofChange Rows.pairRoundTripsSpec) :=
  OpenClaim.holds_of_wide 6 Try.f6 rfl rfl rfl rfl rfl rfl rfl ⟨rfl, rfl, rfl, rfl, rfl⟩ rfl rfl rfl rfl rfl (by kernel_rfl) Try.func6 (by kernel_rfl)
    (of_decide_eq_true (by kernel_rfl)) (by unfold Func.isWrapper; first | (rw [if_pos (by decide +kernel)]; kernel_rfl) | (rw [if_neg (by decide +kernel)]; exact ⟨rfl, rfl⟩))
    (fun os started H enc _ => lifted os started H enc)
theorem proved : Rows.PairRoundTripsSaid := over
end Go.Proofs.Ytcagcnlddcloiaa.pairRoundTrips
namespace Go.Proofs.Ytcagcnlddcloiaa
/-- The row, under a short name, for the claim. -/
theorem pairRoundTrips_holds : Rows.PairRoundTripsSaid := pairRoundTrips.proved
end Go.Proofs.Ytcagcnlddcloiaa
#print axioms Go.Proofs.Ytcagcnlddcloiaa.pairRoundTrips_holds
