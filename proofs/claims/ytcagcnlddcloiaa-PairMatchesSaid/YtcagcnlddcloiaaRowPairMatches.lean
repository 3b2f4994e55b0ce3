/- PairMatches: for every input the law returns true and leaves its arguments as they were. No condition beyond those of the row. -/
import Derived.Test.YtcagcnlddcloiaaRows
import Derived.Test.YtcagcnlddcloiaaP11
import Derived.WalkKit
import Derived.ProofKit
import Derived.OpenShut
import Derived.ChangeOld
import Derived.Below
import Derived.SizedLaws
import Derived.ChangeCalls
set_option linter.unusedVariables false
set_option linter.unusedSimpArgs false
namespace Go.Proofs.Ytcagcnlddcloiaa.pairMatches
open Go.ChangeShapes Go.WideShapes Go.ChangeAt Go.RowKit Go.Abs Go.Abs.K
theorem own : ownKnob Try.prog.godebug = none := by kernel_rfl
theorem law (rvs : List (RV C)) (k0 : ToldAll C Try.prog [.one .string] rvs) : ∃ φ, KnownAt C Try.prog 5 φ ∧ φ rvs = some [.fl (.one (.bool true))] := by
  obtain ⟨r0, rs0, rfl, h0, k1⟩ := k0.uncons
  obtain ⟨p0, rfl, q0⟩ := told_str h0
  obtain rfl := k1.unnil
  obtain ⟨M, hM⟩ := PairMatches_true p0 q0
  exact ⟨_, K_law33_PairMatches_ok M, mkK_true (p0, ()) (by kernel_rfl) hM rfl⟩
set_option maxRecDepth 100000 in
theorem lifted (os : Os) (started : os.Started) (H : Type) (enc : TypeId × Value → H) :
    ReturnsInHanded {} Try.checked os 5 .any (Rows.pairMatchesSpec.pre6 enc Try.prog Try.f5 Rows.pairMatchesRow.domain false) (Rows.pairMatchesSpec.post enc Try.prog Try.f5 false true false false) := by
  refine returnsInHanded_of_change_sized (C := Try.checked) own started (by kernel_rfl) Try.func5
    (ChangeSpec.witness6 (enc := enc) (C := Try.checked) false ⟨#[], #[.string ByteArray.empty], []⟩ 8 (by kernel_rfl) (by kernel_rfl) (by kernel_rfl) (by kernel_rfl)) ?_
  intro W base args ds gs before hval0 hW hcnd hsz0 _
  exact row_contract good full (f := 5) (fn := Try.f5) (s := Rows.pairMatchesSpec) (ks := [.one .string]) (rt := 4) (by kernel_rfl) (by kernel_rfl) (by kernel_rfl) (by kernel_rfl) (by kernel_rfl) rfl
    (fun ds hd => match ds, hd with | [_], _ => rfl) law hval0 hW hsz0
theorem over : Rows.pairMatchesRow.holds Try.pinned (OpenSpec.ofChange Rows.pairMatchesSpec) :=
  OpenClaim.holds_of_wide 5 Try.f5 rfl rfl rfl rfl rfl rfl rfl ⟨rfl, rfl, rfl, rfl, rfl⟩ rfl rfl rfl rfl rfl (by kernel_rfl) Try.func5 (by kernel_rfl)
    (of_decide_eq_true (by kernel_rfl)) (by unfold Func.isWrapper; first | (rw [if_pos (by decide +kernel)]; kernel_rfl) | (rw [if_neg (by decide +kernel)]; exact ⟨rfl, rfl⟩))
    (fun os started H enc _ => lifted os started H enc)
theorem proved : Rows.PairMatchesSaid := over
end Go.Proofs.Ytcagcnlddcloiaa.pairMatches
namespace Go.Proofs.Ytcagcnlddcloiaa
/-- The row, under a short name, for the claim. -/
theorem pairMatches_holds : Rows.PairMatchesSaid := pairMatches.proved
end Go.Proofs.Ytcagcnlddcloiaa
#print axioms Go.Proofs.Ytcagcnlddcloiaa.pairMatches_holds
