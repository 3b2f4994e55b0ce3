/- SamplerChecks: for every input the law returns true and leaves its arguments as they were. No condition beyond those of the row. -/
import Derived.Test.YtllgkfhpfonjnaaRows
import Derived.Test.YtllgkfhpfonjnaaP1
import Derived.WalkKit
import Derived.ProofKit
import Derived.OpenShut
import Derived.ChangeOld
import Derived.Below
import Derived.SizedLaws
import Derived.ChangeCalls
set_option linter.unusedVariables false
set_option linter.unusedSimpArgs false
namespace Go.Proofs.Ytllgkfhpfonjnaa.samplerChecks
open Go.ChangeShapes Go.WideShapes Go.ChangeAt Go.RowKit Go.Abs Go.Abs.K
theorem own : ownKnob Try.prog.godebug = none := by kernel_rfl
theorem law (rvs : List (RV C)) (k0 : ToldAll C Try.prog [.agg tys_Clock] rvs) : ∃ φ, KnownAt C Try.prog 6 φ ∧ φ rvs = some [.fl (.one (.bool true))] := by
  obtain ⟨r0, rs0, rfl, h0, k1⟩ := k0.uncons
  obtain ⟨c0, rfl, g0⟩ := told_agg h0
  obtain ⟨p0, rfl, q0⟩ := told_Clock c0 g0
  obtain rfl := k1.unnil
  obtain ⟨M, hM⟩ := SamplerChecks_true p0 q0
  exact ⟨_, K_law15_SamplerChecks_ok M, mkK_true (p0, ()) (by kernel_rfl) hM rfl⟩
set_option maxRecDepth 100000 in
theorem lifted (os : Os) (started : os.Started) (H : Type) (enc : TypeId × Value → H) :
    ReturnsInHanded {} Try.checked os 6 .any (Rows.samplerChecksSpec.pre6 enc Try.prog Try.f6 Rows.samplerChecksRow.domain false) (Rows.samplerChecksSpec.post enc Try.prog Try.f6 false true false false) := by
  refine returnsInHanded_of_change_sized (C := Try.checked) own started (by kernel_rfl) Try.func6
    (ChangeSpec.witness6 (enc := enc) (C := Try.checked) false ⟨#[], #[.agg #[.int .i64 0, .int .i64 0]], []⟩ 8 (by kernel_rfl) (by kernel_rfl) (by kernel_rfl) (by kernel_rfl)) ?_
  intro W base args ds gs before hval0 hW hcnd hsz0 _
  exact row_contract good full (f := 6) (fn := Try.f6) (s := Rows.samplerChecksSpec) (ks := [.agg tys_Clock]) (rt := 4) (by kernel_rfl) (by kernel_rfl) (by kernel_rfl) (by kernel_rfl) (by kernel_rfl) rfl
    (fun ds hd => match ds, hd with | [_], _ => rfl) law hval0 hW hsz0
theorem over : Rows.samplerChecksRow.holds Try.pinned (OpenSpec.ofChange Rows.samplerChecksSpec) :=
  OpenClaim.holds_of_wide 6 Try.f6 rfl rfl rfl rfl rfl rfl rfl ⟨rfl, rfl, rfl, rfl, rfl⟩ rfl rfl rfl rfl rfl (by kernel_rfl) Try.func6 (by kernel_rfl)
    (of_decide_eq_true (by kernel_rfl)) (by unfold Func.isWrapper; first | (rw [if_pos (by decide +kernel)]; kernel_rfl) | (rw [if_neg (by decide +kernel)]; exact ⟨rfl, rfl⟩))
    (fun os started H enc _ => lifted os started H enc)
theorem proved : Rows.SamplerChecksSaid := over
end Go.Proofs.Ytllgkfhpfonjnaa.samplerChecks
namespace Go.Proofs.Ytllgkfhpfonjnaa
/-- The row, under a short name, for the claim. -/
theorem samplerChecks_holds : Rows.SamplerChecksSaid := samplerChecks.proved
end Go.Proofs.Ytllgkfhpfonjnaa
#print axioms Go.Proofs.Ytllgkfhpfonjnaa.samplerChecks_holds
