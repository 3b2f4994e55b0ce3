/- LinSeparates: for every input the law returns true and leaves its arguments as they were. No condition beyond those of the row. -/
import Derived.Test.YtohpkolbocmbbaaRows
import Derived.Test.YtohpkolbocmbbaaP6
import Derived.WalkKit
import Derived.ProofKit
import Derived.OpenShut
import Derived.ChangeOld
import Derived.Below
import Derived.SizedLaws
import Derived.ChangeCalls
set_option linter.unusedVariables false
set_option linter.unusedSimpArgs false
namespace Go.Proofs.Ytohpkolbocmbbaa.linSeparates
open Go.ChangeShapes Go.WideShapes Go.ChangeAt Go.RowKit Go.Abs Go.Abs.K
theorem own : ownKnob Try.prog.godebug = none := by kernel_rfl
theorem law (rvs : List (RV C)) (k0 : ToldAll C Try.prog [.agg tys_Lin, .one .string, .one .string] rvs) : ∃ φ, KnownAt C Try.prog 6 φ ∧ φ rvs = some [.fl (.one (.bool true))] := by
  obtain ⟨r0, rs0, rfl, h0, k1⟩ := k0.uncons
  obtain ⟨c0, rfl, g0⟩ := told_agg h0
  obtain ⟨p0, rfl, q0⟩ := told_Lin c0 g0
  obtain ⟨r1, rs1, rfl, h1, k2⟩ := k1.uncons
  obtain ⟨p1, rfl, q1⟩ := told_str h1
  obtain ⟨r2, rs2, rfl, h2, k3⟩ := k2.uncons
  obtain ⟨p2, rfl, q2⟩ := told_str h2
  obtain rfl := k3.unnil
  obtain ⟨M, hM⟩ := LinSeparates_true p0 p1 p2 q0 q1 q2
  exact ⟨_, K_law27_LinSeparates_ok M, mkK_true (p0, p1, p2, ()) (by kernel_rfl) hM rfl⟩
set_option maxRecDepth 100000 in
theorem lifted (os : Os) (started : os.Started) (H : Type) (enc : TypeId × Value → H) :
    ReturnsInHanded {} Try.checked os 6 .any (Rows.linSeparatesSpec.pre6 enc Try.prog Try.f6 Rows.linSeparatesRow.domain false) (Rows.linSeparatesSpec.post enc Try.prog Try.f6 false true false false) := by
  refine returnsInHanded_of_change_sized (C := Try.checked) own started (by kernel_rfl) Try.func6
    (ChangeSpec.witness6 (enc := enc) (C := Try.checked) false ⟨#[], #[.agg #[.bool false], .string ByteArray.empty, .string ByteArray.empty], []⟩ 8 (by kernel_rfl) (by kernel_rfl) (by kernel_rfl) (by kernel_rfl)) ?_
  intro W base args ds gs before hval0 hW hcnd hsz0 _
  exact row_contract good full (f := 6) (fn := Try.f6) (s := Rows.linSeparatesSpec) (ks := [.agg tys_Lin, .one .string, .one .string]) (rt := 4) (by kernel_rfl) (by kernel_rfl) (by kernel_rfl) (by kernel_rfl) (by kernel_rfl) rfl
    (fun ds hd => match ds, hd with | [_, _, _], _ => rfl) law hval0 hW hsz0
theorem over : Rows.linSeparatesRow.holds Try.pinned (OpenSpec.ofChange Rows.linSeparatesSpec) :=
  OpenClaim.holds_of_wide 6 Try.f6 rfl rfl rfl rfl rfl rfl rfl ⟨rfl, rfl, rfl, rfl, rfl⟩ rfl rfl rfl rfl rfl (by kernel_rfl) Try.func6 (by kernel_rfl)
    (of_decide_eq_true (by kernel_rfl)) (by unfold Func.isWrapper; first | (rw [if_pos (by decide +kernel)]; kernel_rfl) | (rw [if_neg (by decide +kernel)]; exact ⟨rfl, rfl⟩))
    (fun os started H enc _ => lifted os started H enc)
theorem proved : Rows.LinSeparatesSaid := over
end Go.Proofs.Ytohpkolbocmbbaa.linSeparates
namespace Go.Proofs.Ytohpkolbocmbbaa
/-- The row, under a short name, for the claim. -/
theorem linSeparates_holds : Rows.LinSeparatesSaid := linSeparates.proved
end Go.Proofs.Ytohpkolbocmbbaa
#print axioms Go.Proofs.Ytohpkolbocmbbaa.linSeparates_holds
