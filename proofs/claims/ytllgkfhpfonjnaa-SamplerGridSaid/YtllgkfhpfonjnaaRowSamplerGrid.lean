/- SamplerGrid: for every input the law returns true and leaves its arguments as they were. No condition beyond those of the row. -/
import Derived.Test.YtllgkfhpfonjnaaRows
import Derived.Test.YtllgkfhpfonjnaaP5
import Derived.WalkKit
import Derived.ProofKit
import Derived.OpenShut
import Derived.ChangeOld
import Derived.Below
import Derived.SizedLaws
import Derived.ChangeCalls
set_option linter.unusedVariables false
set_option linter.unusedSimpArgs false
namespace Go.Proofs.Ytllgkfhpfonjnaa.samplerGrid
open Go.ChangeShapes Go.WideShapes Go.ChangeAt Go.RowKit Go.Abs Go.Abs.K
theorem own : ownKnob Try.prog.godebug = none := by kernel_rfl
theorem law (rvs : List (RV C)) (k0 : ToldAll C Try.prog [.agg tys_Clock, .one (.int .i64), .one (.int .i64), .one (.int .i64)] rvs) : ∃ φ, KnownAt C Try.prog 4 φ ∧ φ rvs = some [.fl (.one (.bool true))] := by
  obtain ⟨r0, rs0, rfl, h0, k1⟩ := k0.uncons
  obtain ⟨c0, rfl, g0⟩ := told_agg h0
  obtain ⟨p0, rfl, q0⟩ := told_Clock c0 g0
  obtain ⟨r1, rs1, rfl, h1, k2⟩ := k1.uncons
  obtain ⟨p1, rfl, q1⟩ := told_int h1
  obtain ⟨r2, rs2, rfl, h2, k3⟩ := k2.uncons
  obtain ⟨p2, rfl, q2⟩ := told_int h2
  obtain ⟨r3, rs3, rfl, h3, k4⟩ := k3.uncons
  obtain ⟨p3, rfl, q3⟩ := told_int h3
  obtain rfl := k4.unnil
  obtain ⟨M, hM⟩ := SamplerGrid_true p0 p1 p2 p3 q0 q1 q2 q3
  exact ⟨_, K_law15_SamplerGrid_ok M, mkK_true (p0, p1, p2, p3, ()) (by kernel_rfl) hM rfl⟩
set_option maxRecDepth 100000 in
theorem lifted (os : Os) (started : os.Started) (H : Type) (enc : TypeId × Value → H) :
    ReturnsInHanded {} Try.checked os 4 .any (Rows.samplerGridSpec.pre6 enc Try.prog Try.f4 Rows.samplerGridRow.domain false) (Rows.samplerGridSpec.post enc Try.prog Try.f4 false true false false) := by
  refine returnsInHanded_of_change_sized (C := Try.checked) own started (by kernel_rfl) Try.func4
    (ChangeSpec.witness6 (enc := enc) (C := Try.checked) false ⟨#[], #[.agg #[.int .i64 0, .int .i64 0], .int .i64 0, .int .i64 0, .int .i64 0], []⟩ 8 (by kernel_rfl) (by kernel_rfl) (by kernel_rfl) (by kernel_rfl)) ?_
  intro W base args ds gs before hval0 hW hcnd hsz0 _
  exact row_contract good full (f := 4) (fn := Try.f4) (s := Rows.samplerGridSpec) (ks := [.agg tys_Clock, .one (.int .i64), .one (.int .i64), .one (.int .i64)]) (rt := 4) (by kernel_rfl) (by kernel_rfl) (by kernel_rfl) (by kernel_rfl) (by kernel_rfl) rfl
    (fun ds hd => match ds, hd with | [_, _, _, _], _ => rfl) law hval0 hW hsz0
theorem over : Rows.samplerGridRow.holds Try.pinned (OpenSpec.ofChange Rows.samplerGridSpec) :=
  OpenClaim.holds_of_wide 4 Try.f4 rfl rfl rfl rfl rfl rfl rfl ⟨rfl, rfl, rfl, rfl, rfl⟩ rfl rfl rfl rfl rfl (by kernel_rfl) Try.func4 (by kernel_rfl)
    (of_decide_eq_true (by kernel_rfl)) (by unfold Func.isWrapper; first | (rw [if_pos (by decide +kernel)]; kernel_rfl) | (rw [if_neg (by decide +kernel)]; exact ⟨rfl, rfl⟩))
    (fun os started H enc _ => lifted os started H enc)
theorem proved : Rows.SamplerGridSaid := over
end Go.Proofs.Ytllgkfhpfonjnaa.samplerGrid
namespace Go.Proofs.Ytllgkfhpfonjnaa
/-- The row, under a short name, for the claim. -/
theorem samplerGrid_holds : Rows.SamplerGridSaid := samplerGrid.proved
end Go.Proofs.Ytllgkfhpfonjnaa
#print axioms Go.Proofs.Ytllgkfhpfonjnaa.samplerGrid_holds
