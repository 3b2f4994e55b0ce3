/- PairEncodes: for every input the law returns true and leaves its arguments as they were. No condition beyond those of the row. -/
import Derived.Test.YtcagcnlddcloiaaRows
import Derived.Test.YtcagcnlddcloiaaP7
import Derived.WalkKit
import Derived.ProofKit
import Derived.OpenShut
import Derived.ChangeOld
import Derived.Below
import Derived.SizedLaws
import Derived.ChangeCalls
set_option linter.unusedVariables false
set_option linter.unusedSimpArgs false
namespace Go.Proofs.Ytcagcnlddcloiaa.pairEncodes
open Go.ChangeShapes Go.WideShapes Go.ChangeAt Go.RowKit Go.Abs Go.Abs.K
theorem own : ownKnob Try.prog.godebug = none := by kernel_rfl
theorem law (rvs : List (RV C)) (k0 : ToldAll C Try.prog [.agg tys_Pair, .row 48 tys_Item] rvs) : ∃ φ, KnownAt C Try.prog 4 φ ∧ φ rvs = some [.fl (.one (.bool true))] := by
  obtain ⟨r0, rs0, rfl, h0, k1⟩ := k0.uncons
  obtain ⟨c0, rfl, g0⟩ := told_agg h0
  obtain ⟨p0, rfl, q0⟩ := told_Pair c0 g0
  obtain ⟨r1, rs1, rfl, h1, k2⟩ := k1.uncons
  obtain ⟨p1, rfl, g1, q1'⟩ := told_row h1
  have q1 : (∀ x, x ∈ (show List Go.Abs.K.Item from p1) → wf_Item x) ∧ p1.length * Try.prog.bytesOf 48 ≤ 140737488351232 := ⟨fun x hx => wf_Item_of x (g1 x hx), q1'⟩
  obtain rfl := k2.unnil
  obtain ⟨M, hM⟩ := PairEncodes_true p0 p1 q0 q1
  exact ⟨_, K_law33_PairEncodes_ok M, mkK_true (p0, p1, ()) (by kernel_rfl) hM rfl⟩
set_option maxRecDepth 100000 in
theorem lifted (os : Os) (started : os.Started) (H : Type) (enc : TypeId × Value → H) :
    ReturnsInHanded {} Try.checked os 4 .any (Rows.pairEncodesSpec.pre6 enc Try.prog Try.f4 Rows.pairEncodesRow.domain false) (Rows.pairEncodesSpec.post enc Try.prog Try.f4 false true false false) := by
  refine returnsInHanded_of_change_sized (C := Try.checked) own started (by kernel_rfl) Try.func4
    (ChangeSpec.witness6 (enc := enc) (C := Try.checked) false ⟨#[], #[.agg #[.int .i64 0], .slice none 0 0], []⟩ 8 (by kernel_rfl) (by kernel_rfl) (by kernel_rfl) (by kernel_rfl)) ?_
  intro W base args ds gs before hval0 hW hcnd hsz0 _
  exact row_contract good full (f := 4) (fn := Try.f4) (s := Rows.pairEncodesSpec) (ks := [.agg tys_Pair, .row 48 tys_Item]) (rt := 4) (by kernel_rfl) (by kernel_rfl) (by kernel_rfl) (by kernel_rfl) (by kernel_rfl) rfl
    (fun ds hd => match ds, hd with | [_, _], _ => rfl) law hval0 hW hsz0
theorem over : Rows.pairEncodesRow.holds Try.pinned (OpenSpec.ofChange Rows.pairEncodesSpec) :=
  OpenClaim.holds_of_wide 4 Try.f4 rfl rfl rfl rfl rfl rfl rfl ⟨rfl, rfl, rfl, rfl, rfl⟩ rfl rfl rfl rfl rfl (by kernel_rfl) Try.func4 (by kernel_rfl)
    (of_decide_eq_true (by kernel_rfl)) (by unfold Func.isWrapper; first | (rw [if_pos (by decide +kernel)]; kernel_rfl) | (rw [if_neg (by decide +kernel)]; exact ⟨rfl, rfl⟩))
    (fun os started H enc _ => lifted os started H enc)
theorem proved : Rows.PairEncodesSaid := over
end Go.Proofs.Ytcagcnlddcloiaa.pairEncodes
namespace Go.Proofs.Ytcagcnlddcloiaa
/-- The row, under a short name, for the claim. -/
theorem pairEncodes_holds : Rows.PairEncodesSaid := pairEncodes.proved
end Go.Proofs.Ytcagcnlddcloiaa
#print axioms Go.Proofs.Ytcagcnlddcloiaa.pairEncodes_holds
