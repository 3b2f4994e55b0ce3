/- PairTimeouts: for every input the law returns true and leaves its arguments as they were. No condition beyond those of the row. -/
import Derived.Test.YtcagcnlddcloiaaRows
import Derived.Test.YtcagcnlddcloiaaP8
import Derived.WalkKit
import Derived.ProofKit
import Derived.OpenShut
import Derived.ChangeOld
import Derived.Below
import Derived.SizedLaws
import Derived.ChangeCalls
set_option linter.unusedVariables false
set_option linter.unusedSimpArgs false
namespace Go.Proofs.Ytcagcnlddcloiaa.pairTimeouts
open Go.ChangeShapes Go.WideShapes Go.ChangeAt Go.RowKit Go.Abs Go.Abs.K
theorem own : ownKnob Try.prog.godebug = none := by kernel_rfl
theorem law (rvs : List (RV C)) (k0 : ToldAll C Try.prog [.one (.int .i64), .one (.int .i64), .one (.int .i64), .one (.int .i64), .one (.int .i64)] rvs) : ∃ φ, KnownAt C Try.prog 7 φ ∧ φ rvs = some [.fl (.one (.bool true))] := by
  obtain ⟨r0, rs0, rfl, h0, k1⟩ := k0.uncons
  obtain ⟨p0, rfl, q0⟩ := told_int h0
  obtain ⟨r1, rs1, rfl, h1, k2⟩ := k1.uncons
  obtain ⟨p1, rfl, q1⟩ := told_int h1
  obtain ⟨r2, rs2, rfl, h2, k3⟩ := k2.uncons
  obtain ⟨p2, rfl, q2⟩ := told_int h2
  obtain ⟨r3, rs3, rfl, h3, k4⟩ := k3.uncons
  obtain ⟨p3, rfl, q3⟩ := told_int h3
  obtain ⟨r4, rs4, rfl, h4, k5⟩ := k4.uncons
  obtain ⟨p4, rfl, q4⟩ := told_int h4
  obtain rfl := k5.unnil
  obtain ⟨M, hM⟩ := PairTimeouts_true p0 p1 p2 p3 p4 q0 q1 q2 q3 q4
  exact ⟨_, K_law33_PairTimeouts_ok M, mkK_true (p0, p1, p2, p3, p4, ()) (by kernel_rfl) hM rfl⟩
set_option maxRecDepth 100000 in
theorem lifted (os : Os) (started : os.Started) (H : Type) (enc : TypeId × Value → H) :
    ReturnsInHanded {} Try.checked os 7 .any (Rows.pairTimeoutsSpec.pre6 enc Try.prog Try.f7 Rows.pairTimeoutsRow.domain false) (Rows.pairTimeoutsSpec.post enc Try.prog Try.f7 false true false false) := by
  refine returnsInHanded_of_change_sized (C := Try.checked) own started (by kernel_rfl) Try.func7
    (ChangeSpec.witness6 (enc := enc) (C := Try.checked) false ⟨#[], #[.int .i64 0, .int .i64 0, .int .i64 0, .int .i64 0, .int .i64 0], []⟩ 8 (by kernel_rfl) (by kernel_rfl) (by kernel_rfl) (by kernel_rfl)) ?_
  intro W base args ds gs before hval0 hW hcnd hsz0 _
  exact row_contract good full (f := 7) (fn := Try.f7) (s := Rows.pairTimeoutsSpec) (ks := [.one (.int .i64), .one (.int .i64), .one (.int .i64), .one (.int .i64), .one (.int .i64)]) (rt := 4) (by kernel_rfl) (by kernel_rfl) (by kernel_rfl) (by kernel_rfl) (by kernel_rfl) rfl
    (fun ds hd => match ds, hd with | [_, _, _, _, _], _ => rfl) law hval0 hW hsz0
theorem over : Rows.pairTimeoutsRow.holds Try.pinned (OpenSpec.ofChange Rows.pairTimeoutsSpec) :=
  OpenClaim.holds_of_wide 7 Try.f7 rfl rfl rfl rfl rfl rfl rfl ⟨rfl, rfl, rfl, rfl, rfl⟩ rfl rfl rfl rfl rfl (by kernel_rfl) Try.func7 (by kernel_rfl)
    (of_decide_eq_true (by kernel_rfl)) (by unfold Func.isWrapper; first | (rw [if_pos (by decide +kernel)]; kernel_rfl) | (rw [if_neg (by decide +kernel)]; exact ⟨rfl, rfl⟩))
    (fun os started H enc _ => lifted os started H enc)
theorem proved : Rows.PairTimeoutsSaid := over
end Go.Proofs.Ytcagcnlddcloiaa.pairTimeouts
namespace Go.Proofs.Ytcagcnlddcloiaa
/-- The row, under a short name, for the claim. -/
theorem pairTimeouts_holds : Rows.PairTimeoutsSaid := pairTimeouts.proved
end Go.Proofs.Ytcagcnlddcloiaa
#print axioms Go.Proofs.Ytcagcnlddcloiaa.pairTimeouts_holds
