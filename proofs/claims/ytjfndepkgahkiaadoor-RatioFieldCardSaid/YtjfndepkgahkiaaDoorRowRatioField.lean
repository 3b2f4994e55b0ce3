/- RatioField: for every input the law returns true and leaves its arguments as they were; the variables that its row lists are tied to the program's text by the given ties. No condition beyond those of the row. -/
import Derived.Test.YtjfndepkgahkiaaDoorRows
import Derived.Test.YtjfndepkgahkiaaDoorCards
import Derived.Test.YtjfndepkgahkiaaDoorTie
import Derived.Test.YtjfndepkgahkiaaDoorC1
import Derived.Test.YtjfndepkgahkiaaDoorP3
set_option linter.unusedVariables false
set_option linter.unusedSimpArgs false
namespace Go.Proofs.YtjfndepkgahkiaaDoor.ratioField
open Go.ChangeShapes Go.WideShapes Go.ChangeAt Go.RowKit Go.Abs Go.Abs.K
theorem law (rvs : List (RV C)) (k0 : ToldAll C Tryd.prog [.agg tys_Ratio, .agg tys_Ratio, .agg tys_Ratio] rvs) : ∃ φ, KnownAt C Tryd.prog 11 φ ∧ φ rvs = some [.fl (.one (.bool true))] := by
  obtain ⟨r0, rs0, rfl, h0, k1⟩ := k0.uncons
  obtain ⟨c0, rfl, g0⟩ := told_agg h0
  obtain ⟨p0, rfl, q0⟩ := told_Ratio c0 g0
  obtain ⟨r1, rs1, rfl, h1, k2⟩ := k1.uncons
  obtain ⟨c1, rfl, g1⟩ := told_agg h1
  obtain ⟨p1, rfl, q1⟩ := told_Ratio c1 g1
  obtain ⟨r2, rs2, rfl, h2, k3⟩ := k2.uncons
  obtain ⟨c2, rfl, g2⟩ := told_agg h2
  obtain ⟨p2, rfl, q2⟩ := told_Ratio c2 g2
  obtain rfl := k3.unnil
  obtain ⟨M, hM⟩ := RatioField_true p0 p1 p2 q0 q1 q2
  exact ⟨_, K_law01_RatioField_ok M, mkK_true (p0, p1, p2, ()) (by kernel_rfl) hM rfl⟩
set_option maxRecDepth 100000 in
theorem lifted (os : Os) (started : os.Started) (H : Type) (enc : TypeId × Value → H) :
    ReturnsInHanded {} Tryd.checked os 11 .any (fun w args => (Rows.ratioFieldSpec.pre enc Tryd.prog Tryd.f11 [] false w args ∧ laidMetH Tryd.prog laids w) ∧ sizedMet enc Tryd.prog Tryd.f11 (OpenSpec.ofChange Rows.ratioFieldSpec) false w args)
      (Rows.ratioFieldSpec.post enc Tryd.prog Tryd.f11 false true false false) := by
  refine returnsInHanded_of_change_and (C := Tryd.checked) (X := fun w _ => laidMetH Tryd.prog laids w) (fun _ _ _ hh h => h.of_heap hh) own started (by kernel_rfl) Tryd.func11
    (ChangeSpec.witness_shaped (enc := enc) (C := Tryd.checked) (os := os) (X := fun w _ => laidMetH Tryd.prog laids w) false (World.doorLaid Tryd.prog 4000 os) #[.agg #[.int .i64 0, .int .i64 0], .agg #[.int .i64 0, .int .i64 0], .agg #[.int .i64 0, .int .i64 0]] 8 rfl (World.shaped_of_RefB (by kernel_rfl) (by kernel_rfl)) (by kernel_rfl) (by kernel_rfl) (by kernel_rfl) (door_met os _)) ?_
  intro W base args ds gs before hval0 hW _ hsz0 hL _
  exact row_contract good full (f := 11) (fn := Tryd.f11) (s := Rows.ratioFieldSpec) (ks := [.agg tys_Ratio, .agg tys_Ratio, .agg tys_Ratio]) (rt := 4) (by kernel_rfl) (by kernel_rfl) (by kernel_rfl) (by kernel_rfl) (by kernel_rfl) rfl
    (fun ds hd => match ds, hd with | [_, _, _], _ => rfl) law hval0 hW hsz0 (inv_of hL)
theorem over : Rows.RatioFieldSaid :=
  OpenClaim.holds_of_wide 11 Tryd.f11 rfl rfl rfl rfl rfl rfl rfl ⟨rfl, rfl, rfl, rfl, rfl⟩ rfl rfl rfl rfl rfl (by kernel_rfl) Tryd.func11 (by kernel_rfl)
    (of_decide_eq_true (by kernel_rfl)) (by unfold Func.isWrapper; first | (rw [if_pos (by decide +kernel)]; kernel_rfl) | (rw [if_neg (by decide +kernel)]; exact ⟨rfl, rfl⟩))
    (fun os started H enc _ => lifted os started H enc)
theorem card : Rows.RatioFieldCardSaid :=
  Claim7.holds_tied_plain_at .later [] [.data, .data, .data] true Rows.ratioFieldCard.stood.harness false
    over (fun _ h => by cases h) (by kernel_rfl) (fun _ h => by cases h) ratioField_row_tie rfl ⟨rfl, rfl⟩ (by kernel_rfl) rfl
    (fun f fn hf hfn => by
      obtain rfl : f = 11 := Option.some.inj ((show Tryd.prog.funcNamed Rows.ratioFieldRow.func = some 11 by kernel_rfl).symm.trans hf) |>.symm
      obtain rfl : fn = Tryd.f11 := (Option.some.inj (Tryd.func11.symm.trans hfn)).symm
      exact ⟨by kernel_rfl, fun j t ht => by
        have hm : t ∈ Tryd.f11.params.toList := Array.mem_toList_iff.2 (Array.mem_of_getElem? ht)
        have hall : (Tryd.f11.params.toList.all fun u => !Tryd.prog.wantsStandIn u) = true := by kernel_rfl
        exact (show Tryd.prog.wantsStandIn t = false by simpa using List.all_eq_true.1 hall t hm)⟩)
    (by kernel_rfl)
end Go.Proofs.YtjfndepkgahkiaaDoor.ratioField
namespace Go.Proofs.YtjfndepkgahkiaaDoor
/-- The card, under a short name, for the claim. -/
theorem ratioField_holds : Rows.RatioFieldCardSaid := ratioField.card
end Go.Proofs.YtjfndepkgahkiaaDoor
#print axioms Go.Proofs.YtjfndepkgahkiaaDoor.ratioField_holds
