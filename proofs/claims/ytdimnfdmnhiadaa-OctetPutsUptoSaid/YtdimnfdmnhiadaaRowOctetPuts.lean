/- OctetPuts, the second form: for every input of bulk at most 1048576 the law returns true and leaves its arguments as they were. (The first form is false by size: the append of string(b) to b passes the room that append bears.) -/
import Derived.Test.YtdimnfdmnhiadaaRows
import Derived.Test.YtdimnfdmnhiadaaP4
import Derived.Test.YtdimnfdmnhiadaaA35
import Derived.WalkKit
import Derived.ProofKit
import Derived.OpenShut
import Derived.ChangeOld
import Derived.Below
import Derived.Deep.CondSized
import Derived.ChangeCalls
set_option linter.unusedVariables false
set_option linter.unusedSimpArgs false
namespace Go.Proofs.Ytdimnfdmnhiadaa.octetPuts
open Go.ChangeShapes Go.WideShapes Go.ChangeAt Go.RowKit Go.Abs Go.Abs.K
theorem own : ownKnob Try.prog.godebug = none := by kernel_rfl
theorem one_le {H : Type} (d : DataW H) : 1 ≤ Rows.uptoBulk d := by
  cases d with
  | lit l => cases l <;> simp [Rows.uptoBulk]
  | _ => simp [Rows.uptoBulk]
theorem length_le {H : Type} (l : List (DataW H)) : l.length ≤ Rows.uptoBulkAll l := by
  induction l with
  | nil => simp [Rows.uptoBulkAll]
  | cons x r ih => have := one_le x; simp only [Rows.uptoBulkAll, List.length_cons]; omega
/-- The first argument's length. -/
theorem short {H : Type} {enc : TypeId × Value → H} {W : World} {b0 : Nat} {args : Array Value} {ds : List (DataW H)} (hk : Rows.uptoSmall H ds = true)
    (hval : ∀ (j : Nat) t v, Try.f3.params[j]? = some t → args[j]? = some v → Value.okWide Try.prog W .any b0 t v)
    (hA : ∃ p, DataW.TrodAll enc Try.prog W 0 (fun _ => true) true Try.f3.params.toList args.toList ds p) : ∀ a n c, args.toList[0]? = some (.slice a n c) → n ≤ 1048576 := by
  intro a n c ha
  obtain ⟨p, hA⟩ := hA
  rw [Try.params3] at hA
  obtain ⟨v0, vs0, d0, ds0, p0, q0, hargs, rfl, rfl, h0, r0⟩ := trodAll_cons hA
  rw [hargs] at ha
  simp only [List.getElem?_cons_zero, Option.some.injEq] at ha
  subst ha
  obtain ⟨m, hm⟩ := h0
  have hb : Rows.uptoBulkAll (d0 :: ds0) ≤ 1048576 := of_decide_eq_true hk
  simp only [Rows.uptoBulkAll] at hb
  rcases DataW.trod_slice Try.underlying22 hm with ⟨hcs, _⟩ | ⟨ad, l, c', elems, rest, m', _, hcs, hx, _, _, _, _, hel, _⟩
  · simp [Value.cells] at hcs; omega
  · simp [Value.cells] at hcs
    obtain ⟨rfl, rfl, rfl⟩ := hcs
    simp only [Prod.mk.injEq] at hx
    obtain ⟨rfl, _⟩ := hx
    simp only [Rows.uptoBulk] at hb
    have hle := length_le (elems.map (·.1))
    rw [List.length_map] at hle
    omega
theorem law {H : Type} {enc : TypeId × Value → H} {W : World} {b0 : Nat} {args : Array Value} {ds : List (DataW H)} (hk : Rows.uptoSmall H ds = true)
    (hval : ∀ (j : Nat) t v, Try.f3.params[j]? = some t → args[j]? = some v → Value.okWide Try.prog W .any b0 t v)
    (hA : ∃ p, DataW.TrodAll enc Try.prog W 0 (fun _ => true) true Try.f3.params.toList args.toList ds p)
    (rvs : List (RV C)) (k0 : ToldAll C Try.prog [.row 5 [.int .u8], .one (.int .u64), .one (.int .i64)] rvs) (hR : R2 (RVA W) rvs args.toList) : ∃ φ, KnownAt C Try.prog 3 φ ∧ φ rvs = some [.fl (.one (.bool true))] := by
  obtain ⟨r0, rs0, rfl, h0, k1⟩ := k0.uncons
  obtain ⟨p0, rfl, g0, q0'⟩ := told_row h0
  obtain ⟨r1, rs1, rfl, h1, k2⟩ := k1.uncons
  obtain ⟨p1, rfl, q1⟩ := told_int h1
  obtain ⟨r2, rs2, rfl, h2, k3⟩ := k2.uncons
  obtain ⟨p2, rfl, q2⟩ := told_int h2
  obtain rfl := k3.unnil
  have hlen : p0.length ≤ 1048576 := by
    obtain ⟨v, vs, e, ⟨_, a, c, hv, _⟩, _⟩ := hR.cons_inv
    exact short hk hval hA a p0.length c (by rw [e, hv]; rfl)
  rw [u64_min, u64_max] at q1
  rw [i64_min, i64_max] at q2
  obtain ⟨M, hM⟩ := puts_true p0 p1 p2 hlen q1.1 q1.2 q2.1 q2.2
  exact ⟨_, K_law02_OctetPuts_ok M, mkK_true (p0, p1, p2, ()) (by kernel_rfl) hM rfl⟩
set_option maxRecDepth 100000 in
theorem lifted (os : Os) (started : os.Started) (H : Type) (enc : TypeId × Value → H) (F : Stop.Interp) :
    ReturnsInHanded {} Try.checked os 3 .any ((Rows.OpenSpec.upto Rows.octetPutsSpec).pre6 enc Try.prog Try.f3 Rows.octetPutsUptoRow.domain false) (((Rows.OpenSpec.upto Rows.octetPutsSpec).at F).post enc Try.prog Try.f3 false true false false) := by
  refine returnsInHanded_of_cond_sized (C := Try.checked) (s := Rows.OpenSpec.upto Rows.octetPutsSpec) (k := Rows.uptoSmall) rfl own started (by kernel_rfl) Try.func3
    (OpenSpec.witness (enc := enc) (C := Try.checked) (s := Rows.OpenSpec.upto Rows.octetPutsSpec) (k := Rows.uptoSmall) rfl false ⟨#[], #[.slice none 0 0, .int .u64 0, .int .i64 0], []⟩ 8 (by kernel_rfl) (by kernel_rfl) (by kernel_rfl)
      (x := ([.nil, .lit (.int .u64 0), .lit (.int .i64 0)], [], [])) (by kernel_rfl) rfl (by kernel_rfl)) ?_
  intro W base args ds gs before hval0 hW _ hk hsz0 _
  exact row_contract_at good full (f := 3) (fn := Try.f3) (s := Rows.octetPutsSpec) (ks := [.row 5 [.int .u8], .one (.int .u64), .one (.int .i64)]) (rt := 4) (by kernel_rfl) (by kernel_rfl) (by kernel_rfl) (by kernel_rfl) (by kernel_rfl) rfl
    (fun ds hd => match ds, hd with | [_, _, _], _ => rfl) hval0 hW hsz0 (fun hg hA rvs h1 h2 => law (by rw [hg, List.append_nil] at hk; exact hk) hval0 hA rvs h1 h2)
theorem proved : Rows.OctetPutsUptoSaid :=
  OpenClaim.holds_of_cond 3 Try.f3 rfl rfl rfl rfl rfl rfl rfl ⟨rfl, rfl, rfl, rfl, rfl⟩ rfl rfl rfl rfl rfl (by kernel_rfl) Try.func3 (by kernel_rfl)
    (of_decide_eq_true (by kernel_rfl)) (by unfold Func.isWrapper; first | (rw [if_pos (by decide +kernel)]; kernel_rfl) | (rw [if_neg (by decide +kernel)]; exact ⟨rfl, rfl⟩))
    (fun os started H enc _ F => lifted os started H enc F)
end Go.Proofs.Ytdimnfdmnhiadaa.octetPuts
namespace Go.Proofs.Ytdimnfdmnhiadaa
/-- The row, under a short name, for the claim. -/
theorem octetPuts_holds : Rows.OctetPutsUptoSaid := octetPuts.proved
end Go.Proofs.Ytdimnfdmnhiadaa
#print axioms Go.Proofs.Ytdimnfdmnhiadaa.octetPuts_holds
