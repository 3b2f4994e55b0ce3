/- THE ROW OF A LAW, its arguments' values at hand (for a statement with a bound of its own). -/
import Derived.Test.YtdimnfdmnhiadaaA31
set_option linter.unusedVariables false
set_option linter.unusedSimpArgs false
namespace Go.Abs
open Go.RowKit Go.ChangeShapes
section
variable {C : Codec} {P : Program} {H : Type} {enc : TypeId × Value → H}
theorem row_contract_at (G : C.Good P) (hfull : Full C P) {f : FuncId} {fn : Func} {s : ChangeSpec} {ks : List ArgK} {rt : TypeId}
    (hks : fn.params.toList.mapM (kindOf C P) = some ks) (hread : fn.params.toList.all (fun t => P.readableRec t && decide (t < P.types.size)) = true) (hl : laidOutB P = true)
    (hrt : fn.resultTypes = #[rt]) (hru : P.underlying rt = some .bool) (hvars : s.vars = [])
    (hspec : ∀ (ds : List (DataW H)), ds.length = fn.params.toList.length → s.fn H ds = { results := [.lit (.bool true)], args := ds })
    {W : World} {b0 : Nat} {args : Array Value} {ds gs : List (DataW H)} {before : List MemPlace}
    (hval : ∀ (j : Nat) t v, fn.params[j]? = some t → args[j]? = some v → Value.okWide P W .any b0 t v)
    (hW : DataW.Whole enc P fn.params.toList s.vars false W args.toList ds gs before) (hw : (DataW.weightsEach P (fn.params.toList ++ s.plain.varTypes P) (ds ++ gs)).all (· ≤ reachBytes) = true)
    (law : gs = [] → (∃ p, DataW.TrodAll enc P W 0 (fun _ => true) true fn.params.toList args.toList ds p) → ∀ rvs, ToldAll C P ks rvs → R2 (RVA W) rvs args.toList → ∃ φ, KnownAt C P f φ ∧ φ rvs = some [.fl (.one (.bool true))]) :
    Calls P f args W fun e W' => ∃ v, e = .returned v ∧ s.post enc P fn false true false false W args v W' := by
  have hW' := hW
  obtain ⟨p, q, hA, hV, hb, hfz, hnd⟩ := hW
  have hgs : gs = [] ∧ q = [] := by
    rw [hvars] at hV
    exact trodVars_none hV
  obtain ⟨rfl, rfl⟩ := hgs
  have hlen := trodAll_length hA
  have hvt : s.plain.varTypes P = [] := by
    unfold DataSpec.varTypes ChangeSpec.plain
    simp [hvars]
  rw [hvt, List.append_nil, List.append_nil] at hw
  obtain ⟨rvs, hr, ht⟩ := open_args G hfull hks hA (fun j t v h1 h2 => hval j t v (by simpa using h1) (by simpa using h2)) (fun m hm => by
    have := List.all_eq_true.1 hw m hm
    exact of_decide_eq_true this)
  obtain ⟨φ, hφ, he⟩ := law rfl ⟨p, hA⟩ rvs ht hr
  have hc := hφ rvs _ W args.toList he hr
  rw [Array.toArray_toList] at hc
  refine hc.mono fun e W' hx => ?_
  obtain ⟨us, rfl, hbel, hrv, _⟩ := hx
  obtain ⟨u, us', rfl, ⟨_, hu⟩, hus⟩ := hrv.cons_inv
  have := hus.nil_inv; subst this
  have hu' : u = .bool true := fr_bool hu
  subst hu'
  refine ⟨.bool true, rfl, ds, [], before, [], p, [], hW', ?_, ?_, ?_, hbel.frame _, fun h => by cases h⟩
  · rw [List.append_nil, hspec ds (by have := hlen.2; omega), hrt]
    exact trodAll_mk1 (shut_bool hru true)
  · rw [List.append_nil, hspec ds (by have := hlen.2; omega)]
    exact trod_stays hl hbel hread hA
  · rw [List.append_nil, hspec ds (by have := hlen.2; omega), hvars]; rfl
end
end Go.Abs
