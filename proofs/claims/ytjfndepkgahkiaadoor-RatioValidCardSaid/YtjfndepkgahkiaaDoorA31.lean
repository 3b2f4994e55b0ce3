/- THE ROW OF A LAW: from what is told of its function to what the row asks of its calls. -/
import Derived.Test.YtjfndepkgahkiaaDoorA30
import Derived.ChangeCalls
set_option linter.unusedVariables false
set_option linter.unusedSimpArgs false
namespace Go.Abs
open Go.RowKit Go.ChangeShapes
section
variable {C : Codec} {P : Program} {H : Type} {enc : TypeId × Value → H}

def ToldAll (C : Codec) (P : Program) : List ArgK → List (RV C) → Prop
  | [], [] => True
  | K :: Ks, r :: rs => Told C P K r ∧ ToldAll C P Ks rs
  | _, _ => False
theorem open_args (G : C.Good P) (hfull : Full C P) {W : World} {b0 : Nat} : ∀ {ts : List TypeId} {vs : List Value} {ds : List (DataW H)} {ps : List MemPlace} {ks : List ArgK}, ts.mapM (kindOf C P) = some ks → DataW.TrodAll enc P W 0 (fun _ => true) true ts vs ds ps →
    (∀ (j : Nat) t v, ts[j]? = some t → vs[j]? = some v → Value.okWide P W .any b0 t v) → (∀ m, m ∈ DataW.weightsEach P ts ds → m ≤ 140737488351232) → ∃ rvs, R2 (RVA W) rvs vs ∧ ToldAll C P ks rvs
  | [], vs, ds, ps, ks, hk, h, _, _ => by
    obtain ⟨rfl, _, _⟩ := trodAll_nil h
    simp only [List.mapM_nil, Option.pure_def, Option.some.injEq] at hk
    subst hk
    exact ⟨[], R2.nil, trivial⟩
  | t :: ts, vs, ds, ps, ks, hk, h, hv, hw => by
    obtain ⟨v, vs', d, ds', p, q, rfl, rfl, rfl, h1, h2⟩ := trodAll_cons h
    simp only [List.mapM_cons, Option.bind_eq_bind, Option.pure_def] at hk
    cases hK : kindOf C P t with
    | none => rw [hK] at hk; cases hk
    | some K =>
      rw [hK] at hk
      simp only [Option.bind_some] at hk
      cases hKs : ts.mapM (kindOf C P) with
      | none => rw [hKs] at hk; cases hk
      | some Ks =>
        rw [hKs] at hk
        simp only [Option.bind_some, Option.some.injEq] at hk
        subst hk
        simp only [DataW.weightsEach, List.mem_append] at hw
        obtain ⟨rv, e1, e2⟩ := open_arg G hfull hK (hv 0 t v rfl rfl) h1 (fun m hm => hw m (.inl hm))
        obtain ⟨rvs, e3, e4⟩ := open_args G hfull hKs h2 (fun j t' v' ht hv' => hv (j + 1) t' v' (by simpa using ht) (by simpa using hv')) (fun m hm => hw m (.inr hm))
        exact ⟨rv :: rvs, R2.cons e1 e3, e2, e4⟩
theorem trod_stays (hl : laidOutB P = true) {W W' : World} (hb : Below W.heap.size W W') : ∀ {ts : List TypeId} {vs : List Value} {ds : List (DataW H)} {ps : List MemPlace}, ts.all (fun t => P.readableRec t && decide (t < P.types.size)) = true →
    DataW.TrodAll enc P W 0 (fun _ => true) true ts vs ds ps → DataW.TrodAll enc P W' 0 (fun b => decide (b < W.heap.size)) true ts vs ds ps
  | [], vs, ds, ps, _, h => by
    obtain ⟨rfl, rfl, rfl⟩ := trodAll_nil h
    exact trodAll_mk0
  | t :: ts, vs, ds, ps, hr, h => by
    obtain ⟨v, vs', d, ds', p, q, rfl, rfl, rfl, h1, h2⟩ := trodAll_cons h
    simp only [List.all_cons, Bool.and_eq_true, decide_eq_true_eq] at hr
    have hlt : ∀ x, x ∈ p → x.block < W.heap.size := by
      obtain ⟨m, hm⟩ := h1
      exact DataW.trod_lt m _ _ _ hm
    exact trodAll_cons_mk (Below.trod hl hr.1.1 hr.1.2 h1 hb hlt) (trod_stays hl hb hr.2 h2)
theorem row_contract (G : C.Good P) (hfull : Full C P) {f : FuncId} {fn : Func} {s : ChangeSpec} {ks : List ArgK} {rt : TypeId}
    (hks : fn.params.toList.mapM (kindOf C P) = some ks) (hread : fn.params.toList.all (fun t => P.readableRec t && decide (t < P.types.size)) = true) (hl : laidOutB P = true)
    (hrt : fn.resultTypes = #[rt]) (hru : P.underlying rt = some .bool) (hvars : s.vars = [])
    (hspec : ∀ (ds : List (DataW H)), ds.length = fn.params.toList.length → s.fn H ds = { results := [.lit (.bool true)], args := ds })
    {W : World} {b0 : Nat} {args : Array Value} {ds gs : List (DataW H)} {before : List MemPlace}
    (law : ∀ rvs, ToldAll C P ks rvs → ∃ φ, KnownAt C P f φ ∧ φ rvs = some [.fl (.one (.bool true))])
    (hval : ∀ (j : Nat) t v, fn.params[j]? = some t → args[j]? = some v → Value.okWide P W .any b0 t v)
    (hW : DataW.Whole enc P fn.params.toList s.vars false W args.toList ds gs before) (hw : (DataW.weightsEach P (fn.params.toList ++ s.plain.varTypes P) (ds ++ gs)).all (· ≤ reachBytes) = true) (hinv : C.inv W := by exact True.intro) :
    Calls P f args W fun e W' => ∃ v, e = .returned v ∧ s.post enc P fn false true false false W args v W' := by
  have hW' := hW
  obtain ⟨p, q, hA, hV, hb, hfz, hnd⟩ := hW
  have hgs : gs = [] ∧ q = [] := by
    rw [hvars] at hV
    exact trodVars_none hV
  obtain ⟨rfl, rfl⟩ := hgs
  have hlen := trodAll_length hA
  have hvt : s.plain.varTypes P = [] := by
    unfold DataSpec.varTypes ChangeSpec.plain
    simp [hvars]
  rw [hvt, List.append_nil, List.append_nil] at hw
  obtain ⟨rvs, hr, ht⟩ := open_args G hfull hks hA (fun j t v h1 h2 => hval j t v (by simpa using h1) (by simpa using h2)) (fun m hm => by
    have := List.all_eq_true.1 hw m hm
    exact of_decide_eq_true this)
  obtain ⟨φ, hφ, he⟩ := law rvs ht
  have hc := hφ rvs _ W args.toList hinv he hr
  rw [Array.toArray_toList] at hc
  refine hc.mono fun e W' hx => ?_
  obtain ⟨us, rfl, hbel, hrv, _⟩ := hx
  obtain ⟨u, us', rfl, ⟨_, hu⟩, hus⟩ := hrv.cons_inv
  have := hus.nil_inv; subst this
  have hu' : u = .bool true := fr_bool hu
  subst hu'
  refine ⟨.bool true, rfl, ds, [], before, [], p, [], hW', ?_, ?_, ?_, hbel.frame _, fun h => by cases h⟩
  · rw [List.append_nil, hspec ds (by have := hlen.2; omega), hrt]
    exact trodAll_mk1 (shut_bool hru true)
  · rw [List.append_nil, hspec ds (by have := hlen.2; omega)]
    exact trod_stays hl hbel hread hA
  · rw [List.append_nil, hspec ds (by have := hlen.2; omega), hvars]; rfl
end
end Go.Abs
