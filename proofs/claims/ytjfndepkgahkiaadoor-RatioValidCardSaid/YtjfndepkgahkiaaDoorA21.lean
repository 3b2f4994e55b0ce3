/- ONE OPERATION OF A REGION, ITS GUARD LOOKED AT, CALLS TOO. -/
import Derived.Test.YtjfndepkgahkiaaDoorA38
import Derived.Orders
set_option linter.unusedVariables false
set_option linter.unusedSimpArgs false
namespace Go.Abs
open Go.RowKit
section
variable {C : Codec} {P : Program} {G : C.Good P} {w0 : Base C} {σ : St C} {as : List Act} {a : Act} {w w' : World} {pl : Pl} {n : Nat} {H : Nat → Blk C} {o : Oper} {R : Type}

theorem St.know_eq {σ : St C} {t : Nat} {b : Bool} (h : σ.T.getD t .dead = .fl (.one (.bool b))) : σ.know t b = σ := by
  have hlt : t < σ.T.length := by
    rcases Nat.lt_or_ge t σ.T.length with h1 | h1
    · exact h1
    · rw [List.getD_eq_getElem?_getD, List.getElem?_eq_none h1] at h; cases h
  rw [List.getD_eq_getElem?_getD, List.getElem?_eq_getElem hlt] at h
  simp only [Option.getD_some] at h
  unfold St.know
  show { σ with T := σ.T.set t (.fl (.one (.bool b))) } = σ
  rw [← h, List.set_getElem_self]
theorem tmp_bool (h : Rel G w0 σ as a w pl) {t : Nat} {b : Bool} (hb : σ.T.getD t .dead = .fl (.one (.bool b))) : a.tmps[t]? = some (.bool b) := by
  have := ev_avr h (.tmp t)
  simp only [St.ev, hb, Act.eval] at this
  have hv := fr_bool this
  have hlt : t < σ.T.length := by
    rcases Nat.lt_or_ge t σ.T.length with h1 | h1
    · exact h1
    · rw [List.getD_eq_getElem?_getD, List.getElem?_eq_none h1] at hb; cases hb
  have hlt2 : t < a.tmps.size := by have := h.tmps.1; simp only [Array.length_toList] at this; omega
  rw [Array.getD_eq_getD_getElem?, Array.getElem?_eq_getElem hlt2] at hv
  rw [Array.getElem?_eq_getElem hlt2]
  exact congrArg some hv
theorem guard_sound (h : Rel G w0 σ as a w pl) {ops : Array Oper} {k : Bool → St C → Option R} {r : R} (hk : guardK ops σ o k = some r) : k (Region.wanted o (yielded ops a.tmps)) σ = some r := by
  unfold guardK at hk
  unfold Region.wanted
  split at hk
  · rename_i hg; rw [hg]; exact hk
  · rename_i j want hg
    rw [hg]
    simp only
    split at hk
    · rename_i t ht
      split at hk
      · rename_i b hb
        have hy : yielded ops a.tmps j = some b := by unfold yielded; rw [ht]; simp only [Option.bind_some, tmp_bool h hb]
        rw [hy]
        cases b
        · simp only [Bool.cond_false] at hk; rw [St.know_eq hb] at hk; exact hk
        · simp only [Bool.cond_true] at hk; rw [St.know_eq hb] at hk; exact hk
      · rename_i b hb
        have hy : yielded ops a.tmps j = some b := by unfold yielded; rw [ht]; simp only [Option.bind_some, tmp_bool h hb]
        rw [hy]
        cases b
        · simp only [Bool.cond_false] at hk; rw [St.know_eq hb] at hk; exact hk
        · simp only [Bool.cond_true] at hk; rw [St.know_eq hb] at hk; exact hk
      · rename_i hb
        have hv := ev_avr h (.tmp t)
        simp only [St.ev, hb, Act.eval] at hv
        obtain ⟨vs, hv, _⟩ := hv
        have hy : yielded ops a.tmps j = none := by
          unfold yielded
          rw [ht]
          simp only [Option.bind_some]
          rw [Array.getD_eq_getD_getElem?] at hv
          cases hq : a.tmps[t]? with
          | none => rfl
          | some u =>
            rw [hq] at hv
            simp only [Option.getD_some] at hv
            subst hv
            rfl
        rw [hy]
        exact hk
      · cases hk
    · cases hk
/-- What is asked of the program as a whole. -/
structure Fit (P : Program) : Prop where
  mixed : P.follows .mixedOrders = true
  names : ∀ (f : FuncId) (fn : Func), P.funcs[f]? = some fn → (fn.name == "runtime.NumGoroutine") = false
def CallOk (G : C.Good P) (call : Callee C R) : Prop := ∀ f vs σ k r, call f vs σ k = some r → (∃ fn c, P.funcs[f]? = some fn ∧ fn.body = some c) ∧
  ∀ w0 as a w pl vals, Rel G w0 σ as a w pl → R2 (AVR pl) vs vals → Calls P f vals.toArray w fun e w' => ∃ v, e = .returned v ∧ ∃ x σ' pl', Rel G w0 σ' as a w' pl' ∧ AVR pl' x v ∧ k x σ' = some r
/-- The same of a function whose answer is a function. -/
def KnownAtF (C : Codec) (P : Program) (f : FuncId) (φ : List (RV C) → Option (List (RV C))) : Prop :=
  ∀ l k n w vs, C.inv w → φ l = some [.fl (.one (.int k n))] → R2 (RVA w) l vs → Calls P f vs.toArray w fun e w' => ∃ g : Nat, n = (g : Int) ∧ e = .returned (.func (.func g) #[] #[]) ∧ Below w.heap.size w w'
def KnownFor (C : Codec) (P : Program) (f : FuncId) (φ : KnownF C) : Prop := match φ.fns, φ.eat with
  | [], [] => KnownAt C P f fun l => φ.run _ l some
  | [], E => KnownAtE C P f E fun l => φ.run _ l some
  | _, _ => KnownAtF C P f fun l => φ.run _ l some
def KnownOk (C : Codec) (P : Program) (Ψ : Known C) : Prop := ∀ f φ, Ψ f = some φ → KnownFor C P f φ
theorem callOk_none (G : C.Good P) : CallOk G (noCall : Callee C R) := fun f vs σ k r h => by cases h

theorem run_call (hF : Fit P) {c : Call} {f : Operand} (ho : o.op = .call c) (hc : c.callee = .value f) {g : FuncId} {b cap : Array Value} (hf : a.eval f = .func (.func g) b cap) {fn : Func} {body : Code} (hfn : P.funcs[g]? = some fn) (hb : fn.body = some body) :
    (execOp a.eval o).run P w = .ok (.enter g (b ++ c.args.map a.eval ++ cap)) w := by
  have hname : fn.name ≠ "runtime.NumGoroutine" := by simpa using hF.names g fn hfn
  simp [execOp, ho, resolve, hc, hf, Deferred.ofValue, invoke, callFunc, hfn, hb, hname]
theorem calleeOf_spec {c : Call} {f : Operand} (h : Rel G w0 σ as a w pl) (ho : o.op = .call c) (hc : c.callee = .value f) {g : FuncId} {vs : List AV} (hv : calleeOf (σ.vals o.op) = some (g, vs)) :
    ∃ b cap, a.eval f = .func (.func g) b cap ∧ R2 (AVR pl) vs (b ++ c.args.map a.eval ++ cap).toList := by
  have e : σ.vals o.op = σ.ev f :: c.args.toList.map σ.ev := by
    simp [St.vals, ho, Op.operands, Call.operands, hc]
  rw [e] at hv
  have hf := ev_avr h f
  generalize σ.ev f = af at hv hf
  rcases af with _ | _ | ⟨g', x, y⟩ <;> try (simp [calleeOf] at hv; done)
  simp only [calleeOf, Option.some.injEq, Prod.mk.injEq] at hv
  obtain ⟨rfl, rfl⟩ := hv
  obtain ⟨b, cap, h1, h2, h3⟩ := hf
  refine ⟨b, cap, h1, ?_⟩
  have h4 : ∀ {xs : List Fl} {vs : List Value}, R2 (FR pl) xs vs → R2 (AVR pl) (xs.map .fl) vs := fun h => h.map_left fun x y _ hxy => hxy
  rw [Array.toList_append, Array.toList_append, Array.toList_map]
  exact ((h4 h2).append (vals_avr h c.args.toList)).append (h4 h3)
theorem isCall_spec {op : Op} (h : isCall op = true) : ∃ c f, op = .call c ∧ c.callee = .value f := by
  unfold isCall at h
  split at h
  · rename_i f _ _; exact ⟨_, f, rfl, rfl⟩
  · cases h
theorem put_defers {d : Option Tmp} {v : Value} : (a.put d v).defers = a.defers := by cases d <;> rfl

theorem apply_pure (σ : St C) (d : Option Tmp) (x : AV) : σ.apply d { v := x } = σ.put d x := by cases d <;> rfl
/-- What follows an operation that was carried out. -/
def After (G : C.Good P) (w0 : Base C) (as : List Act) (k : St C → Ann → Option R) (r : R) (a' : Act) (w' : World) : Prop :=
  ∃ σ' an pl', Rel G w0 σ' as a' w' pl' ∧ a'.defers = [] ∧ k σ' an = some r
theorem known_wp (hF : Fit P) (h : Rel G w0 σ as a w pl) (hS : Seen H σ.blk) (hn : σ.blk n = .gone ∧ n + 1 < σ.H.length ∧ σ.blk (n + 1) = .gone) (hd : a.defers = []) (hc : isCall o.op = true) {f : FuncId} {vs : List AV} (hv : calleeOf (σ.vals o.op) = some (f, vs))
    {φ : KnownF C} (hφ : KnownAt C P f fun l => φ.run _ l some) {k : Res C → Option R} {r : R} (hk : knownK P n H f φ vs k = some r) {Q : Exit → Act → World → Prop} {K : Act → World → Prop}
    (hK : ∀ rr v w' pl', k rr = some r → Rel G w0 (σ.apply o.dst rr) as (a.put o.dst v) w' pl' → K (a.put o.dst v) w') : o.wp P a w K Q := by
  obtain ⟨c, fo, ho, hc⟩ := isCall_spec hc
  obtain ⟨b, cap, hf, hargs⟩ := calleeOf_spec h ho hc hv
  unfold knownK at hk
  split at hk
  · rename_i fn hfn
    split at hk
    · rename_i body l hb hl
      rw [φ.nat] at hk
      cases hp : φ.run _ l some with
      | none => rw [hp] at hk; cases hk
      | some rs =>
        rw [hp] at hk
        simp only [Option.bind_some] at hk
        obtain ⟨h2, h3⟩ := cond_none hk
        have h2 : rowsIn rs ≤ 2 := Nat.le_of_ble_eq_true h2
        unfold Oper.wp
        rw [run_call hF ho hc hf hfn hb, Oper.upon_enter]
        have hcalls := hφ l rs w _ (h.mem.below.inv G) hp (toRVs_sound hS h.mem hargs hl)
        rw [Array.toArray_toList] at hcalls
        refine hcalls.mono fun e w' he => ?_
        obtain ⟨us, rfl, hbel, hr, hdis⟩ := he
        obtain ⟨pl', hrel⟩ := rel_known (n := n) h o.dst (fun i hi => by
          have : i = 0 ∨ i = 1 := by omega
          rcases this with rfl | rfl
          · exact ⟨hn.1, by have := hn.2.1; omega⟩
          · exact ⟨hn.2.2, hn.2.1⟩) hbel hr hdis
        exact hK _ _ w' pl' h3 hrel
    · cases hk
  · cases hk
theorem eat_wp (hF : Fit P) (h : Rel G w0 σ as a w pl) (hS : Seen H σ.blk) (hn : σ.blk n = .gone ∧ n + 1 < σ.H.length ∧ σ.blk (n + 1) = .gone) (hd : a.defers = []) (hc : isCall o.op = true) {f : FuncId} {vs : List AV} (hv : calleeOf (σ.vals o.op) = some (f, vs))
    {φ : KnownF C} (hφ : KnownAtE C P f φ.eat fun l => φ.run _ l some) {k : Res C → Option R} {r : R} (hk : eatK P n H f φ vs k = some r) {Q : Exit → Act → World → Prop} {K : Act → World → Prop}
    (hK : ∀ rr v w' pl', k rr = some r → Rel G w0 (σ.apply o.dst rr) as (a.put o.dst v) w' pl' → K (a.put o.dst v) w') : o.wp P a w K Q := by
  obtain ⟨c, fo, ho, hc⟩ := isCall_spec hc
  obtain ⟨b, cap, hf, hargs⟩ := calleeOf_spec h ho hc hv
  unfold eatK at hk
  split at hk
  · rename_i fn hfn
    split at hk
    · rename_i body l q hb hl
      obtain ⟨h1, hk2⟩ := cond_none hk
      simp only [Bool.and_eq_true] at h1
      rw [φ.nat] at hk2
      cases hp : φ.run _ l some with
      | none => rw [hp] at hk2; cases hk2
      | some rs =>
        rw [hp] at hk2
        simp only [Option.bind_some] at hk2
        obtain ⟨h2, h3⟩ := cond_none hk2
        have h2 : rowsIn rs ≤ 2 := Nat.le_of_ble_eq_true h2
        split at h3
        · rename_i bu hbu
          obtain ⟨xs, bl, fn', hin, hfn', hcall⟩ := hφ l rs hp
          have : fn' = fn := by rw [hfn] at hfn'; injection hfn' with hfn'; exact hfn'.symm
          subst this
          obtain ⟨w1, pl1, hm1, hav, post⟩ := eat_rel (n := n) (rts := fn'.resultTypes.toList) h hS hl hargs h1.1 (Nat.le_of_ble_eq_true h1.2) hin (fun i hi => by
            have : i = 0 ∨ i = 1 := by omega
            rcases this with rfl | rfl
            · exact ⟨hn.1, by have := hn.2.1; omega⟩
            · exact ⟨hn.2.2, hn.2.1⟩)
          unfold Oper.wp
          rw [run_call hF ho hc hf hfn hb, Oper.upon_enter]
          have hcalls := hcall G w1 w pl1 _ hm1 hav
          rw [Array.toArray_toList] at hcalls
          refine hcalls.mono fun e w' he => ?_
          obtain ⟨v, rfl, x, σ', pl', hm', hx, hT, hfin⟩ := he
          obtain ⟨pl2, hrel⟩ := post w' v x σ' pl' rs bu o.dst hm' hx hT hfin h2 hbu
          exact hK _ _ w' pl2 h3 hrel
        · cases h3
    · cases hk
  · cases hk
theorem splitF_spec {R : Type} {n : Int} {k : FuncId → Option R} {r : R} : ∀ {l : List FuncId}, splitF l n k = some r → ∃ f : Nat, n = (f : Int) ∧ k f = some r
  | [], h => by cases h
  | f :: l, h => by
    simp only [splitF] at h
    by_cases e : n = (f : Int)
    · rw [decide_eq_true e] at h
      exact ⟨f, e, h⟩
    · rw [decide_eq_false e] at h
      exact splitF_spec h
theorem fn_wp (hF : Fit P) (h : Rel G w0 σ as a w pl) (hS : Seen H σ.blk) (hc : isCall o.op = true) {f : FuncId} {vs : List AV} (hv : calleeOf (σ.vals o.op) = some (f, vs))
    {φ : KnownF C} (hφ : KnownAtF C P f fun l => φ.run _ l some) {k : Res C → Option R} {r : R} (hk : fnK P H f φ vs k = some r) {Q : Exit → Act → World → Prop} {K : Act → World → Prop}
    (hK : ∀ rr v w' pl', k rr = some r → Rel G w0 (σ.apply o.dst rr) as (a.put o.dst v) w' pl' → K (a.put o.dst v) w') : o.wp P a w K Q := by
  obtain ⟨c, fo, ho, hc⟩ := isCall_spec hc
  obtain ⟨b, cap, hf, hargs⟩ := calleeOf_spec h ho hc hv
  unfold fnK at hk
  split at hk
  · rename_i fn hfn
    split at hk
    · rename_i body l hb hl
      rw [φ.nat] at hk
      cases hp : φ.run _ l some with
      | none => rw [hp] at hk; cases hk
      | some rs =>
        rw [hp] at hk
        simp only [Option.bind_some] at hk
        split at hk
        · rename_i ki n0
          obtain ⟨g, hg, hk2⟩ := splitF_spec hk
          unfold Oper.wp
          rw [run_call hF ho hc hf hfn hb, Oper.upon_enter]
          have hcalls := hφ l ki n0 w _ (h.mem.below.inv G) hp (toRVs_sound hS h.mem hargs hl)
          rw [Array.toArray_toList] at hcalls
          refine hcalls.mono fun e w' he => ?_
          obtain ⟨g', hg', rfl, hbel⟩ := he
          have : g' = g := by omega
          subst this
          have hrel : Rel G w0 σ as a w' pl := ⟨h.mem.grown (below_grown hbel), h.tmps, h.outer⟩
          exact hK _ _ w' pl hk2 (rel_pure hrel o.dst (x := .clo g' [] []) (v := .func (.func g') #[] #[]) ⟨#[], #[], rfl, R2.nil, R2.nil⟩)
        · cases hk
    · cases hk
  · cases hk
theorem kwn_wp (hF : Fit P) {Ψ : Known C} (hΨ : KnownOk C P Ψ) (h : Rel G w0 σ as a w pl) (hS : Seen H σ.blk) (hn : σ.blk n = .gone ∧ n + 1 < σ.H.length ∧ σ.blk (n + 1) = .gone) (hd : a.defers = []) (hc : isCall o.op = true) {f : FuncId} {vs : List AV} (hv : calleeOf (σ.vals o.op) = some (f, vs))
    {φ : KnownF C} (hφ : Ψ f = some φ) {k : Res C → Option R} {r : R} (hk : kwnK P n H f φ vs k = some r) {Q : Exit → Act → World → Prop} {K : Act → World → Prop}
    (hK : ∀ rr v w' pl', k rr = some r → Rel G w0 (σ.apply o.dst rr) as (a.put o.dst v) w' pl' → K (a.put o.dst v) w') : o.wp P a w K Q := by
  have h0 := hΨ f φ hφ
  unfold KnownFor at h0
  unfold kwnK at hk
  cases hfn : φ.fns with
  | nil =>
    rw [hfn] at h0 hk
    cases he : φ.eat with
    | nil =>
      rw [he] at h0 hk
      exact known_wp hF h hS hn hd hc hv h0 hk hK
    | cons x E =>
      rw [he] at h0 hk
      exact eat_wp hF h hS hn hd hc hv (by rw [he]; exact h0) hk hK
  | cons x l =>
    rw [hfn] at h0 hk
    exact fn_wp hF h hS hc hv h0 hk hK
theorem step_sound (hF : Fit P) {Ψ : Known C} (hΨ : KnownOk C P Ψ) {call : Callee C R} (hcall : CallOk G call) (h : Rel G w0 σ as a w pl) (hd : a.defers = []) {ops : Array Oper} {i : Nat} (hi : ops[i]? = some o)
    (hm : makes o.op = true → σ.blk n = .gone ∧ n + 1 < σ.H.length ∧ σ.blk (n + 1) = .gone) {k : St C → Ann → Option R} {r : R} (hk : stepK P Ψ call n ops σ o k = some r) {Q : Exit → Act → World → Prop} :
    wpOp P ops Q i (After G w0 as k r) a w := by
  have hg := guard_sound h hk
  unfold wpOp
  simp only [hi]
  cases hw : Region.wanted o (yielded ops a.tmps) with
  | false =>
    rw [hw] at hg
    simp only [Bool.false_eq_true, if_false]
    refine ⟨σ.put o.dst (.tup []), _, pl, ?_, by rw [put_defers]; exact hd, hg⟩
    have := rel_pure h o.dst (x := .tup []) (v := undef) ⟨#[], rfl, R2.nil⟩
    rwa [apply_pure] at this
  | true =>
    rw [hw] at hg
    simp only [if_true]
    refine .inl ?_
    simp only at hg
    split at hg
    · have hnat := hg
      rw [core_nat] at hnat
      cases hcr : coreK P n (σ.view o.op (σ.vals o.op)) o.op (σ.vals o.op) some with
      | none => rw [hcr] at hnat; cases hnat
      | some rr =>
        rw [hcr] at hnat
        simp only [Option.bind_some] at hnat
        obtain ⟨v, w', pl', hdoes, hrel⟩ := core_sound h (seen_view σ o.op (σ.vals o.op)) (fun hmk => ⟨(hm hmk).1, by have := (hm hmk).2.1; omega⟩) hcr
        have hfin : After G w0 as k r (a.put o.dst v) w' := ⟨_, _, pl', hrel, by rw [put_defers]; exact hd, hnat⟩
        unfold Oper.wp
        rcases hdoes with hrun | ⟨hrun, rfl⟩
        · rw [hrun, Oper.upon_value]; exact hfin
        · rw [hrun, Oper.upon_skip]; exact hfin
    · rename_i hic
      have hmk : makes o.op = true := by
        obtain ⟨c, f, ho, hc⟩ := isCall_spec hic
        obtain ⟨callee, args, argTypes⟩ := c
        simp only at hc; subst hc
        rw [ho]; rfl
      split at hg
      · rename_i f vs hv
        split at hg
        · rename_i φ hφ
          exact kwn_wp hF hΨ h (seen_view σ o.op (σ.vals o.op)) (hm hmk) hd hic hv hφ hg (fun rr v w' pl' hk' hrel => ⟨_, _, pl', hrel, by rw [put_defers]; exact hd, hk'⟩)
        · rename_i hφ
          obtain ⟨⟨fn, body, hfn, hb⟩, hcl⟩ := hcall f vs σ _ r hg
          obtain ⟨c, fo, ho, hc⟩ := isCall_spec hic
          obtain ⟨b, cap, hf, hargs⟩ := calleeOf_spec h ho hc hv
          unfold Oper.wp
          rw [run_call hF ho hc hf hfn hb, Oper.upon_enter]
          have := hcl w0 as a w pl _ h hargs
          rw [Array.toArray_toList] at this
          refine this.mono fun e w' he => ?_
          obtain ⟨v, rfl, x, σ', pl', hrel, hx, hk'⟩ := he
          refine ⟨_, _, pl', ?_, by rw [put_defers]; exact hd, hk'⟩
          have := rel_pure hrel o.dst (x := x) (v := v) hx
          rwa [apply_pure] at this
      · cases hg
end
end Go.Abs
