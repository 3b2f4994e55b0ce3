/- FUNCTIONS: what is told of a function's run is true. -/
import Derived.Test.YtjfndepkgahkiaaDoorA28
set_option linter.unusedVariables false
set_option linter.unusedSimpArgs false
namespace Go.Abs
open Go.RowKit
section
variable {C : Codec} {P : Program} {G : C.Good P} {Ψ : Known C} {R : Type} {w0 : Base C} {as : List Act} {σ : St C} {a : Act} {w : World} {pl : Pl}

def resRun (tmps : Array Value) : ResultVar → Sem Value
  | .tmp t => pure (tmps.getD t undef)
  | .cell b t => do loadVar t (← asAddr (tmps.getD b undef))
theorem resK_sound (h : Rel G w0 σ as a w pl) : ∀ {rs : List ResultVar} {l : List Fl}, resK P σ rs = some l →
    ∃ us, (rs.mapM (resRun a.tmps)).run P w = .ok us w ∧ R2 (FR pl) l us
  | [], l, hk => by
    simp only [resK, Option.some.injEq] at hk; subst hk
    exact ⟨[], rfl, R2.nil⟩
  | .tmp t :: rs, l, hk => by
    simp only [resK] at hk
    split at hk
    · rename_i x l' hx hl
      injection hk with hk; subst hk
      obtain ⟨us, h1, h2⟩ := resK_sound h hl
      have hv := ev_avr h (.tmp t)
      simp only [St.ev, hx, Act.eval] at hv
      refine ⟨a.tmps.getD t undef :: us, ?_, R2.cons hv h2⟩
      simp only [List.mapM_cons, resRun, Sem.run_bind, Sem.run_pure, Result.andThen_ok, h1]
    · cases hk
  | .cell b t :: rs, l, hk => by
    simp only [resK] at hk
    split at hk
    · rename_i s l' hx hl
      split at hk
      · rename_i cs off hp
        split at hk
        · rename_i x hc
          injection hk with hk; subst hk
          obtain ⟨us, h1, h2⟩ := resK_sound h hl
          have hv := ev_avr h (.tmp b)
          simp only [St.ev, hx, Act.eval] at hv
          obtain ⟨g, base, vs, e1, e2, e3⟩ := peek_reads (fun _ _ => rfl) h.mem hv hp
          obtain ⟨T, hT, hl', hfr, h4⟩ := cut_sound e2 hc
          have hld := run_loadVal (P := P) hT hl' (fun hb => (h4 hb).1) e3
          simp only [Instr.loadAt, Instr.sureAddr, Sem.run_bind, Sem.run_pure, Result.andThen_ok] at hld
          refine ⟨_ :: us, ?_, R2.cons hfr h2⟩
          simp only [List.mapM_cons, resRun, Sem.run_bind, e1, asAddr, Sem.run_pure, Result.andThen_ok, hld, h1]
        · cases hk
      · cases hk
    · cases hk
theorem results_eq (fn : Func) (tmps : Array Value) : results fn tmps = (fn.results.mapM (resRun tmps) >>= fun vs => pure (if h : vs.size = 1 then vs[0] else .tuple vs)) := by
  unfold results
  congr 1
theorem results_run {fn : Func} {us : List Value} (h : (fn.results.toList.mapM (resRun a.tmps)).run P w = .ok us w) : (results fn a.tmps).run P w = .ok (tupVal us) w := by
  rw [results_eq, Sem.run_bind, Array.mapM_eq_mapM_toList]
  have : ((List.toArray <$> fn.results.toList.mapM (resRun a.tmps) : Sem (Array Value))).run P w = .ok us.toArray w := by
    simp only [map_eq_pure_bind, Sem.run_bind]
    rw [h]
    rfl
  rw [this]
  simp only [Result.andThen_ok]
  match us with
  | [] => rfl
  | [u] => rfl
  | u :: u' :: l => simp [tupVal]
theorem handV_sound (h : Rel G w0 σ as a w pl) {fn : Func} {v : AV} (hv : handV P σ fn.results.toList = some v) : ∃ u, (results fn a.tmps).run P w = .ok u w ∧ AVR pl v u := by
  have gen : ∀ {v : AV}, (resK P σ fn.results.toList).map tupOf = some v → ∃ u, (results fn a.tmps).run P w = .ok u w ∧ AVR pl v u := fun {v} hm => by
    cases hk : resK P σ fn.results.toList with
    | none => rw [hk] at hm; cases hm
    | some l =>
      rw [hk] at hm
      obtain ⟨us, e1, e2⟩ := resK_sound h hk
      have hm : tupOf l = v := by simpa using hm
      subst hm
      exact ⟨tupVal us, results_run e1, tupVal_av e2⟩
  generalize hrs : fn.results.toList = rs at hv
  rw [hrs] at gen
  unfold handV at hv
  split at hv
  · rename_i t
    split at hv
    · rename_i g x y hx
      have h1 := ev_avr h (.tmp t)
      simp only [St.ev, hx, Act.eval] at h1
      injection hv with hv
      subst hv
      refine ⟨tupVal [a.tmps.getD t undef], results_run ?_, h1⟩
      rw [hrs]
      simp only [List.mapM_cons, List.mapM_nil, resRun, Sem.run_bind, Sem.run_pure, Result.andThen_ok]
    · exact gen hv
  · exact gen hv
theorem callK_sound (hF : Fit P) (hΨ : KnownOk C P Ψ) {keep : FuncId → Nat → List Nat} {m : Nat} : ∀ d, CallOk G (callK (R := R) P Ψ keep m d : Callee C R)
  | 0, f, vs, σ, k, r, h => by cases h
  | d + 1, f, vs, σ, k, r, h => by
    simp only [callK] at h
    split at h
    · rename_i fn hfn
      split at h
      · rename_i c hb
        refine ⟨⟨fn, c, hfn, hb⟩, fun w0 as a w pl vals hrel hvs => ?_⟩
        refine calls_of_wp hfn hb (wp_mono (code_sound (G := G) hF hΨ (callK_sound hF hΨ d) (w0 := w0) (as := a :: as) c _ _ _ w pl h ⟨hrel.mem, ?_, R2.cons hrel.tmps hrel.outer⟩ rfl) fun e a' w' he => ?_)
        · have h1 : R2 (AVR pl) (enterT fn vs) (vals ++ List.replicate (fn.ntmps - vals.length) undef) := by
            unfold enterT
            rw [hvs.1]
            refine hvs.append ⟨by simp, fun i x y hx hy => ?_⟩
            rw [List.getElem?_replicate] at hx
            split at hx
            · injection hx with hx; subst hx; exact AVR.dead y
            · cases hx
          simpa using h1
        · obtain ⟨σ', pl', h1, h2, h3⟩ := he
          have fin : (match handV P σ' fn.results.toList, σ'.F with
              | some l, T :: F => k l { T, F, H := σ'.H }
              | _, _ => none) = some r → a'.defers = [] ∧ ∃ v, (results fn a'.tmps).run P w' = .ok v w' ∧ ∃ v_1, Ending.returned v = Ending.returned v_1 ∧ ∃ x σ' pl', Rel G w0 σ' as a w' pl' ∧ AVR pl' x v_1 ∧ k x σ' = some r := fun hr => by
            split at hr
            · rename_i l T F hl hFF
              obtain ⟨u, e1, e2⟩ := handV_sound h1 hl
              have ho := h1.outer
              rw [hFF] at ho
              exact ⟨h2, u, e1, u, rfl, l, { T, F, H := σ'.H }, pl', ⟨h1.mem, ho.head, ho.tail⟩, e2, hr⟩
            · cases hr
          unfold leaveK at h3
          cases e with
          | normal => exact fin h3
          | ret => exact fin h3
          | _ => cases h3
      · cases h
    · cases h

/-! ### A function by itself -/
theorem inRV_rel (G : C.Good P) {base : Nat} : ∀ {args : List (RV C)} {vs : List Value} (n : Nat), R2 (RVA w) args vs → ∃ rows : List Value, rows.length = (inRV n args).2.length ∧
    ∀ pl : Pl, (∀ i v, rows[i]? = some v → pl (n + i) = some v) → R2 (AVR pl) (inRV n args).1 vs ∧ ∀ i x, (inRV n args).2[i]? = some x → BlkR G base pl w (n + i) x ∧ own x = false
  | [], vs, n, h => by
    have := h.nil_inv; subst this
    exact ⟨[], rfl, fun pl _ => ⟨R2.nil, fun i x hx => by simp [inRV] at hx⟩⟩
  | .fl x :: args, vs, n, h => by
    obtain ⟨v, vs', rfl, hv, h'⟩ := h.cons_inv
    obtain ⟨rows, h1, h2⟩ := inRV_rel G (base := base) n h'
    refine ⟨rows, h1, fun pl hpl => ?_⟩
    obtain ⟨h3, h4⟩ := h2 pl hpl
    exact ⟨R2.cons (plain_fr hv.1 hv.2) h3, h4⟩
  | .row e xs :: args, vs, n, h => by
    obtain ⟨v, vs', rfl, ⟨hhas, a, c, hv, hc, hmax, hnone, hblk, hr⟩, h'⟩ := h.cons_inv
    obtain ⟨rows, h1, h2⟩ := inRV_rel G (base := base) (n + 1) h'
    refine ⟨v :: rows, by simp [inRV, h1], fun pl hpl => ?_⟩
    obtain ⟨h3, h4⟩ := h2 pl (fun i u hu => by
      have := hpl (i + 1) u (by simpa using hu)
      rwa [show n + 1 + i = n + (i + 1) by omega])
    have hp0 := hpl 0 v rfl
    rw [Nat.add_zero] at hp0
    refine ⟨R2.cons ⟨⟨a, xs.length, c, hp0.trans (by rw [hv]), hv⟩, by rw [hv]; rfl⟩ h3, fun i x hx => ?_⟩
    cases i with
    | zero =>
      simp only [inRV, List.getElem?_cons_zero, Option.some.injEq] at hx
      subst hx
      rw [Nat.add_zero]
      exact ⟨⟨hhas, a, c, hp0.trans (by rw [hv]), hc, hmax, hnone, hblk, hr⟩, rfl⟩
    | succ i =>
      have := h4 i x (by simpa [inRV] using hx)
      rwa [show n + (i + 1) = n + 1 + i by omega]
theorem rvo_base {base : Nat} {rs : List (RV C)} {us : List Value} (h : R2 (RVO w 0) rs us) (hb : ∀ u, u ∈ us → ∀ g, blkOf u = some g → base ≤ g) : R2 (RVO w base) rs us := by
  refine ⟨h.1, fun i x y hx hy => ?_⟩
  have h1 := h.2 i x y hx hy
  cases x with
  | fl x => exact h1
  | row e xs =>
    refine ⟨h1.1, h1.2.1, ?_⟩
    rcases h1.2.2 with h2 | ⟨g, cap, cur, h2, h3, h4⟩
    · exact .inl h2
    · exact .inr ⟨g, cap, cur, h2, hb y (List.mem_of_getElem? hy) g (by rw [h2]; rfl), h4⟩
/-- A FUNCTION'S CONTRACT: what is told of it. -/
theorem fun_sound (G : C.Good P) (hF : Fit P) (hΨ : KnownOk C P Ψ) (keep : FuncId → Nat → List Nat) (m d : Nat) (f : FuncId) : KnownAt C P f (funK P Ψ keep m d f) := by
  intro l rs w vs hinv hk hl
  unfold funK at hk
  split at hk
  · rename_i fn hfn
    obtain ⟨rows, hrl, hrows⟩ := inRV_rel G (base := 0) 0 hl
    obtain ⟨hav, hbk⟩ := hrows (fun i => rows[i]?) (fun i v hv => by rw [Nat.zero_add]; exact hv)
    have hblk : ∀ b, BlkR G 0 (fun i => rows[i]?) w b ((inRV 0 l).2.getD b .gone) ∧ own ((inRV 0 l).2.getD b .gone) = false := fun b => by
      rw [List.getD_eq_getElem?_getD]
      cases hb : (inRV 0 l).2[b]? with
      | none => exact ⟨by
          show rows[b]? = none
          rw [List.getElem?_eq_none]
          rw [hrl]
          exact List.getElem?_eq_none_iff.1 hb, rfl⟩
      | some x =>
        have := hbk b x hb
        rwa [Nat.zero_add] at this
    have hrel : Rel G (Base.of G w hinv) ({ T := [], F := [], H := (inRV 0 l).2 } : St C) [] { tmps := #[], defers := [] } w (fun i => rows[i]?) :=
      ⟨⟨Held.refl _ _ _ _, fun b => (hblk b).1, (fun b b' g hne ho => by have h0 := (hblk b).2; have ho : own ((inRV 0 l).2.getD b .gone) = true := ho; rw [h0] at ho; cases ho), (fun b g ho => by have h0 := (hblk b).2; have ho : own ((inRV 0 l).2.getD b .gone) = true := ho; rw [h0] at ho; cases ho)⟩, R2.nil, R2.nil⟩
    obtain ⟨-, hc⟩ := callK_sound (G := G) hF hΨ d f _ _ _ _ hk
    refine (hc (Base.of G w hinv) [] _ w _ vs hrel hav).mono fun e w' he => ?_
    obtain ⟨v, rfl, x, σ', pl', h1, h2, h3⟩ := he
    have up : ∀ {rs : List (RV C)} {us : List Value}, R2 (RVO w' 0) rs us → (∀ u, u ∈ us → ∀ g, blkOf u = some g → ∃ b e xs, b ∉ ([] : List Nat) ∧ σ'.blk b = .row e true xs ∧ plBlk pl' b = some g) → R2 (RVO w' w.heap.size) rs us := fun g1 g2 =>
      rvo_base g1 fun u hu g hg => by
        obtain ⟨b, e, xs, _, hb, hp⟩ := g2 u hu g hg
        exact h1.mem.may b g (by rw [hb]; rfl) hp
    unfold finK at h3
    split at h3
    · rename_i x'
      obtain ⟨g1, g2, g3⟩ := outRV_sound (σ := σ') h1.mem h3 (R2.cons h2 R2.nil)
      exact ⟨[v], rfl, h1.mem.below.below, up g1 g2, g3⟩
    · obtain ⟨us, rfl, hu⟩ := h2
      obtain ⟨g1, g2, g3⟩ := outRV_sound (σ := σ') h1.mem h3 hu
      have : us.toList = [] := hu.nil_inv
      refine ⟨us.toList, ?_, h1.mem.below.below, up g1 g2, g3⟩
      rw [this]
      have : us = #[] := by simpa using this
      rw [this]; rfl
    · obtain ⟨us, rfl, hu⟩ := h2
      obtain ⟨g1, g2, g3⟩ := outRV_sound (σ := σ') h1.mem h3 hu
      refine ⟨us.toList, ?_, h1.mem.below.below, up g1 g2, g3⟩
      obtain ⟨u, us', e1, _, hu'⟩ := hu.cons_inv
      obtain ⟨u2, us2, e2, _, _⟩ := hu'.cons_inv
      rw [e1, e2]
      simp only [tupVal]
      rw [← e2, ← e1]
    · cases h3
  · cases hk
theorem frameE_rel : ∀ {E : List Eat} {xs : List AV} {vals : List Value}, R2 (AVR pl) xs vals → R2 (AVR pl) (frameE E xs) vals
  | [], xs, vals, h => h.map_left fun x y _ _ => AVR.dead y
  | .no :: E, [], vals, h => h
  | .row :: E, [], vals, h => h
  | .box _ _ :: E, [], vals, h => h
  | .no :: E, x :: xs, vals, h => by
    obtain ⟨v, vs, rfl, h1, h2⟩ := h.cons_inv
    exact R2.cons (AVR.dead v) (frameE_rel (E := E) h2)
  | .row :: E, x :: xs, vals, h => by
    obtain ⟨v, vs, rfl, h1, h2⟩ := h.cons_inv
    exact R2.cons (AVR.dead v) (frameE_rel (E := E) h2)
  | .box _ _ :: E, x :: xs, vals, h => by
    obtain ⟨v, vs, rfl, h1, h2⟩ := h.cons_inv
    exact R2.cons h1 (frameE_rel (E := E) h2)
/-- The same of a function that takes something over. -/
theorem funE_sound (G0 : C.Good P) (hF : Fit P) (hΨ : KnownOk C P Ψ) (keep : FuncId → Nat → List Nat) (m d : Nat) (f : FuncId) (E : List Eat) : KnownAtE C P f E (funE P Ψ keep m d f E) := by
  intro l rs hk
  unfold funE at hk
  split at hk
  · rename_i fn hfn
    split at hk
    · rename_i xs bl hin
      refine ⟨xs, bl, fn, hin, hfn, fun G w0 w pl vals hm hav => ?_⟩
      obtain ⟨-, hc⟩ := callK_sound (G := G) hF hΨ d f _ _ _ _ hk
      have hrel : Rel G w0 ({ T := frameE E xs, F := [], H := bl } : St C) [] { tmps := vals.toArray, defers := [] } w pl := ⟨hm, by simpa using frameE_rel hav, R2.nil⟩
      refine (hc w0 [] _ w pl vals hrel hav).mono fun e w' he => ?_
      obtain ⟨v, rfl, x, σ', pl', h1, h2, h3⟩ := he
      exact ⟨v, rfl, x, σ', pl', h1.mem, h2, by simpa using h1.tmps, h3⟩
    · cases hk
  · cases hk
/-- The same of a function whose answer is a function. -/
theorem funF_sound (G : C.Good P) (hF : Fit P) (hΨ : KnownOk C P Ψ) (keep : FuncId → Nat → List Nat) (m d : Nat) (f : FuncId) : KnownAtF C P f (funF P Ψ keep m d f) := by
  intro l k n w vs hinv hk hl
  unfold funF at hk
  split at hk
  · rename_i fn hfn
    obtain ⟨rows, hrl, hrows⟩ := inRV_rel G (base := 0) 0 hl
    obtain ⟨hav, hbk⟩ := hrows (fun i => rows[i]?) (fun i v hv => by rw [Nat.zero_add]; exact hv)
    have hblk : ∀ b, BlkR G 0 (fun i => rows[i]?) w b ((inRV 0 l).2.getD b .gone) ∧ own ((inRV 0 l).2.getD b .gone) = false := fun b => by
      rw [List.getD_eq_getElem?_getD]
      cases hb : (inRV 0 l).2[b]? with
      | none => exact ⟨by
          show rows[b]? = none
          rw [List.getElem?_eq_none]
          rw [hrl]
          exact List.getElem?_eq_none_iff.1 hb, rfl⟩
      | some x =>
        have := hbk b x hb
        rwa [Nat.zero_add] at this
    have hrel : Rel G (Base.of G w hinv) ({ T := [], F := [], H := (inRV 0 l).2 } : St C) [] { tmps := #[], defers := [] } w (fun i => rows[i]?) :=
      ⟨⟨Held.refl _ _ _ _, fun b => (hblk b).1, (fun b b' g hne ho => by have h0 := (hblk b).2; have ho : own ((inRV 0 l).2.getD b .gone) = true := ho; rw [h0] at ho; cases ho), (fun b g ho => by have h0 := (hblk b).2; have ho : own ((inRV 0 l).2.getD b .gone) = true := ho; rw [h0] at ho; cases ho)⟩, R2.nil, R2.nil⟩
    obtain ⟨-, hc⟩ := callK_sound (G := G) hF hΨ d f _ _ _ _ hk
    refine (hc (Base.of G w hinv) [] _ w _ vs hrel hav).mono fun e w' he => ?_
    obtain ⟨v, rfl, x, σ', pl', h1, h2, h3⟩ := he
    unfold finF at h3
    split at h3
    · rename_i g
      simp only [Option.some.injEq, List.cons.injEq, RV.fl.injEq, Fl.one.injEq, Sc.int.injEq, and_true] at h3
      obtain ⟨_, rfl⟩ := h3
      obtain ⟨as, bs, rfl, ha, hb⟩ := h2
      have e1 : as = #[] := by have := ha.nil_inv; simpa using this
      have e2 : bs = #[] := by have := hb.nil_inv; simpa using this
      subst e1; subst e2
      exact ⟨g, rfl, rfl, h1.mem.below.below⟩
    · cases h3
  · cases hk
end
end Go.Abs
