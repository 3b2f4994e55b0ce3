/- FUNCTIONS: what is told of a function's run is true. -/
import Derived.Test.YtllgkfhpfonjnaaA28
set_option linter.unusedVariables false
set_option linter.unusedSimpArgs false
namespace Go.Abs
open Go.RowKit
section
variable {C : Codec} {P : Program} {G : C.Good P} {Ψ : Known C} {R : Type} {w0 : World} {as : List Act} {σ : St C} {a : Act} {w : World} {pl : Pl}

def resRun (tmps : Array Value) : ResultVar → Sem Value
  | .tmp t => pure (tmps.getD t undef)
  | .cell b t => do loadVar t (← asAddr (tmps.getD b undef))
theorem resK_sound (h : Rel G w0 σ as a w pl) : ∀ {rs : List ResultVar} {l : List Fl}, resK P σ rs = some l →
    ∃ us, (rs.mapM (resRun a.tmps)).run P w = .ok us w ∧ R2 (FR pl) l us
  | [], l, hk => by
    simp only [resK, Option.some.injEq] at hk; subst hk
    exact ⟨[], rfl, R2.nil⟩
  | .tmp t :: rs, l, hk => by
    simp only [resK] at hk
    split at hk
    · rename_i x l' hx hl
      injection hk with hk; subst hk
      obtain ⟨us, h1, h2⟩ := resK_sound h hl
      have hv := ev_avr h (.tmp t)
      simp only [St.ev, hx, Act.eval] at hv
      refine ⟨a.tmps.getD t undef :: us, ?_, R2.cons hv h2⟩
      simp only [List.mapM_cons, resRun, Sem.run_bind, Sem.run_pure, Result.andThen_ok, h1]
    · cases hk
  | .cell b t :: rs, l, hk => by
    simp only [resK] at hk
    split at hk
    · rename_i s l' hx hl
      split at hk
      · rename_i cs off hp
        split at hk
        · rename_i x hc
          injection hk with hk; subst hk
          obtain ⟨us, h1, h2⟩ := resK_sound h hl
          have hv := ev_avr h (.tmp b)
          simp only [St.ev, hx, Act.eval] at hv
          obtain ⟨g, base, vs, e1, e2, e3⟩ := peek_reads (fun _ _ => rfl) h.mem hv hp
          obtain ⟨T, hT, hl', hfr, h4⟩ := cut_sound e2 hc
          have hld := run_loadVal (P := P) hT hl' (fun hb => (h4 hb).1) e3
          simp only [Instr.loadAt, Instr.sureAddr, Sem.run_bind, Sem.run_pure, Result.andThen_ok] at hld
          refine ⟨_ :: us, ?_, R2.cons hfr h2⟩
          simp only [List.mapM_cons, resRun, Sem.run_bind, e1, asAddr, Sem.run_pure, Result.andThen_ok, hld, h1]
        · cases hk
      · cases hk
    · cases hk
theorem results_eq (fn : Func) (tmps : Array Value) : results fn tmps = (fn.results.mapM (resRun tmps) >>= fun vs => pure (if h : vs.size = 1 then vs[0] else .tuple vs)) := by
  unfold results
  congr 1
theorem results_run {fn : Func} {us : List Value} (h : (fn.results.toList.mapM (resRun a.tmps)).run P w = .ok us w) : (results fn a.tmps).run P w = .ok (tupVal us) w := by
  rw [results_eq, Sem.run_bind, Array.mapM_eq_mapM_toList]
  have : ((List.toArray <$> fn.results.toList.mapM (resRun a.tmps) : Sem (Array Value))).run P w = .ok us.toArray w := by
    simp only [map_eq_pure_bind, Sem.run_bind]
    rw [h]
    rfl
  rw [this]
  simp only [Result.andThen_ok]
  match us with
  | [] => rfl
  | [u] => rfl
  | u :: u' :: l => simp [tupVal]
theorem callK_sound (hF : Fit P) (hΨ : KnownOk C P Ψ) {keep : FuncId → Nat → List Nat} {m : Nat} : ∀ d, CallOk G (callK (R := R) P Ψ keep m d : Callee C R)
  | 0, f, vs, σ, k, r, h => by cases h
  | d + 1, f, vs, σ, k, r, h => by
    simp only [callK] at h
    split at h
    · rename_i fn hfn
      split at h
      · rename_i c hb
        refine ⟨⟨fn, c, hfn, hb⟩, fun w0 as a w pl vals hrel hvs => ?_⟩
        refine calls_of_wp hfn hb (wp_mono (code_sound (G := G) hF hΨ (callK_sound hF hΨ d) (w0 := w0) (as := a :: as) c _ _ _ w pl h ⟨hrel.mem, ?_, R2.cons hrel.tmps hrel.outer⟩ rfl) fun e a' w' he => ?_)
        · have h1 : R2 (AVR pl) (enterT fn vs) (vals ++ List.replicate (fn.ntmps - vals.length) undef) := by
            unfold enterT
            rw [hvs.1]
            refine hvs.append ⟨by simp, fun i x y hx hy => ?_⟩
            rw [List.getElem?_replicate] at hx
            split at hx
            · injection hx with hx; subst hx; exact AVR.dead y
            · cases hx
          simpa using h1
        · obtain ⟨σ', pl', h1, h2, h3⟩ := he
          have fin : (match resK P σ' fn.results.toList, σ'.F with
              | some l, T :: F => k (tupOf l) { T, F, H := σ'.H }
              | _, _ => none) = some r → a'.defers = [] ∧ ∃ v, (results fn a'.tmps).run P w' = .ok v w' ∧ ∃ v_1, Ending.returned v = Ending.returned v_1 ∧ ∃ x σ' pl', Rel G w0 σ' as a w' pl' ∧ AVR pl' x v_1 ∧ k x σ' = some r := fun hr => by
            split at hr
            · rename_i l T F hl hFF
              obtain ⟨us, e1, e2⟩ := resK_sound h1 hl
              have ho := h1.outer
              rw [hFF] at ho
              exact ⟨h2, tupVal us, results_run e1, tupVal us, rfl, tupOf l, { T, F, H := σ'.H }, pl', ⟨h1.mem, ho.head, ho.tail⟩, tupVal_av e2, hr⟩
            · cases hr
          unfold leaveK at h3
          cases e with
          | normal => exact fin h3
          | ret => exact fin h3
          | _ => cases h3
      · cases h
    · cases h

/-! ### A function by itself -/
theorem inRV_rel (G : C.Good P) {base : Nat} : ∀ {args : List (RV C)} {vs : List Value} (n : Nat), R2 (RVA w) args vs → ∃ rows : List Value, rows.length = (inRV n args).2.length ∧
    ∀ pl : Pl, (∀ i v, rows[i]? = some v → pl (n + i) = some v) → R2 (AVR pl) (inRV n args).1 vs ∧ ∀ i x, (inRV n args).2[i]? = some x → BlkR G base pl w (n + i) x ∧ own x = false
  | [], vs, n, h => by
    have := h.nil_inv; subst this
    exact ⟨[], rfl, fun pl _ => ⟨R2.nil, fun i x hx => by simp [inRV] at hx⟩⟩
  | .fl x :: args, vs, n, h => by
    obtain ⟨v, vs', rfl, hv, h'⟩ := h.cons_inv
    obtain ⟨rows, h1, h2⟩ := inRV_rel G (base := base) n h'
    refine ⟨rows, h1, fun pl hpl => ?_⟩
    obtain ⟨h3, h4⟩ := h2 pl hpl
    exact ⟨R2.cons (plain_fr hv.1 hv.2) h3, h4⟩
  | .row e xs :: args, vs, n, h => by
    obtain ⟨v, vs', rfl, ⟨hhas, a, c, hv, hc, hmax, hnone, hblk, hr⟩, h'⟩ := h.cons_inv
    obtain ⟨rows, h1, h2⟩ := inRV_rel G (base := base) (n + 1) h'
    refine ⟨v :: rows, by simp [inRV, h1], fun pl hpl => ?_⟩
    obtain ⟨h3, h4⟩ := h2 pl (fun i u hu => by
      have := hpl (i + 1) u (by simpa using hu)
      rwa [show n + 1 + i = n + (i + 1) by omega])
    have hp0 := hpl 0 v rfl
    rw [Nat.add_zero] at hp0
    refine ⟨R2.cons ⟨⟨a, xs.length, c, hp0.trans (by rw [hv]), hv⟩, by rw [hv]; rfl⟩ h3, fun i x hx => ?_⟩
    cases i with
    | zero =>
      simp only [inRV, List.getElem?_cons_zero, Option.some.injEq] at hx
      subst hx
      rw [Nat.add_zero]
      exact ⟨⟨hhas, a, c, hp0.trans (by rw [hv]), hc, hmax, hnone, hblk, hr⟩, rfl⟩
    | succ i =>
      have := h4 i x (by simpa [inRV] using hx)
      rwa [show n + (i + 1) = n + 1 + i by omega]
theorem outRV_sound (hm : Mem G w0 pl σ.blk w) : ∀ {ts : List TypeId} {xs : List Fl} {seen : List Nat} {rs : List (RV C)} {us : List Value}, outRV P σ.blk seen ts xs = some rs → R2 (FR pl) xs us →
    R2 (RVO w w0.heap.size) rs us ∧ (∀ u, u ∈ us → ∀ g, blkOf u = some g → ∃ b, b ∉ seen ∧ own (σ.blk b) = true ∧ plBlk pl b = some g) ∧ Distinct us
  | [], [], seen, rs, us, h, hx => by
    have := hx.nil_inv; subst this
    simp only [outRV, Option.some.injEq] at h; subst h
    exact ⟨R2.nil, (fun u hu => by cases hu), fun i j u u' g h1 => by simp at h1⟩
  | t :: ts, x :: xs, seen, rs, us, h, hx => by
    obtain ⟨u, us', rfl, hu, hx'⟩ := hx.cons_inv
    have plainTail : ∀ rv l, blkOf u = none → RVO w w0.heap.size rv u → outRV P σ.blk seen ts xs = some l → R2 (RVO w w0.heap.size) (rv :: l) (u :: us') ∧ (∀ u', u' ∈ u :: us' → ∀ g, blkOf u' = some g → ∃ b, b ∉ seen ∧ own (σ.blk b) = true ∧ plBlk pl b = some g) ∧ Distinct (u :: us') := fun rv l hn hrv hl => by
      obtain ⟨h1, h2, h3⟩ := outRV_sound hm hl hx'
      refine ⟨R2.cons hrv h1, fun u' hu' g hg => ?_, fun i j v v' g h4 h5 hne hg => ?_⟩
      · rcases List.mem_cons.1 hu' with rfl | hu'
        · rw [hn] at hg; cases hg
        · exact h2 u' hu' g hg
      · cases i with
        | zero => simp only [List.getElem?_cons_zero, Option.some.injEq] at h4; subst h4; rw [hn] at hg; cases hg
        | succ i =>
          cases j with
          | zero => simp only [List.getElem?_cons_zero, Option.some.injEq] at h5; subst h5; rw [hn]; simp
          | succ j => exact h3 i j v v' g (by simpa using h4) (by simpa using h5) (by omega) hg
    unfold outRV at h
    split at h
    · split at h
      · rename_i e he
        obtain ⟨hhas, h2⟩ := cond_none h
        split at h2
        · rename_i l hl
          injection h2 with h2; subst h2
          have := fr_nsl hu; subst this
          exact plainTail _ l rfl ⟨hhas, World.ownsRow_nil w _ e _⟩ hl
        · cases h2
      · cases h
    · rename_i b
      split at h
      · rename_i e xs0 hb hseen
        split at h
        · rename_i l hl
          injection h with h; subst h
          have hB := hm.blk b
          rw [hb] at hB
          obtain ⟨hhas, v0, hp, hrow⟩ := hB
          obtain ⟨a0, n0, c0, h5, rfl⟩ := fr_sl hu
          rw [hp] at h5
          injection h5 with h5; subst h5
          have hown : own (σ.blk b) = true := by rw [hb]; rfl
          have hns : b ∉ seen := fun hh => by rw [memN_iff.2 hh] at hseen; cases hseen
          obtain ⟨h1, h2, h3⟩ := outRV_sound hm hl hx'
          refine ⟨R2.cons ⟨hhas, hrow⟩ h1, fun u' hu' g hg => ?_, fun i j v v' g h4 h5 hne hg => ?_⟩
          · rcases List.mem_cons.1 hu' with rfl | hu'
            · exact ⟨b, hns, hown, by simp only [plBlk, hp]; exact hg⟩
            · obtain ⟨b', h6, h7⟩ := h2 u' hu' g hg
              exact ⟨b', fun hh => h6 (List.mem_cons_of_mem _ hh), h7⟩
          · cases i with
            | zero =>
              simp only [List.getElem?_cons_zero, Option.some.injEq] at h4; subst h4
              cases j with
              | zero => exact absurd rfl hne
              | succ j =>
                intro hg'
                obtain ⟨b', h6, h7, h8⟩ := h2 v' (List.mem_of_getElem? (by simpa using h5)) g hg'
                have hbb : b ≠ b' := fun e => h6 (e ▸ List.mem_cons_self)
                exact hm.apart b b' g hbb hown (by simp only [plBlk, hp]; exact hg) h8
            | succ i =>
              cases j with
              | zero =>
                simp only [List.getElem?_cons_zero, Option.some.injEq] at h5; subst h5
                intro hg'
                obtain ⟨b', h6, h7, h8⟩ := h2 v (List.mem_of_getElem? (by simpa using h4)) g hg
                have hbb : b ≠ b' := fun e => h6 (e ▸ List.mem_cons_self)
                exact hm.apart b b' g hbb hown (by simp only [plBlk, hp]; exact hg') h8
              | succ j => exact h3 i j v v' g (by simpa using h4) (by simpa using h5) (by omega) hg
        · cases h
      · cases h
    · obtain ⟨hp, h2⟩ := cond_none h
      split at h2
      · rename_i l hl
        injection h2 with h2; subst h2
        exact plainTail _ l (plain_blk hp hu) ⟨hp, plain_fr hp hu⟩ hl
      · cases h2
  | [], _ :: _, _, _, _, h, _ => by simp [outRV] at h
  | _ :: _, [], _, _, _, h, _ => by simp [outRV] at h
/-- A FUNCTION'S CONTRACT: what is told of it. -/
theorem fun_sound (G : C.Good P) (hF : Fit P) (hΨ : KnownOk C P Ψ) (keep : FuncId → Nat → List Nat) (m d : Nat) (f : FuncId) : KnownAt C P f (funK P Ψ keep m d f) := by
  intro l rs w vs hk hl
  unfold funK at hk
  split at hk
  · rename_i fn hfn
    obtain ⟨rows, hrl, hrows⟩ := inRV_rel G (base := w.heap.size) 0 hl
    obtain ⟨hav, hbk⟩ := hrows (fun i => rows[i]?) (fun i v hv => by rw [Nat.zero_add]; exact hv)
    have hblk : ∀ b, BlkR G w.heap.size (fun i => rows[i]?) w b ((inRV 0 l).2.getD b .gone) ∧ own ((inRV 0 l).2.getD b .gone) = false := fun b => by
      rw [List.getD_eq_getElem?_getD]
      cases hb : (inRV 0 l).2[b]? with
      | none => exact ⟨by
          show rows[b]? = none
          rw [List.getElem?_eq_none]
          rw [hrl]
          exact List.getElem?_eq_none_iff.1 hb, rfl⟩
      | some x =>
        have := hbk b x hb
        rwa [Nat.zero_add] at this
    have hrel : Rel G w ({ T := [], F := [], H := (inRV 0 l).2 } : St C) [] { tmps := #[], defers := [] } w (fun i => rows[i]?) :=
      ⟨⟨Below.refl _ _, fun b => (hblk b).1, fun b b' g hne ho => by have h0 := (hblk b).2; have ho : own ((inRV 0 l).2.getD b .gone) = true := ho; rw [h0] at ho; cases ho⟩, R2.nil, R2.nil⟩
    obtain ⟨-, hc⟩ := callK_sound (G := G) hF hΨ d f _ _ _ _ hk
    refine (hc w [] _ w _ vs hrel hav).mono fun e w' he => ?_
    obtain ⟨v, rfl, x, σ', pl', h1, h2, h3⟩ := he
    unfold finK at h3
    split at h3
    · rename_i x'
      obtain ⟨g1, g2, g3⟩ := outRV_sound (σ := σ') h1.mem h3 (R2.cons h2 R2.nil)
      exact ⟨[v], rfl, h1.mem.below, g1, g3⟩
    · obtain ⟨us, rfl, hu⟩ := h2
      obtain ⟨g1, g2, g3⟩ := outRV_sound (σ := σ') h1.mem h3 hu
      have : us.toList = [] := hu.nil_inv
      refine ⟨us.toList, ?_, h1.mem.below, g1, g3⟩
      rw [this]
      have : us = #[] := by simpa using this
      rw [this]; rfl
    · obtain ⟨us, rfl, hu⟩ := h2
      obtain ⟨g1, g2, g3⟩ := outRV_sound (σ := σ') h1.mem h3 hu
      refine ⟨us.toList, ?_, h1.mem.below, g1, g3⟩
      obtain ⟨u, us', e1, _, hu'⟩ := hu.cons_inv
      obtain ⟨u2, us2, e2, _, _⟩ := hu'.cons_inv
      rw [e1, e2]
      simp only [tupVal]
      rw [← e2, ← e1]
    · cases h3
  · cases hk
end
end Go.Abs
