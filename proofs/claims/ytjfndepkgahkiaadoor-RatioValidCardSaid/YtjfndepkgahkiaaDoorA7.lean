/- EACH OPERATION OF THE MODEL DOES WHAT IS TOLD OF IT (fourth part: operations that make no memory). -/
import Derived.Test.YtjfndepkgahkiaaDoorA6
set_option linter.unusedVariables false
set_option linter.unusedSimpArgs false
namespace Go.Abs
open Go.RowKit
section
variable {C : Codec} {P : Program} {G : C.Good P} {w0 : Base C} {σ : St C} {as : List Act} {a : Act} {w : World} {pl : Pl} {n : Nat} {H : Nat → Blk C} {o : Oper} {r : Res C}

theorem avr_fl {x : Fl} {v : Value} (h : AVR pl (.fl x) v) : FR pl x v := h
theorem out_un (h : Rel G w0 σ as a w pl) {op : UnOp} {t : TypeId} {x : Operand} (ho : o.op = .unOp op t x) (hk : coreK P n H (.unOp op t x) [σ.ev x] some = some r) : Out G w0 σ as a w o r := by
  have hx := ev_avr h x
  generalize σ.ev x = ax at hk hx
  cases ax with
  | fl f =>
    simp only [coreK] at hk
    cases hu : unK op f some with
    | none =>
      exfalso
      revert hk hu
      unfold unK
      split <;> simp
    | some z =>
      obtain ⟨v, hv, hz⟩ := unK_sound (P := P) (w := w) hx hu
      have hr : r = { v := .fl z } := by
        revert hk hu
        unfold unK
        split <;> simp <;> intro h1 h2 <;> subst h2 <;> exact h1.symm
      subst hr
      exact out_pure h (by simp [execOp, ho, hv]) hz
  | tup l => simp [coreK] at hk
  | clo f a b => simp [coreK] at hk
/-- A test that was passed on to what follows. -/
theorem bin_nat {R : Type} {op : BinOp} {t : TypeId} {x y : Fl} {k : Fl → Option R} {r : R} (hk : binK P op t x y k = some r) : ∃ z, binK P op t x y some = some z ∧ k z = some r := by
  unfold binK at hk ⊢
  split at hk
  · split at hk
    · obtain ⟨h1, h2⟩ := cond_none' hk; exact ⟨_, by rw [h1]; rfl, h2⟩
    · obtain ⟨h1, h2⟩ := cond_none' hk; exact ⟨_, by rw [h1]; rfl, h2⟩
    · obtain ⟨h1, h2⟩ := cond_none hk
      rw [h1]
      clear hk h1
      split at h2
      all_goals first
        | exact ⟨_, rfl, h2⟩
        | (obtain ⟨h3, h4⟩ := cond_none' h2; exact ⟨_, by rw [h3]; rfl, h4⟩)
        | cases h2
  · split at hk
    · obtain ⟨h1, h2⟩ := cond_none' hk; exact ⟨_, by rw [h1]; rfl, h2⟩
    all_goals first | exact ⟨_, rfl, hk⟩ | cases hk
  · obtain ⟨h1, h2⟩ := cond_none hk
    rw [h1]
    clear hk
    split at h2
    all_goals first | exact ⟨_, rfl, h2⟩ | cases h2
  · obtain ⟨h1, h2⟩ := cond_none hk
    rw [h1]
    clear hk
    split at h2
    · obtain ⟨h3, h4⟩ := cond_none h2
      rw [h3]
      clear h2
      split at h4
      all_goals first | exact ⟨_, rfl, h4⟩ | cases h4
    · cases h2
  · cases hk
theorem un_nat {R : Type} {op : UnOp} {x : Fl} {k : Fl → Option R} {r : R} (hk : unK op x k = some r) : ∃ z, unK op x some = some z ∧ k z = some r := by
  unfold unK at hk ⊢
  split at hk
  all_goals first | exact ⟨_, rfl, hk⟩ | cases hk
theorem out_bin (h : Rel G w0 σ as a w pl) {op : BinOp} {t t' : TypeId} {x y : Operand} (ho : o.op = .binOp op t x y t') (hk : coreK P n H (.binOp op t x y t') [σ.ev x, σ.ev y] some = some r) : Out G w0 σ as a w o r := by
  have hx := ev_avr h x
  have hy := ev_avr h y
  generalize σ.ev x = ax at hk hx
  generalize σ.ev y = ay at hk hy
  cases ax <;> cases ay <;> simp only [coreK, reduceCtorEq] at hk
  obtain ⟨z, h1, h2⟩ := bin_nat hk
  injection h2 with h2; subst h2
  obtain ⟨v, hg, hv, hz⟩ := binK_sound (P := P) (w := w) hx hy h1 x y
  exact out_pure h (by simp [execOp, ho, hg, hv]) hz
theorem out_extract (h : Rel G w0 σ as a w pl) {x : Operand} {j : Nat} (ho : o.op = .extract x j) (hk : coreK P n H (.extract x j) [σ.ev x] some = some r) : Out G w0 σ as a w o r := by
  have hx := ev_avr h x
  generalize σ.ev x = ax at hk hx
  cases ax <;> simp only [coreK, reduceCtorEq] at hk
  split at hk
  · rename_i v hv
    simp only [Option.some.injEq] at hk; subst hk
    obtain ⟨vs, e, h1⟩ := hx
    obtain ⟨u, hu, h2⟩ := h1.get hv
    exact out_pure h (v := u) (by simp only [execOp, ho, e]; simp [Instr.extract, show vs[j]? = some u by simpa using hu]) h2
  · cases hk
theorem out_field (h : Rel G w0 σ as a w pl) {x : Operand} {t : TypeId} {j : Nat} (ho : o.op = .field t x j) (hk : coreK P n H (.field t x j) [σ.ev x] some = some r) : Out G w0 σ as a w o r := by
  have hx := ev_avr h x
  generalize σ.ev x = ax at hk hx
  cases ax with
  | tup _ => simp [coreK] at hk
  | clo _ _ _ => simp [coreK] at hk
  | fl f =>
    cases f with
    | one s => simp [coreK] at hk
    | agg cs =>
      simp only [coreK] at hk
      split at hk
      · rename_i off ft hf
        split at hk
        · rename_i v hc
          simp only [Option.some.injEq] at hk; subst hk
          obtain ⟨vs, e, h1⟩ := hx
          obtain ⟨fs, f, h2, h3, rfl, rfl⟩ := fieldOf_spec hf
          have hfr := cut_fr (P := P) h1 hc
          refine out_pure h (v := valOf P f.type ((vs.toList.drop f.offset).take (P.cellsOf f.type))) ?_ hfr
          obtain ⟨T, hT, hl, _, h4⟩ := cut_sound h1 hc
          have hpart := run_part (P := P) hT vs f.offset (by simpa using hl) (fun hb => (h4 hb).1) w
          simp only [execOp, ho, e]
          simp [Instr.field, run_underlying h2, h3, asAgg, hpart]
        · cases hk
      · cases hk
end
end Go.Abs
