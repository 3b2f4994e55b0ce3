/- A REGION IN THE TEXT'S ORDER. -/
import Derived.Test.YtjfndepkgahkiaaDoorA21
set_option linter.unusedVariables false
set_option linter.unusedSimpArgs false
namespace Go.Abs
open Go.RowKit
section
variable {C : Codec} {P : Program} {G : C.Good P} {w0 : Base C} {σ : St C} {as : List Act} {a : Act} {w w' : World} {pl : Pl} {n : Nat} {H : Nat → Blk C} {o : Oper} {R : Type}

theorem grow_blk (σ : St C) (n : Nat) : (σ.grow n).blk = σ.blk := by
  funext b
  simp only [St.grow, St.blk, List.getD_eq_getElem?_getD]
  by_cases h : b < σ.H.length
  · rw [List.getElem?_append_left h]
  · rw [List.getElem?_append_right (by omega), List.getElem?_eq_none (l := σ.H) (by omega), List.getElem?_replicate]
    split <;> rfl
theorem trimH_getD : ∀ (H : List (Blk C)) (b : Nat), (trimH H).getD b .gone = H.getD b .gone
  | [], b => rfl
  | x :: r, b => by
    have ih := trimH_getD r
    unfold trimH
    split
    · rename_i h1
      cases b with
      | zero => rfl
      | succ b =>
        have := ih b
        rw [h1] at this
        simpa using this
    · rename_i y l h1
      cases b with
      | zero => rfl
      | succ b => simpa using ih b
theorem trim_blk (σ : St C) : σ.trim.blk = σ.blk := by
  funext b
  exact trimH_getD σ.H b
theorem rel_of_blk {σ σ' : St C} (h : Rel G w0 σ as a w pl) (hb : σ'.blk = σ.blk) (hT : σ'.T = σ.T) (hF : σ'.F = σ.F) : Rel G w0 σ' as a w pl :=
  ⟨by rw [hb]; exact h.mem, by rw [hT]; exact h.tmps, by rw [hF]; exact h.outer⟩
theorem rel_grow (h : Rel G w0 σ as a w pl) (n : Nat) : Rel G w0 (σ.grow n) as a w pl := rel_of_blk h (grow_blk σ n) rfl rfl
theorem rel_trim (h : Rel G w0 σ as a w pl) : Rel G w0 σ.trim as a w pl := rel_of_blk h (trim_blk σ) rfl rfl
theorem blk_out (σ : St C) {b : Nat} (h : σ.H.length ≤ b) : σ.blk b = .gone := by
  rw [St.blk, List.getD_eq_getElem?_getD, List.getElem?_eq_none h]; rfl
theorem grow_fresh (σ : St C) : (σ.grow 2).blk σ.H.length = .gone ∧ σ.H.length + 1 < (σ.grow 2).H.length ∧ (σ.grow 2).blk (σ.H.length + 1) = .gone := by
  rw [grow_blk]
  exact ⟨blk_out σ (Nat.le_refl _), by simp [St.grow], blk_out σ (by omega)⟩

/-- What follows. -/
def Then (G : C.Good P) (w0 : Base C) (as : List Act) (k : St C → Option R) (r : R) (a' : Act) (w' : World) : Prop :=
  ∃ σ' pl', Rel G w0 σ' as a' w' pl' ∧ a'.defers = [] ∧ k σ' = some r
theorem ops_sound (hF : Fit P) {Ψ : Known C} (hΨ : KnownOk C P Ψ) {call : Callee C R} (hcall : CallOk G call) {ops : Array Oper} {r : R} {k : St C → Option R} {Q : Exit → Act → World → Prop} (hQ : ∀ a w, Then G w0 as k r a w → Q .normal a w) :
    ∀ (l : List Oper) (i : Nat) (σ : St C) (a : Act) (w : World) (pl : Pl), (∀ j o, l[j]? = some o → ops[i + j]? = some o) → Rel G w0 σ as a w pl → a.defers = [] → opsK P Ψ call ops l σ k = some r → wpOps P ops Q (List.range' i l.length) a w
  | [], i, σ, a, w, pl, _, h, hd, hk => hQ a w ⟨σ, pl, h, hd, hk⟩
  | o :: l, i, σ, a, w, pl, hl, h, hd, hk => by
    have hi : ops[i]? = some o := hl 0 o rfl
    have hl' : ∀ j o', l[j]? = some o' → ops[i + 1 + j]? = some o' := fun j o' hj => by
      have := hl (j + 1) o' (by simpa using hj)
      rwa [show i + 1 + j = i + (j + 1) by omega]
    rw [List.length_cons, List.range'_succ, wpOps_cons]
    simp only [opsK] at hk
    split at hk
    · rename_i hmk
      refine wpOp_mono (fun a' w' ha => ?_) (step_sound hF hΨ hcall h hd hi (fun hh => by rw [hmk] at hh; cases hh) hk)
      obtain ⟨σ', an, pl', hrel, hd', hk'⟩ := ha
      exact ops_sound hF hΨ hcall hQ l (i + 1) σ' a' w' pl' hl' hrel hd' hk'
    · refine wpOp_mono (fun a' w' ha => ?_) (step_sound hF hΨ hcall (rel_grow h 2) hd hi (fun _ => grow_fresh σ) hk)
      obtain ⟨σ', an, pl', hrel, hd', hk'⟩ := ha
      exact ops_sound hF hΨ hcall hQ l (i + 1) σ'.trim a' w' pl' hl' (rel_trim hrel) hd' hk'
theorem region_text (hF : Fit P) {Ψ : Known C} (hΨ : KnownOk C P Ψ) {call : Callee C R} (hcall : CallOk G call) {ops : Array Oper} {id : Nat} {r : R} {k : St C → Option R} {Q : Exit → Act → World → Prop} (hQ : ∀ a w, Then G w0 as k r a w → Q .normal a w)
    (h : Rel G w0 σ as a w pl) (hd : a.defers = []) (hk : regionK P Ψ call ops false σ k = some r) : (Code.region id ops false).wp P Q a w := by
  refine wp_region ?_
  have := ops_sound hF hΨ hcall hQ ops.toList 0 σ a w pl (fun j o hj => by rw [Nat.zero_add]; simpa using hj) h hd hk
  rw [List.range_eq_range']
  simpa using this
end
end Go.Abs
