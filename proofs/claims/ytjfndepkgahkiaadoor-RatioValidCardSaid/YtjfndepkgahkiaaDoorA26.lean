/- A REGION WHOSE ORDER IS LEFT OPEN, fourth part: any order will do. -/
import Derived.Test.YtjfndepkgahkiaaDoorA25
set_option linter.unusedVariables false
set_option linter.unusedSimpArgs false
namespace Go.Abs
open Go.RowKit
section
variable {C : Codec} {P : Program} {G : C.Good P} {Ψ : Known C} {ops : Array Oper} {R : Type} {n0 : Nat}

abbrev Ent := Nat × Oper × Ann
def Wr (σ : St C) (n : Nat) (A : Ann) : Prop := ∀ b, b ∈ A.wr → b = n ∨ b = n + 1 ∨ σ.blk b ≠ .gone
/-- The operations one after the other. -/
def Run (P : Program) (Ψ : Known C) (ops : Array Oper) (n0 : Nat) : St C → List Ent → St C → Prop
  | σ, [], σ' => σ' = σ
  | σ, (j, o, A) :: L, σ' => ∃ oo, outc P Ψ ops (n0 + 2 * j) σ o = some oo ∧ annO σ o oo = A ∧ Wr σ (n0 + 2 * j) A ∧ Run P Ψ ops n0 (σ.apply o.dst (resO oo)) L σ'
/-- What stands before what. -/
inductive Bef (ops : Array Oper) : Nat → Nat → Prop where
  | edge {j : Nat} {o : Oper} {e : Edge} (ho : ops[j]? = some o) (he : e ∈ o.after) (hb : Region.binds .any e = true) : Bef ops e.on j
  | more {i j : Nat} {o : Oper} {e : Edge} (ho : ops[j]? = some o) (he : e ∈ o.after) (hb : Region.binds .any e = true) (h : Bef ops i e.on) : Bef ops i j
def Swaps (ops : Array Oper) (x y : Ent) : Prop := apartOps ops x.2.1 y.2.1 = true ∧ indep x.2.2 y.2.2 = true
def Fits (ops : Array Oper) (x y : Ent) : Prop := Bef ops x.1 y.1 ∨ Swaps ops x y

theorem map_gone {f : Sc → Sc} {x : Blk C} (h : x.map f ≠ .gone) : x ≠ .gone := fun e => h (by rw [e]; rfl)
theorem gone_map {f : Sc → Sc} {x : Blk C} (h : x ≠ .gone) : x.map f ≠ .gone := fun e => h (by cases x <;> first | rfl | cases e)
theorem bubble : ∀ {L1 L2 : List Ent} {e : Ent} {σ σ' : St C}, Run P Ψ ops n0 σ (L1 ++ e :: L2) σ' → (∀ x, x ∈ L1 → Swaps ops x e) → Run P Ψ ops n0 σ (e :: (L1 ++ L2)) σ'
  | [], L2, e, σ, σ', h, _ => h
  | (j, o, A) :: L1, L2, (i, p, B), σ, σ', h, hs => by
    obtain ⟨oo, h1, h2, h3, h4⟩ := h
    obtain ⟨op, h5, h6, h7, h8⟩ := bubble (L1 := L1) h4 (fun x hx => hs x (List.mem_cons_of_mem _ hx))
    obtain ⟨hap, hin⟩ := hs _ List.mem_cons_self
    simp only at hap hin
    rw [← h2, ← h6] at hin
    obtain ⟨s1, s2, s3, s4, s5⟩ := swap h1 h5 hap hin
    obtain ⟨i1, i2, i3, i4, i5⟩ := indep_spec hin
    refine ⟨op, s1, s2.trans h6, fun b hb => ?_, oo, s3, s4.trans h2, fun b hb => ?_, ?_⟩
    · have hnw : b ∉ (resO oo).up.map (·.1) := fun hh => i2 b (by rw [ann_wr]; exact hh) (by rw [h6]; exact hb)
      rcases h7 b hb with h9 | h9 | h9
      · exact .inl h9
      · exact .inr (.inl h9)
      · rw [blk_apply hnw] at h9; exact .inr (.inr (map_gone h9))
    · have hnw : b ∉ (resO op).up.map (·.1) := fun hh => i2 b (by rw [h2]; exact hb) (by rw [ann_wr]; exact hh)
      rcases h3 b hb with h9 | h9 | h9
      · exact .inl h9
      · exact .inr (.inl h9)
      · rw [blk_apply hnw]; exact .inr (.inr (gone_map h9))
    · rw [s5]; exact h8

/-- All that stands before what is ready has been carried out. -/
def Closed (ops : Array Oper) (listed : Array Bool) : Prop := ∀ j o, ops[j]? = some o → listed.getD j false = true → ∀ e, e ∈ o.after → Region.binds .any e = true → listed.getD e.on false = true
theorem bef_listed {listed : Array Bool} (hc : Closed ops listed) {i j : Nat} (h : Bef ops i j) : (∀ o, ops[j]? = some o → ∀ e, e ∈ o.after → Region.binds .any e = true → listed.getD e.on false = true) → listed.getD i false = true := by
  induction h with
  | edge ho he hb => intro hj; exact hj _ ho _ he hb
  | more ho he hb h ih =>
    intro hj
    refine ih fun o' ho' e' he' hb' => ?_
    exact hc _ o' ho' (hj _ ho _ he hb) e' he' hb'

theorem draw_seg (hF : Fit P) (hΨ : KnownOk C P Ψ) {w0 : Base C} {as : List Act} {Q : Exit → Act → World → Prop} {σ' : St C} {j1 m' : Nat} {B : Nat → Prop}
    (hback : ∀ j o, B j → ops[j]? = some o → ∀ e, e ∈ o.after → Region.binds .any e = true → e.on < j)
    (hlate : ∀ j, j1 ≤ j → j < ops.size → ∀ i, i < j1 → B i → Bef ops i j)
    (hQ : ∀ listed a w pl, (∀ j, j < ops.size → (listed.getD j true = false ↔ j1 ≤ j)) → listed.size = ops.size → Closed ops listed → Rel G w0 σ' as a w pl → a.defers = [] → wpAny P .any ops Q m' listed a w) :
    ∀ (m : Nat) (L : List Ent) (σ : St C) (listed : Array Bool) (a : Act) (w : World) (pl : Pl), L.length = m → Run P Ψ ops n0 σ L σ' → L.Pairwise (Fits ops) → L.Pairwise (fun x y => x.1 ≠ y.1) →
      (∀ x, x ∈ L → ops[x.1]? = some x.2.1) → (∀ x, x ∈ L → x.1 < j1 ∧ B x.1) → (∀ j, j < ops.size → (listed.getD j true = false ↔ (∃ x, x ∈ L ∧ x.1 = j) ∨ j1 ≤ j)) → listed.size = ops.size → Closed ops listed →
      (∀ x, x ∈ L → σ.blk (n0 + 2 * x.1) = .gone ∧ n0 + 2 * x.1 + 1 < σ.H.length ∧ σ.blk (n0 + 2 * x.1 + 1) = .gone) →
      Rel G w0 σ as a w pl → a.defers = [] → wpAny P .any ops Q (m + m') listed a w := by
  intro m
  induction m with
  | zero =>
    intro L σ listed a w pl hm hrun _ _ _ _ hun hsz hcl _ hrel hd
    have hL : L = [] := List.eq_nil_of_length_eq_zero hm
    subst hL
    have hs : σ' = σ := hrun
    subst hs
    rw [Nat.zero_add]
    refine hQ listed a w pl (fun j hj => ?_) hsz hcl hrel hd
    rw [hun j hj]
    constructor
    · rintro (⟨x, hx, _⟩ | h)
      · cases hx
      · exact h
    · exact .inr
  | succ m ih =>
    intro L σ listed a w pl hm hrun hpw hnd hop hLB hun hsz hcl hfr hrel hd
    rw [show m + 1 + m' = (m + m') + 1 by omega]
    have hlist : ∀ j, j < ops.size → (listed.getD j true = false ∨ listed.getD j false = true) := fun j hj => by
      have : j < listed.size := by omega
      simp only [Array.getD_eq_getD_getElem?, Array.getElem?_eq_getElem this, Option.getD_some]
      cases listed[j] <;> simp
    refine ⟨fun hr => ?_, fun i hi => ?_⟩
    · -- the first of those that are left is ready
      exfalso
      have hex : ∃ j, j < ops.size ∧ listed.getD j true = false ∧ ∀ k, k < j → listed.getD k true ≠ false := by
        have hne : ∃ j, j < ops.size ∧ listed.getD j true = false := by
          match L, hm with
          | x :: L, _ =>
            have hx := hop x List.mem_cons_self
            have hlt := (Array.getElem?_eq_some_iff.1 hx).1
            exact ⟨x.1, hlt, (hun x.1 hlt).2 (.inl ⟨x, List.mem_cons_self, rfl⟩)⟩
        obtain ⟨j0, hj0⟩ := hne
        have key : ∀ n, ∀ j, j < n → (j < ops.size ∧ listed.getD j true = false) → ∃ j, j < ops.size ∧ listed.getD j true = false ∧ ∀ k, k < j → listed.getD k true ≠ false := by
          intro n
          induction n with
          | zero => intro j hj; omega
          | succ n ihn =>
            intro j hj hp
            by_cases hc : ∃ k, k < j ∧ listed.getD k true = false
            · obtain ⟨k, hk, hk'⟩ := hc
              exact ihn k (by omega) ⟨by omega, hk'⟩
            · exact ⟨j, hp.1, hp.2, fun k hk hk' => hc ⟨k, hk, hk'⟩⟩
        exact key (j0 + 1) j0 (by omega) hj0
      obtain ⟨j, hj, h0, hmin⟩ := hex
      have : j ∈ Region.ready .any ops listed := by
        refine mem_ready.2 ⟨h0, ops[j], Array.getElem?_eq_getElem hj, fun e he hb => ?_⟩
        have hBj : B j := by
          rcases (hun j hj).1 h0 with ⟨x, hx, hxj⟩ | hj1
          · rw [← hxj]; exact (hLB x hx).2
          · exfalso
            match L, hm with
            | x :: L, _ =>
              have hx1 := hLB x List.mem_cons_self
              have hlt := (Array.getElem?_eq_some_iff.1 (hop x List.mem_cons_self)).1
              exact hmin x.1 (by omega) ((hun x.1 hlt).2 (.inl ⟨x, List.mem_cons_self, rfl⟩))
        have hlt := hback j _ hBj (Array.getElem?_eq_getElem hj) e he hb
        rcases hlist e.on (by omega) with h1 | h1
        · exact absurd h1 (hmin _ hlt)
        · exact h1
      rw [hr] at this
      cases this
    · obtain ⟨h0, o, ho, hpre⟩ := mem_ready.1 hi
      have hisz := (Array.getElem?_eq_some_iff.1 ho).1
      have hunl : ∀ x, x ∈ L → listed.getD x.1 false ≠ true := fun x hx h1 => by
        have hxs : x.1 < ops.size := (Array.getElem?_eq_some_iff.1 (hop x hx)).1
        have h2 := (hun x.1 hxs).2 (.inl ⟨x, hx, rfl⟩)
        have : x.1 < listed.size := by omega
        simp only [Array.getD_eq_getD_getElem?, Array.getElem?_eq_getElem this, Option.getD_some] at h1 h2
        rw [h1] at h2; cases h2
      have hiL : ∃ x, x ∈ L ∧ x.1 = i := by
        rcases (hun i hisz).1 h0 with h | h
        · exact h
        · exfalso
          match L, hm, hLB, hunl with
          | x :: L, _, hLB, hunl =>
            have hx1 := hLB x List.mem_cons_self
            have hf := hlate i h hisz x.1 hx1.1 hx1.2
            exact hunl x List.mem_cons_self (bef_listed hcl hf (fun o' ho' e he hb => by
              rw [ho] at ho'; injection ho' with ho'; subst ho'; exact hpre e he hb))
      obtain ⟨e, heL, hei⟩ := hiL
      obtain ⟨L1, L2, rfl⟩ := List.append_of_mem heL
      have hop' := hop e heL
      obtain ⟨i', oe, A⟩ := e
      simp only at hei hop'
      subst hei
      rw [ho] at hop'
      injection hop' with hop'
      subst hop'
      have hsw : ∀ x, x ∈ L1 → Swaps ops x (i', o, A) := fun x hx => by
        have hf := (List.pairwise_append.1 hpw).2.2 x hx (i', o, A) List.mem_cons_self
        rcases hf with hf | hf
        · exfalso
          have h1 : listed.getD x.1 false = true := bef_listed hcl hf (fun o' ho' e he hb => by
            rw [ho] at ho'; injection ho' with ho'; subst ho'; exact hpre e he hb)
          exact hunl x (List.mem_append_left _ hx) h1
        · exact hf
      obtain ⟨oo, h1, h2, h3, h4⟩ := bubble hrun hsw
      have hfe := hfr _ heL
      simp only at hfe
      -- the step
      have hk : stepK P Ψ noCall (n0 + 2 * i') ops σ o (fun σ1 an => some (σ1, an)) = some (σ.apply o.dst (resO oo), A) := by
        rw [step_eq, h1, Option.bind_some, h2]
      refine wpOp_mono (fun a' w' ha => ?_) (step_sound hF hΨ (callOk_none G) hrel hd ho (fun _ => hfe) hk)
      obtain ⟨σ1, an, pl', hrel', hd', he1⟩ := ha
      injection he1 with he1
      injection he1 with he1 he2
      subst he1
      subst he2
      have hnd' : ∀ x, x ∈ L1 ++ L2 → x.1 ≠ i' := fun x hx => by
        rw [List.pairwise_append] at hnd
        rcases List.mem_append.1 hx with hx | hx
        · exact hnd.2.2 x hx (i', o, an) List.mem_cons_self
        · exact Ne.symm ((List.pairwise_cons.1 hnd.2.1).1 x hx)
      have hsub : List.Sublist (L1 ++ L2) (L1 ++ (i', o, an) :: L2) := List.Sublist.append_left (List.sublist_cons_self _ _) _
      refine ih (L1 ++ L2) (σ.apply o.dst (resO oo)) (listed.setIfInBounds i' true) a' w' pl' ?_ h4 (hpw.sublist hsub) (hnd.sublist hsub) (fun x hx => hop x (hsub.subset hx)) (fun x hx => hLB x (hsub.subset hx)) (fun j hj => ?_) (by simp [hsz]) ?_ (fun x hx => ?_) hrel' hd'
      · simp only [List.length_append, List.length_cons] at hm ⊢; omega
      · by_cases hji : i' = j
        · subst hji
          constructor
          · intro hh
            have : i' < listed.size := by omega
            simp [this] at hh
          · rintro (⟨x, hx, hxi⟩ | hj1)
            · exact absurd hxi (hnd' x hx)
            · have := (hLB _ heL).1
              exact absurd this (by simp only; omega)
        · rw [getD_set_ne true hji, hun j hj]
          constructor
          · rintro (⟨x, hx, hxj⟩ | hj1)
            · rcases List.mem_append.1 hx with hx | hx
              · exact .inl ⟨x, List.mem_append_left _ hx, hxj⟩
              · rcases List.mem_cons.1 hx with rfl | hx
                · exact absurd hxj hji
                · exact .inl ⟨x, List.mem_append_right _ hx, hxj⟩
            · exact .inr hj1
          · rintro (⟨x, hx, hxj⟩ | hj1)
            · exact .inl ⟨x, hsub.subset hx, hxj⟩
            · exact .inr hj1
      · intro j o' ho' hl e he hb
        by_cases hji : i' = j
        · subst hji
          rw [ho] at ho'; injection ho' with ho'; subst ho'
          exact getD_set_true (hpre e he hb)
        · rw [getD_set_ne false hji] at hl
          exact getD_set_true (hcl j o' ho' hl e he hb)
      · have hx0 := hfr x (hsub.subset hx)
        have hxi := hnd' x hx
        have hnw : ∀ b, (b = n0 + 2 * x.1 ∨ b = n0 + 2 * x.1 + 1) → b ∉ (resO oo).up.map (·.1) := fun b hb hh => by
          have hbw : b ∈ an.wr := by rw [← h2, ann_wr]; exact hh
          rcases h3 b hbw with h9 | h9 | h9
          · omega
          · omega
          · rcases hb with rfl | rfl
            · exact h9 hx0.1
            · exact h9 hx0.2.2
        refine ⟨?_, ?_, ?_⟩
        · rw [blk_apply (hnw _ (.inl rfl)), hx0.1]; rfl
        · rw [apply_eq]; simp only [upd_length, List.length_map]; exact hx0.2.1
        · rw [blk_apply (hnw _ (.inr rfl)), hx0.2.2]; rfl
end
end Go.Abs
