/- A REGION WHOSE ORDER IS LEFT OPEN, third part: the swap. -/
import Derived.Test.YtjfndepkgahkiaaDoorA24
set_option linter.unusedVariables false
set_option linter.unusedSimpArgs false
namespace Go.Abs
open Go.RowKit
section
variable {C : Codec} {P : Program} {Ψ : Known C} {σ σ' : St C} {n nx ny : Nat} {o x y : Oper} {ops : Array Oper} {R : Type} {ox oy : Option (Res C)}

theorem ann_kill (σ : St C) (o : Oper) (r : Option (Res C)) : (annO σ o r).kill = (resO r).kill := by cases r <;> rfl
theorem ann_wr (σ : St C) (o : Oper) (r : Option (Res C)) : (annO σ o r).wr = (resO r).up.map (·.1) := by cases r <;> rfl
theorem ann_ment (σ : St C) (o : Oper) (r : Option (Res C)) : ∀ b, b ∈ (resO r).v.ment ++ (resO r).up.flatMap (·.2.ment) → b ∈ (annO σ o r).ment := by
  intro b hb
  cases r with
  | none => simp [resO, AV.ment, Fl.ment, Fl.cells, Sc.ment] at hb
  | some r =>
    simp only [annO, annOf, resO, List.mem_append] at hb ⊢
    rcases hb with hb | hb
    · exact .inl (.inr hb)
    · exact .inr hb
/-- The same values, the same blocks: the same comes out. -/
theorem outc_same {σ σ' : St C} (hg : guardV ops σ'.T o = guardV ops σ.T o) (hs : ∀ r, outc P Ψ ops n σ o = some (some r) → σ'.vals o.op = σ.vals o.op ∧ ∀ b, b ∈ (annOf σ o (σ.vals o.op) r).rd → σ'.blk b = σ.blk b)
    (h : outc P Ψ ops n σ o = some ox) : outc P Ψ ops n σ' o = some ox ∧ annO σ' o ox = annO σ o ox := by
  have h0 := h
  unfold outc at h ⊢
  rw [hg]
  cases hgv : guardV ops σ.T o with
  | none => rw [hgv] at h; cases h
  | some b =>
    rw [hgv] at h
    cases b with
    | false =>
      simp only [Option.some.injEq] at h
      subst h
      exact ⟨rfl, rfl⟩
    | true =>
      simp only at h ⊢
      cases hr : resV P Ψ n o.op (σ.vals o.op) (σ.view o.op (σ.vals o.op)) with
      | none => rw [hr] at h; cases h
      | some r =>
        rw [hr] at h
        simp only [Option.map_some, Option.some.injEq] at h
        subst h
        obtain ⟨h1, h2⟩ := hs r h0
        have hrd : (annOf σ o (σ.vals o.op) r).rd = cond (looks o.op) (σ.reach o.op ((σ.vals o.op).flatMap AV.ment)) [] := rfl
        have hmb : ∀ l : List Nat, (∀ b, b ∈ l → σ'.blk b = σ.blk b) → mentB σ'.blk l = mentB σ.blk l := fun l hl => by
          unfold mentB
          simp only [List.flatMap]
          congr 1
          exact List.map_congr_left fun b hbm => by rw [hl b hbm]
        have hreach : looks o.op = true → σ'.reach o.op ((σ.vals o.op).flatMap AV.ment) = σ.reach o.op ((σ.vals o.op).flatMap AV.ment) := fun hl => by
          rw [hrd, hl] at h2
          simp only [Bool.cond_true] at h2
          unfold St.reach at h2 ⊢
          cases hc : isCall o.op with
          | false => rfl
          | true =>
            rw [hc] at h2
            simp only [Bool.cond_true] at h2 ⊢
            rw [hmb _ fun b hb => h2 b (List.mem_append_left _ hb)]
        have hview : σ'.view o.op (σ.vals o.op) = σ.view o.op (σ.vals o.op) := by
          funext c
          unfold St.view
          cases hl : looks o.op with
          | false => rfl
          | true =>
            rw [hreach hl]
            cases hm : memN c (σ.reach o.op ((σ.vals o.op).flatMap AV.ment)) with
            | false => rfl
            | true =>
              have := h2 c (by rw [hrd, hl]; exact memN_iff.1 hm)
              simp only [Bool.and_self, Bool.cond_true]
              exact this
        rw [h1, hview, hr]
        refine ⟨rfl, ?_⟩
        simp only [annO, h1]
        unfold annOf
        have hb : ∀ b, b ∈ (cond (looks o.op) (σ.reach o.op ((σ.vals o.op).flatMap AV.ment)) []) → σ'.blk b = σ.blk b := h2
        have hrr : cond (looks o.op) (σ'.reach o.op ((σ.vals o.op).flatMap AV.ment)) [] = cond (looks o.op) (σ.reach o.op ((σ.vals o.op).flatMap AV.ment)) [] := by
          cases hl : looks o.op with
          | false => rfl
          | true => rw [hreach hl]
        have gen : ∀ rd : List Nat, (∀ b, b ∈ rd → σ'.blk b = σ.blk b) → mentB σ'.blk rd = mentB σ.blk rd ∧ (rd.all fun b => (σ'.blk b).live) = rd.all fun b => (σ.blk b).live := fun rd hb => by
          constructor
          · unfold mentB
            simp only [List.flatMap]
            congr 1
            exact List.map_congr_left fun b hbm => by rw [hb b hbm]
          · rw [Bool.eq_iff_iff, List.all_eq_true, List.all_eq_true]
            exact ⟨fun h b hbm => by rw [← hb b hbm]; exact h b hbm, fun h b hbm => by rw [hb b hbm]; exact h b hbm⟩
        dsimp only
        rw [hrr, (gen _ hb).1, (gen _ hb).2]
theorem apart_spec (h : apartOps ops x y = true) : tmpNot x.dst (tmpsOf y) ∧ tmpNot x.dst (guardTmp ops y) ∧ tmpNot y.dst (tmpsOf x) ∧ tmpNot y.dst (guardTmp ops x) ∧ ∀ d, x.dst = some d → y.dst ≠ some d := by
  unfold apartOps at h
  simp only [Bool.and_eq_true] at h
  obtain ⟨⟨h1, h2⟩, h3⟩ := h
  have hx : ∀ t, x.dst = some t → t ∈ x.dst.toList := fun t ht => by rw [ht]; simp
  have hy : ∀ t, y.dst = some t → t ∈ y.dst.toList := fun t ht => by rw [ht]; simp
  exact ⟨fun t ht hm => disj_iff h2 t (hx t ht) (List.mem_append_left _ hm), fun t ht hm => disj_iff h2 t (hx t ht) (List.mem_append_right _ hm),
    fun t ht hm => disj_iff h3 t (hy t ht) (List.mem_append_left _ hm), fun t ht hm => disj_iff h3 t (hy t ht) (List.mem_append_right _ hm),
    fun d hd hd' => disj_iff h1 d (hx d hd) (hy d hd')⟩
theorem indep_spec {A B : Ann} (h : indep A B = true) : (∀ b, b ∈ A.wr → b ∉ B.rd) ∧ (∀ b, b ∈ A.wr → b ∉ B.wr) ∧ (∀ b, b ∈ B.wr → b ∉ A.rd) ∧ (∀ b, A.kill = some b → b ∉ B.ment ∧ B.live = true) ∧ ∀ b, B.kill = some b → b ∉ A.ment := by
  unfold indep at h
  simp only [Bool.and_eq_true] at h
  obtain ⟨⟨⟨⟨⟨_, h1⟩, h2⟩, h3⟩, h4⟩, h5⟩ := h
  refine ⟨disj_iff h1, disj_iff h2, disj_iff h3, fun b hb => ?_, fun b hb => ?_⟩
  · rw [hb] at h4
    simp only [Bool.and_eq_true] at h4
    exact ⟨memN_false h4.1, h4.2⟩
  · rw [hb] at h5
    exact memN_false h5
theorem swap (hx : outc P Ψ ops nx σ x = some ox) (hy : outc P Ψ ops ny (σ.apply x.dst (resO ox)) y = some oy) (hap : apartOps ops x y = true)
    (hin : indep (annO σ x ox) (annO (σ.apply x.dst (resO ox)) y oy) = true) :
    outc P Ψ ops ny σ y = some oy ∧ annO σ y oy = annO (σ.apply x.dst (resO ox)) y oy ∧ outc P Ψ ops nx (σ.apply y.dst (resO oy)) x = some ox ∧
    annO (σ.apply y.dst (resO oy)) x ox = annO σ x ox ∧ (σ.apply y.dst (resO oy)).apply x.dst (resO ox) = (σ.apply x.dst (resO ox)).apply y.dst (resO oy) := by
  obtain ⟨a1, a2, a3, a4, a5⟩ := apart_spec hap
  obtain ⟨i1, i2, i3, i4, i5⟩ := indep_spec hin
  rw [ann_wr] at i1 i2 i3
  rw [ann_wr] at i2
  rw [ann_kill] at i4 i5
  have fy : Free (fOf (resO oy)) (annO σ x ox).ment := fOf_free _ i5
  have fx : Free (fOf (resO ox)) (annO (σ.apply x.dst (resO ox)) y oy).ment := fOf_free _ fun b hb => (i4 b hb).1
  -- y, before x
  have s1 : outc P Ψ ops ny σ y = some oy ∧ annO σ y oy = annO (σ.apply x.dst (resO ox)) y oy := by
    refine outc_same (σ := σ.apply x.dst (resO ox)) (σ' := σ) (guard_apply a2).symm (fun r hr => ?_) hy
    rw [hy] at hr
    injection hr with hr
    subst hr
    simp only [annO] at i1 i4 i5
    have hv := vals_apply (σ := σ) (r := resO ox) a1
    have hlive : (∀ b, (resO ox).kill = some b → False) ∨ (((σ.apply x.dst (resO ox)).vals y.op).all AV.live = true ∧ ((annOf (σ.apply x.dst (resO ox)) y ((σ.apply x.dst (resO ox)).vals y.op) r).rd.all fun b => ((σ.apply x.dst (resO ox)).blk b).live) = true) := by
      cases hk : (resO ox).kill with
      | none => exact .inl fun b hb => by cases hb
      | some b =>
        have := (i4 b hk).2
        simp only [annOf, Bool.and_eq_true] at this
        exact .inr this
    have hid : (∀ b, (resO ox).kill = some b → False) → fOf (resO ox) = fun s => s := fun h => by
      unfold fOf
      cases hk : (resO ox).kill with
      | none => rfl
      | some b => exact absurd hk (fun hk => h b hk)
    refine ⟨?_, fun b hb => ?_⟩
    · rcases hlive with h | h
      · rw [hv, hid h]
        simp [AV.map_id]
      · rw [hv] at h
        rw [hv, (fOf_kept _).avs h.1]
    · have hnw : b ∉ (resO ox).up.map (·.1) := fun hh => i1 b hh hb
      have hbk := blk_apply (σ := σ) (d := x.dst) hnw
      rcases hlive with h | h
      · rw [hbk, hid h]
        cases σ.blk b <;> simp [Blk.map]
      · have hl := List.all_eq_true.1 h.2 b hb
        rw [hbk] at hl
        rw [hbk, (fOf_kept _).blk hl]
  -- x, behind y
  have s2 : outc P Ψ ops nx (σ.apply y.dst (resO oy)) x = some ox ∧ annO (σ.apply y.dst (resO oy)) x ox = annO σ x ox := by
    refine outc_same (σ := σ) (σ' := σ.apply y.dst (resO oy)) (guard_apply a4) (fun r hr => ?_) hx
    rw [hx] at hr
    injection hr with hr
    subst hr
    simp only [annO] at i3 fy
    refine ⟨?_, fun b hb => ?_⟩
    · rw [vals_apply a3]
      refine fy.avs fun b hb => ?_
      simp only [annOf, List.mem_append]
      exact .inl (.inl (.inl hb))
    · have hnw : b ∉ (resO oy).up.map (·.1) := fun hh => i3 b hh hb
      rw [blk_apply hnw]
      refine fy.blk fun c hc => ?_
      simp only [annOf, List.mem_append]
      exact .inl (.inl (.inr (List.mem_flatMap.2 ⟨b, hb, hc⟩)))
  refine ⟨s1.1, s1.2, s2.1, s2.2, ?_⟩
  exact (apply_comm a5 i2 (fy.mono fun b hb => ann_ment σ x ox b hb) (fx.mono fun b hb => ann_ment _ y oy b hb)).symm
end
end Go.Abs
