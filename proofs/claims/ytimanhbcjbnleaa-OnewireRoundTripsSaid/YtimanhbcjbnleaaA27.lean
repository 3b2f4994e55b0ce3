/- A REGION WHOSE ORDER IS LEFT OPEN, fifth part: from what was reckoned in the text's order. -/
import Derived.Test.YtimanhbcjbnleaaA26
set_option linter.unusedVariables false
set_option linter.unusedSimpArgs false
namespace Go.Abs
open Go.RowKit
section
variable {C : Codec} {P : Program} {G : C.Good P} {Ψ : Known C} {ops : Array Oper} {R : Type} {n0 : Nat}

theorem force_eq {α : Type} (n : Nat) (k : Nat → α) : force n k = k n := by cases n <;> rfl
theorem mask_bit {ms : List Nat} {j b : Nat} : ∀ {es : List Edge} {s : Nat}, (maskGo ms j es s).testBit b = true → s.testBit b = true ∨ ∃ e, e ∈ es ∧ Region.binds .any e = true ∧ e.on < j ∧ (b = e.on ∨ (ms.getD (j - 1 - e.on) 0).testBit b = true)
  | [], s, h => .inl h
  | e :: es, s, h => by
    simp only [maskGo] at h
    cases hc : Region.binds .any e && Nat.blt e.on j with
    | false =>
      rw [hc] at h
      rcases mask_bit (es := es) h with h | ⟨e', h1, h2⟩
      · exact .inl h
      · exact .inr ⟨e', List.mem_cons_of_mem _ h1, h2⟩
    | true =>
      rw [hc] at h
      simp only [Bool.and_eq_true] at hc
      have hlt : e.on < j := by simpa [Nat.blt_eq] using hc.2
      rcases mask_bit (es := es) h with h | ⟨e', h1, h2⟩
      · simp only [Nat.testBit_or, Bool.or_eq_true] at h
        rcases h with (h | h) | h
        · exact .inl h
        · rw [Nat.testBit_two_pow] at h
          exact .inr ⟨e, List.mem_cons_self, hc.1, hlt, .inl (by simpa using (of_decide_eq_true h).symm)⟩
        · exact .inr ⟨e, List.mem_cons_self, hc.1, hlt, .inr h⟩
      · exact .inr ⟨e', List.mem_cons_of_mem _ h1, h2⟩
theorem fits_all {m : Nat} {o : Oper} {a : Ann} : ∀ {done : List Ent}, fitsAll ops m o a done = true → ∀ x, x ∈ done → m.testBit x.1 = true ∨ (apartOps ops x.2.1 o = true ∧ indep x.2.2 a = true)
  | [], _, x, hx => by cases hx
  | (i, o', a') :: r, h, x, hx => by
    simp only [fitsAll, Bool.and_eq_true, Bool.or_eq_true] at h
    rcases List.mem_cons.1 hx with rfl | hx
    · exact h.1
    · exact fits_all h.2 x hx
theorem wrOk_spec {σ : St C} {n : Nat} {a : Ann} (h : wrOk σ n a = true) : Wr σ n a := fun b hb => by
  have := List.all_eq_true.1 h b hb
  simp only [Bool.or_eq_true] at this
  rcases this with (h1 | h1) | h1
  · exact .inl (Nat.eq_of_beq_eq_true h1)
  · exact .inr (.inl (Nat.eq_of_beq_eq_true h1))
  · exact .inr (.inr fun e => by rw [e] at h1; cases h1)
theorem drawK_run {k : St C → Option R} {r : R} : ∀ (l : List Oper) (j : Nat) (ms : List Nat) (done : List Ent) (σ : St C), drawK P Ψ ops n0 l j ms done σ k = some r → (∀ i o, l[i]? = some o → ops[j + i]? = some o) →
    (∀ i, i < j → ∀ b, (ms.getD (j - 1 - i) 0).testBit b = true → Bef ops b i) →
    ∃ L σ', Run P Ψ ops n0 σ L σ' ∧ k σ' = some r ∧ L.map (·.1) = List.range' j l.length ∧ (∀ x, x ∈ L → ops[x.1]? = some x.2.1) ∧ (∀ x, x ∈ done → ∀ y, y ∈ L → Fits ops x y) ∧ L.Pairwise (Fits ops) ∧
      ∀ i o, l[i]? = some o → backs (j + i) o = true
  | [], j, ms, done, σ, h, _, _ => ⟨[], σ, rfl, h, rfl, (fun x hx => by cases hx), (fun x _ y hy => by cases hy), List.Pairwise.nil, fun i o hi => by simp at hi⟩
  | o :: l, j, ms, done, σ, h, hl, hms => by
    simp only [drawK] at h
    obtain ⟨hb, h1⟩ := cond_none h
    rw [force_eq, step_eq] at h1
    cases ho : outc P Ψ ops (n0 + 2 * j) σ o with
    | none => rw [ho] at h1; cases h1
    | some oo =>
      rw [ho] at h1
      simp only [Option.bind_some] at h1
      obtain ⟨h2, h3⟩ := cond_none h1
      simp only [Bool.and_eq_true] at h2
      have hj : ops[j]? = some o := hl 0 o rfl
      have hmask : ∀ b, (maskGo ms j o.after.toList 0).testBit b = true → Bef ops b j := fun b hbit => by
        rcases mask_bit hbit with h4 | ⟨e, h4, h5, h6, h7⟩
        · simp at h4
        · rcases h7 with rfl | h7
          · exact .edge hj (by simpa using h4) h5
          · exact .more hj (by simpa using h4) h5 (hms _ h6 b h7)
      have hms' : ∀ i, i < j + 1 → ∀ b, ((maskGo ms j o.after.toList 0 :: ms).getD (j + 1 - 1 - i) 0).testBit b = true → Bef ops b i := fun i hi b hbit => by
        by_cases c : i = j
        · subst c
          rw [show i + 1 - 1 - i = 0 by omega] at hbit
          exact hmask b (by simpa using hbit)
        · rw [show j + 1 - 1 - i = (j - 1 - i) + 1 by omega] at hbit
          exact hms i (by omega) b (by simpa using hbit)
      obtain ⟨L, σ', g1, g2, g3, g4, g5, g6, g7⟩ := drawK_run l (j + 1) _ _ _ h3 (fun i o' hi => by
        have := hl (i + 1) o' (by simpa using hi)
        rwa [show j + 1 + i = j + (i + 1) by omega]) hms'
      have hfit : ∀ x, x ∈ done → Fits ops x (j, o, annO σ o oo) := fun x hx => by
        rcases fits_all h2.1 x hx with h4 | h4
        · exact .inl (hmask _ h4)
        · exact .inr h4
      refine ⟨(j, o, annO σ o oo) :: L, σ', ⟨oo, ho, rfl, wrOk_spec h2.2, g1⟩, g2, ?_, ?_, ?_, ?_, ?_⟩
      · rw [List.map_cons, g3, List.length_cons, List.range'_succ]
      · intro x hx
        rcases List.mem_cons.1 hx with rfl | hx
        · exact hj
        · exact g4 x hx
      · intro x hx y hy
        rcases List.mem_cons.1 hy with rfl | hy
        · exact hfit x hx
        · exact g5 x (List.mem_cons_of_mem _ hx) y hy
      · exact List.pairwise_cons.2 ⟨fun y hy => g5 _ List.mem_cons_self y hy, g6⟩
      · intro i o' hi
        cases i with
        | zero => simp only [List.getElem?_cons_zero, Option.some.injEq] at hi; subst hi; exact hb
        | succ i =>
          have := g7 i o' (by simpa using hi)
          rwa [show j + (i + 1) = j + 1 + i by omega]
theorem backs_spec {j : Nat} {o : Oper} (h : backs j o = true) : ∀ e, e ∈ o.after → Region.binds .any e = true → e.on < j := fun e he hb => by
  have := List.all_eq_true.1 h e (by simpa using he)
  simp only [hb, Bool.not_true, Bool.false_or] at this
  simpa [Nat.blt_eq] using this
theorem rel_drew {σ : St C} {w0 : World} {as : List Act} {a : Act} {w : World} {pl : Pl} (h : Rel G w0 σ as a w pl) : Rel G w0 σ as a { w with drawn := w.drawn + 1 } pl := ⟨h.mem.drew, h.tmps, h.outer⟩
theorem region_draw (hF : Fit P) (hΨ : KnownOk C P Ψ) {call : Callee C R} {w0 : World} {as : List Act} {σ : St C} {a : Act} {w : World} {pl : Pl} {id : Nat} {r : R} {k : St C → Option R} {Q : Exit → Act → World → Prop} (hQ : ∀ a w, Then G w0 as k r a w → Q .normal a w)
    (h : Rel G w0 σ as a w pl) (hd : a.defers = []) (hk : regionK P Ψ call ops true σ k = some r) : (Code.region id ops true).wp P Q a w := by
  refine wp_region_any hF.mixed ?_
  simp only [regionK] at hk
  obtain ⟨L, σ', h1, h2, h3, h4, _, h6, h7⟩ := drawK_run ops.toList 0 [] [] (σ.grow (2 * ops.size)) hk (fun i o hi => by rw [Nat.zero_add]; simpa using hi) (fun i hi => by omega)
  have hlen : L.length = ops.size := by
    have := congrArg List.length h3
    simpa using this
  have hidx : ∀ j, j < ops.size → ∃ x, x ∈ L ∧ x.1 = j := fun j hj => by
    have : j ∈ L.map (·.1) := by rw [h3]; simp; exact hj
    obtain ⟨x, hx, hxj⟩ := List.mem_map.1 this
    exact ⟨x, hx, hxj⟩
  have hlt : ∀ x, x ∈ L → x.1 < ops.size := fun x hx => (Array.getElem?_eq_some_iff.1 (h4 x hx)).1
  have hnd : L.Pairwise (fun x y => x.1 ≠ y.1) := by
    have : (L.map (·.1)).Nodup := by rw [h3]; exact List.nodup_range'
    exact (List.pairwise_map.1 this)
  have hback : ∀ j o, ops[j]? = some o → ∀ e, e ∈ o.after → Region.binds .any e = true → e.on < j := fun j o ho => by
    have := h7 j o (by simpa using ho)
    rw [Nat.zero_add] at this
    exact backs_spec this
  refine draw_any (n0 := σ.H.length) hF hΨ hback (fun a' w' pl' hrel hd' => hQ a' w' ⟨σ'.trim, pl', rel_trim hrel, hd', h2⟩) ops.size L (σ.grow (2 * ops.size)) _ a _ pl hlen h1 h6 hnd h4 (fun j hj => ?_) (by simp) ?_ (fun x hx => ?_) (rel_drew (rel_grow h _)) hd
  · constructor
    · intro _; exact hidx j hj
    · intro _
      simp [hj]
  · intro j o ho hl
    have := (Array.getElem?_eq_some_iff.1 ho).1
    simp [this] at hl
  · have := hlt x hx
    rw [grow_blk]
    exact ⟨blk_out σ (by omega), by simp only [St.grow, List.length_append, List.length_replicate]; omega, blk_out σ (by omega)⟩
end
end Go.Abs
