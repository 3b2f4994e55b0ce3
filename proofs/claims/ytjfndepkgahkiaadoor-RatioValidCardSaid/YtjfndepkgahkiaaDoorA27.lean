/- A REGION WHOSE ORDER IS LEFT OPEN, fifth part: from what was reckoned in the text's order. -/
import Derived.Test.YtjfndepkgahkiaaDoorA26
set_option linter.unusedVariables false
set_option linter.unusedSimpArgs false
namespace Go.Abs
open Go.RowKit
section
variable {C : Codec} {P : Program} {G : C.Good P} {Ψ : Known C} {ops : Array Oper} {R : Type} {n0 : Nat}

theorem force_eq {α : Type} (n : Nat) (k : Nat → α) : force n k = k n := by cases n <;> rfl
theorem mask_bit {ms : List Nat} {j b : Nat} : ∀ {es : List Edge} {s : Nat}, (maskGo ms j es s).testBit b = true → s.testBit b = true ∨ ∃ e, e ∈ es ∧ Region.binds .any e = true ∧ e.on < j ∧ (b = e.on ∨ (ms.getD (j - 1 - e.on) 0).testBit b = true)
  | [], s, h => .inl h
  | e :: es, s, h => by
    simp only [maskGo] at h
    cases hc : Region.binds .any e && Nat.blt e.on j with
    | false =>
      rw [hc] at h
      rcases mask_bit (es := es) h with h | ⟨e', h1, h2⟩
      · exact .inl h
      · exact .inr ⟨e', List.mem_cons_of_mem _ h1, h2⟩
    | true =>
      rw [hc] at h
      simp only [Bool.and_eq_true] at hc
      have hlt : e.on < j := by simpa [Nat.blt_eq] using hc.2
      rcases mask_bit (es := es) h with h | ⟨e', h1, h2⟩
      · simp only [Nat.testBit_or, Bool.or_eq_true] at h
        rcases h with (h | h) | h
        · exact .inl h
        · rw [Nat.testBit_two_pow] at h
          exact .inr ⟨e, List.mem_cons_self, hc.1, hlt, .inl (by simpa using (of_decide_eq_true h).symm)⟩
        · exact .inr ⟨e, List.mem_cons_self, hc.1, hlt, .inr h⟩
      · exact .inr ⟨e', List.mem_cons_of_mem _ h1, h2⟩
theorem fits_all {m : Nat} {o : Oper} {a : Ann} : ∀ {done : List Ent}, fitsAll ops m o a done = true → ∀ x, x ∈ done → m.testBit x.1 = true ∨ (apartOps ops x.2.1 o = true ∧ indep x.2.2 a = true)
  | [], _, x, hx => by cases hx
  | (i, o', a') :: r, h, x, hx => by
    simp only [fitsAll, Bool.and_eq_true, Bool.or_eq_true] at h
    rcases List.mem_cons.1 hx with rfl | hx
    · exact h.1
    · exact fits_all h.2 x hx
theorem wrOk_spec {σ : St C} {n : Nat} {a : Ann} (h : wrOk σ n a = true) : Wr σ n a := fun b hb => by
  have := List.all_eq_true.1 h b hb
  simp only [Bool.or_eq_true] at this
  rcases this with (h1 | h1) | h1
  · exact .inl (Nat.eq_of_beq_eq_true h1)
  · exact .inr (.inl (Nat.eq_of_beq_eq_true h1))
  · exact .inr (.inr fun e => by rw [e] at h1; cases h1)
theorem bef_trans {ops : Array Oper} {a b c : Nat} (h1 : Bef ops a b) (h2 : Bef ops b c) : Bef ops a c := by
  induction h2 with
  | edge ho he hb => exact .more ho he hb h1
  | more ho he hb _ ih => exact .more ho he hb (ih h1)
/-- Masks tell what comes ahead. -/
def MsOk (ops : Array Oper) (j : Nat) (ms : List Nat) : Prop := ∀ i, i < j → ∀ b, (ms.getD (j - 1 - i) 0).testBit b = true → Bef ops b i
theorem ms_mask {j : Nat} {ms : List Nat} {o : Oper} (hms : MsOk ops j ms) (hj : ops[j]? = some o) : ∀ b, (maskGo ms j o.after.toList 0).testBit b = true → Bef ops b j := fun b hbit => by
  rcases mask_bit hbit with h4 | ⟨e, h4, h5, h6, h7⟩
  · simp at h4
  · rcases h7 with rfl | h7
    · exact .edge hj (by simpa using h4) h5
    · exact .more hj (by simpa using h4) h5 (hms _ h6 b h7)
theorem ms_next {j : Nat} {ms : List Nat} {o : Oper} (hms : MsOk ops j ms) (hj : ops[j]? = some o) : MsOk ops (j + 1) (maskGo ms j o.after.toList 0 :: ms) := fun i hi b hbit => by
  by_cases c : i = j
  · subst c
    rw [show i + 1 - 1 - i = 0 by omega] at hbit
    exact ms_mask hms hj b (by simpa using hbit)
  · rw [show j + 1 - 1 - i = (j - 1 - i) + 1 by omega] at hbit
    exact hms i (by omega) b (by simpa using hbit)
theorem after_all {b : Nat} : ∀ (l : List Oper) (j : Nat) (ms : List Nat), afterAll b l j ms = true → MsOk ops j ms → (∀ i o, l[i]? = some o → ops[j + i]? = some o) → ∀ i o, l[i]? = some o → Bef ops b (j + i)
  | [], j, ms, _, _, _, i, o, hi => by simp at hi
  | p :: l, j, ms, h, hms, hl, i, o, hi => by
    have hj : ops[j]? = some p := hl 0 p rfl
    simp only [afterAll, force_eq, Bool.and_eq_true] at h
    cases i with
    | zero => exact ms_mask hms hj b h.1
    | succ i =>
      have := after_all l (j + 1) _ h.2 (ms_next hms hj) (fun i' o' hi' => by
        have := hl (i' + 1) o' (by simpa using hi')
        rwa [show j + 1 + i' = j + (i' + 1) by omega]) i o (by simpa using hi)
      rwa [show j + (i + 1) = j + 1 + i by omega]
theorem drawK_seg {call : Callee C R} {k : St C → Option R} {r : R} : ∀ (l : List Oper) (j : Nat) (ms : List Nat) (done : List Ent) (σ : St C), drawK P Ψ call ops n0 l j ms done σ k = some r → (∀ i o, l[i]? = some o → ops[j + i]? = some o) → MsOk ops j ms →
    ∃ L σ' l' ms', Run P Ψ ops n0 σ L σ' ∧ L.map (·.1) = List.range' j L.length ∧ l.length = L.length + l'.length ∧ (∀ i o, l'[i]? = some o → ops[j + L.length + i]? = some o) ∧ (∀ x, x ∈ L → ops[x.1]? = some x.2.1) ∧ (∀ x, x ∈ done → ∀ y, y ∈ L → Fits ops x y) ∧ L.Pairwise (Fits ops) ∧
      (∀ x, x ∈ L → backs x.1 x.2.1 = true) ∧ MsOk ops (j + L.length) ms' ∧
      ((l' = [] ∧ k σ' = some r) ∨ ∃ o l2, l' = o :: l2 ∧ backs (j + L.length) o = true ∧ wall (maskGo ms' (j + L.length) o.after.toList 0) (j + L.length) l2 ms' = true ∧
        stepK P Ψ call (n0 + 2 * (j + L.length)) ops σ' o (fun σ2 _ => drawK P Ψ call ops σ2.trim.H.length l2 (j + L.length + 1) (maskGo ms' (j + L.length) o.after.toList 0 :: ms') [] (σ2.trim.grow (2 * ops.size)) k) = some r)
  | [], j, ms, done, σ, h, _, hms => ⟨[], σ, [], ms, rfl, rfl, rfl, (fun i o hi => by simp at hi), (fun x hx => by cases hx), (fun x _ y hy => by cases hy), List.Pairwise.nil, (fun x hx => by cases hx), hms, .inl ⟨rfl, h⟩⟩
  | o :: l, j, ms, done, σ, h, hl, hms => by
    simp only [drawK] at h
    obtain ⟨hb, h1⟩ := cond_none h
    rw [force_eq] at h1
    have hj : ops[j]? = some o := hl 0 o rfl
    cases ho : outc P Ψ ops (n0 + 2 * j) σ o with
    | none =>
      refine ⟨[], σ, o :: l, ms, rfl, rfl, by simp, (fun i o' hi => by simpa using hl i o' hi), (fun x hx => by cases hx), (fun x _ y hy => by cases hy), List.Pairwise.nil, (fun x hx => by cases hx), hms, .inr ⟨o, l, rfl, hb, ?_, ?_⟩⟩
      · simp only [List.length_nil, Nat.add_zero]
        cases hw : wall (maskGo ms j o.after.toList 0) j l ms with
        | true => rfl
        | false =>
          rw [hw, Bool.cond_false, step_eq, ho] at h1
          cases h1
      · simp only [List.length_nil, Nat.add_zero]
        cases hw : wall (maskGo ms j o.after.toList 0) j l ms with
        | true =>
          rw [hw, Bool.cond_true, step_none ho] at h1
          exact h1
        | false =>
          rw [hw, Bool.cond_false, step_eq, ho] at h1
          cases h1
    | some oo =>
      rw [step_some ho] at h1
      have hall : (annO σ o oo).all = false := by cases oo <;> rfl
      rw [hall, Bool.cond_false] at h1
      obtain ⟨h2, h3⟩ := cond_none h1
      simp only [Bool.and_eq_true] at h2
      have hmask := ms_mask hms hj
      obtain ⟨L, σ', l', ms', g1, g2, g3, g4, g5, g6, g7, g8, g9, g10⟩ := drawK_seg l (j + 1) _ _ _ h3 (fun i o' hi => by
        have := hl (i + 1) o' (by simpa using hi)
        rwa [show j + 1 + i = j + (i + 1) by omega]) (ms_next hms hj)
      have hfit : ∀ x, x ∈ done → Fits ops x (j, o, annO σ o oo) := fun x hx => by
        rcases fits_all h2.1 x hx with h4 | h4
        · exact .inl (hmask _ h4)
        · exact .inr h4
      have hlen : j + ((j, o, annO σ o oo) :: L).length = j + 1 + L.length := by simp only [List.length_cons]; omega
      refine ⟨(j, o, annO σ o oo) :: L, σ', l', ms', ⟨oo, ho, rfl, wrOk_spec h2.2, g1⟩, ?_, ?_, ?_, ?_, ?_, ?_, ?_, ?_, ?_⟩
      · rw [List.map_cons, g2, List.length_cons, List.range'_succ]
      · simp only [List.length_cons]; omega
      · rw [hlen]; exact g4
      · intro x hx
        rcases List.mem_cons.1 hx with rfl | hx
        · exact hj
        · exact g5 x hx
      · intro x hx y hy
        rcases List.mem_cons.1 hy with rfl | hy
        · exact hfit x hx
        · exact g6 x (List.mem_cons_of_mem _ hx) y hy
      · exact List.pairwise_cons.2 ⟨fun y hy => g6 _ List.mem_cons_self y hy, g7⟩
      · intro x hx
        rcases List.mem_cons.1 hx with rfl | hx
        · exact hb
        · exact g8 x hx
      · rw [hlen]; exact g9
      · rw [hlen]; exact g10
/-- What an op of a segment may not have touched. -/
theorem run_slots : ∀ {L : List Ent} {σ σ' : St C} {j1 : Nat}, Run P Ψ ops n0 σ L σ' → (∀ x, x ∈ L → x.1 < j1) → σ'.H.length = σ.H.length ∧ ∀ b, n0 + 2 * j1 ≤ b → σ.blk b = .gone → σ'.blk b = .gone
  | [], σ, σ', j1, h, _ => by
    have hs : σ' = σ := h
    subst hs
    exact ⟨rfl, fun b _ h => h⟩
  | (j, o, A) :: L, σ, σ', j1, h, hL => by
    obtain ⟨oo, h1, h2, h3, h4⟩ := h
    have hj := hL _ List.mem_cons_self
    simp only at hj
    obtain ⟨i1, i2⟩ := run_slots h4 (fun x hx => hL x (List.mem_cons_of_mem _ hx))
    refine ⟨by rw [i1, apply_eq]; simp only [upd_length, List.length_map], fun b hb hg => i2 b hb ?_⟩
    have hnw : b ∉ (resO oo).up.map (·.1) := fun hh => by
      have hbw : b ∈ A.wr := by rw [← h2, ann_wr]; exact hh
      rcases h3 b hbw with h9 | h9 | h9
      · omega
      · omega
      · exact h9 hg
    rw [blk_apply hnw, hg]; rfl
theorem backs_spec {j : Nat} {o : Oper} (h : backs j o = true) : ∀ e, e ∈ o.after → Region.binds .any e = true → e.on < j := fun e he hb => by
  have := List.all_eq_true.1 h e (by simpa using he)
  simp only [hb, Bool.not_true, Bool.false_or] at this
  simpa [Nat.blt_eq] using this
theorem rel_drew {σ : St C} {w0 : Base C} {as : List Act} {a : Act} {w : World} {pl : Pl} (h : Rel G w0 σ as a w pl) : Rel G w0 σ as a { w with drawn := w.drawn + 1 } pl := ⟨h.mem.drew, h.tmps, h.outer⟩
theorem draw_all (hF : Fit P) (hΨ : KnownOk C P Ψ) {call : Callee C R} (hcall : CallOk G call) {w0 : Base C} {as : List Act} {r : R} {k : St C → Option R} {Q : Exit → Act → World → Prop}
    (hQ : ∀ (σ' : St C) a w pl, Rel G w0 σ' as a w pl → a.defers = [] → k σ' = some r → Q .normal a w) :
    ∀ (N : Nat) (l : List Oper) (j : Nat) (ms : List Nat) (n0 : Nat) (σ : St C) (listed : Array Bool) (a : Act) (w : World) (pl : Pl), l.length ≤ N → drawK P Ψ call ops n0 l j ms [] σ k = some r → (∀ i o, l[i]? = some o → ops[j + i]? = some o) → MsOk ops j ms → j + l.length = ops.size →
      (∀ i, i < ops.size → (listed.getD i true = false ↔ j ≤ i)) → listed.size = ops.size → Closed ops listed →
      (∀ i, j ≤ i → i < ops.size → σ.blk (n0 + 2 * i) = .gone ∧ n0 + 2 * i + 1 < σ.H.length ∧ σ.blk (n0 + 2 * i + 1) = .gone) →
      Rel G w0 σ as a w pl → a.defers = [] → wpAny P .any ops Q (ops.size - j) listed a w := by
  intro N
  induction N with
  | zero =>
    intro l j ms n0 σ listed a w pl hN hk hl hms hsz hun hls hcl hfr hrel hd
    have h0 : l = [] := List.eq_nil_of_length_eq_zero (by omega)
    subst h0
    simp only [List.length_nil, Nat.add_zero] at hsz
    rw [show ops.size - j = 0 by omega]
    refine ⟨?_, hQ σ a w pl hrel hd hk⟩
    rw [List.eq_nil_iff_forall_not_mem]
    intro i hi
    obtain ⟨h0, o, ho, _⟩ := mem_ready.1 hi
    have hisz := (Array.getElem?_eq_some_iff.1 ho).1
    have := (hun i hisz).1 h0
    omega
  | succ N ih =>
    intro l j ms n0 σ listed a w pl hN hk hl hms hsz hun hls hcl hfr hrel hd
    obtain ⟨L, σ', l', ms', g1, g2, g3, g4, g5, g6, g7, g8, g9, g10⟩ := drawK_seg l j ms [] σ hk hl hms
    have hidx : ∀ x, x ∈ L → j ≤ x.1 ∧ x.1 < j + L.length := fun x hx => by
      have : x.1 ∈ L.map (·.1) := List.mem_map.2 ⟨x, hx, rfl⟩
      rw [g2] at this
      simpa using this
    have hex : ∀ i, j ≤ i → i < j + L.length → ∃ x, x ∈ L ∧ x.1 = i := fun i h1 h2 => by
      have : i ∈ L.map (·.1) := by rw [g2]; simp; omega
      obtain ⟨x, hx, hxi⟩ := List.mem_map.1 this
      exact ⟨x, hx, hxi⟩
    have hnd : L.Pairwise (fun x y => x.1 ≠ y.1) := by
      have : (L.map (·.1)).Nodup := by rw [g2]; exact List.nodup_range'
      exact (List.pairwise_map.1 this)
    obtain ⟨s1, s2⟩ := run_slots g1 (fun x hx => (hidx x hx).2)
    have hwall : ∀ o l2, l' = o :: l2 → wall (maskGo ms' (j + L.length) o.after.toList 0) (j + L.length) l2 ms' = true → (∀ i, i < j + L.length → Bef ops i (j + L.length)) ∧ ∀ i, j + L.length < i → i < ops.size → Bef ops (j + L.length) i := fun o l2 hl' hw => by
      simp only [wall, Bool.and_eq_true] at hw
      have hoj : ops[j + L.length]? = some o := by
        have := g4 0 o (by rw [hl']; rfl)
        simpa using this
      have hm : maskGo ms' (j + L.length) o.after.toList 0 = 2 ^ (j + L.length) - 1 := by
        have := Nat.eq_of_beq_eq_true hw.1
        omega
      refine ⟨fun i hi => ms_mask g9 hoj i (by rw [hm, Nat.testBit_two_pow_sub_one]; simp [hi]), fun i h1 h2 => ?_⟩
      have hlen2 : l'.length = l2.length + 1 := by rw [hl']; rfl
      have := after_all l2 (j + L.length + 1) _ hw.2 (ms_next g9 hoj) (fun i' o' hi' => by
        have := g4 (i' + 1) o' (by rw [hl']; simpa using hi')
        rwa [show j + L.length + 1 + i' = j + L.length + (i' + 1) by omega]) (i - (j + L.length + 1)) l2[i - (j + L.length + 1)] (List.getElem?_eq_getElem (by omega))
      rwa [show j + L.length + 1 + (i - (j + L.length + 1)) = i by omega] at this
    have hBackL : ∀ i o, (j ≤ i ∧ i < j + L.length) → ops[i]? = some o → ∀ e, e ∈ o.after → Region.binds .any e = true → e.on < i := fun i o hi ho => by
      obtain ⟨x, hx, hxi⟩ := hex i hi.1 hi.2
      have h1 := g5 x hx
      rw [hxi, ho] at h1
      injection h1 with h1
      have := backs_spec (g8 x hx)
      rw [hxi, ← h1] at this
      exact this
    have hsplit : ops.size - j = L.length + (ops.size - (j + L.length)) := by omega
    rw [hsplit]
    refine draw_seg (n0 := n0) (j1 := j + L.length) (B := fun i => j ≤ i ∧ i < j + L.length) (σ' := σ') hF hΨ hBackL (fun i h1 h2 i0 h3 hB => ?_) ?_ L.length L σ listed a w pl rfl g1 g7 hnd g5 (fun x hx => ⟨(hidx x hx).2, hidx x hx⟩) (fun i hi => ?_) hls hcl (fun x hx => hfr x.1 (hidx x hx).1 (Array.getElem?_eq_some_iff.1 (g5 x hx)).1) hrel hd
    · rcases g10 with ⟨g10, _⟩ | ⟨o, l2, g11, _, g12, _⟩
      · rw [g10] at g3; simp only [List.length_nil, Nat.add_zero] at g3; omega
      · obtain ⟨w1, w2⟩ := hwall o l2 g11 g12
        by_cases c : i = j + L.length
        · rw [c]; exact w1 i0 h3
        · exact bef_trans (w1 i0 h3) (w2 i (by omega) h2)
    · intro listed' a' w' pl' hun' hls' hcl' hrel' hd'
      rcases g10 with ⟨g10, g11⟩ | ⟨o, l2, g11, gb, g12, g13⟩
      · rw [g10] at g3
        simp only [List.length_nil, Nat.add_zero] at g3
        rw [show ops.size - (j + L.length) = 0 by omega]
        refine ⟨?_, hQ σ' a' w' pl' hrel' hd' g11⟩
        rw [List.eq_nil_iff_forall_not_mem]
        intro i hi
        obtain ⟨h0, o, ho, _⟩ := mem_ready.1 hi
        have hisz := (Array.getElem?_eq_some_iff.1 ho).1
        have := (hun' i hisz).1 h0
        omega
      · have hlen2 : l'.length = l2.length + 1 := by rw [g11]; rfl
        obtain ⟨w1, w2⟩ := hwall o l2 g11 g12
        have hoj : ops[j + L.length]? = some o := by
          have := g4 0 o (by rw [g11]; rfl)
          simpa using this
        have hjs : j + L.length < ops.size := (Array.getElem?_eq_some_iff.1 hoj).1
        have hlisted : ∀ i, i < j + L.length → listed'.getD i false = true := fun i hi => by
          have h1 : i < listed'.size := by omega
          have h2 := hun' i (by omega)
          simp only [Array.getD_eq_getD_getElem?, Array.getElem?_eq_getElem h1, Option.getD_some] at h2 ⊢
          cases hb : listed'[i] with
          | true => rfl
          | false => have := h2.1 hb; omega
        rw [show ops.size - (j + L.length) = (ops.size - (j + L.length + 1)) + 1 by omega]
        refine ⟨fun hr => ?_, fun i hi => ?_⟩
        · exfalso
          have : j + L.length ∈ Region.ready .any ops listed' := by
            refine mem_ready.2 ⟨(hun' _ hjs).2 (Nat.le_refl _), o, hoj, fun e he hb => ?_⟩
            exact hlisted e.on (backs_spec gb e he hb)
          rw [hr] at this
          cases this
        · obtain ⟨h0, o', ho', hpre⟩ := mem_ready.1 hi
          have hisz := (Array.getElem?_eq_some_iff.1 ho').1
          have hge := (hun' i hisz).1 h0
          have hieq : i = j + L.length := by
            by_cases c : i = j + L.length
            · exact c
            · exfalso
              have h1 := bef_listed hcl' (w2 i (by omega) hisz) (fun o2 ho2 e he hb => by
                rw [ho'] at ho2; injection ho2 with ho2; subst ho2; exact hpre e he hb)
              have h2 := (hun' _ hjs).2 (Nat.le_refl _)
              have h3 : j + L.length < listed'.size := by omega
              simp only [Array.getD_eq_getD_getElem?, Array.getElem?_eq_getElem h3, Option.getD_some] at h1 h2
              rw [h1] at h2; cases h2
          subst hieq
          have hslot : σ'.blk (n0 + 2 * (j + L.length)) = .gone ∧ n0 + 2 * (j + L.length) + 1 < σ'.H.length ∧ σ'.blk (n0 + 2 * (j + L.length) + 1) = .gone := by
            obtain ⟨q1, q2, q3⟩ := hfr (j + L.length) (by omega) hjs
            exact ⟨s2 _ (by omega) q1, by rw [s1]; exact q2, s2 _ (by omega) q3⟩
          refine wpOp_mono (fun a2 w2' ha => ?_) (step_sound hF hΨ hcall hrel' hd' hoj (fun _ => hslot) g13)
          obtain ⟨σ2, an, pl2, hrel2, hd2, he2⟩ := ha
          refine ih l2 (j + L.length + 1) _ _ _ _ a2 w2' pl2 (by omega) he2 (fun i' o2 hi' => ?_) (ms_next g9 hoj) (by omega) (fun i' hi' => ?_) (by simp [hls']) ?_ (fun i' h1 h2 => ?_) (rel_grow (rel_trim hrel2) _) hd2
          · have := g4 (i' + 1) o2 (by rw [g11]; simpa using hi')
            rwa [show j + L.length + 1 + i' = j + L.length + (i' + 1) by omega]
          · by_cases c : j + L.length = i'
            · subst c
              have : j + L.length < listed'.size := by omega
              constructor
              · intro hh; simp [this] at hh
              · intro hh; omega
            · rw [getD_set_ne true c, hun' i' hi']; omega
          · intro j' o2 ho2 hl2 e he hb
            by_cases c : j + L.length = j'
            · subst c
              rw [hoj] at ho2; injection ho2 with ho2; subst ho2
              exact getD_set_true (hlisted e.on (backs_spec gb e he hb))
            · rw [getD_set_ne false c] at hl2
              exact getD_set_true (hcl' j' o2 ho2 hl2 e he hb)
          · rw [grow_blk]
            exact ⟨blk_out _ (by omega), by simp only [St.grow, List.length_append, List.length_replicate]; omega, blk_out _ (by omega)⟩
    · rw [hun i hi]
      constructor
      · intro h
        by_cases c : i < j + L.length
        · exact .inl (hex i h c)
        · exact .inr (by omega)
      · rintro (⟨x, hx, hxi⟩ | h)
        · have := hidx x hx; omega
        · omega
theorem rel_disUp {w0 : Base C} {σ : St C} {as : List Act} {a : Act} {w : World} {pl : Pl} (h : Rel G w0 σ as a w pl) (b : Nat) : Rel G w0 { σ with H := upd σ.H (disUp σ.blk b) } as a w pl := by
  unfold disUp
  split
  · rename_i e xs hb
    have hlen : b < σ.H.length := blk_lt (by rw [hb]; intro hh; cases hh)
    have hH : ∀ c, ({ σ with H := upd σ.H [(b, .row e false xs)] } : St C).blk c = if c = b then .row e false xs else σ.blk c := fun c => by
      simp only [St.blk, upd]
      exact getD_set _ _ _ _ _ hlen
    refine ⟨⟨h.mem.below, fun c => ?_, fun c c' g hne hoc hc hc' => ?_, fun c g hoc hc => ?_⟩, h.tmps, h.outer⟩
    · rw [hH]
      by_cases e1 : c = b
      · subst e1
        rw [if_pos rfl]
        exact blk_ro (hb ▸ h.mem.blk c)
      · rw [if_neg e1]; exact h.mem.blk c
    · rw [hH] at hoc
      by_cases e1 : c = b
      · rw [if_pos e1] at hoc; cases hoc
      · rw [if_neg e1] at hoc; exact h.mem.apart c c' g hne hoc hc hc'
    · rw [hH] at hoc
      by_cases e1 : c = b
      · rw [if_pos e1] at hoc; cases hoc
      · rw [if_neg e1] at hoc; exact h.mem.may c g hoc hc
  · exact h
theorem rel_disown {w0 : Base C} {as : List Act} {a : Act} {w : World} {pl : Pl} (ops : List Oper) : ∀ (l : List Oper) {σ : St C}, Rel G w0 σ as a w pl → Rel G w0 (disown ops l σ) as a w pl
  | [], σ, h => h
  | o :: l, σ, h => by
    refine rel_disown ops l ?_
    unfold disown1
    split
    · unfold disT
      split
      · exact rel_disUp h _
      · exact h
    · exact h
theorem region_draw (hF : Fit P) (hΨ : KnownOk C P Ψ) {call : Callee C R} (hcall : CallOk G call) {w0 : Base C} {as : List Act} {σ : St C} {a : Act} {w : World} {pl : Pl} {id : Nat} {r : R} {k : St C → Option R} {Q : Exit → Act → World → Prop} (hQ : ∀ a w, Then G w0 as k r a w → Q .normal a w)
    (h : Rel G w0 σ as a w pl) (hd : a.defers = []) (hk : regionK P Ψ call ops true σ k = some r) : (Code.region id ops true).wp P Q a w := by
  refine wp_region_any hF.mixed ?_
  simp only [regionK] at hk
  have := draw_all (Q := Q) hF hΨ hcall (fun σ' a' w' pl' hrel hd' hkk => hQ a' w' ⟨σ'.trim, pl', rel_trim hrel, hd', hkk⟩) ops.toList.length ops.toList 0 [] (disown ops.toList ops.toList σ).H.length ((disown ops.toList ops.toList σ).grow (2 * ops.size)) (Array.replicate ops.size false) a _ pl (Nat.le_refl _) hk (fun i o hi => by rw [Nat.zero_add]; simpa using hi) (fun i hi => by omega) (by simp) (fun i hi => by simp [hi]) (by simp) (fun j o ho hl => by
    have := (Array.getElem?_eq_some_iff.1 ho).1
    simp [this] at hl) (fun i _ hi => by
    rw [grow_blk]
    exact ⟨blk_out _ (by omega), by simp only [St.grow, List.length_append, List.length_replicate]; omega, blk_out _ (by omega)⟩) (rel_drew (rel_grow (rel_disown _ _ h) _)) hd
  simpa using this
end
end Go.Abs
