/- SPI: one event, the program's and the document's; lists of events. -/
import Derived.Test.YtkackeahklljiaaP2
set_option linter.unusedVariables false
set_option linter.unusedSimpArgs false
namespace Go.Abs.K
open Go Go.Abs Go.Proofs

theorem act_rise (c : Spi) (v w : Int) (h : c.Mode = 0 ∨ c.Mode = 3) : act c v w ↔ v % 2 = 0 ∧ w % 2 = 1 := by unfold act; rw [if_pos h]
theorem act_fall (c : Spi) (v w : Int) (h : ¬ (c.Mode = 0 ∨ c.Mode = 3)) : act c v w ↔ v % 2 = 1 ∧ w % 2 = 0 := by unfold act; rw [if_neg h]
theorem rise_is (M : Nat) (c : Spi) (v w : Int) (h : c.Mode = 0 ∨ c.Mode = 3) : spi_edge_rise M (Spi_edge.mk v w) = some (decide (act c v w)) := by
  simp only [spi_edge_rise, b_spi_edge_rise, and_one, beq_if]
  have ha := act_rise c v w h
  by_cases h1 : v % 2 = 0
  · rw [if_pos h1]
    by_cases h2 : w % 2 = 0
    · rw [decide_eq_false (fun h => by have := ha.1 h; omega), h2]; rfl
    · rw [decide_eq_true (ha.2 ⟨h1, by omega⟩), show w % 2 = 1 by omega]; rfl
  · rw [if_neg h1, decide_eq_false (fun h => by have := ha.1 h; omega)]
theorem fall_is (M : Nat) (c : Spi) (v w : Int) (h : ¬ (c.Mode = 0 ∨ c.Mode = 3)) : spi_edge_fall M (Spi_edge.mk v w) = some (decide (act c v w)) := by
  simp only [spi_edge_fall, b_spi_edge_fall, and_one, bne_if]
  have ha := act_fall c v w h
  by_cases h1 : v % 2 = 0
  · rw [if_pos h1, decide_eq_false (fun h => by have := ha.1 h; omega)]
  · rw [if_neg h1]
    by_cases h2 : w % 2 = 0
    · rw [decide_eq_true (ha.2 ⟨by omega, h2⟩), h2]; rfl
    · rw [decide_eq_false (fun h => by have := ha.1 h; omega), show w % 2 = 1 by omega]; rfl
theorem mode_is (M : Nat) (c : Spi) : spi_active M c.Mode = some (if c.Mode = 0 ∨ c.Mode = 3 then 43 else 44) := by
  simp only [spi_active, b_spi_active, beq_if]
  by_cases h0 : c.Mode = 0
  · rw [if_pos h0, if_pos (.inl h0)]
  · rw [if_neg h0]
    by_cases h3 : c.Mode = 3
    · rw [if_pos h3, if_pos (.inr h3)]
    · rw [if_neg h3, if_neg (by omega)]
theorem active_is (M : Nat) (c : Spi) (v w : Int) {R : Type} (F : Bool → Option R) : ((spi_active M c.Mode).bind fun r => bif decide (r = 43) then (spi_edge_rise M (Spi_edge.mk v w)).bind F else bif decide (r = 44) then (spi_edge_fall M (Spi_edge.mk v w)).bind F else none) = F (decide (act c v w)) := by
  rw [mode_is, Option.bind_some]
  by_cases h : c.Mode = 0 ∨ c.Mode = 3
  · rw [if_pos h, bif_pos rfl, rise_is M c v w h, Option.bind_some]
  · rw [if_neg h, bif_neg (by decide), bif_pos rfl, fall_is M c v w h, Option.bind_some]
theorem ref_active_is (M : Nat) (c : Spi) (v w : Int) : ref24_active M c v w = some (decide (act c v w)) := by
  simp only [ref24_active, b_ref24_active, and_one, beq_if, bne_if]
  have k : ∀ b : Bool, ((w % 2 == 1) == b) = decide ((w % 2 = 1) ↔ b = true) := fun b => by
    by_cases h : w % 2 = 1
    · rw [h]; cases b <;> simp
    · have : (w % 2 == 1) = false := by simpa using h
      rw [this]; cases b <;> simp [h]
  by_cases h0 : c.Mode = 0
  · have ha := act_rise c v w (.inl h0)
    rw [if_pos h0]
    by_cases h1 : v % 2 = w % 2
    · rw [if_pos h1, decide_eq_false (fun h => by have := ha.1 h; omega)]
    · rw [if_neg h1, k]
      exact congrArg some (decide_eq_decide.2 (by rw [ha]; simp only [iff_true]; omega))
  · rw [if_neg h0]
    by_cases h1 : v % 2 = w % 2
    · rw [if_pos h1, decide_eq_false (fun h => by
        by_cases h3 : c.Mode = 0 ∨ c.Mode = 3
        · have := (act_rise c v w h3).1 h; omega
        · have := (act_fall c v w h3).1 h; omega)]
    · rw [if_neg h1, k]
      by_cases h3 : c.Mode = 3
      · have ha := act_rise c v w (.inr h3)
        have hb3 : (c.Mode == 3) = true := by simpa using h3
        exact congrArg some (decide_eq_decide.2 (by rw [ha, hb3]; simp only [iff_true]; omega))
      · have ha := act_fall c v w (by omega)
        have hb3 : (c.Mode == 3) = false := by simpa using h3
        exact congrArg some (decide_eq_decide.2 (by rw [ha, hb3]; simp only [Bool.false_eq_true, iff_false]; omega))
theorem mosi_is (v : Int) (h : 0 ≤ v ∧ v ≤ 7) : IntKind.i64.wrap ((IntKind.i64.wrap (((BitVec.ofInt 64 v &&& BitVec.ofInt 64 2).toNat : Int))).tdiv 2) = v / 2 % 2 := by
  have : v = 0 ∨ v = 1 ∨ v = 2 ∨ v = 3 ∨ v = 4 ∨ v = 5 ∨ v = 6 ∨ v = 7 := by omega
  rcases this with rfl | rfl | rfl | rfl | rfl | rfl | rfl | rfl <;> decide
theorem mosi2_is (v : Int) (h : 0 ≤ v ∧ v ≤ 7) : IntKind.i64.wrap (((BitVec.ofInt 64 (v.fdiv 2) &&& BitVec.ofInt 64 1).toNat : Int)) = v / 2 % 2 := by
  rw [and_one, Int.fdiv_eq_ediv_of_nonneg _ (by omega)]
theorem sB_zero (c : Spi) (a : A) (e : Event) (h : a.ph = 0) : stepB c a e = ({ a with ph := 1, at_ := e.To, prev := e.Value }, []) := by
  unfold stepB; rw [if_pos h]
theorem sB_start (c : Spi) (a : A) (e : Event) (h0 : a.ph ≠ 0) (h : a.prev / 4 ≠ 0 ∧ e.Value / 4 = 0) : stepB c a e = (⟨2, e.To, e.From, e.Value, [], bs [], false⟩, []) := by
  unfold stepB; rw [if_neg h0, if_pos h]
theorem sB_idle (c : Spi) (a : A) (e : Event) (h0 : a.ph ≠ 0) (h : ¬ (a.prev / 4 ≠ 0 ∧ e.Value / 4 = 0)) (h2 : a.ph ≠ 2) : stepB c a e = ({ a with at_ := e.To, prev := e.Value }, []) := by
  unfold stepB; rw [if_neg h0, if_neg h, if_pos h2]
theorem sB_end (c : Spi) (a : A) (e : Event) (h2 : a.ph = 2) (h : ¬ (a.prev / 4 ≠ 0 ∧ e.Value / 4 = 0)) (h4 : e.Value / 4 ≠ 0) : stepB c a e = ({ a with ph := 1, at_ := e.To, prev := e.Value }, [Event.mk 5 a.frm e.From 0 0 a.data (endF a)]) := by
  unfold stepB; rw [if_neg (show ¬ a.ph = 0 by omega), if_neg h, if_neg (show ¬ a.ph ≠ 2 by omega), if_pos h4]
theorem sB_act (c : Spi) (a : A) (e : Event) (h2 : a.ph = 2) (h : ¬ (a.prev / 4 ≠ 0 ∧ e.Value / 4 = 0)) (h4 : ¬ e.Value / 4 ≠ 0) (ha : act c a.prev e.Value) : stepB c a e = ({ shA c a (e.Value / 2 % 2) with at_ := e.To, prev := e.Value }, []) := by
  unfold stepB; rw [if_neg (show ¬ a.ph = 0 by omega), if_neg h, if_neg (show ¬ a.ph ≠ 2 by omega), if_neg h4, if_pos ha]
theorem sB_not (c : Spi) (a : A) (e : Event) (h2 : a.ph = 2) (h : ¬ (a.prev / 4 ≠ 0 ∧ e.Value / 4 = 0)) (h4 : ¬ e.Value / 4 ≠ 0) (ha : ¬ act c a.prev e.Value) : stepB c a e = ({ a with at_ := e.To, prev := e.Value }, []) := by
  unfold stepB; rw [if_neg (show ¬ a.ph = 0 by omega), if_neg h, if_neg (show ¬ a.ph ≠ 2 by omega), if_neg h4, if_neg ha]
theorem step_is (M : Nat) (hM : 1000 < M) (c : Spi) (a : A) (p : State) (e : Event) (hp : PR c a p) (hw : OkC c → WfA c a) : ∃ p', spi_Step M c p e = some (p', (stepA c a e).2) ∧ PR c (stepA c a e).1 p' := by
  simp only [spi_Step, b_spi_Step, (check_is M c).1, Option.bind_some]
  unfold stepA
  by_cases hc : ¬ OkC c
  · rw [if_neg hc, if_neg (fun h => hc h.1)]
    exact ⟨p, rfl, hp⟩
  have hc := Decidable.not_not.1 hc
  have w := hw hc
  rw [if_pos hc, accepts_is M c a p e hp.ph (fun h => (hp.some_ h).1), Option.bind_some]
  simp only [bne_self_eq_false, Bool.cond_false]
  by_cases hi : ¬ In a e
  · rw [if_neg (fun h => hi h.2), decide_eq_false hi]
    exact ⟨p, rfl, hp⟩
  have hi := Decidable.not_not.1 hi
  rw [if_pos ⟨hc, hi⟩, decide_eq_true hi]
  obtain ⟨_, _, _, _, hv1, hv2, _⟩ := hi
  have hfv := and_four e.Value ⟨hv1, hv2⟩
  have hv4 : e.Value / 4 = 0 ∨ e.Value / 4 = 1 := by omega
  simp only [Bool.not_true, Bool.cond_false, mosi_is e.Value ⟨hv1, hv2⟩, active_is]
  rcases w.ph with h0 | h1 | h2
  · have := hp.zero h0
    subst this
    rw [sB_zero c a e h0]
    rw [hfv]
    rcases hv4 with h4 | h4 <;> rw [h4] <;> simp only [Int.reduceMul, Int.reduceBEq, Int.reduceBNe, Bool.cond_true, Bool.cond_false]
    all_goals exact ⟨_, rfl, ⟨rfl, (fun h => absurd h (by dsimp only; decide)), (fun _ => ⟨rfl, rfl⟩), fun h => absurd h (by dsimp only; decide)⟩⟩
  · have hph : p.Phase = 1 := hp.ph.trans h1
    obtain ⟨s1, s2⟩ := hp.some_ (by omega)
    have hfp := and_four a.prev w.prev
    have hp4 : a.prev / 4 = 0 ∨ a.prev / 4 = 1 := by have := w.prev; omega
    simp only [hph, s2]
    rw [hfv, hfp]
    rcases hv4 with h4 | h4 <;> rcases hp4 with g4 | g4 <;> rw [h4, g4] <;> simp only [Int.reduceMul, Int.reduceBEq, Int.reduceBNe, Bool.cond_true, Bool.cond_false]
    · rw [sB_idle c a e (by omega) (by omega) (by omega)]
      exact ⟨_, rfl, ⟨h1.symm, (fun h => absurd (show a.ph = 0 from h) (by omega)), (fun _ => ⟨rfl, rfl⟩), fun h => absurd (show a.ph = 2 from h) (by omega)⟩⟩
    · rw [sB_start c a e (by omega) ⟨by omega, h4⟩]
      exact ⟨_, rfl, ⟨rfl, (fun h => absurd h (by dsimp only; decide)), (fun _ => ⟨rfl, rfl⟩), fun _ => ⟨rfl, rfl, rfl, by simp [byteV, revV], rfl⟩⟩⟩
    · rw [sB_idle c a e (by omega) (by omega) (by omega)]
      exact ⟨_, rfl, ⟨h1.symm, (fun h => absurd (show a.ph = 0 from h) (by omega)), (fun _ => ⟨rfl, rfl⟩), fun h => absurd (show a.ph = 2 from h) (by omega)⟩⟩
    · rw [sB_idle c a e (by omega) (by omega) (by omega)]
      exact ⟨_, rfl, ⟨h1.symm, (fun h => absurd (show a.ph = 0 from h) (by omega)), (fun _ => ⟨rfl, rfl⟩), fun h => absurd (show a.ph = 2 from h) (by omega)⟩⟩
  · have hph : p.Phase = 2 := hp.ph.trans h2
    obtain ⟨s1, s2⟩ := hp.some_ (by omega)
    obtain ⟨q1, q2, q3, q4, q5⟩ := hp.two h2
    have hfp := and_four a.prev w.prev
    have g4 := w.two h2
    simp only [hph, s2]
    rw [hfv, hfp]
    rcases hv4 with h4 | h4 <;> rw [h4, g4] <;> simp only [Int.reduceMul, Int.reduceBEq, Int.reduceBNe, Bool.cond_true, Bool.cond_false]
    · by_cases ha : act c a.prev e.Value
      · rw [decide_eq_true ha, sB_act c a e h2 (by omega) (by omega) ha, Bool.cond_true]
        obtain ⟨w1, w2, w3, w4⟩ := sh_wf c hc a (e.Value / 2 % 2) w (by omega)
        have hpr : PR c a (State.mk 2 p.At p.From p.Count p.Acc p.Aux p.Prev p.Data) := ⟨h2.symm, (fun h => absurd h (by omega)), (fun _ => ⟨s1, s2⟩), fun _ => ⟨q1, q2, q3, q4, q5⟩⟩
        have hpr2 : PR c { a with at_ := e.To, prev := e.Value } (State.mk 2 e.To p.From p.Count p.Acc p.Aux e.Value p.Data) := ⟨h2.symm, (fun h => absurd (show a.ph = 0 from h) (by omega)), (fun _ => ⟨rfl, rfl⟩), fun _ => ⟨q1, q2, q3, q4, q5⟩⟩
        have hwf2 : WfA c { a with at_ := e.To, prev := e.Value } := ⟨w.ph, w.bits, w.len, w.data, ⟨hv1, hv2⟩, fun _ => h4⟩
        obtain ⟨p', t1, t2, t3, t4, t5, t6, t7, t8, t9⟩ := shift_is M c hc _ hwf2 _ hpr2 h2 (e.Value / 2 % 2) (by omega)
        have hsh : shA c { a with at_ := e.To, prev := e.Value } (e.Value / 2 % 2) = { shA c a (e.Value / 2 % 2) with at_ := e.To, prev := e.Value } := by
          unfold shA
          dsimp only
          repeat' split
          all_goals rfl
        rw [hsh] at t6 t7 t8 t9
        rw [t1, Option.bind_some]
        refine ⟨p', rfl, ⟨?_, ?_, ?_, ?_⟩⟩
        · show p'.Phase = (shA c a _).ph
          rw [t2, w2]; exact h2.symm
        · intro h
          have h : (shA c a (e.Value / 2 % 2)).ph = 0 := h
          rw [w2] at h; omega
        · exact fun _ => ⟨t3, t4⟩
        · intro _
          refine ⟨?_, t6, t7, t8, t9⟩
          show p'.From = (shA c a _).frm
          rw [t5, w3]; exact q1
      · rw [decide_eq_false ha, sB_not c a e h2 (by omega) (by omega) ha, Bool.cond_false]
        exact ⟨_, rfl, ⟨h2.symm, (fun h => absurd (show a.ph = 0 from h) (by omega)), (fun _ => ⟨rfl, rfl⟩), fun _ => ⟨q1, q2, q3, q4, q5⟩⟩⟩
    · rw [sB_end c a e h2 (by omega) (by omega)]
      have hev : ∀ f x y, f = endF a → ∃ p', some (State.mk 1 e.To p.From x p.Acc y e.Value p.Data, [Event.mk 5 p.From e.From 0 0 p.Data f]) = some (p', [Event.mk 5 a.frm e.From 0 0 a.data (endF a)]) ∧ PR c { a with ph := 1, at_ := e.To, prev := e.Value } p' := fun f x y hf => by
        subst hf
        rw [q1, q2]
        exact ⟨_, rfl, ⟨rfl, (fun h => absurd h (by dsimp only; decide)), (fun _ => ⟨rfl, rfl⟩), fun h => absurd h (by dsimp only; decide)⟩⟩
      simp only [bif_if, beq_if, q3, q5]
      by_cases hb : a.bits = []
      · have hz : ¬ ((a.bits.length : Int) > 0) := by rw [hb]; simp
        rw [if_neg hz]
        by_cases ho : a.ov = true
        · rw [if_pos (show (if a.ov = true then (1 : Int) else 0) = 1 from if_pos ho)]
          exact hev 8 _ _ (by unfold endF; rw [if_neg (by rw [ho]; simp)])
        · rw [if_neg (show ¬ (if a.ov = true then (1 : Int) else 0) = 1 by rw [if_neg ho]; decide)]
          exact hev 0 _ _ (by unfold endF; rw [if_pos ⟨hb, by simpa using ho⟩])
      · have hz : (a.bits.length : Int) > 0 := by have := List.length_pos_iff.2 hb; omega
        rw [if_pos hz]
        exact hev 8 _ _ (by unfold endF; rw [if_neg (fun h => hb h.1)])
theorem ref_step_is (M : Nat) (hM : 1000 < M) (c : Spi) (a : A) (p : State) (e : Event) (hp : RR c a p) (hw : OkC c → WfA c a) : ∃ p', ref24_Step M c p e = some (p', (stepA c a e).2) ∧ RR c (stepA c a e).1 p' := by
  simp only [ref24_Step, b_ref24_Step, (check_is M c).2, Option.bind_some]
  unfold stepA
  by_cases hc : ¬ OkC c
  · rw [if_neg hc, if_neg (fun h => hc h.1)]
    exact ⟨p, rfl, hp⟩
  have hc := Decidable.not_not.1 hc
  have w := hw hc
  rw [if_pos hc, ref_accepts_is M c a p e hp.ph (fun h => (hp.some_ h).1), Option.bind_some]
  simp only [bne_self_eq_false, Bool.cond_false]
  by_cases hi : ¬ In a e
  · rw [if_neg (fun h => hi h.2), decide_eq_false hi]
    exact ⟨p, rfl, hp⟩
  have hi := Decidable.not_not.1 hi
  rw [if_pos ⟨hc, hi⟩, decide_eq_true hi]
  obtain ⟨_, _, _, _, hv1, hv2, _⟩ := hi
  have hfv := and_four e.Value ⟨hv1, hv2⟩
  have hv4 : e.Value / 4 = 0 ∨ e.Value / 4 = 1 := by omega
  simp only [Bool.not_true, Bool.cond_false, mosi2_is e.Value ⟨hv1, hv2⟩, ref_active_is, Option.bind_some]
  rcases w.ph with h0 | h1 | h2
  · have := hp.zero h0
    subst this
    rw [sB_zero c a e h0]
    exact ⟨_, rfl, ⟨rfl, (fun h => absurd h (by dsimp only; decide)), (fun _ => ⟨rfl, rfl⟩), fun h => absurd h (by dsimp only; decide)⟩⟩
  · have hph : p.Phase = 1 := hp.ph.trans h1
    obtain ⟨s1, s2⟩ := hp.some_ (by omega)
    have hfp := and_four a.prev w.prev
    have hp4 : a.prev / 4 = 0 ∨ a.prev / 4 = 1 := by have := w.prev; omega
    simp only [hph, s2]
    rw [hfv, hfp]
    rcases hv4 with h4 | h4 <;> rcases hp4 with g4 | g4 <;> rw [h4, g4] <;> simp only [Int.reduceMul, Int.reduceBEq, Int.reduceBNe, Bool.cond_true, Bool.cond_false]
    · rw [sB_idle c a e (by omega) (by omega) (by omega)]
      exact ⟨_, rfl, ⟨h1.symm, (fun h => absurd (show a.ph = 0 from h) (by omega)), (fun _ => ⟨rfl, rfl⟩), fun h => absurd (show a.ph = 2 from h) (by omega)⟩⟩
    · rw [sB_start c a e (by omega) ⟨by omega, h4⟩]
      exact ⟨_, rfl, ⟨rfl, (fun h => absurd h (by dsimp only; decide)), (fun _ => ⟨rfl, rfl⟩), fun _ => ⟨rfl, rfl, by simp [revV], rfl⟩⟩⟩
    · rw [sB_idle c a e (by omega) (by omega) (by omega)]
      exact ⟨_, rfl, ⟨h1.symm, (fun h => absurd (show a.ph = 0 from h) (by omega)), (fun _ => ⟨rfl, rfl⟩), fun h => absurd (show a.ph = 2 from h) (by omega)⟩⟩
    · rw [sB_idle c a e (by omega) (by omega) (by omega)]
      exact ⟨_, rfl, ⟨h1.symm, (fun h => absurd (show a.ph = 0 from h) (by omega)), (fun _ => ⟨rfl, rfl⟩), fun h => absurd (show a.ph = 2 from h) (by omega)⟩⟩
  · have hph : p.Phase = 2 := hp.ph.trans h2
    obtain ⟨s1, s2⟩ := hp.some_ (by omega)
    obtain ⟨q1, q2, q3, q4⟩ := hp.two h2
    have hfp := and_four a.prev w.prev
    have g4 := w.two h2
    have hlen := w.len
    have hc' := hc
    unfold OkC at hc'
    simp only [hph, s2]
    rw [hfv, hfp]
    rcases hv4 with h4 | h4 <;> rw [h4, g4] <;> simp only [Int.reduceMul, Int.reduceBEq, Int.reduceBNe, Bool.cond_true, Bool.cond_false]
    · by_cases ha : act c a.prev e.Value
      · rw [decide_eq_true ha, sB_act c a e h2 (by omega) (by omega) ha, Bool.cond_true]
        obtain ⟨w1, w2, w3, w4⟩ := sh_wf c hc a (e.Value / 2 % 2) w (by omega)
        obtain ⟨p', t1, t2, t3, t4, t5, t6, t7, t8⟩ := bit_is M hM c hc a w (State.mk 2 e.To p.From p.Count p.Acc p.Aux e.Value p.Data) (e.Value / 2 % 2) (by omega) q2 q3 q4
        rw [t1, Option.bind_some]
        refine ⟨p', rfl, ⟨?_, ?_, ?_, ?_⟩⟩
        · show p'.Phase = (shA c a _).ph
          rw [t2, w2]; exact h2.symm
        · intro h
          have h : (shA c a (e.Value / 2 % 2)).ph = 0 := h
          rw [w2] at h; omega
        · exact fun _ => ⟨t3, t4⟩
        · intro _
          refine ⟨?_, t6, t7, t8⟩
          show p'.From = (shA c a _).frm
          rw [t5, w3]; exact q1
      · rw [decide_eq_false ha, sB_not c a e h2 (by omega) (by omega) ha, Bool.cond_false]
        exact ⟨_, rfl, ⟨h2.symm, (fun h => absurd (show a.ph = 0 from h) (by omega)), (fun _ => ⟨rfl, rfl⟩), fun _ => ⟨q1, q2, q3, q4⟩⟩⟩
    · rw [sB_end c a e h2 (by omega) (by omega)]
      have hev : ∀ f, f = endF a → ∃ p', some (State.mk 1 e.To 0 0 0 0 e.Value (bs []), [Event.mk 5 p.From e.From 0 0 p.Data f]) = some (p', [Event.mk 5 a.frm e.From 0 0 a.data (endF a)]) ∧ RR c { a with ph := 1, at_ := e.To, prev := e.Value } p' := fun f hf => by
        subst hf
        rw [q1, q2]
        exact ⟨_, rfl, ⟨rfl, (fun h => absurd h (by dsimp only; decide)), (fun _ => ⟨rfl, rfl⟩), fun h => absurd h (by dsimp only; decide)⟩⟩
      simp only [bif_if, bne_if, q3, q4]
      have hr := revV_range (bits_reverse w.bits)
      rw [List.length_reverse] at hr
      have hpw := pow_b a.bits.length (by omega)
      by_cases hb : a.bits = []
      · have hz : (2 : Int) ^ a.bits.length + revV a.bits.reverse = 1 := by rw [hb]; rfl
        rw [if_pos hz]
        by_cases ho : a.ov = true
        · rw [if_neg (show ¬ (if a.ov = true then (1 : Int) else 0) = 0 by rw [if_pos ho]; decide)]
          exact hev 8 (by unfold endF; rw [if_neg (by rw [ho]; simp)])
        · rw [if_pos (show (if a.ov = true then (1 : Int) else 0) = 0 from if_neg ho)]
          exact hev 0 (by unfold endF; rw [if_pos ⟨hb, by simpa using ho⟩])
      · have hl1 : 1 ≤ a.bits.length := List.length_pos_iff.2 hb
        have hz : ¬ ((2 : Int) ^ a.bits.length + revV a.bits.reverse = 1) := by
          obtain ⟨n, hn⟩ : ∃ n, a.bits.length = n + 1 := ⟨a.bits.length - 1, by omega⟩
          have := pow_pos2 n
          rw [hn, pow_s]
          omega
        rw [if_neg hz]
        exact hev 8 (by unfold endF; rw [if_neg (fun h => hb h.1)])

/-! ### Lists of events -/
def endA (c : Spi) (a : A) : List Event := if OkC c ∧ a.ph = 2 then [Event.mk 5 a.frm a.at_ 0 0 (bs []) 7] else []
def runA (c : Spi) : A → List Event → A × List Event
  | a, [] => (a, [])
  | a, e :: l => ((runA c (stepA c a e).1 l).1, (stepA c a e).2 ++ (runA c (stepA c a e).1 l).2)
def decA (c : Spi) (l : List Event) : List Event := (runA c a0 l).2 ++ endA c (runA c a0 l).1
theorem end_len (c : Spi) (a : A) : (endA c a).length ≤ 1 := by unfold endA; split <;> simp
theorem end_is (M : Nat) (c : Spi) (a : A) (p : State) (hp : PR c a p) : spi_End M c p = some (endA c a) := by
  simp only [spi_End, b_spi_End, (check_is M c).1, Option.bind_some, bne_if]
  unfold endA
  by_cases hc : OkC c
  · rw [if_pos hc, if_pos rfl]
    by_cases h2 : a.ph = 2
    · rw [if_pos (by rw [hp.ph]; exact h2), if_pos ⟨hc, h2⟩, (hp.two h2).1, (hp.some_ (by omega)).1]
    · rw [if_neg (by rw [hp.ph]; exact h2), if_neg (fun h => h2 h.2)]
  · rw [if_neg hc, if_neg (by omega), if_neg (fun h => hc h.1)]
theorem ref_end_is (M : Nat) (c : Spi) (a : A) (p : State) (hp : RR c a p) : ref24_End M c p = some (endA c a) := by
  simp only [ref24_End, b_ref24_End, (check_is M c).2, Option.bind_some, bne_if]
  unfold endA
  by_cases hc : OkC c
  · rw [if_pos hc, if_pos rfl]
    by_cases h2 : a.ph = 2
    · rw [if_pos (by rw [hp.ph]; exact h2), if_pos ⟨hc, h2⟩, (hp.two h2).1, (hp.some_ (by omega)).1]
    · rw [if_neg (by rw [hp.ph]; exact h2), if_neg (fun h => h2 h.2)]
  · rw [if_neg hc, if_neg (by omega), if_neg (fun h => hc h.1)]
theorem step_len (c : Spi) (a : A) (e : Event) : (stepA c a e).2.length ≤ 1 := by
  unfold stepA stepB
  repeat' split
  all_goals simp
theorem run_len (c : Spi) : ∀ (l : List Event) (a : A), (runA c a l).2.length ≤ l.length
  | [], a => Nat.le_refl _
  | e :: l, a => by
    have h1 := step_len c a e
    have h2 := run_len c l (stepA c a e).1
    simp only [runA, List.length_append, List.length_cons]
    omega
theorem run_append (c : Spi) : ∀ (l k : List Event) (a : A), runA c a (l ++ k) = ((runA c (runA c a l).1 k).1, (runA c a l).2 ++ (runA c (runA c a l).1 k).2)
  | [], k, a => by simp [runA]
  | e :: l, k, a => by simp [runA, run_append c l k]
theorem dec_len (c : Spi) (l : List Event) : (decA c l).length ≤ l.length + 1 := by
  have h1 := run_len c l a0
  have h2 := end_len c (runA c a0 l).1
  unfold decA
  rw [List.length_append]; omega
theorem dec_l4 (M : Nat) (hM : 1000 < M) (c : Spi) (l : List Event) (hl : l.length ≤ 1000000) : ∀ (r : List Event) (i m : Nat) (a : A) (p : State) (out : List Event), l.drop i = r → r.length < m → PR c a p → (OkC c → WfA c a) → out.length + r.length ≤ 1000000 →
    spi_Decode_l4 M m (l.length : Int) (i : Int) c p out l = some (out ++ ((runA c a r).2 ++ endA c (runA c a r).1))
  | r, i, 0, a, p, out, _, hm, _, _, _ => by omega
  | [], i, m + 1, a, p, out, hr, hm, hp, hw, ho => by
    have := drop_nil hr
    have hen := end_len c a
    simp only [List.length_nil] at ho
    simp only [spi_Decode_l4, b_spi_Decode_l4]
    rw [bif_neg (by omega), end_is M c a p hp, Option.bind_some, bif_pos (by omega)]
    simp [runA]
  | e :: r, i, m + 1, a, p, out, hr, hm, hp, hw, ho => by
    obtain ⟨h1, h2, h3, h4, h5⟩ := drop_cons hr dflt_Event
    simp only [List.length_cons] at hm ho
    obtain ⟨p', e1, e2⟩ := step_is M hM c a p e hp hw
    have hl1 := step_len c a e
    simp only [spi_Decode_l4, b_spi_Decode_l4, h1, e1, Option.bind_some]
    rw [bif_pos (by omega), bif_pos (by omega), bif_pos (by omega), bif_pos (by omega), next_i i (by omega), dec_l4 M hM c l hl r (i + 1) m _ p' _ h3 (by omega) e2 (fun hc => (step_wf c a e (hw hc)).1) (by rw [List.length_append]; omega)]
    simp [runA]
theorem ref_dec_l4 (M : Nat) (hM : 1000 < M) (c : Spi) (l : List Event) (hl : l.length ≤ 1000000) : ∀ (r : List Event) (i m : Nat) (a : A) (p : State) (out : List Event), l.drop i = r → r.length < m → RR c a p → (OkC c → WfA c a) → out.length + r.length ≤ 1000000 →
    ref24_Decode_l4 M m (i : Int) l c out p = some (out ++ ((runA c a r).2 ++ endA c (runA c a r).1))
  | r, i, 0, a, p, out, _, hm, _, _, _ => by omega
  | [], i, m + 1, a, p, out, hr, hm, hp, hw, ho => by
    have := drop_nil hr
    have hen := end_len c a
    simp only [List.length_nil] at ho
    simp only [ref24_Decode_l4, b_ref24_Decode_l4]
    rw [bif_neg (by omega), ref_end_is M c a p hp, Option.bind_some, bif_pos (by omega)]
    simp [runA]
  | e :: r, i, m + 1, a, p, out, hr, hm, hp, hw, ho => by
    obtain ⟨h1, h2, h3, h4, h5⟩ := drop_cons hr dflt_Event
    simp only [List.length_cons] at hm ho
    obtain ⟨p', e1, e2⟩ := ref_step_is M hM c a p e hp hw
    have hl1 := step_len c a e
    simp only [ref24_Decode_l4, b_ref24_Decode_l4, h1, e1, Option.bind_some]
    rw [bif_pos (by omega), bif_pos (by omega), bif_pos (by omega), bif_pos (by omega), next_i i (by omega), ref_dec_l4 M hM c l hl r (i + 1) m _ p' _ h3 (by omega) e2 (fun hc => (step_wf c a e (hw hc)).1) (by rw [List.length_append]; omega)]
    simp [runA]
theorem pr0 (c : Spi) : PR c a0 st0 := ⟨rfl, fun _ => rfl, fun h => absurd rfl h, fun h => absurd h (by decide)⟩
theorem rr0 (c : Spi) : RR c a0 st0 := ⟨rfl, fun _ => rfl, fun h => absurd rfl h, fun h => absurd h (by decide)⟩
theorem wf0 (c : Spi) (hc : OkC c) : WfA c a0 := by
  unfold OkC at hc
  exact ⟨.inl rfl, bits_nil, by show (0 : Int) < _; omega, by decide, by decide, fun h => absurd h (by decide)⟩
theorem decode_is (M : Nat) (c : Spi) (l : List Event) (hl : l.length ≤ 1000000) (hM : 1000000 < M) : spi_Decode M c l = some (decA c l) := by
  simp only [spi_Decode, b_spi_Decode]
  have := dec_l4 M (by omega) c l hl l 0 M a0 st0 [] rfl (by omega) (pr0 c) (wf0 c) (by simpa using hl)
  simpa [decA] using this
theorem ref_decode_is (M : Nat) (c : Spi) (l : List Event) (hl : l.length ≤ 1000000) (hM : 1000000 < M) : ref24_Decode M c l = some (decA c l) := by
  simp only [ref24_Decode, b_ref24_Decode]
  have := ref_dec_l4 M (by omega) c l hl l 0 M a0 st0 [] rfl (by omega) (rr0 c) (wf0 c) (by simpa using hl)
  simpa [decA] using this
theorem lives_true (M : Nat) (hM : 1200 < M) : law24_lives M = some true := by
  obtain ⟨m, rfl⟩ : ∃ m, M = m + 200 := ⟨M - 200, by omega⟩
  kernel_rfl
theorem big : ∃ M : Nat, 100000000 < M := ⟨100000001, by decide⟩
theorem decodes_l7 (M : Nat) (hM : 100000000 < M) (c : Spi) (l : List Event) (hl : l.length ≤ 3000) : ∀ (r : List Event) (i m : Nat) (a : A) (p q : State), l.drop i = r → r.length < m → PR c a p → RR c a q → (OkC c → WfA c a) →
    law24_SpiDecodes_l7 M m (i : Int) l c p q = some true
  | r, i, 0, a, p, q, _, hm, _, _, _ => by omega
  | [], i, m + 1, a, p, q, hr, hm, hp, hq, hw => by
    have := drop_nil hr
    have h1 := end_len c a
    have h2 := dec_len c l
    simp only [law24_SpiDecodes_l7, b_law24_SpiDecodes_l7, (check_is M c).1, (check_is M c).2, end_is M c a p hp, ref_end_is M c a q hq, Option.bind_some, beq_self_eq_true, Bool.cond_true,
      same_self M (endA c a) (by omega) (by omega), decode_is M c l (by omega) (by omega), ref_decode_is M c l (by omega) (by omega), same_self M (decA c l) (by omega) (by omega)]
    rw [bif_neg (by omega)]
  | e :: r, i, m + 1, a, p, q, hr, hm, hp, hq, hw => by
    obtain ⟨h1, h2, h3, h4, h5⟩ := drop_cons hr dflt_Event
    simp only [List.length_cons] at hm
    obtain ⟨p', e1, e2⟩ := step_is M (by omega) c a p e hp hw
    obtain ⟨q', f1, f2⟩ := ref_step_is M (by omega) c a q e hq hw
    have hl1 := step_len c a e
    simp only [law24_SpiDecodes_l7, b_law24_SpiDecodes_l7, h1, e1, f1, Option.bind_some, same_self M (stepA c a e).2 (by omega) (by omega), Bool.not_true, Bool.cond_false]
    rw [bif_pos (by omega), bif_pos (by omega), bif_pos (by omega), next_i i (by omega)]
    simp only [bif_pos (show (0 : Int) ≤ (i : Int) by omega), bif_pos (show (i : Int) < (l.length : Int) by omega)]
    exact decodes_l7 M hM c l hl r (i + 1) m _ p' q' h3 (by omega) e2 f2 (fun hc => (step_wf c a e (hw hc)).1)
theorem SpiDecodes_true (c : Spi) (l : List Event) (hc : wf_Spi c) (hl : (∀ x, x ∈ l → wf_Event x) ∧ l.length * Try.prog.bytesOf 32 ≤ 140737488351232) : ∃ M, law24_SpiDecodes M c l = some true := by
  obtain ⟨M, hM⟩ := big
  refine ⟨M, ?_⟩
  simp only [law24_SpiDecodes, b_law24_SpiDecodes, lives_true M (by omega), Option.bind_some, Bool.not_true, Bool.cond_false]
  by_cases h : (l.length : Int) > 3000
  · rw [bif_pos h]
  · rw [bif_neg h]
    exact decodes_l7 M hM c l (by omega) l 0 M a0 st0 st0 rfl (by omega) (pr0 c) (rr0 c) (wf0 c)
end Go.Abs.K
