/- UART: one event, to its end. -/
import Derived.Test.YtlpileejhdadaaaP3
set_option linter.unusedVariables false
set_option linter.unusedSimpArgs false
namespace Go.Abs.K
open Go Go.Abs Go.Proofs

theorem step_is {M : Nat} (hM : 100 < M) {c : Uart} {v : Int} (H : Cf M c v) (a : A) (p : State) (e : Event) (hp : PR c a p) (hw : WfA c a) : ∃ p', uart_Step M c p e = some (p', (stepA c v a e).2) ∧ PR c (stepA c v a e).1 p' := by
  simp only [uart_Step, b_uart_Step, H.p, Option.bind_some, bne_if]
  unfold stepA
  by_cases hv0 : v = 0
  case neg =>
    rw [if_neg hv0, if_neg (fun h => hv0 h.1)]
    exact ⟨p, rfl, hp⟩
  have h := H.ok hv0
  rw [if_pos hv0, (accepts_is M c a p e hp).1, Option.bind_some]
  by_cases hi : In a e
  case neg =>
    rw [if_neg (fun h => hi h.2), decide_eq_false hi]
    exact ⟨p, rfl, hp⟩
  rw [if_pos ⟨hv0, hi⟩, decide_eq_true hi]
  obtain ⟨v1, v2, v3, v4⟩ := vld_of a e hi
  have ht := tot_b c h
  obtain ⟨m, rfl⟩ : ∃ m, M = m + 3 := ⟨M - 3, by omega⟩
  simp only [Bool.not_true, Bool.cond_false, beq_if]
  -- the samples, from a state in a frame
  have samp : ∀ (F k acc : Int) (at9 : Int) (s : State) (m' : Nat), 20 < m' → s.Phase = 2 → s.From = F → s.Count = k → s.Acc = acc → s.At = e.To → (0 ≤ F ∧ F ≤ 1099511627776) → (0 ≤ k ∧ k < tot c) → (0 ≤ acc ∧ acc < pw k) → ∃ p', uart_Step_l8 (m + 3) m' at9 c s e (State.mk 0 0 0 0 0 0 0 (bs [])) [] = some (p', (go c ⟨2, e.To, F, k, acc⟩ e).2) ∧ PR c (go c ⟨2, e.To, F, k, acc⟩ e).1 p' := fun F k acc at9 s m' hm q1 q2 q3 q4 q5 w1 w2 w3 => by
    obtain ⟨g1, g2, g3, g4, g5⟩ := go_wf c h ⟨2, e.To, F, k, acc⟩ e w1 w2 w3 v4
    obtain ⟨N, hN⟩ : ∃ N, (tot c - k).toNat = N + 1 := ⟨(tot c - k).toNat - 1, by omega⟩
    have key := l8_samp (m + 3) hM c h s (State.mk 0 0 0 0 0 0 0 (bs [])) e v4 v3 N m' at9 s [] q1 (by omega) (by omega) (by omega) (by rw [q3, q4]; exact w3) (by rw [q2]; exact w1) (by simp)
    rw [q2, q3, q4, ← hN, List.nil_append] at key
    refine ⟨_, key, ⟨rfl, fun h0 => absurd h0 g4, fun _ => q5, fun _ => ⟨rfl, rfl, rfl⟩, ?_⟩⟩
    have : 0 ≤ (go c ⟨2, e.To, F, k, acc⟩ e).1.cnt ∧ (go c ⟨2, e.To, F, k, acc⟩ e).1.cnt ≤ 13 := ⟨g5.1, by omega⟩
    exact this
  -- without a frame
  have idle : ∀ (s : State) (m' : Nat), 30 < m' → s.Phase = 1 → s.At = e.To → (0 ≤ s.Count ∧ s.Count ≤ 13) → ∃ p', uart_Step_l8 (m + 3) m' e.From c s e (State.mk 0 0 0 0 0 0 0 (bs [])) [] = some (p', (if e.Value = 1 then ((⟨1, e.To, 0, 0, 0⟩ : A), ([] : List Event)) else go c ⟨2, e.To, e.From, 0, 0⟩ e).2) ∧ (e.Value = 1 → p'.Phase = 1 ∧ p'.At = e.To ∧ 0 ≤ p'.Count ∧ p'.Count ≤ 13) ∧ (¬ e.Value = 1 → PR c (go c ⟨2, e.To, e.From, 0, 0⟩ e).1 p') := fun s m' hm q1 q2 q3 => by
    obtain ⟨m2, rfl⟩ : ∃ m2, m' = m2 + 1 := ⟨m' - 1, by omega⟩
    simp only [uart_Step_l8, b_uart_Step_l8, beq_if]
    rw [if_neg (show ¬ s.Phase = 3 by omega), if_neg (show ¬ s.Phase = 2 by omega)]
    by_cases c1 : e.Value = 1
    · rw [if_pos c1, if_pos c1]
      exact ⟨_, rfl, fun _ => ⟨rfl, q2, q3⟩, fun hh => absurd c1 hh⟩
    · rw [if_neg c1, if_neg c1]
      obtain ⟨p', e1, e2⟩ := samp e.From 0 0 e.From { s with Phase := 2, From := e.From, Count := 0, Acc := 0 } m2 (by omega) rfl rfl rfl rfl q2 (by omega) (by omega) (by rw [pw0]; omega)
      exact ⟨p', e1, fun hh => absurd hh c1, fun _ => e2⟩
  have hpr1 : ∀ p' : State, p'.Phase = 1 ∧ p'.At = e.To ∧ 0 ≤ p'.Count ∧ p'.Count ≤ 13 → PR c { a with ph := 1, at_ := e.To } p' := fun p' hh => ⟨hh.1, fun h0 => absurd (show (1 : Int) = 0 from h0) (by decide), fun _ => hh.2.1, fun h0 => absurd (show (1 : Int) = 2 from h0) (by decide), hh.2.2⟩
  have close1 : ∀ s : State, s.Phase = 1 → s.At = e.To → (0 ≤ s.Count ∧ s.Count ≤ 13) → ∃ p', uart_Step_l8 (m + 3) (m + 3) e.From c s e (State.mk 0 0 0 0 0 0 0 (bs [])) [] = some (p', (if e.Value = 1 then ({ a with ph := 1, at_ := e.To }, ([] : List Event)) else go c ⟨2, e.To, e.From, 0, 0⟩ e).2) ∧ PR c (if e.Value = 1 then ({ a with ph := 1, at_ := e.To }, ([] : List Event)) else go c ⟨2, e.To, e.From, 0, 0⟩ e).1 p' := fun s q1 q2 q3 => by
    obtain ⟨p', e1, e2, e3⟩ := idle s (m + 3) (by omega) q1 q2 q3
    by_cases c1 : e.Value = 1
    · rw [if_pos c1] at e1 ⊢
      exact ⟨p', e1, hpr1 p' (e2 c1)⟩
    · rw [if_neg c1] at e1 ⊢
      exact ⟨p', e1, e3 c1⟩
  unfold stepB
  rcases hw.ph with h0 | h1 | h2 | h3
  · have hst := hp.zero h0
    subst hst
    rw [if_pos (show st0.Phase = 0 from rfl), if_neg (show ¬ a.ph = 2 by omega), if_neg (show ¬ a.ph = 3 by omega)]
    exact close1 _ rfl rfl ⟨show (0 : Int) ≤ 0 by decide, show (0 : Int) ≤ 13 by decide⟩
  · have hph : p.Phase = 1 := hp.ph.trans h1
    rw [if_neg (show ¬ p.Phase = 0 by omega), if_neg (show ¬ a.ph = 2 by omega), if_neg (show ¬ a.ph = 3 by omega)]
    exact close1 _ hph rfl hp.cnt
  · have hph : p.Phase = 2 := hp.ph.trans h2
    obtain ⟨q1, q2, q3⟩ := hp.two h2
    obtain ⟨w1, w2, w3⟩ := hw.two h2
    rw [if_neg (show ¬ p.Phase = 0 by omega), if_pos h2]
    have := samp a.frm a.cnt a.acc e.From { p with At := e.To } (m + 3) (by omega) hph q1 q2 q3 rfl w1 w2 w3
    have hgo : go c ⟨2, e.To, a.frm, a.cnt, a.acc⟩ e = go c a e := rfl
    rw [hgo] at this
    exact this
  · have hph : p.Phase = 3 := hp.ph.trans h3
    rw [if_neg (show ¬ p.Phase = 0 by omega), if_neg (show ¬ a.ph = 2 by omega), if_pos h3]
    rw [uart_Step_l8]
    simp only [b_uart_Step_l8, beq_if]
    rw [if_pos hph]
    by_cases c1 : e.Value = 0
    · rw [if_pos c1, if_pos c1]
      exact ⟨_, rfl, ⟨hp.ph, fun h0 => absurd (show a.ph = 0 from h0) (by omega), fun _ => rfl, fun h0 => absurd (show a.ph = 2 from h0) (by omega), hp.cnt⟩⟩
    · rw [if_neg c1, if_neg c1]
      obtain ⟨p', e1, e2, e3⟩ := idle { p with At := e.To, Phase := 1 } (m + 2) (by omega) rfl rfl hp.cnt
      rw [if_pos (show e.Value = 1 by omega)] at e1
      exact ⟨p', e1, hpr1 p' (e2 (by omega))⟩

/-! ### The document's -/
theorem l9_skip (M : Nat) (c : Uart) (h : OkU c) (e z : State) (ev : Event) (hT : ev.To ≤ 1099511627776) : ∀ (N m : Nat) (k : Int) (s : State) (out : List Event), k + N = tot c → N < m → 0 ≤ k → (s.Phase = 2 → 0 ≤ s.From ∧ s.From ≤ 1099511627776 ∧ ev.To ≤ s.From + hv c (2 * k + 1)) → ref22_Step_l9 M m k c s ev z out = some ({ s with At := ev.To }, out)
  | N, 0, k, s, out, _, hm, _, _ => by omega
  | 0, m + 1, k, s, out, hk, hm, h0, hs => by
    simp only [ref22_Step_l9, b_ref22_Step_l9, (size_is M c h).2, Option.bind_some]
    rw [bif_neg (by omega)]
  | N + 1, m + 1, k, s, out, hk, hm, h0, hs => by
    have ht := tot_b c h
    have hmono := hv_mono c h (2 * k + 1) (2 * (k + 1) + 1) (by omega)
    have ih := l9_skip M c h e z ev hT N m (k + 1) s out (by omega) (by omega) (by omega) (fun h2 => by have := hs h2; omega)
    obtain ⟨b1, b2, b3, b4⟩ := hv_b c h (2 * k + 1) (by omega)
    simp only [ref22_Step_l9, b_ref22_Step_l9, (size_is M c h).2, Option.bind_some, beq_if]
    rw [bif_pos (by omega), i64_ok (n := k + 1) (by omega)]
    by_cases h2 : s.Phase = 2
    · have hh := hs h2
      rw [if_pos h2, sample_is M c h k (by omega), Option.bind_some, i64_ok (n := s.From + hv c (2 * k + 1)) (by omega), bif_neg (by omega)]
      exact ih
    · rw [if_neg h2]
      exact ih
theorem l9_samp (M : Nat) (hM : 100 < M) (c : Uart) (h : OkU c) (e z : State) (ev : Event) (hv' : ev.Value = 0 ∨ ev.Value = 1) (hT : ev.To ≤ 1099511627776) : ∀ (N m : Nat) (s : State) (out : List Event), s.Phase = 2 → s.Count + (N : Nat) = tot c → N < m → 0 ≤ s.Count → (0 ≤ s.Acc ∧ s.Acc < pw s.Count) → 0 ≤ s.From ∧ s.From ≤ 1099511627776 → out.length ≤ 1000 →
    ref22_Step_l9 M m s.Count c s ev z out = some ({ s with At := ev.To, Phase := (sampL c s.From ev.To ev.Value N s.Count s.Acc).1, Count := (sampL c s.From ev.To ev.Value N s.Count s.Acc).2.1, Acc := (sampL c s.From ev.To ev.Value N s.Count s.Acc).2.2.1 }, out ++ (sampL c s.From ev.To ev.Value N s.Count s.Acc).2.2.2)
  | N, 0, s, out, _, _, hm, _, _, _, _ => by omega
  | 0, m + 1, s, out, h2, hk, hm, h0, ha, hf, ho => by
    simp only [ref22_Step_l9, b_ref22_Step_l9, (size_is M c h).2, Option.bind_some]
    rw [bif_neg (by omega)]
    simp only [sampL, List.append_nil]
    have : { s with At := ev.To } = { s with At := ev.To, Phase := 2 } := by cases s; simp only at h2; subst h2; rfl
    exact congrArg (fun q => some (q, out)) this
  | N + 1, m + 1, s, out, h2, hk, hm, h0, ha, hf, ho => by
    have ht := tot_b c h
    obtain ⟨b1, b2, b3, b4⟩ := hv_b c h (2 * s.Count + 1) (by omega)
    have hp := pw_b s.Count (by omega)
    have hps := pw_s s.Count h0
    have hmul : 0 ≤ ev.Value * pw s.Count ∧ ev.Value * pw s.Count ≤ pw s.Count := by rcases hv' with q | q <;> rw [q] <;> omega
    have hp2 := pw_b (s.Count + 1) (by omega)
    have hmono := hv_mono c h (2 * s.Count + 1) (2 * (s.Count + 1) + 1) (by omega)
    simp only [sampL]
    by_cases c1 : s.From + hv c (2 * s.Count + 1) < ev.To
    · simp only [if_pos c1]
      have fin := read_is M (by omega) c h s.From (s.Acc + ev.Value * pw s.Count) hf (by omega)
      simp only [ref22_Step_l9, b_ref22_Step_l9, (size_is M c h).2, Option.bind_some, beq_if]
      rw [bif_pos (by omega), if_pos h2, sample_is M c h s.Count (by omega), Option.bind_some, i64_ok (n := s.From + hv c (2 * s.Count + 1)) (by omega), bif_pos c1, bif_neg (by omega), min_pw s.Count (by omega)]
      simp only [i64_ok (n := ev.Value * pw s.Count) (by omega), i64_ok (n := s.Acc + ev.Value * pw s.Count) (by omega), i64_ok (n := s.Count + 1) (by omega), i64_ok (n := tot c - 1) (by omega), fin, Option.bind_some, bif_pos (show (out.length + 1) * 64 ≤ 140737488355328 by omega)]
      by_cases c2 : s.Count = 0 ∧ ev.Value = 1
      · rw [if_pos c2.1, if_pos c2.2, if_neg (by omega)]
        simp only [if_pos c2]
        rw [l9_skip M c h e z ev hT N m (s.Count + 1) _ out (by omega) (by omega) (by omega) (fun hh => absurd (show (1 : Int) = 2 from hh) (by decide)), List.append_nil]
      · simp only [if_neg c2]
        have rest : (if s.Count = tot c - 1 then (if ev.Value = 0 then ref22_Step_l9 M m (s.Count + 1) c { s with Phase := 3, Count := s.Count + 1, Acc := s.Acc + ev.Value * pw s.Count } ev z (out ++ [evA c s.From (s.Acc + ev.Value * pw s.Count)]) else ref22_Step_l9 M m (s.Count + 1) c { s with Phase := 1, Count := s.Count + 1, Acc := s.Acc + ev.Value * pw s.Count } ev z (out ++ [evA c s.From (s.Acc + ev.Value * pw s.Count)])) else ref22_Step_l9 M m (s.Count + 1) c { s with Count := s.Count + 1, Acc := s.Acc + ev.Value * pw s.Count } ev z out) = some ({ s with At := ev.To, Phase := (if s.Count + 1 < tot c then sampL c s.From ev.To ev.Value N (s.Count + 1) (s.Acc + ev.Value * pw s.Count) else (if ev.Value = 1 then 1 else 3, s.Count + 1, s.Acc + ev.Value * pw s.Count, [evA c s.From (s.Acc + ev.Value * pw s.Count)])).1, Count := (if s.Count + 1 < tot c then sampL c s.From ev.To ev.Value N (s.Count + 1) (s.Acc + ev.Value * pw s.Count) else (if ev.Value = 1 then 1 else 3, s.Count + 1, s.Acc + ev.Value * pw s.Count, [evA c s.From (s.Acc + ev.Value * pw s.Count)])).2.1, Acc := (if s.Count + 1 < tot c then sampL c s.From ev.To ev.Value N (s.Count + 1) (s.Acc + ev.Value * pw s.Count) else (if ev.Value = 1 then 1 else 3, s.Count + 1, s.Acc + ev.Value * pw s.Count, [evA c s.From (s.Acc + ev.Value * pw s.Count)])).2.2.1 }, out ++ (if s.Count + 1 < tot c then sampL c s.From ev.To ev.Value N (s.Count + 1) (s.Acc + ev.Value * pw s.Count) else (if ev.Value = 1 then 1 else 3, s.Count + 1, s.Acc + ev.Value * pw s.Count, [evA c s.From (s.Acc + ev.Value * pw s.Count)])).2.2.2) := by
          by_cases c3 : s.Count + 1 < tot c
          · rw [if_neg (show ¬ s.Count = tot c - 1 by omega)]
            simp only [if_pos c3]
            exact l9_samp M hM c h e z ev hv' hT N m { s with Count := s.Count + 1, Acc := s.Acc + ev.Value * pw s.Count } out h2 (by dsimp only; omega) (by omega) (by dsimp only; omega) (by dsimp only; omega) hf ho
          · rw [if_pos (show s.Count = tot c - 1 by omega)]
            simp only [if_neg c3]
            by_cases c4 : ev.Value = 0
            · rw [if_pos c4]
              simp only [if_neg (show ¬ ev.Value = 1 by omega)]
              exact l9_skip M c h e z ev hT N m (s.Count + 1) _ _ (by omega) (by omega) (by omega) (fun hh => absurd (show (3 : Int) = 2 from hh) (by decide))
            · rw [if_neg c4]
              simp only [if_pos (show ev.Value = 1 by omega)]
              exact l9_skip M c h e z ev hT N m (s.Count + 1) _ _ (by omega) (by omega) (by omega) (fun hh => absurd (show (1 : Int) = 2 from hh) (by decide))
        by_cases c5 : s.Count = 0
        · rw [if_pos c5, if_neg (show ¬ ev.Value = 1 by omega)]
          exact rest
        · rw [if_neg c5]
          exact rest
    · simp only [if_neg c1, List.append_nil]
      rw [l9_skip M c h e z ev hT (N + 1) (m + 1) s.Count s out (by omega) (by omega) h0 (fun _ => ⟨hf.1, hf.2, by omega⟩)]
      have : { s with At := ev.To } = { s with At := ev.To, Phase := 2 } := by cases s; simp only at h2; subst h2; rfl
      exact congrArg (fun q => some (q, out)) this
theorem ref_step_is {M : Nat} (hM : 100 < M) {c : Uart} {v : Int} (H : Cf M c v) (a : A) (p : State) (e : Event) (hp : PR c a p) (hc : a.ph ≠ 0 → p.Count ≤ tot c) (hw : WfA c a) : ∃ p', ref22_Step M c p e = some (p', (stepA c v a e).2) ∧ PR c (stepA c v a e).1 p' ∧ ((stepA c v a e).1.ph ≠ 0 → p'.Count ≤ tot c) := by
  simp only [ref22_Step, b_ref22_Step, H.r, Option.bind_some, bne_if]
  unfold stepA
  by_cases hv0 : v = 0
  case neg =>
    rw [if_neg hv0, if_neg (fun h => hv0 h.1)]
    exact ⟨p, rfl, hp, hc⟩
  have h := H.ok hv0
  rw [if_pos hv0, (accepts_is M c a p e hp).2, Option.bind_some]
  by_cases hi : In a e
  case neg =>
    rw [if_neg (fun h => hi h.2), decide_eq_false hi]
    exact ⟨p, rfl, hp, hc⟩
  rw [if_pos ⟨hv0, hi⟩, decide_eq_true hi]
  obtain ⟨v1, v2, v3, v4⟩ := vld_of a e hi
  have ht := tot_b c h
  simp only [Bool.not_true, Bool.cond_false, beq_if]
  have samp : ∀ (F k acc : Int) (s : State), s.Phase = 2 → s.From = F → s.Count = k → s.Acc = acc → (0 ≤ F ∧ F ≤ 1099511627776) → (0 ≤ k ∧ k < tot c) → (0 ≤ acc ∧ acc < pw k) → ∃ p', ref22_Step_l9 M M k c s e (State.mk 0 0 0 0 0 0 0 (bs [])) [] = some (p', (go c ⟨2, e.To, F, k, acc⟩ e).2) ∧ PR c (go c ⟨2, e.To, F, k, acc⟩ e).1 p' ∧ p'.Count ≤ tot c := fun F k acc s q1 q2 q3 q4 w1 w2 w3 => by
    obtain ⟨g1, g2, g3, g4, g5⟩ := go_wf c h ⟨2, e.To, F, k, acc⟩ e w1 w2 w3 v4
    have key := l9_samp M hM c h s (State.mk 0 0 0 0 0 0 0 (bs [])) e v4 v3 (tot c - k).toNat M s [] q1 (by omega) (by omega) (by omega) (by rw [q3, q4]; exact w3) (by rw [q2]; exact w1) (by simp)
    rw [q2, q3, q4, List.nil_append] at key
    refine ⟨_, key, ⟨rfl, fun h0 => absurd h0 g4, fun _ => rfl, fun _ => ⟨rfl, rfl, rfl⟩, ?_⟩, g5.2⟩
    have : 0 ≤ (go c ⟨2, e.To, F, k, acc⟩ e).1.cnt ∧ (go c ⟨2, e.To, F, k, acc⟩ e).1.cnt ≤ 13 := ⟨g5.1, by omega⟩
    exact this
  have skip : ∀ s : State, s.Phase ≠ 2 → (0 ≤ s.Count ∧ s.Count ≤ tot c) → ref22_Step_l9 M M s.Count c s e (State.mk 0 0 0 0 0 0 0 (bs [])) [] = some ({ s with At := e.To }, []) := fun s q1 q2 =>
    l9_skip M c h s (State.mk 0 0 0 0 0 0 0 (bs [])) e v3 (tot c - s.Count).toNat M s.Count s [] (by omega) (by omega) q2.1 (fun h2 => absurd h2 q1)
  have start := samp e.From 0 0 (State.mk 2 0 e.From 0 0 0 0 (bs [])) rfl rfl rfl rfl (by omega) (by omega) (by rw [pw0]; omega)
  unfold stepB
  rcases hw.ph with h0 | h1 | h2 | h3
  · have hst := hp.zero h0
    subst hst
    rw [if_pos (show st0.Phase = 0 from rfl), if_neg (show ¬ a.ph = 2 by omega), if_neg (show ¬ a.ph = 3 by omega)]
    by_cases c1 : e.Value = 0
    · rw [if_pos c1, if_neg (show ¬ e.Value = 1 by omega)]
      obtain ⟨p', e1, e2, e3⟩ := start
      exact ⟨p', e1, e2, fun _ => e3⟩
    · rw [if_neg c1, if_pos (show e.Value = 1 by omega)]
      refine ⟨_, skip (State.mk 1 0 0 0 0 0 0 (bs [])) (by decide) ⟨by decide, by show (0 : Int) ≤ tot c; omega⟩, ⟨rfl, fun hh => absurd (show (1 : Int) = 0 from hh) (by decide), fun _ => rfl, fun hh => absurd (show (1 : Int) = 2 from hh) (by decide), ⟨show (0 : Int) ≤ 0 by decide, show (0 : Int) ≤ 13 by decide⟩⟩, fun _ => by show (0 : Int) ≤ tot c; omega⟩
  · have hph : p.Phase = 1 := hp.ph.trans h1
    have hcn := hc (by omega)
    rw [if_neg (show ¬ p.Phase = 0 by omega), if_neg (show ¬ p.Phase = 3 by omega), if_pos hph, if_neg (show ¬ a.ph = 2 by omega), if_neg (show ¬ a.ph = 3 by omega)]
    by_cases c1 : e.Value = 0
    · rw [if_pos c1, if_neg (show ¬ e.Value = 1 by omega)]
      obtain ⟨p', e1, e2, e3⟩ := start
      exact ⟨p', e1, e2, fun _ => e3⟩
    · rw [if_neg c1, if_pos (show e.Value = 1 by omega)]
      exact ⟨_, skip p (by omega) ⟨hp.cnt.1, hcn⟩, ⟨hph, fun hh => absurd (show (1 : Int) = 0 from hh) (by decide), fun _ => rfl, fun hh => absurd (show (1 : Int) = 2 from hh) (by decide), hp.cnt⟩, fun _ => hcn⟩
  · have hph : p.Phase = 2 := hp.ph.trans h2
    obtain ⟨q1, q2, q3⟩ := hp.two h2
    obtain ⟨w1, w2, w3⟩ := hw.two h2
    rw [if_neg (show ¬ p.Phase = 0 by omega), if_neg (show ¬ p.Phase = 3 by omega), if_neg (show ¬ p.Phase = 1 by omega), if_pos h2]
    obtain ⟨p', e1, e2, e3⟩ := samp a.frm a.cnt a.acc p hph q1 q2 q3 w1 w2 w3
    rw [q2]
    have hgo : go c ⟨2, e.To, a.frm, a.cnt, a.acc⟩ e = ({ (go c a e).1 with ph := (go c a e).1.ph }, (go c a e).2) := rfl
    exact ⟨p', e1, e2, fun _ => e3⟩
  · have hph : p.Phase = 3 := hp.ph.trans h3
    have hcn := hc (by omega)
    rw [if_neg (show ¬ p.Phase = 0 by omega), if_pos hph, if_neg (show ¬ a.ph = 2 by omega), if_pos h3]
    by_cases c1 : e.Value = 0
    · rw [if_neg (show ¬ e.Value = 1 by omega), if_neg (show ¬ p.Phase = 1 by omega), if_pos c1]
      exact ⟨_, skip p (by omega) ⟨hp.cnt.1, hcn⟩, ⟨hp.ph, fun hh => absurd (show a.ph = 0 from hh) (by omega), fun _ => rfl, fun hh => absurd (show a.ph = 2 from hh) (by omega), hp.cnt⟩, fun _ => hcn⟩
    · rw [if_pos (show e.Value = 1 by omega), if_neg c1, if_neg c1]
      exact ⟨_, skip { p with Phase := 1 } (show ¬ (1 : Int) = 2 by decide) ⟨hp.cnt.1, hcn⟩, ⟨rfl, fun hh => absurd (show (1 : Int) = 0 from hh) (by decide), fun _ => rfl, fun hh => absurd (show (1 : Int) = 2 from hh) (by decide), hp.cnt⟩, fun _ => hcn⟩
end Go.Abs.K
