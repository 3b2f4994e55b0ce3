/- ONEWIRE: the document's step; what is decoded; the laws of decoding and of what is passed over. -/
import Derived.Test.YtimanhbcjbnleaaP1
set_option linter.unusedVariables false
set_option linter.unusedSimpArgs false
namespace Go.Abs.K
open Go Go.Abs Go.Proofs

/-- The document's state. -/
def RM (m : Md) (r : State) : Prop := match m with
  | .bits n f acc => r.Aux = 0 ∧ r.Count = n ∧ r.Acc = acc ∧ (n > 0 → r.Prev = f)
  | .rst f t => r.Aux = t ∧ r.Prev = f ∧ r.Count = 0 ∧ r.Acc = 0
def RR (a : A) (r : State) : Prop := r.Phase = (if a.st then (if a.low.isSome then 2 else 1) else 0) ∧ r.At = a.at_ ∧ (∀ b, a.low = some b → r.From = b) ∧ RM a.md r
theorem plain_ref (M : Nat) (c : Onewire) (hc : OkC c) (r : State) (n : Nat) (f acc a b : Int) (hm : WfM (.bits n f acc)) (hr : RM (.bits n f acc) r) (ha : 0 ≤ a ∧ a ≤ 1099511627776) (hb : 0 ≤ b ∧ b ≤ 1099511627776) :
    ∃ r', ref25_plain M c r a b = some (r', (plainA c.T n f acc a b).2) ∧ RM (plainA c.T n f acc a b).1 r' ∧ r'.Phase = r.Phase ∧ r'.At = r.At ∧ r'.From = r.From := by
  obtain ⟨h1, h2, h3, h4, h5, h6⟩ := hm
  obtain ⟨k1, k2, k3, k4⟩ := hr
  have hc' := hc
  unfold OkC at hc'
  have hp := pow_lt n h1
  have hs : (2 : Int) ^ (n + 1) = 2 ^ n * 2 := Int.pow_succ 2 n
  simp only [ref25_plain, b_ref25_plain, bif_if, k2, k3]
  rw [i64_ok (n := b - a) (by omega), i64_ok (n := 24 * c.T) (by omega), i64_ok (n := 16 * c.T) (by omega), i64_ok (n := 2 * c.T) (by omega), i64_ok (n := (n : Int) + 1) (by omega), Int.toNat_natCast, Nat.min_eq_left (show n ≤ 64 by omega), Int.one_mul, i64_ok (n := 2 ^ n) (by omega), i64_ok (n := acc + 2 ^ n) (by omega)]
  unfold plainA
  have h8 : (n : Int) + 1 < 8 ↔ ¬ n ≥ 7 := by omega
  by_cases hn : n = 0
  · subst hn
    have ha0 : acc = 0 := by have h5' : acc < 1 := h5; omega
    subst ha0
    have hn0 : ¬ ((0 : Nat) : Int) > 0 := by omega
    simp only [if_neg hn0]
    by_cases c1 : b - a ≥ 24 * c.T
    · rw [if_pos c1, if_pos c1]
      exact ⟨_, rfl, ⟨rfl, rfl, rfl, rfl⟩, rfl, rfl, rfl⟩
    rw [if_neg c1, if_neg c1]
    by_cases c2 : b - a ≥ 16 * c.T
    · rw [if_pos c2, if_pos c2]
      exact ⟨_, rfl, ⟨k1, rfl, rfl, fun h => absurd h (by omega)⟩, rfl, rfl, rfl⟩
    rw [if_neg c2, if_neg c2, if_neg (show ¬ 0 ≥ 7 by omega)]
    by_cases c3 : b - a < 2 * c.T
    · rw [if_pos c3, if_neg (show ¬ ((0 : Nat) : Int) < 0 by omega), if_pos (show ((0 : Nat) : Int) + 1 < 8 by omega), if_pos c3]
      exact ⟨_, rfl, ⟨k1, rfl, rfl, fun _ => rfl⟩, rfl, rfl, rfl⟩
    · rw [if_neg c3, if_pos (show ((0 : Nat) : Int) + 1 < 8 by omega), if_neg c3]
      exact ⟨_, rfl, ⟨k1, rfl, rfl, fun _ => rfl⟩, rfl, rfl, rfl⟩
  · have hn0 : (n : Int) > 0 := by omega
    have hpv := k4 (by omega)
    simp only [if_pos hn0, if_neg hn, hpv]
    by_cases c1 : b - a ≥ 24 * c.T
    · rw [if_pos c1, if_pos c1]
      exact ⟨_, rfl, ⟨rfl, rfl, rfl, rfl⟩, rfl, rfl, rfl⟩
    rw [if_neg c1, if_neg c1]
    by_cases c2 : b - a ≥ 16 * c.T
    · rw [if_pos c2, if_pos c2]
      exact ⟨_, rfl, ⟨k1, rfl, rfl, fun h => absurd h (by omega)⟩, rfl, rfl, rfl⟩
    rw [if_neg c2, if_neg c2]
    by_cases c3 : b - a < 2 * c.T
    · rw [if_pos c3, if_neg (show ¬ (n : Int) < 0 by omega)]
      simp only [if_pos c3]
      by_cases h7 : n ≥ 7
      · rw [if_neg (show ¬ (n : Int) + 1 < 8 by omega), if_pos h7]
        exact ⟨_, rfl, ⟨k1, rfl, rfl, fun h => absurd h (by omega)⟩, rfl, rfl, rfl⟩
      · rw [if_pos (show (n : Int) + 1 < 8 by omega), if_neg h7]
        exact ⟨_, rfl, ⟨k1, rfl, rfl, fun _ => rfl⟩, rfl, rfl, rfl⟩
    · rw [if_neg c3]
      simp only [if_neg c3]
      by_cases h7 : n ≥ 7
      · rw [if_neg (show ¬ (n : Int) + 1 < 8 by omega), if_pos h7]
        exact ⟨_, rfl, ⟨k1, rfl, rfl, fun h => absurd h (by omega)⟩, rfl, rfl, rfl⟩
      · rw [if_pos (show (n : Int) + 1 < 8 by omega), if_neg h7]
        exact ⟨_, rfl, ⟨k1, rfl, rfl, fun _ => rfl⟩, rfl, rfl, rfl⟩
theorem plain_len (T : Int) (n : Nat) (f acc a b : Int) : (plainA T n f acc a b).2.length ≤ 1 := by
  unfold plainA
  repeat' split
  all_goals simp
theorem pulse_ref (M : Nat) (c : Onewire) (hc : OkC c) (r : State) (m : Md) (a b : Int) (hm : WfM m) (hr : RM m r) (ha : 0 ≤ a ∧ a ≤ 1099511627776) (hb : 0 ≤ b ∧ b ≤ 1099511627776) :
    ∃ r', ref25_pulse M c r a b = some (r', (pulseA c.T m a b).2) ∧ RM (pulseA c.T m a b).1 r' ∧ r'.Phase = r.Phase ∧ r'.At = r.At ∧ r'.From = r.From := by
  have hc' := hc
  unfold OkC at hc'
  simp only [ref25_pulse, b_ref25_pulse, bif_if, beq_if]
  cases m with
  | bits n f acc =>
    obtain ⟨r', e1, e2, e3⟩ := plain_ref M c hc r n f acc a b hm hr ha hb
    rw [if_pos hr.1, e1]
    exact ⟨r', rfl, e2, e3⟩
  | rst f t =>
    obtain ⟨k1, k2, k3, k4⟩ := hr
    obtain ⟨g1, g2, g3, g4⟩ := hm
    rw [if_neg (by rw [k1]; omega), i64_ok (n := b - a) (by omega), i64_ok (n := 4 * c.T) (by omega), i64_ok (n := 20 * c.T) (by omega)]
    obtain ⟨r', e1, e2, e3⟩ := plain_ref M c hc { r with Aux := 0 } 0 0 0 a b clo_wf ⟨rfl, k3, k4, fun h => absurd h (by omega)⟩ ha hb
    have e1' : ref25_plain M c (State.mk r.Phase r.At r.From r.Count r.Acc 0 r.Prev r.Data) a b = some (r', (plainA c.T 0 0 0 a b).2) := e1
    have hl := plain_len c.T 0 0 0 a b
    have hsz : (1 + (plainA c.T 0 0 0 a b).2.length) * 64 ≤ 140737488355328 := by omega
    simp only [e1', Option.bind_some, if_pos hsz]
    unfold pulseA
    dsimp only
    by_cases c1 : b - a ≥ 4 * c.T
    · rw [if_pos c1]
      by_cases c2 : b - a ≤ 20 * c.T
      · have hy : 4 * c.T ≤ b - a ∧ b - a ≤ 20 * c.T := ⟨c1, c2⟩
        rw [if_pos c2, if_pos hy, k2]
        exact ⟨_, rfl, ⟨rfl, k3, k4, fun h => absurd h (by omega)⟩, rfl, rfl, rfl⟩
      · have hn : ¬ (4 * c.T ≤ b - a ∧ b - a ≤ 20 * c.T) := fun h => c2 h.2
        rw [if_neg c2, if_neg hn, k1, k2]
        exact ⟨r', rfl, e2, e3⟩
    · have hn : ¬ (4 * c.T ≤ b - a ∧ b - a ≤ 20 * c.T) := fun h => c1 h.1
      rw [if_neg c1, if_neg hn, k1, k2]
      exact ⟨r', rfl, e2, e3⟩
theorem ref_step_is (M : Nat) (c : Onewire) (a : A) (r : State) (e : Event) (h : Wf a) (hr : RR a r) : ∃ r', ref25_Step M c r e = some (r', (stepA c a e).2) ∧ RR (stepA c a e).1 r' := by
  simp only [ref25_Step, b_ref25_Step, ref_check_is, Option.bind_some, bne_if, beq_if, bif_if]
  obtain ⟨r1, r2, r3, r4⟩ := hr
  by_cases hc : OkC c
  · have hp : r.Phase = 0 ↔ a.st = false := by
      rw [r1]
      cases a.st with
      | false => simp
      | true => cases a.low.isSome <;> simp
    rw [if_pos hc, if_pos rfl, ref_accepts_is M a r e c hc hp r2, Option.bind_some]
    unfold stepA
    by_cases hin : In c a e
    · rw [decide_eq_true hin, if_pos hin]
      simp only [Bool.not_true, Bool.cond_false]
      have hc' := hc
      unfold OkC at hc'
      obtain ⟨g1, g2, g3, g4, g5, g6, g7⟩ := hin
      obtain ⟨w1, w2, w3, w4, w5⟩ := h
      unfold Vld at g2
      have hlow : r.Phase = 2 ↔ a.low.isSome = true := by
        rw [r1]
        cases hst : a.st with
        | false => rw [w5 hst]; simp
        | true => cases a.low.isSome <;> simp
      by_cases hv : e.Value = 0
      · rw [if_pos hv, if_pos hv]
        cases hl : a.low with
        | none =>
          rw [if_neg (fun hh => by have := hlow.1 hh; rw [hl] at this; cases this)]
          refine ⟨_, rfl, ?_, rfl, fun b hb => ?_, r4⟩
          · rfl
          · simp at hb; exact hb
        | some b =>
          rw [if_pos (hlow.2 (by rw [hl]; rfl))]
          refine ⟨_, rfl, ?_, rfl, fun b' hb => ?_, r4⟩
          · rfl
          · simp at hb; subst hb; exact r3 b hl
      · rw [if_neg hv, if_neg hv]
        unfold highA
        cases hl : a.low with
        | some b =>
          rw [if_pos (hlow.2 (by rw [hl]; rfl)), r3 b hl]
          obtain ⟨q, e1, e2, e3, e4, e5⟩ := pulse_ref M c hc r a.md b e.From w1 r4 (w4 b hl) ⟨by omega, by omega⟩
          rw [e1, Option.bind_some]
          dsimp only
          have hwf := pulse_wf c.T (by omega) a.md b e.From w1 (w4 b hl) ⟨by omega, by omega⟩
          have hlen := pulse_len c.T a.md b e.From
          generalize pulseA c.T a.md b e.From = p at *
          obtain ⟨m, l⟩ := p
          dsimp only at *
          cases m with
          | bits n f acc =>
            obtain ⟨k1, k2, k3, k4⟩ := e2
            rw [if_neg (by rw [k1]; omega)]
            simp only [lateA, List.append_nil]
            exact ⟨_, rfl, rfl, rfl, (fun b hb => by cases hb), k1, k2, k3, k4⟩
          | rst f t =>
            obtain ⟨k1, k2, k3, k4⟩ := e2
            obtain ⟨x1, x2, x3, x4⟩ := hwf
            rw [k1, k2, if_pos (show t > 0 by omega), i64_ok (n := 8 * c.T) (by omega), i64_ok (n := t + 8 * c.T) (by omega)]
            simp only [lateA]
            by_cases hh : t + 8 * c.T < e.To
            · rw [if_pos hh, if_pos (by omega), if_pos hh]
              exact ⟨_, rfl, rfl, rfl, (fun b hb => by cases hb), rfl, k3, k4, fun h => absurd h (by omega)⟩
            · rw [if_neg hh, if_neg hh, List.append_nil]
              exact ⟨_, rfl, rfl, rfl, (fun b hb => by cases hb), rfl, rfl, k3, k4⟩
        | none =>
          rw [if_neg (fun hh => by have := hlow.1 hh; rw [hl] at this; cases this)]
          dsimp only
          cases hm : a.md with
          | bits n f acc =>
            rw [hm] at r4
            obtain ⟨k1, k2, k3, k4⟩ := r4
            rw [if_neg (by rw [k1]; omega)]
            simp only [lateA, List.append_nil]
            exact ⟨_, rfl, rfl, rfl, (fun b hb => by cases hb), k1, k2, k3, k4⟩
          | rst f t =>
            rw [hm] at r4 w1
            obtain ⟨k1, k2, k3, k4⟩ := r4
            obtain ⟨x1, x2, x3, x4⟩ := w1
            rw [k1, k2, if_pos (show t > 0 by omega), i64_ok (n := 8 * c.T) (by omega), i64_ok (n := t + 8 * c.T) (by omega)]
            simp only [lateA, List.nil_append]
            by_cases hh : t + 8 * c.T < e.To
            · rw [if_pos hh, if_pos hh]
              exact ⟨_, rfl, rfl, rfl, (fun b hb => by cases hb), rfl, k3, k4, fun h => absurd h (by omega)⟩
            · rw [if_neg hh, if_neg hh]
              exact ⟨_, rfl, rfl, rfl, (fun b hb => by cases hb), rfl, rfl, k3, k4⟩
    · rw [decide_eq_false hin, if_neg hin]
      exact ⟨r, rfl, r1, r2, r3, r4⟩
  · have hn : ¬ In c a e := fun hh => hc hh.1
    unfold stepA
    rw [if_neg hc, if_neg (show ¬ (2 : Int) = 0 by omega), if_neg hn]
    exact ⟨r, rfl, r1, r2, r3, r4⟩
theorem ref_end_is (M : Nat) (c : Onewire) (a : A) (r : State) (h : Wf a) (hr : RR a r) : ref25_End M c r = some (endA c a) := by
  obtain ⟨r1, r2, r3, r4⟩ := hr
  obtain ⟨w1, _⟩ := h
  simp only [ref25_End, b_ref25_End, ref_check_is, Option.bind_some, bne_if, bif_if, endA, r2]
  by_cases hc : OkC c
  · simp only [if_pos hc, if_true]
    cases hm : a.md with
    | bits n f acc =>
      rw [hm] at r4
      obtain ⟨k1, k2, k3, k4⟩ := r4
      rw [if_neg (by rw [k1]; omega), k2]
      dsimp only
      by_cases hn : n = 0
      · rw [if_neg (by omega), if_pos hn]
      · rw [if_pos (by omega), if_neg hn, k4 (by omega)]
    | rst f t =>
      rw [hm] at r4 w1
      obtain ⟨k1, k2, k3, k4⟩ := r4
      obtain ⟨x1, x2, x3, x4⟩ := w1
      rw [if_pos (by rw [k1]; omega), k1, k2]
  · simp only [if_neg hc]; rfl

/-! ### What is decoded -/
def runA (c : Onewire) : A → List Event → A × List Event
  | a, [] => (a, [])
  | a, e :: l => ((runA c (stepA c a e).1 l).1, (stepA c a e).2 ++ (runA c (stepA c a e).1 l).2)
def a0 : A := ⟨false, 0, none, clo⟩
theorem a0_wf : Wf a0 := ⟨clo_wf, by decide, by decide, (fun b hb => by cases hb), fun _ => rfl⟩
def decA (c : Onewire) (l : List Event) : List Event := (runA c a0 l).2 ++ endA c (runA c a0 l).1
theorem step_len (c : Onewire) (a : A) (e : Event) : (stepA c a e).2.length ≤ 3 := by
  have hlate : ∀ m, (lateA c.T m e.To).2.length ≤ 1 := fun m => by
    unfold lateA; repeat' split
    all_goals simp
  unfold stepA
  split
  · split
    · simp
    · unfold highA
      dsimp only
      rw [List.length_append]
      cases a.low with
      | none => have := hlate a.md; simp only [List.length_nil]; omega
      | some b => have := hlate (pulseA c.T a.md b e.From).1; have := pulse_len c.T a.md b e.From; dsimp only; omega
  · simp
theorem run_len (c : Onewire) : ∀ (l : List Event) (a : A), (runA c a l).2.length ≤ 3 * l.length
  | [], a => by simp [runA]
  | e :: l, a => by
    have := run_len c l (stepA c a e).1
    have := step_len c a e
    simp only [runA, List.length_append, List.length_cons]
    omega
theorem end_len (c : Onewire) (a : A) : (endA c a).length ≤ 1 := by
  unfold endA
  repeat' split
  all_goals simp
theorem dec_len (c : Onewire) (l : List Event) : (decA c l).length ≤ 3 * l.length + 1 := by
  have := run_len c l a0
  have := end_len c (runA c a0 l).1
  unfold decA; rw [List.length_append]; omega
theorem dec_l4 (M : Nat) (c : Onewire) (l : List Event) (hl : l.length ≤ 1000000) : ∀ (r : List Event) (i m : Nat) (a : A) (out : List Event), Wf a → l.drop i = r → r.length < m → out.length + 3 * r.length ≤ 5000000 → onewire_Decode_l4 M m (l.length : Int) (i : Int) c out (encP a) l = some (out ++ (runA c a r).2 ++ endA c (runA c a r).1)
  | r, i, 0, a, out, _, _, hm, _ => by omega
  | [], i, m + 1, a, out, hw, hr, hm, ho => by
    have := drop_nil hr
    have he := end_len c a
    simp only [onewire_Decode_l4, b_onewire_Decode_l4, end_is, Option.bind_some]
    simp only [List.length_nil] at ho
    rw [bif_neg (by omega), bif_pos (by omega)]
    simp [runA]
  | e :: r, i, m + 1, a, out, hw, hr, hm, ho => by
    obtain ⟨h1, h2, h3, h4, h5⟩ := drop_cons hr dflt_Event
    have hlen := step_len c a e
    simp only [List.length_cons] at hm ho
    simp only [onewire_Decode_l4, b_onewire_Decode_l4, h1, step_is M c a e hw, Option.bind_some]
    rw [bif_pos (by omega), bif_pos (by omega), bif_pos (by omega), bif_pos (by omega), next_i i (by omega)]
    rw [dec_l4 M c l hl r (i + 1) m _ _ (step_wf c a e hw) h3 (by omega) (by rw [List.length_append]; omega)]
    simp [runA]
theorem decode_is (M : Nat) (c : Onewire) (l : List Event) (hl : l.length ≤ 1000000) (hm : l.length < M) : onewire_Decode M c l = some (decA c l) := by
  simp only [onewire_Decode, b_onewire_Decode]
  have := dec_l4 M c l hl l 0 M a0 [] a0_wf rfl hm (by simp; omega)
  rw [List.nil_append] at this
  exact this
def r0 : State := State.mk 0 0 0 0 0 0 0 (bs [])
theorem r0_rr : RR a0 r0 := ⟨rfl, rfl, (fun b hb => by cases hb), rfl, rfl, rfl, fun h => absurd h (by omega)⟩
theorem rdec_l3 (M : Nat) (c : Onewire) (l : List Event) (hl : l.length ≤ 1000000) : ∀ (r : List Event) (i m : Nat) (a : A) (s : State) (out : List Event), Wf a → RR a s → l.drop i = r → r.length < m → out.length + 3 * r.length ≤ 5000000 → ref25_Decode_l3 M m (i : Int) l c s out = some (out ++ (runA c a r).2 ++ endA c (runA c a r).1)
  | r, i, 0, a, s, out, _, _, _, hm, _ => by omega
  | [], i, m + 1, a, s, out, hw, hs, hr, hm, ho => by
    have := drop_nil hr
    have he := end_len c a
    simp only [ref25_Decode_l3, b_ref25_Decode_l3, ref_end_is M c a s hw hs, Option.bind_some]
    simp only [List.length_nil] at ho
    rw [bif_neg (by omega), bif_pos (by omega)]
    simp [runA]
  | e :: r, i, m + 1, a, s, out, hw, hs, hr, hm, ho => by
    obtain ⟨h1, h2, h3, h4, h5⟩ := drop_cons hr dflt_Event
    have hlen := step_len c a e
    obtain ⟨s', e1, e2⟩ := ref_step_is M c a s e hw hs
    simp only [List.length_cons] at hm ho
    simp only [ref25_Decode_l3, b_ref25_Decode_l3, h1, e1, Option.bind_some]
    rw [bif_pos (by omega), bif_pos (by omega), bif_pos (by omega), bif_pos (by omega), next_i i (by omega)]
    rw [rdec_l3 M c l hl r (i + 1) m _ _ _ (step_wf c a e hw) e2 h3 (by omega) (by rw [List.length_append]; omega)]
    simp [runA]
theorem rdecode_is (M : Nat) (c : Onewire) (l : List Event) (hl : l.length ≤ 1000000) (hm : l.length < M) : ref25_Decode M c l = some (decA c l) := by
  simp only [ref25_Decode, b_ref25_Decode]
  have := rdec_l3 M c l hl l 0 M a0 r0 [] a0_wf r0_rr rfl hm (by simp; omega)
  rw [List.nil_append] at this
  exact this
theorem awake_true (M : Nat) (hM : 200 < M) : law25_awake M = some true := by
  obtain ⟨m, rfl⟩ : ∃ m, M = m + 200 := ⟨M - 200, by omega⟩
  kernel_rfl
theorem small_l4 (M : Nat) (l : List Event) (hl : l.length ≤ 1000000) : ∀ (r : List Event) (i m : Nat), l.drop i = r → r.length < m → ∃ b, law25_small_l4 M m (i : Int) l = some b
  | r, i, 0, _, hm => by omega
  | [], i, m + 1, hr, hm => by
    have := drop_nil hr
    simp only [law25_small_l4, b_law25_small_l4]
    rw [bif_neg (by omega)]; exact ⟨_, rfl⟩
  | e :: r, i, m + 1, hr, hm => by
    obtain ⟨h1, h2, h3, h4, h5⟩ := drop_cons hr dflt_Event
    simp only [List.length_cons] at hm
    simp only [law25_small_l4, b_law25_small_l4, h1]
    obtain ⟨b, hb⟩ := small_l4 M l hl r (i + 1) m h3 (by omega)
    rw [bif_pos (by omega), bif_pos (by omega), bif_pos (by omega), next_i i (by omega), hb, bif_if]
    split <;> exact ⟨_, rfl⟩
theorem small_is (M : Nat) (l : List Event) (hM : 60 < M) : ∃ b, law25_small M l = some b ∧ (b = true → l.length ≤ 60) := by
  simp only [law25_small, b_law25_small]
  by_cases h : (l.length : Int) > 60
  · rw [bif_pos h]; exact ⟨false, rfl, by simp⟩
  · rw [bif_neg h]
    obtain ⟨b, hb⟩ := small_l4 M l (by omega) l 0 M rfl (by omega)
    exact ⟨b, hb, fun _ => by omega⟩
theorem decodes_l5 (c : Onewire) (l : List Event) (hl : l.length ≤ 60) : ∀ (r : List Event) (i m : Nat) (a : A) (s : State), Wf a → RR a s → l.drop i = r → r.length < m → law25_OnewireDecodes_l5 1000 m (i : Int) l c (encP a) s = some true
  | r, i, 0, a, s, _, _, _, hm => by omega
  | [], i, m + 1, a, s, hw, hs, hr, hm => by
    have := drop_nil hr
    have he := end_len c a
    have hd := dec_len c l
    simp only [law25_OnewireDecodes_l5, b_law25_OnewireDecodes_l5, check_is, ref_check_is, end_is, ref_end_is 1000 c a s hw hs, Option.bind_some, beq_self_eq_true, same_self 1000 (endA c a) (by omega) (by omega), Bool.cond_true, decode_is 1000 c l (by omega) (by omega), rdecode_is 1000 c l (by omega) (by omega),
      same_self 1000 (decA c l) (by omega) (by omega), awake_true 1000 (by omega)]
    rw [bif_neg (by omega)]
  | e :: r, i, m + 1, a, s, hw, hs, hr, hm => by
    obtain ⟨h1, h2, h3, h4, h5⟩ := drop_cons hr dflt_Event
    obtain ⟨s', e1, e2⟩ := ref_step_is 1000 c a s e hw hs
    simp only [List.length_cons] at hm
    have hlen := step_len c a e
    simp only [law25_OnewireDecodes_l5, b_law25_OnewireDecodes_l5, h1, step_is 1000 c a e hw, e1, Option.bind_some, same_self 1000 (stepA c a e).2 (by omega) (by omega), Bool.not_true, Bool.cond_false]
    simp only [bif_pos (show (i : Int) < (l.length : Int) by omega), bif_pos (show (0 : Int) ≤ (i : Int) by omega), next_i i (by omega)]
    exact decodes_l5 c l hl r (i + 1) m _ _ (step_wf c a e hw) e2 h3 (by omega)
theorem OnewireDecodes_true (c : Onewire) (l : List Event) (hc : wf_Onewire c) (hl : (∀ x, x ∈ l → wf_Event x) ∧ l.length * Try.prog.bytesOf 33 ≤ 140737488351232) : ∃ M, law25_OnewireDecodes M c l = some true := by
  refine ⟨1000, ?_⟩
  obtain ⟨b, hb, hb2⟩ := small_is 1000 l (by omega)
  simp only [law25_OnewireDecodes, b_law25_OnewireDecodes, hb, Option.bind_some, awake_true 1000 (by omega)]
  cases b with
  | false => rfl
  | true =>
    have := hb2 rfl
    exact decodes_l5 c l this l 0 1000 a0 r0 a0_wf r0_rr rfl (by omega)
/-! ### What is passed over -/
theorem runA_skip (c : Onewire) (x : Event) (hx : ∀ a : A, stepA c a x = (a, [])) : ∀ (l : List Event) (a : A), runA c a (l.flatMap (fun e => [x, e]) ++ [x]) = runA c a l
  | [], a => by simp [runA, hx a]
  | e :: l, a => by
    simp only [List.flatMap_cons, List.cons_append, List.nil_append, runA, hx a]
    rw [runA_skip c x hx l]
theorem ign_l5 (c : Onewire) (x : Event) (l : List Event) (hl : l.length ≤ 60) (hx : ∀ a : A, stepA c a x = (a, [])) : ∀ (r : List Event) (i m : Nat) (out : List Event), l.drop i = r → r.length < m → out.length + 2 * r.length ≤ 120 → out ++ r.flatMap (fun e => [x, e]) = l.flatMap (fun e => [x, e]) → law25_OnewireIgnores_l5 1000 m (i : Int) l c x out = some true
  | r, i, 0, out, _, hm, _, _ => by omega
  | [], i, m + 1, out, hr, hm, ho, he => by
    have := drop_nil hr
    simp only [List.flatMap_nil, List.append_nil] at he
    have hd : decA c (out ++ [x]) = decA c l := by unfold decA; rw [he, runA_skip c x hx l a0]
    have hlen := dec_len c l
    simp only [law25_OnewireIgnores_l5, b_law25_OnewireIgnores_l5]
    simp only [List.length_nil] at ho
    rw [bif_neg (by omega), bif_pos (by omega), decode_is 1000 c (out ++ [x]) (by simp; omega) (by simp; omega), decode_is 1000 c l (by omega) (by omega), hd]
    simp only [Option.bind_some, same_self 1000 (decA c l) (by omega) (by omega), Bool.cond_true, awake_true 1000 (by omega)]
  | e :: r, i, m + 1, out, hr, hm, ho, he => by
    obtain ⟨h1, h2, h3, h4, h5⟩ := drop_cons hr dflt_Event
    simp only [List.length_cons] at hm ho
    simp only [law25_OnewireIgnores_l5, b_law25_OnewireIgnores_l5, h1]
    rw [bif_pos (by omega), bif_pos (by omega), bif_pos (by omega), bif_pos (by omega), next_i i (by omega)]
    refine ign_l5 c x l hl hx r (i + 1) m _ h3 (by omega) (by simp; omega) ?_
    rw [← he]; simp
theorem OnewireIgnores_true (c : Onewire) (l : List Event) (x : Event) (hc : wf_Onewire c) (hl : (∀ x, x ∈ l → wf_Event x) ∧ l.length * Try.prog.bytesOf 33 ≤ 140737488351232) (hx : wf_Event x) : ∃ M, law25_OnewireIgnores M c l x = some true := by
  refine ⟨1000, ?_⟩
  obtain ⟨b, hb, hb2⟩ := small_is 1000 l (by omega)
  simp only [law25_OnewireIgnores, b_law25_OnewireIgnores, hb, Option.bind_some, awake_true 1000 (by omega), bif_if, beq_if]
  cases b with
  | false => rfl
  | true =>
    have hl60 := hb2 rfl
    simp only [Bool.not_true, Bool.cond_false]
    have go : (∀ a : A, ¬ In c a x) → law25_OnewireIgnores_l5 1000 1000 0 l c x [] = some true := fun h => ign_l5 c x l hl60 (fun a => by unfold stepA; rw [if_neg (h a)]) l 0 1000 [] rfl (by omega) (by simp; omega) (by simp)
    by_cases h1 : (x.Data.size : Int) > 20
    · rw [if_pos h1]
    rw [if_neg h1]
    by_cases h2 : x.Kind = 1
    · rw [if_pos h2]
      by_cases h3 : x.Fault = 0
      · rw [if_pos h3]
        by_cases h4 : x.From < x.To
        · rw [if_pos h4]
          by_cases h5 : x.Value ≥ 0
          · rw [if_pos h5]
            by_cases h6 : x.Value ≤ 1
            · rw [if_pos h6]
            · rw [if_neg h6]; exact go fun a h => by obtain ⟨_, _, _, _, _, h, _⟩ := h; omega
          · rw [if_neg h5]; exact go fun a h => by obtain ⟨_, _, _, _, _, h, _⟩ := h; omega
        · rw [if_neg h4]; exact go fun a h => h4 h.2.2.2.2.1
      · rw [if_neg h3]; exact go fun a h => h3 h.2.2.2.1
    · rw [if_neg h2]; exact go fun a h => h2 h.2.2.1
end Go.Abs.K
