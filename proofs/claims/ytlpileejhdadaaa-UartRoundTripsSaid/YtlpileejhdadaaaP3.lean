/- UART: one event, the program's and the document's. -/
import Derived.Test.YtlpileejhdadaaaP2
set_option linter.unusedVariables false
set_option linter.unusedSimpArgs false
namespace Go.Abs.K
open Go Go.Abs Go.Proofs

structure A where
  ph : Int
  at_ : Int
  frm : Int
  cnt : Int
  acc : Int
def a0 : A := ⟨0, 0, 0, 0, 0⟩
abbrev st0 : State := State.mk 0 0 0 0 0 0 0 (bs [])
structure WfA (c : Uart) (a : A) : Prop where
  ph : a.ph = 0 ∨ a.ph = 1 ∨ a.ph = 2 ∨ a.ph = 3
  two : a.ph = 2 → (0 ≤ a.frm ∧ a.frm ≤ 1099511627776) ∧ (0 ≤ a.cnt ∧ a.cnt < tot c) ∧ (0 ≤ a.acc ∧ a.acc < pw a.cnt)
def In (a : A) (e : Event) : Prop := Vld e ∧ e.Kind = 1 ∧ e.Fault = 0 ∧ e.From < e.To ∧ 0 ≤ e.Value ∧ e.Value ≤ 1 ∧ (a.ph = 0 ∨ e.From = a.at_)
instance (a : A) (e : Event) : Decidable (In a e) := by unfold In; infer_instance
/-- The samples that lie ahead of T: the phase, the number, the bits, the event. -/
def sampL (c : Uart) (F T v : Int) : Nat → Int → Int → Int × Int × Int × List Event
  | 0, k, acc => (2, k, acc, [])
  | N + 1, k, acc => if F + hv c (2 * k + 1) < T then (if k = 0 ∧ v = 1 then (1, k + 1, acc + v * pw k, []) else if k + 1 < tot c then sampL c F T v N (k + 1) (acc + v * pw k) else (if v = 1 then 1 else 3, k + 1, acc + v * pw k, [evA c F (acc + v * pw k)])) else (2, k, acc, [])
def go (c : Uart) (a : A) (e : Event) : A × List Event :=
  ({ a with ph := (sampL c a.frm e.To e.Value (tot c - a.cnt).toNat a.cnt a.acc).1, at_ := e.To, cnt := (sampL c a.frm e.To e.Value (tot c - a.cnt).toNat a.cnt a.acc).2.1, acc := (sampL c a.frm e.To e.Value (tot c - a.cnt).toNat a.cnt a.acc).2.2.1 }, (sampL c a.frm e.To e.Value (tot c - a.cnt).toNat a.cnt a.acc).2.2.2)
def stepB (c : Uart) (a : A) (e : Event) : A × List Event :=
  if a.ph = 2 then go c a e
  else if a.ph = 3 then (if e.Value = 0 then ({ a with at_ := e.To }, []) else ({ a with ph := 1, at_ := e.To }, []))
  else if e.Value = 1 then ({ a with ph := 1, at_ := e.To }, []) else go c ⟨2, e.To, e.From, 0, 0⟩ e
def stepA (c : Uart) (v : Int) (a : A) (e : Event) : A × List Event := if v = 0 ∧ In a e then stepB c a e else (a, [])
theorem pw_s (k : Int) (h : 0 ≤ k) : pw (k + 1) = 2 * pw k := by
  unfold pw
  rw [show (k + 1).toNat = k.toNat + 1 by omega, Int.pow_succ]; omega
theorem hv_mono (c : Uart) (h : OkU c) (a b : Int) (hab : a ≤ b) : hv c a ≤ hv c b := by
  unfold OkU at h
  unfold hv
  exact Int.ediv_le_ediv (by omega) (Int.mul_le_mul_of_nonneg_right hab (by omega))
theorem sampL_wf (c : Uart) (h : OkU c) (F T v : Int) (hv' : v = 0 ∨ v = 1) : ∀ (N : Nat) (k acc : Int), k + N = tot c → 0 ≤ k → 0 ≤ acc ∧ acc < pw k →
    (((sampL c F T v N k acc).1 = 2 ∧ (0 ≤ (sampL c F T v N k acc).2.1 ∧ ((sampL c F T v N k acc).2.1 < tot c ∨ N = 0)) ∧ 0 ≤ (sampL c F T v N k acc).2.2.1 ∧ (sampL c F T v N k acc).2.2.1 < pw (sampL c F T v N k acc).2.1) ∨ (sampL c F T v N k acc).1 = 1 ∧ v = 1 ∨ (sampL c F T v N k acc).1 = 3 ∧ v = 0) ∧ 0 ≤ (sampL c F T v N k acc).2.1 ∧ (sampL c F T v N k acc).2.1 ≤ tot c ∧ (sampL c F T v N k acc).2.2.2.length ≤ 1
  | 0, k, acc, hk, h0, ha => ⟨.inl ⟨rfl, ⟨h0, .inr rfl⟩, ha.1, ha.2⟩, h0, by show k ≤ tot c; omega, by simp [sampL]⟩
  | N + 1, k, acc, hk, h0, ha => by
    have hs := pw_s k h0
    have hmul : 0 ≤ v * pw k ∧ v * pw k ≤ pw k := by rcases hv' with rfl | rfl <;> omega
    unfold sampL
    split
    · split
      · rename_i hz; exact ⟨.inr (.inl ⟨rfl, hz.2⟩), by dsimp only; omega, by dsimp only; have := (tot_b c h).1; omega, by simp⟩
      · split
        · rename_i hlt
          have ih := sampL_wf c h F T v hv' N (k + 1) (acc + v * pw k) (by omega) (by omega) (by omega)
          obtain ⟨i1, i2, i3, i4⟩ := ih
          refine ⟨?_, i2, i3, i4⟩
          rcases i1 with ⟨j1, ⟨j2, j3⟩, j4⟩ | i1
          · exact .inl ⟨j1, ⟨j2, .inl (by omega)⟩, j4⟩
          · exact .inr i1
        · refine ⟨.inr ?_, by dsimp only; omega, by dsimp only; omega, by simp⟩
          rcases hv' with rfl | rfl
          · exact .inr ⟨rfl, rfl⟩
          · exact .inl ⟨rfl, rfl⟩
    · exact ⟨.inl ⟨rfl, ⟨h0, .inl (by dsimp only; omega)⟩, ha.1, ha.2⟩, h0, by dsimp only; omega, by simp⟩
theorem go_wf (c : Uart) (h : OkU c) (a : A) (e : Event) (hf : 0 ≤ a.frm ∧ a.frm ≤ 1099511627776) (hk : 0 ≤ a.cnt ∧ a.cnt < tot c) (ha : 0 ≤ a.acc ∧ a.acc < pw a.cnt) (hv' : e.Value = 0 ∨ e.Value = 1) : WfA c (go c a e).1 ∧ (go c a e).2.length ≤ 1 ∧ (go c a e).1.at_ = e.To ∧ (go c a e).1.ph ≠ 0 ∧ (0 ≤ (go c a e).1.cnt ∧ (go c a e).1.cnt ≤ tot c) := by
  obtain ⟨i1, i2, i3, i4⟩ := sampL_wf c h a.frm e.To e.Value hv' (tot c - a.cnt).toNat a.cnt a.acc (by omega) hk.1 ha
  refine ⟨⟨?_, ?_⟩, i4, rfl, ?_, i2, i3⟩
  · rcases i1 with ⟨j1, _⟩ | ⟨j1, _⟩ | ⟨j1, _⟩
    · exact .inr (.inr (.inl j1))
    · exact .inr (.inl j1)
    · exact .inr (.inr (.inr j1))
  · intro h2
    have h2 : (sampL c a.frm e.To e.Value (tot c - a.cnt).toNat a.cnt a.acc).1 = 2 := h2
    rcases i1 with ⟨j1, ⟨j2, j3⟩, j4⟩ | ⟨j1, _⟩ | ⟨j1, _⟩
    · exact ⟨hf, ⟨j2, by show (sampL _ _ _ _ _ _ _).2.1 < _; omega⟩, j4⟩
    · omega
    · omega
  · show (sampL _ _ _ _ _ _ _).1 ≠ 0
    rcases i1 with ⟨j1, _⟩ | ⟨j1, _⟩ | ⟨j1, _⟩ <;> rw [j1] <;> decide
theorem pw0 : pw 0 = 1 := rfl
theorem vld_of (a : A) (e : Event) (h : In a e) : 0 ≤ e.From ∧ e.From < e.To ∧ e.To ≤ 1099511627776 ∧ (e.Value = 0 ∨ e.Value = 1) := by
  obtain ⟨h1, _, _, h4, h5, h6, _⟩ := h
  unfold Vld at h1
  omega
theorem stepB_wf (c : Uart) (h : OkU c) (a : A) (e : Event) (hi : In a e) (hw : WfA c a) : WfA c (stepB c a e).1 ∧ (stepB c a e).2.length ≤ 1 ∧ (stepB c a e).1.at_ = e.To ∧ (stepB c a e).1.ph ≠ 0 := by
  obtain ⟨v1, v2, v3, v4⟩ := vld_of a e hi
  have ht := tot_b c h
  unfold stepB
  split
  · rename_i h2
    obtain ⟨w1, w2, w3⟩ := hw.two h2
    obtain ⟨g1, g2, g3, g4, g5⟩ := go_wf c h a e w1 w2 w3 v4
    exact ⟨g1, g2, g3, g4⟩
  · split
    · rename_i h3
      split
      · exact ⟨⟨.inr (.inr (.inr h3)), fun h' => by have h' : a.ph = 2 := h'; omega⟩, by simp, rfl, by dsimp only; omega⟩
      · exact ⟨⟨.inr (.inl rfl), fun h' => by have h' : (1 : Int) = 2 := h'; omega⟩, by simp, rfl, by dsimp only; omega⟩
    · split
      · exact ⟨⟨.inr (.inl rfl), fun h' => by have h' : (1 : Int) = 2 := h'; omega⟩, by simp, rfl, by dsimp only; omega⟩
      · obtain ⟨g1, g2, g3, g4, g5⟩ := go_wf c h ⟨2, e.To, e.From, 0, 0⟩ e (by dsimp only; omega) (by dsimp only; omega) (by dsimp only; rw [pw0]; omega) v4
        exact ⟨g1, g2, g3, g4⟩
theorem step_wf (c : Uart) (v : Int) (hok : v = 0 → OkU c) (a : A) (e : Event) (hw : WfA c a) : WfA c (stepA c v a e).1 ∧ (stepA c v a e).2.length ≤ 1 := by
  unfold stepA
  split
  · rename_i hi
    have := stepB_wf c (hok hi.1) a e hi.2 hw
    exact ⟨this.1, this.2.1⟩
  · exact ⟨hw, by simp⟩

/-! ### The program's state and the document's -/
structure PR (c : Uart) (a : A) (p : State) : Prop where
  ph : p.Phase = a.ph
  zero : a.ph = 0 → p = st0
  some_ : a.ph ≠ 0 → p.At = a.at_
  two : a.ph = 2 → p.From = a.frm ∧ p.Count = a.cnt ∧ p.Acc = a.acc
  cnt : 0 ≤ p.Count ∧ p.Count ≤ 13
theorem accepts_is (M : Nat) (c : Uart) (a : A) (p : State) (e : Event) (hp : PR c a p) : uart_accepts M p e = some (decide (In a e)) ∧ ref22_accepts M p e = some (decide (In a e)) := by
  have hat : (p.Phase = 0 ∨ e.From = p.At) ↔ (a.ph = 0 ∨ e.From = a.at_) := by
    rw [hp.ph]
    by_cases h0 : a.ph = 0
    · simp [h0]
    · rw [hp.some_ h0]
  constructor
  · simp only [uart_accepts, b_uart_accepts, event_valid, Option.bind_some, bif_if, beq_if]
    by_cases h : In a e
    · rw [decide_eq_true h]
      obtain ⟨h1, h2, h3, h4, h5, h6, h7⟩ := h
      rw [if_pos h1]
      have h7 := hat.2 h7
      rw [if_pos h2, if_pos h3, if_pos h4]
      have hz : (if p.Phase = 0 then some true else some (e.From == p.At)) = some true := by
        by_cases hz : p.Phase = 0
        · rw [if_pos hz]
        · rw [if_neg hz]; have : e.From = p.At := by omega
          rw [this]; simp
      by_cases hv : e.Value = 0
      · rw [if_pos hv]; exact hz
      · rw [if_neg hv, if_pos (by omega)]; exact hz
    · rw [decide_eq_false h]
      by_cases h1 : Vld e
      · rw [if_pos h1]
        by_cases h2 : e.Kind = 1
        · rw [if_pos h2]
          by_cases h3 : e.Fault = 0
          · rw [if_pos h3]
            by_cases h4 : e.From < e.To
            · rw [if_pos h4]
              have hz : 0 ≤ e.Value ∧ e.Value ≤ 1 → (if p.Phase = 0 then some true else some (e.From == p.At)) = some false := fun hv => by
                have hn : ¬ (p.Phase = 0 ∨ e.From = p.At) := fun hh => h ⟨h1, h2, h3, h4, hv.1, hv.2, hat.1 hh⟩
                rw [if_neg (by omega)]
                have : ¬ e.From = p.At := by omega
                simpa using this
              by_cases hv : e.Value = 0
              · rw [if_pos hv]; exact hz (by omega)
              · rw [if_neg hv]
                by_cases hv1 : e.Value = 1
                · rw [if_pos hv1]; exact hz (by omega)
                · rw [if_neg hv1]
            · rw [if_neg h4]
          · rw [if_neg h3]
        · rw [if_neg h2]
      · rw [if_neg h1]
  · simp only [ref22_accepts, b_ref22_accepts, ref_valid, Option.bind_some, bif_if, beq_if, bne_if]
    by_cases h : In a e
    · rw [decide_eq_true h]
      obtain ⟨h1, h2, h3, h4, h5, h6, h7⟩ := h
      rw [decide_eq_true h1]
      have h7 := hat.2 h7
      simp only [Bool.not_true, Bool.cond_false]
      rw [if_pos h2, if_pos h3, if_neg (by omega), if_neg (by omega), if_neg (by omega)]
      by_cases hz : p.Phase = 0
      · rw [if_pos hz]
      · rw [if_neg hz]; have : e.From = p.At := by omega
        rw [this]; simp
    · rw [decide_eq_false h]
      by_cases h1 : Vld e
      · rw [decide_eq_true h1]
        simp only [Bool.not_true, Bool.cond_false]
        by_cases h2 : e.Kind = 1
        · rw [if_pos h2]
          by_cases h3 : e.Fault = 0
          · rw [if_pos h3]
            by_cases h4 : e.From ≥ e.To
            · rw [if_pos h4]
            · rw [if_neg h4]
              by_cases h5 : e.Value < 0
              · rw [if_pos h5]
              · rw [if_neg h5]
                by_cases h6 : e.Value > 1
                · rw [if_pos h6]
                · rw [if_neg h6]
                  have hn : ¬ (p.Phase = 0 ∨ e.From = p.At) := fun hh => h ⟨h1, h2, h3, by omega, by omega, by omega, hat.1 hh⟩
                  rw [if_neg (by omega)]
                  have : ¬ e.From = p.At := by omega
                  simpa using this
          · rw [if_neg h3]
        · rw [if_neg h2]
      · rw [decide_eq_false h1]; rfl
theorem or_pw (k : Int) (hk : 0 ≤ k ∧ k ≤ 13) (acc v : Int) (ha : 0 ≤ acc ∧ acc < pw k) (hv' : v = 0 ∨ v = 1) : IntKind.i64.wrap (((BitVec.ofInt 64 acc ||| BitVec.ofInt 64 (IntKind.i64.wrap (v * 2 ^ min k.toNat 64))).toNat : Int)) = acc + v * pw k := by
  have hp := pw_b k hk
  rw [min_pw k hk]
  rcases hv' with rfl | rfl
  · obtain ⟨n, rfl⟩ := Int.eq_ofNat_of_zero_le ha.1
    rw [Int.zero_mul, i64_ok (n := 0) (by omega)]
    have := or_nat 64 n 0 (by omega) (by omega)
    change (BitVec.ofInt 64 (n : Int) ||| BitVec.ofInt 64 0).toNat = _ at this
    rw [this, Nat.or_zero, i64_ok (by omega)]; omega
  · obtain ⟨n, rfl⟩ := Int.eq_ofNat_of_zero_le ha.1
    have e2 : pw k = ((2 ^ k.toNat : Nat) : Int) := by unfold pw; simp
    rw [Int.one_mul, i64_ok (n := pw k) (by omega)]
    rw [e2] at hp ha ⊢
    have h2 : n < 2 ^ k.toNat := by have := ha.2; exact_mod_cast this
    rw [or_nat 64 n (2 ^ k.toNat) (by omega) (by omega), Nat.or_comm]
    have := Nat.two_pow_add_eq_or_of_lt (i := k.toNat) (b := n) h2 1
    rw [Nat.mul_one] at this
    rw [← this, i64_ok (by omega)]
    omega
theorem l8_samp (M : Nat) (hM : 100 < M) (c : Uart) (h : OkU c) (e z : State) (ev : Event) (hv' : ev.Value = 0 ∨ ev.Value = 1) (hT : ev.To ≤ 1099511627776) : ∀ (N m : Nat) (at9 : Int) (s : State) (out : List Event), s.Phase = 2 → s.Count + (N + 1 : Nat) = tot c → N + 3 < m → 0 ≤ s.Count → (0 ≤ s.Acc ∧ s.Acc < pw s.Count) → 0 ≤ s.From ∧ s.From ≤ 1099511627776 → out.length ≤ 1000 →
    uart_Step_l8 M m at9 c s ev z out = some ({ s with Phase := (sampL c s.From ev.To ev.Value (N + 1) s.Count s.Acc).1, Count := (sampL c s.From ev.To ev.Value (N + 1) s.Count s.Acc).2.1, Acc := (sampL c s.From ev.To ev.Value (N + 1) s.Count s.Acc).2.2.1 }, out ++ (sampL c s.From ev.To ev.Value (N + 1) s.Count s.Acc).2.2.2)
  | N, 0, at9, s, out, _, _, hm, _, _, _, _ => by omega
  | N, m + 1, at9, s, out, h2, hk, hm, h0, ha, hf, ho => by
    have ht := tot_b c h
    obtain ⟨b1, b2, b3, b4⟩ := hv_b c h (2 * s.Count + 1) (by omega)
    have hp := pw_b s.Count (by omega)
    have hps := pw_s s.Count h0
    have hmul : 0 ≤ ev.Value * pw s.Count ∧ ev.Value * pw s.Count ≤ pw s.Count := by rcases hv' with q | q <;> rw [q] <;> omega
    have hp2 := pw_b (s.Count + 1) (by omega)
    simp only [uart_Step_l8, b_uart_Step_l8, beq_if]
    rw [if_neg (show ¬ s.Phase = 3 by omega), if_pos h2, i64_ok (n := 2 * s.Count) (by omega), i64_ok (n := 2 * s.Count + 1) (by omega), halves_is M c h (2 * s.Count + 1) (by omega), Option.bind_some, i64_ok (n := s.From + hv c (2 * s.Count + 1)) (by omega), bif_if]
    simp only [sampL]
    by_cases c1 : s.From + hv c (2 * s.Count + 1) ≥ ev.To
    · rw [if_pos c1]
      simp only [if_neg (show ¬ s.From + hv c (2 * s.Count + 1) < ev.To by omega)]
      have : s = { s with Phase := 2 } := by cases s; simp only at h2; subst h2; rfl
      rw [List.append_nil]
      exact congrArg (fun q => some (q, out)) this
    · rw [if_neg c1]
      simp only [if_pos (show s.From + hv c (2 * s.Count + 1) < ev.To by omega)]
      rw [bif_neg (by omega), (size_is M c h).1, Option.bind_some, bif_neg (by omega), bif_neg (by omega), i64_ok (n := s.Count + 1) (by omega), or_pw s.Count (by omega) s.Acc ev.Value ha hv']
      simp only [Option.bind_some]
      obtain ⟨m', hm'⟩ : ∃ m', m = m' + 2 := ⟨m - 2, by omega⟩
      have one : ∀ (q : State) (o : List Event) (t : Int), q.Phase = 1 → ev.Value = 1 → uart_Step_l8 M m t c q ev z o = some (q, o) := fun q o t hq hv1 => by
        rw [hm']
        simp only [uart_Step_l8, b_uart_Step_l8, beq_if]
        rw [if_neg (show ¬ q.Phase = 3 by omega), if_neg (show ¬ q.Phase = 2 by omega), if_pos hv1]
        cases q; simp only at hq; subst hq; rfl
      have three : ∀ (q : State) (o : List Event) (t : Int), q.Phase = 3 → ev.Value = 0 → uart_Step_l8 M m t c q ev z o = some (q, o) := fun q o t hq hv1 => by
        rw [hm']
        simp only [uart_Step_l8, b_uart_Step_l8, beq_if]
        rw [if_pos hq, if_pos hv1]
      have fin := fin_is M (by omega) c h s.From (s.Acc + ev.Value * pw s.Count) hf (by omega)
      by_cases c2 : s.Count = 0 ∧ ev.Value = 1
      · rw [if_pos (show s.Count + 1 = 1 by omega), if_pos c2.2]
        simp only [if_pos c2]
        rw [one _ _ _ rfl c2.2, List.append_nil]
      · simp only [if_neg c2]
        have rest : (bif decide (s.Count + 1 < tot c) then uart_Step_l8 M m (s.From + hv c (2 * s.Count + 1)) c { s with Count := s.Count + 1, Acc := s.Acc + ev.Value * pw s.Count } ev z out else (uart_finished M c s.From (s.Acc + ev.Value * pw s.Count)).bind fun r3 => bif decide ((out.length + 1) * 64 ≤ 140737488355328) then (if ev.Value = 1 then uart_Step_l8 M m (s.From + hv c (2 * s.Count + 1)) c { s with Phase := 1, Count := s.Count + 1, Acc := s.Acc + ev.Value * pw s.Count } ev z (out ++ [r3]) else uart_Step_l8 M m (s.From + hv c (2 * s.Count + 1)) c { s with Phase := 3, Count := s.Count + 1, Acc := s.Acc + ev.Value * pw s.Count } ev z (out ++ [r3])) else none) = some ({ s with Phase := (if s.Count + 1 < tot c then sampL c s.From ev.To ev.Value N (s.Count + 1) (s.Acc + ev.Value * pw s.Count) else (if ev.Value = 1 then 1 else 3, s.Count + 1, s.Acc + ev.Value * pw s.Count, [evA c s.From (s.Acc + ev.Value * pw s.Count)])).1, Count := (if s.Count + 1 < tot c then sampL c s.From ev.To ev.Value N (s.Count + 1) (s.Acc + ev.Value * pw s.Count) else (if ev.Value = 1 then 1 else 3, s.Count + 1, s.Acc + ev.Value * pw s.Count, [evA c s.From (s.Acc + ev.Value * pw s.Count)])).2.1, Acc := (if s.Count + 1 < tot c then sampL c s.From ev.To ev.Value N (s.Count + 1) (s.Acc + ev.Value * pw s.Count) else (if ev.Value = 1 then 1 else 3, s.Count + 1, s.Acc + ev.Value * pw s.Count, [evA c s.From (s.Acc + ev.Value * pw s.Count)])).2.2.1 }, out ++ (if s.Count + 1 < tot c then sampL c s.From ev.To ev.Value N (s.Count + 1) (s.Acc + ev.Value * pw s.Count) else (if ev.Value = 1 then 1 else 3, s.Count + 1, s.Acc + ev.Value * pw s.Count, [evA c s.From (s.Acc + ev.Value * pw s.Count)])).2.2.2) := by
          rw [bif_if]
          by_cases c3 : s.Count + 1 < tot c
          · simp only [if_pos c3]
            obtain ⟨N', rfl⟩ : ∃ N', N = N' + 1 := ⟨N - 1, by omega⟩
            exact l8_samp M hM c h e z ev hv' hT N' m _ { s with Count := s.Count + 1, Acc := s.Acc + ev.Value * pw s.Count } out h2 (by dsimp only; omega) (by omega) (by dsimp only; omega) (by dsimp only; omega) hf ho
          · simp only [if_neg c3]
            rw [fin, Option.bind_some, bif_pos (by omega)]
            by_cases c4 : ev.Value = 1
            · simp only [if_pos c4]
              exact one _ _ _ rfl c4
            · simp only [if_neg c4]
              exact three _ _ _ rfl (by omega)
        by_cases c5 : s.Count + 1 = 1
        · rw [if_pos c5, if_neg (show ¬ ev.Value = 1 by omega)]
          exact rest
        · rw [if_neg c5]
          exact rest
end Go.Abs.K
