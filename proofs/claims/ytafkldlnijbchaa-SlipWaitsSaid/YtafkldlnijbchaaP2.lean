/- SLIP: the document's step; what is decoded; the laws of configurations and of decoding. -/
import Derived.Test.YtafkldlnijbchaaP1
set_option linter.unusedVariables false
set_option linter.unusedSimpArgs false
namespace Go.Abs.K
open Go Go.Abs Go.Proofs

def s0 : State := State.mk 0 0 0 0 0 0 0 (bs [])
theorem s0_ph : Ph s0 := ⟨.inl rfl, .inl rfl, .inl rfl, rfl, fun _ => ⟨rfl, rfl, rfl, rfl⟩⟩
theorem greater_is (M : Nat) (a b : Int) : ref29_greater M a b = some (if a > b then a else b) := by
  simp only [ref29_greater, b_ref29_greater, bif_if]
  split <;> rfl
theorem aborted_is (M : Nat) (p : Int) (s : State) (to : Int) : ref29_aborted M (rof p s) to = some (givenS s to) := by
  simp only [ref29_aborted, b_ref29_aborted, greater_is, Option.bind_some, rof, givenS, beq_if]
  by_cases h : s.Phase = 0
  · simp [h]
  · have h1 : ¬ (if s.Phase = 0 then (0 : Int) else 1) = 0 := by rw [if_neg h]; omega
    rw [if_neg h1]
    by_cases h2 : s.From > to
    · rw [if_pos h2, if_neg h]
    · rw [if_neg h2, if_neg h]
theorem ref_step_is (M : Nat) (c : Slip) (p : Int) (s : State) (e : Event) (h : Ph s) (hp : p = 1 ∨ (p = 0 ∧ s.Prev = 0)) :
    ref29_Step M c (rof p s) e = some (rof (if In c s e then 1 else p) (stepS c s e).1, (stepS c s e).2) := by
  have hph := h
  obtain ⟨h1, h2, h3, h4, h5⟩ := h
  simp only [ref29_Step, b_ref29_Step, ref_check_is, ref_valid, Option.bind_some, beq_if, bne_if, bif_if, aborted_is]
  unfold stepS
  by_cases hin : In c s e
  · rw [if_pos hin, if_pos hin]
    obtain ⟨g1, g2, g3, g4, g5, g6⟩ := hin
    rw [if_pos g1, if_pos rfl, decide_eq_true g2, if_pos g3, if_neg (show ¬ e.Value < 0 by omega), if_neg (show ¬ e.Value > 255 by omega)]
    simp only [Bool.not_true, Bool.cond_false]
    have hprev : (rof p s).Prev = s.Prev := rfl
    have hcol := collect_is M c g1 { s with At := e.To, Prev := e.From } e (at_ph s hph e.To e.From) ⟨g4, g5⟩
    have hcol' : ref29_collect M c (State.mk 1 e.To (rof p s).From (rof p s).Count (rof p s).Acc (rof p s).Aux e.From (rof p s).Data) e = some (rof 1 (takeS c (open1 { s with At := e.To, Prev := e.From } e.From) e.Value)) := hcol
    have key : (if e.Fault = 0 then
          if e.Value = 192 then
            if (rof p s).Count = 0 then some (State.mk 1 e.To 0 0 0 0 e.From (bs []), ([] : List Event))
            else if (rof p s).Acc = 1 then
              if (rof p s).Aux > 0 then some (State.mk 1 e.To 0 0 0 0 e.From (bs []), [Event.mk 6 (rof p s).From e.To 0 0 (rof p s).Data 5])
              else some (State.mk 1 e.To 0 0 0 0 e.From (bs []), [Event.mk 6 (rof p s).From e.To 0 0 (rof p s).Data 8])
            else if (rof p s).Aux > 0 then some (State.mk 1 e.To 0 0 0 0 e.From (bs []), [Event.mk 6 (rof p s).From e.To 0 0 (rof p s).Data 5])
              else some (State.mk 1 e.To 0 0 0 0 e.From (bs []), [Event.mk 6 (rof p s).From e.To 0 0 (rof p s).Data 0])
          else (ref29_collect M c (State.mk 1 e.To (rof p s).From (rof p s).Count (rof p s).Acc (rof p s).Aux e.From (rof p s).Data) e).bind fun r => some (r, [])
        else some (State.mk 1 e.To 0 0 0 0 e.From (bs []), givenS s e.From)) =
        some (rof 1 (if e.Fault ≠ 0 then (anew { s with At := e.To, Prev := e.From }, givenS s e.From)
          else if e.Value ≠ 192 then (takeS c (open1 { s with At := e.To, Prev := e.From } e.From) e.Value, [])
          else if s.Phase = 0 then ({ s with At := e.To, Prev := e.From }, [])
          else (anew { s with At := e.To, Prev := e.From }, [Event.mk 6 s.From e.To 0 0 s.Data (faultS s)])).1,
          (if e.Fault ≠ 0 then (anew { s with At := e.To, Prev := e.From }, givenS s e.From)
          else if e.Value ≠ 192 then (takeS c (open1 { s with At := e.To, Prev := e.From } e.From) e.Value, [])
          else if s.Phase = 0 then ({ s with At := e.To, Prev := e.From }, [])
          else (anew { s with At := e.To, Prev := e.From }, [Event.mk 6 s.From e.To 0 0 s.Data (faultS s)])).2) := by
      by_cases hf : e.Fault = 0
      · have hf' : ¬ e.Fault ≠ 0 := fun h => h hf
        rw [if_pos hf, if_neg hf']
        by_cases hv : e.Value = 192
        · have hv' : ¬ e.Value ≠ 192 := fun h => h hv
          rw [if_pos hv, if_neg hv']
          by_cases hz : s.Phase = 0
          · obtain ⟨k1, k2, k3, k4⟩ := h5 hz
            rw [if_pos hz]
            simp [rof, hz, k1, k2, k3, k4]
          · rw [if_neg hz]
            have hfa : faultS s = if (rof p s).Aux > 0 then 5 else if (rof p s).Acc = 1 then 8 else 0 := by
              unfold faultS rof
              dsimp only
              repeat' split
              all_goals first | rfl | (exfalso; omega)
            rw [hfa]
            have hcnt : ¬ (rof p s).Count = 0 := by unfold rof; dsimp only; rw [if_neg hz]; omega
            rw [if_neg hcnt]
            have e1 : rof 1 (anew { s with At := e.To, Prev := e.From }) = State.mk 1 e.To 0 0 0 0 e.From (bs []) := rfl
            dsimp only
            rw [e1]
            by_cases q1 : (rof p s).Aux > 0
            · simp only [if_pos q1]
              split <;> rfl
            · simp only [if_neg q1]
              split <;> rfl
        · rw [if_neg hv, if_pos hv, hcol']
          rfl
      · rw [if_neg hf, if_pos hf]
        rfl
    by_cases hp1 : (rof p s).Phase = 1
    · rw [if_pos hp1, if_neg (show ¬ e.From < (rof p s).Prev by rw [hprev]; omega)]
      exact key
    · rw [if_neg hp1]
      exact key
  · rw [if_neg hin, if_neg hin]
    unfold In at hin
    have hself : ∀ q : Int × Int, True := fun _ => trivial
    by_cases g1 : OkC c
    · rw [if_pos g1, if_pos rfl]
      by_cases g2 : Vld e
      · rw [decide_eq_true g2]
        simp only [Bool.not_true, Bool.cond_false]
        by_cases g3 : e.Kind = 3
        · rw [if_pos g3]
          by_cases g4 : e.Value < 0
          · rw [if_pos g4]
          · rw [if_neg g4]
            by_cases g5 : e.Value > 255
            · rw [if_pos g5]
            · rw [if_neg g5]
              have hlt : e.From < s.Prev := by
                rcases Int.lt_or_le e.From s.Prev with hh | hh
                · exact hh
                · exact absurd ⟨g1, g2, g3, by omega, by omega, hh⟩ hin
              have hp' : p = 1 := by
                rcases hp with hp | ⟨_, hp⟩
                · exact hp
                · unfold Vld at g2; omega
              rw [if_pos (show (rof p s).Phase = 1 from hp'), if_pos (show e.From < (rof p s).Prev from hlt)]
        · rw [if_neg g3]
      · rw [decide_eq_false g2]; rfl
    · rw [if_neg g1]; rfl

/-! ### What is decoded -/
def runS (c : Slip) : State → List Event → State × List Event
  | s, [] => (s, [])
  | s, e :: l => ((runS c (stepS c s e).1 l).1, (stepS c s e).2 ++ (runS c (stepS c s e).1 l).2)
theorem runS_append (c : Slip) : ∀ (l k : List Event) (s : State), runS c s (l ++ k) = ((runS c (runS c s l).1 k).1, (runS c s l).2 ++ (runS c (runS c s l).1 k).2)
  | [], k, s => by simp [runS]
  | e :: l, k, s => by simp [runS, runS_append c l k]
theorem runS_ph (c : Slip) : ∀ (l : List Event) (s : State), Ph s → Ph (runS c s l).1
  | [], s, h => h
  | e :: l, s, h => runS_ph c l _ (step_ph c s e h)
def endS (c : Slip) (s : State) : List Event := if OkC c then givenS s s.At else []
def decS (c : Slip) (l : List Event) : List Event := (runS c s0 l).2 ++ endS c (runS c s0 l).1
theorem given_len (s : State) (t : Int) : (givenS s t).length ≤ 1 := by unfold givenS; split <;> simp
theorem end_len (c : Slip) (s : State) : (endS c s).length ≤ 1 := by 
  unfold endS
  split
  · exact given_len _ _
  · simp
theorem step_len (c : Slip) (s : State) (e : Event) : (stepS c s e).2.length ≤ 1 := by
  unfold stepS
  split
  · dsimp only
    repeat' split
    all_goals first | exact given_len _ _ | simp
  · simp
theorem run_len (c : Slip) : ∀ (l : List Event) (s : State), (runS c s l).2.length ≤ l.length
  | [], s => by simp [runS]
  | e :: l, s => by
    have := run_len c l (stepS c s e).1
    have := step_len c s e
    simp only [runS, List.length_append, List.length_cons]
    omega
theorem dec_len (c : Slip) (l : List Event) : (decS c l).length ≤ l.length + 1 := by
  have := run_len c l s0
  have := end_len c (runS c s0 l).1
  unfold decS
  rw [List.length_append]; omega
theorem end_is (M : Nat) (c : Slip) (s : State) : slip_End M c s = some (endS c s) := by
  simp only [slip_End, b_slip_End, check_is, Option.bind_some, bne_if, endS]
  by_cases h : OkC c
  · simp only [if_pos h, if_true, slip_given, b_slip_given, givenS, beq_if]
    split <;> rfl
  · simp only [if_neg h]; rfl
theorem ref_end_is (M : Nat) (c : Slip) (p : Int) (s : State) : ref29_End M c (rof p s) = some (endS c s) := by
  simp only [ref29_End, b_ref29_End, ref_check_is, Option.bind_some, bne_if, endS, aborted_is]
  by_cases h : OkC c
  · simp only [if_pos h, if_true]; rfl
  · simp only [if_neg h]; rfl
theorem dec_l4 (M : Nat) (c : Slip) (l : List Event) (hl : l.length ≤ 1000000) : ∀ (r : List Event) (i m : Nat) (s : State) (out : List Event), Ph s → l.drop i = r → r.length < m → out.length + r.length ≤ 1000000 → slip_Decode_l4 M m (l.length : Int) (i : Int) c s out l = some (out ++ (runS c s r).2 ++ endS c (runS c s r).1)
  | r, i, 0, s, out, _, _, hm, _ => by omega
  | [], i, m + 1, s, out, hph, hr, hm, ho => by
    have := drop_nil hr
    have he := end_len c s
    simp only [slip_Decode_l4, b_slip_Decode_l4, end_is, Option.bind_some]
    simp only [List.length_nil] at ho
    rw [bif_neg (by omega), bif_pos (by omega)]
    simp [runS]
  | e :: r, i, m + 1, s, out, hph, hr, hm, ho => by
    obtain ⟨h1, h2, h3, h4, h5⟩ := drop_cons hr dflt_Event
    have hlen := step_len c s e
    simp only [List.length_cons] at hm ho
    simp only [slip_Decode_l4, b_slip_Decode_l4, h1, step_is M c s e hph, Option.bind_some]
    rw [bif_pos (by omega), bif_pos (by omega), bif_pos (by omega), bif_pos (by omega), next_i i (by omega)]
    rw [dec_l4 M c l hl r (i + 1) m _ _ (step_ph c s e hph) h3 (by omega) (by rw [List.length_append]; omega)]
    simp [runS]
theorem decode_is (M : Nat) (c : Slip) (l : List Event) (hl : l.length ≤ 1000000) (hm : l.length < M) : slip_Decode M c l = some (decS c l) := by
  simp only [slip_Decode, b_slip_Decode]
  have := dec_l4 M c l hl l 0 M s0 [] s0_ph rfl hm (by simpa using hl)
  rw [List.nil_append] at this
  exact this
theorem step_prev (c : Slip) (s : State) (e : Event) (h : ¬ In c s e) : (stepS c s e).1 = s := by unfold stepS; rw [if_neg h]
theorem rdec_l4 (M : Nat) (c : Slip) (l : List Event) (hl : l.length ≤ 1000000) : ∀ (r : List Event) (i m : Nat) (p : Int) (s : State) (out : List Event), Ph s → (p = 1 ∨ (p = 0 ∧ s.Prev = 0)) → l.drop i = r → r.length < m → out.length + r.length ≤ 1000000 → ref29_Decode_l4 M m (i : Int) l c out (rof p s) = some (out ++ (runS c s r).2 ++ endS c (runS c s r).1)
  | r, i, 0, p, s, out, _, _, _, hm, _ => by omega
  | [], i, m + 1, p, s, out, hph, hp, hr, hm, ho => by
    have := drop_nil hr
    have he := end_len c s
    simp only [ref29_Decode_l4, b_ref29_Decode_l4, ref_end_is, Option.bind_some]
    simp only [List.length_nil] at ho
    rw [bif_neg (by omega), bif_pos (by omega)]
    simp [runS]
  | e :: r, i, m + 1, p, s, out, hph, hp, hr, hm, ho => by
    obtain ⟨h1, h2, h3, h4, h5⟩ := drop_cons hr dflt_Event
    have hlen := step_len c s e
    simp only [List.length_cons] at hm ho
    simp only [ref29_Decode_l4, b_ref29_Decode_l4, h1, ref_step_is M c p s e hph hp, Option.bind_some]
    rw [bif_pos (by omega), bif_pos (by omega), bif_pos (by omega), bif_pos (by omega), next_i i (by omega)]
    rw [rdec_l4 M c l hl r (i + 1) m _ _ _ (step_ph c s e hph) (by
      by_cases hin : In c s e
      · rw [if_pos hin]; exact .inl rfl
      · rw [if_neg hin, step_prev c s e hin]; exact hp) h3 (by omega) (by rw [List.length_append]; omega)]
    simp [runS]
theorem rdecode_is (M : Nat) (c : Slip) (l : List Event) (hl : l.length ≤ 1000000) (hm : l.length < M) : ref29_Decode M c l = some (decS c l) := by
  simp only [ref29_Decode, b_ref29_Decode]
  have := rdec_l4 M c l hl l 0 M 0 s0 [] s0_ph (.inr ⟨rfl, rfl⟩) rfl hm (by simpa using hl)
  rw [List.nil_append] at this
  exact this
theorem awake_true (M : Nat) (hM : 40 < M) : law29_awake M = some true := by
  obtain ⟨m, rfl⟩ : ∃ m, M = m + 40 := ⟨M - 40, by omega⟩
  kernel_rfl
theorem decodes_l6 (c : Slip) (l : List Event) (hl : l.length ≤ 2000) : ∀ (r : List Event) (i m : Nat) (p : Int) (s : State), Ph s → (p = 1 ∨ (p = 0 ∧ s.Prev = 0)) → l.drop i = r → r.length < m → law29_SlipDecodes_l6 3000 m (i : Int) l c s (rof p s) = some true
  | r, i, 0, p, s, _, _, _, hm => by omega
  | [], i, m + 1, p, s, hph, hp, hr, hm => by
    have := drop_nil hr
    have he := end_len c s
    have hd := dec_len c l
    simp only [law29_SlipDecodes_l6, b_law29_SlipDecodes_l6, end_is, ref_end_is, Option.bind_some, same_self 3000 (endS c s) (by omega) (by omega), Bool.cond_true, decode_is 3000 c l (by omega) (by omega), rdecode_is 3000 c l (by omega) (by omega),
      same_self 3000 (decS c l) (by omega) (by omega), awake_true 3000 (by omega)]
    rw [bif_neg (by omega)]
  | e :: r, i, m + 1, p, s, hph, hp, hr, hm => by
    obtain ⟨h1, h2, h3, h4, h5⟩ := drop_cons hr dflt_Event
    simp only [List.length_cons] at hm
    have hlen := step_len c s e
    simp only [law29_SlipDecodes_l6, b_law29_SlipDecodes_l6, h1, step_is 3000 c s e hph, ref_step_is 3000 c p s e hph hp, Option.bind_some, same_self 3000 (stepS c s e).2 (by omega) (by omega), Bool.not_true, Bool.cond_false]
    simp only [bif_pos (show (i : Int) < (l.length : Int) by omega), bif_pos (show (0 : Int) ≤ (i : Int) by omega), next_i i (by omega)]
    exact decodes_l6 c l hl r (i + 1) m _ _ (step_ph c s e hph) (by
      by_cases hin : In c s e
      · rw [if_pos hin]; exact .inl rfl
      · rw [if_neg hin, step_prev c s e hin]; exact hp) h3 (by omega)
theorem SlipDecodes_true (c : Slip) (l : List Event) (hc : wf_Slip c) (hl : (∀ x, x ∈ l → wf_Event x) ∧ l.length * Try.prog.bytesOf 27 ≤ 140737488351232) : ∃ M, law29_SlipDecodes M c l = some true := by
  refine ⟨3000, ?_⟩
  simp only [law29_SlipDecodes, b_law29_SlipDecodes, awake_true 3000 (by omega), Option.bind_some]
  by_cases h : (l.length : Int) > 2000
  · rw [bif_pos h]
  · rw [bif_neg h]
    exact decodes_l6 c l (by omega) l 0 3000 0 s0 s0_ph (.inr ⟨rfl, rfl⟩) rfl (by omega)
/-- A configuration that isn't valid: nothing happens. -/
theorem bad_step (M : Nat) (c : Slip) (h : ¬ OkC c) (s : State) (e : Event) : slip_Step M c s e = some (s, []) := by
  simp only [slip_Step, b_slip_Step, check_is, Option.bind_some, bne_if, if_neg h]
  rfl
theorem SlipChecks_true (c : Slip) (s : State) (x : Event) (hc : wf_Slip c) (hs : wf_State s) (hx : wf_Event x) : ∃ M, law29_SlipChecks M c s x = some true := by
  refine ⟨3000, ?_⟩
  simp only [law29_SlipChecks, b_law29_SlipChecks, check_is, ref_check_is, Option.bind_some, bne_self_eq_false, Bool.cond_false, beq_if, awake_true 3000 (by omega)]
  by_cases h : OkC c
  · simp only [if_pos h, if_true]
  · simp only [if_neg h]
    have he : slip_Encode 3000 c [] = some ([], 2) := by
      simp only [slip_Encode, b_slip_Encode, check_is, Option.bind_some, if_neg h, bne_if]; rfl
    have hd : slip_Decode 3000 c [x] = some [] := by
      rw [decode_is 3000 c [x] (by simp) (by simp)]
      have : stepS c s0 x = (s0, []) := by unfold stepS; rw [if_neg (fun hh => h hh.1)]
      simp [decS, runS, this, endS, h]
    simp only [bad_step 3000 c h, he, hd, end_is, endS, if_neg h, Option.bind_some, beq_self_eq_true, bytes_beq_self, Bool.and_self, Bool.cond_true, List.length_nil, Int.natCast_zero, if_true]
    rfl
end Go.Abs.K
