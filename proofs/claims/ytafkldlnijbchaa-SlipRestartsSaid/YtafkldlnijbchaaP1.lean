/- SLIP: what a step gives, the program's and the document's; what is decoded of a list. -/
import Derived.Test.YtafkldlnijbchaaE1
set_option linter.unusedVariables false
set_option linter.unusedSimpArgs false
namespace Go.Abs.K
open Go Go.Abs Go.Proofs

def OkC (c : Slip) : Prop := 1 ≤ c.Most ∧ c.Most ≤ 4096
instance (c : Slip) : Decidable (OkC c) := by unfold OkC; infer_instance
theorem check_is (M : Nat) (c : Slip) : slip_Check M c = some (if OkC c then 0 else 2) := by
  simp only [slip_Check, b_slip_Check, bif_if]
  by_cases h : OkC c
  · rw [if_pos h]; unfold OkC at h; repeat rw [if_neg (by omega)]
  · rw [if_neg h]; unfold OkC at h
    repeat' split
    all_goals first | rfl | (exfalso; omega)
theorem ref_check_is (M : Nat) (c : Slip) : ref29_Check M c = some (if OkC c then 0 else 2) := by
  simp only [ref29_Check, b_ref29_Check, bif_if]
  by_cases h : OkC c
  · rw [if_pos h]; unfold OkC at h; repeat rw [if_neg (by omega)]
  · rw [if_neg h]; unfold OkC at h
    repeat' split
    all_goals first | rfl | (exfalso; omega)
/-- An event that is let in. -/
def In (c : Slip) (s : State) (e : Event) : Prop := OkC c ∧ Vld e ∧ e.Kind = 3 ∧ 0 ≤ e.Value ∧ e.Value ≤ 255 ∧ s.Prev ≤ e.From
instance (c : Slip) (s : State) (e : Event) : Decidable (In c s e) := by unfold In; infer_instance
def putS (c : Slip) (s : State) (b : Int) : State := if (s.Data.size : Int) < c.Most then { s with Data := s.Data ++ toBytes [b] } else { s with Count := 1 }
/-- A byte other than END, within a packet (the state's Phase is 1 or 2). -/
def takeS (c : Slip) (s : State) (b : Int) : State :=
  if s.Phase = 2 then
    (if b = 220 then putS c { s with Phase := 1 } 192 else if b = 221 then putS c { s with Phase := 1 } 219 else { s with Phase := 1, Aux := 1 })
  else if b = 219 then { s with Phase := 2 } else putS c { s with Phase := 1 } b
def open1 (s : State) (f : Int) : State := if s.Phase = 0 then { s with Phase := 1, From := f } else s
def givenS (s : State) (to : Int) : List Event := if s.Phase = 0 then [] else [Event.mk 6 s.From (if to < s.From then s.From else to) 0 0 (bs []) 7]
def faultS (s : State) : Int := if s.Phase = 2 ∨ s.Aux = 1 then 5 else if s.Count > 0 then 8 else 0
def anew (s : State) : State := State.mk 0 s.At 0 0 0 0 s.Prev (bs [])
def stepS (c : Slip) (s : State) (e : Event) : State × List Event :=
  if In c s e then
    let s1 : State := { s with At := e.To, Prev := e.From }
    if e.Fault ≠ 0 then (anew s1, givenS s e.From)
    else if e.Value ≠ 192 then (takeS c (open1 s1 e.From) e.Value, [])
    else if s.Phase = 0 then (s1, [])
    else (anew s1, [Event.mk 6 s.From e.To 0 0 s.Data (faultS s)])
  else (s, [])
/-- The phases that a state may have. -/
def Ph (s : State) : Prop := (s.Phase = 0 ∨ s.Phase = 1 ∨ s.Phase = 2) ∧ (s.Aux = 0 ∨ s.Aux = 1) ∧ (s.Count = 0 ∨ s.Count = 1) ∧ s.Acc = 0 ∧ (s.Phase = 0 → s.From = 0 ∧ s.Count = 0 ∧ s.Aux = 0 ∧ s.Data = bs [])
theorem put_is (M : Nat) (c : Slip) (hc : OkC c) (s : State) (b : Int) : slip_put M c s b = some (putS c s b) := by
  simp only [slip_put, b_slip_put, putS, toBytes_size, List.length_cons, List.length_nil]
  unfold OkC at hc
  by_cases h : (s.Data.size : Int) < c.Most
  · rw [bif_pos h, if_pos h, bif_neg (by omega)]
  · rw [bif_neg h, if_neg h]
theorem take_is (M : Nat) (c : Slip) (hc : OkC c) (s : State) (f b : Int) (hp : s.Phase = 0 ∨ s.Phase = 1 ∨ s.Phase = 2) : slip_take M c s f b = some (takeS c (open1 s f) b) := by
  simp only [slip_take, b_slip_take, put_is M c hc, Option.bind_some, beq_if]
  unfold takeS open1
  rcases hp with hp | hp | hp <;> simp only [hp] <;> simp <;> repeat' split
  all_goals first | rfl | simp_all
theorem step_is (M : Nat) (c : Slip) (s : State) (e : Event) (hp : Ph s) : slip_Step M c s e = some (stepS c s e) := by
  simp only [slip_Step, b_slip_Step, check_is, event_valid, Option.bind_some, beq_if, bne_if, bif_if]
  unfold stepS
  have hp1 := hp.1
  by_cases hin : In c s e
  · rw [if_pos hin]
    obtain ⟨h1, h2, h3, h4, h5, h6⟩ := hin
    rw [if_pos h1, if_pos rfl, decide_eq_true h2, if_pos h3, if_neg (show ¬ e.Value < 0 by omega), if_neg (show ¬ e.Value > 255 by omega), if_neg (show ¬ e.From < s.Prev by omega)]
    simp only [Bool.not_true, Bool.cond_false]
    by_cases hf : e.Fault = 0
    · have hf' : ¬ e.Fault ≠ 0 := fun h => h hf
      rw [if_pos hf, if_neg hf']
      by_cases hv : e.Value = 192
      · have hv' : ¬ e.Value ≠ 192 := fun h => h hv
        rw [if_pos hv, if_neg hv']
        simp only [slip_complete, b_slip_complete, beq_if, bif_if, faultS, anew]
        rcases hp1 with hp1 | hp1 | hp1 <;> simp only [hp1] <;> simp <;> repeat' split
        all_goals rfl
      · rw [if_neg hv, if_pos hv, take_is M c h1 { s with At := e.To, Prev := e.From } _ _ hp1, u8_ok ⟨h4, h5⟩]
        rfl
    · rw [if_neg hf, if_pos hf]
      simp only [slip_given, b_slip_given, givenS, beq_if]
      split <;> rfl
  · rw [if_neg hin]
    unfold In at hin
    by_cases h1 : OkC c
    · rw [if_pos h1, if_pos rfl]
      by_cases h2 : Vld e
      · rw [decide_eq_true h2]
        simp only [Bool.not_true, Bool.cond_false]
        repeat' split
        all_goals first | rfl | (exfalso; apply hin; refine ⟨h1, h2, ?_, ?_, ?_, ?_⟩ <;> omega)
      · rw [decide_eq_false h2]; rfl
    · rw [if_neg h1]; rfl
theorem put_ph (c : Slip) (s : State) (b : Int) (h : Ph s) (hn : s.Phase ≠ 0) : Ph (putS c s b) ∧ (putS c s b).Phase = s.Phase := by
  obtain ⟨h1, h2, h3, h4, h5⟩ := h
  unfold putS
  split
  · exact ⟨⟨h1, h2, h3, h4, fun h => absurd h hn⟩, rfl⟩
  · exact ⟨⟨h1, h2, .inr rfl, h4, fun h => absurd h hn⟩, rfl⟩
theorem open_ph (s : State) (f : Int) (h : Ph s) : Ph (open1 s f) ∧ (open1 s f).Phase ≠ 0 := by
  obtain ⟨h1, h2, h3, h4, h5⟩ := h
  unfold open1
  split
  · refine ⟨⟨.inr (.inl rfl), h2, h3, h4, fun h => ?_⟩, ?_⟩
    · exact absurd h (show ¬ (1 : Int) = 0 by omega)
    · exact (show ¬ (1 : Int) = 0 by omega)
  · rename_i hn; exact ⟨⟨h1, h2, h3, h4, h5⟩, hn⟩
theorem ph_one (s : State) (h : Ph s) (hn : s.Phase ≠ 0) (p : Int) (hp : p = 1 ∨ p = 2) : Ph { s with Phase := p } := by
  obtain ⟨h1, h2, h3, h4, h5⟩ := h
  refine ⟨by rcases hp with rfl | rfl <;> simp, h2, h3, h4, fun h => ?_⟩
  have h : p = 0 := h
  omega
theorem take_ph (c : Slip) (s : State) (b : Int) (h : Ph s) (hn : s.Phase ≠ 0) : Ph (takeS c s b) ∧ (takeS c s b).Phase ≠ 0 := by
  have h1 := ph_one s h hn 1 (.inl rfl)
  have h2 := ph_one s h hn 2 (.inr rfl)
  have key : ∀ x, Ph (putS c { s with Phase := 1 } x) ∧ (putS c { s with Phase := 1 } x).Phase ≠ 0 := fun x => by
    have := put_ph c _ x h1 (show ¬ (1 : Int) = 0 by omega)
    exact ⟨this.1, by rw [this.2]; exact (show ¬ (1 : Int) = 0 by omega)⟩
  unfold takeS
  repeat' split
  · exact key 192
  · exact key 219
  · obtain ⟨a1, a2, a3, a4, a5⟩ := h1
    refine ⟨⟨a1, .inr rfl, a3, a4, fun h => ?_⟩, (show ¬ (1 : Int) = 0 by omega)⟩
    exact absurd h (show ¬ (1 : Int) = 0 by omega)
  · exact ⟨h2, (show ¬ (2 : Int) = 0 by omega)⟩
  · exact key b
theorem at_ph (s : State) (h : Ph s) (a p : Int) : Ph { s with At := a, Prev := p } := h
theorem anew_ph (s : State) : Ph (anew s) := by
  refine ⟨.inl rfl, .inl rfl, .inl rfl, rfl, fun _ => ⟨rfl, rfl, rfl, rfl⟩⟩
theorem step_ph (c : Slip) (s : State) (e : Event) (h : Ph s) : Ph (stepS c s e).1 := by
  unfold stepS
  split
  · dsimp only
    repeat' split
    · exact anew_ph _
    · have := open_ph _ e.From (at_ph s h e.To e.From)
      exact (take_ph c _ e.Value this.1 this.2).1
    · exact h
    · exact anew_ph _
  · exact h
/-- The document's state. -/
def rof (p : Int) (s : State) : State := State.mk p s.At s.From (if s.Phase = 0 then 0 else 1) s.Count (s.Aux + if s.Phase = 2 then 2 else 0) s.Prev s.Data
theorem add_is (M : Nat) (c : Slip) (hc : OkC c) (s : State) (b : Int) (hb : 0 ≤ b ∧ b ≤ 255) : ref29_add M c s b = some (if (s.Data.size : Int) < c.Most then { s with Data := s.Data ++ toBytes [b] } else { s with Acc := 1 }) := by
  simp only [ref29_add, b_ref29_add, toBytes_size, List.length_cons, List.length_nil, u8_ok hb]
  unfold OkC at hc
  by_cases h : (s.Data.size : Int) < c.Most
  · rw [bif_neg (by omega), if_pos h, bif_neg (by omega)]
  · rw [bif_pos (by omega), if_neg h]
theorem add_rof (M : Nat) (c : Slip) (hc : OkC c) (s : State) (b : Int) (hb : 0 ≤ b ∧ b ≤ 255) : ref29_add M c (rof 1 s) b = some (rof 1 (putS c s b)) := by
  rw [add_is M c hc _ b hb]
  unfold putS rof
  dsimp only
  split <;> rfl
theorem collect_is (M : Nat) (c : Slip) (hc : OkC c) (s : State) (e : Event) (h : Ph s) (hv : 0 ≤ e.Value ∧ e.Value ≤ 255) : ref29_collect M c (rof 1 s) e = some (rof 1 (takeS c (open1 s e.From) e.Value)) := by
  obtain ⟨h1, h2, h3, h4, h5⟩ := h
  have e192 := add_rof M c hc
  rcases h1 with hp | hp | hp
  · obtain ⟨g1, g2, g3, g4⟩ := h5 hp
    have k := fun x hx => add_rof M c hc (State.mk 1 s.At e.From s.Count s.Acc s.Aux s.Prev s.Data) x hx
    unfold rof at k
    simp only [g3] at k
    simp at k
    simp only [ref29_collect, b_ref29_collect, rof, hp, g3, beq_if, bif_if]
    unfold takeS open1
    simp only [hp]
    simp
    by_cases hv2 : e.Value = 219
    · simp [hv2, rof, g3, hp]
      decide
    · simp only [if_neg hv2, k e.Value hv.1 hv.2]
      simp [rof, g3, hp]
  · have k := fun x hx => add_rof M c hc { s with Phase := 1 } x hx
    unfold rof at k
    simp at k
    simp only [ref29_collect, b_ref29_collect, rof, hp, beq_if, bif_if]
    unfold takeS open1
    simp only [hp]
    simp
    rw [if_neg (by omega)]
    by_cases hv2 : e.Value = 219
    · simp [hv2, rof, hp]
      rw [i64_ok (by omega)]
    · simp only [if_neg hv2, k e.Value hv.1 hv.2]
      simp [rof, hp]
  · have k := fun x hx => add_rof M c hc { s with Phase := 1 } x hx
    unfold rof at k
    simp at k
    simp only [ref29_collect, b_ref29_collect, rof, hp, beq_if, bif_if]
    unfold takeS open1
    simp only [hp]
    simp
    rw [if_pos (by omega), i64_ok (by omega)]
    by_cases hv1 : e.Value = 220
    · simp [hv1, hp, k 192 (by omega) (by omega), rof]
    · by_cases hv2 : e.Value = 221
      · simp [hv1, hv2, hp, k 219 (by omega) (by omega), rof]
      · simp [hv1, hv2, rof, hp]
end Go.Abs.K
