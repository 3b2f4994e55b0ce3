/- SAMPLER: steps and decoding, the program's and the document's. -/
import Derived.Test.YtllgkfhpfonjnaaP3
set_option linter.unusedVariables false
set_option linter.unusedSimpArgs false
namespace Go.Abs.K
open Go Go.Abs Go.Proofs

theorem sm_le (n d k : Int) (h : OkR n d) (hk : 0 ≤ k) : 0 ≤ sm n d k ∧ sm n d k ≤ 1048576 * (k + 1) := by
  have h1 := bd_le n d (k + 1) h (by omega)
  have h2 := bd_sm n d k h hk
  have h3 := sm_spec n d k h hk
  omega
theorem l8_is (M : Nat) (n d : Int) (h : OkR n d) (e : Event) (z : State) (hT : 0 ≤ e.To ∧ e.To ≤ 1099511627776) : ∀ (N : Nat) (m : Nat) (s : State) (out : List Event), N < m → 0 ≤ s.From → s.From ≤ 1099511627776 → 0 ≤ s.Count → e.To - (s.From + sm n d s.Count) ≤ N → s.Count + N ≤ 2900000000000 → out.length + N ≤ 2000000000000 →
    sampler_machine_step_l8 M m ⟨n, d⟩ s e z out = some ({ s with At := e.To, Count := (emit n d s.From e.Value e.To N s.Count s.Aux).2.1, Aux := (emit n d s.From e.Value e.To N s.Count s.Aux).2.2 }, out ++ (emit n d s.From e.Value e.To N s.Count s.Aux).1)
  | N, 0, s, out, hm, _, _, _, _, _, _ => by omega
  | 0, m + 1, s, out, hm, h1, h2, h3, h4, h5, h6 => by
    have hs := sm_le n d s.Count h h3
    simp only [sampler_machine_step_l8, b_sampler_machine_step_l8, (sample_is M n d s.Count h ⟨h3, by omega⟩).1, Option.bind_some]
    rw [i64_ok (n := s.From + sm n d s.Count) (by omega), bif_neg (by omega)]
    simp [emit]
  | N + 1, m + 1, s, out, hm, h1, h2, h3, h4, h5, h6 => by
    have hs := sm_le n d s.Count h h3
    have hst := sm_step n d s.Count h h3
    have hb0 := bd_spec n d s.Count h h3
    have hb1 := bd_spec n d (s.Count + 1) h (by omega)
    have hb2 := bd_le n d (s.Count + 1) h (by omega)
    have hb3 := bd_le n d s.Count h h3
    simp only [sampler_machine_step_l8, b_sampler_machine_step_l8, (sample_is M n d s.Count h ⟨h3, by omega⟩).1, Option.bind_some]
    rw [i64_ok (n := s.From + sm n d s.Count) (by omega)]
    by_cases c : s.From + sm n d s.Count < e.To
    · rw [bif_pos c, i64_ok (n := s.Count + 1) (by omega), (boundary_is M n d s.Count h ⟨h3, by omega⟩).1, Option.bind_some, (boundary_is M n d (s.Count + 1) h ⟨by omega, by omega⟩).1, Option.bind_some]
      rw [i64_ok (n := s.From + bd n d s.Count) (by omega), i64_ok (n := s.From + bd n d (s.Count + 1)) (by omega)]
      simp only [bif_pos (show (out.length + 1) * 64 ≤ 140737488355328 by omega)]
      have ih := fun out' ho => l8_is M n d h e z hT N m { s with Count := s.Count + 1, Aux := 0 } out' (by omega) h1 h2 (by dsimp only; omega) (by dsimp only; omega) (by dsimp only; omega) ho
      have hem : emit n d s.From e.Value e.To (N + 1) s.Count s.Aux = (evB n d s.From e.Value s.Count s.Aux :: (emit n d s.From e.Value e.To N (s.Count + 1) 0).1, (emit n d s.From e.Value e.To N (s.Count + 1) 0).2) := by
        show (if _ then _ else _) = _
        rw [if_pos c]
      rw [hem]
      by_cases ha : s.Aux = 1
      · have : (s.Aux == 1) = true := by simp [ha]
        rw [this, Bool.cond_true, ih _ (by simp; omega)]
        simp [evB, ha]
      · have : (s.Aux == 1) = false := by simp [ha]
        rw [this, Bool.cond_false, ih _ (by simp; omega)]
        simp [evB, ha]
    · rw [bif_neg c]
      have hem : emit n d s.From e.Value e.To (N + 1) s.Count s.Aux = ([], s.Count, s.Aux) := by
        show (if _ then _ else _) = _
        rw [if_neg c]
      rw [hem]
      simp
theorem l11_is (M : Nat) (c : Clock) (h : OkR c.T_Num c.T_Den) (e : Event) (z : State) (hT : 0 ≤ e.To ∧ e.To ≤ 1099511627776) (v : Int) : ∀ (N : Nat) (m : Nat) (s : State) (out : List Event), s.Prev = v → N < m → 0 ≤ s.From → s.From ≤ 1099511627776 → 0 ≤ s.Count → e.To - (s.From + sm c.T_Num c.T_Den s.Count) ≤ N → s.Count + N ≤ 2900000000000 → out.length + N ≤ 2000000000000 →
    ref15_Step_l11 M m c s e z out = some ({ s with Count := (emit c.T_Num c.T_Den s.From v e.To N s.Count s.Aux).2.1, Aux := (emit c.T_Num c.T_Den s.From v e.To N s.Count s.Aux).2.2 }, out ++ (emit c.T_Num c.T_Den s.From v e.To N s.Count s.Aux).1)
  | N, 0, s, out, hv, hm, _, _, _, _, _, _ => by omega
  | 0, m + 1, s, out, hv, hm, h1, h2, h3, h4, h5, h6 => by
    have hs := sm_le c.T_Num c.T_Den s.Count h h3
    simp only [ref15_Step_l11, b_ref15_Step_l11, (sample_is M c.T_Num c.T_Den s.Count h ⟨h3, by omega⟩).2, Option.bind_some]
    rw [i64_ok (n := s.From + sm c.T_Num c.T_Den s.Count) (by omega), bif_neg (by omega)]
    simp [emit]
  | N + 1, m + 1, s, out, hv, hm, h1, h2, h3, h4, h5, h6 => by
    have hs := sm_le c.T_Num c.T_Den s.Count h h3
    have hst := sm_step c.T_Num c.T_Den s.Count h h3
    have hb0 := bd_spec c.T_Num c.T_Den s.Count h h3
    have hb1 := bd_spec c.T_Num c.T_Den (s.Count + 1) h (by omega)
    have hb2 := bd_le c.T_Num c.T_Den (s.Count + 1) h (by omega)
    have hb3 := bd_le c.T_Num c.T_Den s.Count h h3
    simp only [ref15_Step_l11, b_ref15_Step_l11, (sample_is M c.T_Num c.T_Den s.Count h ⟨h3, by omega⟩).2, Option.bind_some]
    rw [i64_ok (n := s.From + sm c.T_Num c.T_Den s.Count) (by omega)]
    by_cases cc : s.From + sm c.T_Num c.T_Den s.Count < e.To
    · rw [bif_pos cc, i64_ok (n := s.Count + 1) (by omega), (boundary_is M c.T_Num c.T_Den s.Count h ⟨h3, by omega⟩).2, Option.bind_some, (boundary_is M c.T_Num c.T_Den (s.Count + 1) h ⟨by omega, by omega⟩).2, Option.bind_some]
      rw [i64_ok (n := s.From + bd c.T_Num c.T_Den s.Count) (by omega), i64_ok (n := s.From + bd c.T_Num c.T_Den (s.Count + 1)) (by omega)]
      simp only [bif_pos (show (out.length + 1) * 64 ≤ 140737488355328 by omega)]
      have ih := fun out' ho => l11_is M c h e z hT v N m { s with Count := s.Count + 1, Aux := 0 } out' hv (by omega) h1 h2 (by dsimp only; omega) (by dsimp only; omega) (by dsimp only; omega) ho
      have hem : emit c.T_Num c.T_Den s.From v e.To (N + 1) s.Count s.Aux = (evB c.T_Num c.T_Den s.From v s.Count s.Aux :: (emit c.T_Num c.T_Den s.From v e.To N (s.Count + 1) 0).1, (emit c.T_Num c.T_Den s.From v e.To N (s.Count + 1) 0).2) := by
        show (if _ then _ else _) = _
        rw [if_pos cc]
      rw [hem]
      by_cases ha : s.Aux = 1
      · have hq : (s.Aux == 1) = true := by simp [ha]
        by_cases hb : s.From + bd c.T_Num c.T_Den (s.Count + 1) > 1099511627776
        · rw [bif_pos hb, hq, Bool.cond_true, ih _ (by simp; omega)]
          simp [evB, ha, hv, if_pos (show 1099511627776 < s.From + bd c.T_Num c.T_Den (s.Count + 1) from hb)]
        · rw [bif_neg hb, hq, Bool.cond_true, ih _ (by simp; omega)]
          simp [evB, ha, hv, if_neg (show ¬ 1099511627776 < s.From + bd c.T_Num c.T_Den (s.Count + 1) from hb)]
      · have hq : (s.Aux == 1) = false := by simp [ha]
        by_cases hb : s.From + bd c.T_Num c.T_Den (s.Count + 1) > 1099511627776
        · rw [bif_pos hb, hq, Bool.cond_false, ih _ (by simp; omega)]
          simp [evB, ha, hv, if_pos (show 1099511627776 < s.From + bd c.T_Num c.T_Den (s.Count + 1) from hb)]
        · rw [bif_neg hb, hq, Bool.cond_false, ih _ (by simp; omega)]
          simp [evB, ha, hv, if_neg (show ¬ 1099511627776 < s.From + bd c.T_Num c.T_Den (s.Count + 1) from hb)]
    · rw [bif_neg cc]
      have hem : emit c.T_Num c.T_Den s.From v e.To (N + 1) s.Count s.Aux = ([], s.Count, s.Aux) := by
        show (if _ then _ else _) = _
        rw [if_neg cc]
      rw [hem]
      simp

/-! ### A step -/
theorem accepts_is (M : Nat) (s : State) (e : Event) : sampler_accepts M s e = some (decide (In s e)) := by
  simp only [sampler_accepts, b_sampler_accepts, event_valid, Option.bind_some, bif_if, beq_if, bne_if]
  by_cases hv : Vld e
  · have hr : -9007199254740992 ≤ e.Value ∧ e.Value ≤ 9007199254740992 := by unfold Vld at hv; omega
    have hft : e.From ≤ e.To := by unfold Vld at hv; omega
    have ha := andnot1 e.Value hr
    by_cases h : In s e
    · rw [decide_eq_true h]; unfold In at h; grind
    · rw [decide_eq_false h]; unfold In at h; grind
  · have h : ¬ In s e := fun h => hv h.1
    rw [decide_eq_false h, decide_eq_false hv]; rfl
theorem ref_accepts_is (M : Nat) (s : State) (e : Event) : ref15_accepted M s e = some (decide (In s e)) := by
  simp only [ref15_accepted, b_ref15_accepted, ref_valid, Option.bind_some, bif_if, beq_if, bne_if]
  by_cases h : In s e
  · rw [decide_eq_true h]; unfold In at h; grind
  · rw [decide_eq_false h]; unfold In at h; grind
/-- The state in which bits are given out. -/
def pre (n d : Int) (s : State) (e : Event) : State :=
  if s.Phase = 0 then State.mk 1 e.To e.From 0 0 0 e.Value (bs [])
  else if e.Value = s.Prev then { s with At := e.To }
  else { s with At := e.To, From := e.From, Count := 0, Aux := if irr n d (e.From - s.From) then 1 else s.Aux, Prev := e.Value }
def fin (s : State) (r : List Event × Int × Int) : State × List Event := ({ s with Count := r.2.1, Aux := r.2.2 }, r.1)
def stepA (n d : Int) (s : State) (e : Event) : State × List Event :=
  if In s e then fin (pre n d s e) (emitT n d (pre n d s e).From e.Value e.To (pre n d s e).Count (pre n d s e).Aux) else (s, [])
abbrev st0 : State := State.mk 0 0 0 0 0 0 0 (bs [])
/-- What is known of a state. -/
def Wf (n d : Int) (s : State) : Prop := s = st0 ∨ (s.Phase = 1 ∧ 0 ≤ s.From ∧ s.From ≤ s.At ∧ s.At ≤ 1099511627776 ∧ 0 ≤ s.Count ∧ s.Count ≤ s.At ∧ s.At ≤ s.From + sm n d s.Count ∧ (s.Aux = 0 ∨ s.Aux = 1))
theorem vld_of (s : State) (e : Event) (h : In s e) : 0 ≤ e.From ∧ e.From < e.To ∧ e.To ≤ 1099511627776 := by
  have h1 := h.1
  have h2 := h.2.2.2.1
  unfold Vld at h1
  omega
/-- The state in which bits are given out: what is known of it. -/
theorem pre_wf (n d : Int) (h : OkR n d) (s : State) (e : Event) (hw : Wf n d s) (hi : In s e) : (pre n d s e).Phase = 1 ∧ (pre n d s e).At = e.To ∧ (pre n d s e).Prev = e.Value ∧ 0 ≤ (pre n d s e).From ∧ (pre n d s e).From ≤ e.From ∧ 0 ≤ (pre n d s e).Count ∧ (pre n d s e).Count ≤ e.From ∧ e.From ≤ (pre n d s e).From + sm n d (pre n d s e).Count ∧ ((pre n d s e).Aux = 0 ∨ (pre n d s e).Aux = 1) := by
  have hv := vld_of s e hi
  have h0 := sm_le n d 0 h (by omega)
  unfold pre
  rcases hw with rfl | ⟨w1, w2, w3, w4, w5, w6, w7, w8⟩
  · rw [if_pos rfl]; dsimp only; omega
  · have hat : e.From = s.At := by
      have := hi.2.2.2.2.2.2; omega
    rw [if_neg (by omega)]
    split
    · rename_i hp; dsimp only; omega
    · dsimp only
      split <;> omega
theorem step_wf (n d : Int) (h : OkR n d) (s : State) (e : Event) (hw : Wf n d s) : Wf n d (stepA n d s e).1 ∧ ((stepA n d s e).2.length : Int) ≤ (stepA n d s e).1.At - s.At ∧ (In s e → (stepA n d s e).1.At = e.To) ∧ s.At ≤ (stepA n d s e).1.At := by
  unfold stepA
  by_cases hi : In s e
  · have hv := vld_of s e hi
    obtain ⟨p1, p2, p3, p4, p5, p6, p7, p8, p9⟩ := pre_wf n d h s e hw hi
    rw [if_pos hi]
    have hs := emit_spec n d (pre n d s e).From e.Value e.To h (e.To - ((pre n d s e).From + sm n d (pre n d s e).Count)).toNat (pre n d s e).Count (pre n d s e).Aux p6 (by omega)
    have he : emit n d (pre n d s e).From e.Value e.To (e.To - ((pre n d s e).From + sm n d (pre n d s e).Count)).toNat (pre n d s e).Count (pre n d s e).Aux = emitT n d (pre n d s e).From e.Value e.To (pre n d s e).Count (pre n d s e).Aux := rfl
    rw [he] at hs
    obtain ⟨s1, s2, s3, s4⟩ := hs
    generalize emitT n d (pre n d s e).From e.Value e.To (pre n d s e).Count (pre n d s e).Aux = r at *
    have hlen : (r.1.length : Int) ≤ e.To - e.From := by
      rcases s3 with s3 | s3
      · rw [s3]; simp; omega
      · omega
    have hat : s.At ≤ e.From := by
      rcases hw with rfl | hw
      · exact hv.1
      · have := hi.2.2.2.2.2.2; omega
    unfold fin
    refine ⟨.inr ⟨p1, p4, ?_, ?_, ?_, ?_, ?_, s4 p9⟩, ?_, fun _ => p2, ?_⟩ <;> dsimp only <;> omega
  · rw [if_neg hi]
    exact ⟨hw, by simp, fun h => absurd h hi, Int.le_refl _⟩
theorem emitT_M (n d F v T k a : Int) (h : OkR n d) (hk : 0 ≤ k) (N : Nat) (hN : T - (F + sm n d k) ≤ N) : emit n d F v T N k a = emitT n d F v T k a := emitT_eq n d F v T h N k a hk hN
theorem mstep_is (M : Nat) (hM : 1200000000000 < M) (n d : Int) (h : OkR n d) (s : State) (e : Event) (hw : Wf n d s) (hi : In s e) : sampler_machine_step M ⟨n, d⟩ s e = some (stepA n d s e) := by
  have hv := vld_of s e hi
  obtain ⟨p1, p2, p3, p4, p5, p6, p7, p8, p9⟩ := pre_wf n d h s e hw hi
  have main : ∀ s1 : State, s1.From = (pre n d s e).From → s1.Count = (pre n d s e).Count → s1.Aux = (pre n d s e).Aux → ({ s1 with At := e.To } : State) = pre n d s e → sampler_machine_step_l8 M M ⟨n, d⟩ s1 e (State.mk 0 0 0 0 0 0 0 (bs [])) [] = some (stepA n d s e) := fun s1 e1 e2 e3 e4 => by
    rw [l8_is M n d h e _ ⟨by omega, hv.2.2⟩ 1100000000000 M s1 [] (by omega) (by rw [e1]; omega) (by rw [e1]; omega) (by rw [e2]; omega) (by rw [e1, e2]; omega) (by rw [e2]; omega) (by simp)]
    rw [emitT_M n d _ _ _ _ _ h (by rw [e2]; omega) _ (by rw [e1, e2]; omega)]
    unfold stepA fin
    rw [if_pos hi, e1, e2, e3, ← e4]
    rfl
  simp only [sampler_machine_step, b_sampler_machine_step, beq_if, bne_if]
  by_cases c1 : s.Phase = 0
  · rw [if_pos c1]
    have hp : pre n d s e = State.mk 1 e.To e.From 0 0 0 e.Value (bs []) := by unfold pre; rw [if_pos c1]
    exact main _ (by rw [hp]) (by rw [hp]) (by rw [hp]) (by rw [hp])
  · rw [if_neg c1]
    by_cases c2 : e.Value = s.Prev
    · have hp : pre n d s e = { s with At := e.To } := by unfold pre; rw [if_neg c1, if_pos c2]
      rw [if_pos c2]
      exact main s (by rw [hp]) (by rw [hp]) (by rw [hp]) hp.symm
    · have hp : pre n d s e = { s with At := e.To, From := e.From, Count := 0, Aux := if irr n d (e.From - s.From) then 1 else s.Aux, Prev := e.Value } := by unfold pre; rw [if_neg c1, if_neg c2]
      have hfr : 0 ≤ e.From - s.From ∧ e.From - s.From ≤ 1099511627776 := by
        rcases hw with rfl | ⟨w1, w2, w3, w4, w5, w6, w7, w8⟩
        · exact absurd rfl c1
        · have := hi.2.2.2.2.2.2; omega
      rw [if_neg c2, i64_ok (by omega), (irregular_is M n d _ h hfr).1, Option.bind_some]
      by_cases c3 : irr n d (e.From - s.From)
      · rw [if_pos c3] at hp
        rw [decide_eq_true c3, Bool.cond_true]
        exact main _ (by rw [hp]) (by rw [hp]) (by rw [hp]) (by rw [hp])
      · rw [if_neg c3] at hp
        rw [decide_eq_false c3, Bool.cond_false]
        exact main _ (by rw [hp]) (by rw [hp]) (by rw [hp]) (by rw [hp])
def stepV (v : Int) (c : Clock) (s : State) (e : Event) : State × List Event := if v = 0 then stepA c.T_Num c.T_Den s e else (s, [])
theorem step_is {M : Nat} (hM : 1200000000000 < M) {c : Clock} {v : Int} (H : Cf M c v) (s : State) (e : Event) (hw : v = 0 → Wf c.T_Num c.T_Den s) : sampler_Step M c s e = some (stepV v c s e) ∧ ref15_Step M c s e = some (stepV v c s e) := by
  simp only [sampler_Step, b_sampler_Step, ref15_Step, b_ref15_Step, H.p, H.r, Option.bind_some, bne_if, beq_if, stepV]
  by_cases hv : v = 0
  · have h := H.ok hv
    have hw := hw hv
    rw [if_pos hv, if_pos hv, if_pos hv, accepts_is, ref_accepts_is]
    simp only [Option.bind_some]
    by_cases hi : In s e
    · rw [decide_eq_true hi]
      simp only [Bool.not_true, Bool.cond_false]
      have hvl := vld_of s e hi
      obtain ⟨p1, p2, p3, p4, p5, p6, p7, p8, p9⟩ := pre_wf _ _ h s e hw hi
      refine ⟨by rw [mstep_is M hM _ _ h s e hw hi]; rfl, ?_⟩
      have main : ref15_Step_l11 M M c (pre c.T_Num c.T_Den s e) e (State.mk 0 0 0 0 0 0 0 (bs [])) [] = some (stepA c.T_Num c.T_Den s e) := by
        rw [l11_is M c h e _ ⟨by omega, hvl.2.2⟩ e.Value 1100000000000 M _ [] p3 (by omega) (by omega) (by omega) (by omega) (by omega) (by omega) (by simp)]
        rw [emitT_M _ _ _ _ _ _ _ h (by omega) _ (by omega)]
        unfold stepA fin
        rw [if_pos hi]
        rfl
      by_cases c1 : s.Phase = 0
      · have hp : pre c.T_Num c.T_Den s e = State.mk 1 e.To e.From 0 0 0 e.Value (bs []) := by unfold pre; rw [if_pos c1]
        rw [if_pos c1, ← hp]; exact main
      · rw [if_neg c1]
        by_cases c2 : e.Value = s.Prev
        · have hp : pre c.T_Num c.T_Den s e = { s with At := e.To } := by unfold pre; rw [if_neg c1, if_pos c2]
          rw [if_pos c2, ← hp]; exact main
        · have hp : pre c.T_Num c.T_Den s e = { s with At := e.To, From := e.From, Count := 0, Aux := if irr c.T_Num c.T_Den (e.From - s.From) then 1 else s.Aux, Prev := e.Value } := by unfold pre; rw [if_neg c1, if_neg c2]
          have hfr : 0 ≤ e.From - s.From ∧ e.From - s.From ≤ 1099511627776 := by
            rcases hw with rfl | ⟨w1, w2, w3, w4, w5, w6, w7, w8⟩
            · exact absurd rfl c1
            · have := hi.2.2.2.2.2.2; omega
          rw [if_neg c2, i64_ok (by omega), (irregular_is M _ _ _ h hfr).2, Option.bind_some]
          by_cases c3 : irr c.T_Num c.T_Den (e.From - s.From)
          · rw [if_pos c3] at hp
            rw [decide_eq_true c3, Bool.cond_true]
            rw [hp] at main; exact main
          · rw [if_neg c3] at hp
            rw [decide_eq_false c3, Bool.cond_false]
            rw [hp] at main; exact main
    · have hst : stepA c.T_Num c.T_Den s e = (s, []) := by unfold stepA; rw [if_neg hi]
      rw [decide_eq_false hi, hst]; exact ⟨rfl, rfl⟩
  · rw [if_neg hv, if_neg hv, if_neg hv]; exact ⟨rfl, rfl⟩
def runA (v : Int) (c : Clock) : State → List Event → State × List Event
  | s, [] => (s, [])
  | s, e :: l => ((runA v c (stepV v c s e).1 l).1, (stepV v c s e).2 ++ (runA v c (stepV v c s e).1 l).2)
def decA (v : Int) (c : Clock) (l : List Event) : List Event := (runA v c st0 l).2
theorem stepV_wf {v : Int} {c : Clock} (h : v = 0 → OkR c.T_Num c.T_Den) (s : State) (e : Event) (hw : Wf c.T_Num c.T_Den s) : Wf c.T_Num c.T_Den (stepV v c s e).1 ∧ ((stepV v c s e).2.length : Int) ≤ (stepV v c s e).1.At - s.At ∧ s.At ≤ (stepV v c s e).1.At := by
  unfold stepV
  by_cases hv : v = 0
  · rw [if_pos hv]
    have := step_wf _ _ (h hv) s e hw
    exact ⟨this.1, this.2.1, this.2.2.2⟩
  · rw [if_neg hv]; exact ⟨hw, by simp, Int.le_refl _⟩
theorem wf_at {n d : Int} {s : State} (h : Wf n d s) : 0 ≤ s.At ∧ s.At ≤ 1099511627776 := by
  rcases h with rfl | h
  · decide
  · omega
theorem run_len {v : Int} {c : Clock} (h : v = 0 → OkR c.T_Num c.T_Den) : ∀ (l : List Event) (s : State), Wf c.T_Num c.T_Den s → ((runA v c s l).2.length : Int) ≤ (runA v c s l).1.At - s.At ∧ Wf c.T_Num c.T_Den (runA v c s l).1 ∧ s.At ≤ (runA v c s l).1.At
  | [], s, hw => ⟨by simp [runA], hw, Int.le_refl _⟩
  | e :: l, s, hw => by
    obtain ⟨w1, w2, w3⟩ := stepV_wf h s e hw
    obtain ⟨r1, r2, r3⟩ := run_len h l (stepV v c s e).1 w1
    simp only [runA, List.length_append]
    exact ⟨by omega, r2, by omega⟩
theorem run_append (v : Int) (c : Clock) : ∀ (l k : List Event) (s : State), runA v c s (l ++ k) = ((runA v c (runA v c s l).1 k).1, (runA v c s l).2 ++ (runA v c (runA v c s l).1 k).2)
  | [], k, s => by simp [runA]
  | e :: l, k, s => by simp [runA, run_append v c l k]
theorem run_bad (v : Int) (c : Clock) (hv : v ≠ 0) : ∀ (l : List Event) (s : State), runA v c s l = (s, [])
  | [], s => rfl
  | e :: l, s => by
    have : stepV v c s e = (s, []) := by unfold stepV; rw [if_neg hv]
    simp only [runA, this, run_bad v c hv l s, List.nil_append]
theorem dec_l28 {M : Nat} (hM : 1200000000000 < M) {c : Clock} (H : Cf M c 0) (l : List Event) (hl : l.length ≤ 1000000000000) : ∀ (r : List Event) (i m : Nat) (s : State) (out : List Event), l.drop i = r → r.length < m → (out.length : Int) ≤ s.At → Wf c.T_Num c.T_Den s →
    sampler_Decode_l28x3 M m c.T_Num c.T_Den (l.length : Int) (i : Int) s out l = some (out ++ (runA 0 c s r).2)
  | r, i, 0, s, out, _, hm, _, _ => by omega
  | [], i, m + 1, s, out, hr, hm, ho, hw => by
    have := drop_nil hr
    simp only [sampler_Decode_l28x3, b_sampler_Decode_l28x3]
    rw [bif_neg (by omega)]; simp [runA]
  | e :: r, i, m + 1, s, out, hr, hm, ho, hw => by
    obtain ⟨h1, h2, h3, h4, h5⟩ := drop_cons hr dflt_Event
    simp only [List.length_cons] at hm
    have h := H.ok rfl
    obtain ⟨w1, w2, w3, w4⟩ := step_wf _ _ h s e hw
    have hat := wf_at w1
    have hst : stepV 0 c s e = stepA c.T_Num c.T_Den s e := by unfold stepV; rw [if_pos rfl]
    simp only [sampler_Decode_l28x3, b_sampler_Decode_l28x3, h1, accepts_is, Option.bind_some, runA, hst]
    rw [bif_pos (by omega), bif_pos (by omega), bif_pos (by omega), next_i i (by omega)]
    by_cases hi : In s e
    · rw [decide_eq_true hi, Bool.cond_true, mstep_is M hM _ _ h s e hw hi, Option.bind_some, bif_pos (by omega), dec_l28 hM H l hl r (i + 1) m _ _ h3 (by omega) (by rw [List.length_append]; omega) w1]
      simp
    · have he : stepA c.T_Num c.T_Den s e = (s, []) := by unfold stepA; rw [if_neg hi]
      rw [decide_eq_false hi, Bool.cond_false, he, dec_l28 hM H l hl r (i + 1) m s out h3 (by omega) ho hw]
      simp
theorem decode_is {M : Nat} (hM : 1200000000000 < M) {c : Clock} {v : Int} (H : Cf M c v) (l : List Event) (hl : l.length ≤ 1000000000000) : sampler_Decode M c l = some (decA v c l) := by
  simp only [sampler_Decode, b_sampler_Decode, H.p, Option.bind_some, bne_if, decA]
  by_cases hv : v = 0
  · subst hv
    rw [if_pos rfl]
    exact dec_l28 hM H l hl l 0 M st0 [] rfl (by omega) (by decide) (.inl rfl)
  · rw [if_neg hv, run_bad v c hv]
theorem ref_dec_l6 {M : Nat} (hM : 1200000000000 < M) {c : Clock} (H : Cf M c 0) (l : List Event) (hl : l.length ≤ 1000000000000) : ∀ (r : List Event) (i m : Nat) (s : State) (out : List Event), l.drop i = r → r.length < m → (out.length : Int) ≤ s.At → Wf c.T_Num c.T_Den s →
    ref15_Decode_l6 M m (i : Int) l c out s = some (out ++ (runA 0 c s r).2)
  | r, i, 0, s, out, _, hm, _, _ => by omega
  | [], i, m + 1, s, out, hr, hm, ho, hw => by
    have := drop_nil hr
    have hat := wf_at hw
    simp only [ref15_Decode_l6, b_ref15_Decode_l6]
    rw [bif_neg (by omega), bif_pos (by omega)]; simp [runA]
  | e :: r, i, m + 1, s, out, hr, hm, ho, hw => by
    obtain ⟨h1, h2, h3, h4, h5⟩ := drop_cons hr dflt_Event
    simp only [List.length_cons] at hm
    obtain ⟨w1, w2, w3⟩ := stepV_wf (v := 0) (fun _ => H.ok rfl) s e hw
    have hat := wf_at w1
    simp only [ref15_Decode_l6, b_ref15_Decode_l6, h1, (step_is hM H s e (fun _ => hw)).2, Option.bind_some, runA]
    rw [bif_pos (by omega), bif_pos (by omega), bif_pos (by omega), bif_pos (by omega), next_i i (by omega), ref_dec_l6 hM H l hl r (i + 1) m _ _ h3 (by omega) (by rw [List.length_append]; omega) w1]
    simp
theorem ref_decode_is {M : Nat} (hM : 1200000000000 < M) {c : Clock} {v : Int} (H : Cf M c v) (l : List Event) (hl : l.length ≤ 1000000000000) : ref15_Decode M c l = some (decA v c l) := by
  simp only [ref15_Decode, b_ref15_Decode, H.r, Option.bind_some, bne_if, decA]
  by_cases hv : v = 0
  · subst hv
    rw [if_pos rfl]
    exact ref_dec_l6 hM H l hl l 0 M st0 [] rfl (by omega) (by decide) (.inl rfl)
  · rw [if_neg hv, run_bad v c hv]
theorem decA_len {M : Nat} {c : Clock} {v : Int} (H : Cf M c v) (l : List Event) : (decA v c l).length ≤ 1099511627776 := by
  obtain ⟨r1, r2, r3⟩ := run_len (v := v) (c := c) H.ok l st0 (.inl rfl)
  have := wf_at r2
  unfold decA
  have e : st0.At = 0 := rfl
  rw [e] at r1
  omega
theorem big : ∃ M : Nat, 10000000000000 < M := ⟨10000000000001, by decide⟩

/-! ### Few events -/
theorem short_l7 (M : Nat) (c : Clock) (h : OkR c.T_Num c.T_Den) (l : List Event) (hl : l.length ≤ 400) : ∀ (r : List Event) (i m : Nat) (k : Int), l.drop i = r → r.length < m → 0 ≤ k → k ≤ 20000 → ∃ b, law15_short_l7 M m k (i : Int) l c = some b
  | r, i, 0, k, _, hm, _, _ => by omega
  | [], i, m + 1, k, hr, hm, hk, hk2 => by
    have := drop_nil hr
    simp only [law15_short_l7, b_law15_short_l7]
    rw [bif_neg (by omega)]; exact ⟨true, rfl⟩
  | e :: r, i, m + 1, k, hr, hm, hk, hk2 => by
    obtain ⟨h1, h2, h3, h4, h5⟩ := drop_cons hr dflt_Event
    simp only [List.length_cons] at hm
    obtain ⟨b, hb⟩ := short_l7 M c h l hl r (i + 1) m k h3 (by omega) hk hk2
    have hq : 4 ≤ c.T_Num / c.T_Den ∧ c.T_Num / c.T_Den ≤ c.T_Num := by
      unfold OkR at h
      exact ⟨Int.le_ediv_of_mul_le (by omega) (by omega), Int.ediv_le_self _ (by omega)⟩
    have hn : c.T_Num ≤ 1073741824 := h.2.2.2.2
    have hd0 : ¬ c.T_Den = 0 := by unfold OkR at h; omega
    simp only [law15_short_l7, b_law15_short_l7, h1, Int.tdiv_eq_ediv_of_nonneg (show 0 ≤ c.T_Num by unfold OkR at h; omega)]
    simp only [bif_pos (show (i : Int) < (l.length : Int) by omega), bif_pos (show (0 : Int) ≤ (i : Int) by omega), bif_neg hd0, i64_ok (n := c.T_Num / c.T_Den) (by omega), bif_neg (show ¬ c.T_Num / c.T_Den = 0 by omega), next_i i (by omega), bif_neg (show ¬ k > 20000 by omega), hb]
    rw [bif_if]
    by_cases c1 : e.From ≥ 0
    · rw [if_pos c1, bif_if]
      by_cases c2 : e.To > e.From
      · rw [if_pos c2, bif_if]
        by_cases c3 : e.To ≤ 1099511627776
        · have hx : 0 ≤ (e.To - e.From) / (c.T_Num / c.T_Den) ∧ (e.To - e.From) / (c.T_Num / c.T_Den) ≤ e.To - e.From := ⟨Int.ediv_nonneg (by omega) (by omega), Int.ediv_le_self _ (by omega)⟩
          rw [if_pos c3, i64_ok (n := e.To - e.From) (by omega), Int.tdiv_eq_ediv_of_nonneg (by omega), i64_ok (n := (e.To - e.From) / (c.T_Num / c.T_Den)) (by omega), i64_ok (n := k + (e.To - e.From) / (c.T_Num / c.T_Den)) (by omega), i64_ok (n := k + (e.To - e.From) / (c.T_Num / c.T_Den) + 1) (by omega), bif_if]
          split
          · exact ⟨false, rfl⟩
          · exact short_l7 M c h l hl r (i + 1) m _ h3 (by omega) (by omega) (by omega)
        · rw [if_neg c3]; exact ⟨b, rfl⟩
      · rw [if_neg c2]; exact ⟨b, rfl⟩
    · rw [if_neg c1]; exact ⟨b, rfl⟩
theorem short_is {M : Nat} (hM : 10000 < M) {c : Clock} {v : Int} (H : Cf M c v) (l : List Event) : ∃ b, law15_short M c l = some b ∧ (b = true → l.length ≤ 400) := by
  simp only [law15_short, b_law15_short, bif_if, H.r, Option.bind_some, bne_if]
  by_cases c1 : (l.length : Int) > 400
  · rw [if_pos c1]; exact ⟨false, rfl, by simp⟩
  · rw [if_neg c1]
    by_cases hv : v = 0
    · rw [if_pos hv]
      obtain ⟨b, hb⟩ := short_l7 M c (H.ok hv) l (by omega) l 0 M 0 rfl (by omega) (by omega) (by omega)
      exact ⟨b, hb, fun _ => by omega⟩
    · rw [if_neg hv]; exact ⟨true, rfl, fun _ => by omega⟩

/-! ### Decodes -/
theorem decodes_l7 {M : Nat} (hM : 10000000000000 < M) {c : Clock} {v : Int} (H : Cf M c v) (l : List Event) (hl : l.length ≤ 400) : ∀ (r : List Event) (i m : Nat) (s : State), l.drop i = r → r.length < m → Wf c.T_Num c.T_Den s →
    law15_SamplerDecodes_l7 M m (i : Int) l c s s = some true
  | r, i, 0, s, _, hm, _ => by omega
  | [], i, m + 1, s, hr, hm, hw => by
    have := drop_nil hr
    have hd := decA_len H l
    simp only [law15_SamplerDecodes_l7, b_law15_SamplerDecodes_l7]
    rw [bif_neg (by omega), decode_is (by omega) H l (by omega), ref_decode_is (by omega) H l (by omega)]
    simp only [Option.bind_some, same_self M (decA v c l) (by omega) (by omega)]
  | e :: r, i, m + 1, s, hr, hm, hw => by
    obtain ⟨h1, h2, h3, h4, h5⟩ := drop_cons hr dflt_Event
    simp only [List.length_cons] at hm
    obtain ⟨w1, w2, w3⟩ := stepV_wf (v := v) H.ok s e hw
    have hat := wf_at w1
    have hat0 := wf_at hw
    obtain ⟨q1, q2⟩ := step_is (show 1200000000000 < M by omega) H s e (fun _ => hw)
    simp only [law15_SamplerDecodes_l7, b_law15_SamplerDecodes_l7, h1, q1, q2, Option.bind_some]
    rw [bif_pos (by omega), bif_pos (by omega), bif_pos (by omega), bif_pos (by omega), bif_pos (by omega), same_self M (stepV v c s e).2 (by omega) (by omega), next_i i (by omega)]
    simp only [Option.bind_some, Bool.not_true, Bool.cond_false]
    exact decodes_l7 hM H l hl r (i + 1) m _ h3 (by omega) w1
theorem SamplerDecodes_true (c : Clock) (l : List Event) (hc : wf_Clock c) (hl : (∀ x, x ∈ l → wf_Event x) ∧ l.length * Try.prog.bytesOf 32 ≤ 140737488351232) : ∃ M, law15_SamplerDecodes M c l = some true := by
  obtain ⟨M, hM⟩ := big
  obtain ⟨v, H⟩ := cf_some M (by omega) c
  refine ⟨M, ?_⟩
  obtain ⟨b, hb, hb2⟩ := short_is (show 10000 < M by omega) H l
  simp only [law15_SamplerDecodes, b_law15_SamplerDecodes, lives_true M (by omega), hb, Option.bind_some, Bool.not_true, Bool.cond_false]
  cases b with
  | false => rfl
  | true => exact decodes_l7 hM H l (hb2 rfl) l 0 M st0 rfl (by have := hb2 rfl; omega) (.inl rfl)
end Go.Abs.K
