/- LIN: what is decoded. -/
import Derived.Test.YtohpkolbocmbbaaP2
set_option linter.unusedVariables false
set_option linter.unusedSimpArgs false
namespace Go.Abs.K
open Go Go.Abs Go.Proofs

noncomputable def runA (c : Lin) : State → List Event → State × List Event
  | s, [] => (s, [])
  | s, e :: l => ((runA c (stepA c s e).1 l).1, (stepA c s e).2 ++ (runA c (stepA c s e).1 l).2)
def s0 : State := State.mk 0 0 0 0 0 0 0 (bs [])
theorem s0_wf : WfN 0 s0 := ⟨⟨.inl rfl, by decide, by decide, fun h => by cases h⟩, fun h => by cases h⟩
noncomputable def decA (c : Lin) (l : List Event) : List Event := (runA c s0 l).2 ++ compA c (runA c s0 l).1
theorem comp_len (c : Lin) (s : State) : (compA c s).length ≤ 1 := by unfold compA; split <;> simp
theorem step_len (c : Lin) (s : State) (e : Event) : (stepA c s e).2.length ≤ 1 := by
  have := comp_len c s
  unfold stepA
  repeat' split
  all_goals first | exact this | simp
theorem run_len (c : Lin) : ∀ (l : List Event) (s : State), (runA c s l).2.length ≤ l.length
  | [], s => by simp [runA]
  | e :: l, s => by
    have := run_len c l (stepA c s e).1
    have := step_len c s e
    simp only [runA, List.length_append, List.length_cons]
    omega
theorem dec_len (c : Lin) (l : List Event) : (decA c l).length ≤ l.length + 1 := by
  have := run_len c l s0
  have := comp_len c (runA c s0 l).1
  unfold decA; rw [List.length_append]; omega
theorem end_is (M : Nat) (hM : 100 < M) (c : Lin) (s : State) (h : WfS s) : lin_End M c s = some (compA c s) := by
  simp only [lin_End, b_lin_End, complete_is M hM c s h, Option.bind_some]; rfl
theorem ref_end_is (M : Nat) (hM : 100 < M) (c : Lin) (s r : State) (h : WfS s) (hr : RR s r) : ref27_End M c r = some (compA c s) := by
  obtain ⟨r1, r2, r3⟩ := hr
  have h1 := h.1
  simp only [ref27_End, b_ref27_End, bif_if, beq_if, r2]
  unfold compA
  by_cases hp : s.Phase = 1
  · obtain ⟨k1, k2, k3⟩ := r3 hp
    have hs := wf_size s h hp
    rw [if_neg (show ¬ s.Phase = 0 by omega), if_pos hp, ref_frame_is M hM c r (by rw [k3]; exact hs), Option.bind_some, k1, k2, k3]
  · rw [if_pos (show s.Phase = 0 by omega), if_neg hp]
theorem dec_l4 (M : Nat) (hM : 100 < M) (c : Lin) (l : List Event) (hl : l.length ≤ 1000000) : ∀ (r : List Event) (i m : Nat) (s : State) (out : List Event), WfN i s → l.drop i = r → r.length < m → out.length + r.length ≤ 5000000 → lin_Decode_l4 M m (l.length : Int) (i : Int) c s out l = some (out ++ (runA c s r).2 ++ compA c (runA c s r).1)
  | r, i, 0, s, out, _, _, hm, _ => by omega
  | [], i, m + 1, s, out, hw, hr, hm, ho => by
    have := drop_nil hr
    have he := comp_len c s
    simp only [lin_Decode_l4, b_lin_Decode_l4, end_is M hM c s hw.1, Option.bind_some]
    simp only [List.length_nil] at ho
    rw [bif_neg (by omega), bif_pos (by omega)]
    simp [runA]
  | e :: r, i, m + 1, s, out, hw, hr, hm, ho => by
    obtain ⟨h1, h2, h3, h4, h5⟩ := drop_cons hr dflt_Event
    have hlen := step_len c s e
    obtain ⟨e1, e2⟩ := step_is M hM c s e i (by omega) hw
    simp only [List.length_cons] at hm ho
    simp only [lin_Decode_l4, b_lin_Decode_l4, h1, e1, Option.bind_some]
    rw [bif_pos (by omega), bif_pos (by omega), bif_pos (by omega), bif_pos (by omega), next_i i (by omega)]
    rw [dec_l4 M hM c l hl r (i + 1) m _ _ e2 h3 (by omega) (by rw [List.length_append]; omega)]
    simp [runA]
theorem decode_is (M : Nat) (hM : 100 < M) (c : Lin) (l : List Event) (hl : l.length ≤ 1000000) (hm : l.length < M) : lin_Decode M c l = some (decA c l) := by
  simp only [lin_Decode, b_lin_Decode]
  have := dec_l4 M hM c l hl l 0 M s0 [] s0_wf rfl hm (by simp; omega)
  rw [List.nil_append] at this
  exact this
theorem s0_rr : RR s0 s0 := ⟨rfl, rfl, fun h => by cases h⟩
theorem rdec_l4 (M : Nat) (hM : 100 < M) (c : Lin) (l : List Event) (hl : l.length ≤ 1000000) : ∀ (r : List Event) (i m : Nat) (s t : State) (out : List Event), WfN i s → RR s t → l.drop i = r → r.length < m → out.length + r.length ≤ 5000000 → ref27_Decode_l4 M m (i : Int) l c out t = some (out ++ (runA c s r).2 ++ compA c (runA c s r).1)
  | r, i, 0, s, t, out, _, _, _, hm, _ => by omega
  | [], i, m + 1, s, t, out, hw, ht, hr, hm, ho => by
    have := drop_nil hr
    have he := comp_len c s
    simp only [ref27_Decode_l4, b_ref27_Decode_l4, ref_end_is M hM c s t hw.1 ht, Option.bind_some]
    simp only [List.length_nil] at ho
    rw [bif_neg (by omega), bif_pos (by omega)]
    simp [runA]
  | e :: r, i, m + 1, s, t, out, hw, ht, hr, hm, ho => by
    obtain ⟨h1, h2, h3, h4, h5⟩ := drop_cons hr dflt_Event
    have hlen := step_len c s e
    obtain ⟨e1, e2⟩ := step_is M hM c s e i (by omega) hw
    obtain ⟨t', f1, f2⟩ := ref_step_is M hM c s t e hw.1 ht
    simp only [List.length_cons] at hm ho
    simp only [ref27_Decode_l4, b_ref27_Decode_l4, h1, f1, Option.bind_some]
    rw [bif_pos (by omega), bif_pos (by omega), bif_pos (by omega), bif_pos (by omega), next_i i (by omega)]
    rw [rdec_l4 M hM c l hl r (i + 1) m _ _ _ e2 f2 h3 (by omega) (by rw [List.length_append]; omega)]
    simp [runA]
theorem rdecode_is (M : Nat) (hM : 100 < M) (c : Lin) (l : List Event) (hl : l.length ≤ 1000000) (hm : l.length < M) : ref27_Decode M c l = some (decA c l) := by
  simp only [ref27_Decode, b_ref27_Decode]
  have := rdec_l4 M hM c l hl l 0 M s0 s0 [] s0_wf s0_rr rfl hm (by simp; omega)
  rw [List.nil_append] at this
  exact this
theorem lives_true (M : Nat) (hM : 200 < M) : law27_lives M = some true := by
  obtain ⟨m, rfl⟩ : ∃ m, M = m + 200 := ⟨M - 200, by omega⟩
  kernel_rfl
theorem decodes_l7 (c : Lin) (l : List Event) (hl : l.length ≤ 6000) : ∀ (r : List Event) (i m : Nat) (s t : State), WfN i s → RR s t → l.drop i = r → r.length < m → law27_LinDecodes_l7 10000 m (i : Int) l c s t = some true
  | r, i, 0, s, t, _, _, _, hm => by omega
  | [], i, m + 1, s, t, hw, ht, hr, hm => by
    have := drop_nil hr
    have he := comp_len c s
    have hd := dec_len c l
    simp only [law27_LinDecodes_l7, b_law27_LinDecodes_l7, end_is 10000 (by omega) c s hw.1, ref_end_is 10000 (by omega) c s t hw.1 ht, Option.bind_some, same_self 10000 (compA c s) (by omega) (by omega), Bool.cond_true, decode_is 10000 (by omega) c l (by omega) (by omega), rdecode_is 10000 (by omega) c l (by omega) (by omega), same_self 10000 (decA c l) (by omega) (by omega)]
    rw [bif_neg (by omega)]
  | e :: r, i, m + 1, s, t, hw, ht, hr, hm => by
    obtain ⟨h1, h2, h3, h4, h5⟩ := drop_cons hr dflt_Event
    obtain ⟨e1, e2⟩ := step_is 10000 (by omega) c s e i (by omega) hw
    obtain ⟨t', f1, f2⟩ := ref_step_is 10000 (by omega) c s t e hw.1 ht
    simp only [List.length_cons] at hm
    have hlen := step_len c s e
    simp only [law27_LinDecodes_l7, b_law27_LinDecodes_l7, h1, e1, f1, Option.bind_some, same_self 10000 (stepA c s e).2 (by omega) (by omega), Bool.not_true, Bool.cond_false]
    simp only [bif_pos (show (i : Int) < (l.length : Int) by omega), bif_pos (show (0 : Int) ≤ (i : Int) by omega), next_i i (by omega)]
    exact decodes_l7 c l hl r (i + 1) m _ _ e2 f2 h3 (by omega)
theorem LinDecodes_true (c : Lin) (l : List Event) (hc : wf_Lin c) (hl : (∀ x, x ∈ l → wf_Event x) ∧ l.length * Try.prog.bytesOf 32 ≤ 140737488351232) : ∃ M, law27_LinDecodes M c l = some true := by
  refine ⟨10000, ?_⟩
  simp only [law27_LinDecodes, b_law27_LinDecodes, lives_true 10000 (by omega), Option.bind_some, Bool.not_true, Bool.cond_false, bif_if]
  by_cases h : (l.length : Int) > 6000
  · rw [if_pos h]
  · rw [if_neg h]
    exact decodes_l7 c l (by omega) l 0 10000 s0 s0 s0_wf s0_rr rfl (by omega)
end Go.Abs.K
