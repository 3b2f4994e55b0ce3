/- MANCHESTER: decoding a list of events; what configurations do; divided levels. -/
import Derived.Test.YthobjcamfkplkaaP1
set_option linter.unusedVariables false
set_option linter.unusedSimpArgs false
namespace Go.Abs.K
open Go Go.Abs Go.Proofs

def stepV (v : Int) (c : Manchester) (s : State) (e : Event) : State × List Event := if v = 0 then stepA c s e else (s, [])
def runA (v : Int) (c : Manchester) : State → List Event → State × List Event
  | s, [] => (s, [])
  | s, e :: l => ((runA v c (stepV v c s e).1 l).1, (stepV v c s e).2 ++ (runA v c (stepV v c s e).1 l).2)
def decA (v : Int) (c : Manchester) (l : List Event) : List Event := (runA v c st0 l).2
theorem stepV_wf (v : Int) (c : Manchester) (s : State) (e : Event) (h : Wf s) : Wf (stepV v c s e).1 := by
  unfold stepV
  split
  · exact step_wf c s e h
  · exact h
theorem edge_len (n d : Int) (s : State) (t : Int) : (edgeA n d s t).2.length ≤ 1 := by
  unfold edgeA
  repeat' split
  all_goals simp
theorem stepV_len (v : Int) (c : Manchester) (s : State) (e : Event) : (stepV v c s e).2.length ≤ 1 := by
  unfold stepV stepA
  repeat' split
  all_goals first | simp; done | exact edge_len ..
theorem run_len (v : Int) (c : Manchester) : ∀ (l : List Event) (s : State), (runA v c s l).2.length ≤ l.length
  | [], s => by simp [runA]
  | e :: l, s => by
    have h1 := stepV_len v c s e
    have h2 := run_len v c l (stepV v c s e).1
    simp only [runA, List.length_append, List.length_cons]; omega
theorem run_append (v : Int) (c : Manchester) : ∀ (l k : List Event) (s : State), runA v c s (l ++ k) = ((runA v c (runA v c s l).1 k).1, (runA v c s l).2 ++ (runA v c (runA v c s l).1 k).2)
  | [], k, s => by simp [runA]
  | e :: l, k, s => by simp [runA, run_append v c l k]
theorem run_bad (v : Int) (c : Manchester) (hv : v ≠ 0) : ∀ (l : List Event) (s : State), runA v c s l = (s, [])
  | [], s => rfl
  | e :: l, s => by
    have : stepV v c s e = (s, []) := by unfold stepV; rw [if_neg hv]
    simp only [runA, this, run_bad v c hv l s, List.nil_append]
theorem stepV_is {M : Nat} {c : Manchester} {v : Int} (H : Cf M c v) (s : State) (e : Event) (h : Wf s) : manchester_Step M c s e = some (stepV v c s e) ∧ ref17_Step M c (toR s) e = some (toR (stepV v c s e).1, (stepV v c s e).2) := by
  unfold stepV
  by_cases hv : v = 0
  · subst hv
    rw [if_pos rfl]
    exact ⟨step_is H s e h, ref_step_is H s e h⟩
  · rw [if_neg hv]
    exact ⟨(step_bad H hv s e).1, (step_bad H hv (toR s) e).2⟩
theorem dec_l4 {M : Nat} {c : Manchester} {v : Int} (H : Cf M c v) (l : List Event) (hl : l.length ≤ 1000000000000) : ∀ (r : List Event) (i m : Nat) (s : State) (out : List Event), l.drop i = r → r.length < m → out.length + r.length ≤ 1000000000000 → Wf s →
    manchester_Decode_l4 M m (l.length : Int) (i : Int) c s out l = some (out ++ (runA v c s r).2)
  | r, i, 0, s, out, _, hm, _, _ => by omega
  | [], i, m + 1, s, out, hr, hm, ho, hs => by
    have := drop_nil hr
    simp only [manchester_Decode_l4, b_manchester_Decode_l4]
    rw [bif_neg (by omega), bif_pos (by simp at ho ⊢; omega)]; rfl
  | e :: r, i, m + 1, s, out, hr, hm, ho, hs => by
    obtain ⟨h1, h2, h3, h4, h5⟩ := drop_cons hr dflt_Event
    simp only [List.length_cons] at hm ho
    have hsl := stepV_len v c s e
    have ih := dec_l4 H l hl r (i + 1) m (stepV v c s e).1 (out ++ (stepV v c s e).2) h3 (by omega) (by rw [List.length_append]; omega) (stepV_wf v c s e hs)
    simp only [manchester_Decode_l4, b_manchester_Decode_l4, h1, (stepV_is H s e hs).1, Option.bind_some]
    rw [bif_pos (by omega), bif_pos (by omega), bif_pos (by omega), bif_pos (by omega), next_i i (by omega), ih]
    simp [runA]
theorem decode_is {M : Nat} {c : Manchester} {v : Int} (H : Cf M c v) (l : List Event) (hl : l.length ≤ 1000000000000) (hM : l.length < M) : manchester_Decode M c l = some (decA v c l) :=
  dec_l4 H l hl l 0 M st0 [] rfl hM (by simpa using hl) wf_st0
theorem ref_dec_l4 {M : Nat} {c : Manchester} {v : Int} (H : Cf M c v) (l : List Event) (hl : l.length ≤ 1000000000000) : ∀ (r : List Event) (i m : Nat) (s : State) (out : List Event), l.drop i = r → r.length < m → out.length + r.length ≤ 1000000000000 → Wf s →
    ref17_Decode_l4 M m (i : Int) l c out (toR s) = some (out ++ (runA v c s r).2)
  | r, i, 0, s, out, _, hm, _, _ => by omega
  | [], i, m + 1, s, out, hr, hm, ho, hs => by
    have := drop_nil hr
    simp only [ref17_Decode_l4, b_ref17_Decode_l4]
    rw [bif_neg (by omega)]; simp [runA]
  | e :: r, i, m + 1, s, out, hr, hm, ho, hs => by
    obtain ⟨h1, h2, h3, h4, h5⟩ := drop_cons hr dflt_Event
    simp only [List.length_cons] at hm ho
    have hsl := stepV_len v c s e
    have ih := ref_dec_l4 H l hl r (i + 1) m (stepV v c s e).1 (out ++ (stepV v c s e).2) h3 (by omega) (by rw [List.length_append]; omega) (stepV_wf v c s e hs)
    simp only [ref17_Decode_l4, b_ref17_Decode_l4, h1, (stepV_is H s e hs).2, Option.bind_some]
    rw [bif_pos (by omega), bif_pos (by omega), bif_pos (by omega), bif_pos (by omega), next_i i (by omega), ih]
    simp [runA]
theorem ref_decode_is {M : Nat} {c : Manchester} {v : Int} (H : Cf M c v) (l : List Event) (hl : l.length ≤ 1000000000000) (hM : l.length < M) : ref17_Decode M c l = some (decA v c l) :=
  ref_dec_l4 H l hl l 0 M st0 [] rfl hM (by simpa using hl) wf_st0
theorem cf_some (M : Nat) (hM : 1073741825 < M) (c : Manchester) : ∃ v, Cf M c v := by
  obtain ⟨v, h1, h2, h3⟩ := check_some M hM c
  exact ⟨v, h1, h2, h3⟩
theorem decA_len (v : Int) (c : Manchester) (l : List Event) : (decA v c l).length ≤ l.length := run_len v c l st0

/-! ### Decodes -/
theorem decodes_l6 {M : Nat} {c : Manchester} {v : Int} (hM : 5000 < M) (H : Cf M c v) (l : List Event) (hl : l.length ≤ 2000) : ∀ (r : List Event) (i m : Nat) (s : State), l.drop i = r → r.length < m → Wf s →
    law17_ManchesterDecodes_l6 M m (i : Int) l c s (toR s) = some true
  | r, i, 0, s, _, hm, _ => by omega
  | [], i, m + 1, s, hr, hm, hs => by
    have := drop_nil hr
    have hd := decA_len v c l
    simp only [law17_ManchesterDecodes_l6, b_law17_ManchesterDecodes_l6]
    rw [bif_neg (by omega), decode_is H l (by omega) (by omega), ref_decode_is H l (by omega) (by omega)]
    simp only [Option.bind_some, same_self M (decA v c l) (by omega) (by omega), Bool.cond_true, awake_true M (by omega)]
  | e :: r, i, m + 1, s, hr, hm, hs => by
    obtain ⟨h1, h2, h3, h4, h5⟩ := drop_cons hr dflt_Event
    simp only [List.length_cons] at hm
    have hsl := stepV_len v c s e
    have ih := decodes_l6 hM H l hl r (i + 1) m (stepV v c s e).1 h3 (by omega) (stepV_wf v c s e hs)
    simp only [law17_ManchesterDecodes_l6, b_law17_ManchesterDecodes_l6, h1, (stepV_is H s e hs).1, (stepV_is H s e hs).2, Option.bind_some]
    rw [bif_pos (by omega), bif_pos (by omega), bif_pos (by omega), bif_pos (by omega), bif_pos (by omega), same_self M (stepV v c s e).2 (by omega) (by omega), next_i i (by omega)]
    simp only [Option.bind_some, Bool.not_true, Bool.cond_false, ih]
theorem big : ∃ M : Nat, 1100000000 < M := ⟨1100000001, by decide⟩
theorem ManchesterDecodes_true (c : Manchester) (l : List Event) (hc : wf_Manchester c) (hl : (∀ x, x ∈ l → wf_Event x) ∧ l.length * Try.prog.bytesOf 29 ≤ 140737488351232) : ∃ M, law17_ManchesterDecodes M c l = some true := by
  obtain ⟨M, hM⟩ := big
  obtain ⟨v, H⟩ := cf_some M (by omega) c
  refine ⟨M, ?_⟩
  simp only [law17_ManchesterDecodes, b_law17_ManchesterDecodes, bif_if]
  split
  · simp only [awake_true M (by omega), Option.bind_some]
  · exact decodes_l6 (by omega) H l (by omega) l 0 M st0 rfl (by omega) wf_st0

/-! ### Checks -/
theorem ManchesterChecks_true (c : Manchester) (s : State) (x : Event) (hc : wf_Manchester c) (hs : wf_State s) (hx : wf_Event x) : ∃ M, law17_ManchesterChecks M c s x = some true := by
  obtain ⟨M, hM⟩ := big
  obtain ⟨v, H⟩ := cf_some M (by omega) c
  refine ⟨M, ?_⟩
  simp only [law17_ManchesterChecks, b_law17_ManchesterChecks, H.p, H.r, Option.bind_some, bne_self_eq_false, Bool.cond_false, beq_if, awake_true M (by omega)]
  by_cases hv : v = 0
  · rw [if_pos hv]
  · rw [if_neg hv, (step_bad H hv s x).1, decode_is H [x] (by simp) (by simp; omega)]
    have h1 : manchester_Encode M c [] = some ([], v) := by
      simp only [manchester_Encode, b_manchester_Encode, H.p, Option.bind_some, bne_if, if_neg hv]
    have h2 : manchester_Expect M c [] = some ([], v) := by
      simp only [manchester_Expect, b_manchester_Expect, h1, Option.bind_some, bne_if, if_neg hv]
    have h3 : decA v c [x] = [] := by unfold decA; rw [run_bad v c hv]
    rw [h1, h2, h3]
    simp [bytes_beq_self]

/-! ### Divided levels -/
/-- Levels, each one where the one ahead ends. -/
def Ch : Option Int → List Event → Prop
  | _, [] => True
  | o, e :: l => Vld e ∧ e.Kind = 1 ∧ e.Fault = 0 ∧ e.From < e.To ∧ 0 ≤ e.Value ∧ e.Value ≤ 1 ∧ (∀ t, o = some t → e.From = t) ∧ Ch (some e.To) l
theorem edge_at (n d : Int) (s : State) (t x : Int) : edgeA n d { s with At := x } t = ({ (edgeA n d s t).1 with At := x }, (edgeA n d s t).2) := by
  unfold edgeA
  dsimp only
  repeat' split
  all_goals rfl
theorem edge_prev (n d : Int) (s : State) (t : Int) : (edgeA n d s t).1.Prev = s.Prev ∧ (edgeA n d s t).1.Aux = s.Aux ∧ (edgeA n d s t).1.At = s.At := by
  unfold edgeA
  repeat' split
  all_goals exact ⟨rfl, rfl, rfl⟩
theorem cut_run (v : Int) (c : Manchester) (s : State) (x : Event) (t : Int) (h : In s x) (ht : x.From < t ∧ t < x.To) : runA v c s [{ x with To := t }, { x with From := t }] = runA v c s [x] := by
  by_cases hv : v = 0
  · subst hv
    obtain ⟨g1, g2, g3, g4, g5, g6, g7⟩ := h
    have hi : In s x := ⟨g1, g2, g3, g4, g5, g6, g7⟩
    have v1 : Vld { x with To := t } := by unfold Vld at g1 ⊢; dsimp only; omega
    have v2 : Vld { x with From := t } := by unfold Vld at g1 ⊢; dsimp only; omega
    have i1 : In s { x with To := t } := ⟨v1, g2, g3, ht.1, g5, g6, g7⟩
    simp only [runA, stepV, if_true, List.append_nil]
    by_cases hp : sg c x.Value = s.Prev
    · have e1 : stepA c s { x with To := t } = ({ s with Aux := 1, At := t }, []) := by unfold stepA; rw [if_pos i1, if_pos hp]
      have e2 : stepA c s x = ({ s with Aux := 1, At := x.To }, []) := by unfold stepA; rw [if_pos hi, if_pos hp]
      have i2 : In ({ s with Aux := 1, At := t } : State) { x with From := t } := ⟨v2, g2, g3, ht.2, g5, g6, .inr rfl⟩
      have e3 : stepA c { s with Aux := 1, At := t } { x with From := t } = ({ s with Aux := 1, At := x.To }, []) := by unfold stepA; rw [if_pos i2, if_pos hp]
      rw [e1, e2, e3]; rfl
    · have e1 : stepA c s { x with To := t } = edgeA c.T_Num c.T_Den { s with Aux := 1, At := t, Prev := sg c x.Value } x.From := by unfold stepA; rw [if_pos i1, if_neg hp]
      have e2 : stepA c s x = edgeA c.T_Num c.T_Den { s with Aux := 1, At := x.To, Prev := sg c x.Value } x.From := by unfold stepA; rw [if_pos hi, if_neg hp]
      obtain ⟨p1, p2, p3⟩ := edge_prev c.T_Num c.T_Den { s with Aux := 1, At := t, Prev := sg c x.Value } x.From
      have i2 : In (edgeA c.T_Num c.T_Den { s with Aux := 1, At := t, Prev := sg c x.Value } x.From).1 { x with From := t } := ⟨v2, g2, g3, ht.2, g5, g6, .inr p3.symm⟩
      have e3 : stepA c (edgeA c.T_Num c.T_Den { s with Aux := 1, At := t, Prev := sg c x.Value } x.From).1 { x with From := t } = ({ (edgeA c.T_Num c.T_Den { s with Aux := 1, At := t, Prev := sg c x.Value } x.From).1 with Aux := 1, At := x.To }, []) := by unfold stepA; rw [if_pos i2, if_pos p1.symm]
      have e4 := edge_at c.T_Num c.T_Den { s with Aux := 1, At := t, Prev := sg c x.Value } x.From x.To
      rw [e1, e3, e2]
      have e5 : ({ s with Aux := 1, At := x.To, Prev := sg c x.Value } : State) = { ({ s with Aux := 1, At := t, Prev := sg c x.Value } : State) with At := x.To } := rfl
      rw [e5, e4]
      have p2' : (edgeA c.T_Num c.T_Den { s with Aux := 1, At := t, Prev := sg c x.Value } x.From).1.Aux = 1 := p2
      rw [List.append_nil]
      congr 1
      generalize (edgeA c.T_Num c.T_Den { s with Aux := 1, At := t, Prev := sg c x.Value } x.From).1 = y at *
      cases y
      simp only at p2'
      subst p2'
      rfl
  · rw [run_bad v c hv, run_bad v c hv]
theorem step_at (c : Manchester) (s : State) (e : Event) (h : In s e) : (stepA c s e).1.At = e.To ∧ (stepA c s e).1.Aux = 1 := by
  unfold stepA
  rw [if_pos h]
  split
  · exact ⟨rfl, rfl⟩
  · obtain ⟨p1, p2, p3⟩ := edge_prev c.T_Num c.T_Den { s with Aux := 1, At := e.To, Prev := sg c e.Value } e.From
    exact ⟨p3, p2⟩
theorem cut_at (c : Manchester) (x : Event) (t : Int) (ht : x.From < t ∧ t < x.To) : ∀ (k : Nat) (l : List Event) (s : State) (o : Option Int), Ch o l → (s.Aux = 0 ∨ o = some s.At) → l[k]? = some x →
    runA 0 c s (l.take k ++ [{ x with To := t }, { x with From := t }] ++ l.drop (k + 1)) = runA 0 c s l
  | k, [], s, o, _, _, hk => by simp at hk
  | 0, y :: l, s, o, hc, hs, hk => by
    simp only [List.getElem?_cons_zero, Option.some.injEq] at hk
    subst hk
    obtain ⟨h1, h2, h3, h4, h5, h6, h7, h8⟩ := hc
    have hi : In s y := ⟨h1, h2, h3, h4, h5, h6, by
      rcases hs with hs | hs
      · exact .inl hs
      · exact .inr (h7 _ hs)⟩
    simp only [List.take_zero, List.nil_append, List.drop_succ_cons, List.drop_zero]
    rw [show y :: l = [y] ++ l from rfl, run_append, run_append, cut_run 0 c s y t hi ht]
  | k + 1, y :: l, s, o, hc, hs, hk => by
    obtain ⟨h1, h2, h3, h4, h5, h6, h7, h8⟩ := hc
    have hi : In s y := ⟨h1, h2, h3, h4, h5, h6, by
      rcases hs with hs | hs
      · exact .inl hs
      · exact .inr (h7 _ hs)⟩
    have hat := step_at c s y hi
    have ih := cut_at c x t ht k l (stepA c s y).1 (some y.To) h8 (.inr (by rw [hat.1])) (by simpa using hk)
    simp only [List.take_succ_cons, List.cons_append, List.drop_succ_cons, runA, stepV, if_true]
    rw [ih]
theorem ch_l2 (M : Nat) (l : List Event) (hl : l.length ≤ 2000) : ∀ (r : List Event) (i m : Nat), l.drop i = r → r.length < m → ∃ b, law17_chain_l2 M m (i : Int) l = some b ∧ (b = true → Ch (if i = 0 then none else some (l.getD (i - 1) dflt_Event).To) r)
  | r, i, 0, _, hm => by omega
  | [], i, m + 1, hr, hm => by
    have := drop_nil hr
    simp only [law17_chain_l2, b_law17_chain_l2]
    rw [bif_neg (by omega)]
    exact ⟨true, rfl, fun _ => trivial⟩
  | e :: r, i, m + 1, hr, hm => by
    obtain ⟨h1, h2, h3, h4, h5⟩ := drop_cons hr dflt_Event
    simp only [List.length_cons] at hm
    obtain ⟨b, hb, hb2⟩ := ch_l2 M l hl r (i + 1) m h3 (by omega)
    have hprev : l.getD i dflt_Event = e := by have := h1; rwa [Int.toNat_natCast] at this
    rw [if_neg (by omega), show i + 1 - 1 = i by omega, hprev] at hb2
    simp only [law17_chain_l2, b_law17_chain_l2, h1, ref_valid, Option.bind_some, bif_if, bne_if]
    rw [if_pos (by omega), if_pos (by omega), if_pos (by omega), next_i i (by omega), hb]
    by_cases hi : i = 0
    · rw [if_neg (show ¬ (i : Int) > 0 by omega), if_pos hi]
      simp only [Ch]
      by_cases c1 : Vld e <;> by_cases c2 : e.Kind = 1 <;> by_cases c3 : e.Fault = 0 <;> by_cases c4 : e.From ≥ e.To <;> by_cases c5 : e.Value < 0 <;> by_cases c6 : e.Value > 1 <;>
        simp only [c1, c2, c3, c4, c5, c6, decide_true, decide_false, Bool.not_true, Bool.not_false, Bool.cond_true, Bool.cond_false, if_true, if_false] <;>
        first | exact ⟨false, rfl, by simp⟩ | exact ⟨b, rfl, fun hbt => ⟨trivial, trivial, trivial, by omega, by omega, by omega, (fun t ht => by cases ht), hb2 hbt⟩⟩
    · have hw : IntKind.i64.wrap ((i : Int) - 1) = ((i - 1 : Nat) : Int) := by rw [i64_ok (by omega)]; omega
      rw [if_pos (show (i : Int) > 0 by omega), hw, if_pos (show (0 : Int) ≤ ((i - 1 : Nat) : Int) by omega), if_pos (show ((i - 1 : Nat) : Int) < (l.length : Int) by omega), Int.toNat_natCast, if_neg hi]
      simp only [Ch]
      by_cases c7 : e.From = (l.getD (i - 1) dflt_Event).To
      · rw [if_pos c7]
        by_cases c1 : Vld e <;> by_cases c2 : e.Kind = 1 <;> by_cases c3 : e.Fault = 0 <;> by_cases c4 : e.From ≥ e.To <;> by_cases c5 : e.Value < 0 <;> by_cases c6 : e.Value > 1 <;>
          simp only [c1, c2, c3, c4, c5, c6, decide_true, decide_false, Bool.not_true, Bool.not_false, Bool.cond_true, Bool.cond_false, if_true, if_false] <;>
          first | exact ⟨false, rfl, by simp⟩ | exact ⟨b, rfl, fun hbt => ⟨trivial, trivial, trivial, by omega, by omega, by omega, (fun t ht => by injection ht with ht; rw [← ht]; exact c7), hb2 hbt⟩⟩
      · rw [if_neg c7]
        by_cases c1 : Vld e <;> by_cases c2 : e.Kind = 1 <;> by_cases c3 : e.Fault = 0 <;> by_cases c4 : e.From ≥ e.To <;> by_cases c5 : e.Value < 0 <;> by_cases c6 : e.Value > 1 <;>
          simp only [c1, c2, c3, c4, c5, c6, decide_true, decide_false, Bool.not_true, Bool.not_false, Bool.cond_true, Bool.cond_false, if_true, if_false] <;>
          exact ⟨false, rfl, by simp⟩
theorem ManchesterPieces_true (c : Manchester) (l : List Event) (k t : Int) (hc : wf_Manchester c) (hl : (∀ x, x ∈ l → wf_Event x) ∧ l.length * Try.prog.bytesOf 29 ≤ 140737488351232) (hk : IntKind.i64.min ≤ k ∧ k ≤ IntKind.i64.max) (ht : IntKind.i64.min ≤ t ∧ t ≤ IntKind.i64.max) : ∃ M, law17_ManchesterPieces M c l k t = some true := by
  obtain ⟨M, hM⟩ := big
  obtain ⟨v, H⟩ := cf_some M (by omega) c
  refine ⟨M, ?_⟩
  have aw := awake_true M (by omega)
  simp only [law17_ManchesterPieces, b_law17_ManchesterPieces, aw, Option.bind_some, bif_if]
  by_cases c1 : (l.length : Int) > 2000
  · rw [if_pos c1]
  rw [if_neg c1]
  by_cases c2 : k < 0
  · rw [if_pos c2]
  rw [if_neg c2]
  by_cases c3 : k ≥ (l.length : Int)
  · rw [if_pos c3]
  rw [if_neg c3]
  obtain ⟨b, hb, hb2⟩ := ch_l2 M l (by omega) l 0 M rfl (by omega)
  have hb' : law17_chain M l = some b := hb
  rw [hb', Option.bind_some]
  cases b with
  | false => rfl
  | true =>
    have hch := hb2 rfl
    rw [if_pos rfl] at hch
    obtain ⟨j, rfl⟩ := Int.eq_ofNat_of_zero_le (show 0 ≤ k by omega)
    have hj : j < l.length := by omega
    simp only [Bool.not_true, Bool.cond_false, Int.toNat_natCast, next_i j (by omega)]
    rw [if_pos (by omega), if_pos (by omega)]
    have hx : l[j]? = some (l.getD j dflt_Event) := by rw [List.getD_eq_getElem?_getD, List.getElem?_eq_getElem hj]; rfl
    generalize hxe : l.getD j dflt_Event = x at *
    by_cases c4 : t ≤ x.From
    · rw [if_pos c4]
    rw [if_neg c4]
    by_cases c5 : t ≥ x.To
    · rw [if_pos c5]
    rw [if_neg c5]
    have hrun : decA v c (l.take j ++ [{ x with To := t }, { x with From := t }] ++ l.drop (j + 1)) = decA v c l := by
      unfold decA
      by_cases hv : v = 0
      · subst hv
        rw [cut_at c x t ⟨by omega, by omega⟩ j l st0 none hch (.inl rfl) hx]
      · rw [run_bad v c hv, run_bad v c hv]
    have htk : l.take l.length = l := List.take_length
    simp only [i64_ok (n := (l.length : Int) + 1) (by omega), List.drop_zero, List.replicate_zero, List.nil_append, Int.toNat_natCast, htk, List.length_append, List.length_cons, List.length_nil, List.length_take, List.length_drop]
    rw [if_pos (by omega), if_pos (by omega), if_pos (by omega), if_pos (by omega), if_pos (by omega), if_pos (by omega), if_pos (by omega), if_pos (by omega), if_pos (by omega), if_pos (by omega), if_pos (by omega)]
    have hd1 := decode_is H (l.take j ++ [{ x with To := t }, { x with From := t }] ++ l.drop (j + 1)) (by simp; omega) (by simp; omega)
    have hd2 := decode_is H l (by omega) (by omega)
    have hdl := decA_len v c l
    have hd1' : manchester_Decode M c (l.take j ++ [Event.mk x.Kind x.From t x.Value x.Aux x.Data x.Fault, Event.mk x.Kind t x.To x.Value x.Aux x.Data x.Fault] ++ l.drop (j + 1)) = some (decA v c l) := by rw [← hrun]; exact hd1
    rw [hd1', hd2]
    simp only [Option.bind_some, same_self M (decA v c l) (by omega) (by omega), Bool.cond_true]
end Go.Abs.K
