/- MANCHESTER: which configurations are valid; what a step gives, the program's and the document's. -/
import Derived.Test.YthobjcamfkplkaaE1
set_option linter.unusedVariables false
set_option linter.unusedSimpArgs false
namespace Go.Abs.K
open Go Go.Abs Go.Proofs

theorem gcd_l1 (M : Nat) : ∀ (m : Nat) (a b : Int), ratio_common_l1 M m a b = ref01_gcd_at M m a b
  | 0, a, b => rfl
  | m + 1, a, b => by
    simp only [ratio_common_l1, b_ratio_common_l1, ref01_gcd_at, b_ref01_gcd, gcd_l1 M m]
    by_cases h : b = 0
    · subst h; rfl
    · rw [bne_if, beq_if, if_neg h, if_neg h, bif_neg h, bif_neg h]
      cases ref01_gcd_at M m b (a.tmod b) <;> rfl
theorem gcd_some (M : Nat) : ∀ (m : Nat) (a b : Int), 0 ≤ a → 0 ≤ b → b < (m : Int) → ∃ g, ref01_gcd_at M m a b = some g
  | 0, a, b, _, h1, h2 => by omega
  | m + 1, a, b, h0, h1, h2 => by
    simp only [ref01_gcd_at, b_ref01_gcd]
    by_cases h : b = 0
    · subst h; exact ⟨a, rfl⟩
    · have hm : a.tmod b = a % b := Int.tmod_eq_emod_of_nonneg h0
      have hn := Int.emod_nonneg a h
      have hl := Int.emod_lt_of_pos a (show 0 < b by omega)
      obtain ⟨g, hg⟩ := gcd_some M m b (a % b) h1 hn (by omega)
      rw [beq_if, if_neg h, bif_neg h, hm, hg]
      exact ⟨g, rfl⟩
theorem valid_same (M : Nat) (r : Ratio) : ratio_Valid M r = ref01_Valid M r := by
  have hs : ∀ n, ratio_size M n = ref01_size M n := fun n => rfl
  simp only [ratio_Valid, b_ratio_Valid, ref01_Valid, b_ref01_Valid, ratio_common, b_ratio_common, ref01_gcd, gcd_l1, hs]
theorem valid_some (M : Nat) (hM : 1073741825 < M) (r : Ratio) : ∃ b, ref01_Valid M r = some b ∧ (b = true → 1 ≤ r.Den ∧ r.Den ≤ 1073741824 ∧ r.Num ≤ 1073741824) := by
  simp only [ref01_Valid, b_ref01_Valid]
  by_cases h1 : r.Den < 1
  · rw [bif_pos h1]; exact ⟨false, rfl, by simp⟩
  rw [bif_neg h1]
  by_cases h2 : r.Den > 1073741824
  · rw [bif_pos h2]; exact ⟨false, rfl, by simp⟩
  rw [bif_neg h2]
  by_cases h3 : r.Num < -1073741824
  · rw [bif_pos h3]; exact ⟨false, rfl, by simp⟩
  rw [bif_neg h3]
  by_cases h4 : r.Num > 1073741824
  · rw [bif_pos h4]; exact ⟨false, rfl, by simp⟩
  rw [bif_neg h4]
  have hd : ref01_size M r.Den = some r.Den := by
    simp only [ref01_size, b_ref01_size]
    rw [bif_neg (by omega), u64_ok (by omega)]
  obtain ⟨a, ha, ha0⟩ : ∃ a, ref01_size M r.Num = some a ∧ 0 ≤ a := by
    simp only [ref01_size, b_ref01_size, bif_if]
    split
    · exact ⟨_, rfl, by rw [u64_eq]; omega⟩
    · exact ⟨_, rfl, by rw [u64_eq]; omega⟩
  obtain ⟨g, hg⟩ := gcd_some M M a r.Den ha0 (by omega) (by omega)
  have hg' : ref01_gcd M a r.Den = some g := hg
  rw [ha, hd, Option.bind_some, Option.bind_some, hg', Option.bind_some]
  exact ⟨_, rfl, fun _ => by omega⟩
/-- The bit time n / d is valid. -/
def OkR (n d : Int) : Prop := 1 ≤ d ∧ d ≤ 1073741824 ∧ 4 * d ≤ n ∧ n ≤ 1048576 * d ∧ n ≤ 1073741824
theorem check_some (M : Nat) (hM : 1073741825 < M) (c : Manchester) : ∃ v, manchester_Check M c = some v ∧ ref17_Check M c = some v ∧ (v = 0 → OkR c.T_Num c.T_Den) := by
  obtain ⟨b, hb, hb2⟩ := valid_some M hM (Ratio.mk c.T_Num c.T_Den)
  simp only [manchester_Check, b_manchester_Check, ref17_Check, b_ref17_Check, valid_same, hb, Option.bind_some]
  cases b with
  | false => exact ⟨1, rfl, rfl, fun h => by omega⟩
  | true =>
    obtain ⟨d1, d2, d3⟩ := hb2 rfl
    dsimp only at d1 d2 d3
    simp (disch := omega) only [i64_ok, bif_if, Bool.not_true, Bool.false_eq_true, if_false, Bool.cond_false]
    unfold OkR
    split
    · exact ⟨2, rfl, rfl, fun h => by omega⟩
    · split
      · exact ⟨2, rfl, rfl, fun h => by omega⟩
      · exact ⟨0, rfl, rfl, fun _ => by omega⟩
/-- A configuration with its check's answer. -/
structure Cf (M : Nat) (c : Manchester) (v : Int) : Prop where
  p : manchester_Check M c = some v
  r : ref17_Check M c = some v
  ok : v = 0 → OkR c.T_Num c.T_Den

/-! ### A step -/
def sg (c : Manchester) (v : Int) : Int := if c.Ieee then v else 1 - v
theorem signal_is (M : Nat) (c : Manchester) (v : Int) (hv : -4 ≤ v ∧ v ≤ 4) : manchester_signal M c v = some (sg c v) := by
  simp (disch := omega) only [manchester_signal, b_manchester_signal, sg, i64_ok]
  cases c.Ieee <;> simp
def edgeA (n d : Int) (s : State) (t : Int) : State × List Event :=
  if s.Phase = 0 ∨ (t - s.From) * d ≥ 2 * n then
    (if s.Prev = 1 then ({ s with Phase := 1, From := t }, []) else ({ s with Phase := 0 }, []))
  else if 4 * ((t - s.From) * d) < 3 * n then (s, [])
  else ({ s with From := t }, [Event.mk 2 (s.From + n / (2 * d)) t (if 4 * ((t - s.From) * d) > 5 * n then 0 else s.Prev) 0 (bs []) (if 4 * ((t - s.From) * d) > 5 * n then 5 else 0)])
theorem half_le (n d : Int) (h : OkR n d) : 0 ≤ n / (2 * d) ∧ n / (2 * d) ≤ n := by
  unfold OkR at h
  exact ⟨Int.ediv_nonneg (by omega) (by omega), Int.ediv_le_self _ (by omega)⟩
theorem mul_bounds (x d k : Int) (hx : 0 ≤ x) (hd : 0 ≤ d) : 0 ≤ x * d ∧ (x ≤ k → x * d ≤ k * d) ∧ (k ≤ x → k * d ≤ x * d) :=
  ⟨Int.mul_nonneg hx hd, fun h => Int.mul_le_mul_of_nonneg_right h hd, fun h => Int.mul_le_mul_of_nonneg_right h hd⟩
theorem edge_is (M : Nat) (c : Manchester) (s : State) (t : Int) (h : OkR c.T_Num c.T_Den) (hs : 0 ≤ s.From ∧ s.From ≤ 1099511627776) (ht : s.From ≤ t ∧ t ≤ 1099511627776) : manchester_edge M c s t = some (edgeA c.T_Num c.T_Den s t) := by
  have h' := h
  obtain ⟨h1, h2, h3, h4, h5⟩ := h
  have hq := half_le _ _ h'
  have e1 : IntKind.i64.wrap (t - s.From) = t - s.From := i64_ok (by omega)
  simp (disch := omega) only [manchester_edge, b_manchester_edge, e1, edgeA, bif_if, beq_if, i64_ok, Int.tdiv_eq_ediv_of_nonneg]
  have hb := mul_bounds (t - s.From) c.T_Den 8388608 (by omega) (by omega)
  generalize t - s.From = x at *
  by_cases c0 : 8388608 < x
  · have : (8388608 : Int) * c.T_Den ≤ x * c.T_Den := hb.2.2 (by omega)
    rw [if_pos c0]
    simp (disch := omega) only [i64_ok]
    generalize x * c.T_Den = p at *
    grind
  · have := hb.2.1 (by omega)
    rw [if_neg c0]
    generalize x * c.T_Den = p at *
    simp (disch := omega) only [i64_ok]
    grind
theorem times_is (M : Nat) (c : Manchester) (h : OkR c.T_Num c.T_Den) (k : Int) (hk : 0 ≤ k ∧ k ≤ 100000) : ref17_times M c k = some (k * c.T_Num / (2 * c.T_Den)) := by
  obtain ⟨h1, h2, h3, h4, h5⟩ := h
  have hb := mul_bounds k c.T_Num 100000 hk.1 (by omega)
  have hb2 := hb.2.1 hk.2
  have hq : 0 ≤ k * c.T_Num / (2 * c.T_Den) ∧ k * c.T_Num / (2 * c.T_Den) ≤ k * c.T_Num := ⟨Int.ediv_nonneg (by omega) (by omega), Int.ediv_le_self _ (by omega)⟩
  simp (disch := omega) only [ref17_times, b_ref17_times, i64_ok, Int.tdiv_eq_ediv_of_nonneg]
  rw [bif_neg (by omega)]
/-- The document's state. -/
def toR (s : State) : State := State.mk s.Aux s.At s.From s.Phase 0 0 s.Prev (bs [])
theorem ref_edge_is (M : Nat) (c : Manchester) (s : State) (t : Int) (h : OkR c.T_Num c.T_Den) (hs : 0 ≤ s.From ∧ s.From ≤ 1099511627776) (hp : s.Phase = 0 ∨ s.Phase = 1) (ht : s.From ≤ t ∧ t ≤ 1099511627776) (pv : Int) :
    ref17_edge M c (toR { s with Prev := pv }) t s.Prev = some (toR (edgeA c.T_Num c.T_Den s t).1, (edgeA c.T_Num c.T_Den s t).2) := by
  have h' := h
  obtain ⟨h1, h2, h3, h4, h5⟩ := h
  have hq := half_le _ _ h'
  have e1 : IntKind.i64.wrap (t - s.From) = t - s.From := i64_ok (by omega)
  have ht1 := times_is M c h' 1 (by omega)
  rw [Int.one_mul] at ht1
  simp (disch := omega) only [ref17_edge, b_ref17_edge, ht1, toR, e1, edgeA, bif_if, beq_if, i64_ok, Int.tdiv_eq_ediv_of_nonneg, Option.bind_some, Int.one_mul]
  have hb := mul_bounds (t - s.From) c.T_Den 4194304 (by omega) (by omega)
  generalize t - s.From = x at *
  by_cases c0 : 4194304 ≤ x
  · have : (4194304 : Int) * c.T_Den ≤ x * c.T_Den := hb.2.2 (by omega)
    rw [if_pos (show x ≥ 4194304 from c0)]
    generalize x * c.T_Den = p at *
    grind
  · have := hb.2.1 (by omega)
    rw [if_neg (show ¬ x ≥ 4194304 from c0)]
    have e4 : 4 * x * c.T_Den = 4 * (x * c.T_Den) := Int.mul_assoc ..
    simp (disch := omega) only [i64_ok, e4]
    generalize x * c.T_Den = p at *
    grind
/-- Is an event accepted? -/
def In (s : State) (e : Event) : Prop := Vld e ∧ e.Kind = 1 ∧ e.Fault = 0 ∧ e.From < e.To ∧ 0 ≤ e.Value ∧ e.Value ≤ 1 ∧ (s.Aux = 0 ∨ e.From = s.At)
instance (s : State) (e : Event) : Decidable (In s e) := by unfold In; infer_instance
theorem accepts_is (M : Nat) (s : State) (e : Event) : manchester_accepts M s e = some (decide (In s e)) := by
  simp only [manchester_accepts, b_manchester_accepts, event_valid, Option.bind_some, bif_if, beq_if, bne_if]
  by_cases h : In s e
  · rw [decide_eq_true h]; unfold In at h; grind
  · rw [decide_eq_false h]; unfold In at h; grind
theorem ref_accepts_is (M : Nat) (s : State) (e : Event) : ref17_accepts M (toR s) e = some (decide (In s e)) := by
  simp only [ref17_accepts, b_ref17_accepts, ref_valid, Option.bind_some, bif_if, beq_if, bne_if, toR]
  by_cases h : In s e
  · rw [decide_eq_true h]; unfold In at h; grind
  · rw [decide_eq_false h]; unfold In at h; grind
def stepA (c : Manchester) (s : State) (e : Event) : State × List Event :=
  if In s e then
    if sg c e.Value = s.Prev then ({ s with Aux := 1, At := e.To }, [])
    else edgeA c.T_Num c.T_Den { s with Aux := 1, At := e.To, Prev := sg c e.Value } e.From
  else (s, [])
/-- What is known of a state. -/
structure Wf (s : State) : Prop where
  from_ : 0 ≤ s.From ∧ s.From ≤ s.At ∧ s.At ≤ 1099511627776
  ph : s.Phase = 0 ∨ s.Phase = 1
  pv : s.Prev = 0 ∨ s.Prev = 1
  ax : (s.Aux = 0 ∧ s.From = 0) ∨ s.Aux = 1
abbrev st0 : State := State.mk 0 0 0 0 0 0 0 (bs [])
theorem wf_st0 : Wf st0 := ⟨by decide, .inl rfl, .inl rfl, .inl ⟨rfl, rfl⟩⟩
theorem edge_wf (n d : Int) (s : State) (t : Int) (ht : 0 ≤ t ∧ t ≤ s.At) (h : Wf s) (ha : s.Aux = 1) : Wf (edgeA n d s t).1 ∧ (edgeA n d s t).1.Aux = 1 ∧ (edgeA n d s t).1.At = s.At ∧ (edgeA n d s t).1.Prev = s.Prev := by
  obtain ⟨h1, h2, h3, h4⟩ := h
  unfold edgeA
  split
  · split
    · exact ⟨⟨by dsimp only; omega, .inr rfl, h3, .inr ha⟩, ha, rfl, rfl⟩
    · exact ⟨⟨h1, .inl rfl, h3, .inr ha⟩, ha, rfl, rfl⟩
  · split
    · exact ⟨⟨h1, h2, h3, h4⟩, ha, rfl, rfl⟩
    · exact ⟨⟨by dsimp only; omega, h2, h3, .inr ha⟩, ha, rfl, rfl⟩
theorem sg_01 (c : Manchester) (v : Int) (hv : v = 0 ∨ v = 1) : sg c v = 0 ∨ sg c v = 1 := by unfold sg; split <;> omega
theorem in_from {s : State} {e : Event} (h : Wf s) (hi : In s e) : s.From ≤ e.From ∧ 0 ≤ e.From ∧ e.From ≤ 1099511627776 ∧ e.From < e.To ∧ e.To ≤ 1099511627776 := by
  obtain ⟨h1, h2, h3, h4⟩ := h
  obtain ⟨g1, g2, g3, g4, g5, g6, g7⟩ := hi
  unfold Vld at g1
  omega
theorem step_wf (c : Manchester) (s : State) (e : Event) (h : Wf s) : Wf (stepA c s e).1 := by
  unfold stepA
  by_cases hi : In s e
  · have hf := in_from h hi
    obtain ⟨h1, h2, h3, h4⟩ := h
    rw [if_pos hi]
    split
    · exact ⟨by dsimp only; omega, h2, h3, .inr rfl⟩
    · have hw : Wf { s with Aux := 1, At := e.To, Prev := sg c e.Value } := ⟨by dsimp only; omega, h2, sg_01 c e.Value (by have := hi.2.2.2.2; omega), .inr rfl⟩
      exact (edge_wf _ _ { s with Aux := 1, At := e.To, Prev := sg c e.Value } _ ⟨hf.2.1, by dsimp only; omega⟩ hw rfl).1
  · rw [if_neg hi]; exact h
theorem step_is {M : Nat} {c : Manchester} (H : Cf M c 0) (s : State) (e : Event) (h : Wf s) : manchester_Step M c s e = some (stepA c s e) := by
  simp only [manchester_Step, b_manchester_Step, H.p, accepts_is, Option.bind_some, bne_self_eq_false, Bool.cond_false, stepA]
  by_cases hi : In s e
  · have hf := in_from h hi
    have hv : e.Value = 0 ∨ e.Value = 1 := by have := hi.2.2.2.2; omega
    rw [decide_eq_true hi, if_pos hi]
    simp only [Bool.not_true, Bool.cond_false, signal_is M c e.Value (by omega), Option.bind_some, beq_if]
    by_cases hp : sg c e.Value = s.Prev
    · rw [if_pos hp, if_pos hp]
    · rw [if_neg hp, if_neg hp, edge_is M c { s with Aux := 1, At := e.To, Prev := sg c e.Value } e.From (H.ok rfl) ⟨h.from_.1, by have := h.from_; dsimp only; omega⟩ ⟨hf.1, hf.2.2.1⟩]
      rfl
  · rw [decide_eq_false hi, if_neg hi]; rfl
theorem ref_step_is {M : Nat} {c : Manchester} (H : Cf M c 0) (s : State) (e : Event) (h : Wf s) : ref17_Step M c (toR s) e = some (toR (stepA c s e).1, (stepA c s e).2) := by
  simp only [ref17_Step, b_ref17_Step, H.r, ref_accepts_is, Option.bind_some, bne_self_eq_false, Bool.cond_false, stepA]
  by_cases hi : In s e
  · have hf := in_from h hi
    have hv : e.Value = 0 ∨ e.Value = 1 := by have := hi.2.2.2.2; omega
    rw [decide_eq_true hi, if_pos hi]
    have w1 : IntKind.i64.wrap (1 - e.Value) = 1 - e.Value := i64_ok (by omega)
    have key : ∀ x : Int, x = sg c e.Value → (bif x == (toR s).Prev then some (({ toR s with Phase := 1, At := e.To } : State), ([] : List Event)) else
        (ref17_edge M c (State.mk 1 e.To (toR s).From (toR s).Count (toR s).Acc (toR s).Aux (toR s).Prev (toR s).Data) e.From x).bind fun r => some (r.fst, r.snd)) =
        some (toR (if sg c e.Value = s.Prev then (({ s with Aux := 1, At := e.To } : State), ([] : List Event)) else edgeA c.T_Num c.T_Den { s with Aux := 1, At := e.To, Prev := sg c e.Value } e.From).1, (if sg c e.Value = s.Prev then (({ s with Aux := 1, At := e.To } : State), ([] : List Event)) else edgeA c.T_Num c.T_Den { s with Aux := 1, At := e.To, Prev := sg c e.Value } e.From).2) := fun x hx => by
      subst hx
      rw [beq_if]
      by_cases hp : sg c e.Value = s.Prev
      · have hp' : sg c e.Value = (toR s).Prev := hp
        rw [if_pos hp', if_pos hp]; rfl
      · have hp' : ¬ sg c e.Value = (toR s).Prev := hp
        rw [if_neg hp', if_neg hp]
        have := ref_edge_is M c { s with Aux := 1, At := e.To, Prev := sg c e.Value } e.From (H.ok rfl) ⟨h.from_.1, by have := h.from_; dsimp only; omega⟩ h.ph ⟨hf.1, hf.2.2.1⟩ s.Prev
        have e1 : State.mk 1 e.To (toR s).From (toR s).Count (toR s).Acc (toR s).Aux (toR s).Prev (toR s).Data = toR { ({ s with Aux := 1, At := e.To, Prev := sg c e.Value } : State) with Prev := s.Prev } := rfl
        rw [e1, this]; rfl
    simp only [Bool.not_true, Bool.cond_false, w1]
    cases hc : c.Ieee with
    | true => exact key e.Value (by simp [sg, hc])
    | false => exact key (1 - e.Value) (by simp [sg, hc])
  · rw [decide_eq_false hi, if_neg hi]; rfl
theorem step_bad {M : Nat} {c : Manchester} {v : Int} (H : Cf M c v) (hv : v ≠ 0) (s : State) (e : Event) : manchester_Step M c s e = some (s, []) ∧ ref17_Step M c s e = some (s, []) := by
  simp only [manchester_Step, b_manchester_Step, ref17_Step, b_ref17_Step, H.p, H.r, Option.bind_some, bne_if, if_neg hv, and_self]
theorem awake_true (M : Nat) (hM : 200 < M) : law17_awake M = some true := by
  obtain ⟨m, rfl⟩ : ∃ m, M = m + 200 := ⟨M - 200, by omega⟩
  kernel_rfl
end Go.Abs.K
