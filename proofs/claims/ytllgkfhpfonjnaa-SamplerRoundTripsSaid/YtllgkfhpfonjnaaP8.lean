/- SAMPLER: what is sent is read again. -/
import Derived.Test.YtllgkfhpfonjnaaP7
set_option linter.unusedVariables false
set_option linter.unusedSimpArgs false
namespace Go.Abs.K
open Go Go.Abs Go.Proofs

/-! ### Boundaries from another boundary -/
theorem bd_add (n d a j : Int) (h : OkR n d) (ha : 0 ≤ a) (hj : 0 ≤ j) : bd n d a + bd n d j ≤ bd n d (a + j) ∧ bd n d (a + j) ≤ bd n d a + bd n d j + 1 := by
  have h1 := bd_spec n d a h ha
  have h2 := bd_spec n d j h hj
  have h3 := bd_spec n d (a + j) h (by omega)
  rw [Int.add_mul] at h3
  unfold OkR at h
  refine ⟨le_of_mul d _ _ (by omega) ?_, le_of_mul d _ _ (by omega) ?_⟩
  · rw [Int.mul_add]; omega
  · rw [Int.mul_add, Int.mul_add, Int.mul_one]; omega
theorem bd_mono (n d a b : Int) (h : OkR n d) (ha : 0 ≤ a) (hab : a ≤ b) : bd n d a ≤ bd n d b := by
  have h1 := bd_add n d a (b - a) h ha (by omega)
  have h2 := bd_spec n d (b - a) h (by omega)
  rw [show a + (b - a) = b by omega] at h1
  omega
theorem bd_one (n d a j : Int) (h : OkR n d) (ha : 0 ≤ a) (hj : 0 ≤ j) : bd n d a + sm n d j < bd n d (a + j + 1) ∧ bd n d (a + j + 1) ≤ bd n d a + sm n d (j + 1) := by
  have h1 := bd_spec n d a h ha
  have h2 := sm_spec n d j h hj
  have h3 := sm_spec n d (j + 1) h (by omega)
  have h4 := bd_spec n d (a + j + 1) h (by omega)
  rw [Int.add_mul, Int.add_mul, Int.one_mul] at h4
  rw [Int.add_mul, Int.one_mul] at h3
  unfold OkR at h
  constructor
  · have : bd n d a + sm n d j + 1 ≤ bd n d (a + j + 1) := by
      refine le_of_mul d _ _ (by omega) ?_
      rw [Int.mul_add, Int.mul_add, Int.mul_one]; omega
    omega
  · refine le_of_mul d _ _ (by omega) ?_
    rw [Int.mul_add]; omega
theorem near_small (n d x j : Int) (h : OkR n d) (hj : 0 ≤ j) (hx : bd n d j ≤ x ∧ x ≤ bd n d j + 1) : ¬ irr n d x := by
  have b0 := bd_spec n d j h hj
  have hx0 : 0 ≤ x := by omega
  obtain ⟨k1, k2, k3, k4, k5⟩ := irr_k n d x h hx0
  have hs := bd_step n d j h hj
  have hn := near_bounds n d x h hx0
  have hle : near n d x ≤ 1 := by
    unfold near
    by_cases c1 : j + 1 ≤ x * d / n
    · have := bd_mono n d (j + 1) (x * d / n) h (by omega) c1
      omega
    · by_cases c2 : x * d / n + 1 ≤ j
      · have := bd_mono n d (x * d / n + 1) j h (by omega) c2
        split <;> omega
      · have e : x * d / n = j := by omega
        rw [e]
        split <;> omega
  unfold irr
  unfold OkR at h
  have : near n d x = 0 ∨ near n d x = 1 := by omega
  rcases this with e | e <;> rw [e] <;> omega

/-! ### One bit -/
theorem lev_vld (t u v : Int) (h1 : 0 ≤ t ∧ t ≤ u ∧ u ≤ 1099511627776) (hv : 0 ≤ v ∧ v ≤ 1) : Vld (Event.mk 1 t u v 0 (bs []) 0) := by
  unfold Vld
  simp only
  refine ⟨by omega, by omega, by omega, by omega, by omega, by omega, by omega, by omega, by omega, ?_⟩
  decide
def sb (n d k v : Int) : Event := Event.mk 1 (bd n d k) (bd n d (k + 1)) v 0 (bs []) 0
def SI (n d : Int) (s : State) (k lo : Int) : Prop :=
  (s = st0 ∧ k = 0 ∧ lo = 0) ∨ (s.Phase = 1 ∧ s.At = bd n d k ∧ s.Aux = 0 ∧ ∃ a, 0 ≤ a ∧ a ≤ k ∧ s.From = bd n d a ∧ s.Count = k - a ∧ lo ≤ bd n d a + bd n d (k - a))
theorem sb_in (n d : Int) (h : OkR n d) (s : State) (k v lo : Int) (hk : 0 ≤ k) (hs : SI n d s k lo) (hv : v = 0 ∨ v = 1) (hT : bd n d (k + 1) ≤ 1099511627776) : In s (sb n d k v) := by
  have b0 := bd_spec n d k h hk
  have hst := bd_step n d k h hk
  refine ⟨?_, rfl, rfl, ?_, ?_, ?_, ?_⟩
  · exact lev_vld _ _ _ ⟨b0.1, by omega, hT⟩ (by omega)
  · show bd n d k < bd n d (k + 1); omega
  · show 0 ≤ v; omega
  · show v ≤ 1; omega
  · rcases hs with ⟨rfl, _, _⟩ | hs
    · exact .inl rfl
    · exact .inr hs.2.1.symm
theorem sb_pre (n d : Int) (h : OkR n d) (s : State) (k v lo : Int) (hk : 0 ≤ k) (hs : SI n d s k lo) : (pre n d s (sb n d k v)).Phase = 1 ∧ (pre n d s (sb n d k v)).At = bd n d (k + 1) ∧ (pre n d s (sb n d k v)).Aux = 0 ∧ ∃ a, 0 ≤ a ∧ a ≤ k ∧ (pre n d s (sb n d k v)).From = bd n d a ∧ (pre n d s (sb n d k v)).Count = k - a ∧ lo ≤ bd n d a + bd n d (k - a) := by
  rcases hs with ⟨rfl, rfl, rfl⟩ | ⟨s1, s2, s3, a, a1, a2, s4, s5, s6⟩
  · unfold pre
    rw [if_pos rfl]
    refine ⟨rfl, rfl, rfl, 0, by omega, by omega, rfl, by rfl, ?_⟩
    rw [Int.sub_self, bd_zero]; decide
  · unfold pre
    rw [if_neg (by omega)]
    by_cases c : (sb n d k v).Value = s.Prev
    · rw [if_pos c]
      exact ⟨s1, rfl, s3, a, a1, a2, s4, s5, s6⟩
    · rw [if_neg c]
      have g := bd_add n d a (k - a) h a1 (by omega)
      rw [show a + (k - a) = k by omega] at g
      refine ⟨s1, rfl, ?_, k, hk, by omega, rfl, by dsimp only; omega, ?_⟩
      · dsimp only
        rw [if_neg, s3]
        rw [s4]
        exact near_small n d _ (k - a) h (by omega) ⟨by show _ ≤ bd n d k - _; omega, by show bd n d k - _ ≤ _; omega⟩
      · rw [Int.sub_self, bd_zero]; omega
theorem sb_step (n d : Int) (h : OkR n d) (s : State) (k v lo : Int) (hk : 0 ≤ k) (hs : SI n d s k lo) (hv : v = 0 ∨ v = 1) (hT : bd n d (k + 1) ≤ 1099511627776) : ∃ x, (stepA n d s (sb n d k v)).2 = [x] ∧ x.Kind = 2 ∧ x.Value = v ∧ x.Fault = 0 ∧ lo ≤ x.From ∧ SI n d (stepA n d s (sb n d k v)).1 (k + 1) x.From := by
  have hi := sb_in n d h s k v lo hk hs hv hT
  obtain ⟨p1, p2, p3, a, a1, a2, p4, p5, p6⟩ := sb_pre n d h s k v lo hk hs
  have g := bd_one n d a (k - a) h a1 (by omega)
  have g2 := bd_step n d (k - a) h (by omega)
  rw [show a + (k - a) + 1 = k + 1 by omega] at g
  unfold stepA
  rw [if_pos hi]
  have e : emitT n d (pre n d s (sb n d k v)).From (sb n d k v).Value (sb n d k v).To (pre n d s (sb n d k v)).Count (pre n d s (sb n d k v)).Aux = ([evB n d (bd n d a) v (k - a) 0], k - a + 1, 0) := by
    rw [p3, p4, p5]
    show emitT n d (bd n d a) v (bd n d (k + 1)) (k - a) 0 = _
    rw [emitT_go n d _ _ _ _ _ h (by omega) g.1, emitT_stop n d _ _ _ _ _ (by show ¬ _ < bd n d (k + 1); omega)]
  rw [e]
  generalize pre n d s (sb n d k v) = P at *
  refine ⟨evB n d (bd n d a) v (k - a) 0, rfl, rfl, rfl, rfl, p6, .inr ⟨p1, p2, rfl, a, a1, by omega, p4, ?_, ?_⟩⟩
  · show k - a + 1 = k + 1 - a; omega
  · show bd n d a + bd n d (k - a) ≤ bd n d a + bd n d (k + 1 - a)
    rw [show k + 1 - a = k - a + 1 by omega]; omega

/-! ### All bits -/
def singles (n d : Int) : List Int → Int → List Event
  | [], _ => []
  | v :: r, k => sb n d k v :: singles n d r (k + 1)
def Rd (lo : Int) : List Int → List Event → Prop
  | [], l => l = []
  | v :: r, l => ∃ x l', l = x :: l' ∧ x.Kind = 2 ∧ x.Value = v ∧ x.Fault = 0 ∧ lo ≤ x.From ∧ Rd x.From r l'
theorem singles_run (c : Clock) (h : OkR c.T_Num c.T_Den) : ∀ (r : List Int) (k lo : Int) (s : State), Bits r → 0 ≤ k → SI c.T_Num c.T_Den s k lo → bd c.T_Num c.T_Den (k + r.length) ≤ 1099511627776 → Rd lo r (runA 0 c s (singles c.T_Num c.T_Den r k)).2
  | [], k, lo, s, _, _, _, _ => rfl
  | v :: r, k, lo, s, hb, hk, hs, hT => by
    have hm := bd_mono c.T_Num c.T_Den (k + 1) (k + ((v :: r).length : Int)) h (by omega) (by simp only [List.length_cons]; omega)
    obtain ⟨x, x1, x2, x3, x4, x5, x6⟩ := sb_step _ _ h s k v lo hk hs (hb v List.mem_cons_self) (by omega)
    have ih := singles_run c h r (k + 1) x.From _ (fun w hw => hb w (List.mem_cons_of_mem _ hw)) (by omega) x6 (by
      rw [show k + 1 + (r.length : Int) = k + ((v :: r).length : Int) by simp only [List.length_cons]; omega]; exact hT)
    have hst : stepV 0 c s (sb c.T_Num c.T_Den k v) = stepA c.T_Num c.T_Den s (sb c.T_Num c.T_Den k v) := by unfold stepV; rw [if_pos rfl]
    refine ⟨x, _, ?_, x2, x3, x4, x5, ih⟩
    show (stepV 0 c s _).2 ++ _ = _
    rw [hst, x1]
    rfl
theorem evs_append : ∀ (a b : List Run) (t : Int), evs t (a ++ b) = evs t a ++ evs (t + total a) b
  | [], b, t => by simp [evs, total]
  | r :: a, b, t => by
    have e : total (r :: a) = r.Ticks + total a := by simp [total]
    simp only [List.cons_append, evs, evs_append a b, e]
    rw [show t + r.Ticks + total a = t + (r.Ticks + total a) by omega]
/-- Events of levels are taken; the state is at their end. -/
theorem evs_at (c : Clock) (h : OkR c.T_Num c.T_Den) : ∀ (l : List Run) (t : Int) (s : State), Fine l → Wf c.T_Num c.T_Den s → (s.Phase = 0 ∧ t = 0 ∨ s.At = t) → 0 ≤ t → t + total l ≤ 1099511627776 → ((runA 0 c s (evs t l)).1.Phase = 0 ∨ (runA 0 c s (evs t l)).1.At = t + total l) ∧ Wf c.T_Num c.T_Den (runA 0 c s (evs t l)).1
  | [], t, s, _, hw, hs, _, _ => by
    refine ⟨?_, hw⟩
    show s.Phase = 0 ∨ s.At = t + 0
    omega
  | r :: l, t, s, hf, hw, hs, ht, hb => by
    have hr := hf r List.mem_cons_self
    have hf' : Fine l := fun x hx => hf x (List.mem_cons_of_mem _ hx)
    have ht' := (fine_total hf').1
    have e : total (r :: l) = r.Ticks + total l := by simp [total]
    have hi : In s (Event.mk 1 t (t + r.Ticks) r.Level 0 (bs []) 0) := by
      refine ⟨?_, rfl, rfl, ?_, hr.2.1, hr.2.2, ?_⟩
      · exact lev_vld _ _ _ ⟨ht, by omega, by omega⟩ hr.2
      · show t < t + r.Ticks; omega
      · rcases hs with hs | hs
        · exact .inl hs.1
        · exact .inr hs.symm
    obtain ⟨w1, w2, w3, w4⟩ := step_wf _ _ h s _ hw
    have hst : stepV 0 c s (Event.mk 1 t (t + r.Ticks) r.Level 0 (bs []) 0) = stepA c.T_Num c.T_Den s (Event.mk 1 t (t + r.Ticks) r.Level 0 (bs []) 0) := by unfold stepV; rw [if_pos rfl]
    have ih := evs_at c h l (t + r.Ticks) (stepA c.T_Num c.T_Den s (Event.mk 1 t (t + r.Ticks) r.Level 0 (bs []) 0)).1 hf' w1 (.inr (w3 hi)) (by omega) (by omega)
    rw [e, show t + (r.Ticks + total l) = t + r.Ticks + total l by omega]
    show (((runA 0 c (stepV 0 c s _).1 (evs (t + r.Ticks) l)).1).Phase = 0 ∨ _) ∧ _
    rw [hst]
    exact ih
theorem fine_append {a b : List Run} : Fine (a ++ b) ↔ Fine a ∧ Fine b := by
  unfold Fine
  simp only [List.mem_append]
  exact ⟨fun h => ⟨fun r hr => h r (.inl hr), fun r hr => h r (.inr hr)⟩, fun h r hr => hr.elim (h.1 r) (h.2 r)⟩
theorem put_run (c : Clock) (h : OkR c.T_Num c.T_Den) (l : List Run) (v t : Int) (hf : Fine l) (ht : 1 ≤ t) (hv : v = 0 ∨ v = 1) (hb : total l + t ≤ 1099511627776) : runA 0 c st0 (evs 0 (putA l v t)) = runA 0 c st0 (evs 0 l ++ [Event.mk 1 (total l) (total l + t) v 0 (bs []) 0]) := by
  have h0 : ¬ t = 0 := by omega
  rcases snoc_cases l with rfl | ⟨q, r, rfl⟩
  · rw [put_nil, if_neg h0]
    rfl
  · rw [put_snoc, if_neg h0]
    obtain ⟨f1, f2⟩ := fine_append.1 hf
    have hr := f2 r List.mem_cons_self
    have hq := (fine_total f1).1
    have e1 : total (q ++ [r]) = total q + r.Ticks := by rw [total_append, total_one]
    by_cases c1 : r.Level = v
    · rw [if_pos c1, evs_append, evs_append]
      rw [e1] at hb ⊢
      obtain ⟨g1, g2⟩ := evs_at c h q 0 st0 f1 (.inl rfl) (.inl ⟨rfl, rfl⟩) (by omega) (by omega)
      rw [Int.zero_add] at g1
      simp only [evs, Int.zero_add, List.append_assoc, List.singleton_append]
      rw [run_append, run_append]
      have hi : In (runA 0 c st0 (evs 0 q)).1 (Event.mk 1 (total q) (total q + (r.Ticks + t)) v 0 (bs []) 0) := by
        refine ⟨?_, rfl, rfl, ?_, ?_, ?_, ?_⟩
        · exact lev_vld _ _ _ ⟨hq, by omega, by omega⟩ (by omega)
        · show total q < total q + (r.Ticks + t); omega
        · show 0 ≤ v; omega
        · show v ≤ 1; omega
        · rcases g1 with g1 | g1
          · exact .inl g1
          · exact .inr g1.symm
      have key := cut_run c h (runA 0 c st0 (evs 0 q)).1 (Event.mk 1 (total q) (total q + (r.Ticks + t)) v 0 (bs []) 0) (total q + r.Ticks) g2 hi ⟨by dsimp only; omega, by dsimp only; omega⟩
      dsimp only at key
      rw [c1, show total q + r.Ticks + t = total q + (r.Ticks + t) by omega, key]
    · rw [if_neg c1, evs_append]
      simp only [evs, Int.zero_add]
theorem puts_run (c : Clock) (h : OkR c.T_Num c.T_Den) : ∀ (r : List Int) (k : Int) (out : List Run), Bits r → 0 ≤ k → Fine out → total out = bd c.T_Num c.T_Den k → bd c.T_Num c.T_Den (k + r.length) ≤ 1099511627776 → runA 0 c st0 (evs 0 (puts out (pulses c.T_Num c.T_Den r k))) = runA 0 c st0 (evs 0 out ++ singles c.T_Num c.T_Den r k)
  | [], k, out, _, _, _, _, _ => by simp [pulses, puts, singles]
  | v :: r, k, out, hb, hk, hf, ht, hT => by
    have hv := hb v List.mem_cons_self
    have hst := bd_step c.T_Num c.T_Den k h hk
    have hm := bd_mono c.T_Num c.T_Den (k + 1) (k + ((v :: r).length : Int)) h (by omega) (by simp only [List.length_cons]; omega)
    have hp := put_fine hf v (bd c.T_Num c.T_Den (k + 1) - bd c.T_Num c.T_Den k) (by omega) (by omega)
    have hpt := put_total out v (bd c.T_Num c.T_Den (k + 1) - bd c.T_Num c.T_Den k)
    have ih := puts_run c h r (k + 1) (putA out v (bd c.T_Num c.T_Den (k + 1) - bd c.T_Num c.T_Den k)) (fun w hw => hb w (List.mem_cons_of_mem _ hw)) (by omega) hp (by omega) (by
      rw [show k + 1 + (r.length : Int) = k + ((v :: r).length : Int) by simp only [List.length_cons]; omega]; exact hT)
    have pr := put_run c h out v (bd c.T_Num c.T_Den (k + 1) - bd c.T_Num c.T_Den k) hf (by omega) hv (by omega)
    simp only [pulses, puts_cons, singles]
    rw [ih, run_append, pr, ← run_append, ht, show bd c.T_Num c.T_Den k + (bd c.T_Num c.T_Den (k + 1) - bd c.T_Num c.T_Den k) = bd c.T_Num c.T_Den (k + 1) by omega]
    simp only [List.append_assoc, List.singleton_append]
    rfl
theorem dec_runs (c : Clock) (h : OkR c.T_Num c.T_Den) (vs : List Int) (hb : Bits vs) (hT : bd c.T_Num c.T_Den vs.length ≤ 1099511627776) : Rd 0 vs (decA 0 c (evs 0 (puts [] (pulses c.T_Num c.T_Den vs 0)))) := by
  unfold decA
  rw [puts_run c h vs 0 [] hb (by omega) (fun r hr => by cases hr) (by rw [bd_zero]; rfl) (by rw [Int.zero_add]; exact hT)]
  exact singles_run c h vs 0 0 st0 hb (by omega) (.inl ⟨rfl, rfl, rfl⟩) (by rw [Int.zero_add]; exact hT)
theorem rd_len : ∀ (vs : List Int) (lo : Int) (l : List Event), Rd lo vs l → l.length = vs.length
  | [], lo, l, h => by rw [show l = [] from h]; rfl
  | v :: r, lo, l, h => by
    obtain ⟨x, l', rfl, _, _, _, _, h6⟩ := h
    simp [rd_len r _ l' h6]

/-! ### The law -/
theorem rt_l26 (M : Nat) (s : ByteArray) (out : List Event) (hlen : out.length = s.size) (hl : out.length < 1000000000) : ∀ (r : List Event) (vs : List Int) (i m : Nat) (lo : Int), out.drop i = r → ((ofBytes s).map (· - 48)).drop i = vs → Bits vs → r.length < m → Rd lo vs r → (0 < i → (out.getD (i - 1) dflt_Event).From = lo) →
    law15_SamplerRoundTrips_l26 M m s (i : Int) out = some true
  | r, vs, i, 0, lo, _, _, _, hm, _, _ => by omega
  | [], vs, i, m + 1, lo, hr, hv, hb, hm, hrd, hlo => by
    have := drop_nil hr
    simp only [law15_SamplerRoundTrips_l26, b_law15_SamplerRoundTrips_l26]
    rw [bif_neg (by omega)]
  | x :: r, vs, i, m + 1, lo, hr, hv, hb, hm, hrd, hlo => by
    obtain ⟨h1, h2, h3, h4, h5⟩ := drop_cons hr dflt_Event
    simp only [List.length_cons] at hm
    cases vs with
    | nil => have : x :: r = [] := hrd; cases this
    | cons v vs =>
      obtain ⟨y, l', e, y1, y2, y3, y4, y5⟩ := hrd
      injection e with e1 e2
      subst e1; subst e2
      obtain ⟨g1, g2, g3⟩ := byteAt_bit hv
      have ev := level_is g1 (hb v List.mem_cons_self)
      have hx : out.getD i dflt_Event = x := by have := h1; rwa [Int.toNat_natCast] at this
      have ih := rt_l26 M s out hlen hl r vs (i + 1) m x.From h3 g3 (fun w hw => hb w (List.mem_cons_of_mem _ hw)) (by omega) y5 (fun _ => by rw [show i + 1 - 1 = i by omega, hx])
      simp only [law15_SamplerRoundTrips_l26, b_law15_SamplerRoundTrips_l26, h1, ev, y1, y2, y3, bne_self_eq_false, Bool.cond_false]
      simp only [bif_pos (show (0 : Int) ≤ (i : Int) by omega), bif_pos (show (i : Int) < (out.length : Int) by omega), bif_pos (show (i : Int) < (s.size : Int) by omega)]
      rw [next_i i (by omega), ih]
      by_cases c0 : (i : Int) > 0
      · have hp := hlo (by omega)
        rw [bif_pos c0, i64_ok (n := (i : Int) - 1) (by omega), bif_pos (by omega), bif_pos (by omega), show ((i : Int) - 1).toNat = i - 1 by omega, hp, bif_neg (by omega)]
      · rw [bif_neg c0]
theorem rt_l16 {M : Nat} (hM : 10000000000000 < M) {c : Clock} (H : Cf M c 0) (s : ByteArray) (l : List Run) (hf : Fine l) (hl : l.length ≤ 262144) (ht : total l ≤ 1099511627776) (hs : s.size < 1000000000) (hb : Bits ((ofBytes s).map (· - 48))) (hrd : Rd 0 ((ofBytes s).map (· - 48)) (decA 0 c (evs 0 l))) : ∀ (r : List Run) (i m : Nat) (acc : List Event), l.drop i = r → r.length < m → acc.length + r.length ≤ 262144 → acc ++ evs (total (l.take i)) r = evs 0 l →
    law15_SamplerRoundTrips_l16 M m s (total (l.take i)) (i : Int) c l acc = some true
  | r, i, 0, acc, _, hm, _, _ => by omega
  | [], i, m + 1, acc, hr, hm, ha, he => by
    have := drop_nil hr
    simp only [List.length_nil] at ha
    have e : acc = evs 0 l := by simpa [evs] using he
    have hlen := rd_len _ _ _ hrd
    rw [List.length_map, ofBytes_length] at hlen
    simp only [law15_SamplerRoundTrips_l16, b_law15_SamplerRoundTrips_l16]
    rw [bif_neg (by omega), decode_is (by omega) H acc (by omega), Option.bind_some, e, hlen]
    simp only [bne_self_eq_false, Bool.cond_false]
    exact rt_l26 M s _ hlen (by omega) (decA 0 c (evs 0 l)) _ 0 M 0 rfl rfl hb (by omega) hrd (fun h => absurd h (by omega))
  | x :: r, i, m + 1, acc, hr, hm, ha, he => by
    obtain ⟨h1, h2, h3, h4, h5⟩ := drop_cons hr dflt_Run
    have hx := hf x h5
    have ht0 := fine_take hf i
    have ht1 := fine_take hf (i + 1)
    have het := total_drop hr
    simp only [List.length_cons] at hm ha
    simp only [law15_SamplerRoundTrips_l16, b_law15_SamplerRoundTrips_l16, h1]
    simp only [bif_pos (show (0 : Int) ≤ (i : Int) by omega), bif_pos (show (i : Int) < (l.length : Int) by omega), bif_pos (show (acc.length + 1) * 64 ≤ 140737488355328 by omega)]
    rw [bif_neg (by omega), i64_ok (n := 1099511627776 - total (l.take i)) (by omega), bif_neg (by omega), next_i i (by omega), ← het, i64_ok (by omega)]
    exact rt_l16 hM H s l hf hl ht hs hb hrd r (i + 1) m _ h3 (by omega) (by simp; omega) (by rw [← he]; simp [evs, het])
theorem rt_l10 {M : Nat} (hM : 10000000000000 < M) {c : Clock} (l : List Item) (hl : l.length ≤ 1024) (hok : ∀ x, x ∈ l → ItemOk x) (runs : List Run) (hend : ∀ s : ByteArray, (ofBytes s).map (· - 48) = allB l → law15_SamplerRoundTrips_l16 M M s 0 0 c runs [] = some true) : ∀ (r : List Item) (i m : Nat) (s : ByteArray), l.drop i = r → r.length < m → s.size + 4096 * r.length ≤ 4194304 → (ofBytes s).map (· - 48) ++ allB r = allB l →
    law15_SamplerRoundTrips_l10 M m s (i : Int) l c runs = some true
  | r, i, 0, s, _, hm, _, _ => by omega
  | [], i, m + 1, s, hr, hm, hs, he => by
    have := drop_nil hr
    simp only [law15_SamplerRoundTrips_l10, b_law15_SamplerRoundTrips_l10]
    rw [bif_neg (by omega)]
    exact hend s (by simpa [allB] using he)
  | x :: r, i, m + 1, s, hr, hm, hs, he => by
    obtain ⟨h1, h2, h3, h4, h5⟩ := drop_cons hr dflt_Item
    have hx := (hok x h5).size
    simp only [List.length_cons] at hm hs
    have hsz : (s ++ x.Data).size = s.size + x.Data.size := by simp
    simp only [law15_SamplerRoundTrips_l10, b_law15_SamplerRoundTrips_l10, h1]
    rw [bif_pos (by omega), bif_pos (by omega), bif_pos (by omega), bif_neg (by omega), next_i i (by omega)]
    refine rt_l10 hM l hl hok runs hend r (i + 1) m (s ++ x.Data) h3 (by omega) (by omega) ?_
    rw [← he, allB_cons, ofBytes_append, List.map_append, List.append_assoc]
    rfl
theorem SamplerRoundTrips_true (c : Clock) (l : List Item) (hc : wf_Clock c) (hl : (∀ x, x ∈ l → wf_Item x) ∧ l.length * Try.prog.bytesOf 49 ≤ 140737488351232) : ∃ M, law15_SamplerRoundTrips M c l = some true := by
  obtain ⟨M, hM⟩ := big
  obtain ⟨v, H⟩ := cf_some M (by omega) c
  obtain ⟨b, hb⟩ := few_is M (by omega) l (wf_size l hl.1)
  refine ⟨M, ?_⟩
  simp only [law15_SamplerRoundTrips, b_law15_SamplerRoundTrips, lives_true M (by omega), hb, Option.bind_some, Bool.not_true, Bool.cond_false]
  cases b with
  | false => rfl
  | true =>
    simp only [encode_is (show 10000000 < M by omega) H l, Option.bind_some, Bool.not_true, Bool.cond_false, bne_if]
    by_cases h0 : (encA M v c l).2 = 0
    · obtain ⟨e1, e3, e4, e5, e6, e7, e8, e9⟩ := enc_ok M (by omega) H l h0
      subst e1
      have h := H.ok rfl
      obtain ⟨b1, b2⟩ := allB_bits l e9
      rw [if_pos h0, e3]
      refine rt_l10 hM l e8 e9 _ (fun s hs => ?_) l 0 M (bs []) rfl (by omega) (by show 0 + _ ≤ _; omega) rfl
      have hsz : s.size = (allB l).length := by rw [← hs, List.length_map, ofBytes_length]
      have hrd := dec_runs c h (allB l) b1 (by omega)
      have := rt_l16 hM H s (runsA c.T_Num c.T_Den l) e4 e5 e6 (by omega) (by rw [hs]; exact b1) (by rw [hs]; exact hrd) (runsA c.T_Num c.T_Den l) 0 M [] rfl (by omega) (by simpa using e5) rfl
      exact this
    · rw [if_neg h0, enc_bad M v c l h0]
      rfl
end Go.Abs.K
