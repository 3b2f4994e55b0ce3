/- MANCHESTER: what is decoded of what is sent. -/
import Derived.Test.YthobjcamfkplkaaP5
set_option linter.unusedVariables false
set_option linter.unusedSimpArgs false
namespace Go.Abs.K
open Go Go.Abs Go.Proofs

/-! ### Joined levels are decoded as the single ones -/
def lvl (c : Manchester) (t tk v : Int) : Event := Event.mk 1 t (t + tk) (sg c v) 0 (bs []) 0
def evP (c : Manchester) : Int → List (Int × Int) → List Event
  | _, [] => []
  | t, p :: ps => if p.2 = 0 then evP c t ps else lvl c t p.2 p.1 :: evP c (t + p.2) ps
def Acc (s : State) (t : Int) : Prop := s.Aux = 0 ∨ s.At = t
theorem evs_append : ∀ (a b : List Run) (t : Int), evs t (a ++ b) = evs t a ++ evs (t + total a) b
  | [], b, t => by simp [evs, total]
  | r :: a, b, t => by
    have e : total (r :: a) = r.Ticks + total a := by simp [total]
    simp only [List.cons_append, evs, evs_append a b, e, ← Int.add_assoc]
theorem evP_append (c : Manchester) : ∀ (a b : List (Int × Int)) (t : Int), evP c t (a ++ b) = evP c t a ++ evP c (t + sumP a) b
  | [], b, t => by simp [evP, sumP]
  | p :: a, b, t => by
    simp only [List.cons_append, evP, sumP_cons]
    split
    · rename_i h; rw [evP_append c a b t, h, Int.zero_add]
    · rw [evP_append c a b (t + p.2), ← Int.add_assoc]; rfl
theorem in_run (c : Manchester) (s : State) (t : Int) (r : Run) (ha : Acc s t) (hr : 1 ≤ r.Ticks ∧ 0 ≤ r.Level ∧ r.Level ≤ 1) (ht : 0 ≤ t ∧ t + r.Ticks ≤ 1099511627776) : In s (Event.mk 1 t (t + r.Ticks) r.Level 0 (bs []) 0) := by
  refine ⟨?_, rfl, rfl, by dsimp only; omega, by dsimp only; omega, by dsimp only; omega, ?_⟩
  · unfold Vld
    have : (bs []).size = 0 := rfl
    dsimp only
    omega
  · rcases ha with ha | ha
    · exact .inl ha
    · exact .inr ha.symm
theorem run_at (c : Manchester) : ∀ (l : List Run) (s : State) (t : Int), Acc s t → Fine l → 0 ≤ t → t + total l ≤ 1099511627776 → Acc (runA 0 c s (evs t l)).1 (t + total l)
  | [], s, t, ha, _, _, _ => by simpa [evs, runA, total] using ha
  | r :: l, s, t, ha, hf, h0, ht => by
    have e : total (r :: l) = r.Ticks + total l := by simp [total]
    have hr := hf r List.mem_cons_self
    have hf' : Fine l := fun x hx => hf x (List.mem_cons_of_mem _ hx)
    have hl := (fine_total hf').1
    have hi := in_run c s t r ha hr ⟨h0, by omega⟩
    have hat := (step_at c s _ hi).1
    have := run_at c l (stepV 0 c s (Event.mk 1 t (t + r.Ticks) r.Level 0 (bs []) 0)).1 (t + r.Ticks) (.inr (by unfold stepV; rw [if_pos rfl, hat])) hf' (by omega) (by omega)
    rw [e, ← Int.add_assoc]
    exact this
theorem sg_level (c : Manchester) (v : Int) (h : 0 ≤ v ∧ v ≤ 1) : 0 ≤ sg c v ∧ sg c v ≤ 1 := by unfold sg; split <;> omega
theorem join_one (c : Manchester) (s : State) (t : Int) (l : List Run) (p : Int × Int) (ha : Acc s t) (hf : Fine l) (h0 : 0 ≤ t) (hp : 0 ≤ p.2 ∧ 0 ≤ p.1 ∧ p.1 ≤ 1) (ht : t + total l + p.2 ≤ 1099511627776) :
    runA 0 c s (evs t (line c (putA l p.1 p.2))) = runA 0 c s (evs t (line c l) ++ evP c (t + total l) [p]) := by
  obtain ⟨v, k⟩ := p
  dsimp only at hp ht ⊢
  by_cases hk : k = 0
  · subst hk
    have e1 : putA l v 0 = l := by unfold putA; rw [if_pos rfl]
    simp [e1, evP]
  · rcases snoc_cases l with rfl | ⟨l', r, rfl⟩
    · rw [put_nil, if_neg hk]
      simp [line, evs, evP, hk, lvl, total]
    · rw [put_snoc, if_neg hk]
      have hr := hf r (by simp)
      by_cases hv : r.Level = v
      · rw [if_pos hv]
        subst hv
        simp only [line, List.map_append, List.map_cons, List.map_nil]
        rw [evs_append, evs_append, run_append, List.append_assoc, run_append]
        have e0 : total (l'.map fun r => (⟨sg c r.Level, r.Ticks⟩ : Run)) = total l' := line_total c l'
        have hf' : Fine (line c l') := line_fine c fun x hx => hf x (by simp [hx])
        have htl : total (l' ++ [r]) = total l' + r.Ticks := by rw [total_append, total_one]
        have hl0 := (fine_total (show Fine l' from fun x hx => hf x (by simp [hx]))).1
        have hacc := run_at c (line c l') s t ha hf' h0 (by rw [line_total]; omega)
        rw [line_total] at hacc
        have hacc' : Acc (runA 0 c s (evs t (l'.map fun r => (⟨sg c r.Level, r.Ticks⟩ : Run)))).1 (t + total l') := hacc
        generalize (runA 0 c s (evs t (l'.map fun r => (⟨sg c r.Level, r.Ticks⟩ : Run)))) = q at hacc' ⊢
        have hx := in_run c q.1 (t + total l') ⟨sg c r.Level, r.Ticks + k⟩ hacc' ⟨by dsimp only; omega, sg_level c _ hr.2⟩ ⟨by omega, by dsimp only; omega⟩
        have hcut := cut_run 0 c q.1 (Event.mk 1 (t + total l') (t + total l' + (r.Ticks + k)) (sg c r.Level) 0 (bs []) 0) (t + total l' + r.Ticks) hx ⟨by dsimp only; omega, by dsimp only; omega⟩
        rw [e0]
        have e1 : evs (t + total l') [(⟨sg c r.Level, r.Ticks + k⟩ : Run)] = [Event.mk 1 (t + total l') (t + total l' + (r.Ticks + k)) (sg c r.Level) 0 (bs []) 0] := rfl
        have e2 : evs (t + total l') [(⟨sg c r.Level, r.Ticks⟩ : Run)] ++ evP c (t + total (l' ++ [r])) [(r.Level, k)] = [Event.mk 1 (t + total l') (t + total l' + r.Ticks) (sg c r.Level) 0 (bs []) 0, Event.mk 1 (t + total l' + r.Ticks) (t + total l' + (r.Ticks + k)) (sg c r.Level) 0 (bs []) 0] := by
          simp only [evs, evP, if_neg hk, lvl, htl, List.cons_append, List.nil_append]
          simp only [Int.add_assoc]
        rw [e1, e2, ← hcut]
      · rw [if_neg hv]
        simp only [line, List.map_append, List.map_cons, List.map_nil]
        rw [evs_append]
        have e0 : total ((l'.map fun r => (⟨sg c r.Level, r.Ticks⟩ : Run)) ++ [⟨sg c r.Level, r.Ticks⟩]) = total (l' ++ [r]) := by
          rw [total_append, total_append, total_one, total_one]
          have := line_total c l'
          unfold line at this
          rw [this]
        rw [e0]
        simp [evs, evP, hk, lvl]
theorem join_all (c : Manchester) (s : State) (t : Int) (ha : Acc s t) (h0 : 0 ≤ t) : ∀ (ps : List (Int × Int)) (l : List Run), Fine l → FineP ps → t + total l + sumP ps ≤ 1099511627776 →
    runA 0 c s (evs t (line c (puts l ps))) = runA 0 c s (evs t (line c l) ++ evP c (t + total l) ps)
  | [], l, hf, _, _ => by simp [puts, evP]
  | p :: ps, l, hf, hp, ht => by
    obtain ⟨hp1, hp2⟩ := (fineP_cons p ps).1 hp
    have hs := sumP_nonneg hp2
    rw [sumP_cons] at ht
    have hpt := put_total l p.1 p.2
    have ih := join_all c s t ha h0 ps (putA l p.1 p.2) (put_fine hf p.1 p.2 hp1.1 hp1.2) hp2 (by omega)
    have h1 := join_one c s t l p ha hf h0 hp1 (by omega)
    rw [puts_cons, ih, run_append, h1, ← run_append, List.append_assoc]
    have e : evP c (t + total l) (p :: ps) = evP c (t + total l) [p] ++ evP c (t + total (putA l p.1 p.2)) ps := by
      rw [show p :: ps = [p] ++ ps from rfl, evP_append, hpt]
      have : sumP [p] = p.2 := by simp [sumP]
      rw [this, ← Int.add_assoc]
    rw [e]

/-! ### A signal's steps -/
def sigA (n d : Int) (s : State) (t k v : Int) : State × List Event :=
  if v = s.Prev then ({ s with Aux := 1, At := t + k }, []) else edgeA n d { s with Aux := 1, At := t + k, Prev := v } t
def runP (n d : Int) : State → Int → List (Int × Int) → State × List Event
  | s, _, [] => (s, [])
  | s, t, p :: ps => if p.2 = 0 then runP n d s t ps else
    ((runP n d (sigA n d s t p.2 p.1).1 (t + p.2) ps).1, (sigA n d s t p.2 p.1).2 ++ (runP n d (sigA n d s t p.2 p.1).1 (t + p.2) ps).2)
theorem sg_sg (c : Manchester) (v : Int) : sg c (sg c v) = v := by unfold sg; split <;> omega
theorem sig_at (n d : Int) (s : State) (t k v : Int) : (sigA n d s t k v).1.At = t + k := by
  unfold sigA
  split
  · rfl
  · exact (edge_prev n d { s with Aux := 1, At := t + k, Prev := v } t).2.2
theorem runP_is (c : Manchester) : ∀ (ps : List (Int × Int)) (s : State) (t : Int), Acc s t → FineP ps → 0 ≤ t → t + sumP ps ≤ 1099511627776 → runA 0 c s (evP c t ps) = runP c.T_Num c.T_Den s t ps
  | [], s, t, _, _, _, _ => rfl
  | p :: ps, s, t, ha, hp, h0, ht => by
    obtain ⟨hp1, hp2⟩ := (fineP_cons p ps).1 hp
    have hs := sumP_nonneg hp2
    rw [sumP_cons] at ht
    unfold evP runP
    by_cases hk : p.2 = 0
    · rw [if_pos hk, if_pos hk]
      exact runP_is c ps s t ha hp2 h0 (by omega)
    · rw [if_neg hk, if_neg hk]
      have hi := in_run c s t ⟨sg c p.1, p.2⟩ ha ⟨by dsimp only; omega, sg_level c _ hp1.2⟩ ⟨h0, by dsimp only; omega⟩
      have hstep : stepV 0 c s (lvl c t p.2 p.1) = sigA c.T_Num c.T_Den s t p.2 p.1 := by
        unfold stepV stepA sigA lvl
        rw [if_pos rfl, if_pos hi]
        simp only [sg_sg]
      simp only [runA, hstep]
      rw [runP_is c ps (sigA c.T_Num c.T_Den s t p.2 p.1).1 (t + p.2) (.inr (sig_at ..)) hp2 (by omega) (by omega)]
theorem runP_append (n d : Int) : ∀ (a b : List (Int × Int)) (s : State) (t : Int), runP n d s t (a ++ b) = ((runP n d (runP n d s t a).1 (t + sumP a) b).1, (runP n d s t a).2 ++ (runP n d (runP n d s t a).1 (t + sumP a) b).2)
  | [], b, s, t => by simp [runP, sumP]
  | p :: a, b, s, t => by
    simp only [List.cons_append, runP, sumP_cons]
    split
    · rename_i h
      rw [runP_append n d a b s t, h, Int.zero_add]
    · rw [runP_append n d a b _ (t + p.2)]
      simp [Int.add_assoc]

/-! ### Bits -/
/-- The state after the first accepted event. -/
def mkS (ph at_ fr pv : Int) : State := State.mk ph at_ fr 0 0 1 pv (bs [])
theorem tm_diff (n d j k : Int) (h : OkR n d) (hj : 0 ≤ j) (hk : j ≤ k) : (k - j) * n < 2 * ((tm n d k - tm n d j) * d) + 2 * d ∧ 2 * ((tm n d k - tm n d j) * d) < (k - j) * n + 2 * d := by
  have h1 := tm_bound n d j h hj
  have h2 := tm_bound n d k h (by omega)
  have e1 : (tm n d k - tm n d j) * d = d * tm n d k - d * tm n d j := by rw [Int.sub_mul, Int.mul_comm, Int.mul_comm (tm n d j)]
  have e2 : (k - j) * n = k * n - j * n := Int.sub_mul ..
  have e3 : 2 * d * tm n d k = 2 * (d * tm n d k) := Int.mul_assoc ..
  have e4 : 2 * d * tm n d j = 2 * (d * tm n d j) := Int.mul_assoc ..
  rw [e3] at h2
  rw [e4] at h1
  rw [e1, e2]
  omega
theorem edge_skip (n d ph at_ fr pv t : Int) (hph : ph = 1) (h1 : 4 * ((t - fr) * d) < 3 * n) (hn : 0 < n) : edgeA n d (mkS ph at_ fr pv) t = (mkS ph at_ fr pv, []) := by
  unfold edgeA mkS
  dsimp only
  rw [if_neg (by omega), if_pos h1]
theorem edge_bit (n d ph at_ fr pv t : Int) (hph : ph = 1) (h1 : 3 * n ≤ 4 * ((t - fr) * d)) (h2 : 4 * ((t - fr) * d) ≤ 5 * n) (hn : 0 < n) : edgeA n d (mkS ph at_ fr pv) t = (mkS 1 at_ t pv, [Event.mk 2 (fr + n / (2 * d)) t pv 0 (bs []) 0]) := by
  subst hph
  unfold edgeA mkS
  dsimp only
  rw [if_neg (by omega), if_neg (by omega), if_neg (by omega), if_neg (by omega)]
theorem edge_code (n d ph at_ fr pv t : Int) (hph : ph = 1) (h1 : 5 * n < 4 * ((t - fr) * d)) (h2 : (t - fr) * d < 2 * n) (hn : 0 < n) : edgeA n d (mkS ph at_ fr pv) t = (mkS 1 at_ t pv, [Event.mk 2 (fr + n / (2 * d)) t 0 0 (bs []) 5]) := by
  subst hph
  unfold edgeA mkS
  dsimp only
  rw [if_neg (by omega), if_neg (by omega), if_pos (by omega), if_pos (by omega)]
theorem edge_idle (n d ph at_ fr t : Int) (h : ph = 0 ∨ 2 * n ≤ (t - fr) * d) : edgeA n d (mkS ph at_ fr 1) t = (mkS 1 at_ t 1, []) := by
  unfold edgeA mkS
  dsimp only
  rw [if_pos (by omega), if_pos rfl]
theorem sig_same (n d ph at_ fr pv t k : Int) : sigA n d (mkS ph at_ fr pv) t k pv = (mkS ph (t + k) fr pv, []) := by
  unfold sigA mkS; rw [if_pos rfl]
theorem sig_edge (n d ph at_ fr pv t k v : Int) (h : v ≠ pv) : sigA n d (mkS ph at_ fr pv) t k v = edgeA n d (mkS ph (t + k) fr v) t := by
  unfold sigA mkS; rw [if_neg h]
/-- A bit behind another one. -/
theorem bit_run (n d : Int) (h : OkR n d) (T : Int) (k : Int) (hk : 0 ≤ k) (v w : Int) (hv : v = 0 ∨ v = 1) (hw : w = 0 ∨ w = 1) :
    runP n d (mkS 1 (T + tm n d (2 * k + 2)) (T + tm n d (2 * k + 1)) v) (T + tm n d (2 * k + 2)) [(1 - w, tm n d (2 * (k + 1) + 1) - tm n d (2 * (k + 1))), (w, tm n d (2 * (k + 1) + 2) - tm n d (2 * (k + 1) + 1))] =
    (mkS 1 (T + tm n d (2 * (k + 1) + 2)) (T + tm n d (2 * (k + 1) + 1)) w, [Event.mk 2 (T + tm n d (2 * k + 1) + n / (2 * d)) (T + tm n d (2 * (k + 1) + 1)) w 0 (bs []) 0]) := by
  have hn : 0 < n := by unfold OkR at h; omega
  have hd4 : 4 * d ≤ n := h.2.2.1
  have q := tm_two n d (k + 1) h (by omega)
  have q0 := tm_two n d k h hk
  have e0 : tm n d (2 * (k + 1)) = tm n d (2 * k + 2) := q0.2.2.1.symm
  have d1 := tm_diff n d (2 * k + 1) (2 * k + 2) h (by omega) (by omega)
  have d2 := tm_diff n d (2 * k + 1) (2 * (k + 1) + 1) h (by omega) (by omega)
  rw [show 2 * k + 2 - (2 * k + 1) = 1 by omega, Int.one_mul] at d1
  rw [show 2 * (k + 1) + 1 - (2 * k + 1) = 2 by omega] at d2
  rw [e0] at q ⊢
  have x1 : T + tm n d (2 * k + 2) - (T + tm n d (2 * k + 1)) = tm n d (2 * k + 2) - tm n d (2 * k + 1) := by omega
  have x2 : T + tm n d (2 * (k + 1) + 1) - (T + tm n d (2 * k + 1)) = tm n d (2 * (k + 1) + 1) - tm n d (2 * k + 1) := by omega
  have first : sigA n d (mkS 1 (T + tm n d (2 * k + 2)) (T + tm n d (2 * k + 1)) v) (T + tm n d (2 * k + 2)) (tm n d (2 * (k + 1) + 1) - tm n d (2 * k + 2)) (1 - w) = (mkS 1 (T + tm n d (2 * (k + 1) + 1)) (T + tm n d (2 * k + 1)) (1 - w), []) := by
    have e : T + tm n d (2 * k + 2) + (tm n d (2 * (k + 1) + 1) - tm n d (2 * k + 2)) = T + tm n d (2 * (k + 1) + 1) := by omega
    by_cases c : 1 - w = v
    · rw [c, sig_same, e]
    · rw [sig_edge _ _ _ _ _ _ _ _ _ c, e]
      refine edge_skip n d 1 _ _ _ _ rfl ?_ hn
      rw [x1]; omega
  simp only [runP]
  rw [if_neg (by omega), if_neg (by omega), first]
  dsimp only
  have e2 : T + tm n d (2 * k + 2) + (tm n d (2 * (k + 1) + 1) - tm n d (2 * k + 2)) = T + tm n d (2 * (k + 1) + 1) := by omega
  have e3 : T + tm n d (2 * (k + 1) + 1) + (tm n d (2 * (k + 1) + 2) - tm n d (2 * (k + 1) + 1)) = T + tm n d (2 * (k + 1) + 2) := by omega
  rw [e2, sig_edge _ _ _ _ _ _ _ _ _ (show w ≠ 1 - w by omega), e3, edge_bit n d 1 _ _ _ _ rfl (by rw [x2]; omega) (by rw [x2]; omega) hn]
  simp
def bitsE (n d T : Int) : List Int → Int → List Event
  | [], _ => []
  | w :: r, k => Event.mk 2 (T + tm n d (2 * k + 1) + n / (2 * d)) (T + tm n d (2 * (k + 1) + 1)) w 0 (bs []) 0 :: bitsE n d T r (k + 1)
theorem bits_run (n d : Int) (h : OkR n d) (T : Int) : ∀ (r : List Int) (k : Int) (v : Int), 0 ≤ k → (v = 0 ∨ v = 1) → Bits r →
    ∃ w, (w = 0 ∨ w = 1) ∧ runP n d (mkS 1 (T + tm n d (2 * k + 2)) (T + tm n d (2 * k + 1)) v) (T + tm n d (2 * k + 2)) (pulses n d r (k + 1)) =
    (mkS 1 (T + tm n d (2 * (k + r.length) + 2)) (T + tm n d (2 * (k + r.length) + 1)) w, bitsE n d T r k)
  | [], k, v, _, hv, _ => ⟨v, hv, by simp [pulses, runP, bitsE]⟩
  | x :: r, k, v, hk, hv, hb => by
    have hx := hb x List.mem_cons_self
    obtain ⟨w, hw, ih⟩ := bits_run n d h T r (k + 1) x (by omega) hx fun y hy => hb y (List.mem_cons_of_mem _ hy)
    have h1 := bit_run n d h T k hk v x hv hx
    refine ⟨w, hw, ?_⟩
    have e : pulses n d (x :: r) (k + 1) = [(1 - x, tm n d (2 * (k + 1) + 1) - tm n d (2 * (k + 1))), (x, tm n d (2 * (k + 1) + 2) - tm n d (2 * (k + 1) + 1))] ++ pulses n d r (k + 1 + 1) := rfl
    have q0 := tm_two n d k h hk
    have es : sumP [(1 - x, tm n d (2 * (k + 1) + 1) - tm n d (2 * (k + 1))), (x, tm n d (2 * (k + 1) + 2) - tm n d (2 * (k + 1) + 1))] = tm n d (2 * (k + 1) + 2) - tm n d (2 * k + 2) := by
      simp [sumP]; omega
    rw [e, runP_append, h1, es]
    dsimp only
    rw [show T + tm n d (2 * k + 2) + (tm n d (2 * (k + 1) + 2) - tm n d (2 * k + 2)) = T + tm n d (2 * (k + 1) + 2) by omega, ih]
    have el : k + 1 + (r.length : Int) = k + ((x :: r).length : Int) := by simp; omega
    rw [el]; rfl
/-- Nothing is sent: the signal is 0, and has been for two bits, or no middle is known. -/
def Rest (n d : Int) (s : State) (T : Int) : Prop := ∃ ph fr, s = mkS ph T fr 0 ∧ (ph = 0 ∨ (ph = 1 ∧ 4 * n ≤ 2 * ((T - fr) * d) + 2 * d))
def itemE (n d T : Int) (x : Item) : List Event := bitsE n d T (bitsI x).tail 0 ++ (if x.Fault = 5 then [Event.mk 2 (T + tm n d (2 * ((bitsI x).length - 1) + 1) + n / (2 * d)) (T + tm n d (2 * (bitsI x).length + 2)) 0 0 (bs []) 5] else [])
theorem zero_run (n d ph T fr k : Int) (hk : 0 ≤ k) : runP n d (mkS ph T fr 0) T [(0, k)] = (mkS ph (T + k) fr 0, []) := by
  simp only [runP]
  split
  · rename_i h
    have : k = 0 := h
    subst this
    simp
  · rw [sig_same]; simp
theorem item_run (n d : Int) (h : OkR n d) (x : Item) (hx : ItemOk x) (s : State) (T : Int) (hs : Rest n d s T) :
    ∃ s', runP n d s T (itemP n d x) = (s', itemE n d (T + x.Gap) x) ∧ Rest n d s' (T + sumP (itemP n d x)) := by
  have hn : 0 < n := by unfold OkR at h; omega
  have hd : 0 < d := by unfold OkR at h; omega
  have hd4 : 4 * d ≤ n := h.2.2.1
  obtain ⟨b1, b2, b3, b4⟩ := bitsI_spec x hx
  have hg := hx.gap
  -- the first bit is 1
  obtain ⟨r, hr⟩ : ∃ r, bitsI x = 1 :: r := by
    unfold bitsI
    split
    · rename_i hf
      have : 0 ≤ x.Aux ∧ x.Aux < x.Data.size := by have := hx.fault; omega
      rw [show (x.Aux + 1).toNat = x.Aux.toNat + 1 by omega, List.take_succ_cons]; exact ⟨_, rfl⟩
    · exact ⟨_, rfl⟩
  have hbr : Bits r := fun v hv => b1 v (by rw [hr]; exact List.mem_cons_of_mem _ hv)
  have hlen : (bitsI x).length = r.length + 1 := by rw [hr]; rfl
  obtain ⟨ph, fr, rfl, hph⟩ := hs
  have q0 := tm_two n d 0 h (by omega)
  have z0 := tm_zero n d
  simp only [Int.mul_zero, Int.zero_add] at q0
  rw [z0] at q0
  have t4 := tm_diff n d 0 4 h (by omega) (by omega)
  have t1 := tm_diff n d 0 1 h (by omega) (by omega)
  rw [z0] at t4 t1
  simp only [Int.sub_zero, Int.one_mul] at t4 t1
  obtain ⟨w, hw, hbits⟩ := bits_run n d h (T + x.Gap) r 0 1 (by omega) (.inr rfl) hbr
  simp only [Int.mul_zero, Int.zero_add] at hbits
  generalize hK : (r.length : Int) = K at *
  have hK0 : 0 ≤ K := by omega
  have qK := tm_two n d K h hK0
  have qK1 := tm_two n d (K + 1) h (by omega)
  have eK : tm n d (2 * (K + 1)) = tm n d (2 * K + 2) := qK.2.2.1.symm
  have dK1 := tm_diff n d (2 * K + 1) (2 * K + 2) h (by omega) (by omega)
  rw [show 2 * K + 2 - (2 * K + 1) = 1 by omega, Int.one_mul] at dK1
  have dK3 := tm_diff n d (2 * K + 1) (2 * (K + 1) + 2) h (by omega) (by omega)
  rw [show 2 * (K + 1) + 2 - (2 * K + 1) = 3 by omega] at dK3
  -- the parts
  have e0 : itemP n d x = [(0, x.Gap)] ++ ([(0, tm n d 1)] ++ ([(1, tm n d 2 - tm n d 1)] ++ (pulses n d r 1 ++ (faultP n d x (K + 1) ++ [(0, tm n d 4)])))) := by
    unfold itemP tailP
    rw [hlen, hr]
    simp only [pulses, Int.mul_zero, Int.zero_add, z0, Int.sub_zero, List.cons_append, List.nil_append, Int.sub_self, Int.natCast_add, Int.cast_ofNat_Int, hK]
  have s1 : sumP [((0 : Int), x.Gap)] = x.Gap := by simp [sumP]
  have s2 : sumP [((0 : Int), tm n d 1)] = tm n d 1 := by simp [sumP]
  have s3 : sumP [((1 : Int), tm n d 2 - tm n d 1)] = tm n d 2 - tm n d 1 := by simp [sumP]
  have s4 : sumP (pulses n d r 1) = tm n d (2 * K + 2) - tm n d 2 := by
    have := (pulses_fine n d h r 1 (by omega) hbr).2.1
    rw [this, hK, show 2 * (1 + K) = 2 * K + 2 by omega]; rfl
  have s5 : sumP [((0 : Int), tm n d 4)] = tm n d 4 := by simp [sumP]
  have r1 := zero_run n d ph T fr x.Gap hg.1
  have r2 := zero_run n d ph (T + x.Gap) fr (tm n d 1) (by omega)
  have r3 : runP n d (mkS ph (T + x.Gap + tm n d 1) fr 0) (T + x.Gap + tm n d 1) [(1, tm n d 2 - tm n d 1)] = (mkS 1 (T + x.Gap + tm n d 2) (T + x.Gap + tm n d 1) 1, []) := by
    simp only [runP]
    rw [if_neg (by omega), sig_edge _ _ _ _ _ _ _ _ _ (show (1 : Int) ≠ 0 by omega), edge_idle]
    · simp only [List.append_nil]
      rw [show T + x.Gap + tm n d 1 + (tm n d 2 - tm n d 1) = T + x.Gap + tm n d 2 by omega]
    · rcases hph with hph | ⟨_, hph⟩
      · exact .inl hph
      · refine .inr ?_
        have e : (T + x.Gap + tm n d 1 - fr) * d = (T - fr) * d + x.Gap * d + tm n d 1 * d := by
          rw [show T + x.Gap + tm n d 1 - fr = (T - fr) + x.Gap + tm n d 1 by omega, Int.add_mul, Int.add_mul]
        have hgd : 0 ≤ x.Gap * d := Int.mul_nonneg hg.1 (by omega)
        rw [e]; omega
  have hT2 : T + x.Gap + tm n d 1 + (tm n d 2 - tm n d 1) = T + x.Gap + tm n d 2 := by omega
  have hT3 : T + x.Gap + tm n d 2 + (tm n d (2 * K + 2) - tm n d 2) = T + x.Gap + tm n d (2 * K + 2) := by omega
  have tail : itemE n d (T + x.Gap) x = bitsE n d (T + x.Gap) r 0 ++ (if x.Fault = 5 then [Event.mk 2 (T + x.Gap + tm n d (2 * K + 1) + n / (2 * d)) (T + x.Gap + tm n d (2 * (K + 1) + 2)) 0 0 (bs []) 5] else []) := by
    unfold itemE
    rw [hlen, hr]
    simp only [List.tail_cons, Int.natCast_add, Int.cast_ofNat_Int, hK]
    rw [show K + 1 - 1 = K by omega]
  have hsum : sumP (itemP n d x) = x.Gap + tm n d (2 * K + 2) + sumP (faultP n d x (K + 1)) + tm n d 4 := by
    rw [e0]
    simp only [sumP_append, s1, s2, s3, s4, s5]
    omega
  rw [hsum, e0]
  simp only [runP_append, r1, r2, r3, s1, s2, s3, s4, hT2, hT3, hbits, List.nil_append]
  by_cases hf : x.Fault = 5
  · have ef : faultP n d x (K + 1) = [(1, tm n d (2 * (K + 1) + 2) - tm n d (2 * (K + 1)))] := by unfold faultP; rw [if_pos hf]
    have rf : runP n d (mkS 1 (T + x.Gap + tm n d (2 * K + 2)) (T + x.Gap + tm n d (2 * K + 1)) w) (T + x.Gap + tm n d (2 * K + 2)) [(1, tm n d (2 * (K + 1) + 2) - tm n d (2 * (K + 1)))] =
        (mkS 1 (T + x.Gap + tm n d (2 * (K + 1) + 2)) (T + x.Gap + tm n d (2 * K + 1)) 1, []) := by
      have e : T + x.Gap + tm n d (2 * K + 2) + (tm n d (2 * (K + 1) + 2) - tm n d (2 * K + 2)) = T + x.Gap + tm n d (2 * (K + 1) + 2) := by omega
      simp only [runP, eK]
      rw [if_neg (by omega)]
      by_cases c : w = 1
      · subst c; rw [sig_same, e]; simp
      · rw [sig_edge _ _ _ _ _ _ _ _ _ (Ne.symm c), e, edge_skip n d 1 _ _ _ _ rfl _ hn]
        · simp
        · rw [show T + x.Gap + tm n d (2 * K + 2) - (T + x.Gap + tm n d (2 * K + 1)) = tm n d (2 * K + 2) - tm n d (2 * K + 1) by omega]; omega
    have sf : sumP [((1 : Int), tm n d (2 * (K + 1) + 2) - tm n d (2 * (K + 1)))] = tm n d (2 * (K + 1) + 2) - tm n d (2 * K + 2) := by simp [sumP]; omega
    have r5 : runP n d (mkS 1 (T + x.Gap + tm n d (2 * (K + 1) + 2)) (T + x.Gap + tm n d (2 * K + 1)) 1) (T + x.Gap + tm n d (2 * (K + 1) + 2)) [(0, tm n d 4)] =
        (mkS 1 (T + x.Gap + tm n d (2 * (K + 1) + 2) + tm n d 4) (T + x.Gap + tm n d (2 * (K + 1) + 2)) 0, [Event.mk 2 (T + x.Gap + tm n d (2 * K + 1) + n / (2 * d)) (T + x.Gap + tm n d (2 * (K + 1) + 2)) 0 0 (bs []) 5]) := by
      simp only [runP]
      have h4 : ¬ tm n d 4 = 0 := fun e => by rw [e] at t4; omega
      rw [if_neg h4, sig_edge _ _ _ _ _ _ _ _ _ (show (0 : Int) ≠ 1 by omega), edge_code n d 1 _ _ _ _ rfl _ _ hn]
      · simp
      · rw [show T + x.Gap + tm n d (2 * (K + 1) + 2) - (T + x.Gap + tm n d (2 * K + 1)) = tm n d (2 * (K + 1) + 2) - tm n d (2 * K + 1) by omega]; omega
      · rw [show T + x.Gap + tm n d (2 * (K + 1) + 2) - (T + x.Gap + tm n d (2 * K + 1)) = tm n d (2 * (K + 1) + 2) - tm n d (2 * K + 1) by omega]; omega
    rw [ef]
    simp only [rf, sf, List.nil_append]
    rw [show T + x.Gap + tm n d (2 * K + 2) + (tm n d (2 * (K + 1) + 2) - tm n d (2 * K + 2)) = T + x.Gap + tm n d (2 * (K + 1) + 2) by omega, r5, tail, if_pos hf]
    refine ⟨_, rfl, 1, T + x.Gap + tm n d (2 * (K + 1) + 2), ?_, .inr ⟨rfl, ?_⟩⟩
    · rw [show T + (x.Gap + tm n d (2 * K + 2) + (tm n d (2 * (K + 1) + 2) - tm n d (2 * K + 2)) + tm n d 4) = T + x.Gap + tm n d (2 * (K + 1) + 2) + tm n d 4 by omega]
    · rw [show T + (x.Gap + tm n d (2 * K + 2) + (tm n d (2 * (K + 1) + 2) - tm n d (2 * K + 2)) + tm n d 4) - (T + x.Gap + tm n d (2 * (K + 1) + 2)) = tm n d 4 by omega]; omega
  · have ef : faultP n d x (K + 1) = [] := by unfold faultP; rw [if_neg hf]
    have h4 : ¬ tm n d 4 = 0 := fun e => by rw [e] at t4; omega
    have r5 : runP n d (mkS 1 (T + x.Gap + tm n d (2 * K + 2)) (T + x.Gap + tm n d (2 * K + 1)) w) (T + x.Gap + tm n d (2 * K + 2)) [(0, tm n d 4)] =
        (mkS 1 (T + x.Gap + tm n d (2 * K + 2) + tm n d 4) (T + x.Gap + tm n d (2 * K + 1)) 0, []) := by
      simp only [runP]
      rw [if_neg h4]
      by_cases c : w = 0
      · subst c; rw [sig_same]; simp
      · rw [sig_edge _ _ _ _ _ _ _ _ _ (Ne.symm c), edge_skip n d 1 _ _ _ _ rfl _ hn]
        · simp
        · rw [show T + x.Gap + tm n d (2 * K + 2) - (T + x.Gap + tm n d (2 * K + 1)) = tm n d (2 * K + 2) - tm n d (2 * K + 1) by omega]; omega
    rw [ef]
    have s0 : sumP ([] : List (Int × Int)) = 0 := rfl
    simp only [runP, s0, Int.add_zero, List.nil_append]
    have r5' := r5
    simp only [runP] at r5'
    rw [r5', tail, if_neg hf]
    refine ⟨_, rfl, 1, T + x.Gap + tm n d (2 * K + 1), ?_, .inr ⟨rfl, ?_⟩⟩
    · rw [show T + (x.Gap + tm n d (2 * K + 2) + tm n d 4) = T + x.Gap + tm n d (2 * K + 2) + tm n d 4 by omega]
    · have e : (T + (x.Gap + tm n d (2 * K + 2) + tm n d 4) - (T + x.Gap + tm n d (2 * K + 1))) * d = (tm n d (2 * K + 2) - tm n d (2 * K + 1)) * d + tm n d 4 * d := by
        rw [← Int.add_mul]; congr 1; omega
      rw [e]; omega
def allE (n d : Int) : Int → List Item → List Event
  | _, [] => []
  | T, x :: l => itemE n d (T + x.Gap) x ++ allE n d (T + sumP (itemP n d x)) l
theorem items_run (n d : Int) (h : OkR n d) : ∀ (l : List Item) (s : State) (T : Int), (∀ x, x ∈ l → ItemOk x) → Rest n d s T → (runP n d s T (l.flatMap (itemP n d))).2 = allE n d T l
  | [], s, T, _, _ => rfl
  | x :: l, s, T, hl, hs => by
    obtain ⟨s', h1, h2⟩ := item_run n d h x (hl x List.mem_cons_self) s T hs
    rw [List.flatMap_cons, runP_append, h1]
    simp only [allE, items_run n d h l s' _ (fun y hy => hl y (List.mem_cons_of_mem _ hy)) h2]
end Go.Abs.K
