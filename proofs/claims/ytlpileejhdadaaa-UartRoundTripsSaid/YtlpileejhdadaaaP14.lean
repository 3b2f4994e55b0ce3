/- UART: what is read of an item's samples. -/
import Derived.Test.YtlpileejhdadaaaP12
set_option linter.unusedVariables false
set_option linter.unusedSimpArgs false
namespace Go.Abs.K
open Go Go.Abs Go.Proofs

def sN (n st p q V : Nat) : Nat := base n st p V + p * q * 2 ^ (1 + n)
def test2 (n st p q V : Nat) : Bool :=
  sN n st p q V % 2 == 0 && sN n st p q V / 2 % 2 ^ n == V && sN n st p q V / 2 ^ (1 + n + p) == 2 ^ st - 1 && (p == 0 || sN n st p q V / 2 ^ (1 + n) % 2 == q) && sN n st p q V / 2 ^ (n + st + p) % 2 == 1 && Nat.blt (sN n st p q V) (2 ^ (1 + n + st + p)) &&
  (sN n st p q V - 2 ^ (n + st + p)) % 2 == 0 && (sN n st p q V - 2 ^ (n + st + p)) / 2 % 2 ^ n == V && !((sN n st p q V - 2 ^ (n + st + p)) / 2 ^ (1 + n + p) == 2 ^ st - 1) && (sN n st p q V - 2 ^ (n + st + p)) / 2 ^ (n + st + p) % 2 == 0
theorem test2_tab : ((List.range 5).all fun n => (List.range 2).all fun st => (List.range 2).all fun p => (List.range 2).all fun q => (List.range (2 ^ (n + 5))).all fun V => test2 (n + 5) (st + 1) p q V) = true := by kernel_rfl
theorem test2_is (n st p q V : Nat) (hn : 5 ≤ n ∧ n ≤ 9) (hs : 1 ≤ st ∧ st ≤ 2) (hp : p ≤ 1) (hq : q ≤ 1) (hV : V < 2 ^ n) : test2 n st p q V = true := by
  have h := test2_tab
  have h := List.all_eq_true.1 h (n - 5) (List.mem_range.2 (by omega))
  have h := List.all_eq_true.1 h (st - 1) (List.mem_range.2 (by omega))
  have h := List.all_eq_true.1 h p (List.mem_range.2 (by omega))
  have h := List.all_eq_true.1 h q (List.mem_range.2 (by omega))
  have h := List.all_eq_true.1 h V (List.mem_range.2 (by rw [show n - 5 + 5 = n by omega]; exact hV))
  rw [show n - 5 + 5 = n by omega, show st - 1 + 1 = st by omega] at h
  exact h
structure Sm (c : Uart) (x : Item) : Prop where
  low : smpA c x % 2 = 0
  top : smpA c x / pw (tot c - 1) % 2 = if x.Aux = 1 ∨ x.Fault = 1 then 0 else 1
  lt : 0 ≤ smpA c x ∧ smpA c x < pw (tot c)
  val : x.Aux ≠ 1 → smpA c x / 2 % pw c.Bits = x.Value ∧ fltA c (smpA c x) = x.Fault
theorem sm_is (c : Uart) (h : OkU c) (x : Item) (hx : VOk c x) (hA1 : x.Aux = 1 → x.Fault = 0) : Sm c x := by
  have hc := h
  unfold OkU at hc
  obtain ⟨n, hn⟩ := Int.eq_ofNat_of_zero_le (show 0 ≤ c.Bits by omega)
  obtain ⟨st, hst⟩ := Int.eq_ofNat_of_zero_le (show 0 ≤ c.Stop by omega)
  obtain ⟨V, hV⟩ := Int.eq_ofNat_of_zero_le hx.val.1
  have hVl : V < 2 ^ n := by
    have := hx.val.2
    rw [hV, hn] at this
    rw [show ((n : Nat) : Int) = (n : Int) from rfl, pwn] at this
    exact_mod_cast this
  have hp1 : pN c ≤ 1 := by unfold pN; split <;> omega
  have htot : tot c = ((1 + n + st + pN c : Nat) : Int) := by
    unfold tot pN
    rw [hn, hst]
    split <;> simp
  obtain ⟨b1, b2, b3, b4, b5, b6, b7⟩ := base_b n st (pN c) V (by omega) (by omega) hp1 hVl
  obtain ⟨q1, q2⟩ := par_b c V
  have hpo1 : 1 ≤ 2 ^ (n + st + pN c) := Nat.one_le_two_pow
  have hpt : 1 ≤ 2 ^ (1 + n + st + pN c) := Nat.one_le_two_pow
  have ht1 : tot c - 1 = ((n + st + pN c : Nat) : Int) := by rw [htot]; simp; omega
  have hts : tot c - c.Stop = ((1 + n + pN c : Nat) : Int) := by rw [htot, hst]; simp; omega
  have h1n : 1 + c.Bits = ((1 + n : Nat) : Int) := by rw [hn]; simp
  let Q : Nat := if x.Fault = 2 then 1 - parN c V else parN c V
  have hQ : Q ≤ 1 := by show (if x.Fault = 2 then 1 - parN c V else parN c V) ≤ 1; split <;> omega
  have hsN : smpN c x = sN n st (pN c) Q V := by
    unfold smpN sN; rw [hn, hst, hV]; rfl
  have hsh : 2 ^ (c.Bits.toNat + c.Stop.toNat + pN c) = 2 ^ (n + st + pN c) := by rw [hn, hst]; rfl
  have t := test2_is n st (pN c) Q V (by omega) (by omega) hp1 hQ hVl
  unfold test2 at t
  simp only [Bool.and_eq_true, Bool.or_eq_true, beq_iff_eq, Bool.not_eq_true', Nat.blt_eq] at t
  obtain ⟨⟨⟨⟨⟨⟨⟨⟨⟨t1, t2⟩, t3⟩, t4⟩, t5⟩, t6⟩, t7⟩, t8⟩, t9⟩, t10⟩ := t
  have t9 : ¬ (sN n st (pN c) Q V - 2 ^ (n + st + pN c)) / 2 ^ (1 + n + pN c) = 2 ^ st - 1 := by simpa using t9
  have hst2 : 1 ≤ 2 ^ st := Nat.one_le_two_pow
  have hsA : smpA c x = if x.Aux = 1 then 0 else if x.Fault = 1 then ((sN n st (pN c) Q V - 2 ^ (n + st + pN c) : Nat) : Int) else (sN n st (pN c) Q V : Int) := by
    unfold smpA; rw [hsN, hsh]
  generalize sN n st (pN c) Q V = S at *
  by_cases hA : x.Aux = 1
  · have e : smpA c x = 0 := by rw [hsA, if_pos hA]
    refine ⟨by rw [e]; rfl, ?_, ?_, fun hh => absurd hA hh⟩
    · rw [e, if_pos (.inl hA), Int.zero_ediv]; rfl
    · rw [e, htot, pwn]; exact ⟨Int.le_refl _, by omega⟩
  · by_cases hF : x.Fault = 1
    · have e : smpA c x = ((S - 2 ^ (n + st + pN c) : Nat) : Int) := by rw [hsA, if_neg hA, if_pos hF]
      generalize hR : S - 2 ^ (n + st + pN c) = R at *
      refine ⟨by rw [e]; omega, ?_, ?_, fun _ => ⟨?_, ?_⟩⟩
      · rw [e, if_pos (.inr hF), ht1, pwn]; exact_mod_cast t10
      · rw [e, htot, pwn]; exact ⟨by omega, by omega⟩
      · rw [e, hn, pwn, hV]; exact_mod_cast t8
      · unfold fltA
        rw [e, hts, hst, pwn, pwn, if_neg, hF]
        intro hh
        apply t9
        rw [show ((2 ^ st : Nat) : Int) - 1 = ((2 ^ st - 1 : Nat) : Int) by omega] at hh
        exact_mod_cast hh
    · have e : smpA c x = (S : Int) := by rw [hsA, if_neg hA, if_neg hF]
      refine ⟨by rw [e]; omega, ?_, ?_, fun _ => ⟨?_, ?_⟩⟩
      · rw [e, if_neg (fun hh => hh.elim hA hF), ht1, pwn]; exact_mod_cast t5
      · rw [e, htot, pwn]; exact ⟨by omega, by omega⟩
      · rw [e, hn, pwn, hV]; exact_mod_cast t2
      · have hs3 : (S : Int) / ((2 ^ (1 + n + pN c) : Nat) : Int) = ((2 ^ st : Nat) : Int) - 1 := by
          rw [show ((2 ^ st : Nat) : Int) - 1 = ((2 ^ st - 1 : Nat) : Int) by omega]
          exact_mod_cast t3
        have hval : (S : Int) / 2 % ((2 ^ n : Nat) : Int) = (V : Int) := by exact_mod_cast t2
        unfold fltA
        rw [e, hts, h1n, hst, hn, pwn, pwn, pwn, pwn, if_pos hs3, hval, Int.toNat_natCast]
        by_cases hp0 : c.Parity = 0
        · have : ¬ x.Fault = 2 := fun hh => hx.par hh hp0
          rw [if_pos hp0]
          have := hx.flt
          omega
        · have hpn : pN c = 1 := by unfold pN; rw [if_neg hp0]
          have hq : (S : Int) / ((2 ^ (1 + n) : Nat) : Int) % 2 = (Q : Int) := by
            rcases t4 with t4 | t4
            · omega
            · exact_mod_cast t4
          have hpar : parN c V = (popN 9 V + (c.Parity - 1).toNat) % 2 := by unfold parN; rw [if_neg hp0]
          rw [if_neg hp0, hq]
          by_cases hf2 : x.Fault = 2
          · have hQv : Q = 1 - parN c V := by show (if x.Fault = 2 then _ else _) = _; rw [if_pos hf2]
            rw [if_neg (by omega), hf2]
          · have hQv : Q = parN c V := by show (if x.Fault = 2 then _ else _) = _; rw [if_neg hf2]
            rw [if_pos (by omega)]
            have := hx.flt
            omega
theorem ev_is (c : Uart) (h : OkU c) (x : Item) (hx : VOk c x) (hA1 : x.Aux = 1 → x.Fault = 0) (hnz : x.Aux ≠ 1 → smpA c x ≠ 0) (f : Int) : evA c f (smpA c x) = if x.Aux = 1 then Event.mk 4 f (toA c f) 1 0 (bs []) x.Fault else Event.mk 3 f (toA c f) x.Value 0 (bs []) x.Fault := by
  have hs := sm_is c h x hx hA1
  unfold evA
  by_cases hA : x.Aux = 1
  · have e : smpA c x = 0 := by unfold smpA; rw [if_pos hA]
    rw [if_pos e, if_pos hA, hA1 hA]
  · obtain ⟨v1, v2⟩ := hs.val hA
    rw [if_neg (hnz hA), if_neg hA, v1, v2]
end Go.Abs.K
/- UART: what is sent is read again. -/
set_option linter.unusedVariables false
set_option linter.unusedSimpArgs false
namespace Go.Abs.K
open Go Go.Abs Go.Proofs

def lev (t u v : Int) : Event := Event.mk 1 t u v 0 (bs []) 0
theorem lev_in (a : A) (t u v : Int) (h1 : 0 ≤ t ∧ t < u ∧ u ≤ 1099511627776) (hv : v = 0 ∨ v = 1) (ha : a.ph = 0 ∨ a.at_ = t) : In a (lev t u v) := by
  refine ⟨?_, rfl, rfl, h1.2.1, by show 0 ≤ v; omega, by show v ≤ 1; omega, ?_⟩
  · unfold Vld lev
    simp only
    refine ⟨by omega, by omega, by omega, by omega, by omega, by omega, by omega, by omega, by omega, ?_⟩
    decide
  · rcases ha with h | h
    · exact .inl h
    · exact .inr h.symm
def evs (t : Int) : List Run → List Event
  | [] => []
  | r :: l => lev t (t + r.Ticks) r.Level :: evs (t + r.Ticks) l
theorem evs_append : ∀ (a b : List Run) (t : Int), evs t (a ++ b) = evs t a ++ evs (t + total a) b
  | [], b, t => by simp [evs, total]
  | r :: a, b, t => by
    have e : total (r :: a) = r.Ticks + total a := by simp [total]
    simp only [List.cons_append, evs, evs_append a b, e]
    rw [show t + r.Ticks + total a = t + (r.Ticks + total a) by omega]
theorem stepA_in (c : Uart) (a : A) (t u v : Int) (h1 : 0 ≤ t ∧ t < u ∧ u ≤ 1099511627776) (hv : v = 0 ∨ v = 1) (ha : a.ph = 0 ∨ a.at_ = t) : stepA c 0 a (lev t u v) = stepB c a (lev t u v) := by
  unfold stepA; rw [if_pos ⟨rfl, lev_in a t u v h1 hv ha⟩]
theorem evs_at (c : Uart) (h : OkU c) : ∀ (l : List Run) (t : Int) (a : A), Fine l → WfA c a → (a.ph = 0 ∧ t = 0 ∨ a.at_ = t) → 0 ≤ t → t + total l ≤ 1099511627776 → ((runA c 0 a (evs t l)).1.ph = 0 ∨ (runA c 0 a (evs t l)).1.at_ = t + total l) ∧ WfA c (runA c 0 a (evs t l)).1
  | [], t, a, _, hw, hs, _, _ => by
    refine ⟨?_, hw⟩
    show a.ph = 0 ∨ a.at_ = t + 0
    omega
  | r :: l, t, a, hf, hw, hs, ht, hb => by
    have hr := hf r List.mem_cons_self
    have hf' : Fine l := fun x hx => hf x (List.mem_cons_of_mem _ hx)
    have ht' := (fine_total hf').1
    have e : total (r :: l) = r.Ticks + total l := by simp [total]
    have hi := lev_in a t (t + r.Ticks) r.Level ⟨ht, by omega, by omega⟩ (by omega) (by omega)
    have hst := stepA_in c a t (t + r.Ticks) r.Level ⟨ht, by omega, by omega⟩ (by omega) (by omega)
    obtain ⟨w1, w2, w3, w4⟩ := stepB_wf c h a _ hi hw
    have ih := evs_at c h l (t + r.Ticks) (stepB c a (lev t (t + r.Ticks) r.Level)).1 hf' w1 (.inr w3) (by omega) (by omega)
    rw [e, show t + (r.Ticks + total l) = t + r.Ticks + total l by omega]
    have e2 : (runA c 0 a (evs t (r :: l))).1 = (runA c 0 (stepB c a (lev t (t + r.Ticks) r.Level)).1 (evs (t + r.Ticks) l)).1 := by
      show (runA c 0 (stepA c 0 a (lev t (t + r.Ticks) r.Level)).1 (evs (t + r.Ticks) l)).1 = _
      rw [hst]
    rw [e2]
    exact ih
theorem fine_append {a b : List Run} : Fine (a ++ b) ↔ Fine a ∧ Fine b := by
  unfold Fine
  simp only [List.mem_append]
  exact ⟨fun h => ⟨fun r hr => h r (.inl hr), fun r hr => h r (.inr hr)⟩, fun h r hr => hr.elim (h.1 r) (h.2 r)⟩
theorem put_run (c : Uart) (h : OkU c) (l : List Run) (v t : Int) (hf : Fine l) (ht : 1 ≤ t) (hv : v = 0 ∨ v = 1) (hb : total l + t ≤ 1099511627776) : runA c 0 a0 (evs 0 (putA l v t)) = runA c 0 a0 (evs 0 l ++ [lev (total l) (total l + t) v]) := by
  have h0 : ¬ t = 0 := by omega
  rcases snoc_cases l with rfl | ⟨q, r, rfl⟩
  · rw [put_nil, if_neg h0]
    rfl
  · rw [put_snoc, if_neg h0]
    obtain ⟨f1, f2⟩ := fine_append.1 hf
    have hr := f2 r List.mem_cons_self
    have hq := (fine_total f1).1
    have e1 : total (q ++ [r]) = total q + r.Ticks := by rw [total_append, total_one]
    by_cases c1 : r.Level = v
    · rw [if_pos c1, evs_append, evs_append]
      rw [e1] at hb ⊢
      obtain ⟨g1, g2⟩ := evs_at c h q 0 a0 f1 (wf0 c) (.inl ⟨rfl, rfl⟩) (by omega) (by omega)
      rw [Int.zero_add] at g1
      simp only [evs, Int.zero_add, List.append_assoc, List.singleton_append]
      rw [runA_append, runA_append]
      have hi := lev_in (runA c 0 a0 (evs 0 q)).1 (total q) (total q + (r.Ticks + t)) v ⟨hq, by omega, by omega⟩ hv g1
      have key := cut_run c h (runA c 0 a0 (evs 0 q)).1 (lev (total q) (total q + (r.Ticks + t)) v) r.Ticks hi g2
      have hcut : cutE r.Ticks (lev (total q) (total q + (r.Ticks + t)) v) = [lev (total q) (total q + r.Ticks) v, lev (total q + r.Ticks) (total q + (r.Ticks + t)) v] := by
        unfold cutE
        rw [if_pos ⟨by omega, rfl, by show total q ≥ 0; omega, by show total q + (r.Ticks + t) > total q; omega, by show total q + (r.Ticks + t) - total q > r.Ticks; omega⟩]
        rfl
      rw [hcut] at key
      rw [c1, show total q + r.Ticks + t = total q + (r.Ticks + t) by omega, key]
    · rw [if_neg c1, evs_append]
      simp only [evs, Int.zero_add]
def pev (t : Int) : List (Int × Int) → List Event
  | [] => []
  | p :: ps => if p.2 = 0 then pev t ps else lev t (t + p.2) p.1 :: pev (t + p.2) ps
theorem pev_append : ∀ (a b : List (Int × Int)) (t : Int), pev t (a ++ b) = pev t a ++ pev (t + sumP a) b
  | [], b, t => by simp [pev, sumP]
  | p :: a, b, t => by
    simp only [List.cons_append, pev, sumP_cons]
    by_cases h : p.2 = 0
    · rw [if_pos h, if_pos h, pev_append a b, h, Int.zero_add]
    · rw [if_neg h, if_neg h, pev_append a b, List.cons_append, show t + p.2 + sumP a = t + (p.2 + sumP a) by omega]
theorem ps_sum {ps : List (Int × Int)} (h : Ps ps) : 0 ≤ sumP ps := sumP_nonneg fun p hp => by have := h p hp; omega
theorem puts_run (c : Uart) (h : OkU c) : ∀ (ps : List (Int × Int)) (L : List Run), Ps ps → Fine L → total L + sumP ps ≤ 1099511627776 → runA c 0 a0 (evs 0 (puts L ps)) = runA c 0 a0 (evs 0 L ++ pev (total L) ps)
  | [], L, _, _, _ => by simp [puts, pev]
  | p :: ps, L, hp, hf, hb => by
    obtain ⟨p1, p2⟩ := (ps_cons p ps).1 hp
    have hs := ps_sum p2
    rw [sumP_cons] at hb
    by_cases h0 : p.2 = 0
    · have e : putA L p.1 p.2 = L := by unfold putA; rw [if_pos h0]
      have e2 : pev (total L) (p :: ps) = pev (total L) ps := by simp only [pev, if_pos h0]
      rw [puts_cons, e, e2]
      exact puts_run c h ps L p2 hf (by omega)
    · have hfp := put_fine hf p.1 p.2 (by omega) (by omega)
      have hpt := put_total L p.1 p.2
      have ih := puts_run c h ps (putA L p.1 p.2) p2 hfp (by omega)
      have pr := put_run c h L p.1 p.2 hf (by omega) p1.1 (by omega)
      have e2 : pev (total L) (p :: ps) = lev (total L) (total L + p.2) p.1 :: pev (total L + p.2) ps := by simp only [pev, if_neg h0]
      rw [puts_cons, ih, runA_append, pr, ← runA_append, hpt, e2]
      simp only [List.append_assoc, List.singleton_append]

/-! ### One item -/
theorem hv_step (c : Uart) (h : OkU c) (n : Int) : hv c n + 2 ≤ hv c (n + 1) := by
  unfold OkU at h
  unfold hv
  refine Int.le_ediv_of_mul_le (by omega) ?_
  have h1 := Int.ediv_mul_le (n * c.T_Num) (show (2 * c.T_Den) ≠ 0 by omega)
  rw [Int.add_mul (n * c.T_Num / (2 * c.T_Den)), Int.add_mul n]
  omega
theorem mod_s (s k : Int) (hk : 0 ≤ k ∧ k ≤ 12) : s % pw k + s / pw k % 2 * pw k = s % pw (k + 1) := by
  have hp := pw_b k (by omega)
  rw [pw_s k hk.1]
  generalize pw k = P at *
  have h1 := Int.mul_ediv_add_emod s P
  have h2 := Int.mul_ediv_add_emod s (2 * P)
  have h3 : s / (2 * P) = s / P / 2 := by rw [Int.mul_comm, ← Int.ediv_ediv_of_nonneg (by omega)]
  rw [h3] at h2
  have h4 : s / P = 2 * (s / P / 2) + s / P % 2 := by omega
  generalize s / P / 2 = q at *
  generalize s / P % 2 = r at *
  rw [h4] at h1
  have h5 : P * (2 * q + r) = 2 * P * q + r * P := by
    rw [Int.mul_add, Int.mul_comm P r, ← Int.mul_assoc, Int.mul_comm P 2]
  omega
theorem go_one (c : Uart) (h : OkU c) (s : Int) (hs0 : s % 2 = 0) (a : A) (k : Nat) (hk : (k : Int) < tot c) (t0 : Int) (h1 : a.frm = t0) (h2 : a.cnt = k) (h3 : a.acc = s % pw (k : Int)) (t : Int) :
    go c a (lev t (t0 + hv c (2 * (k : Int) + 2)) (s / pw (k : Int) % 2)) = if (k : Int) + 1 < tot c then ({ a with ph := 2, at_ := t0 + hv c (2 * (k : Int) + 2), cnt := (k : Int) + 1, acc := s % pw ((k : Int) + 1) }, []) else ({ a with ph := if s / pw (k : Int) % 2 = 1 then 1 else 3, at_ := t0 + hv c (2 * (k : Int) + 2), cnt := (k : Int) + 1, acc := s % pw ((k : Int) + 1) }, [evA c t0 (s % pw ((k : Int) + 1))]) := by
  have ht := tot_b c h
  have g1 := hv_step c h (2 * (k : Int) + 1)
  rw [show 2 * (k : Int) + 1 + 1 = 2 * (k : Int) + 2 by omega] at g1
  have g2 := hv_step c h (2 * (k : Int) + 2)
  have hm := mod_s s (k : Int) (by omega)
  obtain ⟨N, hN⟩ : ∃ N, (tot c - (k : Int)).toNat = N + 1 := ⟨(tot c - (k : Int)).toNat - 1, by omega⟩
  have hz : ¬ ((k : Int) = 0 ∧ s / pw (k : Int) % 2 = 1) := by
    rintro ⟨q1, q2⟩
    rw [q1, pw0, Int.ediv_one] at q2
    omega
  have hsl : sampL c t0 (t0 + hv c (2 * (k : Int) + 2)) (s / pw (k : Int) % 2) (N + 1) (k : Int) (s % pw (k : Int)) = if (k : Int) + 1 < tot c then (2, (k : Int) + 1, s % pw ((k : Int) + 1), []) else (if s / pw (k : Int) % 2 = 1 then 1 else 3, (k : Int) + 1, s % pw ((k : Int) + 1), [evA c t0 (s % pw ((k : Int) + 1))]) := by
    show (if _ then _ else _) = _
    rw [if_pos (by omega), if_neg hz, hm]
    by_cases c3 : (k : Int) + 1 < tot c
    · rw [if_pos c3, if_pos c3]
      obtain ⟨N', rfl⟩ : ∃ N', N = N' + 1 := ⟨N - 1, by omega⟩
      show (if t0 + hv c (2 * ((k : Int) + 1) + 1) < t0 + hv c (2 * (k : Int) + 2) then _ else _) = _
      rw [if_neg]
      rw [show 2 * ((k : Int) + 1) + 1 = 2 * (k : Int) + 2 + 1 by omega]
      omega
    · rw [if_neg c3, if_neg c3]
  have hgo : go c a (lev t (t0 + hv c (2 * (k : Int) + 2)) (s / pw (k : Int) % 2)) = ({ a with ph := (sampL c t0 (t0 + hv c (2 * (k : Int) + 2)) (s / pw (k : Int) % 2) (N + 1) (k : Int) (s % pw (k : Int))).1, at_ := t0 + hv c (2 * (k : Int) + 2), cnt := (sampL c t0 (t0 + hv c (2 * (k : Int) + 2)) (s / pw (k : Int) % 2) (N + 1) (k : Int) (s % pw (k : Int))).2.1, acc := (sampL c t0 (t0 + hv c (2 * (k : Int) + 2)) (s / pw (k : Int) % 2) (N + 1) (k : Int) (s % pw (k : Int))).2.2.1 }, (sampL c t0 (t0 + hv c (2 * (k : Int) + 2)) (s / pw (k : Int) % 2) (N + 1) (k : Int) (s % pw (k : Int))).2.2.2) := by
    unfold go
    rw [h1, h2, h3, hN]
    rfl
  rw [hgo, hsl]
  by_cases c3 : (k : Int) + 1 < tot c
  · rw [if_pos c3, if_pos c3]
  · rw [if_neg c3, if_neg c3]
theorem go_next (c : Uart) (a : A) (e : Event) (h2 : a.ph = 2) : stepB c a e = go c a e := by unfold stepB; rw [if_pos h2]
/-- The samples from k on. -/
theorem smp_run (c : Uart) (h : OkU c) (s : Int) (hs0 : s % 2 = 0) (hs1 : 0 ≤ s ∧ s < pw (tot c)) (t0 : Int) (ht0 : 0 ≤ t0) : ∀ (n k : Nat) (a : A), (k : Int) + (n + 1 : Nat) = tot c → (a.ph = 2 ∧ a.frm = t0 ∧ a.cnt = k ∧ a.acc = s % pw (k : Int) ∧ a.at_ = t0 + hv c (2 * (k : Int))) → t0 + hv c (2 * tot c) ≤ 1099511627776 →
    (runA c 0 a (pev (t0 + hv c (2 * (k : Int))) (smpP c s (n + 1) (k : Int)))).2 = [evA c t0 s] ∧ (runA c 0 a (pev (t0 + hv c (2 * (k : Int))) (smpP c s (n + 1) (k : Int)))).1.ph = (if s / pw (tot c - 1) % 2 = 1 then 1 else 3) ∧ (runA c 0 a (pev (t0 + hv c (2 * (k : Int))) (smpP c s (n + 1) (k : Int)))).1.at_ = t0 + hv c (2 * tot c)
  | n, k, a, hk, ⟨a1, a2, a3, a4, a5⟩, hT => by
    have ht := tot_b c h
    have hb0 := (hv_b c h (2 * (k : Int)) (by omega)).2.2.1
    have m1 := hv_mono c h (2 * (k : Int) + 2) (2 * tot c) (by omega)
    have g1 := hv_step c h (2 * (k : Int))
    have g2 := hv_step c h (2 * (k : Int) + 1)
    rw [show 2 * (k : Int) + 1 + 1 = 2 * (k : Int) + 2 by omega] at g2
    have hd : dl c (k : Int) = hv c (2 * (k : Int) + 2) - hv c (2 * (k : Int)) := rfl
    have hdn : ¬ dl c (k : Int) = 0 := by omega
    have hv2 : s / pw (k : Int) % 2 = 0 ∨ s / pw (k : Int) % 2 = 1 := by omega
    have one := go_one c h s hs0 a k (by omega) t0 a2 a3 a4 (t0 + hv c (2 * (k : Int)))
    have hst : stepA c 0 a (lev (t0 + hv c (2 * (k : Int))) (t0 + hv c (2 * (k : Int) + 2)) (s / pw (k : Int) % 2)) = go c a (lev (t0 + hv c (2 * (k : Int))) (t0 + hv c (2 * (k : Int) + 2)) (s / pw (k : Int) % 2)) := by
      rw [stepA_in c a _ _ _ ⟨by omega, by omega, by omega⟩ hv2 (.inr a5)]
      exact go_next c a _ a1
    have hpe : pev (t0 + hv c (2 * (k : Int))) (smpP c s (n + 1) (k : Int)) = lev (t0 + hv c (2 * (k : Int))) (t0 + hv c (2 * (k : Int) + 2)) (s / pw (k : Int) % 2) :: pev (t0 + hv c (2 * (k : Int) + 2)) (smpP c s n ((k : Int) + 1)) := by
      simp only [smpP, pev, if_neg hdn]
      rw [hd, show t0 + hv c (2 * (k : Int)) + (hv c (2 * (k : Int) + 2) - hv c (2 * (k : Int))) = t0 + hv c (2 * (k : Int) + 2) by omega]
    rw [hpe]
    simp only [runA, hst, one]
    match n with
    | 0 =>
      have hk1 : (k : Int) + 1 = tot c := by omega
      rw [if_neg (show ¬ (k : Int) + 1 < tot c by omega)]
      have e0 : pev (t0 + hv c (2 * (k : Int) + 2)) (smpP c s 0 ((k : Int) + 1)) = [] := rfl
      rw [e0]
      simp only [runA, List.append_nil]
      rw [hk1, Int.emod_eq_of_lt hs1.1 hs1.2, show tot c - 1 = (k : Int) by omega, show 2 * tot c = 2 * (k : Int) + 2 by omega]
      exact ⟨rfl, rfl, rfl⟩
    | n + 1 =>
      rw [if_pos (show (k : Int) + 1 < tot c by omega)]
      have ih := smp_run c h s hs0 hs1 t0 ht0 n (k + 1) { a with ph := 2, at_ := t0 + hv c (2 * (k : Int) + 2), cnt := (k : Int) + 1, acc := s % pw ((k : Int) + 1) } (by omega) ⟨rfl, a2, by show (k : Int) + 1 = _; omega, by show s % pw ((k : Int) + 1) = _; rw [show ((k + 1 : Nat) : Int) = (k : Int) + 1 by omega], by show t0 + hv c (2 * (k : Int) + 2) = _; rw [show 2 * ((k + 1 : Nat) : Int) = 2 * (k : Int) + 2 by omega]⟩ hT
      rw [show 2 * ((k + 1 : Nat) : Int) = 2 * (k : Int) + 2 by omega, show ((k + 1 : Nat) : Int) = (k : Int) + 1 by omega] at ih
      simp only [List.nil_append]
      exact ih
end Go.Abs.K
