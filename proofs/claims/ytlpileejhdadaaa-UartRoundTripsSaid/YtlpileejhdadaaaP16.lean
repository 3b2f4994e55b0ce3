/- UART: the round trip. -/
import Derived.Test.YtlpileejhdadaaaP14
set_option linter.unusedVariables false
set_option linter.unusedSimpArgs false
namespace Go.Abs.K
open Go Go.Abs Go.Proofs

theorem hv_zero (c : Uart) : hv c 0 = 0 := by unfold hv; rw [Int.zero_mul, Int.zero_ediv]
theorem smp_sum (c : Uart) (s : Int) : ∀ (n : Nat) (k : Int), sumP (smpP c s n k) = hv c (2 * (k + n)) - hv c (2 * k)
  | 0, k => by
    have : sumP (smpP c s 0 k) = 0 := rfl
    rw [this, show k + ((0 : Nat) : Int) = k by omega]; omega
  | n + 1, k => by
    have e : sumP (smpP c s (n + 1) k) = dl c k + sumP (smpP c s n (k + 1)) := by simp only [smpP, sumP_cons]
    rw [e, smp_sum c s n (k + 1), show k + 1 + (n : Int) = k + ((n + 1 : Nat) : Int) by omega, show 2 * (k + 1) = 2 * k + 2 by omega]
    unfold dl; omega
theorem runA_cons (c : Uart) (a : A) (e : Event) (l : List Event) : runA c 0 a (e :: l) = ((runA c 0 (stepA c 0 a e).1 l).1, (stepA c 0 a e).2 ++ (runA c 0 (stepA c 0 a e).1 l).2) := rfl
theorem smp_first (c : Uart) (h : OkU c) (s : Int) (hs0 : s % 2 = 0) (hs1 : 0 ≤ s ∧ s < pw (tot c)) (t0 : Int) (ht0 : 0 ≤ t0) (a : A) (h1 : a.ph = 1) (h2 : a.at_ = t0) (hT : t0 + hv c (2 * tot c) ≤ 1099511627776) :
    (runA c 0 a (pev t0 (smpP c s (tot c).toNat 0))).2 = [evA c t0 s] ∧ (runA c 0 a (pev t0 (smpP c s (tot c).toNat 0))).1.ph = (if s / pw (tot c - 1) % 2 = 1 then 1 else 3) ∧ (runA c 0 a (pev t0 (smpP c s (tot c).toNat 0))).1.at_ = t0 + hv c (2 * tot c) := by
  have ht := tot_b c h
  obtain ⟨n, hn⟩ : ∃ n, (tot c).toNat = n + 1 := ⟨(tot c).toNat - 1, by omega⟩
  have key := smp_run c h s hs0 hs1 t0 ht0 n 0 ⟨2, t0, t0, 0, 0⟩ (by omega) ⟨rfl, rfl, rfl, by show (0 : Int) = s % pw 0; rw [pw0, Int.emod_one], by show t0 = t0 + hv c (2 * ((0 : Nat) : Int)); rw [show 2 * ((0 : Nat) : Int) = 0 from rfl, hv_zero, Int.add_zero]⟩ hT
  rw [show 2 * ((0 : Nat) : Int) = 0 from rfl, hv_zero, Int.add_zero] at key
  rw [hn]
  have hd : dl c 0 = hv c 2 := by unfold dl; rw [show (2 : Int) * 0 + 2 = 2 from rfl, show (2 : Int) * 0 = 0 from rfl, hv_zero]; omega
  have g1 := hv_step c h 0
  have g2 := hv_step c h 1
  rw [hv_zero] at g1
  rw [show (0 : Int) + 1 = 1 from rfl] at g1
  rw [show (1 : Int) + 1 = 2 from rfl] at g2
  have m1 := hv_mono c h 2 (2 * tot c) (by omega)
  have hv0 : s / pw 0 % 2 = 0 := by rw [pw0, Int.ediv_one]; exact hs0
  have hpe : pev t0 (smpP c s (n + 1) 0) = lev t0 (t0 + hv c 2) 0 :: pev (t0 + hv c 2) (smpP c s n 1) := by
    simp only [smpP, pev]
    rw [hd, if_neg (by omega), hv0]; rfl
  have key : (runA c 0 ⟨2, t0, t0, 0, 0⟩ (pev t0 (smpP c s (n + 1) 0))).2 = [evA c t0 s] ∧ (runA c 0 ⟨2, t0, t0, 0, 0⟩ (pev t0 (smpP c s (n + 1) 0))).1.ph = (if s / pw (tot c - 1) % 2 = 1 then 1 else 3) ∧ (runA c 0 ⟨2, t0, t0, 0, 0⟩ (pev t0 (smpP c s (n + 1) 0))).1.at_ = t0 + hv c (2 * tot c) := key
  have s1 : stepA c 0 a (lev t0 (t0 + hv c 2) 0) = stepA c 0 ⟨2, t0, t0, 0, 0⟩ (lev t0 (t0 + hv c 2) 0) := by
    rw [stepA_in c a _ _ _ ⟨ht0, by omega, by omega⟩ (.inl rfl) (.inr h2), stepA_in c ⟨2, t0, t0, 0, 0⟩ _ _ _ ⟨ht0, by omega, by omega⟩ (.inl rfl) (.inr rfl)]
    unfold stepB
    rw [if_neg (show ¬ a.ph = 2 by omega), if_neg (show ¬ a.ph = 3 by omega), if_neg (show ¬ (lev t0 (t0 + hv c 2) 0).Value = 1 from by show ¬ (0 : Int) = 1; decide)]
    rfl
  have hr : runA c 0 a (pev t0 (smpP c s (n + 1) 0)) = runA c 0 ⟨2, t0, t0, 0, 0⟩ (pev t0 (smpP c s (n + 1) 0)) := by
    rw [hpe, runA_cons, runA_cons, s1]
  rw [hr]
  exact key
theorem high_one (c : Uart) (a : A) (t u : Int) (h1 : 0 ≤ t ∧ t < u ∧ u ≤ 1099511627776) (hp : a.ph = 1 ∨ a.ph = 3) (ha : a.at_ = t) : (stepA c 0 a (lev t u 1)).2 = [] ∧ (stepA c 0 a (lev t u 1)).1.ph = 1 ∧ (stepA c 0 a (lev t u 1)).1.at_ = u := by
  rw [stepA_in c a _ _ _ h1 (.inr rfl) (.inr ha)]
  unfold stepB
  rcases hp with hp | hp
  · rw [if_neg (show ¬ a.ph = 2 by omega), if_neg (show ¬ a.ph = 3 by omega), if_pos (show (lev t u 1).Value = 1 from rfl)]
    exact ⟨rfl, rfl, rfl⟩
  · rw [if_neg (show ¬ a.ph = 2 by omega), if_pos hp, if_neg (show ¬ (lev t u 1).Value = 0 from by show ¬ (1 : Int) = 0; decide)]
    exact ⟨rfl, rfl, rfl⟩
def endT (c : Uart) (x : Item) : Int := if x.Aux = 1 ∨ x.Fault = 1 then hv c (2 * (tot c + 1)) else hv c (2 * tot c)
theorem item_sum (c : Uart) (h : OkU c) (x : Item) : sumP (itemP c x) = x.Gap + endT c x := by
  have ht := tot_b c h
  have e := smp_sum c (smpA c x) (tot c).toNat 0
  rw [show (0 : Int) + ((tot c).toNat : Int) = tot c by omega, show (2 : Int) * 0 = 0 from rfl, hv_zero] at e
  unfold itemP bodyP tailP endT
  rw [sumP_cons, sumP_append, e]
  by_cases hc : x.Aux = 1 ∨ x.Fault = 1
  · rw [if_pos hc, if_pos hc]
    have : sumP [((1 : Int), dl c (tot c))] = dl c (tot c) := by simp [sumP]
    rw [this, show 2 * (tot c + 1) = 2 * tot c + 2 by omega]
    unfold dl; dsimp only; omega
  · rw [if_neg hc, if_neg hc]
    have : sumP [] = 0 := rfl
    rw [this]; dsimp only; omega
theorem item_run (c : Uart) (h : OkU c) (x : Item) (hx : VOk c x) (hA1 : x.Aux = 1 → x.Fault = 0) (hg : 0 ≤ x.Gap ∧ x.Gap ≤ 1048576) (a : A) (t : Int) (h1 : a.ph = 1) (h2 : a.at_ = t) (ht0 : 0 ≤ t) (hT : t + sumP (itemP c x) ≤ 1099511627776) :
    (runA c 0 a (pev t (itemP c x))).2 = [evA c (t + x.Gap) (smpA c x)] ∧ (runA c 0 a (pev t (itemP c x))).1.ph = 1 ∧ (runA c 0 a (pev t (itemP c x))).1.at_ = t + sumP (itemP c x) := by
  have ht := tot_b c h
  have sm := sm_is c h x hx hA1
  have hsum := item_sum c h x
  have hm := hv_mono c h (2 * tot c) (2 * (tot c + 1)) (by omega)
  have hz : 0 ≤ hv c (2 * tot c) := (hv_b c h (2 * tot c) (by omega)).2.2.1
  have hend : hv c (2 * tot c) ≤ endT c x := by unfold endT; split <;> omega
  -- the gap
  have gap : ∃ b : A, b.ph = 1 ∧ b.at_ = t + x.Gap ∧ runA c 0 a (pev t (itemP c x)) = runA c 0 b (pev (t + x.Gap) (bodyP c x)) := by
    unfold itemP
    by_cases g0 : x.Gap = 0
    · refine ⟨a, h1, by omega, ?_⟩
      simp only [pev, if_pos g0]
      rw [g0, Int.add_zero]
    · obtain ⟨q1, q2, q3⟩ := high_one c a t (t + x.Gap) ⟨ht0, by omega, by omega⟩ (.inl h1) h2
      refine ⟨(stepA c 0 a (lev t (t + x.Gap) 1)).1, q2, q3, ?_⟩
      simp only [pev, if_neg g0]
      rw [runA_cons, q1]; rfl
  obtain ⟨b, p1, p2, p3⟩ := gap
  rw [p3]
  obtain ⟨r1, r2, r3⟩ := smp_first c h (smpA c x) sm.low sm.lt (t + x.Gap) (by omega) b p1 p2 (by omega)
  have e := smp_sum c (smpA c x) (tot c).toNat 0
  rw [show (0 : Int) + ((tot c).toNat : Int) = tot c by omega, show (2 : Int) * 0 = 0 from rfl, hv_zero, Int.sub_zero] at e
  unfold bodyP
  rw [pev_append, runA_append, r1, e]
  generalize (runA c 0 b (pev (t + x.Gap) (smpP c (smpA c x) (tot c).toNat 0))).1 = d at *
  have htop := sm.top
  unfold tailP
  rw [hsum]
  unfold endT at hend ⊢
  unfold endT at hsum
  by_cases hc : x.Aux = 1 ∨ x.Fault = 1
  · rw [if_pos hc] at htop hsum ⊢
    rw [if_pos hc]
    rw [htop, if_neg (by decide)] at r2
    have g1 := hv_step c h (2 * tot c)
    have g2 := hv_step c h (2 * tot c + 1)
    have hd : dl c (tot c) = hv c (2 * (tot c + 1)) - hv c (2 * tot c) := by unfold dl; rw [Int.mul_add, Int.mul_one]
    have hdn : ¬ dl c (tot c) = 0 := by rw [hd, show 2 * (tot c + 1) = 2 * tot c + 1 + 1 by omega]; omega
    obtain ⟨q1, q2, q3⟩ := high_one c d (t + x.Gap + hv c (2 * tot c)) (t + x.Gap + hv c (2 * tot c) + dl c (tot c)) ⟨by omega, by omega, by omega⟩ (.inr r2) r3
    simp only [pev, if_neg hdn, runA, q1, List.append_nil]
    exact ⟨trivial, q2, by rw [q3]; omega⟩
  · rw [if_neg hc] at htop hsum ⊢
    rw [if_neg hc]
    rw [htop, if_pos rfl] at r2
    simp only [pev, runA, List.append_nil]
    exact ⟨trivial, r2, by rw [r3]; omega⟩
end Go.Abs.K
/- UART: the law of the round trip. -/
set_option linter.unusedVariables false
set_option linter.unusedSimpArgs false
namespace Go.Abs.K
open Go Go.Abs Go.Proofs

structure IOk (c : Uart) (x : Item) : Prop where
  v : VOk c x
  a : x.Aux = 1 → x.Fault = 0
  g : 0 ≤ x.Gap ∧ x.Gap ≤ 1048576
  nz : x.Aux ≠ 1 → smpA c x ≠ 0
def want1 (c : Uart) (x : Item) (f : Int) : Event := if x.Aux = 1 then Event.mk 4 f (f + hv c (2 * tot c)) 1 0 (bs []) x.Fault else Event.mk 3 f (f + hv c (2 * tot c)) x.Value 0 (bs []) x.Fault
def wantL (c : Uart) (t : Int) : List Item → List Event
  | [] => []
  | x :: l => want1 c x (t + x.Gap) :: wantL c (t + x.Gap + endT c x) l
theorem want_len (c : Uart) : ∀ (l : List Item) (t : Int), (wantL c t l).length = l.length
  | [], t => rfl
  | x :: l, t => by simp [wantL, want_len c l]
theorem end_b (c : Uart) (h : OkU c) (x : Item) : hv c (2 * tot c) ≤ endT c x ∧ 0 ≤ hv c (2 * tot c) := by
  have ht := tot_b c h
  have hm := hv_mono c h (2 * tot c) (2 * (tot c + 1)) (by omega)
  have hz := (hv_b c h (2 * tot c) (by omega)).2.2.1
  unfold endT
  split <;> omega
theorem all_ps (c : Uart) (h : OkU c) : ∀ l : List Item, (∀ x, x ∈ l → IOk c x) → Ps (l.flatMap (itemP c))
  | [], _ => ps_nil
  | x :: l, hk => by
    rw [List.flatMap_cons, ps_append]
    exact ⟨(item_ok c h x (hk x List.mem_cons_self).g).1, all_ps c h l fun y hy => hk y (List.mem_cons_of_mem _ hy)⟩
theorem all_run (c : Uart) (h : OkU c) : ∀ (l : List Item) (a : A) (t : Int), (∀ x, x ∈ l → IOk c x) → a.ph = 1 → a.at_ = t → 0 ≤ t → t + sumP (l.flatMap (itemP c)) ≤ 1099511627776 →
    (runA c 0 a (pev t (l.flatMap (itemP c)))).2 = wantL c t l ∧ (runA c 0 a (pev t (l.flatMap (itemP c)))).1.ph = 1 ∧ (runA c 0 a (pev t (l.flatMap (itemP c)))).1.at_ = t + sumP (l.flatMap (itemP c))
  | [], a, t, _, h1, h2, _, _ => ⟨rfl, h1, by show a.at_ = t + 0; omega⟩
  | x :: l, a, t, hk, h1, h2, ht, hT => by
    have hx := hk x List.mem_cons_self
    have hrest := ps_sum (all_ps c h l fun y hy => hk y (List.mem_cons_of_mem _ hy))
    have hsum := item_sum c h x
    have heb := end_b c h x
    have hg := hx.g
    rw [List.flatMap_cons, sumP_append] at hT ⊢
    obtain ⟨i1, i2, i3⟩ := item_run c h x hx.v hx.a hx.g a t h1 h2 ht (by omega)
    obtain ⟨j1, j2, j3⟩ := all_run c h l (runA c 0 a (pev t (itemP c x))).1 (t + sumP (itemP c x)) (fun y hy => hk y (List.mem_cons_of_mem _ hy)) i2 i3 (by omega) (by omega)
    rw [pev_append, runA_append, i1]
    refine ⟨?_, j2, by rw [j3]; omega⟩
    dsimp only
    rw [j1, ev_is c h x hx.v hx.a hx.nz]
    have hto : toA c (t + x.Gap) = t + x.Gap + hv c (2 * tot c) := by unfold toA; rw [if_neg (by omega)]
    have hw : wantL c t (x :: l) = want1 c x (t + x.Gap) :: wantL c (t + x.Gap + endT c x) l := rfl
    rw [hto, hw, hsum, show t + (x.Gap + endT c x) = t + x.Gap + endT c x by omega]
    rfl
theorem runs_dec (c : Uart) (h : OkU c) (l : List Item) (hk : ∀ x, x ∈ l → IOk c x) (hT : total (finR c [Run.mk 1 (hv c 4)] l) ≤ 1099511627776) : decA c 0 (evs 0 (finR c [Run.mk 1 (hv c 4)] l)) = wantL c (hv c 4) l := by
  have h4 := hv4_b c h
  have hps := all_ps c h l hk
  have e : finR c [Run.mk 1 (hv c 4)] l = puts [Run.mk 1 (hv c 4)] (l.flatMap (itemP c) ++ [(1, hv c 4)]) := by rw [puts_append]; rfl
  have hps2 : Ps (l.flatMap (itemP c) ++ [(1, hv c 4)]) := (ps_append _ _).2 ⟨hps, (ps_cons _ _).2 ⟨⟨.inr rfl, by dsimp only; omega⟩, ps_nil⟩⟩
  have hs1 : sumP [((1 : Int), hv c 4)] = hv c 4 := by simp [sumP]
  have ht1 : total [Run.mk 1 (hv c 4)] = hv c 4 := total_one _
  rw [e, puts_total, sumP_append, hs1, ht1] at hT
  have hrest := ps_sum hps
  have hrun := puts_run c h _ [Run.mk 1 (hv c 4)] hps2 (inv_first c h).fine (by rw [sumP_append, hs1, ht1]; omega)
  have e1 : evs 0 [Run.mk 1 (hv c 4)] = [lev 0 (0 + hv c 4) 1] := rfl
  have s1 : stepA c 0 a0 (lev 0 (0 + hv c 4) 1) = (⟨1, 0 + hv c 4, 0, 0, 0⟩, []) := by
    rw [stepA_in c a0 _ _ _ ⟨by omega, by omega, by omega⟩ (.inr rfl) (.inl rfl)]
    rfl
  obtain ⟨j1, j2, j3⟩ := all_run c h l ⟨1, 0 + hv c 4, 0, 0, 0⟩ (hv c 4) hk rfl (by show 0 + hv c 4 = hv c 4; omega) (by omega) (by omega)
  obtain ⟨q1, q2, q3⟩ := high_one c (runA c 0 ⟨1, 0 + hv c 4, 0, 0, 0⟩ (pev (hv c 4) (l.flatMap (itemP c)))).1 (hv c 4 + sumP (l.flatMap (itemP c))) (hv c 4 + sumP (l.flatMap (itemP c)) + hv c 4) ⟨by omega, by omega, by omega⟩ (.inl j2) j3
  have hpe : pev (hv c 4 + sumP (l.flatMap (itemP c))) [(1, hv c 4)] = [lev (hv c 4 + sumP (l.flatMap (itemP c))) (hv c 4 + sumP (l.flatMap (itemP c)) + hv c 4) 1] := by
    simp only [pev]
    rw [if_neg (by omega)]
  unfold decA
  rw [e, hrun, e1, ht1, List.singleton_append, runA_cons, s1, pev_append, runA_append, j1, hpe, runA_cons, q1]
  simp [runA]
theorem lev_plain : ∀ (l : List Run) (t : Int), Fine l → 0 ≤ t → t + total l ≤ 1099511627776 → levA t l = evs t l
  | [], t, _, _, _ => rfl
  | r :: l, t, hf, ht, hb => by
    have hr := hf r List.mem_cons_self
    have hf' : Fine l := fun x hx => hf x (List.mem_cons_of_mem _ hx)
    have ht' := (fine_total hf').1
    have e : total (r :: l) = r.Ticks + total l := by simp [total]
    simp only [levA, evs]
    rw [i64_ok (n := t + r.Ticks) (by omega), lev_plain l (t + r.Ticks) hf' (by omega) (by omega)]
    rfl
theorem bdv (c : Uart) (h : OkU c) (k : Int) (hk : 0 ≤ k ∧ k ≤ 40) : IntKind.i64.wrap ((IntKind.i64.wrap (k * c.T_Num)).tdiv c.T_Den) = hv c (2 * k) := by
  have := boundary_is 0 c h k hk
  unfold OkU at h
  simp only [ref22_boundary, b_ref22_boundary] at this
  rw [bif_neg (by omega)] at this
  injection this
theorem rt_l8 {M : Nat} (hM : 2000000000 < M) {c : Uart} (H : Cf M c 0) (l : List Item) (hl : l.length ≤ 12) (hk : ∀ x, x ∈ l → IOk c x) (runs : List Run) (hr1 : runs.length ≤ 100000) (t9 : List Event) (hend : decA c 0 (levA 0 runs) = t9) (ht9 : t9.length ≤ 100) : ∀ (r : List Item) (i m : Nat) (t : Int) (want : List Event), l.drop i = r → r.length < m → want.length + r.length ≤ 100 → want ++ wantL c t r = t9 → 0 ≤ t → t + 100000000 * r.length ≤ 1099511627776 →
    law22_UartRoundTrips_l8 M m t (tot c) (i : Int) l c runs want = some true
  | r, i, 0, t, want, _, hm, _, _, _, _ => by omega
  | [], i, m + 1, t, want, hr, hm, hw, he, ht, hT => by
    have := drop_nil hr
    have he : want = t9 := by simpa [wantL] using he
    have hlen := levA_len runs 0
    have hev : law22_events M runs = some (levA 0 runs) := by
      simp only [law22_events, b_law22_events]
      exact events_l3 M runs hr1 runs 0 M 0 [] rfl (by omega) (by simp; omega)
    simp only [law22_UartRoundTrips_l8, b_law22_UartRoundTrips_l8, hev, Option.bind_some, decode_is (show 1000000 < M by omega) H (levA 0 runs) (by omega), hend, he, same_self M t9 (by omega) (by omega), awake_true M (by omega), Bool.cond_true]
    rw [bif_neg (by omega)]
  | x :: r, i, m + 1, t, want, hr, hm, hw, he, ht, hT => by
    obtain ⟨h1, h2, h3, h4, h5⟩ := drop_cons hr dflt_Item
    have h := H.ok rfl
    have hx := hk x h5
    have hg := hx.g
    have htot := tot_b c h
    have hc := h
    unfold OkU at hc
    have b1 := hv_le c h (2 * tot c) (by omega)
    have b2 := hv_le c h (2 * (tot c + 1)) (by omega)
    have heb := end_b c h x
    have hz2 := (hv_b c h (2 * (tot c + 1)) (by omega)).2.2.1
    simp only [List.length_cons] at hm hw hT
    have hw1 : wantL c t (x :: r) = want1 c x (t + x.Gap) :: wantL c (t + x.Gap + endT c x) r := rfl
    rw [hw1] at he
    have hendb : endT c x ≤ 15728640 := by unfold endT; split <;> omega
    have ih := rt_l8 hM H l hl hk runs hr1 t9 hend ht9 r (i + 1) m (t + x.Gap + endT c x) (want ++ [want1 c x (t + x.Gap)]) h3 (by omega) (by simp; omega) (by rw [← he]; simp) (by omega) (by omega)
    simp only [law22_UartRoundTrips_l8, b_law22_UartRoundTrips_l8, h1, beq_if, next_i i (by omega), bdv c h (tot c) (by omega), i64_ok (n := tot c + 1) (by omega), bdv c h (tot c + 1) (by omega), i64_ok (n := t + x.Gap) (by omega), i64_ok (n := t + x.Gap + hv c (2 * tot c)) (by omega), i64_ok (n := t + x.Gap + hv c (2 * (tot c + 1))) (by omega)]
    simp only [bif_pos (show (0 : Int) ≤ (i : Int) by omega), bif_pos (show (i : Int) < (l.length : Int) by omega), bif_neg (show ¬ c.T_Den = 0 by omega), bif_pos (show (want.length + 1) * 64 ≤ 140737488355328 by omega)]
    unfold want1 endT at ih
    by_cases hA : x.Aux = 1
    · rw [if_pos hA, if_pos (.inl hA)] at ih
      rw [if_pos hA, if_pos hA]
      exact ih
    · rw [if_neg hA] at ih
      rw [if_neg hA, if_neg hA]
      by_cases hF : x.Fault = 1
      · rw [if_pos (.inr hF)] at ih
        rw [if_pos hF]
        exact ih
      · rw [if_neg (fun hh => hh.elim hA hF)] at ih
        rw [if_neg hF]
        exact ih
theorem refused_nz (M : Nat) (hM : 20 < M) (c : Uart) (h : OkU c) (x : Item) (h0 : uart_refused M c x = some 0) (hx : VOk c x) (hA : x.Aux = 0) (hF : x.Fault = 1) : smpA c x ≠ 0 := by
  intro hz
  have hc := h
  unfold OkU at hc
  have hs := smp_prog M hM c h x hx
  rw [hz] at hs
  simp only [uart_refused, b_uart_refused, hs, hA, hF, Option.bind_some, bif_neg (show ¬ c.Bits < 0 by omega), bif_if, bne_if, beq_if] at h0
  simp at h0
  repeat' split at h0
  all_goals simp at h0
theorem smp_pos (c : Uart) (h : OkU c) (x : Item) (hx : VOk c x) (hA : x.Aux ≠ 1) (hF : x.Fault ≠ 1) : smpA c x ≠ 0 := by
  intro hz
  have sm := (sm_is c h x hx (fun hh => absurd hh hA)).top
  rw [hz, Int.zero_ediv, if_neg (fun hh => hh.elim hA hF)] at sm
  exact absurd sm (by decide)
theorem UartRoundTrips_true (c : Uart) (l : List Item) (hc : wf_Uart c) (hl : (∀ x, x ∈ l → wf_Item x) ∧ l.length * Try.prog.bytesOf 54 ≤ 140737488351232) : ∃ M, law22_UartRoundTrips M c l = some true := by
  obtain ⟨M, hM⟩ := big
  obtain ⟨v, H⟩ := cf_some M (by omega) c
  refine ⟨M, ?_⟩
  obtain ⟨b, hb, hb2⟩ := tiny_is M l (by omega)
  simp only [law22_UartRoundTrips, b_law22_UartRoundTrips, hb, Option.bind_some, awake_true M (by omega)]
  cases b with
  | false => rfl
  | true =>
    have hl12 := hb2 rfl
    simp only [Bool.not_true, Bool.cond_false, H.r, Option.bind_some, bne_if]
    by_cases hv0 : v = 0
    case neg => rw [if_neg hv0]
    subst hv0
    have h := H.ok rfl
    have hc' := h
    unfold OkU at hc'
    have h4 := hv4_b c h
    have h7 := p_l7 M (by omega) c h l hl12 l 0 M rfl (by omega) (fun h => h)
    have henc : uart_Encode M c l = some (if errA M c l = 0 then (finR c [Run.mk 1 (hv c 4)] l, 0) else ([], errA M c l)) := by
      simp only [uart_Encode, b_uart_Encode, H.p, Option.bind_some, bne_if, if_true]
      rw [bif_neg (by omega)]
      exact h7
    rw [if_pos rfl, henc, Option.bind_some]
    by_cases he : errA M c l = 0
    · have hok := err_ok M (by omega) c h l he
      obtain ⟨k1, k2⟩ := p_l18 M (by omega) c h l hl12 hok l 0 M _ 1 rfl (by omega) (inv_first c h) (by omega)
      have hiok : ∀ x, x ∈ l → IOk c x := fun x hx => by
        have key : ∀ (r : List Item), errA M c r = 0 → x ∈ r → chkA M c x = 0 := by
          intro r
          induction r with
          | nil => intro _ hh; cases hh
          | cons y r ih =>
            intro hr hh
            by_cases hz : chkA M c y = 0
            · rw [err_ok1 r hz] at hr
              rcases List.mem_cons.1 hh with rfl | hh
              · exact hz
              · exact ih hr hh
            · rw [err_bad1 r hz] at hr; exact absurd hr hz
        have hz := key l he hx
        obtain ⟨c1, c2, c3⟩ := chk_is M (by omega) c h x
        obtain ⟨v1, v2, v3, v4⟩ := c3 hz
        rw [hz] at c1
        refine ⟨v1, v3, v4, fun hA => ?_⟩
        by_cases hF : x.Fault = 1
        · exact refused_nz M (by omega) c h x c1 v1 (by omega) hF
        · exact smp_pos c h x v1 hA hF
      have hlen := k2.len
      have hsum := k2.sum
      have hfin := k2.fine
      have hlp := lev_plain (finR c [Run.mk 1 (hv c 4)] l) 0 hfin (by omega) (by omega)
      have hdec := runs_dec c h l hiok (by omega)
      have hwl := want_len c l (hv c 4)
      have hbits : law22_bits M c = some (tot c) := by
        have := (size_is M c h).2
        simpa only [ref22_total, b_ref22_total, law22_bits, b_law22_bits] using this
      have hb2' := bdv c h 2 (by omega)
      rw [if_pos he]
      dsimp only
      rw [if_pos rfl, bif_neg (by omega), hbits, Option.bind_some, hb2', show (2 : Int) * 2 = 4 from rfl]
      exact rt_l8 hM H l hl12 hiok _ (by omega) (wantL c (hv c 4) l) (by rw [hlp]; exact hdec) (by omega) l 0 M (hv c 4) [] rfl (by omega) (by simp; omega) rfl (by omega) (by omega)
    · rw [if_neg he]
      dsimp only
      rw [if_neg he]
      rfl
end Go.Abs.K
