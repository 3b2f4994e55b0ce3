/- ONEWIRE: what is sent is decoded. -/
import Derived.Test.YtimanhbcjbnleaaP5
set_option linter.unusedVariables false
set_option linter.unusedSimpArgs false
namespace Go.Abs.K
open Go Go.Abs Go.Proofs

def levB : Int → List Run → List Event
  | _, [] => []
  | t, r :: l => Event.mk 1 t (t + r.Ticks) r.Level 0 (bs []) 0 :: levB (t + r.Ticks) l
def sumR : List Run → Int
  | [] => 0
  | r :: l => r.Ticks + sumR l
def AltR : Int → List Run → Prop
  | _, [] => True
  | lv, r :: l => r.Level = lv ∧ 1 ≤ r.Ticks ∧ AltR (1 - lv) l
theorem sumR_nn : ∀ (l : List Run) (lv : Int), AltR lv l → 0 ≤ sumR l
  | [], _, _ => by simp [sumR]
  | r :: l, lv, h => by have := sumR_nn l _ h.2.2; have := h.2.1; simp only [sumR]; omega
theorem sumR_append : ∀ (a b : List Run), sumR (a ++ b) = sumR a + sumR b
  | [], b => by simp [sumR]
  | r :: a, b => by simp only [List.cons_append, sumR, sumR_append a b]; omega
theorem levA_eq : ∀ (l : List Run) (lv t : Int), AltR lv l → 0 ≤ t → t + sumR l ≤ 1099511627776 → levA t l = levB t l
  | [], _, _, _, _, _ => rfl
  | r :: l, lv, t, h, h0, hb => by
    have hn := sumR_nn l _ h.2.2
    have h1 := h.2.1
    simp only [sumR] at hb
    simp only [levA, levB]
    rw [i64_ok (by omega), levA_eq l _ _ h.2.2 (by omega) (by omega)]
theorem levB_append : ∀ (a b : List Run) (t : Int), levB t (a ++ b) = levB t a ++ levB (t + sumR a) b
  | [], b, t => by simp [levB, sumR]
  | r :: a, b, t => by
    simp only [List.cons_append, levB, sumR, levB_append a b]
    rw [show t + r.Ticks + sumR a = t + (r.Ticks + sumR a) by omega]
def wr (T : Int) : List (Int × Int) → List Run
  | [] => []
  | p :: r => Run.mk 0 (p.1 * T) :: Run.mk 1 p.2 :: wr T r
theorem mul1 (a T : Int) (h : 1 ≤ a) (hT : 1 ≤ T) : 1 ≤ a * T := by
  have := Int.mul_pos (a := a) (b := T) (by omega) (by omega); omega
theorem wr_alt (T : Int) (hT : 1 ≤ T) : ∀ (ps : List (Int × Int)), (∀ p, p ∈ ps → 1 ≤ p.1 ∧ 1 ≤ p.2) → AltR 0 (wr T ps)
  | [], _ => trivial
  | p :: ps, h => ⟨rfl, mul1 _ _ (h p (by simp)).1 hT, rfl, (h p (by simp)).2, wr_alt T hT ps (fun q hq => h q (by simp [hq]))⟩
theorem run_wr (c : Onewire) (hc : OkC c) : ∀ (ps : List (Int × Int)) (md : Md) (t : Int), (∀ p, p ∈ ps → 1 ≤ p.1 ∧ 1 ≤ p.2) → 0 ≤ t → t + sumR (wr c.T ps) ≤ 1099511627776 → runA c ⟨true, t, none, md⟩ (levB t (wr c.T ps)) = (⟨true, t + sumR (wr c.T ps), none, (foldP c.T md t ps).1⟩, (foldP c.T md t ps).2)
  | [], md, t, _, _, _ => by simp [wr, levB, runA, foldP, sumR]
  | p :: ps, md, t, h, h0, hb => by
    have hc' := hc
    unfold OkC at hc'
    have hp := h p (by simp)
    have h1 := mul1 p.1 c.T hp.1 hc'.1
    have hr := fun q (hq : q ∈ ps) => h q (by simp [hq])
    have hn := sumR_nn _ _ (wr_alt c.T hc'.1 ps hr)
    simp only [wr, sumR] at hb
    have i1 : In c ⟨true, t, none, md⟩ (Event.mk 1 t (t + p.1 * c.T) 0 0 (bs []) 0) := by
      refine ⟨hc, ?_, rfl, rfl, by dsimp only; omega, .inl rfl, .inr rfl⟩
      unfold Vld; dsimp only; rw [show (bs []).size = 0 from rfl]; omega
    have s1 : stepA c ⟨true, t, none, md⟩ (Event.mk 1 t (t + p.1 * c.T) 0 0 (bs []) 0) = (⟨true, t + p.1 * c.T, some t, md⟩, []) := by
      unfold stepA; rw [if_pos i1]; rfl
    have i2 : In c ⟨true, t + p.1 * c.T, some t, md⟩ (Event.mk 1 (t + p.1 * c.T) (t + p.1 * c.T + p.2) 1 0 (bs []) 0) := by
      refine ⟨hc, ?_, rfl, rfl, by dsimp only; omega, .inr rfl, .inr rfl⟩
      unfold Vld; dsimp only; rw [show (bs []).size = 0 from rfl]; omega
    have s2 : stepA c ⟨true, t + p.1 * c.T, some t, md⟩ (Event.mk 1 (t + p.1 * c.T) (t + p.1 * c.T + p.2) 1 0 (bs []) 0) = (⟨true, t + p.1 * c.T + p.2, none, (pairA c.T md t p.1 p.2).1⟩, (pairA c.T md t p.1 p.2).2) := by
      unfold stepA; rw [if_pos i2, if_neg (show ¬ (1 : Int) = 0 by omega)]; rfl
    have ih := run_wr c hc ps (pairA c.T md t p.1 p.2).1 (t + p.1 * c.T + p.2) hr (by omega) (by omega)
    simp only [wr, levB, runA, s1, s2, ih, foldP, sumR, List.nil_append]
    rw [show t + p.1 * c.T + p.2 + sumR (wr c.T ps) = t + (p.1 * c.T + (p.2 + sumR (wr c.T ps))) by omega]
def lp (T : Int) : List (Int × Int) → List Run
  | [] => []
  | [p] => [Run.mk 0 (p.1 * T)]
  | p :: q :: r => Run.mk 0 (p.1 * T) :: Run.mk 1 (p.2 * T) :: lp T (q :: r)
def lastP : List (Int × Int) → Int × Int
  | [] => (0, 0)
  | [p] => p
  | _ :: q :: r => lastP (q :: r)
def pairsR (T : Int) : List (Int × Int) → List Run
  | [] => []
  | p :: r => Run.mk 0 (p.1 * T) :: Run.mk 1 (p.2 * T) :: pairsR T r
theorem wr_wid (T W : Int) : ∀ (ps : List (Int × Int)), ps ≠ [] → wr T (wid T W ps) = lp T ps ++ [Run.mk 1 W]
  | [], h => absurd rfl h
  | [p], _ => rfl
  | p :: q :: r, _ => by
    have := wr_wid T W (q :: r) (by simp)
    simp only [wid, wr, lp, List.cons_append, this]
theorem pairs_lp (T : Int) : ∀ (ps : List (Int × Int)), ps ≠ [] → pairsR T ps = lp T ps ++ [Run.mk 1 ((lastP ps).2 * T)]
  | [], h => absurd rfl h
  | [p], _ => rfl
  | p :: q :: r, _ => by
    have := pairs_lp T (q :: r) (by simp)
    rw [pairsR, this]
    simp only [lp, lastP, List.cons_append]
theorem wid_pos (T W : Int) (hT : 1 ≤ T) (hW : 1 ≤ W) : ∀ (ps : List (Int × Int)), (∀ p, p ∈ ps → 1 ≤ p.1 ∧ 1 ≤ p.2) → ∀ p, p ∈ wid T W ps → 1 ≤ p.1 ∧ 1 ≤ p.2
  | [], _, p, hp => by simp [wid] at hp
  | [q], h, p, hp => by
    simp only [wid, List.mem_singleton] at hp
    subst hp
    exact ⟨(h q (by simp)).1, hW⟩
  | q :: r :: s, h, p, hp => by
    simp only [wid, List.mem_cons] at hp
    rcases hp with rfl | hp
    · exact ⟨(h q (by simp)).1, mul1 _ _ (h q (by simp)).2 hT⟩
    · exact wid_pos T W hT hW (r :: s) (fun x hx => h x (by simp only [List.mem_cons] at hx ⊢; exact .inr hx)) p (by simpa [wid] using hp)
theorem pr_pos (b : Int) : 1 ≤ (pr b).1 ∧ 1 ≤ (pr b).2 ∧ (pr b).1 ≤ 32 ∧ (pr b).2 ≤ 32 := by unfold pr; split <;> (dsimp only; omega)
theorem prs_pos (x : Item) : ∀ p, p ∈ prs x → 1 ≤ p.1 ∧ 1 ≤ p.2 ∧ p.1 ≤ 32 ∧ p.2 ≤ 32 := by
  intro p hp
  unfold prs at hp
  split at hp
  · simp only [List.mem_singleton] at hp; subst hp; dsimp only; omega
  split at hp
  · simp only [List.mem_cons, List.not_mem_nil, or_false] at hp; rcases hp with rfl | rfl <;> (dsimp only; omega)
  split at hp
  · simp only [List.mem_cons, List.not_mem_nil, or_false] at hp
    rcases hp with rfl | rfl | rfl | rfl
    · exact pr_pos _
    · exact pr_pos _
    · exact pr_pos _
    · dsimp only; omega
  · simp only [List.mem_cons, List.not_mem_nil, or_false] at hp
    rcases hp with rfl | rfl | rfl | rfl | rfl | rfl | rfl | rfl <;> exact pr_pos _
theorem prs_ne (x : Item) : prs x ≠ [] := by
  unfold prs
  repeat' split
  all_goals simp
theorem prs_len (x : Item) : (prs x).length ≤ 8 := by
  unfold prs
  repeat' split
  all_goals simp
theorem prs_last (x : Item) : lastP (prs x) = lastA x := by
  unfold prs lastA
  repeat' split
  all_goals rfl
theorem lp_sum (T : Int) (x : Item) : sumR (lp T (prs x)) + (lastA x).2 * T = durA T x := by
  have s0 := pr_sum T (bitA x.Value 0)
  have s1 := pr_sum T (bitA x.Value 1)
  have s2 := pr_sum T (bitA x.Value 2)
  have s3 := pr_sum T (bitA x.Value 3)
  have s4 := pr_sum T (bitA x.Value 4)
  have s5 := pr_sum T (bitA x.Value 5)
  have s6 := pr_sum T (bitA x.Value 6)
  have s7 := pr_sum T (bitA x.Value 7)
  unfold prs lastA durA
  repeat' split
  all_goals (simp only [lp, sumR]; omega)
theorem alt_app : ∀ (a b : List Run) (lv W W2 : Int), AltR lv (a ++ [Run.mk 1 W]) → 1 ≤ W2 → AltR 0 b → AltR lv (a ++ Run.mk 1 W2 :: b)
  | [], b, lv, W, W2, h, h2, hb => by
    have : lv = 1 := h.1.symm
    subst this
    exact ⟨rfl, h2, hb⟩
  | r :: a, b, lv, W, W2, h, h2, hb => ⟨h.1, h.2.1, alt_app a b _ W W2 h.2.2 h2 hb⟩
/-- What stands sent so far: the last run is high and may become longer. -/
def Inv (c : Onewire) (pre : List Run) (W : Int) (want : List Event) : Prop :=
  AltR 1 (pre ++ [Run.mk 1 W]) ∧ 1 ≤ W ∧ 0 ≤ sumR pre ∧ ∀ W', W ≤ W' → sumR pre + W' ≤ 1099511627776 → runA c a0 (levB 0 (pre ++ [Run.mk 1 W'])) = (⟨true, sumR pre + W', none, clo⟩, want)
theorem inv_base (c : Onewire) (hc : OkC c) : Inv c [] (8 * c.T) [] := by
  have hc' := hc
  unfold OkC at hc'
  refine ⟨⟨rfl, by dsimp only; omega, trivial⟩, by omega, by simp [sumR], fun W' h1 h2 => ?_⟩
  simp only [sumR] at h2
  have i1 : In c a0 (Event.mk 1 0 (0 + W') 1 0 (bs []) 0) := by
    refine ⟨hc, ?_, rfl, rfl, by dsimp only; omega, .inr rfl, .inl rfl⟩
    unfold Vld; dsimp only; rw [show (bs []).size = 0 from rfl]; omega
  have s1 : stepA c a0 (Event.mk 1 0 (0 + W') 1 0 (bs []) 0) = (⟨true, 0 + W', none, clo⟩, []) := by
    unfold stepA; rw [if_pos i1, if_neg (show ¬ (1 : Int) = 0 by omega)]; rfl
  simp only [List.nil_append, levB, runA, s1, sumR, List.append_nil]
theorem inv_step (c : Onewire) (hc : OkC c) (pre : List Run) (W : Int) (want : List Event) (h : Inv c pre W want) (x : Item) (hg : 0 ≤ x.Gap) (hv : 0 ≤ x.Value ∧ x.Value ≤ 255) (hb : sumR pre + (W + x.Gap) + durA c.T x ≤ 1099511627776) :
    Inv c (pre ++ Run.mk 1 (W + x.Gap) :: lp c.T (prs x)) ((lastA x).2 * c.T) (want ++ [sentA c.T x (sumR pre + (W + x.Gap))]) ∧ sumR (pre ++ Run.mk 1 (W + x.Gap) :: lp c.T (prs x)) + (lastA x).2 * c.T = sumR pre + (W + x.Gap) + durA c.T x := by
  have hc' := hc
  unfold OkC at hc'
  obtain ⟨h1, h2, h3, h4⟩ := h
  have hpos := prs_pos x
  have hpos2 : ∀ p, p ∈ prs x → 1 ≤ p.1 ∧ 1 ≤ p.2 := fun p hp => ⟨(hpos p hp).1, (hpos p hp).2.1⟩
  have hlast : 1 ≤ (lastA x).2 := by
    unfold lastA
    repeat' split
    all_goals first | exact (pr_pos _).2.1 | (dsimp only; omega)
  have hW1 := mul1 _ _ hlast hc'.1
  have hsum := lp_sum c.T x
  have hs : sumR (pre ++ Run.mk 1 (W + x.Gap) :: lp c.T (prs x)) = sumR pre + (W + x.Gap + sumR (lp c.T (prs x))) := by rw [sumR_append]; rfl
  have e0 : ∀ W', (pre ++ Run.mk 1 (W + x.Gap) :: lp c.T (prs x)) ++ [Run.mk 1 W'] = (pre ++ [Run.mk 1 (W + x.Gap)]) ++ wr c.T (wid c.T W' (prs x)) := fun W' => by
    rw [wr_wid c.T W' (prs x) (prs_ne x)]; simp
  have hlpn : 0 ≤ sumR (lp c.T (prs x)) := by
    have ha := wr_alt c.T hc'.1 (wid c.T 1 (prs x)) (wid_pos c.T 1 hc'.1 (by omega) _ hpos2)
    rw [wr_wid c.T 1 (prs x) (prs_ne x)] at ha
    clear e0 hs hsum
    have : ∀ (l : List Run) (lv : Int) (b : List Run), AltR lv (l ++ b) → 0 ≤ sumR l := by
      intro l
      induction l with
      | nil => intro lv b _; simp [sumR]
      | cons r l ih => intro lv b hh; have := ih _ _ hh.2.2; have := hh.2.1; simp only [sumR]; omega
    exact this _ _ _ ha
  refine ⟨⟨?_, hW1, by rw [hs]; omega, fun W' hw hbb => ?_⟩, by rw [hs]; omega⟩
  · rw [e0]
    have := alt_app pre (wr c.T (wid c.T ((lastA x).2 * c.T) (prs x))) 1 W (W + x.Gap) h1 (by omega) (wr_alt c.T hc'.1 _ (wid_pos c.T _ hc'.1 hW1 _ hpos2))
    simpa using this
  · rw [hs] at hbb
    have hsw : sumR (wr c.T (wid c.T W' (prs x))) = sumR (lp c.T (prs x)) + W' := by
      rw [wr_wid c.T W' (prs x) (prs_ne x), sumR_append]; simp [sumR]
    rw [e0, levB_append, runA_append, h4 (W + x.Gap) (by omega) (by omega)]
    have hs1 : sumR (pre ++ [Run.mk 1 (W + x.Gap)]) = sumR pre + (W + x.Gap) := by rw [sumR_append]; simp [sumR]
    rw [hs1, Int.zero_add]
    dsimp only
    have hrun := run_wr c hc (wid c.T W' (prs x)) clo (sumR pre + (W + x.Gap)) (wid_pos c.T W' hc'.1 (by omega) _ hpos2) (by omega) (by rw [hsw]; omega)
    rw [hrun, item_fold c.T hc'.1 x hv _ W' hw, hs, hsw]
    dsimp only
    rw [show sumR pre + (W + x.Gap) + (sumR (lp c.T (prs x)) + W') = sumR pre + (W + x.Gap + sumR (lp c.T (prs x))) + W' by omega]
end Go.Abs.K
