/- ONEWIRE: the document's Encode gives what the program's gives. -/
import Derived.Test.YtimanhbcjbnleaaP8
set_option linter.unusedVariables false
set_option linter.unusedSimpArgs false
namespace Go.Abs.K
open Go Go.Abs Go.Proofs

theorem wrong_same (M : Nat) (x : Item) : ref25_wrong M x = onewire_refused M x := by
  simp only [ref25_wrong, b_ref25_wrong, onewire_refused, b_onewire_refused]
theorem w9_step (M : Nat) (x : Item) (n : Int) (m i : Nat) (out : List Int) (hi : (i : Int) < n) (hn : n ≤ 8) (hv : 0 ≤ x.Value) (ho : out.length ≤ 100) : ref25_widths_l9 M (m + 1) n (i : Int) x out = ref25_widths_l9 M m n ((i + 1 : Nat) : Int) x (out ++ [(pr (bitA x.Value i)).1, (pr (bitA x.Value i)).2]) := by
  have hb : (x.Value.fdiv (2 ^ min (i : Int).toNat 64)).tmod 2 = bitA x.Value i := by
    have hp : (0 : Int) < 2 ^ i := Int.pow_pos (by omega)
    rw [Int.toNat_natCast, Nat.min_eq_left (by omega), Int.fdiv_eq_ediv_of_nonneg _ (Int.le_of_lt hp), Int.tmod_eq_emod_of_nonneg (Int.ediv_nonneg hv (Int.le_of_lt hp))]
    rfl
  conv => lhs; rw [ref25_widths_l9]
  simp only [b_ref25_widths_l9, next_i i (by omega), hb, beq_if]
  rw [bif_pos (by omega), bif_neg (by omega)]
  simp only [bif_pos (show (out.length + 2) * 8 ≤ 140737488355328 by omega)]
  unfold pr; split <;> rfl
theorem widths_is (M : Nat) (hM : 10 < M) (x : Item) (hv : 0 ≤ x.Value) : ref25_widths M x = some (flat (prs x)) := by
  obtain ⟨m, rfl⟩ : ∃ m, M = m + 9 := ⟨M - 9, by omega⟩
  simp only [ref25_widths, b_ref25_widths, beq_if]
  unfold prs
  by_cases h1 : x.Aux = 1
  · rw [if_pos h1, if_pos h1]; rfl
  rw [if_neg h1, if_neg h1]
  by_cases h2 : x.Aux = 2
  · rw [if_pos h2, if_pos h2]; rfl
  rw [if_neg h2, if_neg h2]
  by_cases h6 : x.Fault = 6
  · rw [if_pos h6, if_pos h6]
    refine (w9_step (m + 9) x 3 (m + 8) 0 [] (by omega) (by omega) hv (by simp)).trans ?_
    rw [w9_step (m + 9) x 3 (m + 7) 1 _ (by omega) (by omega) hv (by simp), w9_step (m + 9) x 3 (m + 6) 2 _ (by omega) (by omega) hv (by simp)]
    simp only [ref25_widths_l9, b_ref25_widths_l9, beq_if]
    rw [bif_neg (by omega), if_pos h6, bif_pos (by simp)]
    rfl
  · rw [if_neg h6, if_neg h6]
    refine (w9_step (m + 9) x 8 (m + 8) 0 [] (by omega) (by omega) hv (by simp)).trans ?_
    rw [w9_step (m + 9) x 8 (m + 7) 1 _ (by omega) (by omega) hv (by simp), w9_step (m + 9) x 8 (m + 6) 2 _ (by omega) (by omega) hv (by simp), w9_step (m + 9) x 8 (m + 5) 3 _ (by omega) (by omega) hv (by simp), w9_step (m + 9) x 8 (m + 4) 4 _ (by omega) (by omega) hv (by simp), w9_step (m + 9) x 8 (m + 3) 5 _ (by omega) (by omega) hv (by simp), w9_step (m + 9) x 8 (m + 2) 6 _ (by omega) (by omega) hv (by simp), w9_step (m + 9) x 8 (m + 1) 7 _ (by omega) (by omega) hv (by simp)]
    simp only [ref25_widths_l9, b_ref25_widths_l9, beq_if]
    rw [bif_neg (by omega), if_neg h6]
    rfl

/-! ### One level more -/
theorem add_nil (M : Nat) (t : Int) (ht : 1 ≤ t) : ref25_add M [] 1 t = some [Run.mk 1 t] := by
  simp only [ref25_add, b_ref25_add, beq_if, List.length_nil]
  rw [if_neg (by omega), bif_neg (by decide)]
  rfl
theorem add_at (M : Nat) (pre : List Run) (lv W lv' t : Int) (hp : pre.length ≤ 1000000) (ht : 0 ≤ t) (hW : 0 ≤ W ∧ W + t ≤ 1099511627776000) : ref25_add M (pre ++ [Run.mk lv W]) lv' t = some (if t = 0 then pre ++ [Run.mk lv W] else if lv = lv' then pre ++ [Run.mk lv (W + t)] else pre ++ [Run.mk lv W, Run.mk lv' t]) := by
  have hlen : ((pre ++ [Run.mk lv W]).length : Int) = (pre.length : Int) + 1 := by simp
  have hg : (pre ++ [Run.mk lv W]).getD pre.length dflt_Run = Run.mk lv W := by simp
  have htk : List.take pre.length (pre ++ [Run.mk lv W]) = pre := by simp
  have hll : (pre ++ [Run.mk lv W]).length = pre.length + 1 := by simp
  simp only [ref25_add, b_ref25_add, beq_if, hlen]
  by_cases h0 : t = 0
  · rw [if_pos h0, if_pos h0]
  · rw [if_neg h0, if_neg h0, i64_ok (n := (pre.length : Int) + 1 - 1) (by omega), show ((pre.length : Int) + 1 - 1).toNat = pre.length by omega, hg, htk, hll]
    simp only [List.drop_zero, List.nil_append]
    rw [bif_pos (by omega), bif_pos (by omega), bif_pos (by omega)]
    by_cases hl : lv = lv'
    · rw [if_pos hl, if_pos hl, bif_pos (by omega), bif_pos (by omega), bif_pos (by omega), bif_pos (by omega), bif_pos (by omega), bif_pos (by omega), bif_pos (by omega), i64_ok (n := W + t) (by omega), hl]
    · rw [if_neg hl, if_neg hl, bif_pos (by omega)]
      simp
theorem add_same (M : Nat) (pre : List Run) (W t : Int) (hp : pre.length ≤ 1000000) (ht : 0 ≤ t) (hW : 0 ≤ W ∧ W + t ≤ 1099511627776000) : ref25_add M (pre ++ [Run.mk 1 W]) 1 t = some (pre ++ [Run.mk 1 (W + t)]) := by
  rw [add_at M pre 1 W 1 t hp ht hW]
  by_cases h0 : t = 0
  · rw [if_pos h0, h0, Int.add_zero]
  · rw [if_neg h0, if_pos rfl]
theorem add_other (M : Nat) (pre : List Run) (lv W lv' t : Int) (hp : pre.length ≤ 1000000) (ht : 1 ≤ t) (hW : 0 ≤ W ∧ W + t ≤ 1099511627776000) (hl : lv ≠ lv') : ref25_add M (pre ++ [Run.mk lv W]) lv' t = some (pre ++ [Run.mk lv W] ++ [Run.mk lv' t]) := by
  rw [add_at M pre lv W lv' t hp (by omega) hW, if_neg (by omega), if_neg hl]
  simp
theorem ref_l16 (M : Nat) (q : Int → List Item → Onewire → List Run → Option (List Run × Int)) (b : Int) (l : List Item) (c : Onewire) (hc : OkC c) (u : List Int) (hu : u.length ≤ 1000) : ∀ (ps : List (Int × Int)) (i m : Nat) (pre : List Run) (W : Int), u.drop i = flat ps → i % 2 = 0 → 2 * ps.length < m → (∀ p, p ∈ ps → 1 ≤ p.1 ∧ 1 ≤ p.2 ∧ p.1 ≤ 32 ∧ p.2 ≤ 32) → pre.length + 2 * ps.length ≤ 50000 → 0 ≤ W ∧ W ≤ 1099511627776 → ref25_Encode_l16 M q m b (i : Int) l c (pre ++ [Run.mk 1 W]) u = q (IntKind.i64.wrap (b + 1)) l c (pre ++ [Run.mk 1 W] ++ pairsR c.T ps)
  | ps, i, 0, pre, W, _, _, hm, _, _, _ => by omega
  | [], i, m + 1, pre, W, hr, hi, hm, _, ho, hW => by
    have := drop_nil hr
    simp only [ref25_Encode_l16, b_ref25_Encode_l16]
    rw [bif_neg (by omega)]; simp [pairsR]
  | p :: ps, i, 1, pre, W, hr, hi, hm, hp, ho, hW => by simp only [List.length_cons] at hm; omega
  | p :: ps, i, m + 2, pre, W, hr, hi, hm, hp, ho, hW => by
    obtain ⟨h1, h2, h3, h4, h5⟩ := drop_cons (r := p.2 :: flat ps) hr 0
    obtain ⟨g1, g2, g3, g4, g5⟩ := drop_cons h3 0
    have hq := hp p (by simp)
    have hc' := hc
    unfold OkC at hc'
    have m1 := mulb p.1 c.T ⟨hq.1, hq.2.2.1⟩ hc'
    have m2 := mulb p.2 c.T ⟨hq.2.1, hq.2.2.2⟩ hc'
    simp only [List.length_cons] at hm ho
    have t1 : ((i : Nat) : Int).tmod 2 = 0 := by rw [Int.tmod_eq_emod_of_nonneg (by omega)]; omega
    have t2 : ((i + 1 : Nat) : Int).tmod 2 = 1 := by rw [Int.tmod_eq_emod_of_nonneg (by omega)]; omega
    have a1 := add_other M pre 1 W 0 (p.1 * c.T) (by omega) m1.1 (by omega) (by omega)
    have a2 := add_other M (pre ++ [Run.mk 1 W]) 0 (p.1 * c.T) 1 (p.2 * c.T) (by simp; omega) m2.1 (by omega) (by omega)
    simp only [ref25_Encode_l16, b_ref25_Encode_l16, next_i i (by omega), next_i (i + 1) (by omega), h1, g1, t1, t2]
    rw [bif_pos (by omega), bif_pos (by omega), bif_pos (by omega), i64_ok (n := p.1 * c.T) (by omega), a1, Option.bind_some, bif_pos (by omega), bif_pos (by omega), bif_pos (by omega), i64_ok (n := p.2 * c.T) (by omega), a2, Option.bind_some]
    have := ref_l16 M q b l c hc u hu ps (i + 2) m (pre ++ [Run.mk 1 W] ++ [Run.mk 0 (p.1 * c.T)]) (p.2 * c.T) g3 (by omega) (by omega) (fun q hq => hp q (by simp [hq])) (by simp; omega) (by omega)
    refine Eq.trans this ?_
    simp [pairsR]
theorem fit_l5 (M : Nat) (l : List Run) (hl : l.length ≤ 100000) (hs : sumR l ≤ 1099511627776) : ∀ (r : List Run) (lv : Int) (i m : Nat) (tot : Int), l.drop i = r → r.length < m → AltR lv r → 0 ≤ tot → tot + sumR r = sumR l → ref25_fitting_l5 M m tot (i : Int) l = some (l, 0)
  | r, lv, i, 0, tot, _, hm, _, _, _ => by omega
  | [], lv, i, m + 1, tot, hr, hm, _, h0, ht => by
    have := drop_nil hr
    simp only [sumR] at ht
    simp only [ref25_fitting_l5, b_ref25_fitting_l5]
    rw [bif_neg (by omega), bif_neg (by omega)]
  | x :: r, lv, i, m + 1, tot, hr, hm, hx, h0, ht => by
    obtain ⟨h1, h2, h3, h4, h5⟩ := drop_cons hr dflt_Run
    obtain ⟨a1, a2, a3⟩ := hx
    have hn := sumR_nn r _ a3
    simp only [List.length_cons] at hm
    simp only [sumR] at ht
    simp only [ref25_fitting_l5, b_ref25_fitting_l5, h1, next_i i (by omega)]
    rw [bif_pos (by omega), bif_pos (by omega), bif_pos (by omega), i64_ok (by omega)]
    exact fit_l5 M l hl hs r _ (i + 1) m _ h3 (by omega) a3 (by omega) (by omega)
theorem fit_is (M : Nat) (l : List Run) (hl : l.length ≤ 100000) (hM : l.length < M) (ha : AltR 1 l) (hs : sumR l ≤ 1099511627776) : ref25_fitting M l = some (l, 0) := by
  simp only [ref25_fitting, b_ref25_fitting]
  rw [bif_neg (by omega)]
  exact fit_l5 M l hl hs l 1 0 M 0 rfl (by omega) ha (by omega) (by omega)

/-! ### The whole -/
/-- The runs from an item on: those behind, the last one's ticks. -/
def finR (c : Onewire) : List Item → List Run → Int → List Run
  | [], pre, W => pre ++ [Run.mk 1 (W + 8 * c.T)]
  | x :: r, pre, W => finR c r (pre ++ Run.mk 1 (W + x.Gap) :: lp c.T (prs x)) ((lastA x).2 * c.T)
theorem lp_len (c : Onewire) (x : Item) : (lp c.T (prs x)).length ≤ 16 := by
  have h8 := prs_len x
  have hp := pairs_lp c.T (prs x) (prs_ne x)
  have : ∀ ps : List (Int × Int), (pairsR c.T ps).length = 2 * ps.length := by
    intro ps; induction ps with
    | nil => rfl
    | cons p ps ih => simp only [pairsR, List.length_cons, ih]; omega
  have := this (prs x)
  rw [hp, List.length_append, List.length_singleton] at this
  omega
def Good2 (c : Onewire) (e : List Run) (p : Option (List Run × Int)) : Prop := p = some (e, 0) ∧ e.length ≤ 100000
theorem fin_good2 (M : Nat) (hM : 200000 < M) (c : Onewire) (hc : OkC c) (pre : List Run) (W : Int) (want : List Event) (h : Inv c pre W want) (hl : pre.length ≤ 5000) (hb : sumR pre + (W + 8 * c.T) ≤ 1099511627776) : onewire_Encode_l29 M M 0 ((pre ++ [Run.mk 1 (W + 8 * c.T)]).length : Int) 0 (pre ++ [Run.mk 1 (W + 8 * c.T)]) = some (pre ++ [Run.mk 1 (W + 8 * c.T)], 0) ∧ ref25_fitting M (pre ++ [Run.mk 1 (W + 8 * c.T)]) = some (pre ++ [Run.mk 1 (W + 8 * c.T)], 0) := by
  have hc' := hc
  unfold OkC at hc'
  obtain ⟨h1, h2, h3, h4⟩ := h
  have ha : AltR 1 (pre ++ [Run.mk 1 (W + 8 * c.T)]) := alt_app pre [] 1 W (W + 8 * c.T) h1 (by omega) trivial
  have hs : sumR (pre ++ [Run.mk 1 (W + 8 * c.T)]) = sumR pre + (W + 8 * c.T) := by rw [sumR_append]; simp [sumR]
  have hlen : (pre ++ [Run.mk 1 (W + 8 * c.T)]).length = pre.length + 1 := by simp
  exact ⟨enc29_is M _ (by omega) (by omega) ha (by omega) (pre ++ [Run.mk 1 (W + 8 * c.T)]) 1 0 M 0 rfl (by omega) ha (by omega) (by omega), fit_is M _ (by omega) (by omega) ha (by omega)⟩
noncomputable def chkA (M : Nat) (x : Item) : Int := (onewire_refused M x).getD 0
theorem chk_is (M : Nat) (x : Item) : onewire_refused M x = some (chkA M x) := by
  obtain ⟨v, hv⟩ := refused_some M x
  unfold chkA; rw [hv]; rfl
noncomputable def errA (M : Nat) : List Item → Int
  | [] => 0
  | x :: l => if chkA M x = 0 then errA M l else chkA M x
theorem err_ok1 {M : Nat} {x : Item} (l : List Item) (h : chkA M x = 0) : errA M (x :: l) = errA M l := by
  show (if chkA M x = 0 then errA M l else chkA M x) = _
  rw [if_pos h]
theorem err_bad1 {M : Nat} {x : Item} (l : List Item) (h : chkA M x ≠ 0) : errA M (x :: l) = chkA M x := by
  show (if chkA M x = 0 then errA M l else chkA M x) = _
  rw [if_neg h]
theorem err_ok (M : Nat) : ∀ (l : List Item), errA M l = 0 → ∀ x, x ∈ l → OkW x
  | [], _, x, hx => by cases hx
  | y :: l, h, x, hx => by
    by_cases c : chkA M y = 0
    · rw [err_ok1 l c] at h
      rcases List.mem_cons.1 hx with rfl | hx
      · exact refused_ok M x (by rw [chk_is, c])
      · exact err_ok M l h x hx
    · rw [err_bad1 l c] at h; exact absurd h c
theorem p_l15 (M : Nat) (hM : 200000 < M) (l : List Item) (hl : l.length ≤ 12) (c : Onewire) (hc : OkC c) : ∀ (r : List Item) (i m : Nat) (pre : List Run) (W : Int) (want : List Event), l.drop i = r → r.length < m → (∀ x, x ∈ r → OkW x) → Inv c pre W want → i ≤ 12 → pre.length ≤ 100 * i → sumR pre + W ≤ 100000000 * (i : Int) + 10000000 → (l = [] → pre = [] ∧ W = 8 * c.T) → onewire_Encode_l15 M m (l.length : Int) (i : Int) l c (pre ++ [Run.mk 1 W]) = some (finR c r pre W, 0) ∧ (finR c r pre W).length ≤ 100000
  | r, i, 0, pre, W, want, _, hm, _, _, _, _, _, _ => by omega
  | [], i, m + 1, pre, W, want, hr, hm, hok, hI, hi12, hpl, hb, hnil => by
    have h0 := drop_nil hr
    have hc' := hc
    unfold OkC at hc'
    have hi : l.length ≤ i := h0
    have hlen : ((pre ++ [Run.mk 1 W]).length : Int) = (pre.length : Int) + 1 := by simp
    have h3 := hI.2.2.1
    have hW := hI.2.1
    have hset : ∀ y, (pre ++ [Run.mk 1 W]).set pre.length y = pre ++ [y] := fun y => by simp
    have hg : (pre ++ [Run.mk 1 W]).getD pre.length dflt_Run = Run.mk 1 W := by simp
    have hle : sumR pre + W ≤ 5000000000 := by omega
    have hpl2 : pre.length ≤ 1200 := by omega
    refine ⟨?_, by simp only [finR, List.length_append, List.length_singleton]; omega⟩
    simp only [onewire_Encode_l15, b_onewire_Encode_l15, hlen, finR]
    rw [bif_neg (by omega), i64_ok (n := (pre.length : Int) + 1 - 1) (by omega), show ((pre.length : Int) + 1 - 1).toNat = pre.length by omega, hg, hset, i64_ok (n := 8 * c.T) (by omega), i64_ok (n := W + 8 * c.T) (by omega), bif_pos (by omega), bif_pos (by omega), bif_pos (by omega), bif_pos (by omega), beq_if]
    by_cases hz : (l.length : Int) = 0
    · obtain ⟨rfl, rfl⟩ := hnil (List.eq_nil_of_length_eq_zero (by omega))
      rw [if_pos hz, bif_pos (by simp)]
      have hfin := (fin_good2 M hM c hc [] (8 * c.T) want hI (by simp) (by omega)).1
      have e16 : 8 * c.T + 8 * c.T = 16 * c.T := by omega
      rw [e16] at hfin ⊢
      simp only [List.nil_append, List.set_cons_zero, List.getD_cons_zero, i64_ok (n := 16 * c.T) (by omega)] at hfin ⊢
      exact hfin
    · rw [if_neg hz]
      exact (fin_good2 M hM c hc pre W want hI (by omega) (by omega)).1
  | x :: r, i, m + 1, pre, W, want, hr, hm, hok, hI, hi12, hpl, hb, hnil => by
    obtain ⟨h1, h2, h3, h4, h5⟩ := drop_cons hr dflt_Item
    have hc' := hc
    unfold OkC at hc'
    have hx := hok x (by simp)
    have hd := dur_b c.T hc' x
    have hW := hI.2.1
    have hsp := hI.2.2.1
    simp only [List.length_cons] at hm
    unfold OkW at hx
    obtain ⟨n1, n2⟩ := inv_step c hc pre W want hI x hx.1 ⟨hx.2.2.1, hx.2.2.2⟩ (by omega)
    have hlen : ((pre ++ [Run.mk 1 W]).length : Int) = (pre.length : Int) + 1 := by simp
    have hll := lp_len c x
    have h8 := prs_len x
    have hg : (pre ++ [Run.mk 1 W]).getD pre.length dflt_Run = Run.mk 1 W := by simp
    have hset : ∀ y, (pre ++ [Run.mk 1 W]).set pre.length y = pre ++ [y] := fun y => by simp
    have e19 := enc19_is M (fun a b l c out => onewire_Encode_l15 M m a b l c out) (l.length : Int) (i : Int) l c hc (flat (prs x)) (by rw [flat_len]; omega) (prs x) 0 M (pre ++ [Run.mk 1 (W + x.Gap)]) rfl rfl (by omega) (prs_pos x) (by simp; omega)
    have hout : pre ++ [Run.mk 1 (W + x.Gap)] ++ pairsR c.T (prs x) = (pre ++ Run.mk 1 (W + x.Gap) :: lp c.T (prs x)) ++ [Run.mk 1 ((lastA x).2 * c.T)] := by
      rw [pairs_lp c.T (prs x) (prs_ne x), prs_last]; simp
    rw [hout, next_i i (by omega)] at e19
    have ih := p_l15 M hM l hl c hc r (i + 1) m _ _ _ h3 (by omega) (fun y hy => hok y (by simp [hy])) n1 (by omega) (by simp; omega) (by rw [n2]; omega) (fun hn => by rw [hn] at h2; simp at h2)
    refine ⟨?_, ih.2⟩
    simp only [onewire_Encode_l15, b_onewire_Encode_l15, h1, units_is M (by omega) x hx.2.2.1, Option.bind_some, hlen]
    rw [bif_pos (by omega), bif_pos (by omega), bif_pos (by omega), i64_ok (n := (pre.length : Int) + 1 - 1) (by omega), bif_pos (by omega), bif_pos (by omega), bif_pos (by omega), bif_pos (by omega)]
    rw [show ((pre.length : Int) + 1 - 1).toNat = pre.length by omega]
    rw [hg, hset, i64_ok (n := W + x.Gap) (by omega)]
    exact e19.trans ih.1
theorem r_l8 (M : Nat) (hM : 200000 < M) (l : List Item) (hl : l.length ≤ 12) (c : Onewire) (hc : OkC c) : ∀ (r : List Item) (i m : Nat) (pre : List Run) (W : Int) (want : List Event), l.drop i = r → r.length < m → Inv c pre W want → i ≤ 12 → pre.length ≤ 100 * i → sumR pre + W ≤ 100000000 * (i : Int) + 10000000 → ref25_Encode_l8 M m (i : Int) l c (pre ++ [Run.mk 1 W]) = some (if errA M r = 0 then (finR c r pre W, 0) else ([], errA M r))
  | r, i, 0, pre, W, want, _, hm, _, _, _, _ => by omega
  | [], i, m + 1, pre, W, want, hr, hm, hI, hi12, hpl, hb => by
    have h0 := drop_nil hr
    have hc' := hc
    unfold OkC at hc'
    have h3 := hI.2.2.1
    have hW := hI.2.1
    have hle : sumR pre + W ≤ 5000000000 := by omega
    have hpl2 : pre.length ≤ 1200 := by omega
    simp only [ref25_Encode_l8, b_ref25_Encode_l8, errA, if_true, finR]
    rw [bif_neg (by omega), i64_ok (n := 8 * c.T) (by omega), add_same M pre W (8 * c.T) (by omega) (by omega) (by omega), Option.bind_some, (fin_good2 M hM c hc pre W want hI (by omega) (by omega)).2]
    rfl
  | x :: r, i, m + 1, pre, W, want, hr, hm, hI, hi12, hpl, hb => by
    obtain ⟨h1, h2, h3, h4, h5⟩ := drop_cons hr dflt_Item
    have hc' := hc
    unfold OkC at hc'
    have hW := hI.2.1
    have hsp := hI.2.2.1
    simp only [List.length_cons] at hm
    simp only [ref25_Encode_l8, b_ref25_Encode_l8, h1, wrong_same, chk_is, Option.bind_some, bne_if]
    rw [bif_pos (by omega), bif_pos (by omega), bif_pos (by omega)]
    by_cases hz : chkA M x = 0
    · have hx := refused_ok M x (by rw [chk_is, hz])
      have hd := dur_b c.T hc' x
      have hll := lp_len c x
      have h8 := prs_len x
      unfold OkW at hx
      obtain ⟨n1, n2⟩ := inv_step c hc pre W want hI x hx.1 ⟨hx.2.2.1, hx.2.2.2⟩ (by omega)
      have hout : pre ++ [Run.mk 1 (W + x.Gap)] ++ pairsR c.T (prs x) = (pre ++ Run.mk 1 (W + x.Gap) :: lp c.T (prs x)) ++ [Run.mk 1 ((lastA x).2 * c.T)] := by
        rw [pairs_lp c.T (prs x) (prs_ne x), prs_last]; simp
      have e16 := ref_l16 M (fun i l c out => ref25_Encode_l8 M m i l c out) (i : Int) l c hc (flat (prs x)) (by rw [flat_len]; omega) (prs x) 0 M pre (W + x.Gap) rfl rfl (by omega) (prs_pos x) (by omega) (by omega)
      rw [hout, next_i i (by omega)] at e16
      have ih := r_l8 M hM l hl c hc r (i + 1) m _ _ _ h3 (by omega) n1 (by omega) (by simp; omega) (by rw [n2]; omega)
      rw [if_pos hz, err_ok1 r hz, add_same M pre W x.Gap (by omega) hx.1 (by omega)]
      simp only [bif_pos (show (0 : Int) ≤ (i : Int) by omega), bif_pos (show (i : Int) < (l.length : Int) by omega), Option.bind_some, widths_is M (show 10 < M by omega) x hx.2.2.1]
      exact e16.trans ih
    · rw [if_neg hz, err_bad1 r hz, if_neg hz]
theorem p_l7 (M : Nat) (l : List Item) (hl : l.length ≤ 12) (c : Onewire) : ∀ (r : List Item) (i m : Nat), l.drop i = r → r.length < m → onewire_Encode_l7 M m (l.length : Int) (i : Int) l c = if errA M r = 0 then onewire_Encode_l15 M M (l.length : Int) 0 l c [Run.mk 1 (IntKind.i64.wrap (8 * c.T))] else some ([], errA M r)
  | r, i, 0, _, hm => by omega
  | [], i, m + 1, hr, hm => by
    have := drop_nil hr
    simp only [onewire_Encode_l7, b_onewire_Encode_l7, errA, if_true]
    rw [bif_neg (by omega)]
  | x :: r, i, m + 1, hr, hm => by
    obtain ⟨h1, h2, h3, h4, h5⟩ := drop_cons hr dflt_Item
    simp only [List.length_cons] at hm
    simp only [onewire_Encode_l7, b_onewire_Encode_l7, h1, chk_is, Option.bind_some, next_i i (by omega)]
    rw [bif_pos (by omega), bif_pos (by omega), bif_pos (by omega), bne_if]
    by_cases h0 : chkA M x = 0
    · rw [if_pos h0, err_ok1 r h0]
      exact p_l7 M l hl c r (i + 1) m h3 (by omega)
    · rw [if_neg h0, err_bad1 r h0, if_neg h0]
theorem enc_both (M : Nat) (hM : 200000 < M) (l : List Item) (hl : l.length ≤ 12) (c : Onewire) : ∃ r e, onewire_Encode M c l = some (r, e) ∧ ref25_Encode M c l = some (r, e) ∧ r.length ≤ 100000 := by
  have hck : ref25_Check M c = onewire_Check M c := by simp only [ref25_Check, b_ref25_Check, onewire_Check, b_onewire_Check]
  simp only [onewire_Encode, b_onewire_Encode, ref25_Encode, b_ref25_Encode, hck, check_is, Option.bind_some, bne_if]
  by_cases hc : OkC c
  · have hc' := hc
    unfold OkC at hc'
    rw [if_pos hc, if_pos rfl, if_pos rfl, bif_neg (by omega), bif_neg (by omega), i64_ok (n := 8 * c.T) (by omega), add_nil M _ (by omega), Option.bind_some]
    have h7 := p_l7 M l hl c l 0 M rfl (by omega)
    have h8 := r_l8 M hM l hl c hc l 0 M [] (8 * c.T) [] rfl (by omega) (inv_base c hc) (by omega) (by simp) (by simp only [sumR]; omega)
    rw [i64_ok (n := 8 * c.T) (by omega)] at h7
    by_cases he : errA M l = 0
    · rw [if_pos he] at h7 h8
      have h15 := p_l15 M hM l hl c hc l 0 M [] (8 * c.T) [] rfl (by omega) (err_ok M l he) (inv_base c hc) (by omega) (by simp) (by simp only [sumR]; omega) (fun _ => ⟨rfl, rfl⟩)
      exact ⟨_, 0, h7.trans h15.1, h8, h15.2⟩
    · rw [if_neg he] at h7 h8
      exact ⟨[], _, h7, h8, by simp⟩
  · rw [if_neg hc, if_neg (show ¬ (2 : Int) = 0 by omega), if_neg (show ¬ (2 : Int) = 0 by omega)]
    exact ⟨[], 2, rfl, rfl, by simp⟩
theorem lsame_l4 (M : Nat) (a : List Run) (ha : a.length < 9223372036854775807) : ∀ (k i m : Nat), i + k = a.length → k < m → law25_same_l4 M m (i : Int) a a = some true
  | k, i, 0, _, hm => by omega
  | 0, i, m + 1, hi, hm => by
    simp only [law25_same_l4, b_law25_same_l4]
    rw [bif_neg (by omega)]
  | k + 1, i, m + 1, hi, hm => by
    simp only [law25_same_l4, b_law25_same_l4, beq_self_eq_true, Bool.and_self, Bool.not_true, Bool.cond_false]
    rw [bif_pos (by omega), bif_pos (by omega), bif_pos (by omega), next_i i (by omega)]
    simp only [bif_pos (show (0 : Int) ≤ (i : Int) by omega), bif_pos (show (i : Int) < (a.length : Int) by omega)]
    exact lsame_l4 M a ha k (i + 1) m (by omega) (by omega)
theorem lsame_self (M : Nat) (a : List Run) (ha : a.length < 9223372036854775807) (hM : a.length < M) : law25_same M a a = some true := by
  simp only [law25_same, b_law25_same, bne_self_eq_false, Bool.cond_false]
  exact lsame_l4 M a ha a.length 0 M (by omega) hM
theorem OnewireEncodes_true (c : Onewire) (l : List Item) (hc : wf_Onewire c) (hl : (∀ x, x ∈ l → wf_Item x) ∧ l.length * Try.prog.bytesOf 53 ≤ 140737488351232) : ∃ M, law25_OnewireEncodes M c l = some true := by
  refine ⟨500000, ?_⟩
  obtain ⟨b, hb, hb2⟩ := tiny_is 500000 l (by omega)
  simp only [law25_OnewireEncodes, b_law25_OnewireEncodes, hb, Option.bind_some, awake_true 500000 (by omega)]
  cases b with
  | false => rfl
  | true =>
    obtain ⟨r, e, e1, e2, e3⟩ := enc_both 500000 (by omega) l (hb2 rfl) c
    simp only [e1, e2, Option.bind_some, Bool.not_true, Bool.cond_false, lsame_self 500000 r (by omega) (by omega), Bool.cond_true, beq_self_eq_true]
end Go.Abs.K
