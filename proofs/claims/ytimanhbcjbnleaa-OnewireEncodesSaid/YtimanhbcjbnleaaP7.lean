/- ONEWIRE: each item is decoded as one event. -/
import Derived.Test.YtimanhbcjbnleaaP6
set_option linter.unusedVariables false
set_option linter.unusedSimpArgs false
namespace Go.Abs.K
open Go Go.Abs Go.Proofs

theorem lev_ok (lv : Int) (h : lv = 0 ∨ lv = 1) : IntKind.i64.wrap (((BitVec.ofInt 64 lv &&& ~~~BitVec.ofInt 64 1).toNat : Int)) = 0 := by
  rcases h with rfl | rfl <;> rfl
theorem valid_is (M : Nat) (l : List Run) (hl : l.length ≤ 100000) : ∀ (r : List Run) (lv : Int) (i m : Nat) (left : Int), l.drop i = r → r.length < m → AltR lv r → (lv = 0 ∨ lv = 1) → sumR r ≤ left → left ≤ 1099511627776 → wave_Valid_l5 M m left (l.length : Int) (i : Int) l = some true
  | r, lv, i, 0, left, _, hm, _, _, _, _ => by omega
  | [], lv, i, m + 1, left, hr, hm, _, _, _, _ => by
    have := drop_nil hr
    simp only [wave_Valid_l5, b_wave_Valid_l5]
    rw [bif_neg (by omega)]
  | x :: r, lv, i, m + 1, left, hr, hm, ha, hlv, hs, hb => by
    obtain ⟨h1, h2, h3, h4, h5⟩ := drop_cons hr dflt_Run
    obtain ⟨a1, a2, a3⟩ := ha
    have hn := sumR_nn r _ a3
    simp only [List.length_cons] at hm
    simp only [sumR] at hs
    simp only [wave_Valid_l5, b_wave_Valid_l5, h1, next_i i (by omega), bne_if]
    rw [bif_pos (by omega), bif_pos (by omega), bif_pos (by omega), if_pos (lev_ok _ (by rw [a1]; exact hlv)), bif_neg (by omega), bif_neg (by omega), i64_ok (by omega)]
    exact valid_is M l hl r (1 - lv) (i + 1) m _ h3 (by omega) a3 (by omega) (by omega) (by omega)
theorem joined_is (M : Nat) (l : List Run) (hl : l.length ≤ 100000) : ∀ (r : List Run) (lv : Int) (i m : Nat) (acc : List Run), l.drop i = r → r.length < m → AltR lv r → acc.length + r.length ≤ 100000 → (acc = [] ∨ ∃ a y, acc = a ++ [y] ∧ y.Level = 1 - lv) → (lv = 0 ∨ lv = 1) → wave_joined_l3 M m (l.length : Int) (i : Int) acc l = some (acc ++ r)
  | r, lv, i, 0, acc, _, hm, _, _, _, _ => by omega
  | [], lv, i, m + 1, acc, hr, hm, _, _, _, _ => by
    have := drop_nil hr
    simp only [wave_joined_l3, b_wave_joined_l3]
    rw [bif_neg (by omega)]; simp
  | x :: r, lv, i, m + 1, acc, hr, hm, ha, ho, hacc, hlv => by
    obtain ⟨h1, h2, h3, h4, h5⟩ := drop_cons hr dflt_Run
    obtain ⟨a1, a2, a3⟩ := ha
    simp only [List.length_cons] at hm ho
    have ih := joined_is M l hl r (1 - lv) (i + 1) m (acc ++ [x]) h3 (by omega) a3 (by simp; omega) (.inr ⟨acc, x, rfl, by omega⟩) (by omega)
    simp only [wave_joined_l3, b_wave_joined_l3, h1, next_i i (by omega)]
    rw [bif_pos (by omega), bif_pos (by omega), bif_pos (by omega)]
    simp only [bif_pos (show (acc.length + 1) * 16 ≤ 140737488355328 by omega), ih]
    rcases hacc with rfl | ⟨a, y, rfl, hy⟩
    · rw [bif_neg (by simp)]; simp
    · have hlen : ((a ++ [y]).length : Int) = (a.length : Int) + 1 := by simp
      rw [hlen, bif_pos (by omega), i64_ok (n := (a.length : Int) + 1 - 1) (by simp at ho; omega)]
      rw [show ((a.length : Int) + 1 - 1).toNat = a.length by omega]
      have hg : (a ++ [y]).getD a.length dflt_Run = y := by simp
      rw [hg, bif_pos (by omega), bif_pos (by omega), beq_if, if_neg (by omega)]
      simp
theorem clean_is (M : Nat) (l : List Run) (hl : l.length ≤ 100000) (hM : l.length < M) (ha : AltR 1 l) (hs : sumR l ≤ 1099511627776) : wave_Clean M l = some l := by
  have h1 : wave_Valid M l = some true := by
    simp only [wave_Valid, b_wave_Valid]
    rw [bif_neg (by omega)]
    exact valid_is M l hl l 1 0 M _ rfl hM ha (.inr rfl) hs (by omega)
  have h2 : wave_joined M l = some l := by
    simp only [wave_joined, b_wave_joined]
    exact joined_is M l hl l 1 0 M [] rfl hM ha (by simpa using hl) (.inl rfl) (.inr rfl)
  simp only [wave_Clean, b_wave_Clean, h1, h2, Option.bind_some]
  rfl
theorem enc29_is (M : Nat) (l : List Run) (hl : l.length ≤ 100000) (hM : l.length < M) (ha : AltR 1 l) (hs : sumR l ≤ 1099511627776) : ∀ (r : List Run) (lv : Int) (i m : Nat) (tot : Int), l.drop i = r → r.length < m → AltR lv r → 0 ≤ tot → tot + sumR r = sumR l → onewire_Encode_l29 M m tot (l.length : Int) (i : Int) l = some (l, 0)
  | r, lv, i, 0, tot, _, hm, _, _, _ => by omega
  | [], lv, i, m + 1, tot, hr, hm, _, h0, ht => by
    have := drop_nil hr
    simp only [sumR] at ht
    simp only [onewire_Encode_l29, b_onewire_Encode_l29, clean_is M l hl hM ha hs, Option.bind_some]
    rw [bif_neg (by omega), bif_neg (by omega), bif_neg (by omega)]
  | x :: r, lv, i, m + 1, tot, hr, hm, hx, h0, ht => by
    obtain ⟨h1, h2, h3, h4, h5⟩ := drop_cons hr dflt_Run
    obtain ⟨a1, a2, a3⟩ := hx
    have hn := sumR_nn r _ a3
    simp only [List.length_cons] at hm
    simp only [sumR] at ht
    simp only [onewire_Encode_l29, b_onewire_Encode_l29, h1, next_i i (by omega)]
    rw [bif_pos (by omega), bif_pos (by omega), bif_pos (by omega), i64_ok (by omega)]
    exact enc29_is M l hl hM ha hs r _ (i + 1) m _ h3 (by omega) a3 (by omega) (by omega)
theorem flat_len : ∀ (ps : List (Int × Int)), (flat ps).length = 2 * ps.length
  | [] => rfl
  | p :: ps => by simp only [flat, List.length_cons, flat_len ps]; omega
theorem mulb (a T : Int) (h : 1 ≤ a ∧ a ≤ 32) (hT : 1 ≤ T ∧ T ≤ 1048576) : 1 ≤ a * T ∧ a * T ≤ 33554432 := by
  have h1 := mul1 a T h.1 hT.1
  have h2 : a * T ≤ 32 * 1048576 := Int.mul_le_mul h.2 hT.2 (by omega) (by omega)
  omega
theorem enc19_is (M : Nat) (q : Int → Int → List Item → Onewire → List Run → Option (List Run × Int)) (a b : Int) (l : List Item) (c : Onewire) (hc : OkC c) (u : List Int) (hu : u.length ≤ 1000) : ∀ (ps : List (Int × Int)) (i m : Nat) (out : List Run), u.drop i = flat ps → i % 2 = 0 → 2 * ps.length < m → (∀ p, p ∈ ps → 1 ≤ p.1 ∧ 1 ≤ p.2 ∧ p.1 ≤ 32 ∧ p.2 ≤ 32) → out.length + 2 * ps.length ≤ 50000 → onewire_Encode_l19 M q m a b (u.length : Int) (i : Int) l c out u = q a (IntKind.i64.wrap (b + 1)) l c (out ++ pairsR c.T ps)
  | ps, i, 0, out, _, _, hm, _, _ => by omega
  | [], i, m + 1, out, hr, hi, hm, _, ho => by
    have := drop_nil hr
    simp only [onewire_Encode_l19, b_onewire_Encode_l19]
    rw [bif_neg (by omega)]; simp [pairsR]
  | p :: ps, i, 1, out, hr, hi, hm, hp, ho => by simp only [List.length_cons] at hm; omega
  | p :: ps, i, m + 2, out, hr, hi, hm, hp, ho => by
    obtain ⟨h1, h2, h3, h4, h5⟩ := drop_cons (r := p.2 :: flat ps) hr 0
    obtain ⟨g1, g2, g3, g4, g5⟩ := drop_cons h3 0
    have hq := hp p (by simp)
    have hc' := hc
    unfold OkC at hc'
    have m1 := mulb p.1 c.T ⟨hq.1, hq.2.2.1⟩ hc'
    have m2 := mulb p.2 c.T ⟨hq.2.1, hq.2.2.2⟩ hc'
    simp only [List.length_cons] at hm ho
    have t1 : ((i : Nat) : Int).tmod 2 = 0 := by rw [Int.tmod_eq_emod_of_nonneg (by omega)]; omega
    have t2 : ((i + 1 : Nat) : Int).tmod 2 = 1 := by rw [Int.tmod_eq_emod_of_nonneg (by omega)]; omega
    simp only [onewire_Encode_l19, b_onewire_Encode_l19, next_i i (by omega), next_i (i + 1) (by omega), h1, g1, t1, t2]
    rw [bif_pos (by omega), bif_pos (by omega), bif_pos (by omega), bif_pos (by omega), bif_pos (by omega), bif_pos (by omega), bif_pos (by omega), bif_pos (by simp; omega), i64_ok (n := p.1 * c.T) (by omega), i64_ok (n := p.2 * c.T) (by omega)]
    have := enc19_is M q a b l c hc u hu ps (i + 2) m (out ++ [Run.mk 0 (p.1 * c.T)] ++ [Run.mk 1 (p.2 * c.T)]) g3 (by omega) (by omega) (fun q hq => hp q (by simp [hq])) (by simp; omega)
    refine Eq.trans this ?_
    simp [pairsR]
def OkW (x : Item) : Prop := 0 ≤ x.Gap ∧ x.Gap ≤ 1048576 ∧ 0 ≤ x.Value ∧ x.Value ≤ 255
theorem refused_ok (M : Nat) (x : Item) (h : onewire_refused M x = some 0) : OkW x := by
  simp only [onewire_refused, b_onewire_refused, bif_if] at h
  unfold OkW
  by_cases c1 : x.Gap < 0
  · rw [if_pos c1] at h; injection h with h; omega
  rw [if_neg c1] at h
  by_cases c2 : x.Gap > 1048576
  · rw [if_pos c2] at h; injection h with h; omega
  rw [if_neg c2] at h
  by_cases c3 : (x.Data.size : Int) > 4096
  · rw [if_pos c3] at h; injection h with h; omega
  rw [if_neg c3] at h
  by_cases c4 : x.Aux < 0
  · rw [if_pos c4] at h; injection h with h; omega
  rw [if_neg c4] at h
  by_cases c5 : x.Aux > 2
  · rw [if_pos c5] at h; injection h with h; omega
  rw [if_neg c5] at h
  by_cases c6 : x.Value < 0
  · rw [if_pos c6] at h; injection h with h; omega
  rw [if_neg c6] at h
  by_cases c7 : x.Value > 255
  · rw [if_pos c7] at h; injection h with h; omega
  omega
/-- What is to be decoded of items that are sent from t on. -/
def wantA (T : Int) : Int → List Item → List Event
  | _, [] => []
  | t, x :: r => sentA T x (t + x.Gap) :: wantA T (t + x.Gap + durA T x) r
theorem dur_b (T : Int) (hT : 1 ≤ T ∧ T ≤ 1048576) (x : Item) : 0 ≤ durA T x ∧ durA T x ≤ 67108864 := by
  unfold durA
  repeat' split
  all_goals omega
def Good (c : Onewire) (want : List Event) (p : Option (List Run × Int)) : Prop := ∃ r, p = some (r, 0) ∧ r.length ≤ 100000 ∧ decA c (levA 0 r) = want
theorem fin_good (M : Nat) (hM : 200000 < M) (c : Onewire) (hc : OkC c) (pre : List Run) (W : Int) (want : List Event) (h : Inv c pre W want) (hl : pre.length ≤ 5000) (hb : sumR pre + (W + 8 * c.T) ≤ 1099511627776) : Good c want (onewire_Encode_l29 M M 0 ((pre ++ [Run.mk 1 (W + 8 * c.T)]).length : Int) 0 (pre ++ [Run.mk 1 (W + 8 * c.T)])) := by
  have hc' := hc
  unfold OkC at hc'
  obtain ⟨h1, h2, h3, h4⟩ := h
  have ha : AltR 1 (pre ++ [Run.mk 1 (W + 8 * c.T)]) := alt_app pre [] 1 W (W + 8 * c.T) h1 (by omega) trivial
  have hs : sumR (pre ++ [Run.mk 1 (W + 8 * c.T)]) = sumR pre + (W + 8 * c.T) := by rw [sumR_append]; simp [sumR]
  have hlen : (pre ++ [Run.mk 1 (W + 8 * c.T)]).length = pre.length + 1 := by simp
  refine ⟨pre ++ [Run.mk 1 (W + 8 * c.T)], ?_, by omega, ?_⟩
  · exact enc29_is M _ (by omega) (by omega) ha (by omega) (pre ++ [Run.mk 1 (W + 8 * c.T)]) 1 0 M 0 rfl (by omega) ha (by omega) (by omega)
  · rw [levA_eq _ 1 0 ha (by omega) (by omega)]
    unfold decA
    rw [h4 (W + 8 * c.T) (by omega) (by omega)]
    unfold endA
    rw [if_pos hc]
    simp
theorem enc15_is (M : Nat) (hM : 200000 < M) (l : List Item) (hl : l.length ≤ 12) (c : Onewire) (hc : OkC c) : ∀ (r : List Item) (i m : Nat) (pre : List Run) (W : Int) (want : List Event), l.drop i = r → r.length < m → (∀ x, x ∈ r → OkW x) → Inv c pre W want → i ≤ 12 → pre.length ≤ 100 * i → sumR pre + W ≤ 100000000 * (i : Int) + 10000000 → (l = [] → pre = [] ∧ W = 8 * c.T) → Good c (want ++ wantA c.T (sumR pre + W) r) (onewire_Encode_l15 M m (l.length : Int) (i : Int) l c (pre ++ [Run.mk 1 W]))
  | r, i, 0, pre, W, want, _, hm, _, _, _, _, _, _ => by omega
  | [], i, m + 1, pre, W, want, hr, hm, hok, hI, hi12, hpl, hb, hnil => by
    have h0 := drop_nil hr
    have hc' := hc
    unfold OkC at hc'
    have hi : l.length ≤ i := h0
    have hlen : ((pre ++ [Run.mk 1 W]).length : Int) = (pre.length : Int) + 1 := by simp
    have h3 := hI.2.2.1
    have hW := hI.2.1
    have hset : ∀ y, (pre ++ [Run.mk 1 W]).set pre.length y = pre ++ [y] := fun y => by simp
    have hg : (pre ++ [Run.mk 1 W]).getD pre.length dflt_Run = Run.mk 1 W := by simp
    have hle : sumR pre + W ≤ 5000000000 := by omega
    have hpl2 : pre.length ≤ 1200 := by omega
    simp only [onewire_Encode_l15, b_onewire_Encode_l15, hlen]
    rw [bif_neg (by omega), i64_ok (n := (pre.length : Int) + 1 - 1) (by omega), show ((pre.length : Int) + 1 - 1).toNat = pre.length by omega, hg, hset, i64_ok (n := 8 * c.T) (by omega), i64_ok (n := W + 8 * c.T) (by omega), bif_pos (by omega), bif_pos (by omega), bif_pos (by omega), bif_pos (by omega), beq_if]
    have hw : want ++ wantA c.T (sumR pre + W) [] = want := by simp [wantA]
    rw [hw]
    by_cases hz : (l.length : Int) = 0
    · obtain ⟨rfl, rfl⟩ := hnil (List.eq_nil_of_length_eq_zero (by omega))
      rw [if_pos hz, bif_pos (by simp)]
      have hfin := fin_good M hM c hc [] (8 * c.T) want hI (by simp) (by omega)
      have e16 : 8 * c.T + 8 * c.T = 16 * c.T := by omega
      rw [e16] at hfin ⊢
      simp only [List.nil_append, List.set_cons_zero, List.getD_cons_zero, i64_ok (n := 16 * c.T) (by omega)] at hfin ⊢
      exact hfin
    · rw [if_neg hz]
      exact fin_good M hM c hc pre W want hI (by omega) (by omega)
  | x :: r, i, m + 1, pre, W, want, hr, hm, hok, hI, hi12, hpl, hb, hnil => by
    obtain ⟨h1, h2, h3, h4, h5⟩ := drop_cons hr dflt_Item
    have hc' := hc
    unfold OkC at hc'
    have hx := hok x (by simp)
    have hd := dur_b c.T hc' x
    have hW := hI.2.1
    have hsp := hI.2.2.1
    simp only [List.length_cons] at hm
    unfold OkW at hx
    obtain ⟨n1, n2⟩ := inv_step c hc pre W want hI x hx.1 ⟨hx.2.2.1, hx.2.2.2⟩ (by omega)
    have hlen : ((pre ++ [Run.mk 1 W]).length : Int) = (pre.length : Int) + 1 := by simp
    have hll : (lp c.T (prs x)).length ≤ 16 := by
      have h8 := prs_len x
      have hw := wr_wid c.T 1 (prs x) (prs_ne x)
      have : ∀ ps : List (Int × Int), (wr c.T ps).length = 2 * ps.length := by
        intro ps; induction ps with
        | nil => rfl
        | cons p ps ih => simp only [wr, List.length_cons, ih]; omega
      have hwl : ∀ ps : List (Int × Int), (wid c.T 1 ps).length = ps.length := by
        intro ps
        induction ps with
        | nil => rfl
        | cons p ps ih => cases ps with
          | nil => rfl
          | cons q ps => simp only [wid, List.length_cons] at ih ⊢; omega
      have := this (wid c.T 1 (prs x))
      rw [hw, List.length_append, hwl] at this
      simp only [List.length_cons, List.length_nil] at this
      omega
    simp only [onewire_Encode_l15, b_onewire_Encode_l15, h1, units_is M (by omega) x hx.2.2.1, Option.bind_some, hlen]
    rw [bif_pos (by omega), bif_pos (by omega), bif_pos (by omega), i64_ok (n := (pre.length : Int) + 1 - 1) (by omega), bif_pos (by omega), bif_pos (by omega), bif_pos (by omega), bif_pos (by omega)]
    rw [show ((pre.length : Int) + 1 - 1).toNat = pre.length by omega]
    have hg : (pre ++ [Run.mk 1 W]).getD pre.length dflt_Run = Run.mk 1 W := by simp
    have hset : ∀ y, (pre ++ [Run.mk 1 W]).set pre.length y = pre ++ [y] := fun y => by simp
    rw [hg, hset, i64_ok (n := W + x.Gap) (by omega)]
    have h8 := prs_len x
    have e19 := enc19_is M (fun a b l c out => onewire_Encode_l15 M m a b l c out) (l.length : Int) (i : Int) l c hc (flat (prs x)) (by rw [flat_len]; omega) (prs x) 0 M (pre ++ [Run.mk 1 (W + x.Gap)]) rfl rfl (by omega) (prs_pos x) (by simp; omega)
    have hout : pre ++ [Run.mk 1 (W + x.Gap)] ++ pairsR c.T (prs x) = (pre ++ Run.mk 1 (W + x.Gap) :: lp c.T (prs x)) ++ [Run.mk 1 ((lastA x).2 * c.T)] := by
      rw [pairs_lp c.T (prs x) (prs_ne x), prs_last]; simp
    rw [hout, next_i i (by omega)] at e19
    have ih := enc15_is M hM l hl c hc r (i + 1) m _ _ _ h3 (by omega) (fun y hy => hok y (by simp [hy])) n1 (by omega) (by simp; omega) (by rw [n2]; omega) (fun hn => by rw [hn] at h2; simp at h2)
    rw [n2] at ih
    have hw : want ++ wantA c.T (sumR pre + W) (x :: r) = want ++ [sentA c.T x (sumR pre + (W + x.Gap))] ++ wantA c.T (sumR pre + (W + x.Gap) + durA c.T x) r := by
      rw [wantA, show sumR pre + W + x.Gap = sumR pre + (W + x.Gap) by omega]; simp
    rw [hw]
    exact Eq.mpr (congrArg (Good c _) e19) ih
end Go.Abs.K
