/- SAMPLER: levels that are divided; the grid behind one level. -/
import Derived.Test.YtllgkfhpfonjnaaP4
set_option linter.unusedVariables false
set_option linter.unusedSimpArgs false
namespace Go.Abs.K
open Go Go.Abs Go.Proofs

theorem run_one (c : Clock) (s : State) (x : Event) : runA 0 c s [x] = ((stepA c.T_Num c.T_Den s x).1, (stepA c.T_Num c.T_Den s x).2) := by
  simp [runA, stepV]
theorem pre_at (n d : Int) (s : State) (x : Event) (t : Int) : pre n d s { x with To := t } = { pre n d s x with At := t } := by
  unfold pre
  dsimp only
  repeat' split
  all_goals rfl
theorem cut_run (c : Clock) (h : OkR c.T_Num c.T_Den) (s : State) (x : Event) (t : Int) (hw : Wf c.T_Num c.T_Den s) (hi : In s x) (ht : x.From < t ∧ t < x.To) : runA 0 c s [{ x with To := t }, { x with From := t }] = runA 0 c s [x] := by
  obtain ⟨p1, p2, p3, p4, p5, p6, p7, p8, p9⟩ := pre_wf _ _ h s x hw hi
  obtain ⟨g1, g2, g3, g4, g5, g6, g7⟩ := hi
  have hi' : In s x := ⟨g1, g2, g3, g4, g5, g6, g7⟩
  have v1 : Vld { x with To := t } := by unfold Vld at g1 ⊢; dsimp only; omega
  have v2 : Vld { x with From := t } := by unfold Vld at g1 ⊢; dsimp only; omega
  have i1 : In s { x with To := t } := ⟨v1, g2, g3, ht.1, g5, g6, g7⟩
  have e1 : stepA c.T_Num c.T_Den s { x with To := t } = fin { pre c.T_Num c.T_Den s x with At := t } (emitT c.T_Num c.T_Den (pre c.T_Num c.T_Den s x).From x.Value t (pre c.T_Num c.T_Den s x).Count (pre c.T_Num c.T_Den s x).Aux) := by
    unfold stepA
    rw [if_pos i1, pre_at]
  have e2 : stepA c.T_Num c.T_Den s x = fin (pre c.T_Num c.T_Den s x) (emitT c.T_Num c.T_Den (pre c.T_Num c.T_Den s x).From x.Value x.To (pre c.T_Num c.T_Den s x).Count (pre c.T_Num c.T_Den s x).Aux) := by
    unfold stepA
    rw [if_pos hi']
  have two := emitT_two c.T_Num c.T_Den (pre c.T_Num c.T_Den s x).From x.Value t x.To h (by omega) (t - ((pre c.T_Num c.T_Den s x).From + sm c.T_Num c.T_Den (pre c.T_Num c.T_Den s x).Count)).toNat (pre c.T_Num c.T_Den s x).Count (pre c.T_Num c.T_Den s x).Aux p6 (by omega)
  generalize pre c.T_Num c.T_Den s x = q at *
  generalize hr1 : emitT c.T_Num c.T_Den q.From x.Value t q.Count q.Aux = r1 at *
  have i2 : In (fin { q with At := t } r1).1 { x with From := t } := ⟨v2, g2, g3, ht.2, g5, g6, .inr rfl⟩
  have hp : pre c.T_Num c.T_Den (fin { q with At := t } r1).1 { x with From := t } = { q with At := x.To, Count := r1.2.1, Aux := r1.2.2 } := by
    unfold pre fin
    dsimp only
    rw [if_neg (by omega), if_pos p3.symm]
  have e3 : stepA c.T_Num c.T_Den (fin { q with At := t } r1).1 { x with From := t } = fin { q with At := x.To, Count := r1.2.1, Aux := r1.2.2 } (emitT c.T_Num c.T_Den q.From x.Value x.To r1.2.1 r1.2.2) := by
    unfold stepA
    rw [if_pos i2, hp]
  rw [run_one]
  simp only [runA, stepV, if_true, e1, e2, e3, two, List.append_nil]
  have hq : ({ q with At := x.To } : State) = q := by
    cases q; simp only at p2; subst p2; rfl
  unfold fin
  dsimp only
  congr 1
  cases q
  simp only at p2
  subst p2
  rfl
/-- Levels, each one where the one ahead ends. -/
def Ch : Option Int → List Event → Prop
  | _, [] => True
  | o, e :: l => Vld e ∧ e.Kind = 1 ∧ e.Fault = 0 ∧ e.From < e.To ∧ 0 ≤ e.Value ∧ e.Value ≤ 1 ∧ (∀ t, o = some t → e.From = t) ∧ Ch (some e.To) l
def cut1 (x : Event) : Option Int → List Event
  | some t => if x.From < t ∧ t < x.To then [{ x with To := t }, { x with From := t }] else [x]
  | none => [x]
def cutL (cuts : List Int) : Nat → List Event → List Event
  | _, [] => []
  | i, x :: l => cut1 x cuts[i]? ++ cutL cuts (i + 1) l
theorem cut1_yes (x : Event) (t : Int) (h : x.From < t ∧ t < x.To) : cut1 x (some t) = [{ x with To := t }, { x with From := t }] := by
  show (if _ then _ else _) = _
  rw [if_pos h]
theorem cut1_no (x : Event) (t : Int) (h : ¬ (x.From < t ∧ t < x.To)) : cut1 x (some t) = [x] := by
  show (if _ then _ else _) = _
  rw [if_neg h]
theorem cut1_run (c : Clock) (h : OkR c.T_Num c.T_Den) (s : State) (x : Event) (o : Option Int) (hw : Wf c.T_Num c.T_Den s) (hi : In s x) : runA 0 c s (cut1 x o) = runA 0 c s [x] := by
  cases o with
  | none => rfl
  | some t =>
    unfold cut1
    by_cases ht : x.From < t ∧ t < x.To
    · simp only [if_pos ht]; exact cut_run c h s x t hw hi ht
    · simp only [if_neg ht]
theorem cut_all (c : Clock) (h : OkR c.T_Num c.T_Den) (cuts : List Int) : ∀ (l : List Event) (i : Nat) (s : State) (o : Option Int), Ch o l → (s.Phase = 0 ∨ o = some s.At) → Wf c.T_Num c.T_Den s → runA 0 c s (cutL cuts i l) = runA 0 c s l
  | [], i, s, o, _, _, _ => rfl
  | x :: l, i, s, o, hc, hs, hw => by
    obtain ⟨h1, h2, h3, h4, h5, h6, h7, h8⟩ := hc
    have hi : In s x := ⟨h1, h2, h3, h4, h5, h6, by
      rcases hs with hs | hs
      · exact .inl hs
      · exact .inr (h7 _ hs)⟩
    obtain ⟨w1, w2, w3, w4⟩ := step_wf _ _ h s x hw
    have ih := cut_all c h cuts l (i + 1) (stepA c.T_Num c.T_Den s x).1 (some x.To) h8 (.inr (by rw [w3 hi])) w1
    unfold cutL
    rw [run_append, cut1_run c h s x _ hw hi, show x :: l = [x] ++ l from rfl, run_append, run_one]
    dsimp only
    rw [ih]
theorem ch_l2 (M : Nat) (l : List Event) (hl : l.length ≤ 400) : ∀ (r : List Event) (i m : Nat), l.drop i = r → r.length < m → ∃ b, law15_chained_l2 M m (i : Int) l = some b ∧ (b = true → Ch (if i = 0 then none else some (l.getD (i - 1) dflt_Event).To) r)
  | r, i, 0, _, hm => by omega
  | [], i, m + 1, hr, hm => by
    have := drop_nil hr
    simp only [law15_chained_l2, b_law15_chained_l2]
    rw [bif_neg (by omega)]
    exact ⟨true, rfl, fun _ => trivial⟩
  | e :: r, i, m + 1, hr, hm => by
    obtain ⟨h1, h2, h3, h4, h5⟩ := drop_cons hr dflt_Event
    simp only [List.length_cons] at hm
    obtain ⟨b, hb, hb2⟩ := ch_l2 M l hl r (i + 1) m h3 (by omega)
    have hprev : l.getD i dflt_Event = e := by have := h1; rwa [Int.toNat_natCast] at this
    rw [if_neg (by omega), show i + 1 - 1 = i by omega, hprev] at hb2
    have hw : IntKind.i64.wrap ((i : Int) - 1) = ((i : Int) - 1) := i64_ok (by omega)
    simp only [law15_chained_l2, b_law15_chained_l2, h1, bif_if, bne_if, str_beq', next_i i (by omega), hb, hw]
    rw [if_pos (by omega), if_pos (by omega), if_pos (by omega)]
    by_cases c1 : e.Kind = 1
    · rw [if_pos c1]
      by_cases c2 : e.From < 0
      · rw [if_pos c2]; exact ⟨false, rfl, by simp⟩
      rw [if_neg c2]
      by_cases c3 : e.From ≥ e.To
      · rw [if_pos c3]; exact ⟨false, rfl, by simp⟩
      rw [if_neg c3]
      by_cases c4 : e.To > 1099511627776
      · rw [if_pos c4]; exact ⟨false, rfl, by simp⟩
      rw [if_neg c4]
      by_cases c5 : e.Value < 0
      · rw [if_pos c5]; exact ⟨false, rfl, by simp⟩
      rw [if_neg c5]
      by_cases c6 : e.Value > 1
      · rw [if_pos c6]; exact ⟨false, rfl, by simp⟩
      rw [if_neg c6]
      by_cases c7 : e.Fault = 0
      · rw [if_pos c7]
        by_cases c8 : e.Aux = 0
        · rw [if_pos c8]
          by_cases c9 : e.Data = bs []
          · have hv : Vld e := by
              unfold Vld
              have : e.Data.size = 0 := by rw [c9]; rfl
              omega
            have hch : (∀ t, (if i = 0 then none else some (l.getD (i - 1) dflt_Event).To) = some t → e.From = t) → b = true → Ch (if i = 0 then none else some (l.getD (i - 1) dflt_Event).To) (e :: r) := fun hq hbt => ⟨hv, c1, c7, by omega, by omega, by omega, hq, hb2 hbt⟩
            rw [decide_eq_true c9]
            simp only [Bool.not_true, Bool.cond_false]
            by_cases hi : i = 0
            · rw [if_neg (by omega)]
              exact ⟨b, rfl, hch (fun t ht => by rw [if_pos hi] at ht; cases ht)⟩
            · have ht : ((i : Int) - 1).toNat = i - 1 := by omega
              rw [if_pos (show (i : Int) > 0 by omega), if_pos (show (0 : Int) ≤ (i : Int) - 1 by omega), if_pos (show (i : Int) - 1 < (l.length : Int) by omega), ht]
              by_cases c10 : e.From = (l.getD (i - 1) dflt_Event).To
              · rw [if_pos c10]
                exact ⟨b, rfl, hch (fun t ht => by rw [if_neg hi] at ht; injection ht with ht; rw [← ht]; exact c10)⟩
              · rw [if_neg c10]; exact ⟨false, rfl, by simp⟩
          · rw [decide_eq_false c9]; exact ⟨false, rfl, by simp⟩
        · rw [if_neg c8]; exact ⟨false, rfl, by simp⟩
      · rw [if_neg c7]; exact ⟨false, rfl, by simp⟩
    · rw [if_neg c1]; exact ⟨false, rfl, by simp⟩
theorem cutL_len (cuts : List Int) : ∀ (l : List Event) (i : Nat), (cutL cuts i l).length ≤ 2 * l.length
  | [], i => by simp [cutL]
  | x :: l, i => by
    have ih := cutL_len cuts l (i + 1)
    have h1 : (cut1 x cuts[i]?).length ≤ 2 := by
      unfold cut1
      repeat' split
      all_goals simp
    simp only [cutL, List.length_append, List.length_cons]; omega
theorem pieces_l7 {M : Nat} (hM : 10000000000000 < M) {c : Clock} {v : Int} (H : Cf M c v) (l : List Event) (hl : l.length ≤ 400) (cuts : List Int) (hcu : cuts.length ≤ 400) (hch : Ch none l) : ∀ (r : List Event) (i m : Nat) (acc : List Event), l.drop i = r → r.length < m → acc.length + 2 * r.length ≤ 1000 → acc ++ cutL cuts i r = cutL cuts 0 l →
    law15_SamplerPieces_l7 M m (i : Int) l cuts c acc = some true
  | r, i, 0, acc, _, hm, _, _ => by omega
  | [], i, m + 1, acc, hr, hm, ha, he => by
    have := drop_nil hr
    have hd := decA_len H l
    simp only [cutL, List.append_nil] at he
    have hcl := cutL_len cuts l 0
    have hrun : decA v c acc = decA v c l := by
      unfold decA
      rw [he]
      by_cases hv : v = 0
      · subst hv
        rw [cut_all c (H.ok rfl) cuts l 0 st0 none hch (.inl rfl) (.inl rfl)]
      · rw [run_bad v c hv, run_bad v c hv]
    simp only [law15_SamplerPieces_l7, b_law15_SamplerPieces_l7]
    rw [bif_neg (by omega), decode_is (by omega) H l (by omega), decode_is (by omega) H acc (by rw [he]; omega), hrun]
    simp only [Option.bind_some, same_self M (decA v c l) (by omega) (by omega)]
  | x :: r, i, m + 1, acc, hr, hm, ha, he => by
    obtain ⟨h1, h2, h3, h4, h5⟩ := drop_cons hr dflt_Event
    simp only [List.length_cons] at hm ha
    simp only [cutL] at he
    have ih := fun acc' ha' he' => pieces_l7 hM H l hl cuts hcu hch r (i + 1) m acc' h3 (by omega) ha' he'
    simp only [law15_SamplerPieces_l7, b_law15_SamplerPieces_l7, h1, next_i i (by omega)]
    simp only [Int.toNat_natCast, bif_pos (show (i : Int) < (l.length : Int) by omega), bif_pos (show (0 : Int) ≤ (i : Int) by omega), bif_pos (show (acc.length + 1) * 64 ≤ 140737488355328 by omega)]
    rw [bif_if]
    by_cases c1 : (i : Int) < (cuts.length : Int)
    · have hg : cuts[i]? = some (cuts.getD i 0) := by rw [List.getD_eq_getElem?_getD, List.getElem?_eq_getElem (by omega)]; rfl
      rw [hg] at he
      clear hg
      rw [if_pos c1]
      simp only [bif_pos c1]
      rw [bif_if]
      by_cases c2 : x.From < cuts.getD i 0
      · rw [if_pos c2, bif_if]
        by_cases c3 : cuts.getD i 0 < x.To
        · have hcc : cut1 x (some (cuts.getD i 0)) = [{ x with To := cuts.getD i 0 }, { x with From := cuts.getD i 0 }] := cut1_yes x _ ⟨c2, c3⟩
          rw [hcc] at he
          rw [if_pos c3, bif_pos (by simp; omega)]
          exact ih _ (by simp; omega) (by rw [← he]; simp)
        · have hcc : cut1 x (some (cuts.getD i 0)) = [x] := cut1_no x _ (by omega)
          rw [hcc] at he
          rw [if_neg c3]
          exact ih _ (by simp; omega) (by rw [← he]; simp)
      · have hcc : cut1 x (some (cuts.getD i 0)) = [x] := cut1_no x _ (by omega)
        rw [hcc] at he
        rw [if_neg c2]
        exact ih _ (by simp; omega) (by rw [← he]; simp)
    · have hg : cuts[i]? = none := List.getElem?_eq_none (by omega)
      rw [hg] at he
      have hcc : cut1 x none = [x] := rfl
      rw [hcc] at he
      rw [if_neg c1]
      exact ih _ (by simp; omega) (by rw [← he]; simp)
theorem SamplerPieces_true (c : Clock) (l : List Event) (cuts : List Int) (hc : wf_Clock c) (hl : (∀ x, x ∈ l → wf_Event x) ∧ l.length * Try.prog.bytesOf 32 ≤ 140737488351232) (hcu : (∀ x, x ∈ cuts → IntKind.i64.min ≤ x ∧ x ≤ IntKind.i64.max) ∧ cuts.length * Try.prog.bytesOf 3 ≤ 140737488351232) : ∃ M, law15_SamplerPieces M c l cuts = some true := by
  obtain ⟨M, hM⟩ := big
  obtain ⟨v, H⟩ := cf_some M (by omega) c
  refine ⟨M, ?_⟩
  obtain ⟨b, hb, hb2⟩ := short_is (show 10000 < M by omega) H l
  simp only [law15_SamplerPieces, b_law15_SamplerPieces, lives_true M (by omega), hb, Option.bind_some, Bool.not_true, Bool.cond_false, bif_if]
  cases b with
  | false => rfl
  | true =>
    have hl4 := hb2 rfl
    simp only [Bool.not_true, Bool.cond_false]
    by_cases c1 : (cuts.length : Int) > 400
    · rw [if_pos c1]
    rw [if_neg c1]
    obtain ⟨b, hb, hb2⟩ := ch_l2 M l hl4 l 0 M rfl (by omega)
    have hb' : law15_chained M l = some b := hb
    rw [hb', Option.bind_some]
    cases b with
    | false => rfl
    | true =>
      have hch := hb2 rfl
      rw [if_pos rfl] at hch
      exact pieces_l7 hM H l hl4 cuts (by omega) hch l 0 M [] rfl (by omega) (by simp; omega) rfl

/-! ### The grid -/
theorem grid_l8 (M : Nat) (c : Clock) (h : OkR c.T_Num c.T_Den) (F k lv : Int) (hF : 0 ≤ F ∧ F ≤ 549755813888) (hk : 1 ≤ k ∧ k ≤ 549755813888) (l : List Event) (hl : (l.length : Int) ≤ 1099511627776) :
    ∀ (N : Nat) (r : List Event) (i m : Nat) (a : Int), r.length ≤ N → l.drop i = r → r.length < m → i ≤ l.length → (i = 0 → a = 0) → a = 0 → r = (emitT c.T_Num c.T_Den F lv (F + k) i a).1 → (i = 0 ∨ F + sm c.T_Num c.T_Den (i - 1) < F + k) →
    law15_SamplerGrid_l8 M m F k lv (if 1099511627776 < F + bd c.T_Num c.T_Den i then 1099511627776 else F + bd c.T_Num c.T_Den i) (i : Int) c l = some true
  | N, r, i, 0, a, _, _, hm, _, _, _, _, _ => by omega
  | N, [], i, m + 1, a, _, hr, hm, hi, ha, ha0, he, hp => by
    have hil := drop_nil hr
    have hs := sm_spec c.T_Num c.T_Den i h (by omega)
    have hb := bd_spec c.T_Num c.T_Den i h (by omega)
    have hstop : ¬ F + sm c.T_Num c.T_Den i < F + k := fun hlt => by
      rw [emitT_go c.T_Num c.T_Den F lv (F + k) i a h (by omega) hlt] at he
      cases he
    have hbs := bd_sm c.T_Num c.T_Den i h (by omega)
    have hn := h.2.2.2.1
    -- the end lies at most a bit behind the last sample
    have hlow : bd c.T_Num c.T_Den i ≤ k + 1048577 := by
      rcases hp with rfl | hp
      · have := bd_le c.T_Num c.T_Den 0 h (by omega); simp at this; simp; omega
      · by_cases hi0 : i = 0
        · subst hi0; have := bd_le c.T_Num c.T_Den 0 h (by omega); simp at this; simp; omega
        · have h1 := sm_spec c.T_Num c.T_Den ((i : Int) - 1) h (by omega)
          rw [Int.sub_mul, Int.one_mul] at h1
          have hd : 0 < c.T_Den := by unfold OkR at h; omega
          have hx : sm c.T_Num c.T_Den ((i : Int) - 1) + 1 ≤ k := by omega
          have hx2 : c.T_Den * (sm c.T_Num c.T_Den ((i : Int) - 1) + 1) ≤ c.T_Den * k := Int.mul_le_mul_of_nonneg_left hx (by omega)
          rw [Int.mul_add] at hx2
          refine le_of_mul c.T_Den _ _ hd ?_
          rw [Int.mul_add]
          omega
    have hm := mul_bounds (k - bd c.T_Num c.T_Den i - 1 + 2097154) c.T_Den 4194308 (by omega) (by unfold OkR at h; omega)
    have hge : k - bd c.T_Num c.T_Den i - 1 ≤ 1048577 := by
      by_cases c0 : k - bd c.T_Num c.T_Den i - 1 ≤ 1048577
      · exact c0
      · exfalso
        have hsk : k ≤ sm c.T_Num c.T_Den i := by omega
        have h9 := bd_sm c.T_Num c.T_Den i h (by omega)
        have h10 := bd_spec c.T_Num c.T_Den (i + 1) h (by omega)
        rw [Int.add_mul, Int.one_mul] at h10
        have hd : 0 < c.T_Den := by unfold OkR at h; omega
        have h11 : bd c.T_Num c.T_Den (i + 1) ≤ bd c.T_Num c.T_Den i + 1048577 := by
          refine le_of_mul c.T_Den _ _ hd ?_
          rw [Int.mul_add]; omega
        omega
    -- what is left is short
    have hfin : 2 * (k - bd c.T_Num c.T_Den i - 1) * c.T_Den ≤ c.T_Num := by
      have hsk : k ≤ sm c.T_Num c.T_Den i := by omega
      have hd : 0 < c.T_Den := by unfold OkR at h; omega
      have h12 : c.T_Den * k ≤ c.T_Den * sm c.T_Num c.T_Den i := Int.mul_le_mul_of_nonneg_left hsk (by omega)
      have e : 2 * (k - bd c.T_Num c.T_Den i - 1) * c.T_Den = 2 * (c.T_Den * k) - 2 * (c.T_Den * bd c.T_Num c.T_Den i) - 2 * c.T_Den := by
        rw [Int.mul_assoc, Int.sub_mul, Int.sub_mul, Int.mul_comm k, Int.mul_comm (bd c.T_Num c.T_Den i)]; omega
      rw [e]; omega
    simp only [law15_SamplerGrid_l8, b_law15_SamplerGrid_l8]
    rw [bif_neg (by omega), i64_ok (n := F + k) (by omega)]
    have key : ∀ E : Int, F + bd c.T_Num c.T_Den i - 1099511627776 ≤ F + bd c.T_Num c.T_Den i - E → E ≤ F + bd c.T_Num c.T_Den i → (E = F + bd c.T_Num c.T_Den i ∨ F + k ≤ E) → F + k - 2097152 ≤ E →
        (some (decide (IntKind.i64.wrap (IntKind.i64.wrap (2 * IntKind.i64.wrap (IntKind.i64.wrap (F + k - E) - 1)) * c.T_Den) ≤ c.T_Num)) : Option Bool) = some true := fun E h1 h2 h3 h4 => by
      have hd2 : c.T_Den ≤ 1073741824 := h.2.1
      have hd1 : 1 ≤ c.T_Den := h.1
      have b1 : -1048578 ≤ F + k - E - 1 ∧ F + k - E - 1 ≤ 2097152 := by omega
      have b2 := mul_bounds (2 * (F + k - E - 1) + 4194304) c.T_Den 8388608 (by omega) (by omega)
      have b3 := b2.2.1 (by omega)
      rw [Int.add_mul] at b2 b3
      rw [i64_ok (n := F + k - E) (by omega), i64_ok (n := F + k - E - 1) (by omega), i64_ok (n := 2 * (F + k - E - 1)) (by omega), i64_ok (by omega)]
      congr 1
      refine decide_eq_true ?_
      rcases h3 with h3 | h3
      · subst h3
        rw [show F + k - (F + bd c.T_Num c.T_Den i) - 1 = k - bd c.T_Num c.T_Den i - 1 by omega]
        exact hfin
      · have : (2 * (F + k - E - 1)) * c.T_Den ≤ 0 := Int.mul_nonpos_of_nonpos_of_nonneg (by omega) (by omega)
        unfold OkR at h
        omega
    split
    · exact key _ (by omega) (by omega) (.inr (by omega)) (by omega)
    · exact key _ (by omega) (by omega) (.inl rfl) (by omega)
  | 0, x :: r, i, m + 1, a, hN, _, _, _, _, _, _, _ => by simp at hN
  | N + 1, x :: r, i, m + 1, a, hN, hr, hm, hi, ha, ha0, he, hp => by
    obtain ⟨h1, h2, h3, h4, h5⟩ := drop_cons hr dflt_Event
    simp only [List.length_cons] at hm hN
    subst ha0
    have hgo : F + sm c.T_Num c.T_Den i < F + k := by
      by_cases hlt : F + sm c.T_Num c.T_Den i < F + k
      · exact hlt
      · rw [emitT_stop c.T_Num c.T_Den F lv (F + k) i 0 hlt] at he; cases he
    rw [emitT_go c.T_Num c.T_Den F lv (F + k) i 0 h (by omega) hgo] at he
    have hx : x = evB c.T_Num c.T_Den F lv i 0 := by injection he
    have hre : r = (emitT c.T_Num c.T_Den F lv (F + k) ((i : Int) + 1) 0).1 := by injection he
    have hbs := bd_sm c.T_Num c.T_Den i h (by omega)
    have hb := bd_spec c.T_Num c.T_Den i h (by omega)
    have hb1 := bd_spec c.T_Num c.T_Den (i + 1) h (by omega)
    have hend : (if 1099511627776 < F + bd c.T_Num c.T_Den i then 1099511627776 else F + bd c.T_Num c.T_Den i) = F + bd c.T_Num c.T_Den i := if_neg (by omega)
    have ih := grid_l8 M c h F k lv hF hk l hl N r (i + 1) m 0 (by omega) h3 (by omega) (by omega) (fun _ => rfl) rfl (by rw [hre]; rfl) (.inr (by rw [show ((i + 1 : Nat) : Int) - 1 = i by omega]; exact hgo))
    rw [show ((i + 1 : Nat) : Int) = (i : Int) + 1 by omega] at ih
    have hto : x.To = (if 1099511627776 < F + bd c.T_Num c.T_Den ((i : Int) + 1) then 1099511627776 else F + bd c.T_Num c.T_Den ((i : Int) + 1)) := by rw [hx]; rfl
    have hfr : x.From = F + bd c.T_Num c.T_Den i := by rw [hx]; rfl
    have hval : x.Value = lv := by rw [hx]; rfl
    have hfa : x.Fault = 0 := by rw [hx]; rfl
    have htf : ¬ x.To ≤ x.From := by rw [hto, hfr]; split <;> omega
    rw [hend]
    simp only [law15_SamplerGrid_l8, b_law15_SamplerGrid_l8, h1]
    rw [i64_ok (n := (i : Int) + 1) (by omega), i64_ok (n := F + k) (by omega)]
    simp only [bif_pos (show (i : Int) < (l.length : Int) by omega), bif_pos (show (0 : Int) ≤ (i : Int) by omega), hfr, hval, hfa, bne_self_eq_false, Bool.cond_false]
    rw [bif_neg (by rw [← hfr]; exact htf), bif_neg (by omega), hto]
    exact ih
theorem SamplerGrid_true (c : Clock) (F k lv : Int) (hc : wf_Clock c) (hF : IntKind.i64.min ≤ F ∧ F ≤ IntKind.i64.max) (hk : IntKind.i64.min ≤ k ∧ k ≤ IntKind.i64.max) (hlv : IntKind.i64.min ≤ lv ∧ lv ≤ IntKind.i64.max) : ∃ M, law15_SamplerGrid M c F k lv = some true := by
  obtain ⟨M, hM⟩ := big
  obtain ⟨v, H⟩ := cf_some M (by omega) c
  refine ⟨M, ?_⟩
  simp only [law15_SamplerGrid, b_law15_SamplerGrid, lives_true M (by omega), H.r, Option.bind_some, Bool.not_true, Bool.cond_false, bne_if, bif_if]
  by_cases hv : v = 0
  · subst hv
    have h := H.ok rfl
    rw [if_pos rfl]
    by_cases c1 : F < 0
    · rw [if_pos c1]
    rw [if_neg c1]
    by_cases c2 : F > 549755813888
    · rw [if_pos c2]
    rw [if_neg c2]
    by_cases c3 : k < 1
    · rw [if_pos c3]
    rw [if_neg c3]
    by_cases c4 : k > 549755813888
    · rw [if_pos c4]
    have hq : 4 ≤ c.T_Num / c.T_Den ∧ c.T_Num / c.T_Den ≤ c.T_Num := by
      unfold OkR at h
      exact ⟨Int.le_ediv_of_mul_le (by omega) (by omega), Int.ediv_le_self _ (by omega)⟩
    have hd0 : ¬ c.T_Den = 0 := by unfold OkR at h; omega
    have hn : c.T_Num ≤ 1073741824 := h.2.2.2.2
    rw [if_neg c4, if_neg hd0, Int.tdiv_eq_ediv_of_nonneg (show 0 ≤ c.T_Num by unfold OkR at h; omega), i64_ok (n := c.T_Num / c.T_Den) (by omega), if_neg (by omega)]
    split
    · rfl
    by_cases c5 : lv < 0
    · rw [if_pos c5]
    rw [if_neg c5]
    by_cases c6 : lv > 1
    · rw [if_pos c6]
    rw [if_neg c6, i64_ok (n := F + k) (by omega), decode_is (by omega) H _ (by simp), Option.bind_some]
    have hi : In st0 (Event.mk 1 F (F + k) lv 0 (bs []) 0) := by
      refine ⟨?_, rfl, rfl, by dsimp only; omega, by dsimp only; omega, by dsimp only; omega, .inl rfl⟩
      unfold Vld
      have : (bs []).size = 0 := rfl
      dsimp only
      omega
    have hdec : decA 0 c [Event.mk 1 F (F + k) lv 0 (bs []) 0] = (emitT c.T_Num c.T_Den F lv (F + k) 0 0).1 := by
      unfold decA
      rw [run_one]
      unfold stepA
      rw [if_pos hi]
      rfl
    have hlen := decA_len H [Event.mk 1 F (F + k) lv 0 (bs []) 0]
    have h0 : bd c.T_Num c.T_Den 0 = 0 := by simp [bd]
    have := grid_l8 M c h F k lv ⟨by omega, by omega⟩ ⟨by omega, by omega⟩ (decA 0 c [Event.mk 1 F (F + k) lv 0 (bs []) 0]) (by omega) _ (decA 0 c [Event.mk 1 F (F + k) lv 0 (bs []) 0]) 0 M 0 (Nat.le_refl _) rfl (by omega) (by omega) (fun _ => rfl) rfl hdec (.inl rfl)
    simp only [Int.natCast_zero, h0, Int.add_zero] at this
    rw [if_neg (by omega)] at this
    exact this
  · rw [if_neg hv]
end Go.Abs.K
