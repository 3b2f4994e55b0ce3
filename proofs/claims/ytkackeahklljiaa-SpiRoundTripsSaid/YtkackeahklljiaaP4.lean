/- SPI: levels that are divided; modes. -/
import Derived.Test.YtkackeahklljiaaP3
set_option linter.unusedVariables false
set_option linter.unusedSimpArgs false
namespace Go.Abs.K
open Go Go.Abs Go.Proofs

theorem run_bad (c : Spi) (hc : ¬ OkC c) : ∀ (l : List Event) (a : A), runA c a l = (a, [])
  | [], a => rfl
  | e :: l, a => by
    have : stepA c a e = (a, []) := by unfold stepA; rw [if_neg (fun h => hc h.1)]
    simp only [runA, this, run_bad c hc l a, List.nil_append]
theorem dec_bad (c : Spi) (hc : ¬ OkC c) (l : List Event) : decA c l = [] := by
  unfold decA endA
  rw [run_bad c hc, if_neg (fun h => hc h.1)]; rfl
theorem run_one (c : Spi) (a : A) (x : Event) : runA c a [x] = stepA c a x := by
  simp [runA]
theorem stepB_to (c : Spi) (a : A) (x : Event) (t : Int) : stepB c a { x with To := t } = ({ (stepB c a x).1 with at_ := t }, (stepB c a x).2) := by
  unfold stepB
  dsimp only
  repeat' split
  all_goals rfl
theorem sh_keeps (c : Spi) (a : A) (b : Int) : (shA c a b).ph = a.ph ∧ (shA c a b).frm = a.frm ∧ (shA c a b).prev = a.prev ∧ (shA c a b).at_ = a.at_ := by
  unfold shA
  repeat' split
  all_goals exact ⟨rfl, rfl, rfl, rfl⟩
theorem stepB_facts (c : Spi) (a : A) (x : Event) : (stepB c a x).1.at_ = x.To ∧ (stepB c a x).1.prev = x.Value ∧ (stepB c a x).1.ph ≠ 0 := by
  have hk := sh_keeps c a (x.Value / 2 % 2)
  unfold stepB
  split
  · exact ⟨rfl, rfl, show (1 : Int) ≠ 0 by decide⟩
  · split
    · exact ⟨rfl, rfl, show (2 : Int) ≠ 0 by decide⟩
    · split
      · refine ⟨rfl, rfl, ?_⟩; dsimp only; assumption
      · split
        · exact ⟨rfl, rfl, show (1 : Int) ≠ 0 by decide⟩
        · split
          · refine ⟨rfl, rfl, ?_⟩; dsimp only; rw [hk.1]; assumption
          · refine ⟨rfl, rfl, ?_⟩; dsimp only; assumption
theorem stepB_again (c : Spi) (a : A) (x : Event) (h0 : a.ph ≠ 0) (hp : a.prev = x.Value) (h2 : a.ph = 2 → a.prev / 4 = 0) : stepB c a x = ({ a with at_ := x.To, prev := x.Value }, []) := by
  by_cases c2 : a.ph = 2
  · have := h2 c2
    refine sB_not c a x c2 (by omega) (by omega) ?_
    rw [hp]
    unfold act
    split <;> omega
  · exact sB_idle c a x h0 (by omega) c2
theorem cut_run (c : Spi) (hc : OkC c) (a : A) (x : Event) (t : Int) (hw : WfA c a) (hi : In a x) (ht : x.From < t ∧ t < x.To) : runA c a [{ x with To := t }, { x with From := t }] = runA c a [x] := by
  obtain ⟨g1, g2, g3, g4, g5, g6, g7⟩ := hi
  have hi' : In a x := ⟨g1, g2, g3, g4, g5, g6, g7⟩
  have v1 : Vld { x with To := t } := by unfold Vld at g1 ⊢; dsimp only; omega
  have v2 : Vld { x with From := t } := by unfold Vld at g1 ⊢; dsimp only; omega
  have i1 : In a { x with To := t } := ⟨v1, g2, g3, ht.1, g5, g6, g7⟩
  have e1 : stepA c a { x with To := t } = ({ (stepB c a x).1 with at_ := t }, (stepB c a x).2) := by
    unfold stepA
    rw [if_pos ⟨hc, i1⟩, stepB_to]
  have e2 : stepA c a x = stepB c a x := by
    unfold stepA
    rw [if_pos ⟨hc, hi'⟩]
  have hwf := (step_wf c a x hw).1
  rw [e2] at hwf
  obtain ⟨f1, f2, f3⟩ := stepB_facts c a x
  have i2 : In { (stepB c a x).1 with at_ := t } { x with From := t } := ⟨v2, g2, g3, ht.2, g5, g6, .inr rfl⟩
  have e3 : stepA c { (stepB c a x).1 with at_ := t } { x with From := t } = ((stepB c a x).1, []) := by
    unfold stepA
    rw [if_pos ⟨hc, i2⟩, stepB_again c { (stepB c a x).1 with at_ := t } { x with From := t } f3 f2 hwf.two]
    dsimp only
    rw [← f1, ← f2]
  rw [run_one, e2]
  simp only [runA, e1, e3, List.append_nil]
def Ch : Option Int → List Event → Prop
  | _, [] => True
  | o, e :: l => Vld e ∧ e.Kind = 1 ∧ e.Fault = 0 ∧ e.From < e.To ∧ 0 ≤ e.Value ∧ e.Value ≤ 7 ∧ (∀ t, o = some t → e.From = t) ∧ Ch (some e.To) l
def cut1 (x : Event) : Option Int → List Event
  | some t => if x.From < t ∧ t < x.To then [{ x with To := t }, { x with From := t }] else [x]
  | none => [x]
def cutL (cuts : List Int) : Nat → List Event → List Event
  | _, [] => []
  | i, x :: l => cut1 x cuts[i]? ++ cutL cuts (i + 1) l
theorem cut1_yes (x : Event) (t : Int) (h : x.From < t ∧ t < x.To) : cut1 x (some t) = [{ x with To := t }, { x with From := t }] := by
  show (if _ then _ else _) = _
  rw [if_pos h]
theorem cut1_no (x : Event) (t : Int) (h : ¬ (x.From < t ∧ t < x.To)) : cut1 x (some t) = [x] := by
  show (if _ then _ else _) = _
  rw [if_neg h]
theorem cut1_run (c : Spi) (h : OkC c) (a : A) (x : Event) (o : Option Int) (hw : WfA c a) (hi : In a x) : runA c a (cut1 x o) = runA c a [x] := by
  cases o with
  | none => rfl
  | some t =>
    by_cases ht : x.From < t ∧ t < x.To
    · rw [cut1_yes x t ht]; exact cut_run c h a x t hw hi ht
    · rw [cut1_no x t ht]
theorem cut_all (c : Spi) (h : OkC c) (cuts : List Int) : ∀ (l : List Event) (i : Nat) (a : A) (o : Option Int), Ch o l → (a.ph = 0 ∨ o = some a.at_) → WfA c a → runA c a (cutL cuts i l) = runA c a l
  | [], i, a, o, _, _, _ => rfl
  | x :: l, i, a, o, hc, hs, hw => by
    obtain ⟨h1, h2, h3, h4, h5, h6, h7, h8⟩ := hc
    have hi : In a x := ⟨h1, h2, h3, h4, h5, h6, by
      rcases hs with hs | hs
      · exact .inl hs
      · exact .inr (h7 _ hs)⟩
    have w1 := (step_wf c a x hw).1
    have e2 : stepA c a x = stepB c a x := by
      unfold stepA
      rw [if_pos ⟨h, hi⟩]
    have hat : (stepA c a x).1.at_ = x.To := by rw [e2]; exact (stepB_facts c a x).1
    have ih := cut_all c h cuts l (i + 1) (stepA c a x).1 (some x.To) h8 (.inr (by rw [hat])) w1
    unfold cutL
    rw [run_append, cut1_run c h a x _ hw hi, show x :: l = [x] ++ l from rfl, run_append, run_one, ih]
theorem ch_l2 (M : Nat) (l : List Event) (hl : l.length ≤ 3000) : ∀ (r : List Event) (i m : Nat), l.drop i = r → r.length < m → ∃ b, law24_chained_l2 M m (i : Int) l = some b ∧ (b = true → Ch (if i = 0 then none else some (l.getD (i - 1) dflt_Event).To) r)
  | r, i, 0, _, hm => by omega
  | [], i, m + 1, hr, hm => by
    have := drop_nil hr
    simp only [law24_chained_l2, b_law24_chained_l2]
    rw [bif_neg (by omega)]
    exact ⟨true, rfl, fun _ => trivial⟩
  | e :: r, i, m + 1, hr, hm => by
    obtain ⟨h1, h2, h3, h4, h5⟩ := drop_cons hr dflt_Event
    simp only [List.length_cons] at hm
    obtain ⟨b, hb, hb2⟩ := ch_l2 M l hl r (i + 1) m h3 (by omega)
    have hprev : l.getD i dflt_Event = e := by have := h1; rwa [Int.toNat_natCast] at this
    rw [if_neg (by omega), show i + 1 - 1 = i by omega, hprev] at hb2
    have hw : IntKind.i64.wrap ((i : Int) - 1) = ((i : Int) - 1) := i64_ok (by omega)
    simp only [law24_chained_l2, b_law24_chained_l2, h1, bif_if, bne_if, str_beq', next_i i (by omega), hb, hw]
    rw [if_pos (by omega), if_pos (by omega), if_pos (by omega)]
    by_cases c1 : e.Kind = 1
    · rw [if_pos c1]
      by_cases c2 : e.From < 0
      · rw [if_pos c2]; exact ⟨false, rfl, by simp⟩
      rw [if_neg c2]
      by_cases c3 : e.From ≥ e.To
      · rw [if_pos c3]; exact ⟨false, rfl, by simp⟩
      rw [if_neg c3]
      by_cases c4 : e.To > 1099511627776
      · rw [if_pos c4]; exact ⟨false, rfl, by simp⟩
      rw [if_neg c4]
      by_cases c5 : e.Value < 0
      · rw [if_pos c5]; exact ⟨false, rfl, by simp⟩
      rw [if_neg c5]
      by_cases c6 : e.Value > 7
      · rw [if_pos c6]; exact ⟨false, rfl, by simp⟩
      rw [if_neg c6]
      by_cases c7 : e.Fault = 0
      · rw [if_pos c7]
        by_cases c8 : e.Aux = 0
        · rw [if_pos c8]
          by_cases c9 : e.Data = bs []
          · have hv : Vld e := by
              unfold Vld
              have : e.Data.size = 0 := by rw [c9]; rfl
              omega
            have hch : (∀ t, (if i = 0 then none else some (l.getD (i - 1) dflt_Event).To) = some t → e.From = t) → b = true → Ch (if i = 0 then none else some (l.getD (i - 1) dflt_Event).To) (e :: r) := fun hq hbt => ⟨hv, c1, c7, by omega, by omega, by omega, hq, hb2 hbt⟩
            rw [decide_eq_true c9]
            simp only [Bool.not_true, Bool.cond_false]
            by_cases hi : i = 0
            · rw [if_neg (by omega)]
              exact ⟨b, rfl, hch (fun t ht => by rw [if_pos hi] at ht; cases ht)⟩
            · have ht : ((i : Int) - 1).toNat = i - 1 := by omega
              rw [if_pos (show (i : Int) > 0 by omega), if_pos (show (0 : Int) ≤ (i : Int) - 1 by omega), if_pos (show (i : Int) - 1 < (l.length : Int) by omega), ht]
              by_cases c10 : e.From = (l.getD (i - 1) dflt_Event).To
              · rw [if_pos c10]
                exact ⟨b, rfl, hch (fun t ht => by rw [if_neg hi] at ht; injection ht with ht; rw [← ht]; exact c10)⟩
              · rw [if_neg c10]; exact ⟨false, rfl, by simp⟩
          · rw [decide_eq_false c9]; exact ⟨false, rfl, by simp⟩
        · rw [if_neg c8]; exact ⟨false, rfl, by simp⟩
      · rw [if_neg c7]; exact ⟨false, rfl, by simp⟩
    · rw [if_neg c1]; exact ⟨false, rfl, by simp⟩
theorem cutL_len (cuts : List Int) : ∀ (l : List Event) (i : Nat), (cutL cuts i l).length ≤ 2 * l.length
  | [], i => by simp [cutL]
  | x :: l, i => by
    have ih := cutL_len cuts l (i + 1)
    have h1 : (cut1 x cuts[i]?).length ≤ 2 := by
      unfold cut1
      repeat' split
      all_goals simp
    simp only [cutL, List.length_append, List.length_cons]; omega
theorem cutAt_l3 (M : Nat) (l : List Event) (hl : l.length ≤ 3000) (cuts : List Int) (hcu : cuts.length ≤ 3000) : ∀ (r : List Event) (i m : Nat) (acc : List Event), l.drop i = r → r.length < m → acc.length + 2 * r.length ≤ 10000 → 
    law24_cutAt_l3 M m (i : Int) l cuts acc = some (acc ++ cutL cuts i r)
  | r, i, 0, acc, _, hm, _ => by omega
  | [], i, m + 1, acc, hr, hm, ha => by
    have := drop_nil hr
    simp only [law24_cutAt_l3, b_law24_cutAt_l3]
    rw [bif_neg (by omega)]
    simp [cutL]
  | x :: r, i, m + 1, acc, hr, hm, ha => by
    obtain ⟨h1, h2, h3, h4, h5⟩ := drop_cons hr dflt_Event
    simp only [List.length_cons] at hm ha
    simp only [cutL]
    have ih := fun acc' ha' => cutAt_l3 M l hl cuts hcu r (i + 1) m acc' h3 (by omega) ha'
    simp only [law24_cutAt_l3, b_law24_cutAt_l3, h1, next_i i (by omega)]
    simp only [Int.toNat_natCast, bif_pos (show (i : Int) < (l.length : Int) by omega), bif_pos (show (0 : Int) ≤ (i : Int) by omega), bif_pos (show (acc.length + 1) * 64 ≤ 140737488355328 by omega)]
    rw [bif_if]
    by_cases c1 : (i : Int) < (cuts.length : Int)
    · have hg : cuts[i]? = some (cuts.getD i 0) := by rw [List.getD_eq_getElem?_getD, List.getElem?_eq_getElem (by omega)]; rfl
      rw [hg]
      clear hg
      rw [if_pos c1]
      simp only [bif_pos c1]
      rw [bif_if]
      by_cases c2 : x.From < cuts.getD i 0
      · rw [if_pos c2, bif_if]
        by_cases c3 : cuts.getD i 0 < x.To
        · have hcc : cut1 x (some (cuts.getD i 0)) = [{ x with To := cuts.getD i 0 }, { x with From := cuts.getD i 0 }] := cut1_yes x _ ⟨c2, c3⟩
          rw [hcc]
          rw [if_pos c3, bif_pos (by simp; omega)]
          rw [ih _ (by simp; omega)]
          simp
        · have hcc : cut1 x (some (cuts.getD i 0)) = [x] := cut1_no x _ (by omega)
          rw [hcc]
          rw [if_neg c3, ih _ (by simp; omega)]
          simp
      · have hcc : cut1 x (some (cuts.getD i 0)) = [x] := cut1_no x _ (by omega)
        rw [hcc]
        rw [if_neg c2, ih _ (by simp; omega)]
        simp
    · have hg : cuts[i]? = none := List.getElem?_eq_none (by omega)
      rw [hg]
      have hcc : cut1 x none = [x] := rfl
      rw [hcc]
      rw [if_neg c1, ih _ (by simp; omega)]
      simp
theorem SpiPieces_true (c : Spi) (l : List Event) (cuts : List Int) (hc : wf_Spi c) (hl : (∀ x, x ∈ l → wf_Event x) ∧ l.length * Try.prog.bytesOf 32 ≤ 140737488351232) (hcu : (∀ x, x ∈ cuts → IntKind.i64.min ≤ x ∧ x ≤ IntKind.i64.max) ∧ cuts.length * Try.prog.bytesOf 3 ≤ 140737488351232) : ∃ M, law24_SpiPieces M c l cuts = some true := by
  obtain ⟨M, hM⟩ := big
  refine ⟨M, ?_⟩
  simp only [law24_SpiPieces, b_law24_SpiPieces, lives_true M (by omega), Option.bind_some, Bool.not_true, Bool.cond_false, bif_if]
  by_cases c1 : (l.length : Int) > 3000
  · rw [if_pos c1]
  rw [if_neg c1]
  by_cases c2 : (cuts.length : Int) > 3000
  · rw [if_pos c2]
  rw [if_neg c2]
  obtain ⟨b, hb, hb2⟩ := ch_l2 M l (by omega) l 0 M rfl (by omega)
  have hb' : law24_chained M l = some b := hb
  rw [hb', Option.bind_some]
  cases b with
  | false => rfl
  | true =>
    have hch := hb2 rfl
    rw [if_pos rfl] at hch
    have hcut : law24_cutAt M l cuts = some (cutL cuts 0 l) := cutAt_l3 M l (by omega) cuts (by omega) l 0 M [] rfl (by omega) (by simp; omega)
    have hcl := cutL_len cuts l 0
    have hd : decA c (cutL cuts 0 l) = decA c l := by
      by_cases hok : OkC c
      · unfold decA
        rw [cut_all c hok cuts l 0 a0 none hch (.inl rfl) (wf0 c hok)]
      · rw [dec_bad c hok, dec_bad c hok]
    have hdl := dec_len c l
    simp only [Bool.not_true, Bool.cond_false]
    rw [decode_is M c l (by omega) (by omega), Option.bind_some, hcut, Option.bind_some, decode_is M c (cutL cuts 0 l) (by omega) (by omega), Option.bind_some, hd, same_self M (decA c l) (by omega) (by omega)]
    rfl

/-! ### Modes -/
theorem step_mode (T B : Int) (s : Bool) (m n : Int) (hm : 0 ≤ m ∧ m ≤ 3) (hn : 0 ≤ n ∧ n ≤ 3) (h : (m = 0 ∨ m = 3) ↔ (n = 0 ∨ n = 3)) (a : A) (e : Event) : stepA ⟨T, m, B, s⟩ a e = stepA ⟨T, n, B, s⟩ a e := by
  have h1 : OkC ⟨T, m, B, s⟩ ↔ OkC ⟨T, n, B, s⟩ := by unfold OkC; dsimp only; omega
  have h2 : ∀ v w, act ⟨T, m, B, s⟩ v w ↔ act ⟨T, n, B, s⟩ v w := fun v w => by
    unfold act
    dsimp only
    by_cases c : m = 0 ∨ m = 3
    · rw [if_pos c, if_pos (h.1 c)]
    · rw [if_neg c, if_neg (fun h' => c (h.2 h'))]
  have h3 : ∀ b, shA ⟨T, m, B, s⟩ a b = shA ⟨T, n, B, s⟩ a b := fun b => rfl
  unfold stepA stepB
  simp only [h1, h2, h3]
theorem run_mode (T B : Int) (s : Bool) (m n : Int) (hm : 0 ≤ m ∧ m ≤ 3) (hn : 0 ≤ n ∧ n ≤ 3) (h : (m = 0 ∨ m = 3) ↔ (n = 0 ∨ n = 3)) : ∀ (l : List Event) (a : A), runA ⟨T, m, B, s⟩ a l = runA ⟨T, n, B, s⟩ a l
  | [], a => rfl
  | e :: l, a => by simp only [runA, step_mode T B s m n hm hn h a e, run_mode T B s m n hm hn h l]
theorem dec_mode (T B : Int) (s : Bool) (m n : Int) (hm : 0 ≤ m ∧ m ≤ 3) (hn : 0 ≤ n ∧ n ≤ 3) (h : (m = 0 ∨ m = 3) ↔ (n = 0 ∨ n = 3)) (l : List Event) : decA ⟨T, m, B, s⟩ l = decA ⟨T, n, B, s⟩ l := by
  have h1 : OkC ⟨T, m, B, s⟩ ↔ OkC ⟨T, n, B, s⟩ := by unfold OkC; dsimp only; omega
  unfold decA endA
  rw [run_mode T B s m n hm hn h]
  simp only [h1]
def inv (v : Int) : Int := if v % 2 = 0 then v + 1 else v - 1
theorem inv_facts (v : Int) : inv v / 4 = v / 4 ∧ inv v / 2 % 2 = v / 2 % 2 ∧ inv v % 2 = 1 - v % 2 ∧ (0 ≤ inv v ∧ inv v ≤ 7 ↔ 0 ≤ v ∧ v ≤ 7) := by
  unfold inv
  split <;> omega
theorem xor_is (v : Int) (h : 0 ≤ v ∧ v ≤ 7) : IntKind.i64.wrap (((BitVec.ofInt 64 v ^^^ BitVec.ofInt 64 1).toNat : Int)) = inv v := by
  have : v = 0 ∨ v = 1 ∨ v = 2 ∨ v = 3 ∨ v = 4 ∨ v = 5 ∨ v = 6 ∨ v = 7 := by omega
  rcases this with rfl | rfl | rfl | rfl | rfl | rfl | rfl | rfl <;> decide
def invE (e : Event) : Event := if 0 ≤ e.Value ∧ e.Value ≤ 7 then { e with Value := inv e.Value } else e
structure Q (a b : A) : Prop where
  ph : b.ph = a.ph
  at_ : b.at_ = a.at_
  frm : b.frm = a.frm
  bits : b.bits = a.bits
  data : b.data = a.data
  ov : b.ov = a.ov
  prev : a.ph ≠ 0 → b.prev = inv a.prev
theorem in_inv (a b : A) (e : Event) (q : Q a b) : In b (invE e) ↔ In a e := by
  unfold invE
  by_cases h : 0 ≤ e.Value ∧ e.Value ≤ 7
  · have hi := inv_facts e.Value
    rw [if_pos h]
    unfold In Vld
    dsimp only
    rw [q.ph, q.at_]
    omega
  · rw [if_neg h]
    unfold In
    rw [q.ph, q.at_]
theorem step_inv (T B : Int) (s : Bool) (a b : A) (e : Event) (q : Q a b) : (stepA ⟨T, 1, B, s⟩ b (invE e)).2 = (stepA ⟨T, 0, B, s⟩ a e).2 ∧ Q (stepA ⟨T, 0, B, s⟩ a e).1 (stepA ⟨T, 1, B, s⟩ b (invE e)).1 := by
  have h1 : OkC ⟨T, 1, B, s⟩ ↔ OkC ⟨T, 0, B, s⟩ := by unfold OkC; dsimp only; omega
  unfold stepA
  by_cases hi : OkC ⟨T, 0, B, s⟩ ∧ In a e
  · rw [if_pos hi, if_pos ⟨h1.2 hi.1, (in_inv a b e q).2 hi.2⟩]
    obtain ⟨_, _, _, _, hv1, hv2, _⟩ := hi.2
    have he : invE e = { e with Value := inv e.Value } := by unfold invE; rw [if_pos ⟨hv1, hv2⟩]
    obtain ⟨f1, f2, f3, f4⟩ := inv_facts e.Value
    rw [he]
    obtain ⟨q1, q2, q3, q4, q5, q6, q7⟩ := q
    have hef : endF b = endF a := by unfold endF; rw [q4, q6]
    by_cases h0 : a.ph = 0
    · rw [sB_zero _ a e h0, sB_zero _ b _ (by rw [q1]; exact h0)]
      exact ⟨rfl, ⟨rfl, rfl, q3, q4, q5, q6, fun _ => rfl⟩⟩
    · have q7 := q7 h0
      obtain ⟨g1, g2, g3, g4⟩ := inv_facts a.prev
      by_cases hs : a.prev / 4 ≠ 0 ∧ e.Value / 4 = 0
      · rw [sB_start _ a e h0 hs, sB_start _ b _ (by rw [q1]; exact h0) (by rw [q7]; dsimp only; omega)]
        exact ⟨rfl, ⟨rfl, rfl, rfl, rfl, rfl, rfl, fun _ => rfl⟩⟩
      · have hs' : ¬ (b.prev / 4 ≠ 0 ∧ inv e.Value / 4 = 0) := by rw [q7]; omega
        by_cases h2 : a.ph = 2
        · by_cases h4 : e.Value / 4 ≠ 0
          · rw [sB_end _ a e h2 hs h4, sB_end _ b _ (by rw [q1]; exact h2) hs' (by dsimp only; omega), q3, q5, hef]
            exact ⟨rfl, ⟨rfl, rfl, rfl, q4, rfl, q6, fun _ => rfl⟩⟩
          · have hact : act ⟨T, 1, B, s⟩ b.prev (inv e.Value) ↔ act ⟨T, 0, B, s⟩ a.prev e.Value := by
              rw [act_rise ⟨T, 0, B, s⟩ _ _ (.inl rfl), act_fall ⟨T, 1, B, s⟩ _ _ (by dsimp only; decide), q7]
              omega
            by_cases ha : act ⟨T, 0, B, s⟩ a.prev e.Value
            · rw [sB_act _ a e h2 hs h4 ha, sB_act _ b { e with Value := inv e.Value } (by rw [q1]; exact h2) hs' (by dsimp only; omega) (hact.2 ha)]
              refine ⟨rfl, ?_⟩
              dsimp only
              rw [f2]
              unfold shA
              rw [q4, q5]
              dsimp only
              split
              · exact ⟨q1, rfl, q3, rfl, rfl, q6, fun _ => rfl⟩
              · split
                · exact ⟨q1, rfl, q3, rfl, rfl, q6, fun _ => rfl⟩
                · exact ⟨q1, rfl, q3, rfl, rfl, rfl, fun _ => rfl⟩
            · rw [sB_not _ a e h2 hs h4 ha, sB_not _ b { e with Value := inv e.Value } (by rw [q1]; exact h2) hs' (by dsimp only; omega) (fun h => ha (hact.1 h))]
              exact ⟨rfl, ⟨q1, rfl, q3, q4, q5, q6, fun _ => rfl⟩⟩
        · rw [sB_idle _ a e h0 hs h2, sB_idle _ b { e with Value := inv e.Value } (by rw [q1]; exact h0) hs' (by rw [q1]; exact h2)]
          exact ⟨rfl, ⟨q1, rfl, q3, q4, q5, q6, fun _ => rfl⟩⟩
  · rw [if_neg hi, if_neg (fun h => hi ⟨h1.1 h.1, (in_inv a b e q).1 h.2⟩)]
    exact ⟨rfl, q⟩
theorem run_inv (T B : Int) (s : Bool) : ∀ (l : List Event) (a b : A), Q a b → (runA ⟨T, 1, B, s⟩ b (l.map invE)).2 = (runA ⟨T, 0, B, s⟩ a l).2 ∧ Q (runA ⟨T, 0, B, s⟩ a l).1 (runA ⟨T, 1, B, s⟩ b (l.map invE)).1
  | [], a, b, q => ⟨rfl, q⟩
  | e :: l, a, b, q => by
    obtain ⟨s1, s2⟩ := step_inv T B s a b e q
    obtain ⟨i1, i2⟩ := run_inv T B s l _ _ s2
    simp only [List.map_cons, runA, s1, i1]
    exact ⟨trivial, i2⟩
theorem dec_inv (T B : Int) (s : Bool) (l : List Event) : decA ⟨T, 1, B, s⟩ (l.map invE) = decA ⟨T, 0, B, s⟩ l := by
  obtain ⟨i1, i2⟩ := run_inv T B s l a0 a0 ⟨rfl, rfl, rfl, rfl, rfl, rfl, fun h => absurd rfl h⟩
  have h1 : OkC ⟨T, 1, B, s⟩ ↔ OkC ⟨T, 0, B, s⟩ := by unfold OkC; dsimp only; omega
  unfold decA endA
  rw [i1, i2.ph, i2.frm, i2.at_]
  simp only [h1]
theorem modes_l7 (M : Nat) (hM : 100000000 < M) (c : Spi) (l : List Event) (hl : l.length ≤ 3000) : ∀ (r : List Event) (i m : Nat) (acc : List Event), l.drop i = r → r.length < m → acc.length + r.length ≤ 3000 → acc ++ r.map invE = l.map invE →
    law24_SpiModes_l7 M m (i : Int) l c acc = some true
  | r, i, 0, acc, _, hm, _, _ => by omega
  | [], i, m + 1, acc, hr, hm, ha, he => by
    have := drop_nil hr
    have e : acc = l.map invE := by simpa using he
    have d3 := dec_mode c.T c.Bits c.Msb 3 0 (by omega) (by omega) (by omega) l
    have d2 := dec_mode c.T c.Bits c.Msb 2 1 (by omega) (by omega) (by omega) l
    have d1 := dec_inv c.T c.Bits c.Msb l
    have l0 := dec_len ⟨c.T, 0, c.Bits, c.Msb⟩ l
    have l1 := dec_len ⟨c.T, 1, c.Bits, c.Msb⟩ l
    have hml : (l.map invE).length = l.length := by simp
    simp only [law24_SpiModes_l7, b_law24_SpiModes_l7]
    rw [bif_neg (by omega), e, decode_is M ⟨c.T, 0, c.Bits, c.Msb⟩ l (by omega) (by omega), decode_is M ⟨c.T, 3, c.Bits, c.Msb⟩ l (by omega) (by omega), decode_is M ⟨c.T, 1, c.Bits, c.Msb⟩ l (by omega) (by omega), decode_is M ⟨c.T, 2, c.Bits, c.Msb⟩ l (by omega) (by omega), decode_is M ⟨c.T, 1, c.Bits, c.Msb⟩ (l.map invE) (by omega) (by omega), d3, d2, d1]
    simp only [Option.bind_some, same_self M (decA ⟨c.T, 0, c.Bits, c.Msb⟩ l) (by omega) (by omega), same_self M (decA ⟨c.T, 1, c.Bits, c.Msb⟩ l) (by omega) (by omega), Bool.cond_true]
  | x :: r, i, m + 1, acc, hr, hm, ha, he => by
    obtain ⟨h1, h2, h3, h4, h5⟩ := drop_cons hr dflt_Event
    simp only [List.length_cons] at hm ha
    have ih := fun acc' ha' he' => modes_l7 M hM c l hl r (i + 1) m acc' h3 (by omega) ha' he'
    simp only [law24_SpiModes_l7, b_law24_SpiModes_l7, h1, next_i i (by omega)]
    rw [bif_pos (by omega), bif_pos (by omega), bif_pos (by omega)]
    simp only [bif_pos (show (acc.length + 1) * 64 ≤ 140737488355328 by omega)]
    rw [bif_if]
    by_cases c1 : x.Value ≥ 0
    · rw [if_pos c1, bif_if]
      by_cases c2 : x.Value ≤ 7
      · rw [if_pos c2, xor_is x.Value ⟨c1, c2⟩]
        have hx : invE x = Event.mk x.Kind x.From x.To (inv x.Value) x.Aux x.Data x.Fault := by unfold invE; rw [if_pos ⟨c1, c2⟩]
        exact ih _ (by simp; omega) (by rw [← he, ← hx]; simp)
      · rw [if_neg c2]
        have hx : invE x = x := by unfold invE; rw [if_neg (by omega)]
        exact ih _ (by simp; omega) (by rw [← he]; simp [hx])
    · rw [if_neg c1]
      have hx : invE x = x := by unfold invE; rw [if_neg (by omega)]
      exact ih _ (by simp; omega) (by rw [← he]; simp [hx])
theorem SpiModes_true (c : Spi) (l : List Event) (hc : wf_Spi c) (hl : (∀ x, x ∈ l → wf_Event x) ∧ l.length * Try.prog.bytesOf 32 ≤ 140737488351232) : ∃ M, law24_SpiModes M c l = some true := by
  obtain ⟨M, hM⟩ := big
  refine ⟨M, ?_⟩
  simp only [law24_SpiModes, b_law24_SpiModes, lives_true M (by omega), Option.bind_some, Bool.not_true, Bool.cond_false]
  by_cases h : (l.length : Int) > 3000
  · rw [bif_pos h]
  · rw [bif_neg h]
    exact modes_l7 M hM c l (by omega) l 0 M [] rfl (by omega) (by simp; omega) rfl
end Go.Abs.K
