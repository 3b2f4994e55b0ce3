/- ONEWIRE: levels that are divided. -/
import Derived.Test.YtimanhbcjbnleaaP2
set_option linter.unusedVariables false
set_option linter.unusedSimpArgs false
namespace Go.Abs.K
open Go Go.Abs Go.Proofs

def cutE (t : Int) (e : Event) : List Event :=
  if t > 0 ∧ e.Kind = 1 ∧ e.From ≥ 0 ∧ e.To > e.From ∧ e.To - e.From > t then [{ e with To := e.From + t }, { e with From := e.From + t }] else [e]
theorem late_two (T : Int) (m : Md) (x y : Int) (h : x < y) : (lateA T (lateA T m x).1 y).1 = (lateA T m y).1 ∧ (lateA T m x).2 ++ (lateA T (lateA T m x).1 y).2 = (lateA T m y).2 := by
  cases m with
  | bits n f acc => exact ⟨rfl, rfl⟩
  | rst f t =>
    by_cases hx : t + 8 * T < x
    · have hy : t + 8 * T < y := by omega
      simp [lateA, hx, hy]
    · simp [lateA, hx]
theorem cut_run (c : Onewire) (a : A) (e : Event) (t : Int) (hin : In c a e) : runA c a (cutE t e) = runA c a [e] := by
  unfold cutE
  by_cases h : t > 0 ∧ e.Kind = 1 ∧ e.From ≥ 0 ∧ e.To > e.From ∧ e.To - e.From > t
  · rw [if_pos h]
    have hin' := hin
    obtain ⟨g1, g2, g3, g4, g5, g6, g7⟩ := hin
    obtain ⟨k1, k2, k3, k4, k5⟩ := h
    have i1 : In c a { e with To := e.From + t } := by
      refine ⟨g1, ?_, g3, g4, (by dsimp only; omega), g6, g7⟩
      unfold Vld at g2 ⊢
      dsimp only
      omega
    by_cases hv : e.Value = 0
    · have s1 : stepA c a { e with To := e.From + t } = (⟨true, e.From + t, some (a.low.getD e.From), a.md⟩, []) := by
        unfold stepA; rw [if_pos i1]; dsimp only; rw [if_pos hv]
      have i2 : In c ⟨true, e.From + t, some (a.low.getD e.From), a.md⟩ { e with From := e.From + t } := by
        refine ⟨g1, ?_, g3, g4, (by dsimp only; omega), g6, .inr rfl⟩
        unfold Vld at g2 ⊢
        dsimp only
        omega
      have s2 : stepA c ⟨true, e.From + t, some (a.low.getD e.From), a.md⟩ { e with From := e.From + t } = (⟨true, e.To, some (a.low.getD e.From), a.md⟩, []) := by
        unfold stepA; rw [if_pos i2]; dsimp only; rw [if_pos hv]; rfl
      have s3 : stepA c a e = (⟨true, e.To, some (a.low.getD e.From), a.md⟩, []) := by
        unfold stepA; rw [if_pos hin', if_pos hv]
      simp only [runA, s1, s2, s3]
      rfl
    · have s3 : stepA c a e = (⟨true, e.To, none, (highA c.T a e).1⟩, (highA c.T a e).2) := by
        unfold stepA; rw [if_pos hin', if_neg hv]
      have s1 : stepA c a { e with To := e.From + t } = (⟨true, e.From + t, none, (highA c.T a { e with To := e.From + t }).1⟩, (highA c.T a { e with To := e.From + t }).2) := by
        unfold stepA; rw [if_pos i1, if_neg (show ¬ ({ e with To := e.From + t } : Event).Value = 0 from hv)]
      have i2 : In c ⟨true, e.From + t, none, (highA c.T a { e with To := e.From + t }).1⟩ { e with From := e.From + t } := by
        refine ⟨g1, ?_, g3, g4, (by dsimp only; omega), g6, .inr rfl⟩
        unfold Vld at g2 ⊢
        dsimp only
        omega
      have s2 : stepA c ⟨true, e.From + t, none, (highA c.T a { e with To := e.From + t }).1⟩ { e with From := e.From + t } = (⟨true, e.To, none, (lateA c.T (highA c.T a { e with To := e.From + t }).1 e.To).1⟩, (lateA c.T (highA c.T a { e with To := e.From + t }).1 e.To).2) := by
        unfold stepA; rw [if_pos i2, if_neg (show ¬ ({ e with From := e.From + t } : Event).Value = 0 from hv)]
        simp [highA]
      simp only [runA, s1, s2, s3, List.append_nil]
      have hl := late_two c.T (match a.low with | some b => pulseA c.T a.md b e.From | none => (a.md, [])).1 (e.From + t) e.To (by omega)
      have e1 : (highA c.T a { e with To := e.From + t }).1 = (lateA c.T (match a.low with | some b => pulseA c.T a.md b e.From | none => (a.md, [])).1 (e.From + t)).1 := rfl
      have e2 : (highA c.T a { e with To := e.From + t }).2 = (match a.low with | some b => pulseA c.T a.md b e.From | none => (a.md, [])).2 ++ (lateA c.T (match a.low with | some b => pulseA c.T a.md b e.From | none => (a.md, [])).1 (e.From + t)).2 := rfl
      have e3 : (highA c.T a e).1 = (lateA c.T (match a.low with | some b => pulseA c.T a.md b e.From | none => (a.md, [])).1 e.To).1 := rfl
      have e4 : (highA c.T a e).2 = (match a.low with | some b => pulseA c.T a.md b e.From | none => (a.md, [])).2 ++ (lateA c.T (match a.low with | some b => pulseA c.T a.md b e.From | none => (a.md, [])).1 e.To).2 := rfl
      rw [e1, e2, e3, e4, hl.1, List.append_assoc, hl.2]
  · rw [if_neg h]
theorem runA_append (c : Onewire) : ∀ (l k : List Event) (a : A), runA c a (l ++ k) = ((runA c (runA c a l).1 k).1, (runA c a l).2 ++ (runA c (runA c a l).1 k).2)
  | [], k, a => by simp [runA]
  | e :: l, k, a => by simp [runA, runA_append c l k]
/-- Levels, each one where the one ahead ends. -/
def Ch : Option Int → List Event → Prop
  | _, [] => True
  | o, e :: l => Vld e ∧ e.Kind = 1 ∧ e.Fault = 0 ∧ e.From < e.To ∧ (e.Value = 0 ∨ e.Value = 1) ∧ (∀ t, o = some t → e.From = t) ∧ Ch (some e.To) l
theorem cut_all (c : Onewire) (hc : OkC c) (t : Int) : ∀ (l : List Event) (o : Option Int) (a : A), Ch o l → ((a.st = false ∧ o = none) ∨ o = some a.at_) → runA c a (l.flatMap (cutE t)) = runA c a l
  | [], o, a, _, _ => rfl
  | e :: l, o, a, h, ha => by
    obtain ⟨h1, h2, h3, h4, h5, h6, h7⟩ := h
    have hin : In c a e := ⟨hc, h1, h2, h3, h4, h5, by
      rcases ha with ⟨ha, _⟩ | ha
      · exact .inl ha
      · exact .inr (h6 _ ha)⟩
    rw [List.flatMap_cons, runA_append, cut_run c a e t hin]
    have hat : (stepA c a e).1.at_ = e.To := by
      unfold stepA; rw [if_pos hin]; split <;> rfl
    have ih := cut_all c hc t l (some e.To) (stepA c a e).1 h7 (.inr (by rw [hat]))
    simp only [runA, List.append_nil]
    rw [ih]
theorem run_bad (c : Onewire) (hc : ¬ OkC c) : ∀ (l : List Event) (a : A), runA c a l = (a, [])
  | [], a => rfl
  | e :: l, a => by
    have : stepA c a e = (a, []) := by unfold stepA; rw [if_neg (fun h => hc h.1)]
    simp only [runA, this, run_bad c hc l a, List.nil_append]
theorem ch_l2 (M : Nat) (l : List Event) (hl : l.length ≤ 1000) : ∀ (r : List Event) (i m : Nat), l.drop i = r → r.length < m → ∃ b, law25_chained_l2 M m (i : Int) l = some b ∧ (b = true → Ch (if i = 0 then none else some (l.getD (i - 1) dflt_Event).To) r)
  | r, i, 0, _, hm => by omega
  | [], i, m + 1, hr, hm => by
    have := drop_nil hr
    simp only [law25_chained_l2, b_law25_chained_l2]
    rw [bif_neg (by omega)]
    exact ⟨true, rfl, fun _ => trivial⟩
  | e :: r, i, m + 1, hr, hm => by
    obtain ⟨h1, h2, h3, h4, h5⟩ := drop_cons hr dflt_Event
    simp only [List.length_cons] at hm
    obtain ⟨b, hb, hb2⟩ := ch_l2 M l hl r (i + 1) m h3 (by omega)
    have hprev : l.getD i dflt_Event = e := by have := h1; rwa [Int.toNat_natCast] at this
    rw [if_neg (by omega), show i + 1 - 1 = i by omega, hprev] at hb2
    simp only [law25_chained_l2, b_law25_chained_l2, h1, ref_valid, Option.bind_some, bif_if, bne_if]
    rw [if_pos (by omega), if_pos (by omega), if_pos (by omega), next_i i (by omega), hb]
    by_cases c1 : Vld e
    · rw [decide_eq_true c1]
      simp only [Bool.not_true, Bool.cond_false]
      by_cases c2 : e.Kind = 1
      · rw [if_pos c2]
        by_cases c3 : e.Fault = 0
        · rw [if_pos c3]
          by_cases c4 : e.From ≥ e.To
          · rw [if_pos c4]; exact ⟨false, rfl, by simp⟩
          rw [if_neg c4]
          by_cases c5 : e.Value < 0
          · rw [if_pos c5]; exact ⟨false, rfl, by simp⟩
          rw [if_neg c5]
          by_cases c6 : e.Value > 1
          · rw [if_pos c6]; exact ⟨false, rfl, by simp⟩
          rw [if_neg c6]
          by_cases hi : i = 0
          · rw [if_neg (by omega)]
            refine ⟨b, rfl, fun hbt => ?_⟩
            rw [if_pos hi]
            exact ⟨c1, c2, c3, by omega, by omega, (fun t ht => by cases ht), hb2 hbt⟩
          · have hw : IntKind.i64.wrap ((i : Int) - 1) = ((i - 1 : Nat) : Int) := by rw [i64_ok (by omega)]; omega
            rw [if_pos (by omega), hw, if_pos (by omega), if_pos (by omega), Int.toNat_natCast]
            by_cases c7 : e.From = (l.getD (i - 1) dflt_Event).To
            · rw [if_pos c7]
              refine ⟨b, rfl, fun hbt => ?_⟩
              rw [if_neg hi]
              exact ⟨c1, c2, c3, by omega, by omega, (fun t ht => by injection ht with ht; rw [← ht]; exact c7), hb2 hbt⟩
            · rw [if_neg c7]; exact ⟨false, rfl, by simp⟩
        · rw [if_neg c3]; exact ⟨false, rfl, by simp⟩
      · rw [if_neg c2]; exact ⟨false, rfl, by simp⟩
    · rw [decide_eq_false c1]; exact ⟨false, rfl, by simp⟩
theorem cutE_len (t : Int) (e : Event) : (cutE t e).length ≤ 2 := by unfold cutE; split <;> simp
theorem cut_l3 (M : Nat) (t : Int) (ht : -9223372036854775808 ≤ t ∧ t ≤ 9223372036854775807) (l : List Event) (hl : l.length ≤ 1000) (hw : ∀ e, e ∈ l → Vld e) : ∀ (r : List Event) (i m : Nat) (out : List Event), l.drop i = r → r.length < m → out.length + 2 * r.length ≤ 3000 → law25_cut_l3 M m t (i : Int) l out = some (out ++ r.flatMap (cutE t))
  | r, i, 0, out, _, hm, _ => by omega
  | [], i, m + 1, out, hr, hm, ho => by
    have := drop_nil hr
    simp only [law25_cut_l3, b_law25_cut_l3]
    rw [bif_neg (by omega)]; simp
  | e :: r, i, m + 1, out, hr, hm, ho => by
    obtain ⟨h1, h2, h3, h4, h5⟩ := drop_cons hr dflt_Event
    have hv := hw e h5
    unfold Vld at hv
    simp only [List.length_cons] at hm ho
    simp only [law25_cut_l3, b_law25_cut_l3, h1, beq_if]
    rw [bif_pos (by omega), bif_pos (by omega), bif_pos (by omega), next_i i (by omega), List.flatMap_cons]
    simp only [bif_pos (show (out.length + 1) * 64 ≤ 140737488355328 by omega)]
    have plain : cutE t e = [e] → law25_cut_l3 M m t ((i + 1 : Nat) : Int) l (out ++ [e]) = some (out ++ (cutE t e ++ r.flatMap (cutE t))) := fun h => by
      rw [cut_l3 M t ht l hl hw r (i + 1) m _ h3 (by omega) (by simp; omega), h]; simp
    by_cases c1 : t > 0
    · rw [bif_pos c1]
      by_cases c2 : e.Kind = 1
      · rw [if_pos c2]
        by_cases c3 : e.From ≥ 0
        · rw [bif_pos c3]
          by_cases c4 : e.To > e.From
          · rw [bif_pos c4, i64_ok (n := e.To - e.From) (by omega)]
            by_cases c5 : e.To - e.From > t
            · have hy : t > 0 ∧ e.Kind = 1 ∧ e.From ≥ 0 ∧ e.To > e.From ∧ e.To - e.From > t := ⟨c1, c2, c3, c4, c5⟩
              have hcut : cutE t e = [{ e with To := e.From + t }, { e with From := e.From + t }] := by unfold cutE; rw [if_pos hy]
              rw [bif_pos c5, bif_pos (by simp; omega), i64_ok (by omega), cut_l3 M t ht l hl hw r (i + 1) m _ h3 (by omega) (by simp; omega), hcut]
              simp
            · rw [bif_neg c5]; exact plain (by unfold cutE; rw [if_neg (fun h => c5 h.2.2.2.2)])
          · rw [bif_neg c4]; exact plain (by unfold cutE; rw [if_neg (fun h => c4 h.2.2.2.1)])
        · rw [bif_neg c3]; exact plain (by unfold cutE; rw [if_neg (fun h => c3 h.2.2.1)])
      · rw [if_neg c2]; exact plain (by unfold cutE; rw [if_neg (fun h => c2 h.2.1)])
    · rw [bif_neg c1]; exact plain (by unfold cutE; rw [if_neg (fun h => c1 h.1)])
theorem ch_valid : ∀ (l : List Event) (o : Option Int), Ch o l → ∀ e, e ∈ l → Vld e
  | [], _, _, e, he => by cases he
  | x :: l, o, h, e, he => by
    rcases List.mem_cons.1 he with rfl | he
    · exact h.1
    · exact ch_valid l _ h.2.2.2.2.2.2 e he
theorem OnewirePieces_true (c : Onewire) (l : List Event) (t : Int) (hc : wf_Onewire c) (hl : (∀ x, x ∈ l → wf_Event x) ∧ l.length * Try.prog.bytesOf 33 ≤ 140737488351232) (ht : IntKind.i64.min ≤ t ∧ t ≤ IntKind.i64.max) : ∃ M, law25_OnewirePieces M c l t = some true := by
  refine ⟨1000, ?_⟩
  rw [i64_min, i64_max] at ht
  obtain ⟨b, hb, hb2⟩ := small_is 1000 l (by omega)
  simp only [law25_OnewirePieces, b_law25_OnewirePieces, hb, Option.bind_some, awake_true 1000 (by omega)]
  cases b with
  | false => rfl
  | true =>
    have hl60 := hb2 rfl
    obtain ⟨d, hd, hd2⟩ := ch_l2 1000 l (by omega) l 0 1000 rfl (by omega)
    have hd' : law25_chained 1000 l = some d := hd
    simp only [hd', Option.bind_some, Bool.not_true, Bool.cond_false]
    cases d with
    | false => rfl
    | true =>
      have hch : Ch none l := hd2 rfl
      have hcut : law25_cut 1000 l t = some (l.flatMap (cutE t)) := by
        have := cut_l3 1000 t ht l (by omega) (ch_valid l none hch) l 0 1000 [] rfl (by omega) (by simp; omega)
        rw [List.nil_append] at this
        exact this
      have hlen : ∀ k : List Event, (k.flatMap (cutE t)).length ≤ 2 * k.length := by
        intro k
        induction k with
        | nil => simp
        | cons e k ih => have := cutE_len t e; rw [List.flatMap_cons, List.length_append, List.length_cons]; omega
      have hle := hlen l
      have hdec : decA c (l.flatMap (cutE t)) = decA c l := by
        unfold decA
        by_cases hok : OkC c
        · rw [cut_all c hok t l none a0 hch (.inl ⟨rfl, rfl⟩)]
        · rw [run_bad c hok, run_bad c hok]
      have hdl := dec_len c l
      simp only [hcut, Option.bind_some, Bool.not_true, Bool.cond_false, decode_is 1000 c (l.flatMap (cutE t)) (by omega) (by omega), decode_is 1000 c l (by omega) (by omega), hdec, same_self 1000 (decA c l) (by omega) (by omega), Bool.cond_true, awake_true 1000 (by omega)]
end Go.Abs.K
