/- UART: levels that are divided. -/
import Derived.Test.YtlpileejhdadaaaP5
set_option linter.unusedVariables false
set_option linter.unusedSimpArgs false
namespace Go.Abs.K
open Go Go.Abs Go.Proofs

def cutE (t : Int) (e : Event) : List Event :=
  if t > 0 ∧ e.Kind = 1 ∧ e.From ≥ 0 ∧ e.To > e.From ∧ e.To - e.From > t then [{ e with To := e.From + t }, { e with From := e.From + t }] else [e]
theorem sampL_two (c : Uart) (F T1 T2 v : Int) (hT : T1 ≤ T2) : ∀ (N : Nat) (k acc : Int), k + N = tot c → 
    ((sampL c F T1 v N k acc).1 = 2 ∧ (sampL c F T1 v N k acc).2.2.2 = [] ∧ sampL c F T2 v N k acc = sampL c F T2 v (tot c - (sampL c F T1 v N k acc).2.1).toNat (sampL c F T1 v N k acc).2.1 (sampL c F T1 v N k acc).2.2.1) ∨ ((sampL c F T1 v N k acc).1 ≠ 2 ∧ sampL c F T2 v N k acc = sampL c F T1 v N k acc)
  | 0, k, acc, hk => .inl ⟨rfl, rfl, by show _ = sampL c F T2 v (tot c - k).toNat k acc; rw [show (tot c - k).toNat = 0 by omega]⟩
  | N + 1, k, acc, hk => by
    by_cases c1 : F + hv c (2 * k + 1) < T1
    · have c1' : F + hv c (2 * k + 1) < T2 := by omega
      have e1 : sampL c F T1 v (N + 1) k acc = if k = 0 ∧ v = 1 then (1, k + 1, acc + v * pw k, []) else if k + 1 < tot c then sampL c F T1 v N (k + 1) (acc + v * pw k) else (if v = 1 then 1 else 3, k + 1, acc + v * pw k, [evA c F (acc + v * pw k)]) := by
        show (if _ then _ else _) = _
        rw [if_pos c1]
      have e2 : sampL c F T2 v (N + 1) k acc = if k = 0 ∧ v = 1 then (1, k + 1, acc + v * pw k, []) else if k + 1 < tot c then sampL c F T2 v N (k + 1) (acc + v * pw k) else (if v = 1 then 1 else 3, k + 1, acc + v * pw k, [evA c F (acc + v * pw k)]) := by
        show (if _ then _ else _) = _
        rw [if_pos c1']
      rw [e1, e2]
      by_cases c2 : k = 0 ∧ v = 1
      · rw [if_pos c2, if_pos c2]
        exact .inr ⟨by show (1 : Int) ≠ 2; decide, rfl⟩
      · rw [if_neg c2, if_neg c2]
        by_cases c3 : k + 1 < tot c
        · rw [if_pos c3, if_pos c3]
          exact sampL_two c F T1 T2 v hT N (k + 1) (acc + v * pw k) (by omega)
        · rw [if_neg c3, if_neg c3]
          refine .inr ⟨?_, rfl⟩
          show (if v = 1 then (1 : Int) else 3) ≠ 2
          split <;> decide
    · have e1 : sampL c F T1 v (N + 1) k acc = (2, k, acc, []) := by
        show (if _ then _ else _) = _
        rw [if_neg c1]
      rw [e1]
      refine .inl ⟨rfl, rfl, ?_⟩
      show _ = sampL c F T2 v (tot c - k).toNat k acc
      rw [show (tot c - k).toNat = N + 1 by omega]
theorem go_two (c : Uart) (h : OkU c) (a : A) (e1 e2 e : Event) (hv1 : e1.Value = e.Value) (hv2 : e2.Value = e.Value) (ht2 : e2.To = e.To) (hT : e1.To ≤ e.To) (hv' : e.Value = 0 ∨ e.Value = 1) (hk : 0 ≤ a.cnt ∧ a.cnt < tot c) (ha : 0 ≤ a.acc ∧ a.acc < pw a.cnt) (h2 : a.ph = 2) :
    (stepB c (go c a e1).1 e2).1 = (go c a e).1 ∧ (go c a e1).2 ++ (stepB c (go c a e1).1 e2).2 = (go c a e).2 := by
  obtain ⟨i1, i2, i3, i4⟩ := sampL_wf c h a.frm e1.To e.Value hv' (tot c - a.cnt).toNat a.cnt a.acc (by omega) hk.1 ha
  have two := sampL_two c a.frm e1.To e.To e.Value hT (tot c - a.cnt).toNat a.cnt a.acc (by omega)
  unfold go stepB go
  dsimp only
  rw [hv1, hv2, ht2]
  rcases two with ⟨t1, t2, t3⟩ | ⟨t1, t3⟩
  · rw [if_pos t1, t2, ← t3]
    exact ⟨rfl, rfl⟩
  · rw [if_neg t1, t3]
    rcases i1 with ⟨j1, _⟩ | ⟨j1, j2⟩ | ⟨j1, j2⟩
    · exact absurd j1 t1
    · rw [if_neg (by omega), if_pos j2]
      dsimp only
      rw [List.append_nil, j1]
      exact ⟨rfl, rfl⟩
    · rw [if_pos j1, if_pos j2]
      dsimp only
      rw [List.append_nil]
      exact ⟨rfl, rfl⟩
theorem stepB_two (c : Uart) (h : OkU c) (a : A) (e1 e2 e : Event) (hw : WfA c a) (hv1 : e1.Value = e.Value) (hv2 : e2.Value = e.Value) (ht2 : e2.To = e.To) (hf1 : e1.From = e.From) (hT : e1.To ≤ e.To) (hv' : e.Value = 0 ∨ e.Value = 1) :
    (stepB c (stepB c a e1).1 e2).1 = (stepB c a e).1 ∧ (stepB c a e1).2 ++ (stepB c (stepB c a e1).1 e2).2 = (stepB c a e).2 := by
  have htot := tot_b c h
  by_cases h2 : a.ph = 2
  · obtain ⟨w1, w2, w3⟩ := hw.two h2
    have s1 : ∀ x, stepB c a x = go c a x := fun x => by unfold stepB; rw [if_pos h2]
    rw [s1, s1]
    exact go_two c h a e1 e2 e hv1 hv2 ht2 hT hv' w2 w3 h2
  · by_cases h3 : a.ph = 3
    · rcases hv' with hv' | hv'
      · have s1 : ∀ (b : A) (x : Event), b.ph = 3 → x.Value = 0 → stepB c b x = ({ b with at_ := x.To }, []) := fun b x q1 q2 => by unfold stepB; rw [if_neg (show ¬ b.ph = 2 by omega), if_pos q1, if_pos q2]
        rw [s1 a e h3 hv', s1 a e1 h3 (by omega), s1 { a with at_ := e1.To } e2 h3 (by omega), ht2]
        exact ⟨rfl, rfl⟩
      · have s1 : ∀ x : Event, x.Value = 1 → stepB c a x = ({ a with ph := 1, at_ := x.To }, []) := fun x q => by unfold stepB; rw [if_neg h2, if_pos h3, if_neg (by omega)]
        have s2 : ∀ (b : A) (x : Event), b.ph = 1 → x.Value = 1 → stepB c b x = ({ b with ph := 1, at_ := x.To }, []) := fun b x q1 q2 => by unfold stepB; rw [if_neg (show ¬ b.ph = 2 by omega), if_neg (show ¬ b.ph = 3 by omega), if_pos q2]
        rw [s1 e hv', s1 e1 (by omega), s2 { a with ph := 1, at_ := e1.To } e2 rfl (by omega), ht2]
        exact ⟨rfl, rfl⟩
    · rcases hv' with hv' | hv'
      · have s1 : ∀ x : Event, x.Value = 0 → stepB c a x = go c ⟨2, x.To, x.From, 0, 0⟩ x := fun x q => by unfold stepB; rw [if_neg h2, if_neg h3, if_neg (by omega)]
        rw [s1 e hv', s1 e1 (by omega), hf1]
        have g : go c ⟨2, e1.To, e.From, 0, 0⟩ e1 = go c ⟨2, e.To, e.From, 0, 0⟩ e1 := rfl
        rw [g]
        exact go_two c h ⟨2, e.To, e.From, 0, 0⟩ e1 e2 e hv1 hv2 ht2 hT (.inl hv') (by dsimp only; omega) (by dsimp only; rw [pw0]; omega) rfl
      · have s2 : ∀ (b : A) (x : Event), b.ph ≠ 2 → b.ph ≠ 3 → x.Value = 1 → stepB c b x = ({ b with ph := 1, at_ := x.To }, []) := fun b x q1 q3 q2 => by unfold stepB; rw [if_neg q1, if_neg q3, if_pos q2]
        rw [s2 a e h2 h3 hv', s2 a e1 h2 h3 (by omega), s2 { a with ph := 1, at_ := e1.To } e2 (show (1 : Int) ≠ 2 by decide) (show (1 : Int) ≠ 3 by decide) (by omega), ht2]
        exact ⟨rfl, rfl⟩
theorem cut_run (c : Uart) (h : OkU c) (a : A) (e : Event) (t : Int) (hin : In a e) (hw : WfA c a) : runA c 0 a (cutE t e) = runA c 0 a [e] := by
  unfold cutE
  by_cases hc : t > 0 ∧ e.Kind = 1 ∧ e.From ≥ 0 ∧ e.To > e.From ∧ e.To - e.From > t
  · rw [if_pos hc]
    have hin' := hin
    obtain ⟨g2, g3, g4, g5, g6, g6', g7⟩ := hin
    obtain ⟨k1, k2, k3, k4, k5⟩ := hc
    have i1 : In a { e with To := e.From + t } := by
      refine ⟨?_, g3, g4, (by dsimp only; omega), g6, g6', g7⟩
      unfold Vld at g2 ⊢
      dsimp only
      omega
    obtain ⟨w1, w2, w3, w4⟩ := stepB_wf c h a { e with To := e.From + t } i1 hw
    have i2 : In (stepB c a { e with To := e.From + t }).1 { e with From := e.From + t } := by
      refine ⟨?_, g3, g4, (by dsimp only; omega), g6, g6', .inr w3.symm⟩
      unfold Vld at g2 ⊢
      dsimp only
      omega
    obtain ⟨t1, t2⟩ := stepB_two c h a { e with To := e.From + t } { e with From := e.From + t } e hw rfl rfl rfl rfl (by dsimp only; omega) (by omega)
    have s1 : stepA c 0 a { e with To := e.From + t } = stepB c a { e with To := e.From + t } := by unfold stepA; rw [if_pos ⟨rfl, i1⟩]
    have s2 : stepA c 0 (stepB c a { e with To := e.From + t }).1 { e with From := e.From + t } = stepB c (stepB c a { e with To := e.From + t }).1 { e with From := e.From + t } := by unfold stepA; rw [if_pos ⟨rfl, i2⟩]
    have s3 : stepA c 0 a e = stepB c a e := by unfold stepA; rw [if_pos ⟨rfl, hin'⟩]
    simp only [runA, s1, s2, s3, List.append_nil, t1, t2]
  · rw [if_neg hc]
theorem runA_append (c : Uart) (v : Int) : ∀ (l k : List Event) (a : A), runA c v a (l ++ k) = ((runA c v (runA c v a l).1 k).1, (runA c v a l).2 ++ (runA c v (runA c v a l).1 k).2)
  | [], k, a => by simp [runA]
  | e :: l, k, a => by simp [runA, runA_append c v l k]
/-- Levels, each one where the one ahead ends. -/
def Ch : Option Int → List Event → Prop
  | _, [] => True
  | o, e :: l => Vld e ∧ e.Kind = 1 ∧ e.Fault = 0 ∧ e.From < e.To ∧ (e.Value = 0 ∨ e.Value = 1) ∧ (∀ t, o = some t → e.From = t) ∧ Ch (some e.To) l
theorem cut_all (c : Uart) (h : OkU c) (t : Int) : ∀ (l : List Event) (o : Option Int) (a : A), Ch o l → ((a.ph = 0 ∧ o = none) ∨ o = some a.at_) → WfA c a → runA c 0 a (l.flatMap (cutE t)) = runA c 0 a l
  | [], o, a, _, _, _ => rfl
  | e :: l, o, a, hc, ha, hw => by
    obtain ⟨h1, h2, h3, h4, h5, h6, h7⟩ := hc
    have hin : In a e := ⟨h1, h2, h3, h4, by omega, by omega, by
      rcases ha with ⟨ha, _⟩ | ha
      · exact .inl ha
      · exact .inr (h6 _ ha)⟩
    have s3 : stepA c 0 a e = stepB c a e := by unfold stepA; rw [if_pos ⟨rfl, hin⟩]
    obtain ⟨w1, w2, w3, w4⟩ := stepB_wf c h a e hin hw
    have hat : (stepA c 0 a e).1.at_ = e.To := by rw [s3]; exact w3
    have hwf : WfA c (stepA c 0 a e).1 := by rw [s3]; exact w1
    rw [List.flatMap_cons, runA_append, cut_run c h a e t hin hw]
    have ih := cut_all c h t l (some e.To) (stepA c 0 a e).1 h7 (.inr (by rw [hat])) hwf
    simp only [runA, List.append_nil]
    rw [ih]
theorem run_bad (c : Uart) (v : Int) (hv : v ≠ 0) : ∀ (l : List Event) (a : A), runA c v a l = (a, [])
  | [], a => rfl
  | e :: l, a => by
    have : stepA c v a e = (a, []) := by unfold stepA; rw [if_neg (fun h => hv h.1)]
    simp only [runA, this, run_bad c v hv l a, List.nil_append]
theorem ch_l2 (M : Nat) (l : List Event) (hl : l.length ≤ 1000) : ∀ (r : List Event) (i m : Nat), l.drop i = r → r.length < m → ∃ b, law22_chained_l2 M m (i : Int) l = some b ∧ (b = true → Ch (if i = 0 then none else some (l.getD (i - 1) dflt_Event).To) r)
  | r, i, 0, _, hm => by omega
  | [], i, m + 1, hr, hm => by
    have := drop_nil hr
    simp only [law22_chained_l2, b_law22_chained_l2]
    rw [bif_neg (by omega)]
    exact ⟨true, rfl, fun _ => trivial⟩
  | e :: r, i, m + 1, hr, hm => by
    obtain ⟨h1, h2, h3, h4, h5⟩ := drop_cons hr dflt_Event
    simp only [List.length_cons] at hm
    obtain ⟨b, hb, hb2⟩ := ch_l2 M l hl r (i + 1) m h3 (by omega)
    have hprev : l.getD i dflt_Event = e := by have := h1; rwa [Int.toNat_natCast] at this
    rw [if_neg (by omega), show i + 1 - 1 = i by omega, hprev] at hb2
    simp only [law22_chained_l2, b_law22_chained_l2, h1, ref_valid, Option.bind_some, bif_if, bne_if]
    rw [if_pos (by omega), if_pos (by omega), if_pos (by omega), next_i i (by omega), hb]
    by_cases c1 : Vld e
    · rw [decide_eq_true c1]
      simp only [Bool.not_true, Bool.cond_false]
      by_cases c2 : e.Kind = 1
      · rw [if_pos c2]
        by_cases c3 : e.Fault = 0
        · rw [if_pos c3]
          by_cases c4 : e.From ≥ e.To
          · rw [if_pos c4]; exact ⟨false, rfl, by simp⟩
          rw [if_neg c4]
          by_cases c5 : e.Value < 0
          · rw [if_pos c5]; exact ⟨false, rfl, by simp⟩
          rw [if_neg c5]
          by_cases c6 : e.Value > 1
          · rw [if_pos c6]; exact ⟨false, rfl, by simp⟩
          rw [if_neg c6]
          by_cases hi : i = 0
          · rw [if_neg (by omega)]
            refine ⟨b, rfl, fun hbt => ?_⟩
            rw [if_pos hi]
            exact ⟨c1, c2, c3, by omega, by omega, (fun t ht => by cases ht), hb2 hbt⟩
          · have hw : IntKind.i64.wrap ((i : Int) - 1) = ((i - 1 : Nat) : Int) := by rw [i64_ok (by omega)]; omega
            rw [if_pos (by omega), hw, if_pos (by omega), if_pos (by omega), Int.toNat_natCast]
            by_cases c7 : e.From = (l.getD (i - 1) dflt_Event).To
            · rw [if_pos c7]
              refine ⟨b, rfl, fun hbt => ?_⟩
              rw [if_neg hi]
              exact ⟨c1, c2, c3, by omega, by omega, (fun t ht => by injection ht with ht; rw [← ht]; exact c7), hb2 hbt⟩
            · rw [if_neg c7]; exact ⟨false, rfl, by simp⟩
        · rw [if_neg c3]; exact ⟨false, rfl, by simp⟩
      · rw [if_neg c2]; exact ⟨false, rfl, by simp⟩
    · rw [decide_eq_false c1]; exact ⟨false, rfl, by simp⟩
theorem cutE_len (t : Int) (e : Event) : (cutE t e).length ≤ 2 := by unfold cutE; split <;> simp
theorem cut_l3 (M : Nat) (t : Int) (ht : -9223372036854775808 ≤ t ∧ t ≤ 9223372036854775807) (l : List Event) (hl : l.length ≤ 1000) (hw : ∀ e, e ∈ l → Vld e) : ∀ (r : List Event) (i m : Nat) (out : List Event), l.drop i = r → r.length < m → out.length + 2 * r.length ≤ 3000 → law22_cut_l3 M m t (i : Int) l out = some (out ++ r.flatMap (cutE t))
  | r, i, 0, out, _, hm, _ => by omega
  | [], i, m + 1, out, hr, hm, ho => by
    have := drop_nil hr
    simp only [law22_cut_l3, b_law22_cut_l3]
    rw [bif_neg (by omega)]; simp
  | e :: r, i, m + 1, out, hr, hm, ho => by
    obtain ⟨h1, h2, h3, h4, h5⟩ := drop_cons hr dflt_Event
    have hv := hw e h5
    unfold Vld at hv
    simp only [List.length_cons] at hm ho
    simp only [law22_cut_l3, b_law22_cut_l3, h1, beq_if]
    rw [bif_pos (by omega), bif_pos (by omega), bif_pos (by omega), next_i i (by omega), List.flatMap_cons]
    simp only [bif_pos (show (out.length + 1) * 64 ≤ 140737488355328 by omega)]
    have plain : cutE t e = [e] → law22_cut_l3 M m t ((i + 1 : Nat) : Int) l (out ++ [e]) = some (out ++ (cutE t e ++ r.flatMap (cutE t))) := fun h => by
      rw [cut_l3 M t ht l hl hw r (i + 1) m _ h3 (by omega) (by simp; omega), h]; simp
    by_cases c1 : t > 0
    · rw [bif_pos c1]
      by_cases c2 : e.Kind = 1
      · rw [if_pos c2]
        by_cases c3 : e.From ≥ 0
        · rw [bif_pos c3]
          by_cases c4 : e.To > e.From
          · rw [bif_pos c4, i64_ok (n := e.To - e.From) (by omega)]
            by_cases c5 : e.To - e.From > t
            · have hy : t > 0 ∧ e.Kind = 1 ∧ e.From ≥ 0 ∧ e.To > e.From ∧ e.To - e.From > t := ⟨c1, c2, c3, c4, c5⟩
              have hcut : cutE t e = [{ e with To := e.From + t }, { e with From := e.From + t }] := by unfold cutE; rw [if_pos hy]
              rw [bif_pos c5, bif_pos (by simp; omega), i64_ok (by omega), cut_l3 M t ht l hl hw r (i + 1) m _ h3 (by omega) (by simp; omega), hcut]
              simp
            · rw [bif_neg c5]; exact plain (by unfold cutE; rw [if_neg (fun h => c5 h.2.2.2.2)])
          · rw [bif_neg c4]; exact plain (by unfold cutE; rw [if_neg (fun h => c4 h.2.2.2.1)])
        · rw [bif_neg c3]; exact plain (by unfold cutE; rw [if_neg (fun h => c3 h.2.2.1)])
      · rw [if_neg c2]; exact plain (by unfold cutE; rw [if_neg (fun h => c2 h.2.1)])
    · rw [bif_neg c1]; exact plain (by unfold cutE; rw [if_neg (fun h => c1 h.1)])
theorem ch_valid : ∀ (l : List Event) (o : Option Int), Ch o l → ∀ e, e ∈ l → Vld e
  | [], _, _, e, he => by cases he
  | x :: l, o, h, e, he => by
    rcases List.mem_cons.1 he with rfl | he
    · exact h.1
    · exact ch_valid l _ h.2.2.2.2.2.2 e he
theorem UartPieces_true (c : Uart) (l : List Event) (t : Int) (hc : wf_Uart c) (hl : (∀ x, x ∈ l → wf_Event x) ∧ l.length * Try.prog.bytesOf 35 ≤ 140737488351232) (ht : IntKind.i64.min ≤ t ∧ t ≤ IntKind.i64.max) : ∃ M, law22_UartPieces M c l t = some true := by
  obtain ⟨M, hM⟩ := big
  obtain ⟨v, H⟩ := cf_some M (by omega) c
  refine ⟨M, ?_⟩
  rw [i64_min, i64_max] at ht
  obtain ⟨b, hb, hb2⟩ := small_is M l (by omega)
  simp only [law22_UartPieces, b_law22_UartPieces, hb, Option.bind_some, awake_true M (by omega)]
  cases b with
  | false => rfl
  | true =>
    have hl60 := hb2 rfl
    obtain ⟨d, hd, hd2⟩ := ch_l2 M l (by omega) l 0 M rfl (by omega)
    have hd' : law22_chained M l = some d := hd
    simp only [hd', Option.bind_some, Bool.not_true, Bool.cond_false]
    cases d with
    | false => rfl
    | true =>
      have hch : Ch none l := hd2 rfl
      have hcut : law22_cut M l t = some (l.flatMap (cutE t)) := by
        have := cut_l3 M t ht l (by omega) (ch_valid l none hch) l 0 M [] rfl (by omega) (by simp; omega)
        rw [List.nil_append] at this
        exact this
      have hlen : ∀ k : List Event, (k.flatMap (cutE t)).length ≤ 2 * k.length := by
        intro k
        induction k with
        | nil => simp
        | cons e k ih => have := cutE_len t e; rw [List.flatMap_cons, List.length_append, List.length_cons]; omega
      have hle := hlen l
      have hdec : decA c v (l.flatMap (cutE t)) = decA c v l := by
        unfold decA
        by_cases hv0 : v = 0
        · subst hv0
          rw [cut_all c (H.ok rfl) t l none a0 hch (.inl ⟨rfl, rfl⟩) (wf0 c)]
        · rw [run_bad c v hv0, run_bad c v hv0]
      have hdl := dec_len H l
      simp only [hcut, Option.bind_some, Bool.not_true, Bool.cond_false, decode_is (show 1000000 < M by omega) H (l.flatMap (cutE t)) (by omega), decode_is (show 1000000 < M by omega) H l (by omega), hdec, same_self M (decA c v l) (by omega) (by omega), Bool.cond_true, awake_true M (by omega)]
end Go.Abs.K
