/- SLIP: bytes as events; the laws of waiting and of restarting. -/
import Derived.Test.YtafkldlnijbchaaP2
set_option linter.unusedVariables false
set_option linter.unusedSimpArgs false
namespace Go.Abs.K
open Go Go.Abs Go.Proofs

/-- The event of a byte. -/
abbrev ev (t b : Int) : Event := Event.mk 3 t (t + 1) b 0 (bs []) 0
def evs : Int → List Int → List Event
  | _, [] => []
  | t, b :: l => ev t b :: evs (t + 1) l
theorem evs_len : ∀ (l : List Int) (t : Int), (evs t l).length = l.length
  | [], t => rfl
  | b :: l, t => by simp [evs, evs_len l]
theorem evs_append : ∀ (l k : List Int) (t : Int), evs t (l ++ k) = evs t l ++ evs (t + l.length) k
  | [], k, t => by simp [evs]
  | b :: l, k, t => by
    simp only [List.cons_append, evs, evs_append l k (t + 1), List.length_cons, Int.natCast_add, Int.natCast_one]
    congr 3; omega
theorem bytes_l3 (M : Nat) (b : ByteArray) (t : Int) (ht : 0 ≤ t) (ht2 : t + b.size < 1000000000) : ∀ (r : List Int) (i m : Nat) (out : List Event), (ofBytes b).drop i = r → r.length < m → out.length + r.length ≤ 10000000 → law29_Bytes_l3 M m b t (i : Int) out = some (out ++ evs (t + i) r)
  | r, i, 0, out, _, hm, _ => by omega
  | [], i, m + 1, out, hr, hm, ho => by
    have h := drop_nil hr
    rw [ofBytes_length] at h
    simp only [law29_Bytes_l3, b_law29_Bytes_l3]
    rw [bif_neg (by omega)]; simp [evs]
  | x :: r, i, m + 1, out, hr, hm, ho => by
    obtain ⟨h1, h2, h3, h4, h5⟩ := drop_cons hr 0
    rw [ofBytes_length] at h2 h4
    have hx := bytes_ofBytes b x h5
    have hb : byteAt b (i : Int) = x := by rw [byteAt_eq]; exact h1
    simp only [List.length_cons] at hm ho
    simp only [law29_Bytes_l3, b_law29_Bytes_l3, hb]
    rw [bif_pos (by omega), bif_pos (by omega), bif_pos (by omega), bif_pos (by omega), next_i i (by omega), i64_ok (n := t + i) (by omega), i64_ok (n := t + i + 1) (by omega), i64_ok (n := x) (by omega)]
    rw [bytes_l3 M b t ht ht2 r (i + 1) m _ h3 (by omega) (by simp; omega)]
    simp only [evs, ev, List.append_assoc, List.cons_append, List.nil_append, Int.natCast_add, Int.natCast_one]
    rw [Int.add_assoc t i 1]
theorem bytes_is (M : Nat) (b : ByteArray) (t : Int) (ht : 0 ≤ t) (ht2 : t + b.size < 1000000000) (hb : b.size ≤ 1000000) (hM : b.size < M) : law29_Bytes M b t = some (evs t (ofBytes b)) := by
  simp only [law29_Bytes, b_law29_Bytes]
  rw [bif_pos (by omega)]
  have := bytes_l3 M b t ht ht2 (ofBytes b) 0 M [] rfl (by rw [ofBytes_length]; omega) (by rw [ofBytes_length]; simp; omega)
  simpa using this
/-- A byte that is let in. -/
theorem in_ev (c : Slip) (hc : OkC c) (s : State) (t b : Int) (hb : 0 ≤ b ∧ b ≤ 255) (ht : 0 ≤ t) (ht2 : t < 1000000000) (hs : s.Prev ≤ t) : In c s (ev t b) := by
  refine ⟨hc, ?_, rfl, hb.1, hb.2, hs⟩
  unfold Vld
  dsimp only
  have : ((bs []).size : Int) = 0 := rfl
  omega
theorem step_ev (c : Slip) (hc : OkC c) (s : State) (t b : Int) (hb : 0 ≤ b ∧ b ≤ 255) (ht : 0 ≤ t) (ht2 : t < 1000000000) (hs : s.Prev ≤ t) (hn : b ≠ 192) :
    stepS c s (ev t b) = (takeS c (open1 { s with At := t + 1, Prev := t } t) b, []) := by
  unfold stepS
  rw [if_pos (in_ev c hc s t b hb ht ht2 hs)]
  dsimp only
  rw [if_neg (by simp), if_pos hn]
theorem put_keep (c : Slip) (s : State) (b : Int) : (putS c s b).At = s.At ∧ (putS c s b).Prev = s.Prev ∧ (putS c s b).From = s.From ∧ (putS c s b).Phase = s.Phase := by
  unfold putS; split <;> exact ⟨rfl, rfl, rfl, rfl⟩
theorem take_keep (c : Slip) (s : State) (b : Int) (h : Ph s) (hn : s.Phase ≠ 0) : (takeS c s b).At = s.At ∧ (takeS c s b).Prev = s.Prev ∧ (takeS c s b).From = s.From ∧ (takeS c s b).Phase ≠ 0 := by
  have h4 := (take_ph c s b h hn).2
  have key : ∀ x, (putS c { s with Phase := 1 } x).At = s.At ∧ (putS c { s with Phase := 1 } x).Prev = s.Prev ∧ (putS c { s with Phase := 1 } x).From = s.From := fun x => by
    have := put_keep c { s with Phase := 1 } x
    exact ⟨this.1, this.2.1, this.2.2.1⟩
  refine ⟨?_, ?_, ?_, h4⟩ <;> (unfold takeS; repeat' split) <;> first | rfl | exact (key _).1 | exact (key _).2.1 | exact (key _).2.2

/-! ### Waiting -/
theorem wait_run (c : Slip) (hc : OkC c) (f : Int) : ∀ (l : List Int) (s : State) (t : Int), Ph s → s.Phase ≠ 0 → s.From = f → s.At = t → s.Prev ≤ t → 0 ≤ t → t + l.length < 1000000000 → Bytes l → (∀ b, b ∈ l → b ≠ 192) → (runS c s (evs t l)).2 = [] ∧ (runS c s (evs t l)).1.Phase ≠ 0 ∧ (runS c s (evs t l)).1.From = f ∧ (runS c s (evs t l)).1.At = t + l.length
  | [], s, t, hp, hn, hf, ha, hs, h0, h1, hB, hl => by simp [evs, runS, hn, hf, ha]
  | b :: l, s, t, hp, hn, hf, ha, hs, h0, h1, hB, hl => by
    simp only [List.length_cons, Int.natCast_add, Int.natCast_one] at h1
    have hb := hB b (by simp)
    have st := step_ev c hc s t b hb h0 (by omega) hs (hl b (by simp))
    have ho : open1 { s with At := t + 1, Prev := t } t = { s with At := t + 1, Prev := t } := by unfold open1; rw [if_neg hn]
    rw [ho] at st
    have hk := take_keep c { s with At := t + 1, Prev := t } b (at_ph s hp _ _) hn
    have ih := wait_run c hc f l (takeS c { s with At := t + 1, Prev := t } b) (t + 1) (take_ph c { s with At := t + 1, Prev := t } b (at_ph s hp _ _) hn).1 hk.2.2.2 (hk.2.2.1.trans hf) hk.1 (by rw [hk.2.1]; dsimp only; omega) (by omega) (by omega) (fun x hx => hB x (by simp [hx])) (fun x hx => hl x (by simp [hx]))
    simp only [evs, runS, st, List.nil_append]
    refine ⟨ih.1, ih.2.1, ih.2.2.1, ?_⟩
    rw [ih.2.2.2]; simp only [List.length_cons, Int.natCast_add, Int.natCast_one]; omega
theorem wait_dec (c : Slip) (hc : OkC c) (t : Int) (l : List Int) (h0 : 0 ≤ t) (h1 : t + l.length < 1000000000) (hB : Bytes l) (hl : ∀ b, b ∈ l → b ≠ 192) (hne : l ≠ []) : decS c (evs t l) = [Event.mk 6 t (t + l.length) 0 0 (bs []) 7] := by
  cases l with
  | nil => exact absurd rfl hne
  | cons b l =>
    simp only [List.length_cons, Int.natCast_add, Int.natCast_one] at h1 ⊢
    have hb := hB b (by simp)
    have st := step_ev c hc s0 t b hb h0 (by omega) (show (0 : Int) ≤ t from h0) (hl b (by simp))
    have hopen := open_ph { s0 with At := t + 1, Prev := t } t s0_ph
    have hk := take_keep c (open1 { s0 with At := t + 1, Prev := t } t) b hopen.1 hopen.2
    have hw := wait_run c hc t l (takeS c (open1 { s0 with At := t + 1, Prev := t } t) b) (t + 1) (take_ph c _ b hopen.1 hopen.2).1 hk.2.2.2 (hk.2.2.1.trans rfl) hk.1 (by rw [hk.2.1]; show t ≤ t + 1; omega) (by omega) (by omega) (fun x hx => hB x (by simp [hx])) (fun x hx => hl x (by simp [hx]))
    unfold decS
    simp only [evs, runS, st, List.nil_append]
    rw [hw.1, List.nil_append]
    unfold endS givenS
    rw [if_pos hc, if_neg hw.2.1, hw.2.2.1, hw.2.2.2, if_neg (by omega)]
    congr 2; omega
theorem waits_l4 (c : Slip) (hc : OkC c) (b : ByteArray) (hb : 1 ≤ b.size ∧ b.size ≤ 2000) : ∀ (r : List Int) (i m : Nat), (ofBytes b).drop i = r → r.length < m → (∀ x, x ∈ (ofBytes b).take i → x ≠ 192) → law29_SlipWaits_l4 3000 m b (i : Int) c = some true
  | r, i, 0, _, hm, _ => by omega
  | [], i, m + 1, hr, hm, hno => by
    have h := drop_nil hr
    have htk : (ofBytes b).take i = ofBytes b := List.take_of_length_le h
    rw [htk] at hno
    rw [ofBytes_length] at h
    have hne : ofBytes b ≠ [] := fun h => by have := congrArg List.length h; rw [ofBytes_length, List.length_nil] at this; omega
    have hw := wait_dec c hc 3 (ofBytes b) (by omega) (by rw [ofBytes_length]; omega) (bytes_ofBytes b) hno hne
    rw [ofBytes_length] at hw
    simp only [law29_SlipWaits_l4, b_law29_SlipWaits_l4, awake_true 3000 (by omega), Option.bind_some]
    rw [bif_neg (by omega), bytes_is 3000 b 3 (by omega) (by omega) (by omega) (by omega), Option.bind_some, decode_is 3000 c _ (by rw [evs_len, ofBytes_length]; omega) (by rw [evs_len, ofBytes_length]; omega), Option.bind_some, hw, i64_ok (by omega), same_self 3000 _ (by simp) (by simp)]
    rfl
  | x :: r, i, m + 1, hr, hm, hno => by
    obtain ⟨h1, h2, h3, h4, h5⟩ := drop_cons hr 0
    have htk : (ofBytes b).take (i + 1) = (ofBytes b).take i ++ [x] := by
      rw [List.take_add_one]
      congr 1
      have : ((ofBytes b).drop i)[0]? = some x := by rw [hr]; rfl
      rw [List.getElem?_drop, Nat.add_zero] at this
      rw [this]; rfl
    rw [ofBytes_length] at h2 h4
    have hb' : byteAt b (i : Int) = x := by rw [byteAt_eq]; exact h1
    simp only [List.length_cons] at hm
    simp only [law29_SlipWaits_l4, b_law29_SlipWaits_l4, hb', awake_true 3000 (by omega), Option.bind_some, beq_if]
    rw [bif_pos (by omega), bif_pos (by omega), bif_pos (by omega), next_i i (by omega)]
    by_cases hx : x = 192
    · rw [if_pos hx]
    · rw [if_neg hx]
      refine waits_l4 c hc b hb r (i + 1) m h3 (by omega) ?_
      intro y hy
      rw [htk] at hy
      rcases List.mem_append.1 hy with hy | hy
      · exact hno y hy
      · simp at hy; subst hy; exact hx
theorem SlipWaits_true (c : Slip) (b : ByteArray) (hc : wf_Slip c) (hb : b.size ≤ 140737488351232) : ∃ M, law29_SlipWaits M c b = some true := by
  refine ⟨3000, ?_⟩
  simp only [law29_SlipWaits, b_law29_SlipWaits, check_is, Option.bind_some, bne_if, awake_true 3000 (by omega)]
  by_cases h : OkC c
  · simp only [if_pos h, if_true]
    by_cases h1 : (b.size : Int) < 1
    · rw [bif_pos h1]
    rw [bif_neg h1]
    by_cases h2 : (b.size : Int) > 2000
    · rw [bif_pos h2]
    rw [bif_neg h2]
    exact waits_l4 c h b (by omega) (ofBytes b) 0 3000 rfl (by rw [ofBytes_length]; omega) (by simp)
  · simp only [if_neg h]; rfl

/-! ### Restarting -/
theorem run_at (c : Slip) (hc : OkC c) : ∀ (l : List Int) (s : State) (t : Int), Ph s → s.Prev ≤ t → 0 ≤ t → t + l.length < 1000000000 → Bytes l → (l ≠ [] ∨ (s.Phase ≠ 0 → s.At = t)) → (runS c s (evs t l)).1.Prev ≤ t + l.length ∧ ((runS c s (evs t l)).1.Phase ≠ 0 → (runS c s (evs t l)).1.At = t + l.length)
  | [], s, t, hp, hs, h0, h1, hB, ha => by
    rcases ha with ha | ha
    · exact absurd rfl ha
    · simp only [evs, runS, List.length_nil, Int.natCast_zero, Int.add_zero]
      exact ⟨hs, ha⟩
  | b :: l, s, t, hp, hs, h0, h1, hB, ha => by
    simp only [List.length_cons, Int.natCast_add, Int.natCast_one] at h1 ⊢
    have hb := hB b (by simp)
    have hin := in_ev c hc s t b hb h0 (by omega) hs
    have hst : (stepS c s (ev t b)).1.At = t + 1 ∧ (stepS c s (ev t b)).1.Prev = t := by
      by_cases hn : b = 192
      · unfold stepS
        rw [if_pos hin]
        dsimp only
        rw [if_neg (by simp), if_neg (by simp [hn])]
        split <;> exact ⟨rfl, rfl⟩
      · rw [step_ev c hc s t b hb h0 (by omega) hs hn]
        have hopen := open_ph { s with At := t + 1, Prev := t } t (at_ph s hp _ _)
        have hk := take_keep c (open1 { s with At := t + 1, Prev := t } t) b hopen.1 hopen.2
        have ho : (open1 { s with At := t + 1, Prev := t } t).At = t + 1 ∧ (open1 { s with At := t + 1, Prev := t } t).Prev = t := by
          unfold open1; split <;> exact ⟨rfl, rfl⟩
        exact ⟨hk.1.trans ho.1, hk.2.1.trans ho.2⟩
    have ih := run_at c hc l (stepS c s (ev t b)).1 (t + 1) (step_ph c s _ hp) (by rw [hst.2]; omega) (by omega) (by omega) (fun x hx => hB x (by simp [hx])) (.inr fun _ => hst.1)
    simp only [evs, runS]
    have e : t + ((l.length : Int) + 1) = t + 1 + l.length := by omega
    rw [e]
    exact ih
/-- From a state without a packet on, bytes give what they give at the beginning. -/
theorem fresh_run (c : Slip) (hc : OkC c) (a p t : Int) (l : List Int) (hp : p ≤ t) (h0 : 0 ≤ t) (h1 : t + l.length < 1000000000) (hB : Bytes l) :
    (runS c (State.mk 0 a 0 0 0 0 p (bs [])) (evs t l)).2 ++ endS c (runS c (State.mk 0 a 0 0 0 0 p (bs [])) (evs t l)).1 = decS c (evs t l) := by
  unfold decS
  cases l with
  | nil => simp [evs, runS, endS, givenS, s0]
  | cons b l =>
    simp only [List.length_cons, Int.natCast_add, Int.natCast_one] at h1
    have hb := hB b (by simp)
    have e : stepS c (State.mk 0 a 0 0 0 0 p (bs [])) (ev t b) = stepS c s0 (ev t b) := by
      unfold stepS
      rw [if_pos (in_ev c hc _ t b hb h0 (by omega) hp), if_pos (in_ev c hc s0 t b hb h0 (by omega) (show (0 : Int) ≤ t from h0))]
      rfl
    simp only [evs, runS, e]
theorem SlipRestarts_true (c : Slip) (x y : ByteArray) (f : Int) (hc : wf_Slip c) (hx : x.size ≤ 140737488351232) (hy : y.size ≤ 140737488351232) (hf : IntKind.i64.min ≤ f ∧ f ≤ IntKind.i64.max) : ∃ M, law29_SlipRestarts M c x y f = some true := by
  refine ⟨10000, ?_⟩
  simp only [law29_SlipRestarts, b_law29_SlipRestarts, check_is, Option.bind_some, bne_if, awake_true 10000 (by omega)]
  by_cases h : OkC c
  · simp only [if_pos h, if_true]
    by_cases h1 : (x.size : Int) > 2000
    · rw [bif_pos h1]
    rw [bif_neg h1]
    by_cases h2 : (y.size : Int) > 2000
    · rw [bif_pos h2]
    rw [bif_neg h2]
    by_cases h3 : f < 1
    · rw [bif_pos h3]
    rw [bif_neg h3]
    by_cases h4 : f > 12
    · rw [bif_pos h4]
    rw [bif_neg h4, i64_ok (by omega)]
    have lx := ofBytes_length x
    have ly := ofBytes_length y
    have bx := bytes_ofBytes x
    have by' := bytes_ofBytes y
    simp only [bytes_is 10000 x 0 (by omega) (by omega) (by omega) (by omega), bytes_is 10000 y ((x.size : Int) + 1) (by omega) (by omega) (by omega) (by omega), Option.bind_some]
    have ex := evs_len (ofBytes x) 0
    have ey := evs_len (ofBytes y) ((x.size : Int) + 1)
    have hd1 := dec_len c (evs 0 (ofBytes x))
    have hd2 := dec_len c (evs ((x.size : Int) + 1) (ofBytes y))
    rw [bif_pos (by omega), bif_pos (by rw [List.length_append]; simp; omega)]
    rw [decode_is 10000 c (evs 0 (ofBytes x)) (by omega) (by omega), Option.bind_some, decode_is 10000 c (evs ((x.size : Int) + 1) (ofBytes y)) (by omega) (by omega), Option.bind_some, decode_is 10000 c _ (by simp; omega) (by simp; omega), Option.bind_some]
    have hr := run_at c h (ofBytes x) s0 0 s0_ph (by decide) (by omega) (by omega) bx (.inr fun hh => absurd rfl hh)
    rw [Int.zero_add, lx] at hr
    have hph := runS_ph c (evs 0 (ofBytes x)) s0 s0_ph
    have hcat : decS c (evs 0 (ofBytes x) ++ [Event.mk 3 (x.size : Int) ((x.size : Int) + 1) 97 0 (bs []) f] ++ evs ((x.size : Int) + 1) (ofBytes y)) = decS c (evs 0 (ofBytes x)) ++ decS c (evs ((x.size : Int) + 1) (ofBytes y)) := by
      have hfr := fresh_run c h ((x.size : Int) + 1) (x.size : Int) ((x.size : Int) + 1) (ofBytes y) (by omega) (by omega) (by omega) by'
      rw [← hfr]
      have hst : stepS c (runS c s0 (evs 0 (ofBytes x))).1 (Event.mk 3 (x.size : Int) ((x.size : Int) + 1) 97 0 (bs []) f) = (State.mk 0 ((x.size : Int) + 1) 0 0 0 0 (x.size : Int) (bs []), endS c (runS c s0 (evs 0 (ofBytes x))).1) := by
        generalize runS c s0 (evs 0 (ofBytes x)) = q at *
        have hin : In c q.1 (Event.mk 3 (x.size : Int) ((x.size : Int) + 1) 97 0 (bs []) f) := by
          refine ⟨h, ?_, rfl, (show (0 : Int) ≤ 97 by omega), (show (97 : Int) ≤ 255 by omega), hr.1⟩
          unfold Vld
          dsimp only
          have : ((bs []).size : Int) = 0 := rfl
          omega
        unfold stepS
        rw [if_pos hin]
        have hf0 : f ≠ 0 := by omega
        dsimp only
        rw [if_pos hf0]
        have hg : givenS q.1 (x.size : Int) = endS c q.1 := by
          unfold endS
          rw [if_pos h]
          by_cases hz : q.1.Phase = 0
          · unfold givenS; rw [if_pos hz, if_pos hz]
          · rw [hr.2 hz]
        rw [hg]
        rfl
      unfold decS
      simp only [List.append_assoc, List.singleton_append, runS_append, runS, hst]
    rw [hcat]
    have hlen : ((decS c (evs 0 (ofBytes x)) ++ decS c (evs ((x.size : Int) + 1) (ofBytes y))).length : Int) = ((decS c (evs 0 (ofBytes x))).length : Int) + (decS c (evs ((x.size : Int) + 1) (ofBytes y))).length := by
      rw [List.length_append, Int.natCast_add]
    rw [hlen, i64_ok (by omega), if_pos rfl, bif_pos (by omega), Int.toNat_natCast, List.take_left, List.drop_zero, same_self 10000 _ (by omega) (by omega)]
    simp only [Option.bind_some, Bool.cond_true]
    rw [bif_pos (by omega), bif_pos (by omega), List.take_of_length_le (by omega), List.drop_left, same_self 10000 _ (by omega) (by omega)]
    rfl
  · simp only [if_neg h]; rfl
end Go.Abs.K
