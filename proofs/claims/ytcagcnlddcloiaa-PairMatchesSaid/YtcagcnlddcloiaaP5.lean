/- PAIR: the decoders, in the program and in the document; PairDecodes. -/
import Derived.Test.YtcagcnlddcloiaaP4
set_option linter.unusedVariables false
set_option linter.unusedSimpArgs false
namespace Go.Abs.K
open Go Go.Abs Go.Proofs

def CV (c : Pair) : Prop := 1 ≤ c.Timeout ∧ c.Timeout ≤ 1099511627776
instance (c : Pair) : Decidable (CV c) := by unfold CV; infer_instance
theorem check_is (M : Nat) (c : Pair) : pair_Check M c = some (if CV c then 0 else 2) := by
  simp only [pair_Check, b_pair_Check, bif_if]
  by_cases h : CV c
  · rw [if_pos h]
    unfold CV at h
    rw [if_neg (by omega), if_neg (by omega)]
  · rw [if_neg h]
    unfold CV at h
    by_cases h1 : c.Timeout < 1
    · rw [if_pos h1]
    · rw [if_neg h1, if_pos (by omega)]
theorem rcheck_is (M : Nat) (c : Pair) : ref33_Check M c = some (if CV c then 0 else 2) := by
  simp only [ref33_Check, b_ref33_Check, bif_if]
  by_cases h : CV c
  · rw [if_pos h]
    unfold CV at h
    rw [if_neg (by omega), if_neg (by omega)]
  · rw [if_neg h]
    unfold CV at h
    by_cases h1 : c.Timeout < 1
    · rw [if_pos h1]
    · rw [if_neg h1, if_pos (by omega)]
theorem step15 (M : Nat) (hM : 100010 < M) (c0 c2 : State) (e : Event) (t : List Pair_request) (ht : t.length ≤ 100000) : ∀ (r : List Pair_request) (i m : Nat) (out : List Event), t.drop i = r → r.length < m → out.length + r.length ≤ 1000000 →
    pair_Step_l15 M m (t.length : Int) (i : Int) c0 e c2 out t = some ({ c0 with Data := toBytes [] }, out ++ r.map fun x => gv x e.From 7)
  | r, i, 0, out, _, hm, _ => by omega
  | [], i, m + 1, out, h, hm, hb => by
    have := drop_nil h
    simp only [pair_Step_l15, b_pair_Step_l15]
    rw [bif_neg (by omega), store_is M hM c0 [] (fun x hx => nomatch hx) (by simp)]
    simp [encP]
  | x :: r, i, m + 1, out, h, hm, hb => by
    obtain ⟨h1, h2, h3, h4, h5⟩ := drop_cons h dflt_Pair_request
    simp only [List.length_cons] at hm hb
    simp only [pair_Step_l15, b_pair_Step_l15, h1]
    rw [bif_pos (by omega), bif_pos (by omega), bif_pos (by omega), bif_pos (by omega), next_i i (by omega), step15 M hM c0 c2 e t ht r (i + 1) m _ h3 (by omega) (by simp only [List.length_append, List.length_cons, List.length_nil]; omega)]
    simp [gv]
theorem step7 (M : Nat) (c : Pair) (c1 c3 : State) (e : Event) (t : List Pair_request) (hq : Rqs t) (ht : t.length ≤ 100000) (hc : CV c) (hv : Vld e) : ∀ (r : List Pair_request) (i m : Nat) (l : List Pair_request) (out : List Event), t.drop i = r → r.length < m → l.length + r.length ≤ 100000 → out.length + r.length ≤ 100000 →
    pair_Step_l7 M m (t.length : Int) (i : Int) c c1 e c3 l out t = pair_Step_l7 M 1 0 0 c c1 e c3 (l ++ kp c.Timeout e.From r) (out ++ exp c.Timeout e.From r) []
  | r, i, 0, l, out, _, hm, _, _ => by omega
  | [], i, m + 1, l, out, h, hm, hb, ho => by
    have := drop_nil h
    simp only [pair_Step_l7, b_pair_Step_l7]
    rw [bif_neg (show ¬ (i : Int) < (t.length : Int) by omega), bif_neg (show ¬ (0 : Int) < 0 by omega)]
    simp only [kp, exp, List.append_nil]
  | x :: r, i, m + 1, l, out, h, hm, hb, ho => by
    obtain ⟨h1, h2, h3, h4, h5⟩ := drop_cons h dflt_Pair_request
    obtain ⟨q1, q2, q3, q4, q5⟩ := hq x h5
    have hv' := hv
    obtain ⟨v1, v2, v3, v4, v5, _⟩ := hv'
    obtain ⟨k1, k2⟩ := hc
    simp only [List.length_cons] at hm hb ho
    have e0 : pair_Step_l7 M (m + 1) (t.length : Int) (i : Int) c c1 e c3 l out t = if e.From - x.to_ > c.Timeout then pair_Step_l7 M m (t.length : Int) ((i + 1 : Nat) : Int) c c1 e c3 l (out ++ [gv x (x.to_ + c.Timeout) 11]) t else pair_Step_l7 M m (t.length : Int) ((i + 1 : Nat) : Int) c c1 e c3 (l ++ [x]) out t := by
      conv => lhs; rw [pair_Step_l7]
      simp only [b_pair_Step_l7, h1]
      rw [bif_pos (by omega), bif_pos (by omega), bif_pos (by omega), next_i i (by omega), i64_ok (n := e.From - x.to_) (by omega), i64_ok (n := x.to_ + c.Timeout) (by omega), bif_if]
      rw [bif_pos (by omega), bif_pos (by omega)]
      rfl
    rw [e0, kp, exp]
    split
    · rw [step7 M c c1 c3 e t hq ht ⟨k1, k2⟩ hv r (i + 1) m l _ h3 (by omega) (by omega) (by simp only [List.length_append, List.length_cons, List.length_nil]; omega)]
      simp only [List.append_assoc, List.cons_append, List.nil_append]
    · rw [step7 M c c1 c3 e t hq ht ⟨k1, k2⟩ hv r (i + 1) m _ out h3 (by omega) (by simp only [List.length_append, List.length_cons, List.length_nil]; omega) (by omega)]
      simp only [List.append_assoc, List.cons_append, List.nil_append]
theorem accepts_is (M : Nat) (s : State) (e : Event) : pair_accepts M s e = some (decide (e.Kind = 6 ∧ Vld e ∧ s.At ≤ e.From)) := by
  simp only [pair_accepts, b_pair_accepts, event_valid, Option.bind_some, beq_if]
  by_cases h1 : e.Kind = 6
  · rw [if_pos h1]
    by_cases h2 : Vld e
    · rw [bif_pos h2]; simp [h1, h2]
    · rw [bif_neg h2]; simp [h2]
  · rw [if_neg h1]; simp [h1]
theorem step_is (M : Nat) (hM : 5000000 < M) (c : Pair) (hc : CV c) (s : S33) (e : Event) (n : Nat) (hs : Ok33 s n) (hn : n ≤ 90000) : pair_Step M c (pS s) e = some (pS (stp c.Timeout s e).1, (stp c.Timeout s e).2) := by
  unfold pair_Step b_pair_Step stp
  simp only [check_is, Option.bind_some, accepts_is, bne_if]
  rw [if_pos hc, if_pos rfl]
  have ha : (pS s).At = s.frm := rfl
  rw [ha]
  by_cases h : e.Kind = 6 ∧ Vld e ∧ s.frm ≤ e.From
  · rw [decide_eq_true h, if_pos h]
    have hl := hs.len
    have hk := kp_len c.Timeout e.From s.l
    have hkq : Rqs (kp c.Timeout e.From s.l) := fun x hx => hs.rqs x (kp_mem hx)
    have hkd := kp_dist (T := c.Timeout) (f := e.From) hs.dist
    simp only [Bool.not_true, Bool.cond_false]
    rw [load_is M _ s.l hs.rqs (by omega) rfl (by omega), Option.bind_some]
    have h7 := step7 M c { pS s with At := e.From, Prev := e.To } (State.mk 0 0 0 0 0 0 0 (bs [])) e s.l hs.rqs (by omega) hc h.2.1 s.l 0 M [] [] rfl (by omega) (by simp only [List.length_nil]; omega) (by simp only [List.length_nil]; omega)
    have e0 : ((0 : Nat) : Int) = 0 := rfl
    rw [e0] at h7
    rw [h7, List.nil_append, List.nil_append]
    simp only [pair_Step_l7, b_pair_Step_l7]
    rw [bif_neg (show ¬ (0 : Int) < 0 by omega), bne_if]
    by_cases hf : e.Fault = 0
    · rw [if_pos hf, if_pos hf, packet_is M (by omega) _ e hkd hkq (by omega) h.2.1]
      obtain ⟨p1, p2, p3⟩ := pk_ok hkq hkd h.2.1
      simp only [Option.bind_some]
      rw [store_is M (by omega) _ _ p1 (by omega)]
      simp only [Option.bind_some]
      rw [bif_pos (by omega)]
      rfl
    · rw [if_neg hf, if_neg hf]
      have := step15 M (by omega) { pS s with At := e.From, Prev := e.To } (State.mk 0 0 0 0 0 0 0 (bs [])) e (kp c.Timeout e.From s.l) (by omega) (kp c.Timeout e.From s.l) 0 M (exp c.Timeout e.From s.l) rfl (by omega) (by omega)
      rw [e0] at this
      rw [this]
      rfl
  · rw [decide_eq_false h, if_neg h]
    rfl
theorem step_bad (M : Nat) (c : Pair) (hc : ¬ CV c) (s : State) (e : Event) : pair_Step M c s e = some (s, []) := by
  unfold pair_Step b_pair_Step
  simp only [check_is, Option.bind_some, bne_if]
  rw [if_neg hc, if_neg (by omega)]
theorem rstep15 (M : Nat) (hM : 100010 < M) (c0 c2 : State) (e : Event) (t : List Pair_request) (ht : t.length ≤ 100000) : ∀ (r : List Pair_request) (i m : Nat) (out : List Event), t.drop i = r → r.length < m → out.length + r.length ≤ 1000000 →
    ref33_Step_l15 M m (i : Int) c0 e c2 out (t.map rr) = some ({ c0 with Data := toBytes [] }, out ++ r.map fun x => gv x e.From 7)
  | r, i, 0, out, _, hm, _ => by omega
  | [], i, m + 1, out, h, hm, hb => by
    have := drop_nil h
    have hp := pack_is M hM c0 [] (fun x hx => nomatch hx) (by simp)
    simp only [List.map_nil] at hp
    simp only [ref33_Step_l15, b_ref33_Step_l15, List.length_map]
    rw [bif_neg (by omega), hp]
    simp [encR]
  | x :: r, i, m + 1, out, h, hm, hb => by
    obtain ⟨h1, h2, h3, h4, h5⟩ := drop_cons h dflt_Pair_request
    have g1 : (t.map rr).getD ((i : Nat) : Int).toNat dflt_Signalbenchref33_request = rr x := by
      rw [Int.toNat_natCast]
      apply getD_rr
      rw [List.getD_eq_getElem?_getD, Int.toNat_natCast, List.getElem?_eq_getElem h2] at h1
      rw [List.getElem?_eq_getElem h2]
      simp only [Option.getD_some] at h1
      rw [h1]
    simp only [List.length_cons] at hm hb
    simp only [ref33_Step_l15, b_ref33_Step_l15, g1, List.length_map]
    rw [bif_pos (by omega), bif_pos (by omega), bif_pos (by omega), bif_pos (by omega), next_i i (by omega), rstep15 M hM c0 c2 e t ht r (i + 1) m _ h3 (by omega) (by simp only [List.length_append, List.length_cons, List.length_nil]; omega)]
    simp [gv]
theorem rstep7 (M : Nat) (c : Pair) (c1 c3 : State) (e : Event) (t : List Pair_request) (hq : Rqs t) (ht : t.length ≤ 100000) (hc : CV c) (hv : Vld e) : ∀ (r : List Pair_request) (i m : Nat) (l : List Pair_request) (out : List Event), t.drop i = r → r.length < m → l.length + r.length ≤ 100000 → out.length + r.length ≤ 100000 →
    ref33_Step_l7 M m (i : Int) c c1 e c3 out (l.map rr) (t.map rr) = ref33_Step_l7 M 1 0 c c1 e c3 (out ++ exp c.Timeout e.From r) ((l ++ kp c.Timeout e.From r).map rr) []
  | r, i, 0, l, out, _, hm, _, _ => by omega
  | [], i, m + 1, l, out, h, hm, hb, ho => by
    have := drop_nil h
    simp only [ref33_Step_l7, b_ref33_Step_l7, List.length_map, List.length_nil]
    rw [bif_neg (show ¬ (i : Int) < (t.length : Int) by omega), bif_neg (show ¬ (0 : Int) < ((0 : Nat) : Int) by omega)]
    simp only [kp, exp, List.append_nil]
  | x :: r, i, m + 1, l, out, h, hm, hb, ho => by
    obtain ⟨h1, h2, h3, h4, h5⟩ := drop_cons h dflt_Pair_request
    obtain ⟨q1, q2, q3, q4, q5⟩ := hq x h5
    have hv' := hv
    obtain ⟨v1, v2, v3, v4, v5, _⟩ := hv'
    obtain ⟨k1, k2⟩ := hc
    have g1 : (t.map rr).getD ((i : Nat) : Int).toNat dflt_Signalbenchref33_request = rr x := by
      rw [Int.toNat_natCast]
      apply getD_rr
      rw [List.getD_eq_getElem?_getD, Int.toNat_natCast, List.getElem?_eq_getElem h2] at h1
      rw [List.getElem?_eq_getElem h2]
      simp only [Option.getD_some] at h1
      rw [h1]
    simp only [List.length_cons] at hm hb ho
    have e0 : ref33_Step_l7 M (m + 1) (i : Int) c c1 e c3 out (l.map rr) (t.map rr) = if e.From - x.to_ > c.Timeout then ref33_Step_l7 M m ((i + 1 : Nat) : Int) c c1 e c3 (out ++ [gv x (x.to_ + c.Timeout) 11]) (l.map rr) (t.map rr) else ref33_Step_l7 M m ((i + 1 : Nat) : Int) c c1 e c3 out ((l ++ [x]).map rr) (t.map rr) := by
      conv => lhs; rw [ref33_Step_l7]
      simp only [b_ref33_Step_l7, g1, List.length_map, List.map_append, List.map_cons, List.map_nil]
      simp only [bif_pos (show (i : Int) < (t.length : Int) by omega), bif_pos (show 0 ≤ (i : Int) by omega), bif_pos (show (out.length + 1) * 64 ≤ 140737488355328 by omega), bif_pos (show (l.length + 1) * 24 ≤ 140737488355328 by omega)]
      rw [next_i i (by omega), i64_ok (n := e.From - x.to_) (by omega), i64_ok (n := x.to_ + c.Timeout) (by omega), bif_if]
      rfl
    rw [e0, kp, exp]
    split
    · rw [rstep7 M c c1 c3 e t hq ht ⟨k1, k2⟩ hv r (i + 1) m l _ h3 (by omega) (by omega) (by simp only [List.length_append, List.length_cons, List.length_nil]; omega)]
      simp only [List.append_assoc, List.cons_append, List.nil_append]
    · rw [rstep7 M c c1 c3 e t hq ht ⟨k1, k2⟩ hv r (i + 1) m _ out h3 (by omega) (by simp only [List.length_append, List.length_cons, List.length_nil]; omega) (by omega)]
      simp only [List.append_assoc, List.cons_append, List.nil_append]
theorem rstep_is (M : Nat) (hM : 5000000 < M) (c : Pair) (hc : CV c) (s : S33) (e : Event) (n : Nat) (hs : Ok33 s n) (hn : n ≤ 90000) : ref33_Step M c (rS s) e = some (rS (stp c.Timeout s e).1, (stp c.Timeout s e).2) := by
  unfold ref33_Step b_ref33_Step stp
  simp only [rcheck_is, Option.bind_some, ref_valid, bne_if]
  rw [if_pos hc, if_pos rfl]
  have ha : (rS s).Prev = s.frm := rfl
  rw [ha]
  by_cases h : e.Kind = 6 ∧ Vld e ∧ s.frm ≤ e.From
  · rw [decide_eq_true h.2.1, if_pos h.1, if_pos h]
    have hl := hs.len
    have hk := kp_len c.Timeout e.From s.l
    have hkq : Rqs (kp c.Timeout e.From s.l) := fun x hx => hs.rqs x (kp_mem hx)
    have hkd := kp_dist (T := c.Timeout) (f := e.From) hs.dist
    simp only [Bool.not_true, Bool.cond_false]
    rw [bif_neg (by omega), unpack_is M _ s.l hs.rqs (by omega) rfl (by omega), Option.bind_some]
    have h7 := rstep7 M c (rS s) (State.mk 0 0 0 0 0 0 0 (bs [])) e s.l hs.rqs (by omega) hc h.2.1 s.l 0 M [] [] rfl (by omega) (by simp only [List.length_nil]; omega) (by simp only [List.length_nil]; omega)
    have e0 : ((0 : Nat) : Int) = 0 := rfl
    rw [e0, List.map_nil] at h7
    rw [h7, List.nil_append, List.nil_append]
    simp only [ref33_Step_l7, b_ref33_Step_l7, List.length_nil]
    rw [bif_neg (show ¬ (0 : Int) < ((0 : Nat) : Int) by omega), bne_if]
    by_cases hf : e.Fault = 0
    · rw [if_pos hf, if_pos hf, handle_is M (by omega) _ e hkd hkq (by omega) h.2.1]
      obtain ⟨p1, p2, p3⟩ := pk_ok hkq hkd h.2.1
      simp only [Option.bind_some]
      rw [pack_is M (by omega) _ _ p1 (by omega)]
      simp only [Option.bind_some]
      rw [bif_pos (by omega)]
      rfl
    · rw [if_neg hf, if_neg hf]
      have := rstep15 M (by omega) { rS s with At := e.To, Prev := e.From } (State.mk 0 0 0 0 0 0 0 (bs [])) e (kp c.Timeout e.From s.l) (by omega) (kp c.Timeout e.From s.l) 0 M (exp c.Timeout e.From s.l) rfl (by omega) (by omega)
      rw [e0] at this
      rw [this]
      rfl
  · rw [if_neg h]
    by_cases hv : Vld e
    · rw [decide_eq_true hv]
      simp only [Bool.not_true, Bool.cond_false]
      by_cases hk : e.Kind = 6
      · rw [if_pos hk, bif_pos (by
          rcases Int.lt_or_le e.From s.frm with h1 | h1
          · exact h1
          · exact absurd ⟨hk, hv, h1⟩ h)]
      · rw [if_neg hk]
    · rw [decide_eq_false hv]
      rfl
theorem rstep_bad (M : Nat) (c : Pair) (hc : ¬ CV c) (s : State) (e : Event) : ref33_Step M c s e = some (s, []) := by
  unfold ref33_Step b_ref33_Step
  simp only [rcheck_is, Option.bind_some, bne_if]
  rw [if_neg hc, if_neg (by omega)]
end Go.Abs.K
