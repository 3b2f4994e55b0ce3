/- PAIR: whole inputs; PairDecodes. -/
import Derived.Test.YtcagcnlddcloiaaP5
set_option linter.unusedVariables false
set_option linter.unusedSimpArgs false
namespace Go.Abs.K
open Go Go.Abs Go.Proofs

def fin (s : S33) : List Event := s.l.map fun x => gv x s.to 7
theorem end_l (M : Nat) (c0 : State) (t : List Pair_request) (ht : t.length ≤ 100000) : ∀ (r : List Pair_request) (i m : Nat) (out : List Event), t.drop i = r → r.length < m → out.length + r.length ≤ 1000000 →
    pair_End_l5 M m (t.length : Int) (i : Int) c0 out t = some (out ++ r.map fun x => gv x c0.Prev 7)
  | r, i, 0, out, _, hm, _ => by omega
  | [], i, m + 1, out, h, hm, hb => by
    have := drop_nil h
    simp only [pair_End_l5, b_pair_End_l5]
    rw [bif_neg (by omega)]
    simp
  | x :: r, i, m + 1, out, h, hm, hb => by
    obtain ⟨h1, h2, h3, h4, h5⟩ := drop_cons h dflt_Pair_request
    simp only [List.length_cons] at hm hb
    simp only [pair_End_l5, b_pair_End_l5, h1]
    rw [bif_pos (by omega), bif_pos (by omega), bif_pos (by omega), bif_pos (by omega), next_i i (by omega), end_l M c0 t ht r (i + 1) m _ h3 (by omega) (by simp only [List.length_append, List.length_cons, List.length_nil]; omega)]
    simp [gv]
theorem rend_l (M : Nat) (c0 : State) (t : List Pair_request) (ht : t.length ≤ 100000) : ∀ (r : List Pair_request) (i m : Nat) (out : List Event), t.drop i = r → r.length < m → out.length + r.length ≤ 1000000 →
    ref33_End_l6 M m (i : Int) c0 out (t.map rr) = some (out ++ r.map fun x => gv x c0.At 7)
  | r, i, 0, out, _, hm, _ => by omega
  | [], i, m + 1, out, h, hm, hb => by
    have := drop_nil h
    simp only [ref33_End_l6, b_ref33_End_l6, List.length_map]
    rw [bif_neg (by omega)]
    simp
  | x :: r, i, m + 1, out, h, hm, hb => by
    obtain ⟨h1, h2, h3, h4, h5⟩ := drop_cons h dflt_Pair_request
    have g1 : (t.map rr).getD ((i : Nat) : Int).toNat dflt_Signalbenchref33_request = rr x := by
      rw [Int.toNat_natCast]
      apply getD_rr
      rw [List.getD_eq_getElem?_getD, Int.toNat_natCast, List.getElem?_eq_getElem h2] at h1
      rw [List.getElem?_eq_getElem h2]
      simp only [Option.getD_some] at h1
      rw [h1]
    simp only [List.length_cons] at hm hb
    simp only [ref33_End_l6, b_ref33_End_l6, g1, List.length_map]
    rw [bif_pos (by omega), bif_pos (by omega), bif_pos (by omega), bif_pos (by omega), next_i i (by omega), rend_l M c0 t ht r (i + 1) m _ h3 (by omega) (by simp only [List.length_append, List.length_cons, List.length_nil]; omega)]
    simp [gv]
theorem end_is (M : Nat) (hM : 5000000 < M) (c : Pair) (hc : CV c) (s : S33) (n : Nat) (hs : Ok33 s n) (hn : n ≤ 100000) : pair_End M c (pS s) = some (fin s) := by
  unfold pair_End b_pair_End
  have hl := hs.len
  simp only [check_is, Option.bind_some, bne_if]
  rw [if_pos hc, if_pos rfl, load_is M _ s.l hs.rqs (by omega) rfl (by omega), Option.bind_some]
  have := end_l M (pS s) s.l (by omega) s.l 0 M [] rfl (by omega) (by simp only [List.length_nil]; omega)
  have e0 : ((0 : Nat) : Int) = 0 := rfl
  rw [e0] at this
  rw [this]
  rfl
theorem rend_is (M : Nat) (hM : 5000000 < M) (c : Pair) (hc : CV c) (s : S33) (n : Nat) (hs : Ok33 s n) (hn : n ≤ 100000) : ref33_End M c (rS s) = some (fin s) := by
  unfold ref33_End b_ref33_End
  have hl := hs.len
  simp only [rcheck_is, Option.bind_some, bne_if]
  rw [if_pos hc, if_pos rfl, unpack_is M _ s.l hs.rqs (by omega) rfl (by omega), Option.bind_some]
  have := rend_l M (rS s) s.l (by omega) s.l 0 M [] rfl (by omega) (by simp only [List.length_nil]; omega)
  have e0 : ((0 : Nat) : Int) = 0 := rfl
  rw [e0] at this
  rw [this]
  rfl
theorem end_bad (M : Nat) (c : Pair) (hc : ¬ CV c) (s : State) : pair_End M c s = some [] ∧ ref33_End M c s = some [] := by
  constructor
  · unfold pair_End b_pair_End
    simp only [check_is, Option.bind_some, bne_if]
    rw [if_neg hc, if_neg (by omega)]
  · unfold ref33_End b_ref33_End
    simp only [rcheck_is, Option.bind_some, bne_if]
    rw [if_neg hc, if_neg (by omega)]
/-- A run. -/
def run (T : Int) : S33 → List Event → S33 × List Event
  | s, [] => (s, [])
  | s, e :: r => ((run T (stp T s e).1 r).1, (stp T s e).2 ++ (run T (stp T s e).1 r).2)
def s00 : S33 := ⟨0, 0, []⟩
theorem s00_ok : Ok33 s00 0 := ⟨(fun x hx => nomatch hx), trivial, Nat.le_refl _⟩
theorem run_ok {T : Int} : ∀ {l : List Event} {s : S33} {n : Nat}, Ok33 s n → Ok33 (run T s l).1 (n + l.length) ∧ (run T s l).2.length + (run T s l).1.l.length ≤ s.l.length + l.length
  | [], s, n, h => ⟨h, by simp [run]⟩
  | e :: r, s, n, h => by
    obtain ⟨h1, h2⟩ := stp_ok (T := T) (e := e) h
    obtain ⟨h3, h4⟩ := run_ok (T := T) (l := r) h1
    refine ⟨?_, ?_⟩
    · rw [run, List.length_cons, show n + (r.length + 1) = n + 1 + r.length by omega]
      exact h3
    · rw [run]
      simp only [List.length_append, List.length_cons]
      omega
theorem dec_l (M : Nat) (hM : 5000000 < M) (c : Pair) (hc : CV c) (l : List Event) (hl : l.length ≤ 80000) : ∀ (r : List Event) (i m : Nat) (s : S33) (n : Nat) (out : List Event), l.drop i = r → r.length < m → Ok33 s n → n + r.length ≤ 80000 → out.length + s.l.length ≤ n →
    pair_Decode_l4 M m (l.length : Int) (i : Int) c (pS s) out l = some (out ++ ((run c.Timeout s r).2 ++ fin (run c.Timeout s r).1)) ∧
    ref33_Decode_l4 M m (i : Int) l c out (rS s) = some (out ++ ((run c.Timeout s r).2 ++ fin (run c.Timeout s r).1))
  | r, i, 0, s, n, out, _, hm, _, _, _ => by omega
  | [], i, m + 1, s, n, out, h, hm, hs, hn, ho => by
    have := drop_nil h
    have hf : (fin s).length = s.l.length := by simp [fin]
    have hls := hs.len
    constructor
    · simp only [pair_Decode_l4, b_pair_Decode_l4]
      rw [bif_neg (by omega), end_is M hM c hc s n hs (by omega), Option.bind_some, bif_pos (by rw [hf]; omega)]
      simp [run]
    · simp only [ref33_Decode_l4, b_ref33_Decode_l4]
      rw [bif_neg (by omega), rend_is M hM c hc s n hs (by omega), Option.bind_some, bif_pos (by rw [hf]; omega)]
      simp [run]
  | x :: r, i, m + 1, s, n, out, h, hm, hs, hn, ho => by
    obtain ⟨h1, h2, h3, h4, h5⟩ := drop_cons h dflt_Event
    simp only [List.length_cons] at hm hn
    obtain ⟨g1, g2⟩ := stp_ok (T := c.Timeout) (e := x) hs
    have ih := dec_l M hM c hc l hl r (i + 1) m (stp c.Timeout s x).1 (n + 1) (out ++ (stp c.Timeout s x).2) h3 (by omega) g1 (by omega) (by simp only [List.length_append]; omega)
    constructor
    · simp only [pair_Decode_l4, b_pair_Decode_l4, h1]
      rw [bif_pos (by omega), bif_pos (by omega), bif_pos (by omega), step_is M hM c hc s x n hs (by omega), Option.bind_some, bif_pos (by dsimp only; omega), next_i i (by omega), ih.1]
      simp [run]
    · simp only [ref33_Decode_l4, b_ref33_Decode_l4, h1]
      rw [bif_pos (by omega), bif_pos (by omega), bif_pos (by omega), rstep_is M hM c hc s x n hs (by omega), Option.bind_some, bif_pos (by dsimp only; omega), next_i i (by omega), ih.2]
      simp [run]
theorem dec_bad_l (M : Nat) (c : Pair) (hc : ¬ CV c) (l : List Event) (hl : l.length ≤ 80000) (st st' : State) : ∀ (r : List Event) (i m : Nat), l.drop i = r → r.length < m →
    pair_Decode_l4 M m (l.length : Int) (i : Int) c st [] l = some [] ∧ ref33_Decode_l4 M m (i : Int) l c [] st' = some []
  | r, i, 0, _, hm => by omega
  | [], i, m + 1, h, hm => by
    have := drop_nil h
    constructor
    · simp only [pair_Decode_l4, b_pair_Decode_l4]
      rw [bif_neg (by omega), (end_bad M c hc _).1, Option.bind_some, bif_pos (by simp)]
      simp
    · simp only [ref33_Decode_l4, b_ref33_Decode_l4]
      rw [bif_neg (by omega), (end_bad M c hc _).2, Option.bind_some, bif_pos (by simp)]
      simp
  | x :: r, i, m + 1, h, hm => by
    obtain ⟨h1, h2, h3, h4, h5⟩ := drop_cons h dflt_Event
    simp only [List.length_cons] at hm
    have ih := dec_bad_l M c hc l hl st st' r (i + 1) m h3 (by omega)
    constructor
    · simp only [pair_Decode_l4, b_pair_Decode_l4, h1]
      rw [bif_pos (by omega), bif_pos (by omega), bif_pos (by omega), step_bad M c hc, Option.bind_some, bif_pos (by simp), next_i i (by omega)]
      exact ih.1
    · simp only [ref33_Decode_l4, b_ref33_Decode_l4, h1]
      rw [bif_pos (by omega), bif_pos (by omega), bif_pos (by omega), rstep_bad M c hc, Option.bind_some, bif_pos (by simp), next_i i (by omega)]
      exact ih.2
def decd (T : Int) (l : List Event) : List Event := (run T s00 l).2 ++ fin (run T s00 l).1
theorem decode_is (M : Nat) (hM : 5000000 < M) (c : Pair) (hc : CV c) (l : List Event) (hl : l.length ≤ 80000) : pair_Decode M c l = some (decd c.Timeout l) ∧ ref33_Decode M c l = some (decd c.Timeout l) := by
  have := dec_l M hM c hc l hl l 0 M s00 0 [] rfl (by omega) s00_ok (by omega) (by simp [s00])
  exact this
theorem decode_bad (M : Nat) (hM : 5000000 < M) (c : Pair) (hc : ¬ CV c) (l : List Event) (hl : l.length ≤ 80000) : pair_Decode M c l = some [] ∧ ref33_Decode M c l = some [] := by
  have := dec_bad_l M c hc l hl (pS s00) (rS s00) l 0 M rfl (by omega)
  exact this
theorem lives_true (M : Nat) (hM : 5000000 < M) : law33_lives M = some true := by
  obtain ⟨m, rfl⟩ : ∃ m, M = m + 100 := ⟨M - 100, by omega⟩
  kernel_rfl

theorem law_l7 (M : Nat) (hM : 5000000 < M) (c : Pair) (hc : CV c) (l : List Event) (hl : l.length ≤ 1500) : ∀ (r : List Event) (i m : Nat) (s : S33) (n : Nat), l.drop i = r → r.length < m → Ok33 s n → n + r.length ≤ 80000 →
    law33_PairDecodes_l7 M m (i : Int) l c (pS s) (rS s) = some true
  | r, i, 0, s, n, _, hm, _, _ => by omega
  | [], i, m + 1, s, n, h, hm, hs, hn => by
    have := drop_nil h
    have hls := hs.len
    have hd := run_ok (T := c.Timeout) (l := l) s00_ok
    have hdl : (decd c.Timeout l).length ≤ 10000 := by
      have hz : s00.l.length = 0 := rfl
      have h2 := hd.2
      simp only [decd, fin, List.length_append, List.length_map]
      omega
    simp only [law33_PairDecodes_l7, b_law33_PairDecodes_l7]
    rw [bif_neg (by omega)]
    simp only [check_is, rcheck_is, Option.bind_some, beq_self_eq_true, Bool.cond_true, end_is M hM c hc s n hs (by omega), rend_is M hM c hc s n hs (by omega), (decode_is M hM c hc l (by omega)).1, (decode_is M hM c hc l (by omega)).2]
    rw [same_self M (fin s) (by simp [fin]; omega) (by simp [fin]; omega)]
    simp only [Option.bind_some, Bool.cond_true]
    rw [same_self M _ (by omega) (by omega)]
    rfl
  | x :: r, i, m + 1, s, n, h, hm, hs, hn => by
    obtain ⟨h1, h2, h3, h4, h5⟩ := drop_cons h dflt_Event
    simp only [List.length_cons] at hm hn
    obtain ⟨g1, g2⟩ := stp_ok (T := c.Timeout) (e := x) hs
    have hls := hs.len
    have ih := law_l7 M hM c hc l hl r (i + 1) m (stp c.Timeout s x).1 (n + 1) h3 (by omega) g1 (by omega)
    simp only [law33_PairDecodes_l7, b_law33_PairDecodes_l7, h1]
    rw [bif_pos (by omega), bif_pos (by omega), bif_pos (by omega), step_is M hM c hc s x n hs (by omega), Option.bind_some, bif_pos (by omega), bif_pos (by omega), rstep_is M hM c hc s x n hs (by omega), Option.bind_some]
    simp only []
    rw [same_self M _ (by omega) (by omega), Option.bind_some, next_i i (by omega)]
    exact ih
theorem law_bad (M : Nat) (hM : 5000000 < M) (c : Pair) (hc : ¬ CV c) (l : List Event) (hl : l.length ≤ 1500) (st st' : State) : ∀ (r : List Event) (i m : Nat), l.drop i = r → r.length < m →
    law33_PairDecodes_l7 M m (i : Int) l c st st' = some true
  | r, i, 0, _, hm => by omega
  | [], i, m + 1, h, hm => by
    have := drop_nil h
    simp only [law33_PairDecodes_l7, b_law33_PairDecodes_l7]
    rw [bif_neg (by omega)]
    simp only [check_is, rcheck_is, Option.bind_some, beq_self_eq_true, Bool.cond_true, (end_bad M c hc st).1, (end_bad M c hc st').2, (decode_bad M hM c hc l (by omega)).1, (decode_bad M hM c hc l (by omega)).2]
    rw [same_self M [] (by simp) (by simp; omega)]
    rfl
  | x :: r, i, m + 1, h, hm => by
    obtain ⟨h1, h2, h3, h4, h5⟩ := drop_cons h dflt_Event
    simp only [List.length_cons] at hm
    have ih := law_bad M hM c hc l hl st st' r (i + 1) m h3 (by omega)
    simp only [law33_PairDecodes_l7, b_law33_PairDecodes_l7, h1]
    rw [bif_pos (by omega), bif_pos (by omega), bif_pos (by omega), step_bad M c hc, Option.bind_some, bif_pos (by omega), bif_pos (by omega), rstep_bad M c hc, Option.bind_some]
    simp only []
    rw [same_self M [] (by simp) (by simp; omega), Option.bind_some, next_i i (by omega)]
    exact ih
theorem PairDecodes_true (c : Pair) (l : List Event) (q0 : wf_Pair c) (q1 : (∀ x, x ∈ l → wf_Event x) ∧ l.length * Try.prog.bytesOf 32 ≤ 140737488351232) : ∃ M, law33_PairDecodes M c l = some true := by
  refine ⟨6000000, ?_⟩
  unfold law33_PairDecodes b_law33_PairDecodes
  rw [lives_true 6000000 (by omega)]
  simp only [Option.bind_some, Bool.not_true, Bool.cond_false]
  by_cases h : (l.length : Int) > 1500
  · rw [bif_pos h]
  · rw [bif_neg h]
    by_cases hc : CV c
    · exact law_l7 6000000 (by omega) c hc l (by omega) l 0 6000000 s00 0 rfl (by omega) s00_ok (by omega)
    · exact law_bad 6000000 (by omega) c hc l (by omega) (pS s00) (rS s00) l 0 6000000 rfl (by omega)
end Go.Abs.K
