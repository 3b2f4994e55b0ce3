/- UART: lists of events; what is decoded. -/
import Derived.Test.YtlpileejhdadaaaP4
set_option linter.unusedVariables false
set_option linter.unusedSimpArgs false
namespace Go.Abs.K
open Go Go.Abs Go.Proofs

def runA (c : Uart) (v : Int) : A → List Event → A × List Event
  | a, [] => (a, [])
  | a, e :: l => ((runA c v (stepA c v a e).1 l).1, (stepA c v a e).2 ++ (runA c v (stepA c v a e).1 l).2)
def decA (c : Uart) (v : Int) (l : List Event) : List Event := (runA c v a0 l).2
theorem wf0 (c : Uart) : WfA c a0 := ⟨.inl rfl, fun h => absurd (show (0 : Int) = 2 from h) (by decide)⟩
theorem pr0 (c : Uart) : PR c a0 st0 := ⟨rfl, fun _ => rfl, fun h => absurd rfl h, fun h => absurd (show (0 : Int) = 2 from h) (by decide), by decide⟩
theorem run_len (c : Uart) (v : Int) (hok : v = 0 → OkU c) : ∀ (l : List Event) (a : A), WfA c a → (runA c v a l).2.length ≤ l.length
  | [], a, _ => Nat.le_refl _
  | e :: l, a, hw => by
    obtain ⟨h0, h1⟩ := step_wf c v hok a e hw
    have h2 := run_len c v hok l (stepA c v a e).1 h0
    simp only [runA, List.length_append, List.length_cons]
    omega
theorem dec_len {M : Nat} {c : Uart} {v : Int} (H : Cf M c v) (l : List Event) : (decA c v l).length ≤ l.length := run_len c v H.ok l a0 (wf0 c)
theorem dec_l4 {M : Nat} (hM : 100 < M) {c : Uart} {v : Int} (H : Cf M c v) (l : List Event) (hl : l.length ≤ 1000000) : ∀ (r : List Event) (i m : Nat) (a : A) (p : State) (out : List Event), l.drop i = r → r.length < m → PR c a p → WfA c a → out.length + r.length ≤ 1000000 →
    uart_Decode_l4 M m (l.length : Int) (i : Int) c out p l = some (out ++ (runA c v a r).2)
  | r, i, 0, a, p, out, _, hm, _, _, _ => by omega
  | [], i, m + 1, a, p, out, hr, hm, hp, hw, ho => by
    have := drop_nil hr
    simp only [List.length_nil] at ho
    simp only [uart_Decode_l4, b_uart_Decode_l4]
    rw [bif_neg (by omega), bif_pos (by omega)]
    simp [runA]
  | e :: r, i, m + 1, a, p, out, hr, hm, hp, hw, ho => by
    obtain ⟨h1, h2, h3, h4, h5⟩ := drop_cons hr dflt_Event
    simp only [List.length_cons] at hm ho
    obtain ⟨p', e1, e2⟩ := step_is hM H a p e hp hw
    obtain ⟨w1, hl1⟩ := step_wf c v H.ok a e hw
    simp only [uart_Decode_l4, b_uart_Decode_l4, h1, e1, Option.bind_some]
    rw [bif_pos (by omega), bif_pos (by omega), bif_pos (by omega), bif_pos (by omega), next_i i (by omega), dec_l4 hM H l hl r (i + 1) m _ p' _ h3 (by omega) e2 w1 (by rw [List.length_append]; omega)]
    simp [runA]
theorem rdec_l3 {M : Nat} (hM : 100 < M) {c : Uart} {v : Int} (H : Cf M c v) (l : List Event) (hl : l.length ≤ 1000000) : ∀ (r : List Event) (i m : Nat) (a : A) (p : State) (out : List Event), l.drop i = r → r.length < m → PR c a p → (a.ph ≠ 0 → p.Count ≤ tot c) → WfA c a → out.length + r.length ≤ 1000000 →
    ref22_Decode_l3 M m (i : Int) l c p out = some (out ++ (runA c v a r).2)
  | r, i, 0, a, p, out, _, hm, _, _, _, _ => by omega
  | [], i, m + 1, a, p, out, hr, hm, hp, hc, hw, ho => by
    have := drop_nil hr
    simp only [List.length_nil] at ho
    simp only [ref22_Decode_l3, b_ref22_Decode_l3]
    rw [bif_neg (by omega), bif_pos (by omega)]
    simp [runA]
  | e :: r, i, m + 1, a, p, out, hr, hm, hp, hc, hw, ho => by
    obtain ⟨h1, h2, h3, h4, h5⟩ := drop_cons hr dflt_Event
    simp only [List.length_cons] at hm ho
    obtain ⟨p', e1, e2, e3⟩ := ref_step_is hM H a p e hp hc hw
    obtain ⟨w1, hl1⟩ := step_wf c v H.ok a e hw
    simp only [ref22_Decode_l3, b_ref22_Decode_l3, h1, e1, Option.bind_some]
    rw [bif_pos (by omega), bif_pos (by omega), bif_pos (by omega), bif_pos (by omega), next_i i (by omega), rdec_l3 hM H l hl r (i + 1) m _ p' _ h3 (by omega) e2 e3 w1 (by rw [List.length_append]; omega)]
    simp [runA]
theorem decode_is {M : Nat} (hM : 1000000 < M) {c : Uart} {v : Int} (H : Cf M c v) (l : List Event) (hl : l.length ≤ 1000000) : uart_Decode M c l = some (decA c v l) := by
  simp only [uart_Decode, b_uart_Decode]
  have := dec_l4 (by omega) H l hl l 0 M a0 st0 [] rfl (by omega) (pr0 c) (wf0 c) (by simpa using hl)
  simpa [decA] using this
theorem rdecode_is {M : Nat} (hM : 1000000 < M) {c : Uart} {v : Int} (H : Cf M c v) (l : List Event) (hl : l.length ≤ 1000000) : ref22_Decode M c l = some (decA c v l) := by
  simp only [ref22_Decode, b_ref22_Decode]
  have := rdec_l3 (by omega) H l hl l 0 M a0 st0 [] rfl (by omega) (pr0 c) (fun h => absurd rfl h) (wf0 c) (by simpa using hl)
  simpa [decA] using this
theorem awake_true (M : Nat) (hM : 400 < M) : law22_awake M = some true := by
  obtain ⟨m, rfl⟩ : ∃ m, M = m + 300 := ⟨M - 300, by omega⟩
  kernel_rfl
theorem big : ∃ M : Nat, 2000000000 < M := ⟨2000000001, by decide⟩
theorem small_l4 (M : Nat) (l : List Event) (hl : l.length ≤ 1000000) : ∀ (r : List Event) (i m : Nat), l.drop i = r → r.length < m → ∃ b, law22_small_l4 M m (i : Int) l = some b
  | r, i, 0, _, hm => by omega
  | [], i, m + 1, hr, hm => by
    have := drop_nil hr
    simp only [law22_small_l4, b_law22_small_l4]
    rw [bif_neg (by omega)]; exact ⟨_, rfl⟩
  | e :: r, i, m + 1, hr, hm => by
    obtain ⟨h1, h2, h3, h4, h5⟩ := drop_cons hr dflt_Event
    simp only [List.length_cons] at hm
    simp only [law22_small_l4, b_law22_small_l4, h1]
    obtain ⟨b, hb⟩ := small_l4 M l hl r (i + 1) m h3 (by omega)
    rw [bif_pos (by omega), bif_pos (by omega), bif_pos (by omega), next_i i (by omega), hb, bif_if]
    split <;> exact ⟨_, rfl⟩
theorem small_is (M : Nat) (l : List Event) (hM : 60 < M) : ∃ b, law22_small M l = some b ∧ (b = true → l.length ≤ 60) := by
  simp only [law22_small, b_law22_small]
  by_cases h : (l.length : Int) > 60
  · rw [bif_pos h]; exact ⟨false, rfl, by simp⟩
  · rw [bif_neg h]
    obtain ⟨b, hb⟩ := small_l4 M l (by omega) l 0 M rfl (by omega)
    exact ⟨b, hb, fun _ => by omega⟩
theorem decodes_l5 {M : Nat} (hM : 2000000000 < M) {c : Uart} {v : Int} (H : Cf M c v) (l : List Event) (hl : l.length ≤ 60) : ∀ (r : List Event) (i m : Nat) (a : A) (p q : State), l.drop i = r → r.length < m → PR c a p → PR c a q → (a.ph ≠ 0 → q.Count ≤ tot c) → WfA c a →
    law22_UartDecodes_l5 M m (i : Int) l c p q = some true
  | r, i, 0, a, p, q, _, hm, _, _, _, _ => by omega
  | [], i, m + 1, a, p, q, hr, hm, hp, hq, hc, hw => by
    have := drop_nil hr
    have hlen := dec_len H l
    simp only [law22_UartDecodes_l5, b_law22_UartDecodes_l5, H.p, H.r, Option.bind_some, beq_self_eq_true, Bool.cond_true, decode_is (show 1000000 < M by omega) H l (by omega), rdecode_is (show 1000000 < M by omega) H l (by omega), same_self M (decA c v l) (by omega) (by omega), awake_true M (by omega)]
    rw [bif_neg (by omega)]
  | e :: r, i, m + 1, a, p, q, hr, hm, hp, hq, hc, hw => by
    obtain ⟨h1, h2, h3, h4, h5⟩ := drop_cons hr dflt_Event
    simp only [List.length_cons] at hm
    obtain ⟨p', e1, e2⟩ := step_is (show 100 < M by omega) H a p e hp hw
    obtain ⟨q', f1, f2, f3⟩ := ref_step_is (show 100 < M by omega) H a q e hq hc hw
    obtain ⟨w1, hl1⟩ := step_wf c v H.ok a e hw
    simp only [law22_UartDecodes_l5, b_law22_UartDecodes_l5, h1, e1, f1, Option.bind_some, same_self M (stepA c v a e).2 (by omega) (by omega), Bool.not_true, Bool.cond_false]
    rw [bif_pos (by omega), bif_pos (by omega), bif_pos (by omega), next_i i (by omega)]
    simp only [bif_pos (show (0 : Int) ≤ (i : Int) by omega), bif_pos (show (i : Int) < (l.length : Int) by omega)]
    exact decodes_l5 hM H l hl r (i + 1) m _ p' q' h3 (by omega) e2 f2 f3 w1
theorem UartDecodes_true (c : Uart) (l : List Event) (hc : wf_Uart c) (hl : (∀ x, x ∈ l → wf_Event x) ∧ l.length * Try.prog.bytesOf 35 ≤ 140737488351232) : ∃ M, law22_UartDecodes M c l = some true := by
  obtain ⟨M, hM⟩ := big
  obtain ⟨v, H⟩ := cf_some M (by omega) c
  refine ⟨M, ?_⟩
  obtain ⟨b, hb, hb2⟩ := small_is M l (by omega)
  simp only [law22_UartDecodes, b_law22_UartDecodes, hb, Option.bind_some, awake_true M (by omega)]
  cases b with
  | false => rfl
  | true => exact decodes_l5 hM H l (hb2 rfl) l 0 M a0 st0 st0 rfl (by have := hb2 rfl; omega) (pr0 c) (pr0 c) (fun h => absurd rfl h) (wf0 c)
theorem runA_skip (c : Uart) (v : Int) (x : Event) (hx : ∀ a : A, stepA c v a x = (a, [])) : ∀ (l : List Event) (a : A), runA c v a (l.flatMap (fun e => [x, e]) ++ [x]) = runA c v a l
  | [], a => by simp [runA, hx a]
  | e :: l, a => by
    simp only [List.flatMap_cons, List.cons_append, List.nil_append, runA, hx a]
    rw [runA_skip c v x hx l]
theorem ign_l5 {M : Nat} (hM : 2000000000 < M) {c : Uart} {v : Int} (H : Cf M c v) (x : Event) (l : List Event) (hl : l.length ≤ 60) (hx : ∀ a : A, stepA c v a x = (a, [])) : ∀ (r : List Event) (i m : Nat) (out : List Event), l.drop i = r → r.length < m → out.length + 2 * r.length ≤ 120 → out ++ r.flatMap (fun e => [x, e]) = l.flatMap (fun e => [x, e]) → law22_UartIgnores_l5 M m (i : Int) l c x out = some true
  | r, i, 0, out, _, hm, _, _ => by omega
  | [], i, m + 1, out, hr, hm, ho, he => by
    have := drop_nil hr
    simp only [List.flatMap_nil, List.append_nil] at he
    have hd : decA c v (out ++ [x]) = decA c v l := by unfold decA; rw [he, runA_skip c v x hx l a0]
    have hlen := dec_len H l
    simp only [law22_UartIgnores_l5, b_law22_UartIgnores_l5]
    simp only [List.length_nil] at ho
    rw [bif_neg (by omega), bif_pos (by omega), decode_is (by omega) H (out ++ [x]) (by simp; omega), decode_is (by omega) H l (by omega), hd]
    simp only [Option.bind_some, same_self M (decA c v l) (by omega) (by omega), Bool.cond_true, awake_true M (by omega)]
  | e :: r, i, m + 1, out, hr, hm, ho, he => by
    obtain ⟨h1, h2, h3, h4, h5⟩ := drop_cons hr dflt_Event
    simp only [List.length_cons] at hm ho
    simp only [law22_UartIgnores_l5, b_law22_UartIgnores_l5, h1]
    rw [bif_pos (by omega), bif_pos (by omega), bif_pos (by omega), bif_pos (by omega), next_i i (by omega)]
    refine ign_l5 hM H x l hl hx r (i + 1) m _ h3 (by omega) (by simp; omega) ?_
    rw [← he]; simp
theorem UartIgnores_true (c : Uart) (l : List Event) (x : Event) (hc : wf_Uart c) (hl : (∀ x, x ∈ l → wf_Event x) ∧ l.length * Try.prog.bytesOf 35 ≤ 140737488351232) (hx : wf_Event x) : ∃ M, law22_UartIgnores M c l x = some true := by
  obtain ⟨M, hM⟩ := big
  obtain ⟨v, H⟩ := cf_some M (by omega) c
  refine ⟨M, ?_⟩
  obtain ⟨b, hb, hb2⟩ := small_is M l (by omega)
  simp only [law22_UartIgnores, b_law22_UartIgnores, hb, Option.bind_some, awake_true M (by omega), bif_if, beq_if]
  cases b with
  | false => rfl
  | true =>
    have hl60 := hb2 rfl
    simp only [Bool.not_true, Bool.cond_false]
    have go : (∀ a : A, ¬ In a x) → law22_UartIgnores_l5 M M 0 l c x [] = some true := fun h => ign_l5 hM H x l hl60 (fun a => by unfold stepA; rw [if_neg (fun hh => h a hh.2)]) l 0 M [] rfl (by omega) (by simp; omega) (by simp)
    by_cases h1 : (x.Data.size : Int) > 20
    · rw [if_pos h1]
    rw [if_neg h1]
    by_cases h2 : x.Kind = 1
    · rw [if_pos h2]
      by_cases h3 : x.Fault = 0
      · rw [if_pos h3]
        by_cases h4 : x.From < x.To
        · rw [if_pos h4]
          by_cases h5 : x.Value ≥ 0
          · rw [if_pos h5]
            by_cases h6 : x.Value ≤ 1
            · rw [if_pos h6]
            · rw [if_neg h6]; exact go fun a h => by obtain ⟨_, _, _, _, _, h, _⟩ := h; omega
          · rw [if_neg h5]; exact go fun a h => by obtain ⟨_, _, _, _, h, _, _⟩ := h; omega
        · rw [if_neg h4]; exact go fun a h => h4 h.2.2.2.1
      · rw [if_neg h3]; exact go fun a h => h3 h.2.2.1
    · rw [if_neg h2]; exact go fun a h => h2 h.2.1
end Go.Abs.K
