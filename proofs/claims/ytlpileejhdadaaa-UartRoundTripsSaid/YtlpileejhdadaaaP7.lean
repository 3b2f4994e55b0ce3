/- UART: Encode answers; what is expected is what is decoded. -/
import Derived.Test.YtlpileejhdadaaaP6
set_option linter.unusedVariables false
set_option linter.unusedSimpArgs false
namespace Go.Abs.K
open Go Go.Abs Go.Proofs

theorem ite_some {α : Type} {p : Prop} [Decidable p] {a b : Option α} (ha : ∃ v, a = some v) (hb : ∃ v, b = some v) : ∃ v, (if p then a else b) = some v := by
  by_cases h : p
  · rw [if_pos h]; exact ha
  · rw [if_neg h]; exact hb
theorem parity_some (M : Nat) (c : Uart) (v : Int) : ∃ r, uart_parity M c v = some r := by
  simp only [uart_parity, b_uart_parity, bif_if, beq_if]
  exact ite_some ⟨_, rfl⟩ ⟨_, rfl⟩
theorem samples_some (M : Nat) (c : Uart) (h : OkU c) (x : Item) : ∃ s, uart_samples M c x = some s := by
  have ht := tot_b c h
  have hc := h
  unfold OkU at hc
  obtain ⟨r, hr⟩ := parity_some M c x.Value
  simp only [uart_samples, b_uart_samples, (size_is M c h).1, Option.bind_some, hr, i64_ok (n := tot c - c.Stop) (by omega), i64_ok (n := 1 + c.Bits) (by omega), i64_ok (n := tot c - 1) (by omega), bif_neg (show ¬ c.Stop < 0 by omega), bif_neg (show ¬ tot c - c.Stop < 0 by omega), bif_neg (show ¬ 1 + c.Bits < 0 by omega), bif_neg (show ¬ tot c - 1 < 0 by omega), beq_if, bne_if]
  repeat' first | exact ⟨_, rfl⟩ | apply ite_some
theorem refused_some (M : Nat) (c : Uart) (h : OkU c) (x : Item) : ∃ v, uart_refused M c x = some v := by
  obtain ⟨s, hs⟩ := samples_some M c h x
  have hc := h
  unfold OkU at hc
  simp only [uart_refused, b_uart_refused, hs, Option.bind_some, bif_neg (show ¬ c.Bits < 0 by omega), bif_if, bne_if, beq_if]
  cases (x.Data.toList == (bs []).toList)
  all_goals
    simp only [Bool.not_true, Bool.not_false, Bool.cond_true, Bool.cond_false]
    repeat' first | exact ⟨_, rfl⟩ | apply ite_some
theorem wvalid_l5 (M : Nat) (l : List Run) (hl : l.length ≤ 100000) : ∀ (k i m : Nat) (left : Int), i + k = l.length → k < m → ∃ b, wave_Valid_l5 M m left (l.length : Int) (i : Int) l = some b
  | k, i, 0, left, _, hm => by omega
  | 0, i, m + 1, left, hi, hm => by
    simp only [wave_Valid_l5, b_wave_Valid_l5]
    rw [bif_neg (by omega)]; exact ⟨_, rfl⟩
  | k + 1, i, m + 1, left, hi, hm => by
    simp only [wave_Valid_l5, b_wave_Valid_l5, next_i i (by omega)]
    obtain ⟨b, hb⟩ := wvalid_l5 M l hl k (i + 1) m (IntKind.i64.wrap (left - (l.getD (i : Int).toNat dflt_Run).Ticks)) (by omega) (by omega)
    rw [bif_pos (by omega), bif_pos (by omega), bif_pos (by omega), hb]
    simp only [bne_if, bif_if]
    repeat' split
    all_goals exact ⟨_, rfl⟩
theorem wvalid_some (M : Nat) (l : List Run) (hl : l.length ≤ 100000) (hM : l.length < M) : ∃ b, wave_Valid M l = some b := by
  simp only [wave_Valid, b_wave_Valid]
  rw [bif_neg (by omega)]
  exact wvalid_l5 M l hl l.length 0 M _ (by omega) hM
theorem joined_l3 (M : Nat) (l : List Run) (hl : l.length ≤ 100000) : ∀ (k i m : Nat) (out : List Run), i + k = l.length → k < m → out.length ≤ i → ∃ r, wave_joined_l3 M m (l.length : Int) (i : Int) out l = some r ∧ r.length ≤ l.length
  | k, i, 0, out, _, hm, _ => by omega
  | 0, i, m + 1, out, hi, hm, ho => by
    simp only [wave_joined_l3, b_wave_joined_l3]
    rw [bif_neg (by omega)]; exact ⟨_, rfl, by omega⟩
  | k + 1, i, m + 1, out, hi, hm, ho => by
    have ih := fun o (h : o.length ≤ i + 1) => joined_l3 M l hl k (i + 1) m o (by omega) (by omega) h
    simp only [wave_joined_l3, b_wave_joined_l3, next_i i (by omega)]
    rw [bif_pos (by omega), bif_pos (by omega), bif_pos (by omega)]
    simp only [bif_pos (show (out.length + 1) * 16 ≤ 140737488355328 by omega)]
    by_cases h0 : (out.length : Int) > 0
    · rw [bif_pos h0, i64_ok (n := (out.length : Int) - 1) (by omega)]
      simp only [bif_pos (show (0 : Int) ≤ (out.length : Int) - 1 by omega), bif_pos (show (out.length : Int) - 1 < (out.length : Int) by omega), beq_if]
      split
      · exact ih _ (by rw [List.length_set]; omega)
      · exact ih _ (by simp; omega)
    · rw [bif_neg h0]
      exact ih _ (by simp; omega)
theorem clean_some (M : Nat) (l : List Run) (hl : l.length ≤ 100000) (hM : l.length < M) : ∃ r, wave_Clean M l = some r ∧ r.length ≤ l.length := by
  obtain ⟨b, hb⟩ := wvalid_some M l hl hM
  obtain ⟨r, hr, hr2⟩ : ∃ r, wave_joined M l = some r ∧ r.length ≤ l.length := by
    simp only [wave_joined, b_wave_joined]
    exact joined_l3 M l hl l.length 0 M [] (by omega) hM (by simp)
  simp only [wave_Clean, b_wave_Clean, hb, hr, Option.bind_some]
  cases b with
  | true => exact ⟨r, rfl, hr2⟩
  | false => exact ⟨[], rfl, by simp⟩
def Fair (p : Option (List Run × Int)) : Prop := ∃ r e, p = some (r, e) ∧ (e ≠ 0 → r = []) ∧ r.length ≤ 100000
theorem put_some (M : Nat) (v t tt : Int) (l : List Run) (hl : l.length ≤ 100000) : ∃ t' l', uart_Encode_1 M v t tt l = some (t', l') ∧ l'.length ≤ l.length + 1 := by
  simp only [uart_Encode_1, b_uart_Encode_1, bif_pos (show (l.length + 1) * 16 ≤ 140737488355328 by omega)]
  by_cases h0 : (l.length : Int) > 0
  · rw [bif_pos h0, i64_ok (n := (l.length : Int) - 1) (by omega)]
    simp only [bif_pos (show (0 : Int) ≤ (l.length : Int) - 1 by omega), bif_pos (show (l.length : Int) - 1 < (l.length : Int) by omega), beq_if]
    split
    · exact ⟨_, _, rfl, by rw [List.length_set]; omega⟩
    · rw [bif_if]
      split
      · exact ⟨_, _, rfl, by simp⟩
      · exact ⟨_, _, rfl, by omega⟩
  · rw [bif_neg h0, bif_if]
    split
    · exact ⟨_, _, rfl, by simp⟩
    · exact ⟨_, _, rfl, by omega⟩
theorem enc_l23 (M : Nat) (c : Uart) (h : OkU c) (b : Int) (x : Item) (l : List Item) (t45 t46 : Int) (q : Int → Int → Uart → List Run → Int → List Item → Option (List Run × Int)) : ∀ (n k m : Nat) (out : List Run) (tt : Int), (k : Int) + n = tot c → n < m → out.length + n ≤ 50000 →
    ∃ out' tt', uart_Encode_l23 M q m (tot c) b t45 t46 (tot c) (k : Int) c out tt x l = q t45 (IntKind.i64.wrap (t46 + 1)) c out' tt' l ∧ out'.length ≤ out.length + n + 1
  | n, k, 0, out, tt, _, hm, _ => by omega
  | 0, k, m + 1, out, tt, hk, hm, ho => by
    have ht := tot_b c h
    obtain ⟨t', l', e1, e2⟩ := put_some M 1 (IntKind.i64.wrap (hv c (2 * tot c + 2) - hv c (2 * tot c))) tt out (by omega)
    simp only [uart_Encode_l23, b_uart_Encode_l23, beq_if]
    rw [bif_neg (by omega), i64_ok (n := 2 * tot c) (by omega), i64_ok (n := 2 * tot c + 2) (by omega), halves_is M c h (2 * tot c + 2) (by omega), halves_is M c h (2 * tot c) (by omega)]
    simp only [Option.bind_some, e1]
    split
    · exact ⟨_, _, rfl, by omega⟩
    · split
      · exact ⟨_, _, rfl, by omega⟩
      · exact ⟨_, _, rfl, by omega⟩
  | n + 1, k, m + 1, out, tt, hk, hm, ho => by
    have ht := tot_b c h
    simp only [uart_Encode_l23, b_uart_Encode_l23]
    rw [bif_pos (by omega), bif_neg (by omega), i64_ok (n := 2 * (k : Int)) (by omega), i64_ok (n := 2 * (k : Int) + 2) (by omega), halves_is M c h (2 * (k : Int) + 2) (by omega), halves_is M c h (2 * (k : Int)) (by omega), next_i k (by omega)]
    simp only [Option.bind_some]
    obtain ⟨t', l', e1, e2⟩ := put_some M (IntKind.i64.wrap (((BitVec.ofInt 64 (b.fdiv (2 ^ min ((k : Int)).toNat 64)) &&& BitVec.ofInt 64 1).toNat : Int))) (IntKind.i64.wrap (hv c (2 * (k : Int) + 2) - hv c (2 * (k : Int)))) tt out (by omega)
    rw [e1, Option.bind_some]
    obtain ⟨o', t2, f1, f2⟩ := enc_l23 M c h b x l t45 t46 q n (k + 1) m l' t' (by omega) (by omega) (by omega)
    exact ⟨o', t2, f1, by omega⟩
theorem enc_l18 (M : Nat) (hM : 100000 < M) (c : Uart) (h : OkU c) (l : List Item) (hl : l.length ≤ 12) : ∀ (n i m : Nat) (out : List Run) (tt : Int), i + n = l.length → n < m → out.length ≤ 1 + 20 * i → Fair (uart_Encode_l18 M m (l.length : Int) (i : Int) c out tt l)
  | n, i, 0, out, tt, _, hm, _ => by omega
  | 0, i, m + 1, out, tt, hi, hm, ho => by
    obtain ⟨t', l', e1, e2⟩ := put_some M 1 (hv c 4) tt out (by omega)
    obtain ⟨r, hr, hr2⟩ := clean_some M l' (by omega) (by omega)
    simp only [uart_Encode_l18, b_uart_Encode_l18]
    rw [bif_neg (by omega), halves_is M c h 4 (by omega), Option.bind_some, e1]
    simp only [Option.bind_some, hr]
    rw [bif_neg (by omega), bif_if]
    split
    · exact ⟨[], 2, rfl, fun _ => rfl, by simp⟩
    · exact ⟨r, 0, rfl, fun h => absurd rfl h, by omega⟩
  | n + 1, i, m + 1, out, tt, hi, hm, ho => by
    have ht := tot_b c h
    obtain ⟨t', l', e1, e2⟩ := put_some M 1 (l.getD ((i : Int)).toNat dflt_Item).Gap tt out (by omega)
    obtain ⟨s, hs⟩ := samples_some M c h (l.getD ((i : Int)).toNat dflt_Item)
    obtain ⟨o', t2, f1, f2⟩ := enc_l23 M c h s (l.getD ((i : Int)).toNat dflt_Item) l (l.length : Int) (i : Int) (fun t45 t46 c0 r2 c3 t44 => uart_Encode_l18 M m t45 t46 c0 r2 c3 t44) (tot c).toNat 0 M l' t' (by omega) (by omega) (by omega)
    simp only [uart_Encode_l18, b_uart_Encode_l18]
    rw [bif_pos (by omega), bif_pos (by omega), bif_pos (by omega), e1, Option.bind_some, (size_is M c h).1, Option.bind_some, hs, Option.bind_some]
    refine Eq.mpr (congrArg Fair f1) ?_
    rw [next_i i (by omega)]
    exact enc_l18 M hM c h l hl n (i + 1) m o' t2 (by omega) (by omega) (by omega)
theorem enc_l7 (M : Nat) (hM : 100000 < M) (c : Uart) (h : OkU c) (l : List Item) (hl : l.length ≤ 12) : ∀ (n i m : Nat), i + n = l.length → n < m → Fair (uart_Encode_l7 M m (l.length : Int) (i : Int) l c)
  | n, i, 0, _, hm => by omega
  | 0, i, m + 1, hi, hm => by
    obtain ⟨t', l', e1, e2⟩ := put_some M 1 (hv c 4) 0 [] (by simp)
    simp only [uart_Encode_l7, b_uart_Encode_l7]
    rw [bif_neg (by omega), halves_is M c h 4 (by omega), Option.bind_some, e1, Option.bind_some]
    exact enc_l18 M hM c h l hl l.length 0 M l' t' (by omega) (by omega) (by simpa using e2)
  | n + 1, i, m + 1, hi, hm => by
    obtain ⟨v, hv'⟩ := refused_some M c h (l.getD ((i : Int)).toNat dflt_Item)
    simp only [uart_Encode_l7, b_uart_Encode_l7, hv', Option.bind_some, bne_if]
    rw [bif_pos (by omega), bif_pos (by omega), bif_pos (by omega), next_i i (by omega)]
    by_cases h0 : v = 0
    · rw [if_pos h0]; exact enc_l7 M hM c h l hl n (i + 1) m (by omega) (by omega)
    · rw [if_neg h0]; exact ⟨[], v, rfl, fun _ => rfl, by simp⟩
theorem enc_fair {M : Nat} (hM : 100000 < M) {c : Uart} {v : Int} (H : Cf M c v) (l : List Item) (hl : l.length ≤ 12) : Fair (uart_Encode M c l) := by
  simp only [uart_Encode, b_uart_Encode, H.p, Option.bind_some, bne_if]
  by_cases hv0 : v = 0
  · rw [if_pos hv0, bif_neg (by omega)]
    exact enc_l7 M hM c (H.ok hv0) l hl l.length 0 M (by omega) (by omega)
  · rw [if_neg hv0]; exact ⟨[], v, rfl, fun _ => rfl, by simp⟩
noncomputable def levA : Int → List Run → List Event
  | _, [] => []
  | at_, r :: l => Event.mk 1 at_ (IntKind.i64.wrap (at_ + r.Ticks)) r.Level 0 (bs []) 0 :: levA (IntKind.i64.wrap (at_ + r.Ticks)) l
theorem levA_len : ∀ (l : List Run) (at_ : Int), (levA at_ l).length = l.length
  | [], at_ => rfl
  | r :: l, at_ => by simp only [levA, List.length_cons, levA_len l]
theorem events_l3 (M : Nat) (l : List Run) (hl : l.length ≤ 100000) : ∀ (r : List Run) (i m : Nat) (at_ : Int) (out : List Event), l.drop i = r → r.length < m → out.length + r.length ≤ 200000 → law22_events_l3 M m at_ (i : Int) l out = some (out ++ levA at_ r)
  | r, i, 0, at_, out, _, hm, _ => by omega
  | [], i, m + 1, at_, out, hr, hm, ho => by
    have := drop_nil hr
    simp only [law22_events_l3, b_law22_events_l3]
    rw [bif_neg (by omega)]; simp [levA]
  | x :: r, i, m + 1, at_, out, hr, hm, ho => by
    obtain ⟨h1, h2, h3, h4, h5⟩ := drop_cons hr dflt_Run
    simp only [List.length_cons] at hm ho
    simp only [law22_events_l3, b_law22_events_l3, h1, next_i i (by omega)]
    rw [bif_pos (by omega), bif_pos (by omega), bif_pos (by omega), bif_pos (by omega), bif_pos (by omega), bif_pos (by omega), bif_pos (by omega), bif_pos (by omega), events_l3 M l hl r (i + 1) m _ _ h3 (by omega) (by simp; omega)]
    simp [levA]
theorem expect_l7 {M : Nat} {c : Uart} {v : Int} (H : Cf M c v) (l : List Run) (hl : l.length ≤ 100000) (hM : 1000000 < M) : ∀ (r : List Run) (i m : Nat) (at_ : Int) (out : List Event), l.drop i = r → r.length < m → out.length + r.length ≤ l.length → uart_Expect_l7 M m at_ (l.length : Int) (i : Int) c out l = some (decA c v (out ++ levA at_ r), 0)
  | r, i, 0, at_, out, _, hm, _ => by omega
  | [], i, m + 1, at_, out, hr, hm, ho => by
    have := drop_nil hr
    simp only [List.length_nil] at ho
    simp only [uart_Expect_l7, b_uart_Expect_l7, decode_is hM H out (by omega), Option.bind_some]
    rw [bif_neg (by omega)]; simp [levA]
  | x :: r, i, m + 1, at_, out, hr, hm, ho => by
    obtain ⟨h1, h2, h3, h4, h5⟩ := drop_cons hr dflt_Run
    simp only [List.length_cons] at hm ho
    simp only [uart_Expect_l7, b_uart_Expect_l7, h1, next_i i (by omega)]
    rw [bif_pos (by omega), bif_pos (by omega), bif_pos (by omega), bif_pos (by omega), expect_l7 H l hl hM r (i + 1) m _ _ h3 (by omega) (by simp; omega)]
    simp [levA]
theorem tiny_l4 (M : Nat) (l : List Item) (hl : l.length ≤ 12) : ∀ (r : List Item) (i m : Nat), l.drop i = r → r.length < m → ∃ b, law22_tiny_l4 M m (i : Int) l = some b
  | r, i, 0, _, hm => by omega
  | [], i, m + 1, hr, hm => by
    have := drop_nil hr
    simp only [law22_tiny_l4, b_law22_tiny_l4]
    rw [bif_neg (by omega)]; exact ⟨_, rfl⟩
  | e :: r, i, m + 1, hr, hm => by
    obtain ⟨h1, h2, h3, h4, h5⟩ := drop_cons hr dflt_Item
    simp only [List.length_cons] at hm
    simp only [law22_tiny_l4, b_law22_tiny_l4, h1]
    obtain ⟨b, hb⟩ := tiny_l4 M l hl r (i + 1) m h3 (by omega)
    rw [bif_pos (by omega), bif_pos (by omega), bif_pos (by omega), next_i i (by omega), hb, bif_if]
    split <;> exact ⟨_, rfl⟩
theorem tiny_is (M : Nat) (l : List Item) (hM : 60 < M) : ∃ b, law22_tiny M l = some b ∧ (b = true → l.length ≤ 12) := by
  simp only [law22_tiny, b_law22_tiny]
  by_cases h : (l.length : Int) > 12
  · rw [bif_pos h]; exact ⟨false, rfl, by simp⟩
  · rw [bif_neg h]
    obtain ⟨b, hb⟩ := tiny_l4 M l (by omega) l 0 M rfl (by omega)
    exact ⟨b, hb, fun _ => by omega⟩
theorem UartExpects_true (c : Uart) (l : List Item) (hc : wf_Uart c) (hl : (∀ x, x ∈ l → wf_Item x) ∧ l.length * Try.prog.bytesOf 54 ≤ 140737488351232) : ∃ M, law22_UartExpects M c l = some true := by
  obtain ⟨M, hM⟩ := big
  obtain ⟨v, H⟩ := cf_some M (by omega) c
  refine ⟨M, ?_⟩
  obtain ⟨b, hb, hb2⟩ := tiny_is M l (by omega)
  simp only [law22_UartExpects, b_law22_UartExpects, hb, Option.bind_some, awake_true M (by omega)]
  cases b with
  | false => rfl
  | true =>
    obtain ⟨r, e, he, hz, hr⟩ := enc_fair (show 100000 < M by omega) H l (hb2 rfl)
    have hx : uart_Expect M c l = some (if e = 0 then (decA c v (levA 0 r), 0) else ([], e)) := by
      simp only [uart_Expect, b_uart_Expect, he, Option.bind_some, bne_if]
      by_cases h0 : e = 0
      · rw [if_pos h0, if_pos h0]
        exact expect_l7 H r hr (by omega) r 0 M 0 [] rfl (by omega) (by simp)
      · rw [if_neg h0, if_neg h0]
    simp only [he, hx, Option.bind_some, Bool.not_true, Bool.cond_false, bne_if]
    by_cases h0 : e = 0
    · rw [if_pos h0, if_pos h0]
      have hev : law22_events M r = some (levA 0 r) := by
        simp only [law22_events, b_law22_events]
        exact events_l3 M r hr r 0 M 0 [] rfl (by omega) (by simp; omega)
      have hlen := levA_len r 0
      have hdl := dec_len H (levA 0 r)
      simp only [hev, Option.bind_some, decode_is (show 1000000 < M by omega) H (levA 0 r) (by omega), same_self M (decA c v (levA 0 r)) (by omega) (by omega), beq_self_eq_true, Bool.cond_true]
    · rw [if_neg h0, if_neg h0, hz h0]
      simp only [beq_self_eq_true, Bool.cond_true]
      rfl
end Go.Abs.K
