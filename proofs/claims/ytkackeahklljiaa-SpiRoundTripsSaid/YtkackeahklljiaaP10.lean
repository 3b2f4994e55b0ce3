/- SPI: the law of the round trip. -/
import Derived.Test.YtkackeahklljiaaP9
set_option linter.unusedVariables false
set_option linter.unusedSimpArgs false
namespace Go.Abs.K
open Go Go.Abs Go.Proofs

theorem bit_sum (b T : Int) : ∀ r : List Int, sumP (bitP b T r) = 2 * T * (r.length : Int)
  | [] => by simp [bitP, sumP]
  | v :: r => by
    have : ((v :: r).length : Int) = (r.length : Int) + 1 := by simp
    rw [this, Int.mul_add, ← bit_sum b T r]
    simp only [bitP, sumP_cons]; omega
theorem item_sum (c : Spi) (x : Item) : sumP (itemP c x) = 2 * c.T + x.Gap + 2 * c.T + 2 * c.T * ((itemB c x).length : Int) := by
  unfold itemP tailP
  rw [sumP_cons, sumP_cons, sumP_append, bit_sum]
  have : sumP [(idl c, c.T)] = c.T := by simp [sumP]
  rw [this]; dsimp only; omega
theorem rt_l16 (M : Nat) (c : Spi) (hc : OkC c) (l : List Item) (hl : l.length ≤ 1024) (hok : ∀ x, x ∈ l → ItemOk c x) (out : List Event) (hlen : out.length = l.length) : ∀ (r : List Item) (i m : Nat) (t : Int), l.drop i = r → r.length < m → out.drop i = wantL c t r → 0 ≤ t → t + sumP (allP c r) ≤ 1099511627776 →
    law24_SpiRoundTrips_l16 M m t (i : Int) l c out = some true
  | r, i, 0, t, _, hm, _, _, _ => by omega
  | [], i, m + 1, t, hr, hm, ho, ht, hT => by
    have := drop_nil hr
    simp only [law24_SpiRoundTrips_l16, b_law24_SpiRoundTrips_l16]
    rw [bif_neg (by omega)]
  | x :: r, i, m + 1, t, hr, hm, ho, ht, hT => by
    obtain ⟨h1, h2, h3, h4, h5⟩ := drop_cons hr dflt_Item
    obtain ⟨o1, o2, o3, o4, o5⟩ := drop_cons ho dflt_Event
    have hx := hok x h5
    simp only [List.length_cons] at hm
    have hg := hx.gap
    have hsz := hx.size
    have hc' := hc
    unfold OkC at hc'
    have hrest := pos_sum (all_pos c hc r fun y hy => hok y (by
      have hd : y ∈ l.drop i := by rw [hr]; exact List.mem_cons_of_mem _ hy
      exact List.mem_of_mem_drop hd))
    rw [allP_cons, sumP_append] at hT
    have hit := item_sum c x
    have hbn := sumP_nonneg (bitP_fine c hc (bef c) (bef_b c) (itemB c x) (itemB_bits c x)).1
    rw [bit_sum] at hbn
    have hal := allB_len c (ofBytes x.Data)
    rw [ofBytes_length] at hal
    have hmul : c.Bits.toNat * x.Data.size ≤ 8 * 4096 := Nat.mul_le_mul (by omega) hsz
    have hprod : (x.Data.size : Int) * c.Bits = ((allB c (ofBytes x.Data)).length : Int) := by
      rw [hal, show c.Bits = (c.Bits.toNat : Int) by omega, Int.toNat_natCast, Int.natCast_mul, Int.mul_comm]
    have ih := rt_l16 M c hc l hl hok out hlen r (i + 1) m (t + sumP (itemP c x)) h3 (by omega) o3 (by omega) (by omega)
    have hev : out.getD ((i : Int)).toNat dflt_Event = Event.mk 5 (t + 2 * c.T + x.Gap) (t + 2 * c.T + x.Gap + 2 * c.T + 2 * c.T * ((itemB c x).length : Int)) 0 0 (wantD x) x.Fault := by
      rw [o1, hit, show t + (2 * c.T + x.Gap) = t + 2 * c.T + x.Gap by omega, show t + (2 * c.T + x.Gap + 2 * c.T + 2 * c.T * ((itemB c x).length : Int)) = t + 2 * c.T + x.Gap + 2 * c.T + 2 * c.T * ((itemB c x).length : Int) by omega]
    rw [hit, show t + (2 * c.T + x.Gap + 2 * c.T + 2 * c.T * ((itemB c x).length : Int)) = t + 2 * c.T + x.Gap + 2 * c.T + 2 * c.T * ((itemB c x).length : Int) by omega] at ih
    rw [hit] at hT
    simp only [law24_SpiRoundTrips_l16, b_law24_SpiRoundTrips_l16, h1, hev, beq_if, next_i i (by omega)]
    simp only [bif_pos (show (0 : Int) ≤ (i : Int) by omega), bif_pos (show (i : Int) < (l.length : Int) by omega), bif_pos (show (i : Int) < (out.length : Int) by omega)]
    rw [hprod, i64_ok (n := 2 * c.T) (by omega), i64_ok (n := t + 2 * c.T) (by omega), i64_ok (n := t + 2 * c.T + x.Gap) (by omega), i64_ok (n := t + 2 * c.T + x.Gap + 2 * c.T) (by omega), i64_ok (n := ((allB c (ofBytes x.Data)).length : Int)) (by omega)]
    by_cases h8 : x.Fault = 8
    · have hne := (hx.short h8).1
      have hpos : 1 ≤ x.Data.size := by
        rcases Nat.eq_zero_or_pos x.Data.size with h | h
        · exact absurd (ByteArray.ext (Array.eq_empty_of_size_eq_zero h)) hne
        · exact h
      have hpos2 : 1 * 1 ≤ c.Bits.toNat * x.Data.size := Nat.mul_le_mul (by omega) hpos
      have hB : ((itemB c x).length : Int) = ((allB c (ofBytes x.Data)).length : Int) - 1 := by unfold itemB; rw [if_pos h8, List.length_dropLast]; omega
      have hD : wantD x = x.Data.extract 0 (x.Data.size - 1) := by unfold wantD; rw [if_pos h8]
      rw [hB] at hbn hT ih ⊢
      rw [if_pos h8, if_neg (by omega), i64_ok (n := (x.Data.size : Int) - 1) (by omega), i64_ok (n := ((allB c (ofBytes x.Data)).length : Int) - 1) (by omega), i64_ok (n := 2 * c.T * (((allB c (ofBytes x.Data)).length : Int) - 1)) (by omega), i64_ok (n := t + 2 * c.T + x.Gap + 2 * c.T + 2 * c.T * (((allB c (ofBytes x.Data)).length : Int) - 1)) (by omega)]
      rw [bif_pos (by omega), bif_pos (by omega), bif_pos (by omega), show ((x.Data.size : Int) - 1).toNat = x.Data.size - 1 by omega, hD]
      simp only [beq_self_eq_true, bytes_beq_self, Bool.and_self, Bool.not_true, Bool.cond_false]
      exact ih
    · have hB : ((itemB c x).length : Int) = ((allB c (ofBytes x.Data)).length : Int) := by unfold itemB; rw [if_neg h8]
      have hD : wantD x = x.Data := by unfold wantD; rw [if_neg h8]
      rw [hB] at hbn hT ih ⊢
      rw [if_neg h8, i64_ok (n := 2 * c.T * ((allB c (ofBytes x.Data)).length : Int)) (by omega), i64_ok (n := t + 2 * c.T + x.Gap + 2 * c.T + 2 * c.T * ((allB c (ofBytes x.Data)).length : Int)) (by omega), hD]
      simp only [beq_self_eq_true, bytes_beq_self, Bool.and_self, Bool.not_true, Bool.cond_false]
      exact ih
theorem ev_l4 (M : Nat) (l : List Run) (hf : Fine l) (hl : l.length ≤ 262144) (ht : total l ≤ 1099511627776) : ∀ (r : List Run) (i m : Nat) (acc : List Event), l.drop i = r → r.length < m → acc.length + r.length ≤ 262144 →
    law24_events_l4 M m (total (l.take i)) (i : Int) l acc = some (acc ++ evs (total (l.take i)) r, true)
  | r, i, 0, acc, _, hm, _ => by omega
  | [], i, m + 1, acc, hr, hm, ha => by
    have := drop_nil hr
    simp only [law24_events_l4, b_law24_events_l4]
    rw [bif_neg (by omega)]
    simp [evs]
  | x :: r, i, m + 1, acc, hr, hm, ha => by
    obtain ⟨h1, h2, h3, h4, h5⟩ := drop_cons hr dflt_Run
    have hx := hf x h5
    have ht0 := fine_take hf i
    have ht1 := fine_take hf (i + 1)
    have he := total_drop hr
    simp only [List.length_cons] at hm ha
    simp only [law24_events_l4, b_law24_events_l4, h1]
    simp only [bif_pos (show (0 : Int) ≤ (i : Int) by omega), bif_pos (show (i : Int) < (l.length : Int) by omega), bif_pos (show (acc.length + 1) * 64 ≤ 140737488355328 by omega)]
    rw [bif_neg (by omega), i64_ok (n := 1099511627776 - total (l.take i)) (by omega), bif_neg (by omega), next_i i (by omega), ← he, i64_ok (by omega), ev_l4 M l hf hl ht r (i + 1) m _ h3 (by omega) (by simp; omega)]
    simp [evs, he]
theorem ev_is (M : Nat) (hM : 1000000 < M) (l : List Run) (hf : Fine l) (hl : l.length ≤ 262144) (ht : total l ≤ 1099511627776) : law24_events M l = some (evs 0 l, true) := by
  simp only [law24_events, b_law24_events]
  have := ev_l4 M l hf hl ht l 0 M [] rfl (by omega) (by simpa using hl)
  simpa [total] using this
theorem want_len (c : Spi) : ∀ (l : List Item) (t : Int), (wantL c t l).length = l.length
  | [], t => rfl
  | x :: l, t => by simp [wantL, want_len c l]
theorem SpiRoundTrips_true (c : Spi) (l : List Item) (hc : wf_Spi c) (hl : (∀ x, x ∈ l → wf_Item x) ∧ l.length * Try.prog.bytesOf 47 ≤ 140737488351232) : ∃ M, law24_SpiRoundTrips M c l = some true := by
  obtain ⟨M, hM⟩ := big
  obtain ⟨b, hb⟩ := few_is M (by omega) l (wf_size l hl.1)
  refine ⟨M, ?_⟩
  simp only [law24_SpiRoundTrips, b_law24_SpiRoundTrips, lives_true M (by omega), hb, Option.bind_some, Bool.not_true, Bool.cond_false]
  cases b with
  | false => rfl
  | true =>
    simp only [encode_is M (by omega) c l, Option.bind_some, Bool.not_true, Bool.cond_false, bne_if]
    by_cases h0 : (encA M c l).2 = 0
    · obtain ⟨hok0, e3, e4, e5, e6, e7, e8⟩ := enc_ok M (by omega) c l h0
      have hrd := runs_dec c hok0 l e8 e6
      have hwl := want_len c l 0
      have hel := evs_len (runsA c l) 0
      rw [if_pos h0, e3, ev_is M (by omega) _ e4 e5 e6]
      simp only [Option.bind_some, Bool.not_true, Bool.cond_false]
      rw [decode_is M c (evs 0 (runsA c l)) (by omega) (by omega), Option.bind_some, hrd, if_pos (by omega)]
      refine rt_l16 M c hok0 l e7 e8 _ hwl l 0 M 0 rfl (by omega) rfl (by omega) ?_
      have e : total (runsA c l) = sumP (allP c l) + 2 * c.T := by
        show total (putA _ _ _) = _
        rw [put_total, puts_total, total_nil]; omega
      unfold OkC at hok0
      omega
    · rw [if_neg h0, enc_bad M c l h0]
      rfl
end Go.Abs.K
