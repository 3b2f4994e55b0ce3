/- UART: the event of a frame. -/
import Derived.Test.YtlpileejhdadaaaP1
set_option linter.unusedVariables false
set_option linter.unusedSimpArgs false
namespace Go.Abs.K
open Go Go.Abs Go.Proofs

theorem ones_is (M : Nat) (hM : 20 < M) (v : Nat) (hv : v < 512) : ref22_ones M (v : Int) = some (popN 9 v : Int) := by
  obtain ⟨m, rfl⟩ : ∃ m, M = m + 20 := ⟨M - 20, by omega⟩
  have h := List.all_eq_true.1 (ones_tab m) v (List.mem_range.2 hv)
  cases hx : ref22_ones (m + 20) (v : Int) with
  | none => rw [hx] at h; cases h
  | some x => rw [hx] at h; simp only [beq_iff_eq] at h; rw [h]
theorem parity_is (M : Nat) (hM : 20 < M) (c : Uart) (hp : c.Parity = 1 ∨ c.Parity = 2) (v : Nat) (hv : v < 512) : uart_parity M c (v : Int) = some (((popN 9 v : Int) + (c.Parity - 1)) % 2) := by
  obtain ⟨m, rfl⟩ : ∃ m, M = m + 20 := ⟨M - 20, by omega⟩
  have h := List.all_eq_true.1 (par_tab m) v (List.mem_range.2 hv)
  rw [Bool.and_eq_true] at h
  have e : uart_parity (m + 20) c (v : Int) = uart_parity (m + 20) (Uart.mk 0 0 0 c.Parity 0) (v : Int) := rfl
  rw [e]
  rcases hp with hp | hp <;> rw [hp]
  · have h := h.1
    cases hx : uart_parity (m + 20) (Uart.mk 0 0 0 1 0) (v : Int) with
    | none => rw [hx] at h; cases h
    | some x => rw [hx] at h; simp only [beq_iff_eq] at h; rw [h]; congr 1
  · have h := h.2
    cases hx : uart_parity (m + 20) (Uart.mk 0 0 0 2 0) (v : Int) with
    | none => rw [hx] at h; cases h
    | some x => rw [hx] at h; simp only [beq_iff_eq] at h; rw [h]; congr 1
def pw (n : Int) : Int := 2 ^ n.toNat
theorem pw_b (n : Int) (h : 0 ≤ n ∧ n ≤ 13) : 1 ≤ pw n ∧ pw n ≤ 8192 := by
  have : n = 0 ∨ n = 1 ∨ n = 2 ∨ n = 3 ∨ n = 4 ∨ n = 5 ∨ n = 6 ∨ n = 7 ∨ n = 8 ∨ n = 9 ∨ n = 10 ∨ n = 11 ∨ n = 12 ∨ n = 13 := by omega
  unfold pw
  rcases this with rfl | rfl | rfl | rfl | rfl | rfl | rfl | rfl | rfl | rfl | rfl | rfl | rfl | rfl <;> decide
theorem min_pw (n : Int) (h : 0 ≤ n ∧ n ≤ 13) : (2 : Int) ^ min n.toNat 64 = pw n := by
  unfold pw
  rw [Nat.min_eq_left (by omega)]
theorem and_one (x : Int) : IntKind.i64.wrap (((BitVec.ofInt 64 x &&& BitVec.ofInt 64 1).toNat : Int)) = x % 2 := by
  have := and_low 64 1 x (by omega)
  rw [show ((2 ^ 1 - 1 : Nat) : Int) = 1 from rfl, show (2 ^ 1 : Int) = 2 from rfl] at this
  rw [this, i64_ok (by omega)]
theorem and_pw (x n : Int) (h : 0 ≤ n ∧ n ≤ 13) : IntKind.i64.wrap (((BitVec.ofInt 64 x &&& BitVec.ofInt 64 (pw n - 1)).toNat : Int)) = x % pw n := by
  have hb := pw_b n h
  have := and_low 64 n.toNat x (by omega)
  have e : ((2 ^ n.toNat - 1 : Nat) : Int) = pw n - 1 := by
    have h2 := Nat.two_pow_pos n.toNat
    unfold pw
    rw [Int.natCast_sub (by omega)]; simp
  rw [e] at this
  have hm := Int.emod_nonneg x (b := pw n) (by omega)
  have hl := Int.emod_lt_of_pos x (b := pw n) (by omega)
  have this : (((BitVec.ofInt 64 x &&& BitVec.ofInt 64 (pw n - 1)).toNat : Nat) : Int) = x % pw n := this
  rw [this, i64_ok (by omega)]
def fltA (c : Uart) (s : Int) : Int :=
  if s / pw (tot c - c.Stop) = pw c.Stop - 1 then (if c.Parity = 0 then 0 else if ((popN 9 (s / 2 % pw c.Bits).toNat : Int) + s / pw (1 + c.Bits) % 2) % 2 = c.Parity - 1 then 0 else 2) else 1
def toA (c : Uart) (f : Int) : Int := if 1099511627776 < f + hv c (2 * tot c) then 1099511627776 else f + hv c (2 * tot c)
def evA (c : Uart) (f s : Int) : Event := if s = 0 then Event.mk 4 f (toA c f) 1 0 (bs []) 0 else Event.mk 3 f (toA c f) (s / 2 % pw c.Bits) 0 (bs []) (fltA c s)
theorem fin_is (M : Nat) (hM : 20 < M) (c : Uart) (h : OkU c) (f s : Int) (hf : 0 ≤ f ∧ f ≤ 1099511627776) (hs : 0 ≤ s ∧ s ≤ 8192) : uart_finished M c f s = some (evA c f s) := by
  have ht := tot_b c h
  obtain ⟨b1, b2, b3, b4⟩ := hv_b c h (2 * tot c) (by omega)
  have hc := h
  unfold OkU at hc
  have htot : tot c = 1 + c.Bits + c.Stop + (if c.Parity = 0 then 0 else 1) := rfl
  have hts : 6 ≤ tot c - c.Stop ∧ tot c - c.Stop ≤ 11 := by split at htot <;> omega
  have p1 := pw_b c.Bits (by omega)
  have p2 := pw_b c.Stop (by omega)
  have p3 := pw_b (tot c - c.Stop) (by omega)
  have p4 := pw_b (1 + c.Bits) (by omega)
  have hval : 0 ≤ s / 2 % pw c.Bits ∧ s / 2 % pw c.Bits < pw c.Bits := ⟨Int.emod_nonneg _ (by omega), Int.emod_lt_of_pos _ (by omega)⟩
  have hpB : pw c.Bits ≤ 512 := by
    have : c.Bits = 5 ∨ c.Bits = 6 ∨ c.Bits = 7 ∨ c.Bits = 8 ∨ c.Bits = 9 := by omega
    rcases this with q | q | q | q | q <;> rw [q] <;> decide
  simp only [uart_finished, b_uart_finished, (size_is M c h).1, Option.bind_some, beq_if, bne_if]
  rw [i64_ok (n := 2 * tot c) (by omega), halves_is M c h (2 * tot c) (by omega), Option.bind_some]
  simp only [i64_ok (n := f + hv c (2 * tot c)) (by omega)]
  rw [i64_ok (n := tot c - c.Stop) (by omega), i64_ok (n := 1 + c.Bits) (by omega), min_pw c.Bits (by omega), min_pw c.Stop (by omega), min_pw (tot c - c.Stop) (by omega), min_pw (1 + c.Bits) (by omega)]
  simp only [Int.one_mul, i64_ok (n := pw c.Bits) (by omega), i64_ok (n := pw c.Bits - 1) (by omega), i64_ok (n := pw c.Stop) (by omega), i64_ok (n := pw c.Stop - 1) (by omega)]
  simp only [Int.fdiv_eq_ediv_of_nonneg s (show (0 : Int) ≤ 2 by omega), Int.fdiv_eq_ediv_of_nonneg s (show (0 : Int) ≤ pw (tot c - c.Stop) by omega), Int.fdiv_eq_ediv_of_nonneg s (show (0 : Int) ≤ pw (1 + c.Bits) by omega), and_one, and_pw _ c.Bits (show 0 ≤ c.Bits ∧ c.Bits ≤ 13 by omega)]
  have hto : (if 1099511627776 < f + hv c (2 * tot c) then 1099511627776 else f + hv c (2 * tot c)) = toA c f := rfl
  simp only [hto]
  unfold evA
  by_cases h0 : s = 0
  · rw [if_pos h0, if_pos h0]
  · rw [if_neg h0, if_neg h0, bif_neg (by omega), bif_neg (by omega), bif_neg (by omega)]
    unfold fltA
    by_cases h1 : s / pw (tot c - c.Stop) = pw c.Stop - 1
    · rw [if_pos h1, if_pos h1]
      by_cases hp : c.Parity = 0
      · rw [if_pos hp, if_pos hp]
      · rw [if_neg hp, if_neg hp, bif_neg (by omega)]
        have hq := parity_is M hM c (by omega) (s / 2 % pw c.Bits).toNat (by omega)
        rw [Int.toNat_of_nonneg hval.1] at hq
        rw [hq, Option.bind_some]
        by_cases h2 : s / pw (1 + c.Bits) % 2 = ((popN 9 (s / 2 % pw c.Bits).toNat : Int) + (c.Parity - 1)) % 2
        · rw [if_pos h2, if_pos (show ((popN 9 (s / 2 % pw c.Bits).toNat : Int) + s / pw (1 + c.Bits) % 2) % 2 = c.Parity - 1 by omega)]
        · rw [if_neg h2, if_neg (show ¬ ((popN 9 (s / 2 % pw c.Bits).toNat : Int) + s / pw (1 + c.Bits) % 2) % 2 = c.Parity - 1 by omega)]
    · rw [if_neg h1, if_neg h1]
theorem read_is (M : Nat) (hM : 20 < M) (c : Uart) (h : OkU c) (f s : Int) (hf : 0 ≤ f ∧ f ≤ 1099511627776) (hs : 0 ≤ s ∧ s ≤ 8192) : ref22_read M c f s = some (evA c f s) := by
  have ht := tot_b c h
  obtain ⟨b1, b2, b3, b4⟩ := hv_b c h (2 * tot c) (by omega)
  have hc := h
  unfold OkU at hc
  have htot : tot c = 1 + c.Bits + c.Stop + (if c.Parity = 0 then 0 else 1) := rfl
  have hts : 6 ≤ tot c - c.Stop ∧ tot c - c.Stop ≤ 11 := by split at htot <;> omega
  have p1 := pw_b c.Bits (by omega)
  have p2 := pw_b c.Stop (by omega)
  have p3 := pw_b (tot c - c.Stop) (by omega)
  have p4 := pw_b (1 + c.Bits) (by omega)
  have hs2 : 0 ≤ s / 2 := by omega
  have hval : 0 ≤ s / 2 % pw c.Bits ∧ s / 2 % pw c.Bits < pw c.Bits := ⟨Int.emod_nonneg _ (by omega), Int.emod_lt_of_pos _ (by omega)⟩
  have hpB : pw c.Bits ≤ 512 := by
    have : c.Bits = 5 ∨ c.Bits = 6 ∨ c.Bits = 7 ∨ c.Bits = 8 ∨ c.Bits = 9 := by omega
    rcases this with q | q | q | q | q <;> rw [q] <;> decide
  have hpop := ones_is M hM (s / 2 % pw c.Bits).toNat (by omega)
  rw [Int.toNat_of_nonneg hval.1] at hpop
  have hpb : ∀ k n, popN k n ≤ k := by
    intro k
    induction k with
    | zero => intro n; exact Nat.le_refl _
    | succ k ih => intro n; have := ih (n / 2); simp only [popN]; omega
  have hpb9 := hpb 9 (s / 2 % pw c.Bits).toNat
  have hd2 : 0 ≤ s / pw (1 + c.Bits) := Int.ediv_nonneg hs.1 (by omega)
  simp only [ref22_read, b_ref22_read, (size_is M c h).2, Option.bind_some, beq_if, bne_if]
  rw [boundary_is M c h (tot c) (by omega), Option.bind_some]
  simp only [i64_ok (n := f + hv c (2 * tot c)) (by omega)]
  rw [i64_ok (n := tot c - c.Stop) (by omega), i64_ok (n := 1 + c.Bits) (by omega), min_pw c.Bits (by omega), min_pw c.Stop (by omega), min_pw (tot c - c.Stop) (by omega), min_pw (1 + c.Bits) (by omega)]
  simp only [Int.one_mul, i64_ok (n := pw c.Bits) (by omega), i64_ok (n := pw c.Stop) (by omega), i64_ok (n := pw c.Stop - 1) (by omega)]
  simp only [Int.fdiv_eq_ediv_of_nonneg s (show (0 : Int) ≤ pw (tot c - c.Stop) by omega), Int.fdiv_eq_ediv_of_nonneg s (show (0 : Int) ≤ pw (1 + c.Bits) by omega), Int.tdiv_eq_ediv_of_nonneg hs.1, i64_ok (n := s / 2) (by omega), Int.tmod_eq_emod_of_nonneg hs2, Int.tmod_eq_emod_of_nonneg hd2]
  have hfin : ∀ T : Int, (if s = 0 then some (Event.mk 4 f T 1 0 (bs []) 0) else bif decide (c.Bits < 0) then none else bif decide (pw c.Bits = 0) then none else bif decide (tot c - c.Stop < 0) then none else bif decide (c.Stop < 0) then none else if s / pw (tot c - c.Stop) = pw c.Stop - 1 then (if c.Parity = 0 then some (Event.mk 3 f T (s / 2 % pw c.Bits) 0 (bs []) 0) else bif decide (1 + c.Bits < 0) then none else (ref22_ones M (s / 2 % pw c.Bits)).bind fun r3 => if (IntKind.i64.wrap (r3 + s / pw (1 + c.Bits) % 2)).tmod 2 = IntKind.i64.wrap (c.Parity - 1) then some (Event.mk 3 f T (s / 2 % pw c.Bits) 0 (bs []) 0) else some (Event.mk 3 f T (s / 2 % pw c.Bits) 0 (bs []) 2)) else some (Event.mk 3 f T (s / 2 % pw c.Bits) 0 (bs []) 1)) = some (if s = 0 then Event.mk 4 f T 1 0 (bs []) 0 else Event.mk 3 f T (s / 2 % pw c.Bits) 0 (bs []) (fltA c s)) := fun T => by
    by_cases h0 : s = 0
    · rw [if_pos h0, if_pos h0]
    · rw [if_neg h0, if_neg h0, bif_neg (by omega), bif_neg (by omega), bif_neg (by omega), bif_neg (by omega)]
      unfold fltA
      by_cases h1 : s / pw (tot c - c.Stop) = pw c.Stop - 1
      · rw [if_pos h1, if_pos h1]
        by_cases hp : c.Parity = 0
        · rw [if_pos hp, if_pos hp]
        · rw [if_neg hp, if_neg hp, bif_neg (by omega), hpop, Option.bind_some, i64_ok (n := (popN 9 (s / 2 % pw c.Bits).toNat : Int) + s / pw (1 + c.Bits) % 2) (by omega), Int.tmod_eq_emod_of_nonneg (by omega), i64_ok (n := c.Parity - 1) (by omega)]
          by_cases h2 : ((popN 9 (s / 2 % pw c.Bits).toNat : Int) + s / pw (1 + c.Bits) % 2) % 2 = c.Parity - 1
          · rw [if_pos h2, if_pos h2]
          · rw [if_neg h2, if_neg h2]
      · rw [if_neg h1, if_neg h1]
  have hev : evA c f s = if s = 0 then Event.mk 4 f (toA c f) 1 0 (bs []) 0 else Event.mk 3 f (toA c f) (s / 2 % pw c.Bits) 0 (bs []) (fltA c s) := rfl
  rw [bif_if, hev]
  by_cases hb : f + hv c (2 * tot c) > 1099511627776
  · have hto : toA c f = 1099511627776 := by unfold toA; rw [if_pos hb]
    rw [if_pos hb, hto]
    exact hfin 1099511627776
  · have hto : toA c f = f + hv c (2 * tot c) := by unfold toA; rw [if_neg (by omega)]
    rw [if_neg hb, hto]
    exact hfin (f + hv c (2 * tot c))
end Go.Abs.K
