/- UART: which configurations are valid; times; parities. -/
import Derived.Test.YtlpileejhdadaaaE1
set_option linter.unusedVariables false
set_option linter.unusedSimpArgs false
namespace Go.Abs.K
open Go Go.Abs Go.Proofs

theorem gcd_l1 (M : Nat) : ∀ (m : Nat) (a b : Int), ratio_common_l1 M m a b = ref01_gcd_at M m a b
  | 0, a, b => rfl
  | m + 1, a, b => by
    simp only [ratio_common_l1, b_ratio_common_l1, ref01_gcd_at, b_ref01_gcd, gcd_l1 M m]
    by_cases h : b = 0
    · subst h; rfl
    · rw [bne_if, beq_if, if_neg h, if_neg h, bif_neg h, bif_neg h]
      cases ref01_gcd_at M m b (a.tmod b) <;> rfl
theorem gcd_some (M : Nat) : ∀ (m : Nat) (a b : Int), 0 ≤ a → 0 ≤ b → b < (m : Int) → ∃ g, ref01_gcd_at M m a b = some g
  | 0, a, b, _, h1, h2 => by omega
  | m + 1, a, b, h0, h1, h2 => by
    simp only [ref01_gcd_at, b_ref01_gcd]
    by_cases h : b = 0
    · subst h; exact ⟨a, rfl⟩
    · have hm : a.tmod b = a % b := Int.tmod_eq_emod_of_nonneg h0
      have hn := Int.emod_nonneg a h
      have hl := Int.emod_lt_of_pos a (show 0 < b by omega)
      obtain ⟨g, hg⟩ := gcd_some M m b (a % b) h1 hn (by omega)
      rw [beq_if, if_neg h, bif_neg h, hm, hg]
      exact ⟨g, rfl⟩
theorem valid_same (M : Nat) (r : Ratio) : ratio_Valid M r = ref01_Valid M r := by
  have hs : ∀ n, ratio_size M n = ref01_size M n := fun n => rfl
  simp only [ratio_Valid, b_ratio_Valid, ref01_Valid, b_ref01_Valid, ratio_common, b_ratio_common, ref01_gcd, gcd_l1, hs]
theorem valid_some (M : Nat) (hM : 1073741825 < M) (r : Ratio) : ∃ b, ref01_Valid M r = some b ∧ (b = true → 1 ≤ r.Den ∧ r.Den ≤ 1073741824 ∧ r.Num ≤ 1073741824) := by
  simp only [ref01_Valid, b_ref01_Valid]
  by_cases h1 : r.Den < 1
  · rw [bif_pos h1]; exact ⟨false, rfl, by simp⟩
  rw [bif_neg h1]
  by_cases h2 : r.Den > 1073741824
  · rw [bif_pos h2]; exact ⟨false, rfl, by simp⟩
  rw [bif_neg h2]
  by_cases h3 : r.Num < -1073741824
  · rw [bif_pos h3]; exact ⟨false, rfl, by simp⟩
  rw [bif_neg h3]
  by_cases h4 : r.Num > 1073741824
  · rw [bif_pos h4]; exact ⟨false, rfl, by simp⟩
  rw [bif_neg h4]
  have hd : ref01_size M r.Den = some r.Den := by
    simp only [ref01_size, b_ref01_size]
    rw [bif_neg (by omega), u64_ok (by omega)]
  obtain ⟨a, ha, ha0⟩ : ∃ a, ref01_size M r.Num = some a ∧ 0 ≤ a := by
    simp only [ref01_size, b_ref01_size, bif_if]
    split
    · exact ⟨_, rfl, by rw [u64_eq]; omega⟩
    · exact ⟨_, rfl, by rw [u64_eq]; omega⟩
  obtain ⟨g, hg⟩ := gcd_some M M a r.Den ha0 (by omega) (by omega)
  have hg' : ref01_gcd M a r.Den = some g := hg
  rw [ha, hd, Option.bind_some, Option.bind_some, hg', Option.bind_some]
  exact ⟨_, rfl, fun _ => by omega⟩
def OkU (c : Uart) : Prop := (1 ≤ c.T_Den ∧ c.T_Den ≤ 1073741824 ∧ 4 * c.T_Den ≤ c.T_Num ∧ c.T_Num ≤ 1048576 * c.T_Den ∧ c.T_Num ≤ 1073741824) ∧ (5 ≤ c.Bits ∧ c.Bits ≤ 9) ∧ (0 ≤ c.Parity ∧ c.Parity ≤ 2) ∧ (1 ≤ c.Stop ∧ c.Stop ≤ 2)
structure Cf (M : Nat) (c : Uart) (v : Int) : Prop where
  p : uart_Check M c = some v
  r : ref22_Check M c = some v
  ok : v = 0 → OkU c
theorem cmp_is (M : Nat) (a : Ratio) (K : Int) (h1 : ratio_Valid M a = some true) (h2 : ratio_Valid M ⟨K, 1⟩ = some true) (hK : 0 ≤ K ∧ K ≤ 1048576) (ha : -1073741824 ≤ a.Num ∧ a.Num ≤ 1073741824 ∧ 1 ≤ a.Den ∧ a.Den ≤ 1073741824) : ratio_Cmp M a ⟨K, 1⟩ = some (if a.Num = K ∧ a.Den = 1 then 0 else if a.Num < K * a.Den then -1 else 1) := by
  have hp : 0 ≤ K * a.Den ∧ K * a.Den ≤ 1048576 * 1073741824 := ⟨Int.mul_nonneg hK.1 (by omega), Int.mul_le_mul hK.2 ha.2.2.2 (by omega) (by omega)⟩
  simp only [ratio_Cmp, b_ratio_Cmp, ratio_both, b_ratio_both, h1, h2, Option.bind_some, Bool.cond_true, Bool.not_true, Bool.cond_false, Int.mul_one]
  rw [i64_ok (n := a.Num) (by omega), i64_ok (n := K * a.Den) (by omega)]
  by_cases c1 : a.Num = K ∧ a.Den = 1
  · rw [if_pos c1, c1.1, c1.2]; simp
  · rw [if_neg c1]
    have : (a.Num == K && (a.Den == 1 && true)) = false := by
      cases h : (a.Num == K && (a.Den == 1 && true)) with
      | false => rfl
      | true => exact absurd (by simpa using h) c1
    rw [this, Bool.cond_false, bif_if]
    split <;> rfl
theorem valid_range (M : Nat) (r : Ratio) (h : ref01_Valid M r = some true) : -1073741824 ≤ r.Num := by
  simp only [ref01_Valid, b_ref01_Valid, bif_if] at h
  by_cases c1 : r.Den < 1
  · rw [if_pos c1] at h; cases h
  rw [if_neg c1] at h
  by_cases c2 : r.Den > 1073741824
  · rw [if_pos c2] at h; cases h
  rw [if_neg c2] at h
  by_cases c3 : r.Num < -1073741824
  · rw [if_pos c3] at h; cases h
  omega
/-- A multiple of the denominator is in lowest terms at the denominator 1 alone. -/
theorem valid_mult (m : Nat) (r : Ratio) (h : ref01_Valid (m + 5) r = some true) (hd : 1 ≤ r.Den ∧ r.Den ≤ 1073741824) (hn : 0 ≤ r.Num ∧ r.Num ≤ 1073741824) (hm : r.Num % r.Den = 0) : r.Den = 1 := by
  have h1 : ref01_size (m + 5) r.Den = some r.Den := by
    simp only [ref01_size, b_ref01_size]
    rw [bif_neg (by omega), u64_ok (by omega)]
  have h2 : ref01_size (m + 5) r.Num = some r.Num := by
    simp only [ref01_size, b_ref01_size]
    rw [bif_neg (by omega), u64_ok (by omega)]
  have h3 : ref01_gcd (m + 5) r.Num r.Den = some r.Den := by
    show ref01_gcd_at (m + 5) (m + 5) r.Num r.Den = _
    simp only [ref01_gcd_at, b_ref01_gcd, beq_if]
    rw [if_neg (by omega), bif_neg (by omega), Int.tmod_eq_emod_of_nonneg hn.1, hm, if_pos rfl]
    rfl
  simp only [ref01_Valid, b_ref01_Valid, h1, h2, h3, Option.bind_some, bif_if] at h
  rw [if_neg (by omega), if_neg (by omega), if_neg (by omega), if_neg (by omega)] at h
  simpa using h
theorem cf_some (M : Nat) (hM : 1073741825 < M) (c : Uart) : ∃ v, Cf M c v := by
  obtain ⟨b, hb, hb2⟩ := valid_some M hM (Ratio.mk c.T_Num c.T_Den)
  cases b with
  | false =>
    refine ⟨1, ?_, ?_, fun h => by omega⟩
    · simp only [uart_Check, b_uart_Check, valid_same, hb, Option.bind_some]; rfl
    · simp only [ref22_Check, b_ref22_Check, hb, Option.bind_some]; rfl
  | true =>
    obtain ⟨d1, d2, d3⟩ := hb2 rfl
    have d0 := valid_range M _ hb
    dsimp only at d0 d1 d2 d3
    obtain ⟨m, rfl⟩ : ∃ m, M = m + 40 := ⟨M - 40, by omega⟩
    have hv : ratio_Valid (m + 40) (Ratio.mk c.T_Num c.T_Den) = some true := by rw [valid_same]; exact hb
    have v4 : ratio_Valid (m + 40) (Ratio.mk 4 1) = some true := by kernel_rfl
    have v6 : ratio_Valid (m + 40) (Ratio.mk 1048576 1) = some true := by kernel_rfl
    have c4 := cmp_is (m + 40) (Ratio.mk c.T_Num c.T_Den) 4 hv v4 (by omega) ⟨d0, d3, d1, d2⟩
    have c6 := cmp_is (m + 40) (Ratio.mk c.T_Num c.T_Den) 1048576 hv v6 (by omega) ⟨d0, d3, d1, d2⟩
    dsimp only at c4 c6
    have hmul : c.T_Num = 1048576 * c.T_Den → c.T_Den = 1 := fun h => valid_mult (m + 35) (Ratio.mk c.T_Num c.T_Den) hb ⟨d1, d2⟩ ⟨by dsimp only; omega, d3⟩ (by dsimp only; rw [h]; exact Int.mul_emod_left _ _)
    let rest : Int := if c.Bits < 5 then 2 else if c.Bits > 9 then 2 else if c.Parity < 0 then 2 else if c.Parity > 2 then 2 else if c.Stop < 1 then 2 else if c.Stop > 2 then 2 else 0
    have hrest : ∀ {R : Type} (f : Int → Option R), (if c.Bits < 5 then f 2 else if c.Bits > 9 then f 2 else if c.Parity < 0 then f 2 else if c.Parity > 2 then f 2 else if c.Stop < 1 then f 2 else if c.Stop > 2 then f 2 else f 0) = f rest := fun f => by
      show _ = f (if c.Bits < 5 then 2 else if c.Bits > 9 then 2 else if c.Parity < 0 then 2 else if c.Parity > 2 then 2 else if c.Stop < 1 then 2 else if c.Stop > 2 then 2 else 0)
      repeat' split
      all_goals rfl
    have hr0 : rest = 0 → (5 ≤ c.Bits ∧ c.Bits ≤ 9) ∧ (0 ≤ c.Parity ∧ c.Parity ≤ 2) ∧ (1 ≤ c.Stop ∧ c.Stop ≤ 2) := fun h => by
      have h : (if c.Bits < 5 then (2 : Int) else if c.Bits > 9 then 2 else if c.Parity < 0 then 2 else if c.Parity > 2 then 2 else if c.Stop < 1 then 2 else if c.Stop > 2 then 2 else 0) = 0 := h
      by_cases q1 : c.Bits < 5
      · rw [if_pos q1] at h; omega
      rw [if_neg q1] at h
      by_cases q2 : c.Bits > 9
      · rw [if_pos q2] at h; omega
      rw [if_neg q2] at h
      by_cases q3 : c.Parity < 0
      · rw [if_pos q3] at h; omega
      rw [if_neg q3] at h
      by_cases q4 : c.Parity > 2
      · rw [if_pos q4] at h; omega
      rw [if_neg q4] at h
      by_cases q5 : c.Stop < 1
      · rw [if_pos q5] at h; omega
      rw [if_neg q5] at h
      by_cases q6 : c.Stop > 2
      · rw [if_pos q6] at h; omega
      omega
    by_cases h4 : c.T_Num < 4 * c.T_Den
    · refine ⟨2, ?_, ?_, fun h => by omega⟩
      · simp only [uart_Check, b_uart_Check, hv, c4, Option.bind_some, Bool.not_true, Bool.cond_false, bif_if]
        rw [if_neg (show ¬ (c.T_Num = 4 ∧ c.T_Den = 1) by omega), if_pos h4, if_neg (by omega)]
      · simp only [ref22_Check, b_ref22_Check, hb, Option.bind_some, Bool.not_true, Bool.cond_false]
        rw [i64_ok (n := 4 * c.T_Den) (by omega), bif_pos h4]
    · by_cases h6 : c.T_Num > 1048576 * c.T_Den
      · refine ⟨2, ?_, ?_, fun h => by omega⟩
        · simp only [uart_Check, b_uart_Check, hv, c4, c6, Option.bind_some, Bool.not_true, Bool.cond_false, bif_if]
          have e4 : (if c.T_Num = 4 ∧ c.T_Den = 1 then (0 : Int) else if c.T_Num < 4 * c.T_Den then -1 else 1) ≥ 0 := by
            repeat' split
            all_goals omega
          rw [if_pos e4, if_neg (show ¬ (c.T_Num = 1048576 ∧ c.T_Den = 1) by omega), if_neg (show ¬ c.T_Num < 1048576 * c.T_Den by omega)]
          rfl
        · simp only [ref22_Check, b_ref22_Check, hb, Option.bind_some, Bool.not_true, Bool.cond_false]
          rw [i64_ok (n := 4 * c.T_Den) (by omega), i64_ok (n := 1048576 * c.T_Den) (by omega), bif_neg h4, bif_pos h6]
      · refine ⟨rest, ?_, ?_, fun h => ⟨⟨d1, d2, by omega, by omega, d3⟩, hr0 h⟩⟩
        · simp only [uart_Check, b_uart_Check, hv, c4, c6, Option.bind_some, Bool.not_true, Bool.cond_false, bif_if]
          have e4 : (if c.T_Num = 4 ∧ c.T_Den = 1 then (0 : Int) else if c.T_Num < 4 * c.T_Den then -1 else 1) ≥ 0 := by
            repeat' split
            all_goals omega
          have e6 : (if c.T_Num = 1048576 ∧ c.T_Den = 1 then (0 : Int) else if c.T_Num < 1048576 * c.T_Den then -1 else 1) ≤ 0 := by
            by_cases q : c.T_Num = 1048576 ∧ c.T_Den = 1
            · rw [if_pos q]; omega
            · rw [if_neg q]
              by_cases q2 : c.T_Num < 1048576 * c.T_Den
              · rw [if_pos q2]; omega
              · have := hmul (by omega); omega
          rw [if_pos e4, decide_eq_true e6]
          simp only [Bool.not_true, Bool.cond_false]
          exact hrest (fun x => some x)
        · simp only [ref22_Check, b_ref22_Check, hb, Option.bind_some, Bool.not_true, Bool.cond_false]
          rw [i64_ok (n := 4 * c.T_Den) (by omega), i64_ok (n := 1048576 * c.T_Den) (by omega), bif_neg h4, bif_neg h6]
          simp only [bif_if]
          exact hrest (fun x => some x)

/-! ### Times -/
def hv (c : Uart) (n : Int) : Int := n * c.T_Num / (2 * c.T_Den)
def tot (c : Uart) : Int := 1 + c.Bits + c.Stop + (if c.Parity = 0 then 0 else 1)
theorem tot_b (c : Uart) (h : OkU c) : 7 ≤ tot c ∧ tot c ≤ 13 := by
  unfold OkU at h
  unfold tot
  split <;> omega
theorem hv_b (c : Uart) (h : OkU c) (n : Int) (hn : 0 ≤ n ∧ n ≤ 100) : 0 ≤ n * c.T_Num ∧ n * c.T_Num ≤ 107374182400 ∧ 0 ≤ hv c n ∧ hv c n ≤ 107374182400 := by
  unfold OkU at h
  have h1 : 0 ≤ n * c.T_Num := Int.mul_nonneg hn.1 (by omega)
  have h2 : n * c.T_Num ≤ 100 * 1073741824 := Int.mul_le_mul hn.2 (by omega) (by omega) (by omega)
  have h3 : 0 ≤ hv c n := Int.ediv_nonneg h1 (by omega)
  have h4 : hv c n ≤ n * c.T_Num := Int.ediv_le_self _ h1
  omega
theorem halves_is (M : Nat) (c : Uart) (h : OkU c) (n : Int) (hn : 0 ≤ n ∧ n ≤ 100) : uart_halves M c n = some (hv c n) := by
  obtain ⟨b1, b2, b3, b4⟩ := hv_b c h n hn
  unfold OkU at h
  simp only [uart_halves, b_uart_halves]
  rw [i64_ok (n := 2 * c.T_Den) (by omega), bif_neg (by omega), i64_ok (n := n * c.T_Num) (by omega), Int.tdiv_eq_ediv_of_nonneg b1]
  unfold hv at b3 b4 ⊢
  rw [i64_ok (by omega)]
theorem sample_is (M : Nat) (c : Uart) (h : OkU c) (k : Int) (hk : 0 ≤ k ∧ k ≤ 40) : ref22_sample M c k = some (hv c (2 * k + 1)) := by
  obtain ⟨b1, b2, b3, b4⟩ := hv_b c h (2 * k + 1) (by omega)
  unfold OkU at h
  simp only [ref22_sample, b_ref22_sample]
  rw [i64_ok (n := 2 * c.T_Den) (by omega), bif_neg (by omega), i64_ok (n := 2 * k) (by omega), i64_ok (n := 2 * k + 1) (by omega), i64_ok (n := (2 * k + 1) * c.T_Num) (by omega), Int.tdiv_eq_ediv_of_nonneg b1]
  unfold hv at b3 b4 ⊢
  rw [i64_ok (by omega)]
theorem boundary_is (M : Nat) (c : Uart) (h : OkU c) (k : Int) (hk : 0 ≤ k ∧ k ≤ 40) : ref22_boundary M c k = some (hv c (2 * k)) := by
  obtain ⟨b1, b2, b3, b4⟩ := hv_b c h k (by omega)
  obtain ⟨a1, a2, a3, a4⟩ := hv_b c h (2 * k) (by omega)
  have e : hv c (2 * k) = k * c.T_Num / c.T_Den := by
    unfold hv
    rw [Int.mul_assoc, Int.mul_ediv_mul_of_pos _ _ (by omega)]
  unfold OkU at h
  simp only [ref22_boundary, b_ref22_boundary]
  rw [bif_neg (by omega), i64_ok (n := k * c.T_Num) (by omega), Int.tdiv_eq_ediv_of_nonneg b1, ← e, i64_ok (by omega)]
theorem size_is (M : Nat) (c : Uart) (h : OkU c) : uart_size M c = some (tot c) ∧ ref22_total M c = some (tot c) := by
  unfold OkU at h
  simp only [uart_size, b_uart_size, ref22_total, b_ref22_total, bne_if, beq_if]
  unfold tot
  by_cases hp : c.Parity = 0
  · rw [if_pos hp, if_pos hp, if_pos hp, i64_ok (n := 1 + c.Bits) (by omega), i64_ok (n := 1 + c.Bits + c.Stop) (by omega), Int.add_zero]
    exact ⟨rfl, rfl⟩
  · rw [if_neg hp, if_neg hp, if_neg hp, i64_ok (n := 1 + c.Bits) (by omega), i64_ok (n := 1 + c.Bits + c.Stop) (by omega), i64_ok (n := 1 + c.Bits + c.Stop + 1) (by omega), i64_ok (n := 2 + c.Bits) (by omega), i64_ok (n := 2 + c.Bits + c.Stop) (by omega), show 2 + c.Bits + c.Stop = 1 + c.Bits + c.Stop + 1 by omega]
    exact ⟨rfl, rfl⟩
/-! ### Parities -/
def popN : Nat → Nat → Nat
  | 0, _ => 0
  | k + 1, n => n % 2 + popN k (n / 2)
theorem ones_tab (m : Nat) : ((List.range 512).all fun v => match ref22_ones (m + 20) (v : Int) with | some x => x == (popN 9 v : Int) | none => false) = true := by kernel_rfl
theorem par_tab (m : Nat) : ((List.range 512).all fun v => (match uart_parity (m + 20) (Uart.mk 0 0 0 1 0) (v : Int) with | some x => x == ((popN 9 v % 2 : Nat) : Int) | none => false) && (match uart_parity (m + 20) (Uart.mk 0 0 0 2 0) (v : Int) with | some x => x == (((popN 9 v + 1) % 2 : Nat) : Int) | none => false)) = true := by kernel_rfl
end Go.Abs.K
