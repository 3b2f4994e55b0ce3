/- UART: the document's samples; which items are refused. -/
import Derived.Test.YtlpileejhdadaaaP9
set_option linter.unusedVariables false
set_option linter.unusedSimpArgs false
namespace Go.Abs.K
open Go Go.Abs Go.Proofs

theorem smp_ref (M : Nat) (hM : 20 < M) (c : Uart) (h : OkU c) (x : Item) (hx : VOk c x) (hA1 : x.Aux = 1 → x.Fault = 0) : ref22_faulty M c x = some (smpA c x) := by
  have hc := h
  unfold OkU at hc
  obtain ⟨n, hn⟩ := Int.eq_ofNat_of_zero_le (show 0 ≤ c.Bits by omega)
  obtain ⟨st, hst⟩ := Int.eq_ofNat_of_zero_le (show 0 ≤ c.Stop by omega)
  obtain ⟨V, hV⟩ := Int.eq_ofNat_of_zero_le hx.val.1
  have hVl : V < 2 ^ n := by
    have := hx.val.2
    rw [hV, hn] at this
    rw [show ((n : Nat) : Int) = (n : Int) from rfl, pwn] at this
    exact_mod_cast this
  have hp1 : pN c ≤ 1 := by unfold pN; split <;> omega
  have htot : tot c = 1 + n + st + (pN c : Int) := by
    unfold tot pN
    rw [hn, hst]
    split <;> simp
  obtain ⟨b1, b2, b3, b4, b5, b6, b7⟩ := base_b n st (pN c) V (by omega) (by omega) hp1 hVl
  obtain ⟨q1, q2⟩ := par_b c V
  have t0 := fun q hq => test_parts n st (pN c) q V (test_is n st (pN c) q V (by omega) (by omega) hp1 hq hVl)
  have e1 : tot c - c.Stop = ((1 + n + pN c : Nat) : Int) := by rw [htot, hst]; simp; omega
  have e2 : tot c - 1 = ((n + st + pN c : Nat) : Int) := by rw [htot]; simp; omega
  have e3 : 1 + c.Bits = ((1 + n : Nat) : Int) := by rw [hn]; simp
  have e4 : c.Stop = ((st : Nat) : Int) := hst
  have hst2 : 1 ≤ 2 ^ st := Nat.one_le_two_pow
  have hpo1 : 1 ≤ 2 ^ (n + st + pN c) := Nat.one_le_two_pow
  have hpo2 : 1 ≤ 2 ^ (1 + n + pN c) := Nat.one_le_two_pow
  have hpo3 : 1 ≤ 2 ^ (1 + n) := Nat.one_le_two_pow
  have e5 : (((2 ^ st : Nat) : Int) - 1) * ((2 ^ (1 + n + pN c) : Nat) : Int) = (((2 ^ st - 1) * 2 ^ (1 + n + pN c) : Nat) : Int) := by
    rw [Int.natCast_mul, Int.natCast_sub hst2]; rfl
  have hst4 : 2 ^ st ≤ 4 := by
    have : st = 1 ∨ st = 2 := by omega
    rcases this with rfl | rfl <;> decide
  have mp : ∀ k : Nat, k ≤ 13 → (2 : Int) ^ min ((k : Int)).toNat 64 = ((2 ^ k : Nat) : Int) := fun k hk => by
    rw [Int.toNat_natCast, Nat.min_eq_left (by omega)]; simp
  have hbase : (base n st (pN c) V : Int) = ((2 * V : Nat) : Int) + (((2 ^ st - 1) * 2 ^ (1 + n + pN c) : Nat) : Int) := by unfold base; omega
  have hsN : smpN c x = base n st (pN c) V + pN c * (if x.Fault = 2 then 1 - parN c V else parN c V) * 2 ^ (1 + n) := by
    unfold smpN; rw [hn, hst, hV]; rfl
  have hsh : 2 ^ (c.Bits.toNat + c.Stop.toNat + pN c) = 2 ^ (n + st + pN c) := by rw [hn, hst]; rfl
  have hq1 : parN c V * 2 ^ (1 + n) ≤ 1024 := by
    have : parN c V = 0 ∨ parN c V = 1 := by omega
    rcases this with q | q <;> rw [q] <;> omega
  -- without faults
  have hsam : ref22_samples M c x = some (if x.Aux = 1 then 0 else ((base n st (pN c) V + pN c * parN c V * 2 ^ (1 + n) : Nat) : Int)) := by
    have hones := ones_is M hM V (by omega)
    simp only [ref22_samples, b_ref22_samples, (size_is M c h).2, Option.bind_some, beq_if, bne_if]
    by_cases hA : x.Aux = 1
    · rw [if_pos hA, if_pos hA]
    rw [if_neg hA, if_neg hA, hV, hones, Option.bind_some]
    rw [i64_ok (n := tot c - c.Stop) (by omega), i64_ok (n := 1 + c.Bits) (by omega), e1, e3, e4]
    rw [mp st (by omega), mp (1 + n + pN c) (by omega), mp (1 + n) (by omega)]
    simp only [Int.one_mul]
    rw [i64_ok (n := ((2 ^ st : Nat) : Int)) (by omega), i64_ok (n := ((2 ^ st : Nat) : Int) - 1) (by omega), e5, i64_ok (n := (((2 ^ st - 1) * 2 ^ (1 + n + pN c) : Nat) : Int)) (by omega), show (V : Int) * 2 = ((2 * V : Nat) : Int) by omega, i64_ok (n := ((2 * V : Nat) : Int)) (by omega), i64_ok (n := ((2 ^ (1 + n) : Nat) : Int)) (by omega), i64_ok (n := ((2 * V : Nat) : Int) + ((2 ^ (1 + n) : Nat) : Int)) (by omega), i64_ok (n := ((2 * V : Nat) : Int) + ((2 ^ (1 + n) : Nat) : Int) + (((2 ^ st - 1) * 2 ^ (1 + n + pN c) : Nat) : Int)) (by omega), i64_ok (n := ((2 * V : Nat) : Int) + (((2 ^ st - 1) * 2 ^ (1 + n + pN c) : Nat) : Int)) (by omega), ← hbase]
    simp only [bif_neg (show ¬ ((1 + n : Nat) : Int) < 0 by omega), bif_neg (show ¬ ((st : Nat) : Int) < 0 by omega), bif_neg (show ¬ ((1 + n + pN c : Nat) : Int) < 0 by omega)]
    by_cases hp0 : c.Parity = 0
    · have hpn : pN c = 0 := by unfold pN; rw [if_pos hp0]
      rw [if_pos hp0, hpn]; simp
    · have hpn : pN c = 1 := by unfold pN; rw [if_neg hp0]
      rw [if_neg hp0, i64_ok (n := c.Parity - 1) (by omega), Int.tmod_eq_emod_of_nonneg (by omega)]
      by_cases hz : (popN 9 V : Int) % 2 = c.Parity - 1
      · have hpar : parN c V = 0 := by unfold parN; rw [if_neg hp0]; omega
        rw [if_pos hz, hpar]; simp
      · have hpar : parN c V = 1 := by unfold parN; rw [if_neg hp0]; omega
        rw [if_neg hz, hpar, hpn]
        refine congrArg some ?_
        rw [hpn] at hbase
        omega
  simp only [ref22_faulty, b_ref22_faulty, hsam, Option.bind_some, (size_is M c h).2, beq_if]
  unfold smpA
  rw [hsN, hsh]
  by_cases hA : x.Aux = 1
  · have hf0 := hA1 hA
    rw [if_neg (show ¬ x.Fault = 1 by omega), if_neg (show ¬ x.Fault = 2 by omega), if_pos hA, if_pos hA]
  rw [if_neg hA, if_neg hA, i64_ok (n := tot c - 1) (by omega), i64_ok (n := 1 + c.Bits) (by omega), e2, e3, bif_neg (by omega), bif_neg (by omega), mp (n + st + pN c) (by omega), mp (1 + n) (by omega)]
  simp only [Int.one_mul]
  rw [i64_ok (n := ((2 ^ (n + st + pN c) : Nat) : Int)) (by omega), i64_ok (n := ((2 ^ (1 + n) : Nat) : Int)) (by omega)]
  have hle : pN c * parN c V * 2 ^ (1 + n) ≤ 1024 := by
    have : pN c = 0 ∨ pN c = 1 := by omega
    rcases this with q | q <;> rw [q]
    · simp
    · rw [Nat.one_mul]; exact hq1
  by_cases hf1 : x.Fault = 1
  · have hf2 : ¬ x.Fault = 2 := by omega
    rw [if_pos hf1, if_pos hf1, if_neg hf2, i64_ok (by omega)]
    refine congrArg some ?_
    omega
  · rw [if_neg hf1, if_neg hf1]
    by_cases hf2 : x.Fault = 2
    · have hp0 := hx.par hf2
      have hpn : pN c = 1 := by unfold pN; rw [if_neg hp0]
      have := (t0 (parN c V) q1).2.2.2 hpn
      rw [if_pos hf2, if_pos hf2, hpn]
      simp only [Nat.one_mul]
      rw [hpn] at this
      exact congrArg some this
    · rw [if_neg hf2, if_neg hf2]
end Go.Abs.K
