/- UART: samples; which items are refused. -/
import Derived.Test.YtlpileejhdadaaaP8
set_option linter.unusedVariables false
set_option linter.unusedSimpArgs false
namespace Go.Abs.K
open Go Go.Abs Go.Proofs

theorem pwn (n : Nat) : pw (n : Int) = ((2 ^ n : Nat) : Int) := by unfold pw; simp
def parN (c : Uart) (V : Nat) : Nat := if c.Parity = 0 then 0 else (popN 9 V + (c.Parity - 1).toNat) % 2
def pN (c : Uart) : Nat := if c.Parity = 0 then 0 else 1
def smpN (c : Uart) (x : Item) : Nat :=
  base c.Bits.toNat c.Stop.toNat (pN c) x.Value.toNat + pN c * (if x.Fault = 2 then 1 - parN c x.Value.toNat else parN c x.Value.toNat) * 2 ^ (1 + c.Bits.toNat)
def smpA (c : Uart) (x : Item) : Int := if x.Aux = 1 then 0 else if x.Fault = 1 then ((smpN c x - 2 ^ (c.Bits.toNat + c.Stop.toNat + pN c) : Nat) : Int) else (smpN c x : Int)
theorem base_b (n st p V : Nat) (hn : 5 ≤ n ∧ n ≤ 9) (hs : 1 ≤ st ∧ st ≤ 2) (hp : p ≤ 1) (hV : V < 2 ^ n) : 2 ^ n ≤ 512 ∧ 2 ^ (1 + n) ≤ 1024 ∧ 2 ^ (1 + n + p) ≤ 2048 ∧ (2 ^ st - 1) * 2 ^ (1 + n + p) ≤ 6144 ∧ 2 ^ (n + st + p) ≤ 4096 ∧ 2 ^ (n + st + p) ≤ base n st p V ∧ base n st p V ≤ 8192 := by
  unfold base
  have hn' : n = 5 ∨ n = 6 ∨ n = 7 ∨ n = 8 ∨ n = 9 := by omega
  have hs' : st = 1 ∨ st = 2 := by omega
  have hp' : p = 0 ∨ p = 1 := by omega
  rcases hn' with rfl | rfl | rfl | rfl | rfl <;> rcases hs' with rfl | rfl <;> rcases hp' with rfl | rfl <;> simp at hV ⊢ <;> omega
theorem par_b (c : Uart) (V : Nat) : parN c V ≤ 1 ∧ (c.Parity = 0 → parN c V = 0) := by
  unfold parN
  split
  · exact ⟨by omega, fun _ => rfl⟩
  · exact ⟨by omega, fun h => by omega⟩
structure VOk (c : Uart) (x : Item) : Prop where
  val : 0 ≤ x.Value ∧ x.Value < pw c.Bits
  flt : x.Fault = 0 ∨ x.Fault = 1 ∨ x.Fault = 2
  par : x.Fault = 2 → c.Parity ≠ 0
theorem test_parts (n st p q V : Nat) (h : test n st p q V = true) : orI ((2 * V : Nat) : Int) (((2 ^ st - 1) * 2 ^ (1 + n + p) : Nat) : Int) = (base n st p V : Int) ∧ (p = 1 → orI (base n st p V : Int) ((q * 2 ^ (1 + n) : Nat) : Int) = ((base n st p V + q * 2 ^ (1 + n) : Nat) : Int)) ∧ anI ((base n st p V + p * q * 2 ^ (1 + n) : Nat) : Int) ((2 ^ (n + st + p) : Nat) : Int) = ((base n st p V + p * q * 2 ^ (1 + n) - 2 ^ (n + st + p) : Nat) : Int) ∧ (p = 1 → xoI ((base n st p V + q * 2 ^ (1 + n) : Nat) : Int) ((2 ^ (1 + n) : Nat) : Int) = ((base n st p V + (1 - q) * 2 ^ (1 + n) : Nat) : Int)) := by
  unfold test at h
  simp only [Bool.and_eq_true, Bool.or_eq_true, beq_iff_eq] at h
  obtain ⟨⟨⟨h1, h2⟩, h3⟩, h4⟩ := h
  exact ⟨h1, fun hp => by rcases h2 with h2 | h2; (· omega); exact h2, h3, fun hp => by rcases h4 with h4 | h4; (· omega); exact h4⟩
theorem smp_prog (M : Nat) (hM : 20 < M) (c : Uart) (h : OkU c) (x : Item) (hx : VOk c x) : uart_samples M c x = some (smpA c x) := by
  have hc := h
  unfold OkU at hc
  obtain ⟨n, hn⟩ := Int.eq_ofNat_of_zero_le (show 0 ≤ c.Bits by omega)
  obtain ⟨st, hst⟩ := Int.eq_ofNat_of_zero_le (show 0 ≤ c.Stop by omega)
  obtain ⟨V, hV⟩ := Int.eq_ofNat_of_zero_le hx.val.1
  have hVl : V < 2 ^ n := by
    have := hx.val.2
    rw [hV, hn] at this
    rw [show ((n : Nat) : Int) = (n : Int) from rfl, pwn] at this
    exact_mod_cast this
  have hVl : V < 2 ^ n := hVl
  have hp1 : pN c ≤ 1 := by unfold pN; split <;> omega
  have htot : tot c = 1 + n + st + (pN c : Int) := by
    unfold tot pN
    rw [hn, hst]
    split <;> simp
  obtain ⟨b1, b2, b3, b4, b5, b6, b7⟩ := base_b n st (pN c) V (by omega) (by omega) hp1 hVl
  obtain ⟨q1, q2⟩ := par_b c V
  have t0 := fun q hq => test_parts n st (pN c) q V (test_is n st (pN c) q V (by omega) (by omega) hp1 hq hVl)
  have e1 : tot c - c.Stop = ((1 + n + pN c : Nat) : Int) := by rw [htot, hst]; simp; omega
  have e2 : tot c - 1 = ((n + st + pN c : Nat) : Int) := by rw [htot]; simp; omega
  have e3 : 1 + c.Bits = ((1 + n : Nat) : Int) := by rw [hn]; simp
  have e4 : c.Stop = ((st : Nat) : Int) := hst
  have hst2 : 1 ≤ 2 ^ st := Nat.one_le_two_pow
  have hpo1 : 1 ≤ 2 ^ (n + st + pN c) := Nat.one_le_two_pow
  have hpo2 : 1 ≤ 2 ^ (1 + n + pN c) := Nat.one_le_two_pow
  have hpo3 : 1 ≤ 2 ^ (1 + n) := Nat.one_le_two_pow
  have e5 : (((2 ^ st : Nat) : Int) - 1) * ((2 ^ (1 + n + pN c) : Nat) : Int) = (((2 ^ st - 1) * 2 ^ (1 + n + pN c) : Nat) : Int) := by
    rw [Int.natCast_mul, Int.natCast_sub hst2]; rfl
  have hst4 : 2 ^ st ≤ 4 := by
    have : st = 1 ∨ st = 2 := by omega
    rcases this with rfl | rfl <;> decide
  have mp : ∀ k : Nat, k ≤ 13 → (2 : Int) ^ min ((k : Int)).toNat 64 = ((2 ^ k : Nat) : Int) := fun k hk => by
    rw [Int.toNat_natCast, Nat.min_eq_left (by omega)]; simp
  simp only [uart_samples, b_uart_samples, (size_is M c h).1, Option.bind_some, beq_if, bne_if]
  unfold smpA
  have hsN : smpN c x = base n st (pN c) V + pN c * (if x.Fault = 2 then 1 - parN c V else parN c V) * 2 ^ (1 + n) := by
    unfold smpN; rw [hn, hst, hV]; rfl
  have hsh : 2 ^ (c.Bits.toNat + c.Stop.toNat + pN c) = 2 ^ (n + st + pN c) := by rw [hn, hst]; rfl
  rw [hsN, hsh]
  by_cases hA : x.Aux = 1
  · rw [if_pos hA, if_pos hA]
  rw [if_neg hA, if_neg hA]
  rw [i64_ok (n := tot c - c.Stop) (by omega), i64_ok (n := 1 + c.Bits) (by omega), i64_ok (n := tot c - 1) (by omega), e1, e2, e3, e4, hV]
  rw [mp st (by omega), mp (1 + n + pN c) (by omega), mp (n + st + pN c) (by omega), mp (1 + n) (by omega)]
  simp only [Int.one_mul]
  rw [i64_ok (n := ((2 ^ st : Nat) : Int)) (by omega), i64_ok (n := ((2 ^ st : Nat) : Int) - 1) (by omega), e5, i64_ok (n := (((2 ^ st - 1) * 2 ^ (1 + n + pN c) : Nat) : Int)) (by omega), i64_ok (n := ((2 ^ (n + st + pN c) : Nat) : Int)) (by omega), show (V : Int) * 2 = ((2 * V : Nat) : Int) by omega, i64_ok (n := ((2 * V : Nat) : Int)) (by omega)]
  rw [bif_neg (by omega), bif_neg (by omega)]
  simp only [bif_neg (show ¬ ((n + st + pN c : Nat) : Int) < 0 by omega), bif_neg (show ¬ ((1 + n : Nat) : Int) < 0 by omega)]
  have o1 := (t0 0 (by omega)).1
  change IntKind.i64.wrap (((BitVec.ofInt 64 ((2 * V : Nat) : Int) ||| BitVec.ofInt 64 (((2 ^ st - 1) * 2 ^ (1 + n + pN c) : Nat) : Int)).toNat : Int)) = _ at o1
  by_cases hp0 : c.Parity = 0
  · have hpn : pN c = 0 := by unfold pN; rw [if_pos hp0]
    have hf2 : ¬ x.Fault = 2 := fun hf => hx.par hf hp0
    have a1 := (t0 0 (by omega)).2.2.1
    rw [if_pos hp0, o1]
    rw [hpn] at a1 ⊢
    simp only [Nat.zero_mul, Nat.add_zero] at a1 ⊢
    by_cases hf1 : x.Fault = 1
    · rw [if_pos hf1, if_pos hf1]; exact congrArg some a1
    · rw [if_neg hf1, if_neg hf1]
  · have hpn : pN c = 1 := by unfold pN; rw [if_neg hp0]
    have hpar := parity_is M hM c (by omega) V (by omega)
    have hpq : ((popN 9 V : Int) + (c.Parity - 1)) % 2 = (parN c V : Int) := by unfold parN; rw [if_neg hp0]; omega
    rw [if_neg hp0, hpar, Option.bind_some, hpq, o1, i64_ok (n := 1 - (parN c V : Int)) (by omega), show (1 : Int) - (parN c V : Int) = ((1 - parN c V : Nat) : Int) by omega]
    have pr : ∀ q : Nat, q ≤ 1 → (q : Int) * ((2 ^ (1 + n) : Nat) : Int) = ((q * 2 ^ (1 + n) : Nat) : Int) ∧ q * 2 ^ (1 + n) ≤ 1024 := fun q hq => by
      refine ⟨by rw [Int.natCast_mul], ?_⟩
      have : q = 0 ∨ q = 1 := by omega
      rcases this with rfl | rfl <;> omega
    have use : ∀ q : Nat, q ≤ 1 → orI (base n st (pN c) V : Int) (IntKind.i64.wrap ((q : Int) * ((2 ^ (1 + n) : Nat) : Int))) = ((base n st (pN c) V + pN c * q * 2 ^ (1 + n) : Nat) : Int) ∧ anI ((base n st (pN c) V + pN c * q * 2 ^ (1 + n) : Nat) : Int) ((2 ^ (n + st + pN c) : Nat) : Int) = ((base n st (pN c) V + pN c * q * 2 ^ (1 + n) - 2 ^ (n + st + pN c) : Nat) : Int) := fun q hq => by
      obtain ⟨p1, p2⟩ := pr q hq
      obtain ⟨_, u2, u3, _⟩ := t0 q hq
      rw [p1, i64_ok (n := ((q * 2 ^ (1 + n) : Nat) : Int)) (by omega)]
      refine ⟨?_, u3⟩
      rw [u2 hpn, hpn, Nat.one_mul]
    by_cases hf2 : x.Fault = 2
    · have hf1 : ¬ x.Fault = 1 := by omega
      obtain ⟨u1, u2⟩ := use (1 - parN c V) (by omega)
      rw [if_pos hf2, if_neg hf1, if_neg hf1, if_pos hf2]
      exact congrArg some u1
    · obtain ⟨u1, u2⟩ := use (parN c V) q1
      rw [if_neg hf2]
      simp only [if_neg hf2]
      by_cases hf1 : x.Fault = 1
      · rw [if_pos hf1, if_pos hf1]
        refine congrArg some (Eq.trans ?_ u2)
        exact congrArg (fun y => anI y _) u1
      · rw [if_neg hf1, if_neg hf1]
        exact congrArg some u1
end Go.Abs.K
