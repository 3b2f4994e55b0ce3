/- SAMPLER: which bit times are valid; items without bits. -/
import Derived.Test.YtllgkfhpfonjnaaF1
import Derived.Test.YtllgkfhpfonjnaaA34
set_option linter.unusedVariables false
set_option linter.unusedSimpArgs false
namespace Go.Abs.K
open Go Go.Abs Go.Proofs

theorem gcd_l1 (M : Nat) : ∀ (m : Nat) (a b : Int), ratio_common_l1 M m a b = ref01_gcd_at M m a b
  | 0, a, b => rfl
  | m + 1, a, b => by
    simp only [ratio_common_l1, b_ratio_common_l1, ref01_gcd_at, b_ref01_gcd, gcd_l1 M m]
    by_cases h : b = 0
    · subst h; rfl
    · rw [bne_if, beq_if, if_neg h, if_neg h, bif_neg h, bif_neg h]
      cases ref01_gcd_at M m b (a.tmod b) <;> rfl
theorem gcd_some (M : Nat) : ∀ (m : Nat) (a b : Int), 0 ≤ a → 0 ≤ b → b < (m : Int) → ∃ g, ref01_gcd_at M m a b = some g
  | 0, a, b, _, h1, h2 => by omega
  | m + 1, a, b, h0, h1, h2 => by
    simp only [ref01_gcd_at, b_ref01_gcd]
    by_cases h : b = 0
    · subst h; exact ⟨a, rfl⟩
    · have hm : a.tmod b = a % b := Int.tmod_eq_emod_of_nonneg h0
      have hn := Int.emod_nonneg a h
      have hl := Int.emod_lt_of_pos a (show 0 < b by omega)
      obtain ⟨g, hg⟩ := gcd_some M m b (a % b) h1 hn (by omega)
      rw [beq_if, if_neg h, bif_neg h, hm, hg]
      exact ⟨g, rfl⟩
theorem valid_same (M : Nat) (r : Ratio) : ratio_Valid M r = ref01_Valid M r := by
  have hs : ∀ n, ratio_size M n = ref01_size M n := fun n => rfl
  simp only [ratio_Valid, b_ratio_Valid, ref01_Valid, b_ref01_Valid, ratio_common, b_ratio_common, ref01_gcd, gcd_l1, hs]
theorem valid_some (M : Nat) (hM : 1073741825 < M) (r : Ratio) : ∃ b, ref01_Valid M r = some b ∧ (b = true → 1 ≤ r.Den ∧ r.Den ≤ 1073741824 ∧ r.Num ≤ 1073741824) := by
  simp only [ref01_Valid, b_ref01_Valid]
  by_cases h1 : r.Den < 1
  · rw [bif_pos h1]; exact ⟨false, rfl, by simp⟩
  rw [bif_neg h1]
  by_cases h2 : r.Den > 1073741824
  · rw [bif_pos h2]; exact ⟨false, rfl, by simp⟩
  rw [bif_neg h2]
  by_cases h3 : r.Num < -1073741824
  · rw [bif_pos h3]; exact ⟨false, rfl, by simp⟩
  rw [bif_neg h3]
  by_cases h4 : r.Num > 1073741824
  · rw [bif_pos h4]; exact ⟨false, rfl, by simp⟩
  rw [bif_neg h4]
  have hd : ref01_size M r.Den = some r.Den := by
    simp only [ref01_size, b_ref01_size]
    rw [bif_neg (by omega), u64_ok (by omega)]
  obtain ⟨a, ha, ha0⟩ : ∃ a, ref01_size M r.Num = some a ∧ 0 ≤ a := by
    simp only [ref01_size, b_ref01_size, bif_if]
    split
    · exact ⟨_, rfl, by rw [u64_eq]; omega⟩
    · exact ⟨_, rfl, by rw [u64_eq]; omega⟩
  obtain ⟨g, hg⟩ := gcd_some M M a r.Den ha0 (by omega) (by omega)
  have hg' : ref01_gcd M a r.Den = some g := hg
  rw [ha, hd, Option.bind_some, Option.bind_some, hg', Option.bind_some]
  exact ⟨_, rfl, fun _ => by omega⟩
theorem check_same (M : Nat) (c : Clock) : sampler_Check M c = ref15_Check M c := by
  simp only [sampler_Check, b_sampler_Check, ref15_Check, b_ref15_Check, valid_same, Int.mul_comm c.T_Den 1048576]
theorem check_some (M : Nat) (hM : 1073741825 < M) (c : Clock) : ∃ v, ref15_Check M c = some v ∧ (v = 0 → 1 ≤ c.T_Den ∧ c.T_Den ≤ 1073741824 ∧ 4 * c.T_Den ≤ c.T_Num ∧ c.T_Num ≤ 1048576 * c.T_Den ∧ c.T_Num ≤ 1073741824) := by
  obtain ⟨b, hb, hb2⟩ := valid_some M hM (Ratio.mk c.T_Num c.T_Den)
  simp only [ref15_Check, b_ref15_Check, hb, Option.bind_some]
  cases b with
  | false => exact ⟨1, rfl, fun h => by omega⟩
  | true =>
    obtain ⟨d1, d2, d3⟩ := hb2 rfl
    dsimp only at d1 d2 d3
    rw [i64_ok (n := 4 * c.T_Den) (by omega), i64_ok (n := 1048576 * c.T_Den) (by omega)]
    simp only [Bool.not_true, Bool.cond_false]
    by_cases h1 : c.T_Num < 4 * c.T_Den
    · rw [bif_pos h1]; exact ⟨2, rfl, fun h => by omega⟩
    rw [bif_neg h1]
    by_cases h2 : c.T_Num > 1048576 * c.T_Den
    · rw [bif_pos h2]; exact ⟨2, rfl, fun h => by omega⟩
    rw [bif_neg h2]
    exact ⟨0, rfl, fun _ => by omega⟩
theorem lives_true (M : Nat) (hM : 200 < M) : law15_lives M = some true := by
  obtain ⟨m, rfl⟩ : ∃ m, M = m + 200 := ⟨M - 200, by omega⟩
  kernel_rfl
theorem enc_eq (m : Nat) (c : Clock) : sampler_Encode (m + 10) c [Item.mk 0 0 0 (bs []) 0] = (sampler_Check (m + 10) c).bind fun r0 => bif r0 != 0 then some ([], r0) else
    (sampler_machine_boundary (m + 10) (Sampler_machine.mk c.T_Num c.T_Den) 0).bind fun r1 => bif decide (r1 > 1099511627776) then some ([], 2) else some ([], 0) := by kernel_rfl
theorem enc_empty (M : Nat) (hM : 20 < M) (c : Clock) (v : Int) (hc : sampler_Check M c = some v) (hv : v = 0 → 1 ≤ c.T_Den) : sampler_Encode M c [Item.mk 0 0 0 (bs []) 0] = some ([], v) := by
  obtain ⟨m, rfl⟩ : ∃ m, M = m + 10 := ⟨M - 10, by omega⟩
  rw [enc_eq, hc, Option.bind_some, bne_if]
  by_cases h : v = 0
  · have hd := hv h
    have hb : sampler_machine_boundary (m + 10) (Sampler_machine.mk c.T_Num c.T_Den) 0 = some 0 := by
      simp only [sampler_machine_boundary, b_sampler_machine_boundary, sampler_floor, b_sampler_floor]
      rw [bif_neg (show ¬ c.T_Den = 0 by omega), bif_neg (show ¬ c.T_Den = 0 by omega), bif_neg (show ¬ c.T_Den = 0 by omega)]
      simp only [Int.zero_tdiv, Int.zero_tmod, Int.zero_mul, i64_ok (n := 0) (by omega), Int.zero_add, Option.bind_some]
    rw [if_pos h, hb, Option.bind_some, h]
    rfl
  · rw [if_neg h]
theorem SamplerChecks_true (c : Clock) (hc : wf_Clock c) : ∃ M, law15_SamplerChecks M c = some true := by
  obtain ⟨M, hM⟩ : ∃ M : Nat, 1073741825 < M := ⟨1073741826, by decide⟩
  refine ⟨M, ?_⟩
  obtain ⟨v, hr, hv⟩ := check_some M hM c
  have hs : sampler_Check M c = some v := by rw [check_same, hr]
  have he := enc_empty M (by omega) c v hs (fun h => (hv h).1)
  simp only [law15_SamplerChecks, b_law15_SamplerChecks, lives_true M (by omega), hs, hr, he, Option.bind_some, Bool.not_true, Bool.cond_false, beq_self_eq_true, Bool.cond_true]
  rfl
end Go.Abs.K
