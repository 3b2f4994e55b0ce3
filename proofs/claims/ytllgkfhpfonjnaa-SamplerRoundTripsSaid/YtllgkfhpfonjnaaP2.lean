/- SAMPLER: what a step gives, the program's and the document's; decoding. -/
import Derived.Test.YtllgkfhpfonjnaaP1
import Derived.Test.YtllgkfhpfonjnaaE1
set_option linter.unusedVariables false
set_option linter.unusedSimpArgs false
namespace Go.Abs.K
open Go Go.Abs Go.Proofs

/-- The bit time n / d is valid. -/
def OkR (n d : Int) : Prop := 1 ≤ d ∧ d ≤ 1073741824 ∧ 4 * d ≤ n ∧ n ≤ 1048576 * d ∧ n ≤ 1073741824
structure Cf (M : Nat) (c : Clock) (v : Int) : Prop where
  p : sampler_Check M c = some v
  r : ref15_Check M c = some v
  ok : v = 0 → OkR c.T_Num c.T_Den
theorem cf_some (M : Nat) (hM : 1073741825 < M) (c : Clock) : ∃ v, Cf M c v := by
  obtain ⟨v, h1, h2⟩ := check_some M hM c
  exact ⟨v, (check_same M c).trans h1, h1, fun h => h2 h⟩
theorem mul_bounds (x d k : Int) (hx : 0 ≤ x) (hd : 0 ≤ d) : 0 ≤ x * d ∧ (x ≤ k → x * d ≤ k * d) ∧ (k ≤ x → k * d ≤ x * d) :=
  ⟨Int.mul_nonneg hx hd, fun h => Int.mul_le_mul_of_nonneg_right h hd, fun h => Int.mul_le_mul_of_nonneg_right h hd⟩
/-! ### Floors -/
theorem floor_val (x num den : Int) (hx : 0 ≤ x) (hn : 0 ≤ num) (hd : 0 < den) : x / den * num + x % den * num / den = x * num / den ∧ 0 ≤ x / den * num ∧ x / den * num ≤ x * num / den ∧ 0 ≤ x % den * num ∧ x % den * num ≤ den * num ∧ 0 ≤ x % den * num / den ∧ x % den * num / den ≤ x * num / den := by
  have e1 := Int.mul_ediv_add_emod x den
  have r0 := Int.emod_nonneg x (show den ≠ 0 by omega)
  have r1 := Int.emod_lt_of_pos x hd
  have q0 := Int.ediv_nonneg hx (show 0 ≤ den by omega)
  have e2 : x * num = x % den * num + den * (x / den * num) := by
    rw [← Int.mul_assoc, ← Int.add_mul]
    congr 1; omega
  have e3 : x * num / den = x % den * num / den + x / den * num := by
    rw [e2, Int.add_mul_ediv_left _ _ (by omega)]
  have p1 : 0 ≤ x % den * num := Int.mul_nonneg r0 hn
  have p2 : 0 ≤ x % den * num / den := Int.ediv_nonneg p1 (by omega)
  have p3 : 0 ≤ x / den * num := Int.mul_nonneg q0 hn
  have p4 : x % den * num ≤ den * num := Int.mul_le_mul_of_nonneg_right (by omega) hn
  exact ⟨by omega, p3, by omega, p1, p4, p2, by omega⟩
theorem floor_is (M : Nat) (x num den : Int) (hx : 0 ≤ x ∧ x ≤ 4611686018427387904) (hn : 0 ≤ num) (hd : 0 < den) (h1 : den * num ≤ 4611686018427387904) (h2 : x * num / den ≤ 4611686018427387904) : sampler_floor M x num den = some (x * num / den) ∧ ref15_mul M x num den = some (x * num / den) := by
  obtain ⟨e, p1, p2, p3, p4, p5, p6⟩ := floor_val x num den hx.1 hn hd
  have q0 := Int.ediv_nonneg hx.1 (show 0 ≤ den by omega)
  have q1 : x / den ≤ x := Int.ediv_le_self _ hx.1
  have hd' : ¬ den = 0 := by omega
  simp only [sampler_floor, b_sampler_floor, ref15_mul, b_ref15_mul, bif_neg hd', Int.tdiv_eq_ediv_of_nonneg hx.1, Int.tmod_eq_emod_of_nonneg hx.1]
  rw [i64_ok (n := x / den) (by omega), i64_ok (n := x / den * num) (by omega), i64_ok (n := x % den * num) (by omega), Int.tdiv_eq_ediv_of_nonneg p3, i64_ok (n := x % den * num / den) (by omega), i64_ok (by omega), e]
  exact ⟨rfl, rfl⟩
def bd (n d k : Int) : Int := k * n / d
def sm (n d k : Int) : Int := (2 * k + 1) * n / (2 * d)
theorem bd_spec (n d k : Int) (h : OkR n d) (hk : 0 ≤ k) : 0 ≤ bd n d k ∧ d * bd n d k ≤ k * n ∧ k * n < d * bd n d k + d := by
  unfold OkR at h
  unfold bd
  have e1 := Int.mul_ediv_add_emod (k * n) d
  have e2 := Int.emod_nonneg (k * n) (show d ≠ 0 by omega)
  have e3 := Int.emod_lt_of_pos (k * n) (show 0 < d by omega)
  exact ⟨Int.ediv_nonneg (Int.mul_nonneg hk (by omega)) (by omega), by omega, by omega⟩
theorem sm_spec (n d k : Int) (h : OkR n d) (hk : 0 ≤ k) : 0 ≤ sm n d k ∧ 2 * (d * sm n d k) ≤ 2 * (k * n) + n ∧ 2 * (k * n) + n < 2 * (d * sm n d k) + 2 * d := by
  unfold OkR at h
  unfold sm
  have e0 : (2 * k + 1) * n = 2 * (k * n) + n := by rw [Int.add_mul, Int.one_mul, Int.mul_assoc]
  rw [e0]
  have h0 : 0 ≤ k * n := Int.mul_nonneg hk (by omega)
  have e1 := Int.mul_ediv_add_emod (2 * (k * n) + n) (2 * d)
  have e2 := Int.emod_nonneg (2 * (k * n) + n) (show 2 * d ≠ 0 by omega)
  have e3 := Int.emod_lt_of_pos (2 * (k * n) + n) (show 0 < 2 * d by omega)
  rw [Int.mul_assoc] at e1
  exact ⟨Int.ediv_nonneg (by omega) (by omega), by omega, by omega⟩
theorem le_of_mul (d a b : Int) (hd : 0 < d) (h : d * a < d * b + d) : a ≤ b := by
  by_cases c : a ≤ b
  · exact c
  · exfalso
    have : d * (b + 1) ≤ d * a := Int.mul_le_mul_of_nonneg_left (by omega) (by omega)
    rw [Int.mul_add, Int.mul_one] at this
    omega
theorem bd_le (n d k : Int) (h : OkR n d) (hk : 0 ≤ k) : bd n d k ≤ 1048576 * k := by
  have h1 := bd_spec n d k h hk
  unfold OkR at h
  refine le_of_mul d _ _ (by omega) ?_
  have e : d * (1048576 * k) = 1048576 * d * k := by rw [← Int.mul_assoc, Int.mul_comm d]
  have h2 : k * n ≤ k * (1048576 * d) := Int.mul_le_mul_of_nonneg_left (by omega) hk
  rw [Int.mul_comm k (1048576 * d)] at h2
  omega
theorem sm_step (n d k : Int) (h : OkR n d) (hk : 0 ≤ k) : sm n d k + 1 ≤ sm n d (k + 1) := by
  have h1 := sm_spec n d k h hk
  have h2 := sm_spec n d (k + 1) h (by omega)
  rw [Int.add_mul, Int.one_mul] at h2
  unfold OkR at h
  by_cases c : sm n d k + 1 ≤ sm n d (k + 1)
  · exact c
  · exfalso
    have : d * sm n d (k + 1) ≤ d * sm n d k := Int.mul_le_mul_of_nonneg_left (by omega) (by omega)
    omega
theorem bd_sm (n d k : Int) (h : OkR n d) (hk : 0 ≤ k) : bd n d k + 1 ≤ sm n d k ∧ sm n d k + 1 ≤ bd n d (k + 1) := by
  have h1 := sm_spec n d k h hk
  have h2 := bd_spec n d k h hk
  have h3 := bd_spec n d (k + 1) h (by omega)
  rw [Int.add_mul, Int.one_mul] at h3
  unfold OkR at h
  constructor
  · by_cases c : bd n d k + 1 ≤ sm n d k
    · exact c
    · exfalso
      have : d * sm n d k ≤ d * bd n d k := Int.mul_le_mul_of_nonneg_left (by omega) (by omega)
      omega
  · by_cases c : sm n d k + 1 ≤ bd n d (k + 1)
    · exact c
    · exfalso
      have : d * bd n d (k + 1) ≤ d * sm n d k := Int.mul_le_mul_of_nonneg_left (by omega) (by omega)
      omega
theorem boundary_is (M : Nat) (n d k : Int) (h : OkR n d) (hk : 0 ≤ k ∧ k ≤ 4000000000000) : sampler_machine_boundary M ⟨n, d⟩ k = some (bd n d k) ∧ ref15_Boundary M ⟨n, d⟩ k = some (bd n d k) := by
  have h1 := bd_le n d k h hk.1
  have hp := mul_bounds d n 1073741824 (by unfold OkR at h; omega) (by unfold OkR at h; omega)
  have h2 := hp.2.1 (by unfold OkR at h; omega)
  have hf := floor_is M k n d ⟨hk.1, by omega⟩ (by unfold OkR at h; omega) (by unfold OkR at h; omega) (by unfold OkR at h; omega) (by unfold bd at h1; omega)
  simp only [sampler_machine_boundary, b_sampler_machine_boundary, ref15_Boundary, b_ref15_Boundary, hf.1, hf.2, Option.bind_some]
  exact ⟨rfl, rfl⟩
theorem sample_is (M : Nat) (n d k : Int) (h : OkR n d) (hk : 0 ≤ k ∧ k ≤ 3500000000000) : sampler_machine_sample M ⟨n, d⟩ k = some (sm n d k) ∧ ref15_Sample M ⟨n, d⟩ k = some (sm n d k) := by
  have h1 := bd_le n d (k + 1) h (by omega)
  have h2 := bd_sm n d k h hk.1
  have hp := mul_bounds (2 * d) n 2147483648 (by unfold OkR at h; omega) (by unfold OkR at h; omega)
  have h3 := hp.2.1 (by unfold OkR at h; omega)
  have hf := floor_is M (2 * k + 1) n (2 * d) ⟨by omega, by omega⟩ (by unfold OkR at h; omega) (by unfold OkR at h; omega) (by unfold OkR at h; omega) (by unfold sm at h2; omega)
  simp only [sampler_machine_sample, b_sampler_machine_sample, ref15_Sample, b_ref15_Sample]
  rw [i64_ok (n := 2 * k) (by omega), i64_ok (n := 2 * k + 1) (by omega), i64_ok (n := 2 * d) (by unfold OkR at h; omega), hf.1, hf.2]
  exact ⟨rfl, rfl⟩
/-! ### Irregular changes -/
def near (n d x : Int) : Int := if bd n d (x * d / n + 1) - x < x - bd n d (x * d / n) then bd n d (x * d / n + 1) - x else x - bd n d (x * d / n)
def irr (n d x : Int) : Prop := 4 * near n d x * d > n
instance (n d x : Int) : Decidable (irr n d x) := by unfold irr; infer_instance
theorem irr_k (n d x : Int) (h : OkR n d) (hx : 0 ≤ x) : 0 ≤ x * d / n ∧ x * d / n ≤ x ∧ bd n d (x * d / n) ≤ x ∧ x ≤ bd n d (x * d / n + 1) ∧ bd n d (x * d / n + 1) ≤ bd n d (x * d / n) + 1048577 := by
  have hn : 0 < n := by unfold OkR at h; omega
  have hd : 0 < d := by unfold OkR at h; omega
  have hxd : 0 ≤ x * d := Int.mul_nonneg hx (by omega)
  have e1 := Int.mul_ediv_add_emod (x * d) n
  have e2 := Int.emod_nonneg (x * d) (show n ≠ 0 by omega)
  have e3 := Int.emod_lt_of_pos (x * d) hn
  have k0 : 0 ≤ x * d / n := Int.ediv_nonneg hxd (by omega)
  generalize x * d / n = k at *
  have b1 := bd_spec n d k h k0
  have b2 := bd_spec n d (k + 1) h (by omega)
  rw [Int.add_mul, Int.one_mul] at b2
  have e4 : n * k = k * n := Int.mul_comm n k
  have e5 : x * d = d * x := Int.mul_comm x d
  refine ⟨k0, ?_, ?_, ?_, ?_⟩
  · refine le_of_mul d _ _ hd ?_
    have : k * d ≤ k * n := Int.mul_le_mul_of_nonneg_left (by unfold OkR at h; omega) k0
    rw [Int.mul_comm k d] at this
    omega
  · exact le_of_mul d _ _ hd (by omega)
  · exact le_of_mul d _ _ hd (by omega)
  · refine le_of_mul d _ _ hd ?_
    unfold OkR at h
    rw [Int.mul_add]
    omega
theorem near_bounds (n d x : Int) (h : OkR n d) (hx : 0 ≤ x) : 0 ≤ near n d x ∧ near n d x ≤ 1048577 := by
  obtain ⟨h1, h2, h3, h4, h5⟩ := irr_k n d x h hx
  unfold near
  split <;> omega
theorem irregular_is (M : Nat) (n d x : Int) (h : OkR n d) (hx : 0 ≤ x ∧ x ≤ 1099511627776) : sampler_machine_irregular M ⟨n, d⟩ x = some (decide (irr n d x)) ∧ ref15_irregular M ⟨n, d⟩ x = some (decide (irr n d x)) := by
  obtain ⟨h1, h2, h3, h4, h5⟩ := irr_k n d x h hx.1
  have hnb := near_bounds n d x h hx.1
  have hp := mul_bounds n d 1073741824 (by unfold OkR at h; omega) (by unfold OkR at h; omega)
  have h6 := hp.2.1 (by unfold OkR at h; omega)
  have hm := mul_bounds (4 * near n d x) d 4194308 (by omega) (by unfold OkR at h; omega)
  have hm2 := hm.2.1 (by omega)
  have hf := floor_is M x d n ⟨hx.1, by omega⟩ (by unfold OkR at h; omega) (by unfold OkR at h; omega) (by unfold OkR at h; omega) (by omega)
  have hnd : near n d x = if bd n d (x * d / n + 1) - x < x - bd n d (x * d / n) then bd n d (x * d / n + 1) - x else x - bd n d (x * d / n) := rfl
  have hirr : irr n d x = (4 * near n d x * d > n) := rfl
  simp only [sampler_machine_irregular, b_sampler_machine_irregular, ref15_irregular, b_ref15_irregular, hf.1, hf.2, Option.bind_some]
  generalize hk : x * d / n = k at *
  have b0 := boundary_is M n d k h ⟨h1, by omega⟩
  have b1 := boundary_is M n d (k + 1) h ⟨by omega, by omega⟩
  have hb0 := bd_spec n d k h h1
  rw [i64_ok (n := k + 1) (by omega), b0.1, b0.2, b1.1, b1.2]
  simp only [Option.bind_some]
  rw [i64_ok (n := bd n d (k + 1) - x) (by omega), i64_ok (n := x - bd n d k) (by omega)]
  have hmin : (if bd n d (k + 1) - x < x - bd n d k then bd n d (k + 1) - x else x - bd n d k) = near n d x := hnd.symm
  constructor
  · rw [hmin, i64_ok (n := 0 - near n d x) (by omega)]
    have hmax : (if near n d x < 0 - near n d x then 0 - near n d x else near n d x) = near n d x := if_neg (by omega)
    by_cases c : k > 0
    · have b2 := boundary_is M n d (k - 1) h ⟨by omega, by omega⟩
      have hb2 := bd_spec n d (k - 1) h (by omega)
      have hle : bd n d (k - 1) ≤ bd n d k := by
        rw [Int.sub_mul, Int.one_mul] at hb2
        refine le_of_mul d _ _ (by unfold OkR at h; omega) ?_
        unfold OkR at h; omega
      rw [bif_pos c, i64_ok (n := k - 1) (by omega), b2.1, Option.bind_some, i64_ok (n := x - bd n d (k - 1)) (by omega)]
      have hge : ¬ x - bd n d (k - 1) < near n d x := by
        rw [hnd]; split <;> omega
      rw [if_neg hge, i64_ok (n := 0 - near n d x) (by omega), hmax, i64_ok (n := 4 * near n d x) (by omega), i64_ok (by unfold OkR at h; omega)]
      simp only [hirr]
    · rw [bif_neg c, hmax, i64_ok (n := 4 * near n d x) (by omega), i64_ok (by unfold OkR at h; omega)]
      simp only [hirr]
  · by_cases c : bd n d (k + 1) - x < x - bd n d k
    · rw [if_pos c] at hmin
      rw [bif_pos c, hmin, i64_ok (n := 4 * near n d x) (by omega), i64_ok (by unfold OkR at h; omega)]
      simp only [hirr]
    · rw [if_neg c] at hmin
      rw [bif_neg c, hmin, i64_ok (n := 4 * near n d x) (by omega), i64_ok (by unfold OkR at h; omega)]
      simp only [hirr]
end Go.Abs.K
