/- RATIO: sums, products, order; the chapter's examples; RatioMakes, RatioSums, RatioProducts, RatioOrders. -/
import Derived.Test.YtjfndepkgahkiaaDoorP1
set_option linter.unusedVariables false
set_option linter.unusedSimpArgs false
namespace Go.Abs.K
open Go Go.Abs Go.Proofs

theorem mul_bound {x y : Int} {a b : Nat} (hx : x.natAbs ≤ a) (hy : y.natAbs ≤ b) : -((a * b : Nat) : Int) ≤ x * y ∧ x * y ≤ ((a * b : Nat) : Int) := by
  have h := Nat.mul_le_mul hx hy
  rw [← Int.natAbs_mul] at h
  omega
theorem prod60 {x y : Int} (hx : -1073741824 ≤ x ∧ x ≤ 1073741824) (hy : -1073741824 ≤ y ∧ y ≤ 1073741824) : -1152921504606846976 ≤ x * y ∧ x * y ≤ 1152921504606846976 := by
  have := mul_bound (x := x) (y := y) (a := 1073741824) (b := 1073741824) (by omega) (by omega)
  omega
theorem both_is (M : Nat) (hM : Big M) (a b : Ratio) : ratio_both M a b = some (decide (VR a ∧ VR b)) := by
  unfold ratio_both b_ratio_both
  rw [valid_is M hM, Option.bind_some, valid_is M hM]
  by_cases h1 : VR a <;> by_cases h2 : VR b <;> simp [h1, h2]
section
variable {a b : Ratio}
theorem VR.nb (h : VR a) : -1073741824 ≤ a.Num ∧ a.Num ≤ 1073741824 := ⟨h.n0, h.n1⟩
theorem VR.db (h : VR a) : -1073741824 ≤ a.Den ∧ a.Den ≤ 1073741824 := ⟨by have := h.d0; omega, h.d1⟩
def addR (a b : Ratio) : Ratio × Int := if VR a ∧ VR b then mk (a.Num * b.Den + b.Num * a.Den) (a.Den * b.Den) else (⟨0, 0⟩, 1)
def subR (a b : Ratio) : Ratio × Int := if VR a ∧ VR b then mk (a.Num * b.Den - b.Num * a.Den) (a.Den * b.Den) else (⟨0, 0⟩, 1)
def mulR (a b : Ratio) : Ratio × Int := if VR a ∧ VR b then mk (a.Num * b.Num) (a.Den * b.Den) else (⟨0, 0⟩, 1)
def divR (a b : Ratio) : Ratio × Int := if VR a ∧ VR b ∧ b.Num ≠ 0 then mk (a.Num * b.Den) (a.Den * b.Num) else (⟨0, 0⟩, 1)
theorem add_is (M : Nat) (hM : Big M) (a b : Ratio) : ratio_Add M a b = some (addR a b) ∧ ref01_Add M a b = some (addR a b) := by
  unfold addR
  by_cases h : VR a ∧ VR b
  · obtain ⟨h1, h2⟩ := h
    have p1 := prod60 h1.nb h2.db
    have p2 := prod60 h2.nb h1.db
    have p3 := prod60 h1.db h2.db
    have hm := make_is M hM (a.Num * b.Den + b.Num * a.Den) (a.Den * b.Den) (by unfold I64; omega) (by unfold I64; omega)
    rw [if_pos ⟨h1, h2⟩]
    constructor
    · unfold ratio_Add b_ratio_Add
      rw [both_is M hM, decide_eq_true ⟨h1, h2⟩, i64_ok (n := a.Num * b.Den) (by omega), i64_ok (n := b.Num * a.Den) (by omega), i64_ok (n := a.Num * b.Den + b.Num * a.Den) (by omega), i64_ok (n := a.Den * b.Den) (by omega), hm.1]
      rfl
    · unfold ref01_Add b_ref01_Add
      rw [rvalid_is M hM, decide_eq_true h1, rvalid_is M hM, decide_eq_true h2, i64_ok (n := a.Num * b.Den) (by omega), i64_ok (n := b.Num * a.Den) (by omega), i64_ok (n := a.Num * b.Den + b.Num * a.Den) (by omega), i64_ok (n := a.Den * b.Den) (by omega), hm.2]
      rfl
  · rw [if_neg h]
    constructor
    · unfold ratio_Add b_ratio_Add
      rw [both_is M hM, decide_eq_false h]
      rfl
    · unfold ref01_Add b_ref01_Add
      rw [rvalid_is M hM, rvalid_is M hM]
      by_cases h1 : VR a
      · have h2 : ¬ VR b := fun h2 => h ⟨h1, h2⟩
        simp [h1, h2]
      · simp [h1]
theorem sub_is (M : Nat) (hM : Big M) (a b : Ratio) : ratio_Sub M a b = some (subR a b) ∧ ref01_Sub M a b = some (subR a b) := by
  unfold subR
  by_cases h : VR a ∧ VR b
  · obtain ⟨h1, h2⟩ := h
    have p1 := prod60 h1.nb h2.db
    have p2 := prod60 h2.nb h1.db
    have p3 := prod60 h1.db h2.db
    have hm := make_is M hM (a.Num * b.Den - b.Num * a.Den) (a.Den * b.Den) (by unfold I64; omega) (by unfold I64; omega)
    rw [if_pos ⟨h1, h2⟩]
    constructor
    · unfold ratio_Sub b_ratio_Sub
      rw [both_is M hM, decide_eq_true ⟨h1, h2⟩, i64_ok (n := a.Num * b.Den) (by omega), i64_ok (n := b.Num * a.Den) (by omega), i64_ok (n := a.Num * b.Den - b.Num * a.Den) (by omega), i64_ok (n := a.Den * b.Den) (by omega), hm.1]
      rfl
    · unfold ref01_Sub b_ref01_Sub
      rw [rvalid_is M hM, decide_eq_true h1, rvalid_is M hM, decide_eq_true h2, i64_ok (n := a.Num * b.Den) (by omega), i64_ok (n := b.Num * a.Den) (by omega), i64_ok (n := a.Num * b.Den - b.Num * a.Den) (by omega), i64_ok (n := a.Den * b.Den) (by omega), hm.2]
      rfl
  · rw [if_neg h]
    constructor
    · unfold ratio_Sub b_ratio_Sub
      rw [both_is M hM, decide_eq_false h]
      rfl
    · unfold ref01_Sub b_ref01_Sub
      rw [rvalid_is M hM, rvalid_is M hM]
      by_cases h1 : VR a
      · have h2 : ¬ VR b := fun h2 => h ⟨h1, h2⟩
        simp [h1, h2]
      · simp [h1]
theorem mul_is (M : Nat) (hM : Big M) (a b : Ratio) : ratio_Mul M a b = some (mulR a b) ∧ ref01_Mul M a b = some (mulR a b) := by
  unfold mulR
  by_cases h : VR a ∧ VR b
  · obtain ⟨h1, h2⟩ := h
    have p1 := prod60 h1.nb h2.nb
    have p3 := prod60 h1.db h2.db
    have hm := make_is M hM (a.Num * b.Num) (a.Den * b.Den) (by unfold I64; omega) (by unfold I64; omega)
    rw [if_pos ⟨h1, h2⟩]
    constructor
    · unfold ratio_Mul b_ratio_Mul
      rw [both_is M hM, decide_eq_true ⟨h1, h2⟩, i64_ok (n := a.Num * b.Num) (by omega), i64_ok (n := a.Den * b.Den) (by omega), hm.1]
      rfl
    · unfold ref01_Mul b_ref01_Mul
      rw [rvalid_is M hM, decide_eq_true h1, rvalid_is M hM, decide_eq_true h2, i64_ok (n := a.Num * b.Num) (by omega), i64_ok (n := a.Den * b.Den) (by omega), hm.2]
      rfl
  · rw [if_neg h]
    constructor
    · unfold ratio_Mul b_ratio_Mul
      rw [both_is M hM, decide_eq_false h]
      rfl
    · unfold ref01_Mul b_ref01_Mul
      rw [rvalid_is M hM, rvalid_is M hM]
      by_cases h1 : VR a
      · have h2 : ¬ VR b := fun h2 => h ⟨h1, h2⟩
        simp [h1, h2]
      · simp [h1]
theorem VR.zero (h : VR b) (h0 : b.Num = 0) : b.Den = 1 := by
  have hg := h.g
  have := h.d0
  rw [h0, Int.natAbs_zero, Nat.gcd_zero_left] at hg
  omega
theorem div_is (M : Nat) (hM : Big M) (a b : Ratio) : ratio_Div M a b = some (divR a b) ∧ ref01_Div M a b = some (divR a b) := by
  unfold divR
  by_cases h : VR a ∧ VR b
  · obtain ⟨h1, h2⟩ := h
    have p1 := prod60 h1.nb h2.db
    have p3 := prod60 h1.db h2.nb
    have hm := make_is M hM (a.Num * b.Den) (a.Den * b.Num) (by unfold I64; omega) (by unfold I64; omega)
    by_cases h0 : b.Num = 0
    · rw [if_neg (fun h => h.2.2 h0)]
      constructor
      · unfold ratio_Div b_ratio_Div
        rw [both_is M hM, decide_eq_true ⟨h1, h2⟩, h0, h2.zero h0]
        rfl
      · unfold ref01_Div b_ref01_Div
        rw [rvalid_is M hM, decide_eq_true h1, rvalid_is M hM, decide_eq_true h2, h0]
        rfl
    · rw [if_pos ⟨h1, h2, h0⟩]
      have hb : (b.Num == 0) = false := by simpa using h0
      constructor
      · unfold ratio_Div b_ratio_Div
        rw [both_is M hM, decide_eq_true ⟨h1, h2⟩, i64_ok (n := a.Num * b.Den) (by omega), i64_ok (n := a.Den * b.Num) (by omega), hm.1, hb]
        rfl
      · unfold ref01_Div b_ref01_Div
        rw [rvalid_is M hM, decide_eq_true h1, rvalid_is M hM, decide_eq_true h2, i64_ok (n := a.Num * b.Den) (by omega), i64_ok (n := a.Den * b.Num) (by omega), hm.2, hb]
        rfl
  · rw [if_neg (fun hh => h ⟨hh.1, hh.2.1⟩)]
    constructor
    · unfold ratio_Div b_ratio_Div
      rw [both_is M hM, decide_eq_false h]
      rfl
    · unfold ref01_Div b_ref01_Div
      rw [rvalid_is M hM, rvalid_is M hM]
      by_cases h1 : VR a
      · have h2 : ¬ VR b := fun h2 => h ⟨h1, h2⟩
        simp [h1, h2]
      · simp [h1]
end
/-! ### Floors -/
theorem floor_is (M : Nat) (a b : Int) (hb : 1 ≤ b) (ha : -4611686018427387904 ≤ a ∧ a ≤ 4611686018427387904) : ratio_floor M a b = some (a / b) ∧ ref01_floor M a b = some (a / b) := by
  have key : ratio_floor M a b = some (a / b) := by
    have hn := Int.natAbs_tdiv_le_natAbs a b
    unfold ratio_floor b_ratio_floor
    rw [bif_neg (by omega), bif_neg (by omega), i64_ok (n := a.tdiv b) (by omega), i64_ok (n := a.tdiv b - 1) (by omega)]
    have e1 := Int.tdiv_eq_ediv (a := a) (b := b)
    have e2 := Int.tmod_eq_emod (a := a) (b := b)
    have m0 := Int.emod_nonneg a (show b ≠ 0 by omega)
    have m1 := Int.emod_lt_of_pos a (show 0 < b by omega)
    by_cases c : 0 ≤ a ∨ b ∣ a
    · rw [if_pos c] at e1 e2
      rw [bif_neg (by omega), e1]
      congr 1; omega
    · rw [if_neg c] at e1 e2
      rw [Int.sign_eq_one_of_pos (by omega)] at e1
      rw [bif_pos (by omega), e1]
      congr 1; omega
  exact ⟨key, key⟩
theorem ediv_bound {a b : Int} (hb : 1 ≤ b) : (a / b).natAbs ≤ a.natAbs := by
  rcases Int.lt_or_le a 0 with h | h
  · have h1 : a / b < 0 := Int.ediv_neg_of_neg_of_pos h (by omega)
    have h2 := Int.mul_ediv_add_emod a b
    have h3 := Int.emod_nonneg a (show b ≠ 0 by omega)
    have h4 := Int.emod_lt_of_pos a (show 0 < b by omega)
    have h5 : b * (a / b) ≤ a / b := by
      have := Int.mul_le_mul_of_nonpos_right hb (show a / b ≤ 0 by omega)
      omega
    have h6 : a - b < b * (a / b) := by omega
    have h7 : a ≤ a / b := by
      rcases Int.lt_or_le (a / b) a with h8 | h8
      · exfalso
        have h9 : b * (a / b) ≤ b * (a - 1) := Int.mul_le_mul_of_nonneg_left (by omega) (by omega)
        have h10 : b * (a - 1) = b * a - b := by rw [Int.mul_sub, Int.mul_one]
        have h11 : b * a ≤ 1 * a := Int.mul_le_mul_of_nonpos_right hb (by omega)
        omega
      · exact h8
    omega
  · have h1 := Int.ediv_nonneg h (show 0 ≤ b by omega)
    have h2 := Int.ediv_le_self b h
    omega
def scaleR (r : Ratio) (n : Int) : Int × Int := if VR r then (if n < -4294967296 ∨ n > 4294967296 then (0, 3) else (r.Num * n / r.Den, 0)) else (0, 1)
theorem scale_is (M : Nat) (hM : Big M) (r : Ratio) (n : Int) : ratio_Scale M r n = some (scaleR r n) ∧ ref01_Scale M r n = some (scaleR r n) := by
  unfold scaleR
  by_cases h : VR r
  · have hp : -4294967296 ≤ n → n ≤ 4294967296 → -4611686018427387904 ≤ r.Num * n ∧ r.Num * n ≤ 4611686018427387904 := fun n0 n1 => by
      have h0 := h.n0
      have h1 := h.n1
      have := mul_bound (x := r.Num) (y := n) (a := 1073741824) (b := 4294967296) (by omega) (by omega)
      omega
    rw [if_pos h]
    constructor
    · unfold ratio_Scale b_ratio_Scale
      rw [valid_is M hM, decide_eq_true h]
      simp only [Option.bind_some, Bool.not_true, Bool.cond_false]
      by_cases c1 : n < -4294967296
      · rw [bif_pos c1, if_pos (.inl c1)]
      rw [bif_neg c1]
      by_cases c2 : n > 4294967296
      · rw [bif_pos c2, if_pos (.inr c2)]
      have := hp (by omega) (by omega)
      rw [bif_neg c2, if_neg (by omega), i64_ok (n := r.Num * n) (by omega), (floor_is M _ _ h.d0 this).1]
      rfl
    · unfold ref01_Scale b_ref01_Scale
      rw [rvalid_is M hM, decide_eq_true h]
      simp only [Option.bind_some, Bool.not_true, Bool.cond_false]
      by_cases c1 : n < -4294967296
      · rw [bif_pos c1, if_pos (.inl c1)]
      rw [bif_neg c1]
      by_cases c2 : n > 4294967296
      · rw [bif_pos c2, if_pos (.inr c2)]
      have := hp (by omega) (by omega)
      rw [bif_neg c2, if_neg (by omega), i64_ok (n := r.Num * n) (by omega), (floor_is M _ _ h.d0 this).2]
      rfl
  · rw [if_neg h]
    constructor
    · unfold ratio_Scale b_ratio_Scale
      rw [valid_is M hM, decide_eq_false h]
      rfl
    · unfold ref01_Scale b_ref01_Scale
      rw [rvalid_is M hM, decide_eq_false h]
      rfl
theorem floorR_is (M : Nat) (hM : Big M) (r : Ratio) : ratio_Floor M r = some (if VR r then r.Num / r.Den else 0) ∧ ref01_Floor M r = some (if VR r then r.Num / r.Den else 0) := by
  by_cases h : VR r
  · have h0 := h.n0
    have h1 := h.n1
    rw [if_pos h]
    constructor
    · unfold ratio_Floor b_ratio_Floor
      rw [valid_is M hM, decide_eq_true h, (floor_is M _ _ h.d0 (by omega)).1]
      rfl
    · unfold ref01_Floor b_ref01_Floor
      rw [rvalid_is M hM, decide_eq_true h, (floor_is M _ _ h.d0 (by omega)).2]
      rfl
  · rw [if_neg h]
    constructor
    · unfold ratio_Floor b_ratio_Floor
      rw [valid_is M hM, decide_eq_false h]
      rfl
    · unfold ref01_Floor b_ref01_Floor
      rw [rvalid_is M hM, decide_eq_false h]
      rfl
theorem roundR_is (M : Nat) (hM : Big M) (r : Ratio) : ratio_Round M r = some (if VR r then (2 * r.Num + r.Den) / (2 * r.Den) else 0) ∧ ref01_Round M r = some (if VR r then (2 * r.Num + r.Den) / (2 * r.Den) else 0) := by
  by_cases h : VR r
  · have h0 := h.n0
    have h1 := h.n1
    have h2 := h.d0
    have h3 := h.d1
    rw [if_pos h]
    constructor
    · unfold ratio_Round b_ratio_Round
      rw [valid_is M hM, decide_eq_true h, i64_ok (n := 2 * r.Num) (by omega), i64_ok (n := 2 * r.Num + r.Den) (by omega), i64_ok (n := 2 * r.Den) (by omega), (floor_is M _ _ (by omega) (by omega)).1]
      rfl
    · unfold ref01_Round b_ref01_Round
      rw [rvalid_is M hM, decide_eq_true h, i64_ok (n := 2 * r.Num) (by omega), i64_ok (n := 2 * r.Num + r.Den) (by omega), i64_ok (n := 2 * r.Den) (by omega), (floor_is M _ _ (by omega) (by omega)).2]
      rfl
  · rw [if_neg h]
    constructor
    · unfold ratio_Round b_ratio_Round
      rw [valid_is M hM, decide_eq_false h]
      rfl
    · unfold ref01_Round b_ref01_Round
      rw [rvalid_is M hM, decide_eq_false h]
      rfl
/-! ### Lowest terms -/
theorem lowest_nat {a b c d : Nat} (h1 : Nat.gcd a b = 1) (h2 : Nat.gcd c d = 1) (h : a * d = c * b) (hb : 0 < b) (hd : 0 < d) : a = c ∧ b = d := by
  have d1 : b ∣ d := by
    have : b ∣ a * d := ⟨c, by rw [h, Nat.mul_comm]⟩
    exact Nat.Coprime.dvd_of_dvd_mul_left (show Nat.Coprime b a by rw [Nat.Coprime, Nat.gcd_comm]; exact h1) this
  have d2 : d ∣ b := by
    have : d ∣ c * b := ⟨a, by rw [← h, Nat.mul_comm]⟩
    exact Nat.Coprime.dvd_of_dvd_mul_left (show Nat.Coprime d c by rw [Nat.Coprime, Nat.gcd_comm]; exact h2) this
  have e : b = d := Nat.dvd_antisymm d1 d2
  subst e
  exact ⟨Nat.eq_of_mul_eq_mul_right hb h, rfl⟩
theorem lowest {a b : Ratio} (ha : VR a) (hb : VR b) (h : a.Num * b.Den = b.Num * a.Den) : a.Num = b.Num ∧ a.Den = b.Den := by
  have a0 := ha.d0
  have b0 := hb.d0
  have h1 : a.Num.natAbs * b.Den.natAbs = b.Num.natAbs * a.Den.natAbs := by rw [← Int.natAbs_mul, ← Int.natAbs_mul, h]
  obtain ⟨e1, e2⟩ := lowest_nat ha.g hb.g h1 (by omega) (by omega)
  have e3 : a.Den = b.Den := by omega
  rw [e3] at h
  exact ⟨Int.eq_of_mul_eq_mul_right (by omega) h, e3⟩
def cmpR (a b : Ratio) : Int := if VR a ∧ VR b then (if a.Num * b.Den = b.Num * a.Den then 0 else if a.Num * b.Den < b.Num * a.Den then -1 else 1) else 0
theorem cmp_is (M : Nat) (hM : Big M) (a b : Ratio) : ratio_Cmp M a b = some (cmpR a b) ∧ ref01_Cmp M a b = some (cmpR a b) := by
  unfold cmpR
  by_cases h : VR a ∧ VR b
  · obtain ⟨h1, h2⟩ := h
    have p1 := prod60 h1.nb h2.db
    have p2 := prod60 h2.nb h1.db
    rw [if_pos ⟨h1, h2⟩]
    constructor
    · unfold ratio_Cmp b_ratio_Cmp
      rw [both_is M hM, decide_eq_true ⟨h1, h2⟩, i64_ok (n := a.Num * b.Den) (by omega), i64_ok (n := b.Num * a.Den) (by omega)]
      simp only [Option.bind_some, Bool.not_true, Bool.cond_false]
      by_cases c : a.Num * b.Den = b.Num * a.Den
      · obtain ⟨e1, e2⟩ := lowest h1 h2 c
        rw [if_pos c, e1, e2]
        simp
      · have : (a.Num == b.Num && (a.Den == b.Den && true)) = false := by
          rw [Bool.eq_false_iff]
          intro hh
          simp only [Bool.and_true, Bool.and_eq_true, beq_iff_eq] at hh
          apply c
          rw [hh.1, hh.2]
        rw [if_neg c, this, Bool.cond_false, bif_if]
        split <;> rfl
    · unfold ref01_Cmp b_ref01_Cmp
      rw [rvalid_is M hM, decide_eq_true h1, rvalid_is M hM, decide_eq_true h2, i64_ok (n := a.Num * b.Den) (by omega), i64_ok (n := b.Num * a.Den) (by omega)]
      simp only [Option.bind_some, Bool.not_true, Bool.cond_false, beq_if, bif_if]
      split
      · rfl
      · split <;> rfl
  · rw [if_neg h]
    constructor
    · unfold ratio_Cmp b_ratio_Cmp
      rw [both_is M hM, decide_eq_false h]
      rfl
    · unfold ref01_Cmp b_ref01_Cmp
      rw [rvalid_is M hM, rvalid_is M hM]
      by_cases h1 : VR a
      · have h2 : ¬ VR b := fun h2 => h ⟨h1, h2⟩
        simp [h1, h2]
      · simp [h1]
/-! ### The chapter's examples -/
theorem itoa_m3 : Lib.itoa (-3) = [45, 51] := by
  unfold Lib.itoa
  rw [if_pos (by omega)]
  show 45 :: Lib.decDigits 3 = _
  rw [Lib.decDigits_one (by omega)]
  rfl
theorem itoa_4 : Lib.itoa 4 = [52] := by
  unfold Lib.itoa
  rw [if_neg (by omega)]
  show Lib.decDigits 4 = _
  rw [Lib.decDigits_one (by omega)]
  rfl
theorem awake_true (M : Nat) (hM : Big M) : law01_awake M = some true := by
  obtain ⟨m, rfl⟩ : ∃ m, M = m + 100 := ⟨M - 100, by have := hM.h; omega⟩
  have e0 : ratio_Make (m + 100) 6 (-8) = some (⟨-3, 4⟩, 0) := by kernel_rfl
  have e1 : ratio_Scale (m + 100) ⟨-3, 4⟩ 5 = some (-4, 0) := by kernel_rfl
  have e2 : ratio_Parse (m + 100) (bs [50, 47, 52]) = some (⟨0, 0⟩, 4) := by kernel_rfl
  have e3 : ratio_Parse (m + 100) (bs [55]) = some (⟨7, 1⟩, 0) := by kernel_rfl
  have v0 : ratio_Valid (m + 100) ⟨-3, 4⟩ = some true := by kernel_rfl
  have t1 : strconv_Itoa (m + 100) (-3) = some (bs [45, 51]) := by
    unfold strconv_Itoa
    rw [itoa_m3, decide_eq_true (by omega), decide_eq_true (by omega)]
    rfl
  have t2 : strconv_Itoa (m + 100) 4 = some (bs [52]) := by
    unfold strconv_Itoa
    rw [itoa_4, decide_eq_true (by omega), decide_eq_true (by omega)]
    rfl
  have e4 : ratio_Text (m + 100) ⟨-3, 4⟩ = some (bs [45, 51, 47, 52]) := by
    unfold ratio_Text b_ratio_Text
    rw [v0]
    simp only [Option.bind_some, Bool.not_true, Bool.cond_false, t1, t2]
    kernel_rfl
  have e5 : ratio_Floor (m + 100) ⟨-3, 4⟩ = some (-1) := by kernel_rfl
  have e6 : ratio_Round (m + 100) ⟨1, 2⟩ = some 1 := by kernel_rfl
  have e7 : ratio_Cmp (m + 100) ⟨-3, 4⟩ ⟨1, 2⟩ = some (-1) := by kernel_rfl
  unfold law01_awake b_law01_awake
  rw [e0]
  simp only [Option.bind_some]
  rw [e1]
  simp only [Option.bind_some]
  rw [e2]
  simp only [Option.bind_some]
  rw [e3]
  simp only [Option.bind_some]
  rw [e4]
  simp only [Option.bind_some]
  rw [e5]
  simp only [Option.bind_some]
  rw [e6]
  simp only [Option.bind_some]
  rw [e7]
  simp only [Option.bind_some, bne_self_eq_false, Bool.cond_false, beq_self_eq_true, Bool.and_true, Bool.cond_true]
theorem big0 : Big 9223372036854775901 := ⟨by omega⟩
theorem RatioMakes_true (n d : Int) (q0 : IntKind.i64.min ≤ n ∧ n ≤ IntKind.i64.max) (q1 : IntKind.i64.min ≤ d ∧ d ≤ IntKind.i64.max) : ∃ M, law01_RatioMakes M n d = some true := by
  refine ⟨9223372036854775901, ?_⟩
  have hm := make_is 9223372036854775901 big0 n d (by rw [i64_min, i64_max] at q0; exact q0) (by rw [i64_min, i64_max] at q1; exact q1)
  unfold law01_RatioMakes b_law01_RatioMakes
  simp only [hm.1, hm.2, Option.bind_some, beq_self_eq_true, Bool.and_true, Bool.cond_true, awake_true _ big0]
theorem RatioSums_true (a b : Ratio) (q0 : wf_Ratio a) (q1 : wf_Ratio b) : ∃ M, law01_RatioSums M a b = some true := by
  refine ⟨9223372036854775901, ?_⟩
  have h1 := add_is 9223372036854775901 big0 a b
  have h2 := sub_is 9223372036854775901 big0 a b
  unfold law01_RatioSums b_law01_RatioSums
  simp only [h1.1, h1.2, h2.1, h2.2, Option.bind_some, beq_self_eq_true, Bool.and_true, Bool.cond_true, awake_true _ big0]
theorem RatioProducts_true (a b : Ratio) (q0 : wf_Ratio a) (q1 : wf_Ratio b) : ∃ M, law01_RatioProducts M a b = some true := by
  refine ⟨9223372036854775901, ?_⟩
  have h1 := mul_is 9223372036854775901 big0 a b
  have h2 := div_is 9223372036854775901 big0 a b
  unfold law01_RatioProducts b_law01_RatioProducts
  simp only [h1.1, h1.2, h2.1, h2.2, Option.bind_some, beq_self_eq_true, Bool.and_true, Bool.cond_true, awake_true _ big0]
theorem RatioOrders_true (a b : Ratio) (n : Int) (q0 : wf_Ratio a) (q1 : wf_Ratio b) (q2 : IntKind.i64.min ≤ n ∧ n ≤ IntKind.i64.max) : ∃ M, law01_RatioOrders M a b n = some true := by
  refine ⟨9223372036854775901, ?_⟩
  have h1 := scale_is 9223372036854775901 big0 a n
  have h2 := cmp_is 9223372036854775901 big0 a b
  have h3 := floorR_is 9223372036854775901 big0 a
  have h4 := roundR_is 9223372036854775901 big0 a
  unfold law01_RatioOrders b_law01_RatioOrders
  simp only [h1.1, h1.2, h2.1, h2.2, h3.1, h3.2, h4.1, h4.2, Option.bind_some, beq_self_eq_true, Bool.and_true, Bool.cond_true, awake_true _ big0]
end Go.Abs.K
