/- RATIO: the greatest common divisor, which ratios are valid, the ratio of two numbers. -/
import Derived.Test.YtjfndepkgahkiaaDoorF1
import Derived.Test.YtjfndepkgahkiaaDoorA33
import Derived.Test.YtjfndepkgahkiaaDoorA34
set_option linter.unusedVariables false
set_option linter.unusedSimpArgs false
namespace Go.Abs.K
open Go Go.Abs Go.Proofs

def I64 (n : Int) : Prop := -9223372036854775808 ≤ n ∧ n ≤ 9223372036854775807
theorem size_is (M : Nat) (n : Int) (h : I64 n) : ratio_size M n = some (n.natAbs : Int) := by
  unfold I64 at h
  unfold ratio_size b_ratio_size
  by_cases c : n < 0
  · rw [bif_pos c, i64_ok (n := n + 1) (by omega), i64_ok (n := 0 - (n + 1)) (by omega), u64_ok (n := 0 - (n + 1)) (by omega), u64_ok (by omega)]
    congr 1; omega
  · rw [bif_neg c, u64_ok (by omega)]
    congr 1; omega
theorem rsize_is (M : Nat) (n : Int) (h : I64 n) : ref01_size M n = some (n.natAbs : Int) := size_is M n h
theorem tmod_nat (a b : Nat) : (a : Int).tmod (b : Int) = ((a % b : Nat) : Int) := by
  rw [Int.tmod_eq_emod_of_nonneg (by omega)]; omega
theorem tdiv_nat (a b : Nat) : (a : Int).tdiv (b : Int) = ((a / b : Nat) : Int) := by
  rw [Int.tdiv_eq_ediv_of_nonneg (by omega)]; omega
theorem common_l (M : Nat) : ∀ (m a b : Nat), b < m → ratio_common_l1 M m (a : Int) (b : Int) = some (Nat.gcd a b : Int)
  | 0, a, b, h => by omega
  | m + 1, a, b, h => by
    simp only [ratio_common_l1, b_ratio_common_l1, bne_if]
    by_cases c : b = 0
    · subst c
      rw [if_pos (by omega), Nat.gcd_zero_right]
    · rw [if_neg (by omega), bif_neg (by omega), tmod_nat]
      have hlt : a % b < b := Nat.mod_lt _ (by omega)
      rw [common_l M m b (a % b) (by omega)]
      rw [Nat.gcd_comm a b, Nat.gcd_rec b a, Nat.gcd_comm b (a % b)]
theorem common_is (M a b : Nat) (h : b < M) : ratio_common M (a : Int) (b : Int) = some (Nat.gcd a b : Int) := common_l M M a b h
theorem gcd_l (M : Nat) : ∀ (m a b : Nat), b < m → ref01_gcd_at M m (a : Int) (b : Int) = some (Nat.gcd a b : Int)
  | 0, a, b, h => by omega
  | m + 1, a, b, h => by
    simp only [ref01_gcd_at, b_ref01_gcd, beq_if]
    by_cases c : b = 0
    · subst c
      rw [if_pos (by omega), Nat.gcd_zero_right]
    · rw [if_neg (by omega), bif_neg (by omega), tmod_nat]
      have hlt : a % b < b := Nat.mod_lt _ (by omega)
      rw [gcd_l M m b (a % b) (by omega), Option.bind_some]
      rw [Nat.gcd_comm a b, Nat.gcd_rec b a, Nat.gcd_comm b (a % b)]
theorem gcd_is (M a b : Nat) (h : b < M) : ref01_gcd M (a : Int) (b : Int) = some (Nat.gcd a b : Int) := gcd_l M M a b h
structure Big (M : Nat) : Prop where
  h : 9223372036854775900 < M
/-- A valid ratio. -/
structure VR (r : Ratio) : Prop where
  d0 : 1 ≤ r.Den
  d1 : r.Den ≤ 1073741824
  n0 : -1073741824 ≤ r.Num
  n1 : r.Num ≤ 1073741824
  g : Nat.gcd r.Num.natAbs r.Den.natAbs = 1
theorem VR_iff (r : Ratio) : VR r ↔ (1 ≤ r.Den ∧ r.Den ≤ 1073741824 ∧ -1073741824 ≤ r.Num ∧ r.Num ≤ 1073741824 ∧ Nat.gcd r.Num.natAbs r.Den.natAbs = 1) := ⟨fun h => ⟨h.d0, h.d1, h.n0, h.n1, h.g⟩, fun h => ⟨h.1, h.2.1, h.2.2.1, h.2.2.2.1, h.2.2.2.2⟩⟩
instance (r : Ratio) : Decidable (VR r) := decidable_of_iff _ (VR_iff r).symm
theorem valid_is (M : Nat) (hM : Big M) (r : Ratio) : ratio_Valid M r = some (decide (VR r)) := by
  have hM := hM.h
  unfold ratio_Valid b_ratio_Valid
  by_cases h1 : r.Den < 1
  · rw [bif_pos h1, decide_eq_false (fun h => by have := h.d0; omega)]
  rw [bif_neg h1]
  by_cases h2 : r.Den > 1073741824
  · rw [bif_pos h2, decide_eq_false (fun h => by have := h.d1; omega)]
  rw [bif_neg h2]
  by_cases h3 : r.Num < -1073741824
  · rw [bif_pos h3, decide_eq_false (fun h => by have := h.n0; omega)]
  rw [bif_neg h3]
  by_cases h4 : r.Num > 1073741824
  · rw [bif_pos h4, decide_eq_false (fun h => by have := h.n1; omega)]
  rw [bif_neg h4, size_is M _ (by unfold I64; omega), Option.bind_some, size_is M _ (by unfold I64; omega), Option.bind_some, common_is M _ _ (by omega), Option.bind_some]
  by_cases h5 : Nat.gcd r.Num.natAbs r.Den.natAbs = 1
  · rw [decide_eq_true (⟨by omega, by omega, by omega, by omega, h5⟩ : VR r), h5]; rfl
  · rw [decide_eq_false (fun h => h5 h.g)]
    congr 1
    simp only [beq_eq_false_iff_ne, ne_eq]
    omega
theorem rvalid_is (M : Nat) (hM : Big M) (r : Ratio) : ref01_Valid M r = some (decide (VR r)) := by
  have hM := hM.h
  unfold ref01_Valid b_ref01_Valid
  by_cases h1 : r.Den < 1
  · rw [bif_pos h1, decide_eq_false (fun h => by have := h.d0; omega)]
  rw [bif_neg h1]
  by_cases h2 : r.Den > 1073741824
  · rw [bif_pos h2, decide_eq_false (fun h => by have := h.d1; omega)]
  rw [bif_neg h2]
  by_cases h3 : r.Num < -1073741824
  · rw [bif_pos h3, decide_eq_false (fun h => by have := h.n0; omega)]
  rw [bif_neg h3]
  by_cases h4 : r.Num > 1073741824
  · rw [bif_pos h4, decide_eq_false (fun h => by have := h.n1; omega)]
  rw [bif_neg h4, rsize_is M _ (by unfold I64; omega), Option.bind_some, rsize_is M _ (by unfold I64; omega), Option.bind_some, gcd_is M _ _ (by omega), Option.bind_some]
  by_cases h5 : Nat.gcd r.Num.natAbs r.Den.natAbs = 1
  · rw [decide_eq_true (⟨by omega, by omega, by omega, by omega, h5⟩ : VR r), h5]; rfl
  · rw [decide_eq_false (fun h => h5 h.g)]
    congr 1
    simp only [beq_eq_false_iff_ne, ne_eq]
    omega
def an (n d : Int) : Nat := n.natAbs / Nat.gcd n.natAbs d.natAbs
def ad (n d : Int) : Nat := d.natAbs / Nat.gcd n.natAbs d.natAbs
def neg (n d : Int) : Bool := decide (n < 0) != decide (d < 0)
/-- The ratio of two numbers, or the error. -/
def mk (n d : Int) : Ratio × Int :=
  if d = 0 then (⟨0, 0⟩, 1) else if 1073741824 < an n d ∨ 1073741824 < ad n d then (⟨0, 0⟩, 3) else (⟨if neg n d then -(an n d : Int) else an n d, ad n d⟩, 0)
theorem make_is (M : Nat) (hM : Big M) (n d : Int) (hn : I64 n) (hd : I64 d) : ratio_Make M n d = some (mk n d) ∧ ref01_Make M n d = some (mk n d) := by
  have hM := hM.h
  have hn' := hn
  have hd' := hd
  unfold I64 at hn' hd'
  unfold mk
  by_cases h0 : d = 0
  · rw [if_pos h0]
    constructor
    · unfold ratio_Make b_ratio_Make
      rw [beq_if, if_pos h0]
    · unfold ref01_Make b_ref01_Make
      rw [beq_if, if_pos h0]
  rw [if_neg h0]
  have hgp : 0 < Nat.gcd n.natAbs d.natAbs := Nat.gcd_pos_of_pos_right _ (by omega)
  have ha : n.natAbs / Nat.gcd n.natAbs d.natAbs ≤ n.natAbs := Nat.div_le_self _ _
  have hb : d.natAbs / Nat.gcd n.natAbs d.natAbs ≤ d.natAbs := Nat.div_le_self _ _
  have hcore : ∀ {α : Type} (k1 k2 : α) (k3 : Int → Int → α),
      (if an n d > 1073741824 then k1 else if ad n d > 1073741824 then k1 else k2) = (if 1073741824 < an n d ∨ 1073741824 < ad n d then k1 else k2) := fun {α} k1 k2 k3 => by
    by_cases c1 : an n d > 1073741824
    · rw [if_pos c1, if_pos (.inl c1)]
    · rw [if_neg c1]
      by_cases c2 : ad n d > 1073741824
      · rw [if_pos c2, if_pos (.inr c2)]
      · rw [if_neg c2, if_neg (by omega)]
  have ha2 : an n d ≤ n.natAbs := ha
  have hb2 : ad n d ≤ d.natAbs := hb
  clear ha hb
  have hA : IntKind.u64.wrap ((n.natAbs : Int).tdiv (Nat.gcd n.natAbs d.natAbs : Int)) = (an n d : Int) := by
    rw [tdiv_nat]
    show IntKind.u64.wrap ((an n d : Nat) : Int) = _
    exact u64_ok (by omega)
  have hB : IntKind.u64.wrap ((d.natAbs : Int).tdiv (Nat.gcd n.natAbs d.natAbs : Int)) = (ad n d : Int) := by
    rw [tdiv_nat]
    show IntKind.u64.wrap ((ad n d : Nat) : Int) = _
    exact u64_ok (by omega)
  constructor
  · unfold ratio_Make b_ratio_Make
    rw [beq_if, if_neg h0, beq_if]
    by_cases hz : n = 0
    · subst hz
      have e1 : an 0 d = 0 := by unfold an; simp
      have e2 : ad 0 d = 1 := by unfold ad; rw [Int.natAbs_zero, Nat.gcd_zero_left]; exact Nat.div_self (by omega)
      rw [if_pos rfl, e1, e2, if_neg (by omega)]
      split <;> rfl
    · rw [if_neg hz, size_is M _ hn, Option.bind_some, size_is M _ hd, Option.bind_some, common_is M _ _ (by omega), Option.bind_some]
      rw [bif_neg (by omega), bif_neg (by omega), hA, hB]
      by_cases c1 : an n d > 1073741824
      · rw [bif_pos (by omega), if_pos (.inl c1)]
      rw [bif_neg (by omega)]
      by_cases c2 : ad n d > 1073741824
      · rw [bif_pos (by omega), if_pos (.inr c2)]
      rw [bif_neg (by omega), if_neg (by omega), i64_ok (n := (an n d : Int)) (by omega), i64_ok (n := (ad n d : Int)) (by omega), i64_ok (n := 0 - (an n d : Int)) (by omega)]
      unfold neg
      cases decide (n < 0) <;> cases decide (d < 0) <;> simp
  · unfold ref01_Make b_ref01_Make
    rw [beq_if, if_neg h0, rsize_is M _ hn, Option.bind_some, rsize_is M _ hd, Option.bind_some, gcd_is M _ _ (by omega), Option.bind_some]
    rw [bif_neg (by omega), hA, hB]
    by_cases c1 : an n d > 1073741824
    · rw [bif_pos (by omega), if_pos (.inl c1)]
    rw [bif_neg (by omega), bif_neg (by omega)]
    by_cases c2 : ad n d > 1073741824
    · rw [bif_pos (by omega), if_pos (.inr c2)]
    rw [bif_neg (by omega), bif_neg (by omega), if_neg (by omega), i64_ok (n := (an n d : Int)) (by omega), i64_ok (n := (ad n d : Int)) (by omega), i64_ok (n := 0 - (an n d : Int)) (by omega)]
    rw [bif_neg (show ¬ ((Nat.gcd n.natAbs d.natAbs : Nat) : Int) = 0 by omega), bif_neg (show ¬ ((Nat.gcd n.natAbs d.natAbs : Nat) : Int) = 0 by omega)]
    unfold neg
    cases decide (n < 0) <;> cases decide (d < 0) <;> simp
end Go.Abs.K
