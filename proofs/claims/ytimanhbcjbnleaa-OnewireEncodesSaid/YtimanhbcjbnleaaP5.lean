/- ONEWIRE: the pulses of an item, and what is decoded of them. -/
import Derived.Test.YtimanhbcjbnleaaP4
set_option linter.unusedVariables false
set_option linter.unusedSimpArgs false
namespace Go.Abs.K
open Go Go.Abs Go.Proofs

def bitA (v : Int) (i : Nat) : Int := v / 2 ^ i % 2
def pr (b : Int) : Int × Int := if b = 1 then (1, 5) else (4, 2)
def prs (x : Item) : List (Int × Int) :=
  if x.Aux = 1 then [(32, 32)] else if x.Aux = 2 then [(32, 2), (8, 22)]
  else if x.Fault = 6 then [pr (bitA x.Value 0), pr (bitA x.Value 1), pr (bitA x.Value 2), (20, 4)]
  else [pr (bitA x.Value 0), pr (bitA x.Value 1), pr (bitA x.Value 2), pr (bitA x.Value 3), pr (bitA x.Value 4), pr (bitA x.Value 5), pr (bitA x.Value 6), pr (bitA x.Value 7)]
def flat : List (Int × Int) → List Int
  | [] => []
  | p :: r => p.1 :: p.2 :: flat r
theorem l8_step (M : Nat) (x : Item) (m i : Nat) (out : List Int) (hi : i < 8) (hf : ¬ (x.Fault = 6 ∧ i = 3)) (hv : 0 ≤ x.Value) (ho : out.length ≤ 100) : onewire_units_l8 M (m + 1) (i : Int) x out = onewire_units_l8 M m ((i + 1 : Nat) : Int) x (out ++ [(pr (bitA x.Value i)).1, (pr (bitA x.Value i)).2]) := by
  have hb : IntKind.i64.wrap (((BitVec.ofInt 64 (x.Value.fdiv (2 ^ min (i : Int).toNat 64)) &&& BitVec.ofInt 64 1).toNat : Int)) = bitA x.Value i := by
    rw [Int.toNat_natCast, Nat.min_eq_left (by omega), Int.fdiv_eq_ediv_of_nonneg _ (Int.le_of_lt (Int.pow_pos (by omega)))]
    have := and_low 64 1 (x.Value / 2 ^ i) (by omega)
    rw [show ((2 ^ 1 - 1 : Nat) : Int) = 1 from rfl, show (2 ^ 1 : Int) = 2 from rfl] at this
    rw [this, i64_ok (by omega)]; rfl
  conv => lhs; rw [onewire_units_l8]
  simp only [b_onewire_units_l8, next_i i (by omega), hb, beq_if]
  rw [bif_pos (by omega)]
  simp only [bif_pos (show (out.length + 2) * 8 ≤ 140737488355328 by omega), bif_neg (show ¬ (i : Int) < 0 by omega)]
  have fin : (if bitA x.Value i = 1 then onewire_units_l8 M m ((i + 1 : Nat) : Int) x (out ++ [1, 5]) else onewire_units_l8 M m ((i + 1 : Nat) : Int) x (out ++ [4, 2])) = onewire_units_l8 M m ((i + 1 : Nat) : Int) x (out ++ [(pr (bitA x.Value i)).1, (pr (bitA x.Value i)).2]) := by
    unfold pr; split <;> rfl
  by_cases h6 : x.Fault = 6
  · rw [if_pos h6, if_neg (show ¬ (i : Int) = 3 by omega)]; exact fin
  · rw [if_neg h6]; exact fin
theorem units_is (M : Nat) (hM : 10 < M) (x : Item) (hv : 0 ≤ x.Value) : onewire_units M x = some (flat (prs x)) := by
  obtain ⟨m, rfl⟩ : ∃ m, M = m + 9 := ⟨M - 9, by omega⟩
  simp only [onewire_units, b_onewire_units, beq_if]
  unfold prs
  by_cases h1 : x.Aux = 1
  · rw [if_pos h1, if_pos h1]; rfl
  rw [if_neg h1, if_neg h1]
  by_cases h2 : x.Aux = 2
  · rw [if_pos h2, if_pos h2]; rfl
  rw [if_neg h2, if_neg h2]
  refine (l8_step (m + 9) x (m + 8) 0 [] (by omega) (by omega) hv (by simp)).trans ?_
  rw [l8_step (m + 9) x (m + 7) 1 _ (by omega) (by omega) hv (by simp), l8_step (m + 9) x (m + 6) 2 _ (by omega) (by omega) hv (by simp)]
  by_cases h6 : x.Fault = 6
  · rw [if_pos h6]
    simp only [onewire_units_l8, b_onewire_units_l8, beq_if]
    rw [bif_pos (by omega), if_pos h6, if_pos (by omega), bif_pos (by simp)]
    rfl
  · rw [if_neg h6, l8_step (m + 9) x (m + 5) 3 _ (by omega) (by omega) hv (by simp), l8_step (m + 9) x (m + 4) 4 _ (by omega) (by omega) hv (by simp), l8_step (m + 9) x (m + 3) 5 _ (by omega) (by omega) hv (by simp), l8_step (m + 9) x (m + 2) 6 _ (by omega) (by omega) hv (by simp), l8_step (m + 9) x (m + 1) 7 _ (by omega) (by omega) hv (by simp)]
    simp only [onewire_units_l8, b_onewire_units_l8]
    rw [bif_neg (by omega)]
    rfl
/-! ### A pulse and the time after it -/
def pairA (T : Int) (md : Md) (t lo w : Int) : Md × List Event :=
  ((lateA T (pulseA T md t (t + lo * T)).1 (t + lo * T + w)).1, (pulseA T md t (t + lo * T)).2 ++ (lateA T (pulseA T md t (t + lo * T)).1 (t + lo * T + w)).2)
def foldP (T : Int) : Md → Int → List (Int × Int) → Md × List Event
  | md, t, [] => (md, [])
  | md, t, p :: r => ((foldP T (pairA T md t p.1 p.2).1 (t + p.1 * T + p.2) r).1, (pairA T md t p.1 p.2).2 ++ (foldP T (pairA T md t p.1 p.2).1 (t + p.1 * T + p.2) r).2)
theorem bit01 (v : Int) (i : Nat) : bitA v i = 0 ∨ bitA v i = 1 := by unfold bitA; omega
theorem pair_bit (T : Int) (hT : 1 ≤ T) (n : Nat) (hn : n < 7) (v : Int) (i : Nat) (f acc t w : Int) : pairA T (.bits n f acc) t (pr (bitA v i)).1 w = (.bits (n + 1) (if n = 0 then t else f) (acc + bitA v i * 2 ^ n), []) := by
  unfold pairA pulseA plainA pr
  rcases bit01 v i with h | h
  · rw [h, if_neg (by omega)]
    dsimp only
    rw [if_neg (by omega), if_neg (by omega), if_neg (by omega), if_neg (show ¬ t + 4 * T - t < 2 * T by omega)]
    simp [lateA]
  · rw [h, if_pos rfl]
    dsimp only
    rw [if_neg (by omega), if_neg (by omega), if_neg (by omega), if_pos (show t + 1 * T - t < 2 * T by omega)]
    simp [lateA]
theorem pair_bit7 (T : Int) (hT : 1 ≤ T) (v : Int) (i : Nat) (f acc t w : Int) : pairA T (.bits 7 f acc) t (pr (bitA v i)).1 w = (clo, [byt f (t + (pr (bitA v i)).1 * T) (acc + bitA v i * 128) 0]) := by
  unfold pairA pulseA plainA pr
  rcases bit01 v i with h | h
  · rw [h, if_neg (by omega)]
    dsimp only
    rw [if_neg (by omega), if_neg (by omega), if_pos (by omega), if_neg (show ¬ t + 4 * T - t < 2 * T by omega)]
    simp [lateA]
  · rw [h, if_pos rfl]
    dsimp only
    rw [if_neg (by omega), if_neg (by omega), if_pos (by omega), if_pos (show t + 1 * T - t < 2 * T by omega)]
    simp [lateA]
theorem pair_slow (T : Int) (hT : 1 ≤ T) (f acc t w : Int) : pairA T (.bits 3 f acc) t 20 w = (clo, [byt f (t + 20 * T) 0 6]) := by
  unfold pairA pulseA plainA
  dsimp only
  rw [if_neg (by omega), if_pos (by omega)]
  simp [lateA]
theorem pair_reset (T : Int) (hT : 1 ≤ T) (t w : Int) (hw : 32 * T ≤ w) : pairA T clo t 32 w = (clo, [mark t (t + 32 * T) 2]) := by
  unfold pairA pulseA plainA
  dsimp only
  rw [if_pos (by omega)]
  have : t + 32 * T + 8 * T < t + 32 * T + w := by omega
  simp [lateA, this]
theorem pair_rst (T : Int) (hT : 1 ≤ T) (t : Int) : pairA T clo t 32 (2 * T) = (.rst t (t + 32 * T), []) := by
  unfold pairA pulseA plainA
  dsimp only
  rw [if_pos (by omega)]
  have : ¬ t + 32 * T + 8 * T < t + 32 * T + 2 * T := by omega
  simp [lateA, this]
theorem pair_pres (T : Int) (hT : 1 ≤ T) (f g t w : Int) : pairA T (.rst f g) t 8 w = (clo, [mark f (t + 8 * T) 3]) := by
  unfold pairA pulseA
  dsimp only
  rw [if_pos (by omega)]
  simp [lateA]
/-- Pulses with the times after them: the last one's is W. -/
def wid (T W : Int) : List (Int × Int) → List (Int × Int)
  | [] => []
  | [p] => [(p.1, W)]
  | p :: q :: r => (p.1, p.2 * T) :: wid T W (q :: r)
def sentA (T : Int) (x : Item) (t : Int) : Event :=
  if x.Aux = 1 then Event.mk 4 t (t + 32 * T) 2 0 (bs []) 0 else if x.Aux = 2 then Event.mk 4 t (t + 42 * T) 3 0 (bs []) 0
  else if x.Fault = 6 then Event.mk 3 t (t + 38 * T) 0 0 (bs []) 6 else if x.Value ≥ 128 then Event.mk 3 t (t + 43 * T) x.Value 0 (bs []) 0 else Event.mk 3 t (t + 46 * T) x.Value 0 (bs []) 0
/-- The time of an item without its gap. -/
def durA (T : Int) (x : Item) : Int := if x.Aux = 1 then 64 * T else if x.Aux = 2 then 64 * T else if x.Fault = 6 then 42 * T else 48 * T
def lastA (x : Item) : Int × Int := if x.Aux = 1 then (32, 32) else if x.Aux = 2 then (8, 22) else if x.Fault = 6 then (20, 4) else pr (bitA x.Value 7)
theorem pr_sum (T b : Int) : (pr b).1 * T + (pr b).2 * T = 6 * T := by unfold pr; split <;> (dsimp only; omega)
theorem item_fold (T : Int) (hT : 1 ≤ T) (x : Item) (hv : 0 ≤ x.Value ∧ x.Value ≤ 255) (t W : Int) (hW : (lastA x).2 * T ≤ W) : foldP T clo t (wid T W (prs x)) = (clo, [sentA T x t]) := by
  unfold prs sentA
  unfold lastA at hW
  by_cases h1 : x.Aux = 1
  · rw [if_pos h1] at hW
    rw [if_pos h1, if_pos h1]
    simp only [wid, foldP, pair_reset T hT t W hW, List.append_nil]
  rw [if_neg h1] at hW
  rw [if_neg h1, if_neg h1]
  by_cases h2 : x.Aux = 2
  · rw [if_pos h2, if_pos h2]
    simp only [wid, foldP, pair_rst T hT t, pair_pres T hT, List.append_nil, List.nil_append]
    rw [show t + 32 * T + 2 * T + 8 * T = t + 42 * T by omega]
  rw [if_neg h2, if_neg h2]
  have s0 := pr_sum T (bitA x.Value 0)
  have s1 := pr_sum T (bitA x.Value 1)
  have s2 := pr_sum T (bitA x.Value 2)
  by_cases h6 : x.Fault = 6
  · rw [if_pos h6, if_pos h6]
    simp only [wid, foldP, pair_bit T hT 0 (by omega), pair_bit T hT 1 (by omega), pair_bit T hT 2 (by omega), pair_slow T hT, List.append_nil, List.nil_append]
    simp only [if_true, show ¬ (1 : Nat) = 0 by omega, show ¬ (2 : Nat) = 0 by omega, if_false]
    rw [show t + (pr (bitA x.Value 0)).1 * T + (pr (bitA x.Value 0)).2 * T + (pr (bitA x.Value 1)).1 * T + (pr (bitA x.Value 1)).2 * T + (pr (bitA x.Value 2)).1 * T + (pr (bitA x.Value 2)).2 * T + 20 * T = t + 38 * T by omega]
  rw [if_neg h6, if_neg h6]
  have s3 := pr_sum T (bitA x.Value 3)
  have s4 := pr_sum T (bitA x.Value 4)
  have s5 := pr_sum T (bitA x.Value 5)
  have s6 := pr_sum T (bitA x.Value 6)
  simp only [wid, foldP, pair_bit T hT 0 (by omega), pair_bit T hT 1 (by omega), pair_bit T hT 2 (by omega), pair_bit T hT 3 (by omega), pair_bit T hT 4 (by omega), pair_bit T hT 5 (by omega), pair_bit T hT 6 (by omega), pair_bit7 T hT, List.append_nil, List.nil_append]
  simp only [if_true, show ¬ (1 : Nat) = 0 by omega, show ¬ (2 : Nat) = 0 by omega, show ¬ (3 : Nat) = 0 by omega, show ¬ (4 : Nat) = 0 by omega, show ¬ (5 : Nat) = 0 by omega, show ¬ (6 : Nat) = 0 by omega, if_false]
  have hval : 0 + bitA x.Value 0 * 2 ^ 0 + bitA x.Value 1 * 2 ^ 1 + bitA x.Value 2 * 2 ^ 2 + bitA x.Value 3 * 2 ^ 3 + bitA x.Value 4 * 2 ^ 4 + bitA x.Value 5 * 2 ^ 5 + bitA x.Value 6 * 2 ^ 6 + bitA x.Value 7 * 128 = x.Value := by
    unfold bitA
    obtain ⟨n, hn⟩ := Int.eq_ofNat_of_zero_le hv.1
    rw [hn] at hv ⊢
    omega
  rw [hval]
  have h7 : bitA x.Value 7 = x.Value / 128 % 2 := rfl
  by_cases hb : x.Value ≥ 128
  · rw [if_pos hb, show pr (bitA x.Value 7) = (1, 5) from if_pos (by rw [h7]; omega)]
    dsimp only
    rw [show t + (pr (bitA x.Value 0)).1 * T + (pr (bitA x.Value 0)).2 * T + (pr (bitA x.Value 1)).1 * T + (pr (bitA x.Value 1)).2 * T + (pr (bitA x.Value 2)).1 * T + (pr (bitA x.Value 2)).2 * T + (pr (bitA x.Value 3)).1 * T + (pr (bitA x.Value 3)).2 * T + (pr (bitA x.Value 4)).1 * T + (pr (bitA x.Value 4)).2 * T + (pr (bitA x.Value 5)).1 * T + (pr (bitA x.Value 5)).2 * T + (pr (bitA x.Value 6)).1 * T + (pr (bitA x.Value 6)).2 * T + 1 * T = t + 43 * T by omega]
  · rw [if_neg hb, show pr (bitA x.Value 7) = (4, 2) from if_neg (by rw [h7]; omega)]
    dsimp only
    rw [show t + (pr (bitA x.Value 0)).1 * T + (pr (bitA x.Value 0)).2 * T + (pr (bitA x.Value 1)).1 * T + (pr (bitA x.Value 1)).2 * T + (pr (bitA x.Value 2)).1 * T + (pr (bitA x.Value 2)).2 * T + (pr (bitA x.Value 3)).1 * T + (pr (bitA x.Value 3)).2 * T + (pr (bitA x.Value 4)).1 * T + (pr (bitA x.Value 4)).2 * T + (pr (bitA x.Value 5)).1 * T + (pr (bitA x.Value 5)).2 * T + (pr (bitA x.Value 6)).1 * T + (pr (bitA x.Value 6)).2 * T + 4 * T = t + 46 * T by omega]
end Go.Abs.K
