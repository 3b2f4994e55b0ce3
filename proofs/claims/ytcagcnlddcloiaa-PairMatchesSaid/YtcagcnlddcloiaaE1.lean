/- EVENTS: which are valid; lists of events that are the same. -/
import Derived.Test.YtcagcnlddcloiaaF2
import Derived.Test.YtcagcnlddcloiaaA34
set_option linter.unusedVariables false
set_option linter.unusedSimpArgs false
namespace Go.Abs.K
open Go Go.Abs Go.Proofs

/-- Is an event valid? -/
def Vld (e : Event) : Prop := 1 ≤ e.Kind ∧ e.Kind ≤ 8 ∧ 0 ≤ e.From ∧ e.From ≤ e.To ∧ e.To ≤ 1099511627776 ∧ -9007199254740992 ≤ e.Value ∧ e.Value ≤ 9007199254740992 ∧ -9007199254740992 ≤ e.Aux ∧ e.Aux ≤ 9007199254740992 ∧ (e.Data.size : Int) ≤ 4096 ∧ 0 ≤ e.Fault ∧ e.Fault ≤ 12
instance (e : Event) : Decidable (Vld e) := by unfold Vld; infer_instance
theorem event_valid (M : Nat) (e : Event) : event_Valid M e = some (decide (Vld e)) := by
  simp only [event_Valid, b_event_Valid, bif_if]
  by_cases h : Vld e
  · rw [decide_eq_true h]
    unfold Vld at h
    repeat rw [if_neg (by omega)]
    rw [if_pos (by omega), if_pos (by omega), decide_eq_true (by omega)]
  · rw [decide_eq_false h]
    unfold Vld at h
    repeat' split
    all_goals first | rfl | (congr 1; exact decide_eq_false (by omega))
theorem ref_valid (M : Nat) (e : Event) : ref07_Valid M e = some (decide (Vld e)) := by
  simp only [ref07_Valid, b_ref07_Valid, bif_if]
  by_cases h : Vld e
  · rw [decide_eq_true h]
    unfold Vld at h
    repeat rw [if_neg (by omega)]
    rw [if_pos (by omega), if_pos (by omega), if_pos (by omega), decide_eq_true (by omega)]
  · rw [decide_eq_false h]
    unfold Vld at h
    repeat' split
    all_goals first | rfl | (congr 1; exact decide_eq_false (by omega))
theorem same_l4 (M : Nat) (a : List Event) (ha : a.length < 9223372036854775807) : ∀ (k i m : Nat), i + k = a.length → k < m → law33_same_l4 M m (i : Int) a a = some true
  | k, i, 0, _, hm => by omega
  | 0, i, m + 1, hi, hm => by
    simp only [law33_same_l4, b_law33_same_l4]
    rw [bif_neg (by omega)]
  | k + 1, i, m + 1, hi, hm => by
    simp only [law33_same_l4, b_law33_same_l4, beq_self_eq_true, bytes_beq_self, Bool.and_self, Bool.not_true, Bool.cond_false]
    rw [bif_pos (by omega), bif_pos (by omega), bif_pos (by omega), next_i i (by omega)]
    simp only [bif_pos (show (0 : Int) ≤ (i : Int) by omega), bif_pos (show (i : Int) < (a.length : Int) by omega)]
    exact same_l4 M a ha k (i + 1) m (by omega) (by omega)
theorem same_self (M : Nat) (a : List Event) (ha : a.length < 9223372036854775807) (hM : a.length < M) : law33_same M a a = some true := by
  simp only [law33_same, b_law33_same, bne_self_eq_false, Bool.cond_false]
  exact same_l4 M a ha a.length 0 M (by omega) hM
end Go.Abs.K
