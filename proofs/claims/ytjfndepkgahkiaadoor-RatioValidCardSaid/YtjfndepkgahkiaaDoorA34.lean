/- PLAIN AIDS, second part: lists that are gone through by an index; tests. -/
import Derived.Test.YtjfndepkgahkiaaDoorA33
set_option linter.unusedVariables false
set_option linter.unusedSimpArgs false
namespace Go.Abs
/-! ### Lists that are gone through by an index -/
theorem drop_cons {α : Type} {l : List α} {i : Nat} {x : α} {r : List α} (h : l.drop i = x :: r) (d : α) : l.getD ((i : Nat) : Int).toNat d = x ∧ i < l.length ∧ l.drop (i + 1) = r ∧ l.length = i + 1 + r.length ∧ x ∈ l := by
  have hlen : l.length = i + 1 + r.length := by
    have := congrArg List.length h
    rw [List.length_drop, List.length_cons] at this
    omega
  refine ⟨?_, by omega, by rw [← List.drop_drop, h]; rfl, hlen, List.mem_of_mem_drop (i := i) (by rw [h]; simp)⟩
  rw [List.getD_eq_getElem?_getD, Int.toNat_natCast]
  have : (l.drop i)[0]? = some x := by rw [h]; rfl
  rw [List.getElem?_drop, Nat.add_zero] at this
  rw [this]; rfl
theorem drop_nil {α : Type} {l : List α} {i : Nat} (h : l.drop i = []) : l.length ≤ i := List.drop_eq_nil_iff.1 h
theorem bif_pos {α : Type} {p : Prop} [Decidable p] (h : p) (x y : α) : (bif decide p then x else y) = x := by rw [decide_eq_true h]; rfl
theorem bif_neg {α : Type} {p : Prop} [Decidable p] (h : ¬ p) (x y : α) : (bif decide p then x else y) = y := by rw [decide_eq_false h]; rfl
theorem bif_if {α : Type} (p : Prop) [Decidable p] (x y : α) : (bif decide p then x else y) = if p then x else y := by by_cases h : p <;> simp [h]
theorem next_i (i : Nat) (h : i < 9223372036854775807) : IntKind.i64.wrap (((i : Nat) : Int) + 1) = ((i + 1 : Nat) : Int) := by rw [i64_ok (by omega)]; omega
theorem beq_if {α : Type} (a b : Int) (x y : α) : (bif a == b then x else y) = if a = b then x else y := by
  by_cases h : a = b
  · subst h; simp
  · rw [show (a == b) = false by simpa using h]; simp [h]
theorem bne_if {α : Type} (a b : Int) (x y : α) : (bif a != b then x else y) = if a = b then y else x := by
  by_cases h : a = b
  · subst h; simp
  · rw [show (a != b) = true by simpa using h]; simp [h]
theorem bytes_beq (a b : ByteArray) : (a == b) = decide (a = b) := by
  cases a with
  | mk x =>
    cases b with
    | mk y =>
      have h : ((⟨x⟩ : ByteArray) == ⟨y⟩) = (x == y) := by rfl
      rw [h, Bool.eq_iff_iff, beq_iff_eq, decide_eq_true_eq]
      exact ⟨fun h => by rw [h], fun h => by injection h⟩
theorem bytes_beq_self (a : ByteArray) : (a == a) = true := by rw [bytes_beq]; simp
end Go.Abs
