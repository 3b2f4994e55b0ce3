/- UART: the samples of an item, the program's and the document's. -/
import Derived.Test.YtlpileejhdadaaaP7
set_option linter.unusedVariables false
set_option linter.unusedSimpArgs false
namespace Go.Abs.K
open Go Go.Abs Go.Proofs

abbrev orI (a b : Int) : Int := IntKind.i64.wrap (((BitVec.ofInt 64 a ||| BitVec.ofInt 64 b).toNat : Int))
abbrev anI (a b : Int) : Int := IntKind.i64.wrap (((BitVec.ofInt 64 a &&& ~~~BitVec.ofInt 64 b).toNat : Int))
abbrev xoI (a b : Int) : Int := IntKind.i64.wrap (((BitVec.ofInt 64 a ^^^ BitVec.ofInt 64 b).toNat : Int))
def base (n st p V : Nat) : Nat := 2 * V + (2 ^ st - 1) * 2 ^ (1 + n + p)
def test (n st p q V : Nat) : Bool :=
  orI ((2 * V : Nat) : Int) (((2 ^ st - 1) * 2 ^ (1 + n + p) : Nat) : Int) == (base n st p V : Int) &&
  (p == 0 || orI (base n st p V : Int) ((q * 2 ^ (1 + n) : Nat) : Int) == ((base n st p V + q * 2 ^ (1 + n) : Nat) : Int)) &&
  anI ((base n st p V + p * q * 2 ^ (1 + n) : Nat) : Int) ((2 ^ (n + st + p) : Nat) : Int) == ((base n st p V + p * q * 2 ^ (1 + n) - 2 ^ (n + st + p) : Nat) : Int) &&
  (p == 0 || xoI ((base n st p V + q * 2 ^ (1 + n) : Nat) : Int) ((2 ^ (1 + n) : Nat) : Int) == ((base n st p V + (1 - q) * 2 ^ (1 + n) : Nat) : Int))
theorem test_tab : ((List.range 5).all fun n => (List.range 2).all fun st => (List.range 2).all fun p => (List.range 2).all fun q => (List.range (2 ^ (n + 5))).all fun V => test (n + 5) (st + 1) p q V) = true := by kernel_rfl
theorem test_is (n st p q V : Nat) (hn : 5 ≤ n ∧ n ≤ 9) (hs : 1 ≤ st ∧ st ≤ 2) (hp : p ≤ 1) (hq : q ≤ 1) (hV : V < 2 ^ n) : test n st p q V = true := by
  have h := test_tab
  have h := List.all_eq_true.1 h (n - 5) (List.mem_range.2 (by omega))
  have h := List.all_eq_true.1 h (st - 1) (List.mem_range.2 (by omega))
  have h := List.all_eq_true.1 h p (List.mem_range.2 (by omega))
  have h := List.all_eq_true.1 h q (List.mem_range.2 (by omega))
  have h := List.all_eq_true.1 h V (List.mem_range.2 (by rw [show n - 5 + 5 = n by omega]; exact hV))
  rw [show n - 5 + 5 = n by omega, show st - 1 + 1 = st by omega] at h
  exact h
end Go.Abs.K
