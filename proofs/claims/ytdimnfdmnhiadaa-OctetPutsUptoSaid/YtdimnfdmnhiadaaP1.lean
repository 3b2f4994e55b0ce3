/- OCTET: what is appended for a number, what is read. -/
import Derived.Test.YtdimnfdmnhiadaaF1
import Derived.Test.YtdimnfdmnhiadaaA33
set_option linter.unusedVariables false
set_option linter.unusedSimpArgs false
namespace Go.Abs.K
open Go Go.Abs Go.Proofs

/-- The bytes of a number, at most k + 1 of them. -/
def leb : Nat → Int → List Int
  | 0, n => [n]
  | k + 1, n => if n ≥ 128 then (n % 128 + 128) :: leb k (n / 128) else [n]
theorem and127 (n : Int) : (((BitVec.ofInt 64 n &&& BitVec.ofInt 64 127).toNat : Nat) : Int) = n % 128 := and_low 64 7 n (by omega)
theorem and127' (n : Int) : (((BitVec.ofInt 8 n &&& BitVec.ofInt 8 127).toNat : Nat) : Int) = n % 128 := and_low 8 7 n (by omega)
theorem or128 (x : Int) (h : 0 ≤ x ∧ x < 128) : (((BitVec.ofInt 8 x ||| BitVec.ofInt 8 128).toNat : Nat) : Int) = x + 128 := by
  obtain ⟨k, rfl⟩ := Int.eq_ofNat_of_zero_le h.1
  have := or_nat 8 k 128 (by omega) (by omega)
  rw [show ((128 : Nat) : Int) = 128 from rfl] at this
  rw [this, Nat.or_comm]
  have := Nat.two_pow_add_eq_or_of_lt (i := 7) (b := k) (by omega) 1
  simp at this
  omega
theorem step_byte (n : Int) : IntKind.u8.wrap (((BitVec.ofInt 8 (IntKind.u8.wrap (IntKind.u64.wrap (((BitVec.ofInt 64 n &&& BitVec.ofInt 64 127).toNat : Int)))) ||| BitVec.ofInt 8 128).toNat : Int)) = n % 128 + 128 := by
  rw [and127, u64_ok (n := n % 128) (by omega), u8_ok (n := n % 128) (by omega), or128 _ (by omega), u8_ok (n := n % 128 + 128) (by omega)]
theorem fdiv128 (n : Int) : n.fdiv 128 = n / 128 := Int.fdiv_eq_ediv_of_nonneg _ (by omega)
theorem pow_succ128 (k : Nat) : (128 : Int) ^ (k + 1) = 128 ^ k * 128 := Int.pow_succ 128 k
theorem div_lt_pow (k : Nat) (n : Int) (h : n < 128 ^ (k + 1)) : n / 128 < 128 ^ k := by
  rw [pow_succ128] at h; exact Int.ediv_lt_of_lt_mul (by omega) h
theorem putl (M : Nat) : ∀ (k m : Nat) (n : Int) (b : List Int), 0 ≤ n → n < 128 ^ (k + 1) → k < m → b.length + k + 1 ≤ 140737488355328 → octet_PutUint_l2s1 M m n b = some (b ++ leb k n)
  | k, 0, n, b, _, _, hm, _ => by omega
  | 0, m + 1, n, b, h0, h1, hm, hb => by
    have : ¬ n ≥ 128 := by simp at h1; omega
    have hl : decide ((b.length + 1) * 1 ≤ 140737488355328) = true := by simp; omega
    simp only [octet_PutUint_l2s1, b_octet_PutUint_l2s1, this, leb, hl, decide_false, Bool.cond_false, Bool.cond_true]
    rw [u8_ok (by omega)]
  | k + 1, m + 1, n, b, h0, h1, hm, hb => by
    have hl : decide ((b.length + 1) * 1 ≤ 140737488355328) = true := by simp; omega
    simp only [octet_PutUint_l2s1, b_octet_PutUint_l2s1, leb, step_byte, fdiv128, hl, Bool.cond_true]
    by_cases hc : n ≥ 128
    · simp only [hc, decide_true, Bool.cond_true, if_true]
      rw [putl M k m (n / 128) _ (by omega) (div_lt_pow _ _ h1) (by omega) (by simp; omega)]
      simp
    · simp only [hc, decide_false, Bool.cond_false, Bool.cond_true, if_false]
      rw [u8_ok (by omega)]
theorem u64_pow {n : Int} (h : n ≤ 18446744073709551615) : n < 128 ^ (9 + 1) := by simp; omega
theorem putUint (M : Nat) (b : List Int) (n : Int) (h0 : 0 ≤ n) (h1 : n ≤ 18446744073709551615) (hM : 10 < M) (hb : b.length + 10 ≤ 140737488355328) : octet_PutUint M b n = some (b ++ leb 9 n) := by
  obtain ⟨m, rfl⟩ : ∃ m, M = m + 1 := ⟨M - 1, by omega⟩
  have hd : List.drop 0 (List.take ((b.length : Int)).toNat b) = b := by simp
  have hl : decide ((b.length + 1) * 1 ≤ 140737488355328) = true := by simp; omega
  simp only [octet_PutUint, b_octet_PutUint, Int.le_refl, decide_true, Bool.cond_true, hd, octet_PutUint_l2, b_octet_PutUint_l2, step_byte, fdiv128, hl]
  rw [show leb 9 n = if n ≥ 128 then (n % 128 + 128) :: leb 8 (n / 128) else [n] from rfl]
  by_cases hc : n ≥ 128
  · simp only [hc, decide_true, Bool.cond_true, if_true]
    rw [putl (m + 1) 8 m (n / 128) _ (by omega) (div_lt_pow _ _ (u64_pow h1)) (by omega) (by simp; omega)]
    simp
  · simp only [hc, decide_false, Bool.cond_false, Bool.cond_true, if_false]
    rw [u8_ok (by omega)]
theorem rputl (M : Nat) : ∀ (k m : Nat) (n : Int) (b : List Int), 0 ≤ n → n < 128 ^ (k + 1) → n ≤ 18446744073709551615 → k < m → b.length + k + 1 ≤ 140737488355328 → ref02_PutUint_l3 M m n b = some (b ++ leb k n)
  | k, 0, n, b, _, _, _, hm, _ => by omega
  | 0, m + 1, n, b, h0, h1, h2, hm, hb => by
    have : ¬ n ≥ 128 := by simp at h1; omega
    have hl : decide ((b.length + 1) * 1 ≤ 140737488355328) = true := by simp; omega
    simp only [ref02_PutUint_l3, b_ref02_PutUint_l3, this, leb, hl, decide_false, Bool.cond_false, Bool.cond_true]
    rw [u8_ok (by omega)]
  | k + 1, m + 1, n, b, h0, h1, h2, hm, hb => by
    have hl : decide ((b.length + 1) * 1 ≤ 140737488355328) = true := by simp; omega
    simp only [ref02_PutUint_l3, b_ref02_PutUint_l3, leb, hl, Bool.cond_true]
    by_cases hc : n ≥ 128
    · simp only [hc, decide_true, Bool.cond_true, if_true]
      rw [IntWalk.u64_quo _ _ (by omega), IntWalk.rem_in _ _ h0, u8_ok (n := n % 128) (by omega), u8_ok (n := n % 128 + 128) (by omega)]
      rw [rputl M k m (n / 128) _ (by omega) (div_lt_pow _ _ h1) (by omega) (by omega) (by simp; omega)]
      simp
    · simp only [hc, decide_false, Bool.cond_false, Bool.cond_true, if_false]
      rw [u8_ok (by omega)]
theorem rputUint (M : Nat) (b : List Int) (n : Int) (h0 : 0 ≤ n) (h1 : n ≤ 18446744073709551615) (hM : 10 < M) (hb : b.length + 10 ≤ 140737488355328) : ref02_PutUint M b n = some (b ++ leb 9 n) := by
  have e1 : IntKind.i64.wrap ((b.length : Int) + 10) = (b.length : Int) + 10 := i64_ok (by omega)
  have c1 : decide (0 ≤ (b.length : Int) + 10) = true := by simp; omega
  have c2 : decide (((b.length : Int) + 10) * 1 ≤ 140737488355328) = true := by simp; omega
  have c3 : decide ((0 + b.length) * 1 ≤ 140737488355328) = true := by simp; omega
  simp only [ref02_PutUint, b_ref02_PutUint, e1, c1, c2, c3, Bool.cond_true, List.replicate_zero, List.nil_append]
  exact rputl M 9 M n b h0 (u64_pow h1) h1 (by omega) (by omega)
/-- The number for an int. -/
def zig (n : Int) : Int := if n < 0 then 2 * (-(n + 1)) + 1 else 2 * n
theorem zig_range (n : Int) (h0 : -9223372036854775808 ≤ n) (h1 : n ≤ 9223372036854775807) : 0 ≤ zig n ∧ zig n ≤ 18446744073709551615 := by unfold zig; split <;> omega
theorem putInt (M : Nat) (b : List Int) (n : Int) (h0 : -9223372036854775808 ≤ n) (h1 : n ≤ 9223372036854775807) (hM : 10 < M) (hb : b.length + 10 ≤ 140737488355328) : octet_PutInt M b n = some (b ++ leb 9 (zig n)) := by
  have hz := zig_range n h0 h1
  unfold octet_PutInt b_octet_PutInt
  unfold zig at hz ⊢
  by_cases hn : n < 0
  · simp only [hn, decide_true, Bool.cond_true, if_true] at hz ⊢
    rw [i64_ok (n := n + 1) (by omega), i64_ok (by omega), u64_ok (n := 0 - (n + 1)) (by omega), u64_ok (n := (0 - (n + 1)) * 2) (by omega), u64_ok (by omega), putUint M b _ (by omega) (by omega) hM hb]
    simp; congr 1; omega
  · simp only [hn, decide_false, Bool.cond_false, if_false] at hz ⊢
    rw [u64_ok (n := n) (by omega), u64_ok (by omega), putUint M b _ (by omega) (by omega) hM hb]
    simp; congr 1; omega
theorem rputInt (M : Nat) (b : List Int) (n : Int) (h0 : -9223372036854775808 ≤ n) (h1 : n ≤ 9223372036854775807) (hM : 10 < M) (hb : b.length + 10 ≤ 140737488355328) : ref02_PutInt M b n = some (b ++ leb 9 (zig n)) := by
  have hz := zig_range n h0 h1
  have e : ref02_zigzag M n = some (zig n) := by
    unfold ref02_zigzag b_ref02_zigzag
    unfold zig at hz ⊢
    by_cases hn : n < 0
    · have hn' : ¬ n ≥ 0 := by omega
      simp only [hn, hn', decide_false, Bool.cond_false, if_true] at hz ⊢
      rw [i64_ok (n := n + 1) (by omega), i64_ok (by omega), u64_ok (n := 0 - (n + 1)) (by omega), u64_ok (n := 2 * (0 - (n + 1))) (by omega), u64_ok (by omega)]
      congr 1; omega
    · have hn' : n ≥ 0 := by omega
      simp only [hn, hn', decide_true, Bool.cond_true, if_false] at hz ⊢
      rw [u64_ok (n := n) (by omega), u64_ok (by omega)]
  simp only [ref02_PutInt, b_ref02_PutInt, e, Option.bind_some]
  rw [rputUint M b _ hz.1 hz.2 hM hb]
  rfl
theorem putText (M : Nat) (b : List Int) (s : ByteArray) (hs : s.size ≤ 140737488351232) (hM : 10 < M) (hb : b.length + s.size + 10 ≤ 140737488355328) : octet_PutText M b s = some (b ++ leb 9 s.size ++ ofBytes s) ∧ ref02_PutText M b s = some (b ++ leb 9 s.size ++ ofBytes s) := by
  have hlen : ∀ k (n : Int), (leb k n).length ≤ k + 1 := by
    intro k
    induction k with
    | zero => intro n; simp [leb]
    | succ k ih => intro n; unfold leb; split <;> simp; exact ih _
  have c : decide (((b ++ leb 9 (s.size : Int)).length + (ofBytes s).length) * 1 ≤ 140737488355328) = true := by
    have := hlen 9 s.size
    simp [ofBytes_length]; omega
  constructor
  · simp only [octet_PutText, b_octet_PutText]
    rw [u64_ok (by omega), putUint M b _ (by omega) (by omega) hM (by omega)]
    simp only [Option.bind_some, c, Bool.cond_true]
  · simp only [ref02_PutText, b_ref02_PutText]
    rw [u64_ok (by omega), rputUint M b _ (by omega) (by omega) hM (by omega)]
    simp only [Option.bind_some, c, Bool.cond_true]
end Go.Abs.K
