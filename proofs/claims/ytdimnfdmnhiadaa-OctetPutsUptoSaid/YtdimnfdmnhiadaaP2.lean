/- OCTET: what is read for a number. -/
import Derived.Test.YtdimnfdmnhiadaaP1
set_option linter.unusedVariables false
set_option linter.unusedSimpArgs false
namespace Go.Abs.K
open Go Go.Abs Go.Proofs

/-- What is read of bytes, the first k having been read: the number, how many bytes in all, the error. -/
def tk : List Int → Nat → Int → Int × Nat × Int
  | [], _, _ => (0, 0, 5)
  | x :: l, k, n => if (k = 9 ∧ x > 1) ∨ (k > 0 ∧ x = 0) then (0, 0, 4) else if x < 128 then (n + x * 128 ^ k, k + 1, 0) else tk l (k + 1) (n + (x - 128) * 128 ^ k)
def tkR (a : Int) (r : Int × Nat × Int) : Int × Int × Int := if r.2.2 = 0 then (r.1, a + r.2.1, 0) else (0, 0, r.2.2)
/-- What is read of a string at a place. -/
def takeU (b : ByteArray) (a : Int) : Int × Int × Int :=
  if a < 0 ∨ a > b.size then (0, 0, 1) else tkR a (tk ((ofBytes b).drop a.toNat) 0 0)
theorem pow128 (k : Nat) : (0 : Int) < 128 ^ k := Int.pow_pos (by omega)
theorem pow128_le {j k : Nat} (h : j ≤ k) : (128 : Int) ^ j ≤ 128 ^ k := by
  obtain ⟨d, rfl⟩ := Nat.exists_eq_add_of_le h
  rw [Int.pow_add]
  have h1 := pow128 j
  have h2 := pow128 d
  have := Int.mul_le_mul_of_nonneg_left (show (1 : Int) ≤ 128 ^ d by omega) (show (0 : Int) ≤ 128 ^ j by omega)
  omega
theorem mul_lt_pow {y : Int} {k : Nat} (h : 0 ≤ y ∧ y < 128) : 0 ≤ y * 128 ^ k ∧ y * 128 ^ k + 128 ^ k ≤ 128 ^ (k + 1) := by
  have h1 := pow128 k
  rw [pow_succ128]
  have h2 := Int.mul_le_mul_of_nonneg_right (show y ≤ 127 by omega) (show (0 : Int) ≤ 128 ^ k by omega)
  have h3 := Int.mul_nonneg h.1 (show (0 : Int) ≤ 128 ^ k by omega)
  omega
/-- The bound of the sums. -/
theorem sum_small {n y : Int} {k : Nat} (hk : k ≤ 9) (hn : 0 ≤ n ∧ n < 128 ^ k) (hy : 0 ≤ y ∧ y < 128) (h9 : k = 9 → y ≤ 1) : 0 ≤ y * 128 ^ k ∧ n + y * 128 ^ k < 18446744073709551616 := by
  have h1 := mul_lt_pow (k := k) hy
  refine ⟨h1.1, ?_⟩
  rcases Nat.lt_or_ge k 9 with h | h
  · have := pow128_le (show k + 1 ≤ 9 by omega)
    have e : (128 : Int) ^ 9 = 9223372036854775808 := by decide
    omega
  · have : k = 9 := by omega
    subst this
    have e : (128 : Int) ^ 9 = 9223372036854775808 := by decide
    have := h9 rfl
    have := Int.mul_le_mul_of_nonneg_right this (show (0 : Int) ≤ 128 ^ 9 by omega)
    omega
theorem pow_is (k : Nat) : (2 : Int) ^ (7 * k) = 128 ^ k := by
  rw [Int.pow_mul]; rfl
theorem shl7 (k : Nat) (hk : k ≤ 9) : (2 : Int) ^ min (IntKind.i64.wrap (7 * (k : Int))).toNat 64 = 128 ^ k := by
  rw [i64_ok (by omega), show (7 * (k : Int)).toNat = 7 * k by omega, Nat.min_eq_left (by omega), pow_is]
theorem orshift (n x : Int) (k : Nat) (hk : k ≤ 9) (hn : 0 ≤ n ∧ n < 128 ^ k) (hx : 0 ≤ x ∧ x ≤ 255) (h9 : k = 9 → x ≤ 1) :
    IntKind.u64.wrap (((BitVec.ofInt 64 n ||| BitVec.ofInt 64 (IntKind.u64.wrap (IntKind.u64.wrap (IntKind.u8.wrap (((BitVec.ofInt 8 x &&& BitVec.ofInt 8 127).toNat : Int))) * 2 ^ min (IntKind.i64.wrap (7 * (k : Int))).toNat 64))).toNat : Int)) = n + x % 128 * 128 ^ k := by
  have hs := sum_small (y := x % 128) hk hn (by omega) (fun h => by have := h9 h; omega)
  rw [shl7 k hk, and127', u8_ok (n := x % 128) (by omega), u64_ok (n := x % 128) (by omega), u64_ok (n := x % 128 * 128 ^ k) (by omega)]
  obtain ⟨a, ha⟩ := Int.eq_ofNat_of_zero_le hn.1
  obtain ⟨y, hy⟩ := Int.eq_ofNat_of_zero_le (show 0 ≤ x % 128 by omega)
  have e1 : x % 128 * 128 ^ k = ((2 ^ (7 * k) * y : Nat) : Int) := by
    rw [hy, Int.natCast_mul, Int.natCast_pow]
    rw [show (((2 : Nat) : Int)) = 2 from rfl, pow_is]
    exact Int.mul_comm _ _
  have h2 : a < 2 ^ (7 * k) := by
    have h := hn.2
    rw [ha, ← pow_is] at h
    exact_mod_cast h
  rw [e1] at hs ⊢
  rw [ha] at hs ⊢
  rw [or_nat 64 a _ (by omega) (by omega), Nat.or_comm, ← Nat.two_pow_add_eq_or_of_lt h2, u64_ok (by omega)]
  omega
theorem takel (M : Nat) (b : ByteArray) (hb : b.size ≤ 140737488351232) (a : Int) (ha : 0 ≤ a) : ∀ (l : List Int) (k m : Nat) (n : Int), (ofBytes b).drop (a + k).toNat = l → a + k ≤ b.size → k ≤ 9 → 0 ≤ n → n < 128 ^ k → l.length < m → octet_TakeUint_l6 M m b (a + k) n k = some (tkR a (tk l k n))
  | l, k, 0, n, _, _, _, _, _, hm => by omega
  | [], k, m + 1, n, hl, hle, hk, h0, h1, hm => by
    have : (ofBytes b).length ≤ (a + k).toNat := List.drop_eq_nil_iff.1 hl
    rw [ofBytes_length] at this
    have c : a + k ≥ (b.size : Int) := by omega
    simp only [octet_TakeUint_l6, b_octet_TakeUint_l6, c, decide_true, Bool.cond_true, tk, tkR]
    simp
  | x :: l, k, m + 1, n, hl, hle, hk, h0, h1, hm => by
    have hlen : (ofBytes b).length = (a + k).toNat + (l.length + 1) := by
      have := congrArg List.length hl
      rw [List.length_drop, List.length_cons] at this
      omega
    have hlen' := hlen
    rw [ofBytes_length] at hlen
    have c1 : ¬ a + k ≥ (b.size : Int) := by omega
    have c2 : 0 ≤ a + (k : Int) := by omega
    have c3 : a + (k : Int) < b.size := by omega
    have hx : byteAt b (a + k) = x := by
      rw [byteAt_eq, List.getD_eq_getElem?_getD]
      have : ((ofBytes b).drop (a + k).toNat)[0]? = some x := by rw [hl]; rfl
      rw [List.getElem?_drop, Nat.add_zero] at this
      rw [this]; rfl
    have hxr := byteAt_range b (a + k)
    rw [hx] at hxr
    have hl' : (ofBytes b).drop (a + (k + 1 : Nat)).toNat = l := by
      rw [show (a + (k + 1 : Nat)).toNat = (a + k).toNat + 1 by omega, ← List.drop_drop, hl]; rfl
    have c4 : ¬ IntKind.i64.wrap (7 * (k : Int)) < 0 := by rw [i64_ok (by omega)]; omega
    simp only [octet_TakeUint_l6, b_octet_TakeUint_l6, c1, c2, c3, c4, hx, decide_true, decide_false, Bool.cond_true, Bool.cond_false, tk]
    have fin : ¬ ((k = 9 ∧ x > 1) ∨ (k > 0 ∧ x = 0)) →
        (bif decide (x < 128) then some (IntKind.u64.wrap (((BitVec.ofInt 64 n ||| BitVec.ofInt 64 (IntKind.u64.wrap (IntKind.u64.wrap (IntKind.u8.wrap (((BitVec.ofInt 8 x &&& BitVec.ofInt 8 127).toNat : Int))) * 2 ^ min (IntKind.i64.wrap (7 * (k : Int))).toNat 64))).toNat : Int)), IntKind.i64.wrap (a + k + 1), 0)
          else octet_TakeUint_l6 M m b (IntKind.i64.wrap (a + k + 1)) (IntKind.u64.wrap (((BitVec.ofInt 64 n ||| BitVec.ofInt 64 (IntKind.u64.wrap (IntKind.u64.wrap (IntKind.u8.wrap (((BitVec.ofInt 8 x &&& BitVec.ofInt 8 127).toNat : Int))) * 2 ^ min (IntKind.i64.wrap (7 * (k : Int))).toNat 64))).toNat : Int))) (IntKind.i64.wrap (k + 1))) =
        some (tkR a (if x < 128 then (n + x * 128 ^ k, k + 1, 0) else tk l (k + 1) (n + (x - 128) * 128 ^ k))) := by
      intro hno
      rw [orshift n x k hk ⟨h0, h1⟩ hxr (fun h => by omega), i64_ok (n := a + k + 1) (by omega), i64_ok (n := (k : Int) + 1) (by omega)]
      by_cases c : x < 128
      · simp only [c, decide_true, Bool.cond_true, if_true, tkR]
        rw [Int.emod_eq_of_lt hxr.1 c]
        simp; omega
      · simp only [c, decide_false, Bool.cond_false, if_false]
        have hk9 : k ≠ 9 := fun h => by omega
        have hs := mul_lt_pow (y := x - 128) (k := k) (by omega)
        have := takel M b hb a ha l (k + 1) m (n + (x - 128) * 128 ^ k) hl' (by omega) (by omega) (by omega) (by omega) (by simp at hm; omega)
        rw [show x % 128 = x - 128 by omega, ← this, show (a + ((k + 1 : Nat) : Int)) = a + k + 1 by omega, show (((k + 1 : Nat) : Int)) = (k : Int) + 1 by omega]
    by_cases k9 : k = 9
    · have e9 : ((k : Int) == 9) = true := by simp; omega
      have e0 : decide ((k : Int) > 0) = true := by simp; omega
      simp only [e9, e0, Bool.cond_true]
      by_cases cx : x > 1
      · have hyes : (k = 9 ∧ x > 1) ∨ (k > 0 ∧ x = 0) := .inl ⟨k9, cx⟩
        rw [if_pos hyes]
        simp only [cx, decide_true, Bool.cond_true]
        rfl
      · by_cases cz : x = 0
        · have hyes : (k = 9 ∧ x > 1) ∨ (k > 0 ∧ x = 0) := .inr ⟨by omega, cz⟩
          rw [if_pos hyes]
          simp only [cx, decide_false, Bool.cond_false, Bool.cond_true, show (x == 0) = true by simpa using cz]
          rfl
        · have hno : ¬ ((k = 9 ∧ x > 1) ∨ (k > 0 ∧ x = 0)) := by omega
          rw [if_neg hno]
          simp only [cx, decide_false, Bool.cond_false, show (x == 0) = false by simpa using cz]
          exact fin hno
    · have e9 : ((k : Int) == 9) = false := by simp; omega
      simp only [e9, Bool.cond_false]
      by_cases k0 : k = 0
      · subst k0
        have hno : ¬ (((0 : Nat) = 9 ∧ x > 1) ∨ ((0 : Nat) > 0 ∧ x = 0)) := by omega
        have := fin hno
        have e0 : decide ((((0 : Nat) : Int)) > 0) = false := rfl
        simp only [e0, Bool.cond_false, if_neg hno]
        exact this
      · have e0 : decide ((k : Int) > 0) = true := by simp; omega
        simp only [e0, Bool.cond_true]
        by_cases cz : x = 0
        · subst cz
          simp [tkR, k0, show 0 < k by omega]
        · have hno : ¬ ((k = 9 ∧ x > 1) ∨ (k > 0 ∧ x = 0)) := by omega
          have := fin hno
          simp only [show (x == 0) = false by simpa using cz, Bool.cond_false, if_neg hno]
          exact this
theorem takeUint (M : Nat) (b : ByteArray) (a : Int) (hb : b.size ≤ 140737488351232) (hM : b.size < M) : octet_TakeUint M b a = some (takeU b a) := by
  unfold octet_TakeUint b_octet_TakeUint takeU
  by_cases c1 : a < 0
  · simp [c1]
  · by_cases c2 : a > b.size
    · simp [c2]
    · simp only [c1, c2, decide_false, Bool.cond_false, or_self, if_false]
      have := takel M b hb a (by omega) _ 0 M 0 rfl (by omega) (by omega) (by omega) (by simp) (by rw [List.length_drop, ofBytes_length]; omega)
      simpa using this
end Go.Abs.K
