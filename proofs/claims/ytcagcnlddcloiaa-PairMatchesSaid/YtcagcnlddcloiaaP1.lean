/- OCTET: what is appended for a number, what is read. -/
import Derived.Test.YtcagcnlddcloiaaF2
import Derived.Test.YtcagcnlddcloiaaA33
import Derived.Test.YtcagcnlddcloiaaA34
set_option linter.unusedVariables false
set_option linter.unusedSimpArgs false
namespace Go.Abs.K
open Go Go.Abs Go.Proofs

/-- The bytes of a number, at most k + 1 of them. -/
def leb : Nat → Int → List Int
  | 0, n => [n]
  | k + 1, n => if n ≥ 128 then (n % 128 + 128) :: leb k (n / 128) else [n]
theorem and127 (n : Int) : (((BitVec.ofInt 64 n &&& BitVec.ofInt 64 127).toNat : Nat) : Int) = n % 128 := and_low 64 7 n (by omega)
theorem and127' (n : Int) : (((BitVec.ofInt 8 n &&& BitVec.ofInt 8 127).toNat : Nat) : Int) = n % 128 := and_low 8 7 n (by omega)
theorem or128 (x : Int) (h : 0 ≤ x ∧ x < 128) : (((BitVec.ofInt 8 x ||| BitVec.ofInt 8 128).toNat : Nat) : Int) = x + 128 := by
  obtain ⟨k, rfl⟩ := Int.eq_ofNat_of_zero_le h.1
  have := or_nat 8 k 128 (by omega) (by omega)
  rw [show ((128 : Nat) : Int) = 128 from rfl] at this
  rw [this, Nat.or_comm]
  have := Nat.two_pow_add_eq_or_of_lt (i := 7) (b := k) (by omega) 1
  simp at this
  omega
theorem step_byte (n : Int) : IntKind.u8.wrap (((BitVec.ofInt 8 (IntKind.u8.wrap (IntKind.u64.wrap (((BitVec.ofInt 64 n &&& BitVec.ofInt 64 127).toNat : Int)))) ||| BitVec.ofInt 8 128).toNat : Int)) = n % 128 + 128 := by
  rw [and127, u64_ok (n := n % 128) (by omega), u8_ok (n := n % 128) (by omega), or128 _ (by omega), u8_ok (n := n % 128 + 128) (by omega)]
theorem fdiv128 (n : Int) : n.fdiv 128 = n / 128 := Int.fdiv_eq_ediv_of_nonneg _ (by omega)
theorem pow_succ128 (k : Nat) : (128 : Int) ^ (k + 1) = 128 ^ k * 128 := Int.pow_succ 128 k
theorem div_lt_pow (k : Nat) (n : Int) (h : n < 128 ^ (k + 1)) : n / 128 < 128 ^ k := by
  rw [pow_succ128] at h; exact Int.ediv_lt_of_lt_mul (by omega) h
theorem putl (M : Nat) : ∀ (k m : Nat) (n : Int) (b : List Int), 0 ≤ n → n < 128 ^ (k + 1) → k < m → b.length + k + 1 ≤ 140737488355328 → octet_PutUint_l2s1 M m n b = some (b ++ leb k n)
  | k, 0, n, b, _, _, hm, _ => by omega
  | 0, m + 1, n, b, h0, h1, hm, hb => by
    have : ¬ n ≥ 128 := by simp at h1; omega
    have hl : decide ((b.length + 1) * 1 ≤ 140737488355328) = true := by simp; omega
    simp only [octet_PutUint_l2s1, b_octet_PutUint_l2s1, this, leb, hl, decide_false, Bool.cond_false, Bool.cond_true]
    rw [u8_ok (by omega)]
  | k + 1, m + 1, n, b, h0, h1, hm, hb => by
    have hl : decide ((b.length + 1) * 1 ≤ 140737488355328) = true := by simp; omega
    simp only [octet_PutUint_l2s1, b_octet_PutUint_l2s1, leb, step_byte, fdiv128, hl, Bool.cond_true]
    by_cases hc : n ≥ 128
    · simp only [hc, decide_true, Bool.cond_true, if_true]
      rw [putl M k m (n / 128) _ (by omega) (div_lt_pow _ _ h1) (by omega) (by simp; omega)]
      simp
    · simp only [hc, decide_false, Bool.cond_false, Bool.cond_true, if_false]
      rw [u8_ok (by omega)]
theorem u64_pow {n : Int} (h : n ≤ 18446744073709551615) : n < 128 ^ (9 + 1) := by simp; omega
theorem putUint (M : Nat) (b : List Int) (n : Int) (h0 : 0 ≤ n) (h1 : n ≤ 18446744073709551615) (hM : 10 < M) (hb : b.length + 10 ≤ 140737488355328) : octet_PutUint M b n = some (b ++ leb 9 n) := by
  obtain ⟨m, rfl⟩ : ∃ m, M = m + 1 := ⟨M - 1, by omega⟩
  have hd : List.drop 0 (List.take ((b.length : Int)).toNat b) = b := by simp
  have hl : decide ((b.length + 1) * 1 ≤ 140737488355328) = true := by simp; omega
  simp only [octet_PutUint, b_octet_PutUint, Int.le_refl, decide_true, Bool.cond_true, hd, octet_PutUint_l2, b_octet_PutUint_l2, step_byte, fdiv128, hl]
  rw [show leb 9 n = if n ≥ 128 then (n % 128 + 128) :: leb 8 (n / 128) else [n] from rfl]
  by_cases hc : n ≥ 128
  · simp only [hc, decide_true, Bool.cond_true, if_true]
    rw [putl (m + 1) 8 m (n / 128) _ (by omega) (div_lt_pow _ _ (u64_pow h1)) (by omega) (by simp; omega)]
    simp
  · simp only [hc, decide_false, Bool.cond_false, Bool.cond_true, if_false]
    rw [u8_ok (by omega)]
/-- The number for an int. -/
def zig (n : Int) : Int := if n < 0 then 2 * (-(n + 1)) + 1 else 2 * n
theorem zig_range (n : Int) (h0 : -9223372036854775808 ≤ n) (h1 : n ≤ 9223372036854775807) : 0 ≤ zig n ∧ zig n ≤ 18446744073709551615 := by unfold zig; split <;> omega
theorem putInt (M : Nat) (b : List Int) (n : Int) (h0 : -9223372036854775808 ≤ n) (h1 : n ≤ 9223372036854775807) (hM : 10 < M) (hb : b.length + 10 ≤ 140737488355328) : octet_PutInt M b n = some (b ++ leb 9 (zig n)) := by
  have hz := zig_range n h0 h1
  unfold octet_PutInt b_octet_PutInt
  unfold zig at hz ⊢
  by_cases hn : n < 0
  · simp only [hn, decide_true, Bool.cond_true, if_true] at hz ⊢
    rw [i64_ok (n := n + 1) (by omega), i64_ok (by omega), u64_ok (n := 0 - (n + 1)) (by omega), u64_ok (n := (0 - (n + 1)) * 2) (by omega), u64_ok (by omega), putUint M b _ (by omega) (by omega) hM hb]
    simp; congr 1; omega
  · simp only [hn, decide_false, Bool.cond_false, if_false] at hz ⊢
    rw [u64_ok (n := n) (by omega), u64_ok (by omega), putUint M b _ (by omega) (by omega) hM hb]
    simp; congr 1; omega
/-- What is read of bytes, the first k having been read: the number, how many bytes in all, the error. -/
def tk : List Int → Nat → Int → Int × Nat × Int
  | [], _, _ => (0, 0, 5)
  | x :: l, k, n => if (k = 9 ∧ x > 1) ∨ (k > 0 ∧ x = 0) then (0, 0, 4) else if x < 128 then (n + x * 128 ^ k, k + 1, 0) else tk l (k + 1) (n + (x - 128) * 128 ^ k)
def tkR (a : Int) (r : Int × Nat × Int) : Int × Int × Int := if r.2.2 = 0 then (r.1, a + r.2.1, 0) else (0, 0, r.2.2)
/-- What is read of a string at a place. -/
def takeU (b : ByteArray) (a : Int) : Int × Int × Int :=
  if a < 0 ∨ a > b.size then (0, 0, 1) else tkR a (tk ((ofBytes b).drop a.toNat) 0 0)
theorem pow128 (k : Nat) : (0 : Int) < 128 ^ k := Int.pow_pos (by omega)
theorem pow128_le {j k : Nat} (h : j ≤ k) : (128 : Int) ^ j ≤ 128 ^ k := by
  obtain ⟨d, rfl⟩ := Nat.exists_eq_add_of_le h
  rw [Int.pow_add]
  have h1 := pow128 j
  have h2 := pow128 d
  have := Int.mul_le_mul_of_nonneg_left (show (1 : Int) ≤ 128 ^ d by omega) (show (0 : Int) ≤ 128 ^ j by omega)
  omega
theorem mul_lt_pow {y : Int} {k : Nat} (h : 0 ≤ y ∧ y < 128) : 0 ≤ y * 128 ^ k ∧ y * 128 ^ k + 128 ^ k ≤ 128 ^ (k + 1) := by
  have h1 := pow128 k
  rw [pow_succ128]
  have h2 := Int.mul_le_mul_of_nonneg_right (show y ≤ 127 by omega) (show (0 : Int) ≤ 128 ^ k by omega)
  have h3 := Int.mul_nonneg h.1 (show (0 : Int) ≤ 128 ^ k by omega)
  omega
/-- The bound of the sums. -/
theorem sum_small {n y : Int} {k : Nat} (hk : k ≤ 9) (hn : 0 ≤ n ∧ n < 128 ^ k) (hy : 0 ≤ y ∧ y < 128) (h9 : k = 9 → y ≤ 1) : 0 ≤ y * 128 ^ k ∧ n + y * 128 ^ k < 18446744073709551616 := by
  have h1 := mul_lt_pow (k := k) hy
  refine ⟨h1.1, ?_⟩
  rcases Nat.lt_or_ge k 9 with h | h
  · have := pow128_le (show k + 1 ≤ 9 by omega)
    have e : (128 : Int) ^ 9 = 9223372036854775808 := by decide
    omega
  · have : k = 9 := by omega
    subst this
    have e : (128 : Int) ^ 9 = 9223372036854775808 := by decide
    have := h9 rfl
    have := Int.mul_le_mul_of_nonneg_right this (show (0 : Int) ≤ 128 ^ 9 by omega)
    omega
theorem pow_is (k : Nat) : (2 : Int) ^ (7 * k) = 128 ^ k := by
  rw [Int.pow_mul]; rfl
theorem shl7 (k : Nat) (hk : k ≤ 9) : (2 : Int) ^ min (IntKind.i64.wrap (7 * (k : Int))).toNat 64 = 128 ^ k := by
  rw [i64_ok (by omega), show (7 * (k : Int)).toNat = 7 * k by omega, Nat.min_eq_left (by omega), pow_is]
theorem orshift (n x : Int) (k : Nat) (hk : k ≤ 9) (hn : 0 ≤ n ∧ n < 128 ^ k) (hx : 0 ≤ x ∧ x ≤ 255) (h9 : k = 9 → x ≤ 1) :
    IntKind.u64.wrap (((BitVec.ofInt 64 n ||| BitVec.ofInt 64 (IntKind.u64.wrap (IntKind.u64.wrap (IntKind.u8.wrap (((BitVec.ofInt 8 x &&& BitVec.ofInt 8 127).toNat : Int))) * 2 ^ min (IntKind.i64.wrap (7 * (k : Int))).toNat 64))).toNat : Int)) = n + x % 128 * 128 ^ k := by
  have hs := sum_small (y := x % 128) hk hn (by omega) (fun h => by have := h9 h; omega)
  rw [shl7 k hk, and127', u8_ok (n := x % 128) (by omega), u64_ok (n := x % 128) (by omega), u64_ok (n := x % 128 * 128 ^ k) (by omega)]
  obtain ⟨a, ha⟩ := Int.eq_ofNat_of_zero_le hn.1
  obtain ⟨y, hy⟩ := Int.eq_ofNat_of_zero_le (show 0 ≤ x % 128 by omega)
  have e1 : x % 128 * 128 ^ k = ((2 ^ (7 * k) * y : Nat) : Int) := by
    rw [hy, Int.natCast_mul, Int.natCast_pow]
    rw [show (((2 : Nat) : Int)) = 2 from rfl, pow_is]
    exact Int.mul_comm _ _
  have h2 : a < 2 ^ (7 * k) := by
    have h := hn.2
    rw [ha, ← pow_is] at h
    exact_mod_cast h
  rw [e1] at hs ⊢
  rw [ha] at hs ⊢
  rw [or_nat 64 a _ (by omega) (by omega), Nat.or_comm, ← Nat.two_pow_add_eq_or_of_lt h2, u64_ok (by omega)]
  omega
theorem takel (M : Nat) (b : ByteArray) (hb : b.size ≤ 140737488351232) (a : Int) (ha : 0 ≤ a) : ∀ (l : List Int) (k m : Nat) (n : Int), (ofBytes b).drop (a + k).toNat = l → a + k ≤ b.size → k ≤ 9 → 0 ≤ n → n < 128 ^ k → l.length < m → octet_TakeUint_l6 M m b (a + k) n k = some (tkR a (tk l k n))
  | l, k, 0, n, _, _, _, _, _, hm => by omega
  | [], k, m + 1, n, hl, hle, hk, h0, h1, hm => by
    have : (ofBytes b).length ≤ (a + k).toNat := List.drop_eq_nil_iff.1 hl
    rw [ofBytes_length] at this
    have c : a + k ≥ (b.size : Int) := by omega
    simp only [octet_TakeUint_l6, b_octet_TakeUint_l6, c, decide_true, Bool.cond_true, tk, tkR]
    simp
  | x :: l, k, m + 1, n, hl, hle, hk, h0, h1, hm => by
    have hlen : (ofBytes b).length = (a + k).toNat + (l.length + 1) := by
      have := congrArg List.length hl
      rw [List.length_drop, List.length_cons] at this
      omega
    have hlen' := hlen
    rw [ofBytes_length] at hlen
    have c1 : ¬ a + k ≥ (b.size : Int) := by omega
    have c2 : 0 ≤ a + (k : Int) := by omega
    have c3 : a + (k : Int) < b.size := by omega
    have hx : byteAt b (a + k) = x := by
      rw [byteAt_eq, List.getD_eq_getElem?_getD]
      have : ((ofBytes b).drop (a + k).toNat)[0]? = some x := by rw [hl]; rfl
      rw [List.getElem?_drop, Nat.add_zero] at this
      rw [this]; rfl
    have hxr := byteAt_range b (a + k)
    rw [hx] at hxr
    have hl' : (ofBytes b).drop (a + (k + 1 : Nat)).toNat = l := by
      rw [show (a + (k + 1 : Nat)).toNat = (a + k).toNat + 1 by omega, ← List.drop_drop, hl]; rfl
    have c4 : ¬ IntKind.i64.wrap (7 * (k : Int)) < 0 := by rw [i64_ok (by omega)]; omega
    simp only [octet_TakeUint_l6, b_octet_TakeUint_l6, c1, c2, c3, c4, hx, decide_true, decide_false, Bool.cond_true, Bool.cond_false, tk]
    have fin : ¬ ((k = 9 ∧ x > 1) ∨ (k > 0 ∧ x = 0)) →
        (bif decide (x < 128) then some (IntKind.u64.wrap (((BitVec.ofInt 64 n ||| BitVec.ofInt 64 (IntKind.u64.wrap (IntKind.u64.wrap (IntKind.u8.wrap (((BitVec.ofInt 8 x &&& BitVec.ofInt 8 127).toNat : Int))) * 2 ^ min (IntKind.i64.wrap (7 * (k : Int))).toNat 64))).toNat : Int)), IntKind.i64.wrap (a + k + 1), 0)
          else octet_TakeUint_l6 M m b (IntKind.i64.wrap (a + k + 1)) (IntKind.u64.wrap (((BitVec.ofInt 64 n ||| BitVec.ofInt 64 (IntKind.u64.wrap (IntKind.u64.wrap (IntKind.u8.wrap (((BitVec.ofInt 8 x &&& BitVec.ofInt 8 127).toNat : Int))) * 2 ^ min (IntKind.i64.wrap (7 * (k : Int))).toNat 64))).toNat : Int))) (IntKind.i64.wrap (k + 1))) =
        some (tkR a (if x < 128 then (n + x * 128 ^ k, k + 1, 0) else tk l (k + 1) (n + (x - 128) * 128 ^ k))) := by
      intro hno
      rw [orshift n x k hk ⟨h0, h1⟩ hxr (fun h => by omega), i64_ok (n := a + k + 1) (by omega), i64_ok (n := (k : Int) + 1) (by omega)]
      by_cases c : x < 128
      · simp only [c, decide_true, Bool.cond_true, if_true, tkR]
        rw [Int.emod_eq_of_lt hxr.1 c]
        simp; omega
      · simp only [c, decide_false, Bool.cond_false, if_false]
        have hk9 : k ≠ 9 := fun h => by omega
        have hs := mul_lt_pow (y := x - 128) (k := k) (by omega)
        have := takel M b hb a ha l (k + 1) m (n + (x - 128) * 128 ^ k) hl' (by omega) (by omega) (by omega) (by omega) (by simp at hm; omega)
        rw [show x % 128 = x - 128 by omega, ← this, show (a + ((k + 1 : Nat) : Int)) = a + k + 1 by omega, show (((k + 1 : Nat) : Int)) = (k : Int) + 1 by omega]
    by_cases k9 : k = 9
    · have e9 : ((k : Int) == 9) = true := by simp; omega
      have e0 : decide ((k : Int) > 0) = true := by simp; omega
      simp only [e9, e0, Bool.cond_true]
      by_cases cx : x > 1
      · have hyes : (k = 9 ∧ x > 1) ∨ (k > 0 ∧ x = 0) := .inl ⟨k9, cx⟩
        rw [if_pos hyes]
        simp only [cx, decide_true, Bool.cond_true]
        rfl
      · by_cases cz : x = 0
        · have hyes : (k = 9 ∧ x > 1) ∨ (k > 0 ∧ x = 0) := .inr ⟨by omega, cz⟩
          rw [if_pos hyes]
          simp only [cx, decide_false, Bool.cond_false, Bool.cond_true, show (x == 0) = true by simpa using cz]
          rfl
        · have hno : ¬ ((k = 9 ∧ x > 1) ∨ (k > 0 ∧ x = 0)) := by omega
          rw [if_neg hno]
          simp only [cx, decide_false, Bool.cond_false, show (x == 0) = false by simpa using cz]
          exact fin hno
    · have e9 : ((k : Int) == 9) = false := by simp; omega
      simp only [e9, Bool.cond_false]
      by_cases k0 : k = 0
      · subst k0
        have hno : ¬ (((0 : Nat) = 9 ∧ x > 1) ∨ ((0 : Nat) > 0 ∧ x = 0)) := by omega
        have := fin hno
        have e0 : decide ((((0 : Nat) : Int)) > 0) = false := rfl
        simp only [e0, Bool.cond_false, if_neg hno]
        exact this
      · have e0 : decide ((k : Int) > 0) = true := by simp; omega
        simp only [e0, Bool.cond_true]
        by_cases cz : x = 0
        · subst cz
          simp [tkR, k0, show 0 < k by omega]
        · have hno : ¬ ((k = 9 ∧ x > 1) ∨ (k > 0 ∧ x = 0)) := by omega
          have := fin hno
          simp only [show (x == 0) = false by simpa using cz, Bool.cond_false, if_neg hno]
          exact this
theorem takeUint (M : Nat) (b : ByteArray) (a : Int) (hb : b.size ≤ 140737488351232) (hM : b.size < M) : octet_TakeUint M b a = some (takeU b a) := by
  unfold octet_TakeUint b_octet_TakeUint takeU
  by_cases c1 : a < 0
  · simp [c1]
  · by_cases c2 : a > b.size
    · simp [c2]
    · simp only [c1, c2, decide_false, Bool.cond_false, or_self, if_false]
      have := takel M b hb a (by omega) _ 0 M 0 rfl (by omega) (by omega) (by omega) (by simp) (by rw [List.length_drop, ofBytes_length]; omega)
      simpa using this
theorem leb_length : ∀ (k : Nat) (n : Int), (leb k n).length ≤ k + 1 ∧ 1 ≤ (leb k n).length
  | 0, n => by simp [leb]
  | k + 1, n => by
    unfold leb
    split
    · have := leb_length k (n / 128)
      simp; omega
    · simp
theorem leb_bytes : ∀ (k : Nat) (n : Int), 0 ≤ n → n < 128 ^ (k + 1) → Bytes (leb k n)
  | 0, n, h0, h1, x, hx => by simp [leb] at hx h1; omega
  | k + 1, n, h0, h1, x, hx => by
    unfold leb at hx
    split at hx
    · rcases List.mem_cons.1 hx with rfl | hx
      · omega
      · exact leb_bytes k (n / 128) (by omega) (div_lt_pow _ _ h1) x hx
    · simp at hx; omega
/-- What is read of the bytes of a number. -/
theorem tk_leb : ∀ (j k : Nat) (n : Int) (acc : Int) (rest : List Int), j + k = 9 → 0 ≤ n → n * 128 ^ k ≤ 18446744073709551615 → (k > 0 → 1 ≤ n) → tk (leb j n ++ rest) k acc = (acc + n * 128 ^ k, k + (leb j n).length, 0)
  | 0, k, n, acc, rest, hjk, h0, h1, hk => by
    have hk9 : k = 9 := by omega
    subst hk9
    have e : (128 : Int) ^ 9 = 9223372036854775808 := by decide
    have hn : n ≤ 1 := by omega
    have hn1 := hk (by omega)
    have hno : ¬ ((9 = 9 ∧ n > 1) ∨ (9 > 0 ∧ n = 0)) := by omega
    rw [show leb 0 n = [n] from rfl, List.cons_append, List.nil_append]
    unfold tk
    rw [if_neg hno, if_pos (by omega)]
    rfl
  | j + 1, k, n, acc, rest, hjk, h0, h1, hk => by
    have hp := pow128 k
    unfold leb
    by_cases c : n ≥ 128
    · rw [if_pos c, List.cons_append]
      unfold tk
      have hno : ¬ ((k = 9 ∧ n % 128 + 128 > 1) ∨ (k > 0 ∧ n % 128 + 128 = 0)) := by omega
      rw [if_neg hno, if_neg (by omega)]
      have hm : n / 128 * 128 ^ (k + 1) + n % 128 * 128 ^ k = n * 128 ^ k := by
        rw [pow_succ128, ← Int.mul_assoc, Int.mul_right_comm, ← Int.add_mul]
        congr 1; omega
      have hnn : 0 ≤ n % 128 * 128 ^ k := Int.mul_nonneg (by omega) (by omega)
      rw [tk_leb j (k + 1) (n / 128) _ rest (by omega) (by omega) (by omega) (by omega)]
      rw [show n % 128 + 128 - 128 = n % 128 by omega, List.length_cons]
      simp only [Prod.mk.injEq, and_true]
      omega
    · rw [if_neg c, List.cons_append, List.nil_append]
      unfold tk
      have hno : ¬ ((k = 9 ∧ n > 1) ∨ (k > 0 ∧ n = 0)) := by omega
      rw [if_neg hno, if_pos (by omega)]
      rfl
theorem takeU_leb (b : ByteArray) (pre rest : List Int) (n : Int) (h0 : 0 ≤ n) (h1 : n ≤ 18446744073709551615) (hb : ofBytes b = pre ++ leb 9 n ++ rest) : takeU b pre.length = (n, (pre.length : Int) + (leb 9 n).length, 0) := by
  have hlen : b.size = pre.length + (leb 9 n).length + rest.length := by rw [← ofBytes_length, hb]; simp; omega
  unfold takeU
  rw [if_neg (by omega), Int.toNat_natCast, hb, List.append_assoc, List.drop_left, tk_leb 9 0 n 0 rest rfl h0 (by simpa using h1) (by simp)]
  simp [tkR]

theorem takeInt_at (M : Nat) (b : ByteArray) (pre rest : List Int) (n : Int) (hs : b.size ≤ 140737488351232) (hM : b.size < M) (h0 : 0 ≤ n) (h1 : n ≤ 4611686018427387904) (hb : ofBytes b = pre ++ leb 9 (2 * n) ++ rest) :
    octet_TakeInt M b pre.length = some (n, (pre.length : Int) + (leb 9 (2 * n)).length, 0) := by
  unfold octet_TakeInt b_octet_TakeInt
  rw [takeUint M b _ hs hM, takeU_leb b pre rest (2 * n) (by omega) (by omega) hb]
  simp only [Option.bind_some]
  have e1 : (2 * n).tmod 2 = 0 := by rw [Int.tmod_eq_emod_of_nonneg (by omega)]; omega
  have e2 : (2 * n).tdiv 2 = n := by rw [Int.tdiv_eq_ediv_of_nonneg (by omega)]; omega
  rw [e1, e2, bne_if, if_pos rfl, beq_if, if_neg (by omega), u64_ok (n := n) (by omega), i64_ok (n := n) (by omega)]
theorem putInt_of (M : Nat) (b : List Int) (n : Int) (h0 : 0 ≤ n) (h1 : n ≤ 4611686018427387904) (hM : 10 < M) (hb : b.length + 10 ≤ 140737488355328) : octet_PutInt M b n = some (b ++ leb 9 (2 * n)) := by
  rw [putInt M b n (by omega) (by omega) hM hb]
  unfold zig
  rw [if_neg (by omega)]
end Go.Abs.K
