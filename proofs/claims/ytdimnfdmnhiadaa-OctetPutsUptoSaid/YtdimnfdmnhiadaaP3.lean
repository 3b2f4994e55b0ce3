/- OCTET: what the document's reading of a number gives; examples. -/
import Derived.Test.YtdimnfdmnhiadaaP2
set_option linter.unusedVariables false
set_option linter.unusedSimpArgs false
namespace Go.Abs.K
open Go Go.Abs Go.Proofs

theorem rsum (n x : Int) (k : Nat) (hk : k ≤ 9) (hn : 0 ≤ n ∧ n < 128 ^ k) (hx : 0 ≤ x ∧ x ≤ 255) (h9 : k = 9 → x ≤ 1) :
    IntKind.u64.wrap (n + IntKind.u64.wrap (IntKind.u64.wrap (x.tmod 128) * 128 ^ k)) = n + x % 128 * 128 ^ k := by
  have hs := sum_small (y := x % 128) hk hn (by omega) (fun h => by have := h9 h; omega)
  rw [IntWalk.rem_in _ _ hx.1, u64_ok (n := x % 128) (by omega), u64_ok (n := x % 128 * 128 ^ k) (by omega), u64_ok (by omega)]
theorem rtakel (M : Nat) (b : ByteArray) (hb : b.size ≤ 140737488351232) (a : Int) (ha : 0 ≤ a) : ∀ (l : List Int) (k m : Nat) (n : Int), (ofBytes b).drop (a + k).toNat = l → a + k ≤ b.size → k ≤ 9 → 0 ≤ n → n < 128 ^ k → l.length < m → ref02_TakeUint_l6 M m b a n (128 ^ k) k = some (tkR a (tk l k n))
  | l, k, 0, n, _, _, _, _, _, hm => by omega
  | [], k, m + 1, n, hl, hle, hk, h0, h1, hm => by
    have : (ofBytes b).length ≤ (a + k).toNat := List.drop_eq_nil_iff.1 hl
    rw [ofBytes_length] at this
    have c0 : (k : Int) < 10 := by omega
    have c : a + k ≥ (b.size : Int) := by omega
    simp only [ref02_TakeUint_l6, b_ref02_TakeUint_l6, i64_ok (n := a + k) (by omega), c0, c, decide_true, Bool.cond_true, tk, tkR]
    simp
  | x :: l, k, m + 1, n, hl, hle, hk, h0, h1, hm => by
    have hlen : (ofBytes b).length = (a + k).toNat + (l.length + 1) := by
      have := congrArg List.length hl
      rw [List.length_drop, List.length_cons] at this
      omega
    have hlen' := hlen
    rw [ofBytes_length] at hlen
    have c0 : (k : Int) < 10 := by omega
    have c1 : ¬ a + k ≥ (b.size : Int) := by omega
    have c2 : 0 ≤ a + (k : Int) := by omega
    have c3 : a + (k : Int) < b.size := by omega
    have hx : byteAt b (a + k) = x := by
      rw [byteAt_eq, List.getD_eq_getElem?_getD]
      have : ((ofBytes b).drop (a + k).toNat)[0]? = some x := by rw [hl]; rfl
      rw [List.getElem?_drop, Nat.add_zero] at this
      rw [this]; rfl
    have hxr := byteAt_range b (a + k)
    rw [hx] at hxr
    have hl' : (ofBytes b).drop (a + (k + 1 : Nat)).toNat = l := by
      rw [show (a + (k + 1 : Nat)).toNat = (a + k).toNat + 1 by omega, ← List.drop_drop, hl]; rfl
    simp only [ref02_TakeUint_l6, b_ref02_TakeUint_l6, i64_ok (n := a + k) (by omega), c0, c1, c2, c3, hx, decide_true, decide_false, Bool.cond_true, Bool.cond_false, tk]
    have fin : ¬ ((k = 9 ∧ x > 1) ∨ (k > 0 ∧ x = 0)) →
        (bif decide (x < 128) then some (IntKind.u64.wrap (n + IntKind.u64.wrap (IntKind.u64.wrap (x.tmod 128) * 128 ^ k)), IntKind.i64.wrap (a + k + 1), 0)
          else ref02_TakeUint_l6 M m b a (IntKind.u64.wrap (n + IntKind.u64.wrap (IntKind.u64.wrap (x.tmod 128) * 128 ^ k))) (IntKind.u64.wrap (128 ^ k * 128)) (IntKind.i64.wrap (k + 1))) =
        some (tkR a (if x < 128 then (n + x * 128 ^ k, k + 1, 0) else tk l (k + 1) (n + (x - 128) * 128 ^ k))) := by
      intro hno
      rw [rsum n x k hk ⟨h0, h1⟩ hxr (fun h => by omega), i64_ok (n := a + k + 1) (by omega), i64_ok (n := (k : Int) + 1) (by omega)]
      by_cases c : x < 128
      · simp only [c, decide_true, Bool.cond_true, if_true, tkR]
        rw [Int.emod_eq_of_lt hxr.1 c]
        simp; omega
      · simp only [c, decide_false, Bool.cond_false, if_false]
        have hk9 : k ≠ 9 := fun h => by omega
        have hs := mul_lt_pow (y := x - 128) (k := k) (by omega)
        have := rtakel M b hb a ha l (k + 1) m (n + (x - 128) * 128 ^ k) hl' (by omega) (by omega) (by omega) (by omega) (by simp at hm; omega)
        have hw : (128 : Int) ^ k * 128 = 128 ^ (k + 1) := (pow_succ128 k).symm
        have hp := pow128_le (show k + 1 ≤ 9 by omega)
        have e : (128 : Int) ^ 9 = 9223372036854775808 := by decide
        have hp0 := pow128 (k + 1)
        rw [show x % 128 = x - 128 by omega, ← this, hw, u64_ok (by omega), show (((k + 1 : Nat) : Int)) = (k : Int) + 1 by omega]
    by_cases k9 : k = 9
    · have e9 : ((k : Int) == 9) = true := by simp; omega
      have e0 : decide ((k : Int) > 0) = true := by simp; omega
      simp only [e9, e0, Bool.cond_true]
      by_cases cx : x > 1
      · have hyes : (k = 9 ∧ x > 1) ∨ (k > 0 ∧ x = 0) := .inl ⟨k9, cx⟩
        rw [if_pos hyes]
        simp only [cx, decide_true, Bool.cond_true]
        rfl
      · by_cases cz : x = 0
        · have hyes : (k = 9 ∧ x > 1) ∨ (k > 0 ∧ x = 0) := .inr ⟨by omega, cz⟩
          rw [if_pos hyes]
          simp only [cx, decide_false, Bool.cond_false, Bool.cond_true, show (x == 0) = true by simpa using cz]
          rfl
        · have hno : ¬ ((k = 9 ∧ x > 1) ∨ (k > 0 ∧ x = 0)) := by omega
          rw [if_neg hno]
          simp only [cx, decide_false, Bool.cond_false, show (x == 0) = false by simpa using cz]
          exact fin hno
    · have e9 : ((k : Int) == 9) = false := by simp; omega
      simp only [e9, Bool.cond_false]
      by_cases k0 : k = 0
      · subst k0
        have hno : ¬ (((0 : Nat) = 9 ∧ x > 1) ∨ ((0 : Nat) > 0 ∧ x = 0)) := by omega
        have := fin hno
        have e0 : decide ((((0 : Nat) : Int)) > 0) = false := rfl
        simp only [e0, Bool.cond_false, if_neg hno]
        exact this
      · have e0 : decide ((k : Int) > 0) = true := by simp; omega
        simp only [e0, Bool.cond_true]
        by_cases cz : x = 0
        · subst cz
          simp [tkR, k0, show 0 < k by omega]
        · have hno : ¬ ((k = 9 ∧ x > 1) ∨ (k > 0 ∧ x = 0)) := by omega
          have := fin hno
          simp only [show (x == 0) = false by simpa using cz, Bool.cond_false, if_neg hno]
          exact this
theorem rtakeUint (M : Nat) (b : ByteArray) (a : Int) (hb : b.size ≤ 140737488351232) (hM : b.size < M) : ref02_TakeUint M b a = some (takeU b a) := by
  unfold ref02_TakeUint b_ref02_TakeUint takeU
  by_cases c1 : a < 0
  · simp [c1]
  · by_cases c2 : a > b.size
    · simp [c2]
    · simp only [c1, c2, decide_false, Bool.cond_false, or_self, if_false]
      have := rtakel M b hb a (by omega) _ 0 M 0 rfl (by omega) (by omega) (by omega) (by simp) (by rw [List.length_drop, ofBytes_length]; omega)
      simpa using this

theorem awake_true (M : Nat) (hM : 20 < M) : law02_awake M = some true := by
  obtain ⟨m, rfl⟩ : ∃ m, M = m + 20 := ⟨M - 20, by omega⟩
  kernel_rfl
theorem tk_range : ∀ (l : List Int) (k : Nat) (n : Int), Bytes l → k ≤ 9 → 0 ≤ n → n < 128 ^ k → (tk l k n).2.2 = 0 → 0 ≤ (tk l k n).1 ∧ (tk l k n).1 < 18446744073709551616 ∧ k < (tk l k n).2.1 ∧ (tk l k n).2.1 ≤ k + l.length ∧ (tk l k n).2.1 ≤ 10 ∧ leb (9 - k) ((tk l k n).1 / 128 ^ k) = l.take ((tk l k n).2.1 - k) ∧ (tk l k n).1 % 128 ^ k = n ∧ (k > 0 → 1 ≤ (tk l k n).1 / 128 ^ k)
  | [], k, n, hb, hk, h0, h1, he => by simp [tk] at he
  | x :: l, k, n, hb, hk, h0, h1, he => by
    have hx := hb x (by simp)
    have hp := pow128 k
    unfold tk at he ⊢
    by_cases hno : (k = 9 ∧ x > 1) ∨ (k > 0 ∧ x = 0)
    · rw [if_pos hno] at he; simp at he
    · rw [if_neg hno] at he ⊢
      by_cases c : x < 128
      · rw [if_pos c] at he ⊢
        have hs := sum_small (y := x) hk ⟨h0, h1⟩ (by omega) (fun h => by omega)
        have hd : (n + x * 128 ^ k) / 128 ^ k = x := by
          rw [Int.add_mul_ediv_right _ _ (by omega), Int.ediv_eq_zero_of_lt h0 h1]; omega
        refine ⟨by dsimp only; omega, hs.2, by dsimp only; omega, by simp, by dsimp only; omega, ?_, ?_, ?_⟩
        · dsimp only
          rw [hd, show k + 1 - k = 1 by omega]
          have hx' : ¬ x ≥ 128 := by omega
          cases h9 : 9 - k with
          | zero => simp [leb]
          | succ j => simp [leb, hx']
        · dsimp only
          rw [Int.add_mul_emod_self_right, Int.emod_eq_of_lt h0 h1]
        · intro hk0
          dsimp only
          rw [hd]; omega
      · rw [if_neg c] at he ⊢
        have hk9 : k ≠ 9 := fun h => by omega
        have hs := mul_lt_pow (y := x - 128) (k := k) (by omega)
        obtain ⟨r1, r2, r3, r4, r5, r6, r7, r8⟩ := tk_range l (k + 1) (n + (x - 128) * 128 ^ k) (fun y hy => hb y (by simp [hy])) (by omega) (by omega) (by omega) he
        generalize tk l (k + 1) (n + (x - 128) * 128 ^ k) = r at *
        have hv : r.1 / 128 ^ k = r.1 / 128 ^ (k + 1) * 128 + (x - 128) := by
          have e := Int.mul_ediv_add_emod r.1 (128 ^ (k + 1))
          rw [r7, pow_succ128] at e
          have e2 : r.1 = n + ((x - 128) + r.1 / (128 ^ k * 128) * 128) * 128 ^ k := by
            have : (128 : Int) ^ k * 128 * (r.1 / (128 ^ k * 128)) = r.1 / (128 ^ k * 128) * 128 * 128 ^ k := by
              rw [Int.mul_comm, Int.mul_comm (128 ^ k) 128, ← Int.mul_assoc]
            rw [Int.add_mul]
            omega
          have e3 : (n + ((x - 128) + r.1 / (128 ^ k * 128) * 128) * 128 ^ k) / 128 ^ k = (x - 128) + r.1 / (128 ^ k * 128) * 128 := by
            rw [Int.add_mul_ediv_right _ _ (by omega), Int.ediv_eq_zero_of_lt h0 h1]; omega
          rw [← e2] at e3
          rw [e3, pow_succ128]; omega
        have hge : r.1 / 128 ^ k ≥ 128 := by
          have := r8 (by omega)
          omega
        refine ⟨r1, r2, by omega, by simp; omega, r5, ?_, ?_, fun _ => by omega⟩
        · rw [show 9 - k = (9 - (k + 1)) + 1 by omega]
          unfold leb
          rw [if_pos hge, hv]
          rw [show (r.1 / 128 ^ (k + 1) * 128 + (x - 128)) % 128 + 128 = x by omega, show (r.1 / 128 ^ (k + 1) * 128 + (x - 128)) / 128 = r.1 / 128 ^ (k + 1) by omega, r6]
          rw [show r.2.1 - k = (r.2.1 - (k + 1)) + 1 by omega]
          rfl
        · have hdvd : (128 : Int) ^ k ∣ 128 ^ (k + 1) := ⟨128, pow_succ128 k⟩
          have := Int.emod_emod_of_dvd r.1 hdvd
          rw [← this, r7, Int.add_mul_emod_self_right, Int.emod_eq_of_lt h0 h1]
theorem leb_length : ∀ (k : Nat) (n : Int), (leb k n).length ≤ k + 1 ∧ 1 ≤ (leb k n).length
  | 0, n => by simp [leb]
  | k + 1, n => by
    unfold leb
    split
    · have := leb_length k (n / 128)
      simp; omega
    · simp
theorem leb_bytes : ∀ (k : Nat) (n : Int), 0 ≤ n → n < 128 ^ (k + 1) → Bytes (leb k n)
  | 0, n, h0, h1, x, hx => by simp [leb] at hx h1; omega
  | k + 1, n, h0, h1, x, hx => by
    unfold leb at hx
    split at hx
    · rcases List.mem_cons.1 hx with rfl | hx
      · omega
      · exact leb_bytes k (n / 128) (by omega) (div_lt_pow _ _ h1) x hx
    · simp at hx; omega
/-- What is read of the bytes of a number. -/
theorem tk_leb : ∀ (j k : Nat) (n : Int) (acc : Int) (rest : List Int), j + k = 9 → 0 ≤ n → n * 128 ^ k ≤ 18446744073709551615 → (k > 0 → 1 ≤ n) → tk (leb j n ++ rest) k acc = (acc + n * 128 ^ k, k + (leb j n).length, 0)
  | 0, k, n, acc, rest, hjk, h0, h1, hk => by
    have hk9 : k = 9 := by omega
    subst hk9
    have e : (128 : Int) ^ 9 = 9223372036854775808 := by decide
    have hn : n ≤ 1 := by omega
    have hn1 := hk (by omega)
    have hno : ¬ ((9 = 9 ∧ n > 1) ∨ (9 > 0 ∧ n = 0)) := by omega
    rw [show leb 0 n = [n] from rfl, List.cons_append, List.nil_append]
    unfold tk
    rw [if_neg hno, if_pos (by omega)]
    rfl
  | j + 1, k, n, acc, rest, hjk, h0, h1, hk => by
    have hp := pow128 k
    unfold leb
    by_cases c : n ≥ 128
    · rw [if_pos c, List.cons_append]
      unfold tk
      have hno : ¬ ((k = 9 ∧ n % 128 + 128 > 1) ∨ (k > 0 ∧ n % 128 + 128 = 0)) := by omega
      rw [if_neg hno, if_neg (by omega)]
      have hm : n / 128 * 128 ^ (k + 1) + n % 128 * 128 ^ k = n * 128 ^ k := by
        rw [pow_succ128, ← Int.mul_assoc, Int.mul_right_comm, ← Int.add_mul]
        congr 1; omega
      have hnn : 0 ≤ n % 128 * 128 ^ k := Int.mul_nonneg (by omega) (by omega)
      rw [tk_leb j (k + 1) (n / 128) _ rest (by omega) (by omega) (by omega) (by omega)]
      rw [show n % 128 + 128 - 128 = n % 128 by omega, List.length_cons]
      simp only [Prod.mk.injEq, and_true]
      omega
    · rw [if_neg c, List.cons_append, List.nil_append]
      unfold tk
      have hno : ¬ ((k = 9 ∧ n > 1) ∨ (k > 0 ∧ n = 0)) := by omega
      rw [if_neg hno, if_pos (by omega)]
      rfl
theorem takeU_leb (b : ByteArray) (pre rest : List Int) (n : Int) (h0 : 0 ≤ n) (h1 : n ≤ 18446744073709551615) (hb : ofBytes b = pre ++ leb 9 n ++ rest) : takeU b pre.length = (n, (pre.length : Int) + (leb 9 n).length, 0) := by
  have hlen : b.size = pre.length + (leb 9 n).length + rest.length := by rw [← ofBytes_length, hb]; simp; omega
  unfold takeU
  rw [if_neg (by omega), Int.toNat_natCast, hb, List.append_assoc, List.drop_left, tk_leb 9 0 n 0 rest rfl h0 (by simpa using h1) (by simp)]
  simp [tkR]
end Go.Abs.K
