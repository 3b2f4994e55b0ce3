/- SPI: bits in either order; one bit more, the program's and the document's. -/
import Derived.Test.YtkackeahklljiaaE1
set_option linter.unusedVariables false
set_option linter.unusedSimpArgs false
namespace Go.Abs.K
open Go Go.Abs Go.Proofs

/-! ### Numbers of bits, the lowest first -/
def Bits (r : List Int) : Prop := ∀ v, v ∈ r → v = 0 ∨ v = 1
theorem bits_cons {v : Int} {r : List Int} (h : Bits (v :: r)) : (v = 0 ∨ v = 1) ∧ Bits r := ⟨h v List.mem_cons_self, fun w hw => h w (List.mem_cons_of_mem _ hw)⟩
theorem bits_append {a b : List Int} : Bits (a ++ b) ↔ Bits a ∧ Bits b := by
  unfold Bits
  simp only [List.mem_append]
  exact ⟨fun h => ⟨fun r hr => h r (.inl hr), fun r hr => h r (.inr hr)⟩, fun h r hr => hr.elim (h.1 r) (h.2 r)⟩
theorem bits_reverse {a : List Int} (h : Bits a) : Bits a.reverse := fun v hv => h v (List.mem_reverse.1 hv)
theorem bits_one {v : Int} (h : v = 0 ∨ v = 1) : Bits [v] := fun w hw => by rw [List.mem_singleton.1 hw]; exact h
def revV : List Int → Int
  | [] => 0
  | b :: r => b + 2 * revV r
theorem revV_cons (b : Int) (r : List Int) : revV (b :: r) = b + 2 * revV r := rfl
theorem pow_pos2 (n : Nat) : (0 : Int) < 2 ^ n := Int.pow_pos (by omega)
theorem pow_s (n : Nat) : (2 : Int) ^ (n + 1) = 2 * 2 ^ n := by rw [Int.pow_succ]; omega
theorem revV_range : ∀ {l : List Int}, Bits l → 0 ≤ revV l ∧ revV l < 2 ^ l.length
  | [], _ => by simp [revV]
  | b :: r, h => by
    obtain ⟨h1, h2⟩ := bits_cons h
    have ih := revV_range h2
    rw [revV_cons, List.length_cons, pow_s]
    omega
theorem revV_snoc : ∀ (l : List Int) (b : Int), revV (l ++ [b]) = revV l + b * 2 ^ l.length
  | [], b => by simp [revV]
  | a :: l, b => by
    simp only [List.cons_append, revV_cons, revV_snoc l b, List.length_cons, pow_s]
    rw [Int.mul_add, ← Int.mul_assoc, ← Int.mul_assoc, Int.mul_comm 2 b]
    omega
theorem pow_b (n : Nat) (hn : n ≤ 8) : 1 ≤ (2 : Int) ^ n ∧ (2 : Int) ^ n ≤ 256 := by
  have : n = 0 ∨ n = 1 ∨ n = 2 ∨ n = 3 ∨ n = 4 ∨ n = 5 ∨ n = 6 ∨ n = 7 ∨ n = 8 := by omega
  rcases this with rfl | rfl | rfl | rfl | rfl | rfl | rfl | rfl | rfl <;> decide
/-! ### Bits of small numbers -/
theorem and_one (x : Int) : IntKind.i64.wrap (((BitVec.ofInt 64 x &&& BitVec.ofInt 64 1).toNat : Int)) = x % 2 := by
  have := and_low 64 1 x (by omega)
  rw [show ((2 ^ 1 - 1 : Nat) : Int) = 1 from rfl, show (2 ^ 1 : Int) = 2 from rfl] at this
  rw [this, i64_ok (by omega)]
theorem and_four (x : Int) (h : 0 ≤ x ∧ x ≤ 7) : IntKind.i64.wrap (((BitVec.ofInt 64 x &&& BitVec.ofInt 64 4).toNat : Int)) = 4 * (x / 4) := by
  have : x = 0 ∨ x = 1 ∨ x = 2 ∨ x = 3 ∨ x = 4 ∨ x = 5 ∨ x = 6 ∨ x = 7 := by omega
  rcases this with rfl | rfl | rfl | rfl | rfl | rfl | rfl | rfl <;> decide
theorem andnot7 (x : Int) (h : -9007199254740992 ≤ x ∧ x ≤ 9007199254740992) : (IntKind.i64.wrap (((BitVec.ofInt 64 x &&& ~~~BitVec.ofInt 64 7).toNat : Int)) = 0) ↔ (0 ≤ x ∧ x ≤ 7) := by
  have key : ((BitVec.ofInt 64 x &&& ~~~BitVec.ofInt 64 7).toNat : Int) = (x % 18446744073709551616) - (x % 8) := by
    have h1 : (BitVec.ofInt 64 x).toNat = (x % 18446744073709551616).toNat := by simp [BitVec.toNat_ofInt]
    have h2 : ∀ a : BitVec 64, (a &&& ~~~BitVec.ofInt 64 7).toNat + a.toNat % 8 = a.toNat := by
      intro a
      have e1 : a.toNat % 8 = (a &&& BitVec.ofInt 64 7).toNat := by
        rw [BitVec.toNat_and]
        have : (BitVec.ofInt 64 7).toNat = 2 ^ 3 - 1 := by decide
        rw [this, Nat.and_two_pow_sub_one_eq_mod]
      rw [e1]
      have hd : (a &&& ~~~BitVec.ofInt 64 7) &&& (a &&& BitVec.ofInt 64 7) = 0#64 := by
        apply BitVec.eq_of_getLsbD_eq
        intro i hi
        simp only [BitVec.getLsbD_and, BitVec.getLsbD_not, BitVec.getLsbD_zero]
        cases a.getLsbD i <;> cases (BitVec.ofInt 64 7).getLsbD i <;> simp
      have hor : (a &&& ~~~BitVec.ofInt 64 7) ||| (a &&& BitVec.ofInt 64 7) = a := by
        apply BitVec.eq_of_getLsbD_eq
        intro i hi
        simp only [BitVec.getLsbD_and, BitVec.getLsbD_not, BitVec.getLsbD_or]
        cases a.getLsbD i <;> cases (BitVec.ofInt 64 7).getLsbD i <;> simp [hi]
      rw [← BitVec.toNat_add_of_and_eq_zero hd, BitVec.add_eq_or_of_and_eq_zero _ _ hd, hor]
    have h3 := h2 (BitVec.ofInt 64 x)
    rw [h1] at h3
    have h4 : 0 ≤ x % 18446744073709551616 := Int.emod_nonneg _ (by decide)
    omega
  rw [key]
  by_cases c : 0 ≤ x
  · rw [i64_ok (by omega)]; omega
  · rw [IntKind.wrap_i64]; omega
theorem or_even (a b : Int) (ha : 0 ≤ a ∧ a ≤ 1000000) (hb : b = 0 ∨ b = 1) : IntKind.i64.wrap (((BitVec.ofInt 64 (a * 2) ||| BitVec.ofInt 64 b).toNat : Int)) = a * 2 + b := by
  obtain ⟨k, rfl⟩ := Int.eq_ofNat_of_zero_le ha.1
  have e1 : (k : Int) * 2 = ((k * 2 : Nat) : Int) := by omega
  rw [e1]
  rcases hb with rfl | rfl
  · have := or_nat 64 (k * 2) 0 (by omega) (by omega)
    change (BitVec.ofInt 64 ((k * 2 : Nat) : Int) ||| BitVec.ofInt 64 0).toNat = _ at this
    rw [this, Nat.or_zero, i64_ok (by omega)]; omega
  · have := or_nat 64 (k * 2) 1 (by omega) (by omega)
    change (BitVec.ofInt 64 ((k * 2 : Nat) : Int) ||| BitVec.ofInt 64 1).toNat = _ at this
    have e := Nat.two_pow_add_eq_or_of_lt (i := 1) (b := 1) (by omega) k
    rw [show 2 ^ 1 * k = k * 2 by omega] at e
    rw [this, ← e, i64_ok (by omega)]; omega
theorem or_high (n : Nat) (hn : n ≤ 7) (acc b : Int) (h : 0 ≤ acc ∧ acc < 2 ^ n) (hb : b = 0 ∨ b = 1) : IntKind.i64.wrap (((BitVec.ofInt 64 acc ||| BitVec.ofInt 64 (IntKind.i64.wrap (b * 2 ^ min ((n : Int)).toNat 64))).toNat : Int)) = acc + b * 2 ^ n := by
  have hp := pow_b n (by omega)
  have hb2 : 0 ≤ b * 2 ^ n ∧ b * 2 ^ n ≤ 256 := by rcases hb with rfl | rfl <;> omega
  rw [Int.toNat_natCast, Nat.min_eq_left (by omega), i64_ok (n := b * 2 ^ n) (by omega)]
  obtain ⟨k, rfl⟩ := Int.eq_ofNat_of_zero_le h.1
  have h2 : k < 2 ^ n := by have := h.2; exact_mod_cast this
  have e2 : ((2 : Int) ^ n) = ((2 ^ n : Nat) : Int) := by simp
  rcases hb with rfl | rfl
  · rw [Int.zero_mul]
    have := or_nat 64 k 0 (by omega) (by omega)
    change (BitVec.ofInt 64 (k : Int) ||| BitVec.ofInt 64 0).toNat = _ at this
    rw [this, Nat.or_zero, i64_ok (by omega)]; omega
  · rw [e2] at hp ⊢
    rw [Int.one_mul, or_nat 64 k (2 ^ n) (by omega) (by omega), Nat.or_comm]
    have := Nat.two_pow_add_eq_or_of_lt (i := n) (b := k) h2 1
    rw [Nat.mul_one] at this
    rw [← this, i64_ok (by omega)]
    omega
theorem u8_ok {n : Int} (h : 0 ≤ n ∧ n ≤ 255) : IntKind.u8.wrap n = n := by
  simp only [IntKind.wrap, IntKind.bits, IntKind.signed]
  simp
  omega

/-! ### The document's strings of bits -/
def chs (l : List Int) : List Int := l.map (48 + ·)
theorem chs_bytes {l : List Int} (h : Bits l) : Bytes (chs l) := by
  intro x hx
  simp only [chs, List.mem_map] at hx
  obtain ⟨b, hb, rfl⟩ := hx
  have := h b hb
  omega
theorem turn_l3 (M : Nat) (L : List Int) (hL : Bytes L) (hl : L.length ≤ 1000) : ∀ (i m : Nat) (b : List Int), i ≤ L.length → i < m → b.length + i ≤ 1000 → ref03_turn_l3 M m (toBytes L) ((i : Int) - 1) b = some (toBytes (b ++ (L.take i).reverse))
  | i, 0, b, _, hm, _ => by omega
  | 0, m + 1, b, hi, hm, hb => by
    simp only [ref03_turn_l3, b_ref03_turn_l3]
    rw [bif_neg (by omega)]
    simp
  | i + 1, m + 1, b, hi, hm, hb => by
    have hlt : i < L.length := by omega
    have hat : byteAt (toBytes L) (i : Int) = L[i] := by
      rw [byteAt_eq, ofBytes_toBytes hL, Int.toNat_natCast, List.getD_eq_getElem?_getD, List.getElem?_eq_getElem hlt]; rfl
    have hs : (toBytes L).size = L.length := toBytes_size L
    simp only [ref03_turn_l3, b_ref03_turn_l3]
    rw [show ((i + 1 : Nat) : Int) - 1 = (i : Int) by omega, i64_ok (n := (i : Int) - 1) (by omega)]
    rw [bif_pos (by omega), bif_pos (by omega), bif_pos (by omega), bif_pos (by omega), hat]
    rw [turn_l3 M L hL hl i m _ (by omega) (by omega) (by simp; omega), List.take_succ_eq_append_getElem hlt, List.reverse_append]
    simp only [List.append_assoc, List.reverse_singleton, List.singleton_append]
theorem turn_is (M : Nat) (L : List Int) (hL : Bytes L) (hl : L.length ≤ 1000) (hM : 1000 < M) : ref03_turn M (toBytes L) = some (toBytes L.reverse) := by
  simp only [ref03_turn, b_ref03_turn, toBytes_size]
  rw [i64_ok (n := (L.length : Int) - 1) (by omega), turn_l3 M L hL hl L.length M [] (Nat.le_refl _) (by omega) (by simp; omega)]
  simp
theorem from_l5 (M : Nat) (hM : 1000 < M) (n w : Int) (msb : Bool) (hn : 0 ≤ n) (hw : w ≤ 8) : ∀ (r : List Int) (i m : Nat) (b : List Int), n / 2 ^ i = revV r → Bits r → (i : Int) + r.length = w → r.length < m → b.length = i → Bytes b →
    ref03_FromInt_l5 M m n w msb (i : Int) b = some (toBytes (if msb then (b ++ chs r).reverse else b ++ chs r))
  | r, i, 0, b, _, _, _, hm, _, _ => by omega
  | [], i, m + 1, b, hv, hb, hi, hm, hl, hB => by
    simp only [List.length_nil] at hi
    simp only [ref03_FromInt_l5, b_ref03_FromInt_l5]
    rw [bif_neg (by omega)]
    cases msb with
    | true => rw [Bool.cond_true, turn_is M b hB (by omega) hM]; simp [chs]
    | false => simp [chs]
  | v :: r, i, m + 1, b, hv, hb, hi, hm, hl, hB => by
    obtain ⟨h1, h2⟩ := bits_cons hb
    simp only [List.length_cons] at hi hm
    rw [revV_cons] at hv
    have hnext : n / 2 ^ (i + 1) = revV r := by
      rw [Int.pow_succ, ← Int.ediv_ediv_of_nonneg (Int.le_of_lt (pow_pos2 i)), hv]; omega
    have hbit : IntKind.i64.wrap (((BitVec.ofInt 64 (n.fdiv (2 ^ min ((i : Int)).toNat 64)) &&& BitVec.ofInt 64 1).toNat : Int)) = v := by
      rw [Int.toNat_natCast, Nat.min_eq_left (by omega), Int.fdiv_eq_ediv_of_nonneg _ (Int.le_of_lt (pow_pos2 i)), hv, and_one]; omega
    have hB' : Bytes (b ++ [48 + v]) := by
      intro x hx
      rcases List.mem_append.1 hx with hx | hx
      · exact hB x hx
      · rw [List.mem_singleton.1 hx]; omega
    have ih := from_l5 M hM n w msb hn hw r (i + 1) m (b ++ [48 + v]) hnext h2 (by omega) (by omega) (by simp; omega) hB'
    simp only [ref03_FromInt_l5, b_ref03_FromInt_l5, hbit, beq_if, next_i i (by omega)]
    rw [bif_pos (by omega), bif_neg (by omega)]
    simp only [bif_pos (show (b.length + 1) * 1 ≤ 140737488355328 by omega)]
    have e : b ++ [48 + v] ++ chs r = b ++ chs (v :: r) := by simp [chs]
    rw [e] at ih
    rcases h1 with rfl | rfl
    · rw [if_neg (by omega)]; exact ih
    · rw [if_pos rfl]; exact ih
theorem bits_l4' (M : Nat) (s : ByteArray) (hs : s.size ≤ 1000) (hb : ∀ b, b ∈ ofBytes s → b = 48 ∨ b = 49) : ∀ (r : List Int) (i m : Nat), (ofBytes s).drop i = r → r.length < m → ref03_Valid_l4 M m s (i : Int) = some true
  | r, i, 0, _, hm => by omega
  | [], i, m + 1, hr, hm => by
    have := drop_nil hr
    rw [ofBytes_length] at this
    simp only [ref03_Valid_l4, b_ref03_Valid_l4]
    rw [bif_neg (by omega)]
  | b :: r, i, m + 1, hr, hm => by
    obtain ⟨h1, h2, h3, h4, h5⟩ := drop_cons hr 0
    rw [ofBytes_length] at h2
    simp only [List.length_cons] at hm
    have ih := bits_l4' M s hs hb r (i + 1) m h3 (by omega)
    have hv : byteAt s (i : Int) = b := by rw [byteAt_eq]; exact h1
    have hbb := hb b h5
    simp only [ref03_Valid_l4, b_ref03_Valid_l4, hv, bne_if]
    rw [bif_pos (by omega), bif_pos (by omega), bif_pos (by omega), next_i i (by omega), ih]
    simp only [bif_pos (show (0 : Int) ≤ (i : Int) by omega), bif_pos (show (i : Int) < (s.size : Int) by omega)]
    rcases hbb with rfl | rfl
    · rw [if_pos rfl]
    · rw [if_neg (by omega), if_pos rfl]
theorem valid_chs (M : Nat) (l : List Int) (h : Bits l) (hl : l.length ≤ 8) (hM : 1000 < M) : ref03_Valid M (toBytes (chs l)) = some true := by
  have hs : (toBytes (chs l)).size = l.length := by rw [toBytes_size]; simp [chs]
  simp only [ref03_Valid, b_ref03_Valid]
  rw [bif_neg (by omega)]
  refine bits_l4' M _ (by omega) (fun b hb => ?_) (ofBytes (toBytes (chs l))) 0 M rfl (by rw [ofBytes_length]; omega)
  rw [ofBytes_toBytes (chs_bytes h)] at hb
  simp only [chs, List.mem_map] at hb
  obtain ⟨v, hv, rfl⟩ := hb
  have := h v hv
  omega
theorem int_l9 (M : Nat) (l : List Int) (h : Bits l) (hl : l.length ≤ 8) : ∀ (r : List Int) (i m : Nat) (p : List Int), l = p ++ r → p.length = i → r.length < m →
    ref03_Int_l9 M m (toBytes (chs l)) (revV p.reverse) (i : Int) = some (revV l.reverse, 0)
  | r, i, 0, p, _, _, hm => by omega
  | [], i, m + 1, p, hr, hp, hm => by
    have hs : (toBytes (chs l)).size = l.length := by rw [toBytes_size]; simp [chs]
    simp only [ref03_Int_l9, b_ref03_Int_l9]
    have e : l = p := by rw [hr]; simp
    rw [bif_neg (by rw [hs, e]; omega), e]
  | v :: r, i, m + 1, p, hr, hp, hm => by
    have hs : (toBytes (chs l)).size = l.length := by rw [toBytes_size]; simp [chs]
    have hlen : l.length = i + (r.length + 1) := by rw [hr, List.length_append, hp, List.length_cons]
    have hat : byteAt (toBytes (chs l)) (i : Int) = 48 + v := by
      rw [byteAt_eq, ofBytes_toBytes (chs_bytes h), Int.toNat_natCast, hr]
      simp [chs, ← hp]
    have hb : Bits (p ++ v :: r) := hr ▸ h
    obtain ⟨hb1, hb2⟩ := bits_append.1 hb
    obtain ⟨hv, _⟩ := bits_cons hb2
    have hrng := revV_range (bits_reverse hb1)
    have hpw := pow_b p.reverse.length (by simp; omega)
    have hch : IntKind.i64.wrap (IntKind.u8.wrap (48 + v - 48)) = v := by rcases hv with rfl | rfl <;> rfl
    simp only [List.length_cons] at hm
    have ih := int_l9 M l h hl r (i + 1) m (p ++ [v]) (by rw [hr]; simp) (by simp [hp]) (by omega)
    rw [List.reverse_append, List.reverse_singleton, List.singleton_append, revV_cons] at ih
    simp only [ref03_Int_l9, b_ref03_Int_l9, hat, hch]
    rw [bif_pos (by omega), bif_pos (by omega), bif_pos (by omega), next_i i (by omega), i64_ok (n := 2 * revV p.reverse) (by omega), i64_ok (n := 2 * revV p.reverse + v) (by omega), Int.add_comm (2 * revV p.reverse) v]
    exact ih
theorem int_is (M : Nat) (l : List Int) (h : Bits l) (hl : l.length ≤ 8) (hM : 1000 < M) (msb : Bool) : ref03_Int M (toBytes (chs l)) msb = some (if msb then revV l.reverse else revV l, 0) := by
  have hs : (toBytes (chs l)).size = l.length := by rw [toBytes_size]; simp [chs]
  simp only [ref03_Int, b_ref03_Int, valid_chs M l h hl hM, Option.bind_some, Bool.not_true, Bool.cond_false]
  rw [bif_neg (by omega)]
  cases msb with
  | true =>
    simp only [Bool.not_true, Bool.cond_false, if_true]
    exact int_l9 M l h hl l 0 M [] rfl rfl (by omega)
  | false =>
    simp only [Bool.not_false, Bool.cond_true]
    rw [turn_is M (chs l) (chs_bytes h) (by simp [chs]; omega) hM, Option.bind_some]
    have e : (chs l).reverse = chs l.reverse := by simp [chs]
    have := int_l9 M l.reverse (bits_reverse h) (by simpa using hl) l.reverse 0 M [] rfl rfl (by simp; omega)
    rw [List.reverse_reverse] at this
    rw [e]
    exact this
/-- The byte of bits that came one after another. -/
def byteV (msb : Bool) (l : List Int) : Int := if msb then revV l.reverse else revV l
theorem byteV_range (msb : Bool) {l : List Int} (h : Bits l) (hl : l.length ≤ 8) : 0 ≤ byteV msb l ∧ byteV msb l < 2 ^ l.length ∧ byteV msb l ≤ 255 := by
  have hp := pow_b l.length hl
  unfold byteV
  split
  · have := revV_range (bits_reverse h)
    rw [List.length_reverse] at this
    omega
  · have := revV_range h
    omega
theorem order_is (M : Nat) (hM : 1000 < M) (c : Spi) (l : List Int) (h : Bits l) (hl : (l.length : Int) = c.Bits) (hb : c.Bits ≤ 8) : ref24_order M c (revV l.reverse) = some (byteV c.Msb l) := by
  have hr := revV_range (bits_reverse h)
  have h1 : ref03_FromInt M (revV l.reverse) c.Bits true = some (toBytes (chs l)) := by
    simp only [ref03_FromInt, b_ref03_FromInt]
    rw [bif_neg (by omega), bif_neg (by omega)]
    have := from_l5 M hM (revV l.reverse) c.Bits true hr.1 hb l.reverse 0 M [] (by simp) (bits_reverse h) (by simp; omega) (by simp; omega) (by simp) (fun x hx => by cases hx)
    rw [if_pos rfl] at this
    refine Eq.trans this ?_
    simp [chs]
  simp only [ref24_order, b_ref24_order, h1, Option.bind_some, int_is M l h (by omega) hM]
  have hv := byteV_range c.Msb h (by omega)
  unfold byteV at hv ⊢
  rw [u8_ok (by omega)]
end Go.Abs.K
