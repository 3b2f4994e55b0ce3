/- SPI: items and the whole, sent by the program and by the document. -/
import Derived.Test.YtkackeahklljiaaP6
set_option linter.unusedVariables false
set_option linter.unusedSimpArgs false
namespace Go.Abs.K
open Go Go.Abs Go.Proofs

def idl (c : Spi) : Int := c.Mode / 2
def bef (c : Spi) : Int := if c.Mode = 0 ∨ c.Mode = 3 then 0 else 1
def bitP (b T : Int) : List Int → List (Int × Int)
  | [] => []
  | v :: r => (2 * v + b, T) :: (2 * v + 1 - b, T) :: bitP b T r
def itemB (c : Spi) (x : Item) : List Int := if x.Fault = 8 then (allB c (ofBytes x.Data)).dropLast else allB c (ofBytes x.Data)
def tailP (c : Spi) (r : List Int) : List (Int × Int) := bitP (bef c) c.T r ++ [(idl c, c.T)]
def itemP (c : Spi) (x : Item) : List (Int × Int) := (4 + idl c, 2 * c.T + x.Gap) :: (idl c, c.T) :: tailP c (itemB c x)
theorem idl_b (c : Spi) (hc : OkC c) : 0 ≤ idl c ∧ idl c ≤ 1 := by unfold OkC at hc; unfold idl; omega
theorem bef_b (c : Spi) : bef c = 0 ∨ bef c = 1 := by unfold bef; split <;> simp
theorem bits_dropLast {l : List Int} (h : Bits l) : Bits l.dropLast := fun v hv => h v (List.dropLast_subset _ hv)
theorem itemB_bits (c : Spi) (x : Item) : Bits (itemB c x) := by
  unfold itemB
  split
  · exact bits_dropLast (allB_bits c _)
  · exact allB_bits c _
theorem itemB_len (c : Spi) (hc : OkC c) (x : Item) (hx : ItemOk c x) : (itemB c x).length ≤ 32768 := by
  have h1 := allB_len c (ofBytes x.Data)
  rw [ofBytes_length] at h1
  have hs := hx.size
  have h2 : c.Bits.toNat * x.Data.size ≤ 8 * 4096 := Nat.mul_le_mul (by unfold OkC at hc; omega) hs
  unfold itemB
  split
  · rw [List.length_dropLast]; omega
  · omega
theorem bitP_fine (c : Spi) (hc : OkC c) (b : Int) (hb : b = 0 ∨ b = 1) : ∀ r : List Int, Bits r → FineP (bitP b c.T r) ∧ sumP (bitP b c.T r) ≤ 2097152 * r.length ∧ (bitP b c.T r).length = 2 * r.length
  | [], _ => ⟨fun p hp => (by cases hp), (by simp [bitP, sumP]), rfl⟩
  | v :: r, h => by
    obtain ⟨h1, h2⟩ := bits_cons h
    obtain ⟨i1, i2, i3⟩ := bitP_fine c hc b hb r h2
    unfold OkC at hc
    refine ⟨?_, ?_, ?_⟩
    · simp only [bitP, fineP_cons]
      exact ⟨⟨by omega, by omega, by omega⟩, ⟨by omega, by omega, by omega⟩, i1⟩
    · simp only [bitP, sumP_cons, List.length_cons]; omega
    · simp only [bitP, List.length_cons, i3]; omega
theorem tail_fine (c : Spi) (hc : OkC c) (r : List Int) (h : Bits r) : FineP (tailP c r) ∧ sumP (tailP c r) ≤ 2097152 * r.length + 1048576 ∧ (tailP c r).length = 2 * r.length + 1 := by
  obtain ⟨i1, i2, i3⟩ := bitP_fine c hc (bef c) (bef_b c) r h
  have hi := idl_b c hc
  unfold OkC at hc
  unfold tailP
  refine ⟨?_, ?_, ?_⟩
  · rw [fineP_append, fineP_cons]
    exact ⟨i1, ⟨by omega, by omega, by omega⟩, fun p hp => by cases hp⟩
  · rw [sumP_append, sumP_cons]
    have : sumP [] = 0 := rfl
    rw [this]; dsimp only; omega
  · rw [List.length_append, i3]; rfl
theorem item_fine (c : Spi) (hc : OkC c) (x : Item) (hx : ItemOk c x) : FineP (itemP c x) ∧ sumP (itemP c x) ≤ 70000000000 ∧ (itemP c x).length ≤ 65600 := by
  obtain ⟨i1, i2, i3⟩ := tail_fine c hc (itemB c x) (itemB_bits c x)
  have hl := itemB_len c hc x hx
  have hi := idl_b c hc
  have hg := hx.gap
  unfold OkC at hc
  unfold itemP
  refine ⟨?_, ?_, ?_⟩
  · rw [fineP_cons, fineP_cons]
    exact ⟨⟨by omega, by omega, by omega⟩, ⟨by omega, by omega, by omega⟩, i1⟩
  · rw [sumP_cons, sumP_cons]; dsimp only; omega
  · simp only [List.length_cons, i3]; omega
theorem lvl1 (v b : Int) (hv : v = 0 ∨ v = 1) (hb : b = 0 ∨ b = 1) : IntKind.i64.wrap (((BitVec.ofInt 64 (IntKind.i64.wrap (v * 2)) ||| BitVec.ofInt 64 b).toNat : Int)) = 2 * v + b := by
  rcases hv with rfl | rfl <;> rcases hb with rfl | rfl <;> decide
theorem lvl2 (v b : Int) (hv : v = 0 ∨ v = 1) (hb : b = 0 ∨ b = 1) : IntKind.i64.wrap (IntKind.i64.wrap (((BitVec.ofInt 64 (IntKind.i64.wrap (v * 2)) ||| BitVec.ofInt 64 1).toNat : Int)) - b) = 2 * v + 1 - b := by
  rcases hv with rfl | rfl <;> rcases hb with rfl | rfl <;> decide
/-- One bit of an item's data, as the program finds it. -/
theorem bit_at (c : Spi) (hc : OkC c) (x : Item) (hx : ItemOk c x) (k : Nat) (hk : k < (allB c (ofBytes x.Data)).length) : (k : Int).tdiv c.Bits = ((k / c.Bits.toNat : Nat) : Int) ∧ (k : Int).tmod c.Bits = ((k % c.Bits.toNat : Nat) : Int) ∧ k / c.Bits.toNat < x.Data.size ∧ k % c.Bits.toNat < c.Bits.toNat ∧
    (allB c (ofBytes x.Data)).getD k 0 = if c.Msb then byteAt x.Data ((k / c.Bits.toNat : Nat) : Int) / 2 ^ (c.Bits.toNat - 1 - k % c.Bits.toNat) % 2 else byteAt x.Data ((k / c.Bits.toNat : Nat) : Int) / 2 ^ (k % c.Bits.toNat) % 2 := by
  have hc' := hc
  unfold OkC at hc'
  have hn : 0 < c.Bits.toNat := by omega
  have hB : c.Bits = (c.Bits.toNat : Int) := by omega
  have h1 := allB_len c (ofBytes x.Data)
  rw [ofBytes_length] at h1
  have hq : k / c.Bits.toNat < x.Data.size := Nat.div_lt_of_lt_mul (by omega)
  have hm : k % c.Bits.toNat < c.Bits.toNat := Nat.mod_lt _ hn
  have hb : 0 ≤ (ofBytes x.Data).getD (k / c.Bits.toNat) 0 ∧ (ofBytes x.Data).getD (k / c.Bits.toNat) 0 < 2 ^ c.Bits.toNat := by
    rw [List.getD_eq_getElem?_getD, List.getElem?_eq_getElem (by rw [ofBytes_length]; exact hq)]
    exact hx.byte _ (List.getElem_mem _)
  refine ⟨?_, ?_, hq, hm, ?_⟩
  · conv => lhs; rw [hB]
    exact (Int.ofNat_tdiv _ _).symm
  · conv => lhs; rw [hB]
    exact (Int.ofNat_tmod _ _).symm
  · rw [allB_at c hn _ k (by rw [ofBytes_length]; omega), digs_at c hc _ hb _ hm, byteAt_eq, Int.toNat_natCast]
theorem l10_is (M : Nat) (c : Spi) (hc : OkC c) (x : Item) (hx : ItemOk c x) (N : Nat) (hN : N ≤ (allB c (ofBytes x.Data)).length) (hN2 : N ≤ 100000) : ∀ (r : List Int) (k m : Nat) (P L : List Run), ((allB c (ofBytes x.Data)).take N).drop k = r → r.length < m → Rel P L → Fine L → total L + sumP (tailP c r) ≤ 100000000000000000 →
    ∃ P', spi_sender_item_l10 M m (idl c) (bef c) (N : Int) (k : Int) (total L) P c x = some (P', total (puts L (tailP c r))) ∧ Rel P' (puts L (tailP c r))
  | r, k, 0, P, L, _, hm, _, _, _ => by omega
  | [], k, m + 1, P, L, hr, hm, hR, hf, hb => by
    have := drop_nil hr
    rw [List.length_take] at this
    have ht := (fine_total hf).1
    have hc' := hc
    unfold OkC at hc'
    have hs : sumP (tailP c []) = c.T := by simp [tailP, bitP, sumP]
    obtain ⟨P', e1, e2⟩ := send_is M P L hR hf (total L) (idl c) c.T (by omega) (by omega) (by omega)
    simp only [spi_sender_item_l10, b_spi_sender_item_l10]
    rw [bif_neg (by omega), e1, Option.bind_some]
    have e : puts L (tailP c []) = putA L (idl c) c.T := rfl
    rw [e, put_total]
    exact ⟨P', rfl, e2⟩
  | v :: r, k, m + 1, P, L, hr, hm, hR, hf, hb => by
    obtain ⟨h1, h2, h3, h4, h5⟩ := drop_cons hr 0
    rw [List.length_take] at h2
    have hkl : k < (allB c (ofBytes x.Data)).length := by omega
    have hv : v = 0 ∨ v = 1 := by
      have : Bits ((allB c (ofBytes x.Data)).take N) := fun w hw => allB_bits c _ w (List.mem_of_mem_take hw)
      exact this v h5
    have hbits : Bits r := by
      have : Bits ((allB c (ofBytes x.Data)).take N) := fun w hw => allB_bits c _ w (List.mem_of_mem_take hw)
      intro w hw
      refine this w ?_
      have hd : w ∈ ((allB c (ofBytes x.Data)).take N).drop k := by rw [hr]; exact List.mem_cons_of_mem _ hw
      exact List.mem_of_mem_drop hd
    obtain ⟨b1, b2, b3, b4, b5⟩ := bit_at c hc x hx k hkl
    generalize k / c.Bits.toNat = kq at b1 b3 b5
    generalize k % c.Bits.toNat = km at b2 b4 b5
    have hget : (allB c (ofBytes x.Data)).getD k 0 = v := by
      rw [Int.toNat_natCast, List.getD_eq_getElem?_getD, List.getElem?_take_of_lt (by omega), ← List.getD_eq_getElem?_getD] at h1
      exact h1
    rw [hget] at b5
    have ht := (fine_total hf).1
    have hc' := hc
    unfold OkC at hc'
    have hi := idl_b c hc
    have hbf := bef_b c
    have hrng := byteAt_range x.Data (kq : Int)
    have hsz := hx.size
    simp only [List.length_cons] at hm
    have hs : sumP (tailP c (v :: r)) = c.T + (c.T + sumP (tailP c r)) := by
      unfold tailP
      simp only [bitP, List.cons_append, sumP_cons]
    have hsr := sumP_nonneg (tail_fine c hc r hbits).1
    have hp1 := put_fine hf (2 * v + bef c) c.T (by omega) (by omega)
    have ht1 := put_total L (2 * v + bef c) c.T
    have hp2 := put_fine hp1 (2 * v + 1 - bef c) c.T (by omega) (by omega)
    have ht2 := put_total (putA L (2 * v + bef c) c.T) (2 * v + 1 - bef c) c.T
    obtain ⟨P1, e1, e2⟩ := send_is M P L hR hf (total L) (2 * v + bef c) c.T (by omega) (by omega) (by omega)
    obtain ⟨P2, f1, f2⟩ := send_is M P1 (putA L (2 * v + bef c) c.T) e2 hp1 (total L + c.T) (2 * v + 1 - bef c) c.T (by omega) (by omega) (by omega)
    have ih := l10_is M c hc x hx N hN hN2 r (k + 1) m P2 _ h3 (by omega) f2 hp2 (by omega)
    have htt : total (putA (putA L (2 * v + bef c) c.T) (2 * v + 1 - bef c) c.T) = total L + c.T + c.T := by omega
    rw [htt] at ih
    have htp : puts L (tailP c (v :: r)) = puts (putA (putA L (2 * v + bef c) c.T) (2 * v + 1 - bef c) c.T) (tailP c r) := rfl
    rw [htp]
    simp only [spi_sender_item_l10, b_spi_sender_item_l10, b1, b2]
    rw [bif_pos (by omega), bif_neg (by omega)]
    simp only [bif_neg (show ¬ c.Bits = 0 by omega), i64_ok (n := (kq : Int)) (by omega), i64_ok (n := c.Bits - 1) (by omega), i64_ok (n := c.Bits - 1 - (km : Int)) (by omega), i64_ok (n := byteAt x.Data (kq : Int)) (by omega),
      bif_pos (show (0 : Int) ≤ (kq : Int) by omega), bif_pos (show (kq : Int) < (x.Data.size : Int) by omega), bif_neg (show ¬ c.Bits - 1 - (km : Int) < 0 by omega), bif_neg (show ¬ (km : Int) < 0 by omega), and_one, next_i k (by omega)]
    have q1 : (byteAt x.Data (kq : Int)).fdiv (2 ^ min (c.Bits - 1 - (km : Int)).toNat 64) = byteAt x.Data (kq : Int) / 2 ^ (c.Bits.toNat - 1 - km) := by
      rw [show (c.Bits - 1 - (km : Int)).toNat = c.Bits.toNat - 1 - km by omega, Nat.min_eq_left (by omega), Int.fdiv_eq_ediv_of_nonneg _ (Int.le_of_lt (pow_pos2 _))]
    have q2 : (byteAt x.Data (kq : Int)).fdiv (2 ^ min (km : Int).toNat 64) = byteAt x.Data (kq : Int) / 2 ^ (km) := by
      rw [Int.toNat_natCast, Nat.min_eq_left (by omega), Int.fdiv_eq_ediv_of_nonneg _ (Int.le_of_lt (pow_pos2 _))]
    rw [q1, q2]
    cases hmsb : c.Msb with
    | true =>
      rw [hmsb] at b5
      simp only [if_true] at b5
      rw [Bool.cond_true, ← b5, lvl1 v _ hv hbf, lvl2 v _ hv hbf, e1, Option.bind_some, f1, Option.bind_some]
      exact ih
    | false =>
      rw [hmsb] at b5
      simp only [Bool.false_eq_true, if_false] at b5
      rw [Bool.cond_false, ← b5, lvl1 v _ hv hbf, lvl2 v _ hv hbf, e1, Option.bind_some, f1, Option.bind_some]
      exact ih
theorem mode4 (c : Spi) (hc : OkC c) : c.Mode = 0 ∨ c.Mode = 1 ∨ c.Mode = 2 ∨ c.Mode = 3 := by unfold OkC at hc; omega
theorem or_idl (c : Spi) (hc : OkC c) : IntKind.i64.wrap (((BitVec.ofInt 64 4 ||| BitVec.ofInt 64 (IntKind.i64.wrap (c.Mode.tdiv 2))).toNat : Int)) = 4 + idl c ∧ IntKind.i64.wrap (c.Mode.tdiv 2) = idl c := by
  unfold idl
  rcases mode4 c hc with h | h | h | h <;> rw [h] <;> decide
theorem dl_take (l : List Int) (N : Nat) (h : N = l.length - 1) : l.take N = l.dropLast := by rw [h, List.dropLast_eq_take]
theorem item_is (M : Nat) (hM : 100000 < M) (c : Spi) (hc : OkC c) (x : Item) (hx : ItemOk c x) (P L : List Run) (hR : Rel P L) (hf : Fine L) (hb : total L + sumP (itemP c x) ≤ 100000000000000000) :
    ∃ P', spi_sender_item M P (total L) c x = some (P', total (puts L (itemP c x))) ∧ Rel P' (puts L (itemP c x)) := by
  have ht := (fine_total hf).1
  have hc' := hc
  unfold OkC at hc'
  have hg := hx.gap
  have hi := idl_b c hc
  have hlen := itemB_len c hc x hx
  obtain ⟨o1, o2⟩ := or_idl c hc
  rw [o2] at o1
  have hs : sumP (itemP c x) = 2 * c.T + x.Gap + (c.T + sumP (tailP c (itemB c x))) := by unfold itemP; simp only [sumP_cons]
  have hsr := sumP_nonneg (tail_fine c hc (itemB c x) (itemB_bits c x)).1
  have hp1 := put_fine hf (4 + idl c) (2 * c.T + x.Gap) (by omega) (by omega)
  have ht1 := put_total L (4 + idl c) (2 * c.T + x.Gap)
  have hp2 := put_fine hp1 (idl c) c.T (by omega) (by omega)
  have ht2 := put_total (putA L (4 + idl c) (2 * c.T + x.Gap)) (idl c) c.T
  obtain ⟨P1, e1, e2⟩ := send_is M P L hR hf (total L) (4 + idl c) (2 * c.T + x.Gap) (by omega) (by omega) (by omega)
  obtain ⟨P2, f1, f2⟩ := send_is M P1 _ e2 hp1 (total L + (2 * c.T + x.Gap)) (idl c) c.T (by omega) (by omega) (by omega)
  have hal := allB_len c (ofBytes x.Data)
  rw [ofBytes_length] at hal
  have hsz := hx.size
  have hmul : c.Bits.toNat * x.Data.size ≤ 8 * 4096 := Nat.mul_le_mul (by omega) hsz
  have hprod : (x.Data.size : Int) * c.Bits = ((allB c (ofBytes x.Data)).length : Int) := by
    rw [hal, show c.Bits = (c.Bits.toNat : Int) by omega, Int.toNat_natCast, Int.natCast_mul, Int.mul_comm]
  have htt : total (putA (putA L (4 + idl c) (2 * c.T + x.Gap)) (idl c) c.T) = total L + (2 * c.T + x.Gap) + c.T := by omega
  have htp : puts L (itemP c x) = puts (putA (putA L (4 + idl c) (2 * c.T + x.Gap)) (idl c) c.T) (tailP c (itemB c x)) := rfl
  have key : ∃ P', (if x.Fault = 8 then spi_sender_item_l10 M M (idl c) (bef c) (IntKind.i64.wrap (IntKind.i64.wrap ((x.Data.size : Int) * c.Bits) - 1)) 0 (total L + (2 * c.T + x.Gap) + c.T) P2 c x else spi_sender_item_l10 M M (idl c) (bef c) (IntKind.i64.wrap ((x.Data.size : Int) * c.Bits)) 0 (total L + (2 * c.T + x.Gap) + c.T) P2 c x) = some (P', total (puts L (itemP c x))) ∧ Rel P' (puts L (itemP c x)) := by
    rw [hprod, i64_ok (n := ((allB c (ofBytes x.Data)).length : Int)) (by omega), htp]
    by_cases h8 : x.Fault = 8
    · have hne := (hx.short h8).1
      have hpos : 1 ≤ x.Data.size := by
        rcases Nat.eq_zero_or_pos x.Data.size with h | h
        · exact absurd (ByteArray.ext (Array.eq_empty_of_size_eq_zero h)) hne
        · exact h
      have hpos2 : 1 * 1 ≤ c.Bits.toNat * x.Data.size := Nat.mul_le_mul (by omega) hpos
      have hB : itemB c x = (allB c (ofBytes x.Data)).dropLast := by unfold itemB; rw [if_pos h8]
      have := l10_is M c hc x hx ((allB c (ofBytes x.Data)).length - 1) (by omega) (by omega) (itemB c x) 0 M P2 _ (by rw [List.drop_zero, hB]; exact dl_take _ _ rfl) (by omega) f2 hp2 (by omega)
      rw [htt] at this
      rw [if_pos h8, i64_ok (n := ((allB c (ofBytes x.Data)).length : Int) - 1) (by omega), show ((allB c (ofBytes x.Data)).length : Int) - 1 = (((allB c (ofBytes x.Data)).length - 1 : Nat) : Int) by omega]
      exact this
    · have hB : itemB c x = allB c (ofBytes x.Data) := by unfold itemB; rw [if_neg h8]
      have := l10_is M c hc x hx (allB c (ofBytes x.Data)).length (Nat.le_refl _) (by omega) (itemB c x) 0 M P2 _ (by rw [List.drop_zero, hB, List.take_length]) (by omega) f2 hp2 (by omega)
      rw [htt] at this
      rw [if_neg h8]
      exact this
  simp only [spi_sender_item, b_spi_sender_item, o1, o2, beq_if]
  rw [i64_ok (n := 2 * c.T) (by omega), i64_ok (n := 2 * c.T + x.Gap) (by omega)]
  simp only [e1, Option.bind_some, f1]
  by_cases m0 : c.Mode = 0
  · have hbf : bef c = 0 := by unfold bef; rw [if_pos (.inl m0)]
    rw [hbf] at key
    rw [if_pos m0]
    exact key
  · rw [if_neg m0]
    by_cases m3 : c.Mode = 3
    · have hbf : bef c = 0 := by unfold bef; rw [if_pos (.inr m3)]
      rw [hbf] at key
      rw [if_pos m3]
      exact key
    · have hbf : bef c = 1 := by unfold bef; rw [if_neg (by omega)]
      rw [hbf] at key
      rw [if_neg m3]
      exact key

/-! ### The document's -/
theorem toBytes_append (a b : List Int) : toBytes a ++ toBytes b = toBytes (a ++ b) := by
  apply ofBytes_inj
  rw [ofBytes_append]
  simp [ofBytes, toBytes]
theorem chs_append (a b : List Int) : chs (a ++ b) = chs a ++ chs b := by simp [chs]
theorem l17_is (M : Nat) (c : Spi) (hc : OkC c) (B : List Int) (hB : Bits B) (hBl : B.length ≤ 100000) : ∀ (r : List Int) (i m : Nat) (L : List Run), B.drop i = r → r.length < m → Fine L → L.length + 2 * r.length + 1 ≤ 1000000000 → total L + sumP (tailP c r) ≤ 100000000000000000 →
    ref24_send_l17 M m (idl c) (bef c) (toBytes (chs B)) (i : Int) L c = some (puts L (tailP c r))
  | r, i, 0, L, _, hm, _, _, _ => by omega
  | [], i, m + 1, L, hr, hm, hf, hl, hb => by
    have := drop_nil hr
    have hs : (toBytes (chs B)).size = B.length := by rw [toBytes_size]; simp [chs]
    have ht := (fine_total hf).1
    have hc' := hc
    unfold OkC at hc'
    have hsm : sumP (tailP c []) = c.T := by simp [tailP, bitP, sumP]
    simp only [List.length_nil] at hl
    simp only [ref24_send_l17, b_ref24_send_l17]
    rw [bif_neg (by omega), ref_put_is M L (idl c) c.T (by omega) hf (by omega) (by omega)]
    rfl
  | v :: r, i, m + 1, L, hr, hm, hf, hl, hb => by
    obtain ⟨h1, h2, h3, h4, h5⟩ := drop_cons hr 0
    have hs : (toBytes (chs B)).size = B.length := by rw [toBytes_size]; simp [chs]
    have hv := hB v h5
    have hbits : Bits r := fun w hw => hB w (List.mem_of_mem_drop (by rw [hr]; exact List.mem_cons_of_mem _ hw))
    have hat : byteAt (toBytes (chs B)) (i : Int) = 48 + v := by
      rw [byteAt_eq, ofBytes_toBytes (chs_bytes hB), Int.toNat_natCast, List.getD_eq_getElem?_getD]
      rw [Int.toNat_natCast, List.getD_eq_getElem?_getD, List.getElem?_eq_getElem h2] at h1
      simp only [chs, List.getElem?_map, List.getElem?_eq_getElem h2, Option.map_some, Option.getD_some]
      have h1 : B[i] = v := h1
      rw [h1]
    have hch : IntKind.i64.wrap (IntKind.u8.wrap (48 + v - 48)) = v := by rcases hv with rfl | rfl <;> rfl
    have ht := (fine_total hf).1
    have hc' := hc
    unfold OkC at hc'
    have hi := idl_b c hc
    have hbf := bef_b c
    simp only [List.length_cons] at hm hl
    have hsm : sumP (tailP c (v :: r)) = c.T + (c.T + sumP (tailP c r)) := by
      unfold tailP
      simp only [bitP, List.cons_append, sumP_cons]
    have hsr := sumP_nonneg (tail_fine c hc r hbits).1
    have hp1 := put_fine hf (2 * v + bef c) c.T (by omega) (by omega)
    have ht1 := put_total L (2 * v + bef c) c.T
    have hl1 := put_len L (2 * v + bef c) c.T
    have hp2 := put_fine hp1 (2 * v + 1 - bef c) c.T (by omega) (by omega)
    have ht2 := put_total (putA L (2 * v + bef c) c.T) (2 * v + 1 - bef c) c.T
    have hl2 := put_len (putA L (2 * v + bef c) c.T) (2 * v + 1 - bef c) c.T
    simp only [ref24_send_l17, b_ref24_send_l17, hat, hch]
    rw [bif_pos (by omega), bif_pos (by omega), bif_pos (by omega), i64_ok (n := 2 * v) (by omega), i64_ok (n := 2 * v + bef c) (by omega), i64_ok (n := 2 * v + 1) (by omega), i64_ok (n := 2 * v + 1 - bef c) (by omega), next_i i (by omega),
      ref_put_is M L (2 * v + bef c) c.T (by omega) hf (by omega) (by omega), Option.bind_some, ref_put_is M _ (2 * v + 1 - bef c) c.T (by omega) hp1 (by omega) (by omega), Option.bind_some]
    exact l17_is M c hc B hB hBl r (i + 1) m _ h3 (by omega) hp2 (by omega) (by omega)
theorem l11_is (M : Nat) (hM : 100000 < M) (c : Spi) (hc : OkC c) (x : Item) (hx : ItemOk c x) (L : List Run) (hf : Fine L) (hl : L.length + 100000 ≤ 1000000000) (hb : total L + sumP (tailP c (itemB c x)) ≤ 100000000000000000) : ∀ (r : List Int) (i m : Nat) (pre : List Int), (ofBytes x.Data).drop i = r → r.length < m → pre ++ r = ofBytes x.Data →
    ref24_send_l11 M m (idl c) (bef c) (toBytes (chs (allB c pre))) (i : Int) L c x = some (puts L (tailP c (itemB c x)))
  | r, i, 0, pre, _, hm, _ => by omega
  | [], i, m + 1, pre, hr, hm, hp => by
    have := drop_nil hr
    rw [ofBytes_length] at this
    have hp : pre = ofBytes x.Data := by simpa using hp
    have hlen := itemB_len c hc x hx
    have hal := allB_len c (ofBytes x.Data)
    rw [ofBytes_length] at hal
    have hc' := hc
    unfold OkC at hc'
    have hsz := hx.size
    have hmul : c.Bits.toNat * x.Data.size ≤ 8 * 4096 := Nat.mul_le_mul (by omega) hsz
    have hs : (toBytes (chs (allB c (ofBytes x.Data)))).size = (allB c (ofBytes x.Data)).length := by rw [toBytes_size]; simp [chs]
    have key := l17_is M c hc (itemB c x) (itemB_bits c x) (by omega) (itemB c x) 0 M L rfl (by omega) hf (by omega) hb
    simp only [ref24_send_l11, b_ref24_send_l11, beq_if, hp]
    rw [bif_neg (by omega)]
    by_cases h8 : x.Fault = 8
    · have hne := (hx.short h8).1
      have hpos : 1 ≤ x.Data.size := by
        rcases Nat.eq_zero_or_pos x.Data.size with h | h
        · exact absurd (ByteArray.ext (Array.eq_empty_of_size_eq_zero h)) hne
        · exact h
      have hpos2 : 1 * 1 ≤ c.Bits.toNat * x.Data.size := Nat.mul_le_mul (by omega) hpos
      have hB : itemB c x = (allB c (ofBytes x.Data)).dropLast := by unfold itemB; rw [if_pos h8]
      have hex : (toBytes (chs (allB c (ofBytes x.Data)))).extract 0 ((allB c (ofBytes x.Data)).length - 1) = toBytes (chs (itemB c x)) := by
        apply ofBytes_inj
        rw [ofBytes_extract, ofBytes_toBytes (chs_bytes (allB_bits c _)), ofBytes_toBytes (chs_bytes (itemB_bits c x)), hB, List.drop_zero, List.dropLast_eq_take]
        simp [chs]
      rw [if_pos h8, hs, i64_ok (n := ((allB c (ofBytes x.Data)).length : Int) - 1) (by omega), bif_pos (by omega), bif_pos (by omega), bif_pos (by omega), show (((allB c (ofBytes x.Data)).length : Int) - 1).toNat = (allB c (ofBytes x.Data)).length - 1 by omega, hex]
      exact key
    · have hB : itemB c x = allB c (ofBytes x.Data) := by unfold itemB; rw [if_neg h8]
      rw [if_neg h8]
      rw [← hB]
      exact key
  | b :: r, i, m + 1, pre, hr, hm, hp => by
    obtain ⟨h1, h2, h3, h4, h5⟩ := drop_cons hr 0
    rw [ofBytes_length] at h2
    have hb2 := hx.byte b h5
    have hat : byteAt x.Data (i : Int) = b := by rw [byteAt_eq]; exact h1
    have hrng := byteAt_range x.Data (i : Int)
    rw [hat] at hrng
    have hsz := hx.size
    have hpl : pre.length ≤ x.Data.size := by
      have := congrArg List.length hp
      rw [List.length_append, ofBytes_length] at this
      omega
    have hc' := hc
    unfold OkC at hc'
    have hal := allB_len c pre
    have hmul : c.Bits.toNat * pre.length ≤ 8 * 4096 := Nat.mul_le_mul (by omega) (by omega)
    have hs1 : (toBytes (chs (allB c pre))).size = (allB c pre).length := by rw [toBytes_size]; simp [chs]
    have hs2 : (toBytes (chs (digs c b))).size = c.Bits.toNat := by rw [toBytes_size, ← digs_len c b]; simp [chs]
    simp only [List.length_cons] at hm
    simp only [ref24_send_l11, b_ref24_send_l11, hat]
    rw [bif_pos (by omega), bif_pos (by omega), bif_pos (by omega), i64_ok (n := b) (by omega), fromint_is M (by omega) c hc b hb2, Option.bind_some, bif_neg (by omega), next_i i (by omega), toBytes_append, ← chs_append]
    have hq : allB c pre ++ digs c b = allB c (pre ++ [b]) := by rw [allB_append]; simp [allB]
    rw [hq]
    exact l11_is M hM c hc x hx L hf hl hb r (i + 1) m (pre ++ [b]) h3 (by omega) (by rw [← hp]; simp)
theorem ref_item_is (M : Nat) (hM : 100000 < M) (c : Spi) (hc : OkC c) (x : Item) (hx : ItemOk c x) (L : List Run) (hf : Fine L) (hl : L.length + 200000 ≤ 1000000000) (hb : total L + sumP (itemP c x) ≤ 100000000000000000) : ref24_send M c L x = some (puts L (itemP c x)) := by
  have ht := (fine_total hf).1
  have hc' := hc
  unfold OkC at hc'
  have hg := hx.gap
  have hi := idl_b c hc
  have hs : sumP (itemP c x) = 2 * c.T + x.Gap + (c.T + sumP (tailP c (itemB c x))) := by unfold itemP; simp only [sumP_cons]
  have hsr := sumP_nonneg (tail_fine c hc (itemB c x) (itemB_bits c x)).1
  have hp1 := put_fine hf (4 + idl c) (2 * c.T + x.Gap) (by omega) (by omega)
  have ht1 := put_total L (4 + idl c) (2 * c.T + x.Gap)
  have hl1 := put_len L (4 + idl c) (2 * c.T + x.Gap)
  have hp2 := put_fine hp1 (idl c) c.T (by omega) (by omega)
  have ht2 := put_total (putA L (4 + idl c) (2 * c.T + x.Gap)) (idl c) c.T
  have hl2 := put_len (putA L (4 + idl c) (2 * c.T + x.Gap)) (idl c) c.T
  have e1 := ref_put_is M L (4 + idl c) (2 * c.T + x.Gap) (by omega) hf (by omega) (by omega)
  have e2 := ref_put_is M _ (idl c) c.T (by omega) hp1 (by omega) (by omega)
  have key := l11_is M hM c hc x hx _ hp2 (by omega) (by omega) (ofBytes x.Data) 0 M [] rfl (by rw [ofBytes_length]; have := hx.size; omega) rfl
  have htp : puts L (itemP c x) = puts (putA (putA L (4 + idl c) (2 * c.T + x.Gap)) (idl c) c.T) (tailP c (itemB c x)) := rfl
  rw [htp, ← key]
  simp only [ref24_send, b_ref24_send, beq_if, bif_if]
  rw [i64_ok (n := 2 * c.T) (by omega), i64_ok (n := 2 * c.T + x.Gap) (by omega)]
  have hnil : toBytes (chs (allB c [])) = bs [] := rfl
  rw [hnil]
  rcases mode4 c hc with h | h | h | h
  · have h1 : idl c = 0 := by unfold idl; rw [h]; rfl
    have h2 : bef c = 0 := by unfold bef; rw [if_pos (.inl h)]
    rw [h1] at e1 e2 ⊢
    rw [h2, if_neg (by omega), if_neg (by omega), if_neg (by omega)]
    simp only [show (4 : Int) + 0 = 4 from rfl] at e1 e2 ⊢
    rw [e1, Option.bind_some, e2, Option.bind_some]
    rfl
  · have h1 : idl c = 0 := by unfold idl; rw [h]; rfl
    have h2 : bef c = 1 := by unfold bef; rw [if_neg (by omega)]
    rw [h1] at e1 e2 ⊢
    rw [h2, if_neg (by omega), if_pos (by omega)]
    simp only [show (4 : Int) + 0 = 4 from rfl] at e1 e2 ⊢
    rw [e1, Option.bind_some, e2, Option.bind_some]
    rfl
  · have h1 : idl c = 1 := by unfold idl; rw [h]; rfl
    have h2 : bef c = 1 := by unfold bef; rw [if_neg (by omega)]
    rw [h1] at e1 e2 ⊢
    rw [h2, if_pos (by omega), if_neg (by omega), if_pos (by omega)]
    simp only [show (4 : Int) + 1 = 5 from rfl] at e1 e2 ⊢
    rw [e1, Option.bind_some, e2, Option.bind_some]
    rfl
  · have h1 : idl c = 1 := by unfold idl; rw [h]; rfl
    have h2 : bef c = 0 := by unfold bef; rw [if_pos (.inr h)]
    rw [h1] at e1 e2 ⊢
    rw [h2, if_pos (by omega), if_neg (by omega), if_neg (by omega)]
    simp only [show (4 : Int) + 1 = 5 from rfl] at e1 e2 ⊢
    rw [e1, Option.bind_some, e2, Option.bind_some]
    rfl
end Go.Abs.K
