/- LIN: checksums, protected identifiers, what a step gives. -/
import Derived.Test.YtohpkolbocmbbaaE1
set_option linter.unusedVariables false
set_option linter.unusedSimpArgs false
namespace Go.Abs.K
open Go Go.Abs Go.Proofs

def redA (b : ByteArray) : Nat → Nat → Int → Int
  | 0, i, n => n
  | k + 1, i, n => redA b k (i + 1) (if n + byteAt b i > 255 then n + byteAt b i - 255 else n + byteAt b i)
theorem redA_range (b : ByteArray) : ∀ (k i : Nat) (n : Int), 0 ≤ n → n ≤ 255 → 0 ≤ redA b k i n ∧ redA b k i n ≤ 255
  | 0, i, n, h1, h2 => ⟨h1, h2⟩
  | k + 1, i, n, h1, h2 => by
    have := byteAt_range b i
    unfold redA
    split
    · exact redA_range b k _ _ (by omega) (by omega)
    · exact redA_range b k _ _ (by omega) (by omega)
def carA (b : ByteArray) : Int := 255 - redA b b.size 0 0
theorem carA_range (b : ByteArray) : 0 ≤ carA b ∧ carA b ≤ 255 := by
  have := redA_range b b.size 0 0 (by omega) (by omega)
  unfold carA; omega
theorem carry_l3 (M : Nat) (b : ByteArray) (hb : b.size ≤ 1099511627776) : ∀ (k i m : Nat) (n : Int), i + k = b.size → k < m → 0 ≤ n → n ≤ 255 → check_Carry_l3 M m b n (b.size : Int) (i : Int) = some (255 - redA b k i n)
  | k, i, 0, n, _, hm, _, _ => by omega
  | 0, i, m + 1, n, hi, hm, h1, h2 => by
    simp only [check_Carry_l3, b_check_Carry_l3]
    rw [bif_neg (by omega), i64_ok (by omega)]; rfl
  | k + 1, i, m + 1, n, hi, hm, h1, h2 => by
    have hr := byteAt_range b i
    simp only [check_Carry_l3, b_check_Carry_l3]
    rw [bif_pos (by omega), bif_pos (by omega), bif_pos (by omega), next_i i (by omega), i64_ok (n := byteAt b i) (by omega), i64_ok (n := n + byteAt b i) (by omega), bif_if]
    unfold redA
    by_cases h : n + byteAt b i > 255
    · rw [if_pos h, if_pos h, i64_ok (by omega), carry_l3 M b hb k (i + 1) m _ (by omega) (by omega) (by omega) (by omega)]
    · rw [if_neg h, if_neg h, carry_l3 M b hb k (i + 1) m _ (by omega) (by omega) (by omega) (by omega)]
theorem rcarry_l3 (M : Nat) (b : ByteArray) (hb : b.size ≤ 1099511627776) : ∀ (k i m : Nat) (n : Int), i + k = b.size → k < m → 0 ≤ n → n ≤ 255 → ref27_carry_l3 M m b n (i : Int) = some (255 - redA b k i n)
  | k, i, 0, n, _, hm, _, _ => by omega
  | 0, i, m + 1, n, hi, hm, h1, h2 => by
    simp only [ref27_carry_l3, b_ref27_carry_l3]
    rw [bif_neg (by omega), i64_ok (by omega)]; rfl
  | k + 1, i, m + 1, n, hi, hm, h1, h2 => by
    have hr := byteAt_range b i
    simp only [ref27_carry_l3, b_ref27_carry_l3]
    rw [bif_pos (by omega), bif_pos (by omega), bif_pos (by omega), next_i i (by omega), i64_ok (n := byteAt b i) (by omega), i64_ok (n := n + byteAt b i) (by omega), bif_if]
    unfold redA
    by_cases h : n + byteAt b i > 255
    · rw [if_pos h, if_pos h, i64_ok (by omega), rcarry_l3 M b hb k (i + 1) m _ (by omega) (by omega) (by omega) (by omega)]
    · rw [if_neg h, if_neg h, rcarry_l3 M b hb k (i + 1) m _ (by omega) (by omega) (by omega) (by omega)]
theorem carry_is (M : Nat) (b : ByteArray) (hb : b.size ≤ 1099511627776) (hm : b.size < M) : check_Carry M b = some (carA b) := by
  simp only [check_Carry, b_check_Carry]
  exact carry_l3 M b hb b.size 0 M 0 (by omega) hm (by omega) (by omega)
theorem rcarry_is (M : Nat) (b : ByteArray) (hb : b.size ≤ 1099511627776) (hm : b.size < M) : ref27_carry M b = some (carA b) := by
  simp only [ref27_carry, b_ref27_carry]
  exact rcarry_l3 M b hb b.size 0 M 0 (by omega) hm (by omega) (by omega)
theorem and63 (p : Int) : IntKind.i64.wrap (((BitVec.ofInt 64 p &&& BitVec.ofInt 64 63).toNat : Int)) = p % 64 := by
  have := and_low 64 6 p (by omega)
  rw [show ((2 ^ 6 - 1 : Nat) : Int) = 63 from rfl, show (2 ^ 6 : Int) = 64 from rfl] at this
  rw [this, i64_ok (by omega)]
def sumA (c : Lin) (p : Int) (d : ByteArray) : Int := if c.Classic = true then carA d else if p % 64 ≥ 60 then carA d else carA (toBytes [IntKind.u8.wrap p] ++ d)
theorem sumA_range (c : Lin) (p : Int) (d : ByteArray) : 0 ≤ sumA c p d ∧ sumA c p d ≤ 255 := by
  unfold sumA
  split
  · exact carA_range _
  · split <;> exact carA_range _
theorem checksum_is (M : Nat) (c : Lin) (p : Int) (d : ByteArray) (hd : d.size ≤ 1000000) (hm : d.size + 1 < M) : lin_checksum M c p d = some (sumA c p d) := by
  have hs : (toBytes [IntKind.u8.wrap p]).size = 1 := by rw [toBytes_size]; rfl
  have ha : (toBytes [IntKind.u8.wrap p] ++ d).size = 1 + d.size := by rw [size_append, hs]
  simp only [lin_checksum, b_lin_checksum, carry_is M d (by omega) (by omega), carry_is M (toBytes [IntKind.u8.wrap p] ++ d) (by omega) (by omega), Option.bind_some, and63, sumA, bif_if, hs]
  cases c.Classic with
  | true => rfl
  | false =>
    rw [if_neg (show ¬ (false = true) by decide)]
    by_cases h : p % 64 ≥ 60
    · rw [if_pos h, if_pos h]; rfl
    · rw [if_neg h, if_neg h, if_neg (by omega)]; rfl
theorem rsum_is (M : Nat) (c : Lin) (p : Int) (d : ByteArray) (hd : d.size ≤ 1000000) (hm : d.size + 1 < M) : ref27_sum M c p d = some (sumA c p d) := by
  have hs : (toBytes [IntKind.u8.wrap p]).size = 1 := by rw [toBytes_size]; rfl
  have ha : (toBytes [IntKind.u8.wrap p] ++ d).size = 1 + d.size := by rw [size_append, hs]
  simp only [ref27_sum, b_ref27_sum, rcarry_is M d (by omega) (by omega), rcarry_is M (toBytes [IntKind.u8.wrap p] ++ d) (by omega) (by omega), Option.bind_some, and63, sumA, bif_if, hs]
  cases c.Classic with
  | true => rfl
  | false =>
    rw [if_neg (show ¬ (false = true) by decide)]
    by_cases h : p % 64 ≥ 60
    · rw [if_pos h, if_pos h]; rfl
    · rw [if_neg h, if_neg h, if_neg (by omega)]; rfl
/-! ### Protected identifiers -/
noncomputable def protA (x : Int) : Int := (lin_protected 0 x).getD 0
noncomputable def protR (x : Int) : Int := (ref27_Protect 0 x).getD 0
theorem prot_same64 : (List.range 64).all (fun n => decide (protA (n : Int) = protR (n : Int)) && (decide (0 ≤ protA (n : Int)) && (decide (protA (n : Int) ≤ 255) && decide (protA (n : Int) % 64 = (n : Int))))) = true := by kernel_rfl
theorem prot_facts (x : Int) (h : 0 ≤ x ∧ x < 64) : protA x = protR x ∧ 0 ≤ protA x ∧ protA x ≤ 255 ∧ protA x % 64 = x := by
  obtain ⟨n, rfl⟩ := Int.eq_ofNat_of_zero_le h.1
  have := List.all_eq_true.1 prot_same64 n (List.mem_range.2 (by omega))
  simp only [Bool.and_eq_true, decide_eq_true_eq] at this
  exact ⟨this.1, this.2.1, this.2.2.1, this.2.2.2⟩
/-! ### The event of a frame -/
def okS (s : State) : Prop := 4 ≤ s.Data.size ∧ s.Data.size ≤ 11
noncomputable def fltA (c : Lin) (d : ByteArray) : Int :=
  if byteAt d 0 = 85 then (if byteAt d 1 = protA (byteAt d 1 % 64) then (if byteAt d ((d.size : Int) - 1) = sumA c (byteAt d 1) (d.extract 2 (d.size - 1)) then 0 else 3) else 2) else 1
noncomputable def frameA (c : Lin) (f t : Int) (d : ByteArray) : Event :=
  if 4 ≤ d.size ∧ d.size ≤ 11 then Event.mk 5 f t (byteAt d 1 % 64) 0 (d.extract 2 (d.size - 1)) (fltA c d) else Event.mk 5 f t 0 0 d 8
noncomputable def restP (M : Nat) (c : Lin) (s : State) : Option (List Event) :=
  (bif byteAt s.Data 0 != 85 then
 some ([Event.mk 5 s.From s.Aux (IntKind.i64.wrap (((BitVec.ofInt 64 (IntKind.i64.wrap (byteAt s.Data 1)) &&& BitVec.ofInt 64 63).toNat : Int))) 0 (s.Data.extract 2 (IntKind.i64.wrap (s.Count - 1)).toNat) 1])
 else
 bif IntKind.i64.wrap (byteAt s.Data 1) != protA (IntKind.i64.wrap (((BitVec.ofInt 64 (IntKind.i64.wrap (byteAt s.Data 1)) &&& BitVec.ofInt 64 63).toNat : Int))) then
 some ([Event.mk 5 s.From s.Aux (IntKind.i64.wrap (((BitVec.ofInt 64 (IntKind.i64.wrap (byteAt s.Data 1)) &&& BitVec.ofInt 64 63).toNat : Int))) 0 (s.Data.extract 2 (IntKind.i64.wrap (s.Count - 1)).toNat) 2])
 else
 (lin_checksum M c (IntKind.i64.wrap (byteAt s.Data 1)) (s.Data.extract 2 (IntKind.i64.wrap (s.Count - 1)).toNat)).bind fun r0 =>
 bif IntKind.i64.wrap (byteAt s.Data (IntKind.i64.wrap (s.Count - 1))) != r0 then
 some ([Event.mk 5 s.From s.Aux (IntKind.i64.wrap (((BitVec.ofInt 64 (IntKind.i64.wrap (byteAt s.Data 1)) &&& BitVec.ofInt 64 63).toNat : Int))) 0 (s.Data.extract 2 (IntKind.i64.wrap (s.Count - 1)).toNat) 3])
 else
 some ([Event.mk 5 s.From s.Aux (IntKind.i64.wrap (((BitVec.ofInt 64 (IntKind.i64.wrap (byteAt s.Data 1)) &&& BitVec.ofInt 64 63).toNat : Int))) 0 (s.Data.extract 2 (IntKind.i64.wrap (s.Count - 1)).toNat) 0]))
theorem complete_eq (M : Nat) (c : Lin) (s : State) : lin_complete M c s =
  bif s.Phase != 1 then some [] else
  bif decide (s.Count < 4) then some ([Event.mk 5 s.From s.Aux 0 0 s.Data 8]) else
  bif decide (s.Count > 11) then some ([Event.mk 5 s.From s.Aux 0 0 s.Data 8]) else
  bif decide (1 < (s.Data.size : Int)) then
  (bif decide (0 ≤ IntKind.i64.wrap (s.Count - 1)) then
  (bif decide (IntKind.i64.wrap (s.Count - 1) < (s.Data.size : Int)) then
  (bif decide (0 ≤ IntKind.i64.wrap (s.Count - 1)) then
  (bif decide (IntKind.i64.wrap (s.Count - 1) ≤ (s.Data.size : Int)) then
  (bif decide (2 ≤ IntKind.i64.wrap (s.Count - 1)) then
  (bif decide (0 < (s.Data.size : Int)) then restP M c s else none) else none) else none) else none) else none) else none) else none := rfl
theorem extract_size (d : ByteArray) (a b : Nat) (h : b ≤ d.size) : (d.extract a b).size = b - a := by
  rw [← ofBytes_length, ofBytes_extract, List.length_drop, List.length_take, ofBytes_length]; omega
/-- What the program keeps. -/
def WfS (s : State) : Prop := (s.Phase = 0 ∨ s.Phase = 1) ∧ 0 ≤ s.At ∧ s.At ≤ 1099511627776 ∧ (s.Phase = 1 → 0 ≤ s.From ∧ s.From ≤ s.At ∧ 0 ≤ s.Count ∧ s.Count ≤ 1000000000 ∧ (s.Count ≤ 4096 → (s.Data.size : Int) = s.Count) ∧ (s.Count > 4096 → s.Data.size = 4096))
theorem complete_is (M : Nat) (hM : 100 < M) (c : Lin) (s : State) (h : WfS s) : lin_complete M c s = some (if s.Phase = 1 then [frameA c s.From s.Aux s.Data] else []) := by
  rw [complete_eq]
  simp only [bne_if, bif_if]
  by_cases hp : s.Phase = 1
  · obtain ⟨h1, h2, h3, h4⟩ := h
    obtain ⟨g1, g2, g3, g4, g5, g6⟩ := h4 hp
    rw [if_pos hp, if_pos hp]
    unfold frameA
    by_cases c1 : s.Count < 4
    · have := g5 (by omega)
      rw [if_pos c1, if_neg (by omega)]
    by_cases c2 : s.Count > 11
    · have : ¬ (4 ≤ s.Data.size ∧ s.Data.size ≤ 11) := by
        by_cases c3 : s.Count ≤ 4096
        · have := g5 c3; omega
        · have := g6 (by omega); omega
      rw [if_neg c1, if_pos c2, if_neg this]
    have hs := g5 (by omega)
    have hr := byteAt_range s.Data 1
    rw [if_neg c1, if_neg c2, i64_ok (n := s.Count - 1) (by omega), if_pos (by omega), if_pos (by omega), if_pos (by omega), if_pos (by omega), if_pos (by omega), if_pos (by omega), if_pos (by omega), if_pos (by omega)]
    have hcnt : (s.Count - 1).toNat = s.Data.size - 1 := by omega
    have hes : (s.Data.extract 2 (s.Data.size - 1)).size = s.Data.size - 1 - 2 := extract_size _ _ _ (by omega)
    have hlast : s.Count - 1 = (s.Data.size : Int) - 1 := by omega
    have hrl := byteAt_range s.Data ((s.Data.size : Int) - 1)
    unfold restP fltA
    simp only [and63, bne_if, bif_if]
    rw [i64_ok (n := byteAt s.Data 1) (by omega), i64_ok (n := s.Count - 1) (by omega), hcnt, hlast, checksum_is M c _ _ (by omega) (by omega), Option.bind_some, i64_ok (n := byteAt s.Data ((s.Data.size : Int) - 1)) (by omega)]
    by_cases d1 : byteAt s.Data 0 = 85
    · rw [if_pos d1, if_pos d1]
      by_cases d2 : byteAt s.Data 1 = protA (byteAt s.Data 1 % 64)
      · rw [if_pos d2, if_pos d2]
        split <;> rfl
      · rw [if_neg d2, if_neg d2]
    · rw [if_neg d1, if_neg d1]
  · rw [if_neg hp, if_neg hp]
end Go.Abs.K
