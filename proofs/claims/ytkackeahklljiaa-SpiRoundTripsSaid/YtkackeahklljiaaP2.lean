/- SPI: what the decoders do, in plain terms; one event. -/
import Derived.Test.YtkackeahklljiaaP1
set_option linter.unusedVariables false
set_option linter.unusedSimpArgs false
namespace Go.Abs.K
open Go Go.Abs Go.Proofs

def OkC (c : Spi) : Prop := 1 ≤ c.T ∧ c.T ≤ 1048576 ∧ 0 ≤ c.Mode ∧ c.Mode ≤ 3 ∧ 1 ≤ c.Bits ∧ c.Bits ≤ 8
instance (c : Spi) : Decidable (OkC c) := by unfold OkC; infer_instance
theorem check_is (M : Nat) (c : Spi) : spi_Check M c = some (if OkC c then 0 else 2) ∧ ref24_Check M c = some (if OkC c then 0 else 2) := by
  simp only [spi_Check, b_spi_Check, ref24_Check, b_ref24_Check, bif_if]
  by_cases h : OkC c
  · rw [if_pos h]
    unfold OkC at h
    rw [if_neg (by omega), if_neg (by omega), if_neg (by omega), if_neg (by omega), if_neg (by omega), if_neg (by omega)]
    exact ⟨rfl, rfl⟩
  · rw [if_neg h]
    unfold OkC at h
    have : (if c.T < 1 then some (2 : Int) else if c.T > 1048576 then some 2 else if c.Mode < 0 then some 2 else if c.Mode > 3 then some 2 else if c.Bits < 1 then some 2 else if c.Bits > 8 then some 2 else some 0) = some 2 := by
      repeat' split
      all_goals first | rfl | (exfalso; omega)
    exact ⟨this, this⟩

theorem bits_nil : Bits [] := fun v hv => by cases hv
/-! ### The state -/
structure A where
  ph : Int
  at_ : Int
  frm : Int
  prev : Int
  bits : List Int
  data : ByteArray
  ov : Bool
def a0 : A := ⟨0, 0, 0, 0, [], bs [], false⟩
abbrev st0 : State := State.mk 0 0 0 0 0 0 0 (bs [])
structure WfA (c : Spi) (a : A) : Prop where
  ph : a.ph = 0 ∨ a.ph = 1 ∨ a.ph = 2
  bits : Bits a.bits
  len : (a.bits.length : Int) < c.Bits
  data : a.data.size ≤ 4096
  prev : 0 ≤ a.prev ∧ a.prev ≤ 7
  two : a.ph = 2 → a.prev / 4 = 0
def In (a : A) (e : Event) : Prop := Vld e ∧ e.Kind = 1 ∧ e.Fault = 0 ∧ e.From < e.To ∧ 0 ≤ e.Value ∧ e.Value ≤ 7 ∧ (a.ph = 0 ∨ e.From = a.at_)
instance (a : A) (e : Event) : Decidable (In a e) := by unfold In; infer_instance
def act (c : Spi) (v w : Int) : Prop := if c.Mode = 0 ∨ c.Mode = 3 then v % 2 = 0 ∧ w % 2 = 1 else v % 2 = 1 ∧ w % 2 = 0
instance (c : Spi) (v w : Int) : Decidable (act c v w) := by unfold act; infer_instance
def shA (c : Spi) (a : A) (b : Int) : A :=
  if (a.bits.length : Int) + 1 < c.Bits then { a with bits := a.bits ++ [b] }
  else if a.data.size < 4096 then { a with bits := [], data := a.data ++ toBytes [byteV c.Msb (a.bits ++ [b])] }
  else { a with bits := [], ov := true }
def endF (a : A) : Int := if a.bits = [] ∧ a.ov = false then 0 else 8
def stepB (c : Spi) (a : A) (e : Event) : A × List Event :=
  if a.ph = 0 then ({ a with ph := 1, at_ := e.To, prev := e.Value }, [])
  else if a.prev / 4 ≠ 0 ∧ e.Value / 4 = 0 then (⟨2, e.To, e.From, e.Value, [], bs [], false⟩, [])
  else if a.ph ≠ 2 then ({ a with at_ := e.To, prev := e.Value }, [])
  else if e.Value / 4 ≠ 0 then ({ a with ph := 1, at_ := e.To, prev := e.Value }, [Event.mk 5 a.frm e.From 0 0 a.data (endF a)])
  else if act c a.prev e.Value then ({ shA c a (e.Value / 2 % 2) with at_ := e.To, prev := e.Value }, [])
  else ({ a with at_ := e.To, prev := e.Value }, [])
def stepA (c : Spi) (a : A) (e : Event) : A × List Event := if OkC c ∧ In a e then stepB c a e else (a, [])
theorem sh_wf (c : Spi) (hc : OkC c) (a : A) (b : Int) (h : WfA c a) (hb : b = 0 ∨ b = 1) : WfA c (shA c a b) ∧ (shA c a b).ph = a.ph ∧ (shA c a b).frm = a.frm ∧ (shA c a b).prev = a.prev := by
  obtain ⟨h1, h2, h3, h4, h5, h6⟩ := h
  unfold OkC at hc
  unfold shA
  split
  · refine ⟨⟨h1, bits_append.2 ⟨h2, bits_one hb⟩, ?_, h4, h5, h6⟩, rfl, rfl, rfl⟩
    simp only [List.length_append, List.length_singleton]; omega
  · split
    · refine ⟨⟨h1, bits_nil, by simp; omega, ?_, h5, h6⟩, rfl, rfl, rfl⟩
      simp only [ByteArray.size_append, toBytes_size, List.length_singleton]; omega
    · exact ⟨⟨h1, bits_nil, by simp; omega, h4, h5, h6⟩, rfl, rfl, rfl⟩
theorem step_wf (c : Spi) (a : A) (e : Event) (h : WfA c a) : WfA c (stepA c a e).1 ∧ (stepA c a e).2.length ≤ 1 := by
  unfold stepA
  by_cases hi : OkC c ∧ In a e
  · rw [if_pos hi]
    have hc := hi.1
    obtain ⟨_, _, _, _, hv1, hv2, _⟩ := hi.2
    have hc' := hc
    unfold OkC at hc'
    obtain ⟨h1, h2, h3, h4, h5, h6⟩ := h
    unfold stepB
    split
    · exact ⟨⟨.inr (.inl rfl), h2, h3, h4, ⟨hv1, hv2⟩, fun h => absurd h (by dsimp only; omega)⟩, by simp⟩
    · split
      · rename_i hs
        exact ⟨⟨.inr (.inr rfl), bits_nil, by simp; omega, show (0 : Nat) ≤ 4096 by decide, ⟨hv1, hv2⟩, fun _ => hs.2⟩, by simp⟩
      · split
        · exact ⟨⟨h1, h2, h3, h4, ⟨hv1, hv2⟩, fun h => by rename_i hn; exact absurd h hn⟩, by simp⟩
        · split
          · exact ⟨⟨.inr (.inl rfl), h2, h3, h4, ⟨hv1, hv2⟩, fun h => absurd h (by dsimp only; omega)⟩, by simp⟩
          · rename_i h0
            have h0 : e.Value / 4 = 0 := by omega
            split
            · obtain ⟨w1, w2, w3, w4⟩ := sh_wf c hc a (e.Value / 2 % 2) ⟨h1, h2, h3, h4, h5, h6⟩ (by omega)
              exact ⟨⟨w1.ph, w1.bits, w1.len, w1.data, ⟨hv1, hv2⟩, fun _ => h0⟩, by simp⟩
            · exact ⟨⟨h1, h2, h3, h4, ⟨hv1, hv2⟩, fun _ => h0⟩, by simp⟩
  · rw [if_neg hi]; exact ⟨h, by simp⟩

/-! ### The program's state and the document's -/
structure PR (c : Spi) (a : A) (p : State) : Prop where
  ph : p.Phase = a.ph
  zero : a.ph = 0 → p = st0
  some_ : a.ph ≠ 0 → p.At = a.at_ ∧ p.Prev = a.prev
  two : a.ph = 2 → p.From = a.frm ∧ p.Data = a.data ∧ p.Count = a.bits.length ∧ p.Acc = byteV c.Msb a.bits ∧ p.Aux = if a.ov then 1 else 0
structure RR (c : Spi) (a : A) (r : State) : Prop where
  ph : r.Phase = a.ph
  zero : a.ph = 0 → r = st0
  some_ : a.ph ≠ 0 → r.At = a.at_ ∧ r.Prev = a.prev
  two : a.ph = 2 → r.From = a.frm ∧ r.Data = a.data ∧ r.Acc = 2 ^ a.bits.length + revV a.bits.reverse ∧ r.Count = if a.ov then 1 else 0
theorem accepts_is (M : Nat) (c : Spi) (a : A) (p : State) (e : Event) (hp : p.Phase = a.ph) (ha : a.ph ≠ 0 → p.At = a.at_) : spi_accepts M p e = some (decide (In a e)) := by
  simp only [spi_accepts, b_spi_accepts, event_valid, Option.bind_some, bif_if, beq_if, bne_if]
  by_cases hv : Vld e
  · have hv' := hv
    unfold Vld at hv'
    rw [decide_eq_true hv]
    simp only [Bool.not_true, Bool.cond_false, Bool.false_eq_true, if_false, andnot7 e.Value (by omega)]
    by_cases c1 : e.Kind = 1
    · rw [if_pos c1]
      by_cases c2 : e.Fault = 0
      · rw [if_pos c2]
        by_cases c3 : e.From = e.To
        · rw [if_pos c3]; exact congrArg some (decide_eq_false (fun h : In a e => by have h' := h; unfold In at h'; omega)).symm
        · rw [if_neg c3]
          by_cases c4 : 0 ≤ e.Value ∧ e.Value ≤ 7
          · rw [if_pos c4]
            by_cases c5 : p.Phase = 0
            · rw [if_pos c5]; exact congrArg some (decide_eq_true (show In a e from ⟨hv, c1, c2, by omega, c4.1, c4.2, .inl (by omega)⟩)).symm
            · rw [if_neg c5, ha (by omega)]
              congr 1
              by_cases c6 : e.From = a.at_
              · rw [decide_eq_true (show In a e from ⟨hv, c1, c2, by omega, c4.1, c4.2, .inr c6⟩)]; simpa using c6
              · rw [decide_eq_false (fun h : In a e => by have h' := h; unfold In at h'; omega)]; simpa using c6
          · rw [if_neg c4]; exact congrArg some (decide_eq_false (fun h : In a e => by have h' := h; unfold In at h'; omega)).symm
      · rw [if_neg c2]; exact congrArg some (decide_eq_false (fun h : In a e => by have h' := h; unfold In at h'; omega)).symm
    · rw [if_neg c1]; exact congrArg some (decide_eq_false (fun h : In a e => by have h' := h; unfold In at h'; omega)).symm
  · rw [decide_eq_false hv]
    simp only [Bool.not_false, Bool.cond_true]
    exact congrArg some (decide_eq_false (fun h : In a e => hv h.1)).symm
theorem ref_accepts_is (M : Nat) (c : Spi) (a : A) (p : State) (e : Event) (hp : p.Phase = a.ph) (ha : a.ph ≠ 0 → p.At = a.at_) : ref24_accepted M p e = some (decide (In a e)) := by
  simp only [ref24_accepted, b_ref24_accepted, ref_valid, Option.bind_some, bif_if, beq_if, bne_if]
  by_cases hv : Vld e
  · have hv' := hv
    unfold Vld at hv'
    rw [decide_eq_true hv]
    simp only [Bool.not_true, Bool.cond_false]
    by_cases c1 : e.Kind = 1
    · rw [if_pos c1]
      by_cases c2 : e.Fault = 0
      · rw [if_pos c2]
        by_cases c3 : e.From ≥ e.To
        · rw [if_pos c3]; exact congrArg some (decide_eq_false (fun h : In a e => by have h' := h; unfold In at h'; omega)).symm
        · rw [if_neg c3]
          by_cases c4 : e.Value < 0
          · rw [if_pos c4]; exact congrArg some (decide_eq_false (fun h : In a e => by have h' := h; unfold In at h'; omega)).symm
          · rw [if_neg c4]
            by_cases c7 : e.Value > 7
            · rw [if_pos c7]; exact congrArg some (decide_eq_false (fun h : In a e => by have h' := h; unfold In at h'; omega)).symm
            · rw [if_neg c7]
              by_cases c5 : p.Phase = 0
              · rw [if_pos c5]; exact congrArg some (decide_eq_true (show In a e from ⟨hv, c1, c2, by omega, by omega, by omega, .inl (by omega)⟩)).symm
              · rw [if_neg c5, ha (by omega)]
                congr 1
                by_cases c6 : e.From = a.at_
                · rw [decide_eq_true (show In a e from ⟨hv, c1, c2, by omega, by omega, by omega, .inr c6⟩)]; simpa using c6
                · rw [decide_eq_false (fun h : In a e => by have h' := h; unfold In at h'; omega)]; simpa using c6
      · rw [if_neg c2]; exact congrArg some (decide_eq_false (fun h : In a e => by have h' := h; unfold In at h'; omega)).symm
    · rw [if_neg c1]; exact congrArg some (decide_eq_false (fun h : In a e => by have h' := h; unfold In at h'; omega)).symm
  · rw [decide_eq_false hv]
    simp only [Bool.not_false, Bool.cond_true]
    exact congrArg some (decide_eq_false (fun h : In a e => hv h.1)).symm

/-! ### One bit more -/
theorem byteV_snoc (msb : Bool) (l : List Int) (b : Int) : byteV msb (l ++ [b]) = if msb then byteV msb l * 2 + b else byteV msb l + b * 2 ^ l.length := by
  unfold byteV
  cases msb with
  | true => simp only [if_true, List.reverse_append, List.reverse_singleton, List.singleton_append, revV_cons]; omega
  | false => simp only [Bool.false_eq_true, if_false]; exact revV_snoc l b
theorem shift_is (M : Nat) (c : Spi) (hc : OkC c) (a : A) (h : WfA c a) (p : State) (hp : PR c a p) (h2 : a.ph = 2) (b : Int) (hb : b = 0 ∨ b = 1) : ∃ p', spi_shift M c p b = some p' ∧ p'.Phase = p.Phase ∧ p'.At = p.At ∧ p'.Prev = p.Prev ∧ p'.From = p.From ∧ p'.Data = (shA c a b).data ∧ p'.Count = (shA c a b).bits.length ∧ p'.Acc = byteV c.Msb (shA c a b).bits ∧ p'.Aux = if (shA c a b).ov then 1 else 0 := by
  obtain ⟨q1, q2, q3, q4, q5⟩ := hp.two h2
  have hlen := h.len
  have hdat := h.data
  have hc' := hc
  unfold OkC at hc'
  have hr := byteV_range c.Msb h.bits (by omega)
  have hr2 := byteV_range c.Msb (bits_append.2 ⟨h.bits, bits_one hb⟩) (by simp; omega)
  have hsn := byteV_snoc c.Msb a.bits b
  have hpw := pow_b a.bits.length (by omega)
  have hacc : (if c.Msb then IntKind.i64.wrap (((BitVec.ofInt 64 (IntKind.i64.wrap (p.Acc * 2)) ||| BitVec.ofInt 64 b).toNat : Int)) else IntKind.i64.wrap (((BitVec.ofInt 64 p.Acc ||| BitVec.ofInt 64 (IntKind.i64.wrap (b * 2 ^ min p.Count.toNat 64))).toNat : Int))) = byteV c.Msb (a.bits ++ [b]) := by
    rw [q3, q4, hsn]
    cases hm : c.Msb with
    | true => rw [hm] at hr; simp only [if_true]; rw [i64_ok (n := byteV true a.bits * 2) (by omega), or_even _ _ (by omega) hb]
    | false => rw [hm] at hr; simp only [Bool.false_eq_true, if_false]; exact or_high a.bits.length (by omega) _ b ⟨hr.1, hr.2.1⟩ hb
  have hs1 : ∀ x : Int, (p.Data ++ toBytes [x]) = a.data ++ toBytes [x] := fun x => by rw [q2]
  simp only [spi_shift, b_spi_shift, q2, q3]
  rw [i64_ok (n := (a.bits.length : Int) + 1) (by omega)]
  simp only [bif_neg (show ¬ (a.bits.length : Int) < 0 by omega), toBytes_size, List.length_singleton]
  rw [q3] at hacc
  cases hm : c.Msb with
  | true =>
    rw [hm] at hacc hr2
    simp only [if_true] at hacc
    simp only [Bool.cond_true, hacc]
    unfold shA
    rw [hm]
    by_cases c1 : (a.bits.length : Int) + 1 < c.Bits
    · rw [bif_pos c1, if_pos c1]
      exact ⟨_, rfl, rfl, rfl, rfl, rfl, rfl, by simp, rfl, q5⟩
    · rw [bif_neg c1, if_neg c1]
      by_cases c2 : a.data.size < 4096
      · rw [bif_pos (show (a.data.size : Int) < 4096 by omega), if_pos c2, bif_neg (by omega), u8_ok (by omega)]
        exact ⟨_, rfl, rfl, rfl, rfl, rfl, rfl, rfl, by simp [byteV, revV], q5⟩
      · rw [bif_neg (show ¬ (a.data.size : Int) < 4096 by omega), if_neg c2]
        exact ⟨_, rfl, rfl, rfl, rfl, rfl, rfl, rfl, by simp [byteV, revV], rfl⟩
  | false =>
    rw [hm] at hacc hr2
    simp only [Bool.false_eq_true, if_false] at hacc
    simp only [Bool.cond_false, hacc]
    unfold shA
    rw [hm]
    by_cases c1 : (a.bits.length : Int) + 1 < c.Bits
    · rw [bif_pos c1, if_pos c1]
      exact ⟨_, rfl, rfl, rfl, rfl, rfl, rfl, by simp, rfl, q5⟩
    · rw [bif_neg c1, if_neg c1]
      by_cases c2 : a.data.size < 4096
      · rw [bif_pos (show (a.data.size : Int) < 4096 by omega), if_pos c2, bif_neg (by omega), u8_ok (by omega)]
        exact ⟨_, rfl, rfl, rfl, rfl, rfl, rfl, rfl, by simp [byteV, revV], q5⟩
      · rw [bif_neg (show ¬ (a.data.size : Int) < 4096 by omega), if_neg c2]
        exact ⟨_, rfl, rfl, rfl, rfl, rfl, rfl, rfl, by simp [byteV, revV], rfl⟩
theorem bit_is (M : Nat) (hM : 1000 < M) (c : Spi) (hc : OkC c) (a : A) (h : WfA c a) (r : State) (b : Int) (hb : b = 0 ∨ b = 1) (q2 : r.Data = a.data) (q3 : r.Acc = 2 ^ a.bits.length + revV a.bits.reverse) (q4 : r.Count = if a.ov then 1 else 0) : ∃ r', ref24_bit M c r b = some r' ∧ r'.Phase = r.Phase ∧ r'.At = r.At ∧ r'.Prev = r.Prev ∧ r'.From = r.From ∧ r'.Data = (shA c a b).data ∧ r'.Acc = 2 ^ (shA c a b).bits.length + revV (shA c a b).bits.reverse ∧ r'.Count = if (shA c a b).ov then 1 else 0 := by
  have hlen := h.len
  have hdat := h.data
  have hc' := hc
  unfold OkC at hc'
  have hB := bits_append.2 ⟨h.bits, bits_one hb⟩
  have hr := revV_range (bits_reverse h.bits)
  have hr2 := revV_range (bits_reverse hB)
  rw [List.length_reverse] at hr hr2
  have hpw := pow_b a.bits.length (by omega)
  have hll : (a.bits ++ [b]).length = a.bits.length + 1 := by simp
  have hpw2 := pow_b (a.bits ++ [b]).length (by omega)
  have hsn : revV (a.bits ++ [b]).reverse = b + 2 * revV a.bits.reverse := by rw [List.reverse_append]; rfl
  have hp2 : (2 : Int) ^ (a.bits ++ [b]).length = 2 * 2 ^ a.bits.length := by rw [hll, pow_s]
  have hbn : (c.Bits.toNat : Int) = c.Bits := by omega
  have hpB := pow_b c.Bits.toNat (by omega)
  have hv : IntKind.i64.wrap (IntKind.i64.wrap (2 * r.Acc) + b) = 2 ^ (a.bits ++ [b]).length + revV (a.bits ++ [b]).reverse := by
    rw [q3, i64_ok (n := 2 * (2 ^ a.bits.length + revV a.bits.reverse)) (by omega), i64_ok (by omega), hsn, hp2]; omega
  simp only [ref24_bit, b_ref24_bit, hv, q2, toBytes_size, List.length_singleton]
  rw [bif_neg (by omega), Nat.min_eq_left (by omega), beq_if, Int.fdiv_eq_ediv_of_nonneg _ (by omega)]
  generalize hV : (2 : Int) ^ (a.bits ++ [b]).length + revV (a.bits ++ [b]).reverse = V at *
  unfold shA
  by_cases c1 : (a.bits.length : Int) + 1 < c.Bits
  · have hlt : V < 2 ^ c.Bits.toNat := by
      have : (2 : Int) ^ (a.bits.length + 2) ≤ 2 ^ c.Bits.toNat := by
        have := Nat.pow_le_pow_right (n := 2) (by omega) (show a.bits.length + 2 ≤ c.Bits.toNat by omega)
        exact_mod_cast this
      rw [pow_s, ← hll] at this
      omega
    rw [if_pos c1, if_pos (Int.ediv_eq_zero_of_lt (by omega) hlt)]
    exact ⟨_, rfl, rfl, rfl, rfl, rfl, rfl, by dsimp only; rw [hV], q4⟩
  · have hcl : (a.bits ++ [b]).length = c.Bits.toNat := by omega
    rw [hcl] at hV hr2 hpw2
    have hge : ¬ V / 2 ^ c.Bits.toNat = 0 := by
      have : 1 ≤ V / 2 ^ c.Bits.toNat := Int.le_ediv_of_mul_le (by omega) (by omega)
      omega
    rw [if_neg c1, if_neg hge]
    by_cases c2 : a.data.size < 4096
    · have hmask : IntKind.i64.wrap (((BitVec.ofInt 64 V &&& BitVec.ofInt 64 (IntKind.i64.wrap (IntKind.i64.wrap (1 * 2 ^ c.Bits.toNat) - 1))).toNat : Int)) = revV (a.bits ++ [b]).reverse := by
        rw [Int.one_mul, i64_ok (n := 2 ^ c.Bits.toNat) (by omega), i64_ok (n := 2 ^ c.Bits.toNat - 1) (by omega)]
        have := and_low 64 c.Bits.toNat V (by omega)
        rw [show ((2 ^ c.Bits.toNat - 1 : Nat) : Int) = 2 ^ c.Bits.toNat - 1 by
          have h2 := Nat.two_pow_pos c.Bits.toNat
          rw [Int.natCast_sub (by omega)]; simp] at this
        rw [this, i64_ok (by
          have := Int.emod_nonneg V (b := 2 ^ c.Bits.toNat) (by omega)
          have := Int.emod_lt_of_pos V (b := 2 ^ c.Bits.toNat) (by omega)
          omega)]
        rw [← hV, Int.add_comm, Int.add_emod_right, Int.emod_eq_of_lt hr2.1 hr2.2]
      rw [bif_pos (show (a.data.size : Int) < 4096 by omega), if_pos c2]
      simp only [bif_neg (show ¬ c.Bits < 0 by omega), hmask]
      rw [order_is M hM c (a.bits ++ [b]) hB (by omega) (by omega), Option.bind_some, bif_neg (by omega)]
      exact ⟨_, rfl, rfl, rfl, rfl, rfl, rfl, by simp [revV], q4⟩
    · rw [bif_neg (show ¬ (a.data.size : Int) < 4096 by omega), if_neg c2]
      exact ⟨_, rfl, rfl, rfl, rfl, rfl, rfl, by simp [revV], by simp⟩
end Go.Abs.K
