/- EEPROM: what a step gives, the program's and the document's; what is decoded of a list. -/
import Derived.Test.YteennedaijeiaaaE1
set_option linter.unusedVariables false
set_option linter.unusedSimpArgs false
namespace Go.Abs.K
open Go Go.Abs Go.Proofs

def OkC (c : Eeprom) : Prop := 0 ≤ c.Address ∧ c.Address ≤ 127 ∧ 1 ≤ c.Pointer ∧ c.Pointer ≤ 2
instance (c : Eeprom) : Decidable (OkC c) := by unfold OkC; infer_instance
def md (c : Eeprom) : Int := if c.Pointer = 1 then 256 else 65536
def num (c : Eeprom) (d : ByteArray) : Int := if c.Pointer = 1 then byteAt d 0 else 256 * byteAt d 0 + byteAt d 1
def stepE (c : Eeprom) (s : State) (e : Event) : State × List Event :=
  if OkC c ∧ e.Kind = 5 ∧ Vld e ∧ s.At ≤ e.From then
    if e.Fault ≠ 0 then ({ s with At := e.From, Acc := 0 }, [])
    else if e.Value = 2 * c.Address then
      if (e.Data.size : Int) < c.Pointer then ({ s with At := e.From }, [Event.mk 7 e.From e.To 0 0 e.Data 8])
      else if (e.Data.size : Int) = c.Pointer then ({ s with At := e.From, Acc := num c e.Data }, [])
      else ({ s with At := e.From, Acc := (num c e.Data + (e.Data.size - c.Pointer)) % md c }, [Event.mk 7 e.From e.To (num c e.Data) 0 (e.Data.extract c.Pointer.toNat e.Data.size) 0])
    else if e.Value = 2 * c.Address + 1 then ({ s with At := e.From, Acc := (IntKind.i64.wrap (s.Acc + e.Data.size)).tmod (md c) }, [Event.mk 7 e.From e.To s.Acc 1 e.Data 0])
    else ({ s with At := e.From }, [])
  else (s, [])
theorem eeprom_check_is (M : Nat) (c : Eeprom) : eeprom_Check M c = some (if OkC c then 0 else 2) := by
  simp only [eeprom_Check, b_eeprom_Check, bif_if]
  by_cases h : OkC c
  · rw [if_pos h]; unfold OkC at h; repeat rw [if_neg (by omega)]
  · rw [if_neg h]; unfold OkC at h
    repeat' split
    all_goals first | rfl | (exfalso; omega)
theorem ref_check_is (M : Nat) (c : Eeprom) : ref31_Check M c = some (if OkC c then 0 else 2) := by
  simp only [ref31_Check, b_ref31_Check, bif_if]
  by_cases h : OkC c
  · rw [if_pos h]; unfold OkC at h; repeat rw [if_neg (by omega)]
  · rw [if_neg h]; unfold OkC at h
    repeat' split
    all_goals first | rfl | (exfalso; omega)
theorem size_is (M : Nat) (c : Eeprom) (h : OkC c) : eeprom_size M c = some (md c) := by
  unfold OkC at h
  have h2 : c.Pointer = 1 ∨ c.Pointer = 2 := by omega
  simp only [eeprom_size, b_eeprom_size, md]
  rcases h2 with h2 | h2 <;> rw [h2] <;> decide
theorem modulus_is (M : Nat) (c : Eeprom) (h : OkC c) : ref31_modulus M c = some (md c) := by
  simp only [ref31_modulus, b_ref31_modulus, md, beq_if]
  split <;> rfl
theorem accepts_is (M : Nat) (s : State) (e : Event) : eeprom_accepts M s e = some (decide (e.Kind = 5 ∧ Vld e ∧ s.At ≤ e.From)) := by
  simp only [eeprom_accepts, b_eeprom_accepts, event_valid, Option.bind_some, beq_if, bif_if]
  by_cases h1 : e.Kind = 5 <;> by_cases h2 : Vld e <;> simp [h1, h2]
theorem ref_accepts_is (M : Nat) (s : State) (e : Event) : ref31_accepts M s e = some (decide (e.Kind = 5 ∧ Vld e ∧ s.At ≤ e.From)) := by
  simp only [ref31_accepts, b_ref31_accepts, ref_valid, Option.bind_some, beq_if, bif_if]
  by_cases h1 : e.Kind = 5 <;> by_cases h2 : Vld e <;> simp [h1, h2]
theorem md_pos (c : Eeprom) : 0 < md c ∧ md c ≤ 65536 := by unfold md; split <;> omega
theorem num_range (c : Eeprom) (d : ByteArray) : 0 ≤ num c d ∧ num c d < md c := by
  have h0 := byteAt_range d 0
  have h1 := byteAt_range d 1
  unfold num md
  split <;> omega
theorem extract_size (d : ByteArray) (p : Int) (h0 : 0 ≤ p) (h1 : p ≤ d.size) : ((d.extract p.toNat d.size).size : Int) = d.size - p := by
  rw [← ofBytes_length, ofBytes_extract, List.length_drop, List.length_take, ofBytes_length]
  omega
theorem empty_iff (d : ByteArray) : (d.toList == (bs []).toList) = decide (d.size = 0) := by
  rw [str_beq, decide_eq_decide, ofBytes_bs, ← ofBytes_length]
  simp
theorem wrap_byte (d : ByteArray) (i : Int) : IntKind.i64.wrap (byteAt d i) = byteAt d i := i64_ok (by have := byteAt_range d i; omega)
theorem l15_is (M m : Nat) (c : Eeprom) (hc : OkC c) (s : State) (hs : s.Acc = 0) (e : Event) (z : State) (x : Eeprom_command) (hx : x.aux_ = 0 ∧ x.fault_ = 0 ∧ x.Span_From = e.From ∧ x.Span_To = e.To) (hsz : c.Pointer ≤ (e.Data.size : Int)) (hb : (e.Data.size : Int) ≤ 4096) (hm : 3 ≤ m) :
    eeprom_Step_l15 M m c.Pointer 0 c s e z x = some (if (e.Data.size : Int) = c.Pointer then ({ s with Acc := num c e.Data }, []) else ({ s with Acc := (num c e.Data + (e.Data.size - c.Pointer)) % md c }, [Event.mk 7 e.From e.To (num c e.Data) 0 (e.Data.extract c.Pointer.toNat e.Data.size) 0])) := by
  obtain ⟨m, rfl⟩ : ∃ k, m = k + 3 := ⟨m - 3, by omega⟩
  obtain ⟨hx1, hx2, hx3, hx4⟩ := hx
  have hc' := hc
  unfold OkC at hc'
  have b0 := byteAt_range e.Data 0
  have b1 := byteAt_range e.Data 1
  have hmd := md_pos c
  have e0 : IntKind.i64.wrap (256 * 0) = 0 := by decide
  have fin : ∀ (k : Nat) (a : Int), a = num c e.Data → (bif decide ((e.Data.size : Int) ≤ (e.Data.size : Int)) then
      (bif decide (0 ≤ c.Pointer) then
      (bif decide (c.Pointer ≤ (e.Data.size : Int)) then
      (bif (e.Data.extract c.Pointer.toNat ((e.Data.size : Int)).toNat).toList == (bs []).toList then
      some ({ s with Acc := a }, [])
      else
      (eeprom_size M c).bind fun r0 =>
      bif decide (r0 = 0) then
      none
      else
      some ({ s with Acc := (IntKind.i64.wrap (a + ((e.Data.extract c.Pointer.toNat ((e.Data.size : Int)).toNat).size : Int))).tmod r0 }, ([Event.mk 7 x.Span_From x.Span_To a x.aux_ (e.Data.extract c.Pointer.toNat ((e.Data.size : Int)).toNat) x.fault_])))
      else
      none)
      else
      none)
      else
      none) = some (if (e.Data.size : Int) = c.Pointer then ({ s with Acc := num c e.Data }, []) else ({ s with Acc := (num c e.Data + (e.Data.size - c.Pointer)) % md c }, [Event.mk 7 e.From e.To (num c e.Data) 0 (e.Data.extract c.Pointer.toNat e.Data.size) 0])) := by
    intro k a ha
    have hn := num_range c e.Data
    subst ha
    rw [bif_pos (by omega), bif_pos (by omega), bif_pos hsz, empty_iff, Int.toNat_natCast, size_is M c hc, hx1, hx2, hx3, hx4]
    have hz := extract_size e.Data c.Pointer (by omega) hsz
    by_cases h : (e.Data.size : Int) = c.Pointer
    · rw [bif_pos (by omega), if_pos h]
    · rw [bif_neg (by omega), if_neg h, Option.bind_some, bif_neg (by omega), hz, i64_ok (by omega), IntWalk.rem_in _ _ (by omega)]
  have h2 : c.Pointer = 1 ∨ c.Pointer = 2 := by omega
  rcases h2 with h2 | h2
  · simp only [eeprom_Step_l15, b_eeprom_Step_l15]
    rw [bif_pos (by omega), bif_pos (by omega), bif_pos (by omega), bif_neg (by rw [i64_ok (by omega)]; omega)]
    have hn : IntKind.i64.wrap (IntKind.i64.wrap (256 * s.Acc) + IntKind.i64.wrap (byteAt e.Data 0)) = num c e.Data := by
      rw [hs, e0, wrap_byte, i64_ok (by omega)]; unfold num; rw [if_pos h2]; omega
    exact fin 0 _ hn
  · simp only [eeprom_Step_l15, b_eeprom_Step_l15]
    have w1 : IntKind.i64.wrap (0 + 1) = 1 := by decide
    have w2 : IntKind.i64.wrap (1 + 1) = 2 := by decide
    rw [bif_pos (by omega), bif_pos (by omega), bif_pos (by omega), w1, bif_pos (by omega), bif_pos (by omega), bif_pos (by omega), w2, bif_neg (by omega)]
    have hn : IntKind.i64.wrap (IntKind.i64.wrap (256 * IntKind.i64.wrap (IntKind.i64.wrap (256 * s.Acc) + IntKind.i64.wrap (byteAt e.Data 0))) + IntKind.i64.wrap (byteAt e.Data 1)) = num c e.Data := by
      rw [hs, e0, wrap_byte, wrap_byte, i64_ok (n := 0 + byteAt e.Data 0) (by omega), i64_ok (n := 256 * (0 + byteAt e.Data 0)) (by omega), i64_ok (by omega)]
      unfold num; rw [if_neg (by omega)]; omega
    exact fin 0 _ hn
theorem step_is (M : Nat) (hM : 3 ≤ M) (c : Eeprom) (s : State) (e : Event) : eeprom_Step M c s e = some (stepE c s e) := by
  simp only [eeprom_Step, b_eeprom_Step, eeprom_check_is, accepts_is, Option.bind_some, bne_if, beq_if]
  unfold stepE
  by_cases hc : OkC c
  · by_cases ha : e.Kind = 5 ∧ Vld e ∧ s.At ≤ e.From
    · have hcond : OkC c ∧ e.Kind = 5 ∧ Vld e ∧ s.At ≤ e.From := ⟨hc, ha⟩
      rw [if_pos hc, if_pos (rfl : (0 : Int) = 0), decide_eq_true ha, if_pos hcond]
      simp only [Bool.not_true, Bool.cond_false]
      have hc' := hc
      unfold OkC at hc'
      rw [i64_ok (n := 2 * c.Address) (by omega), i64_ok (n := 2 * c.Address + 1) (by omega)]
      by_cases hf : e.Fault = 0
      · have hf' : ¬ e.Fault ≠ 0 := by simpa using hf
        rw [if_pos hf, if_neg hf']
        by_cases hv : e.Value = 2 * c.Address
        · simp only [if_pos hv]
          have hb : (e.Data.size : Int) ≤ 4096 := by have := ha.2.1; unfold Vld at this; omega
          by_cases hl : (e.Data.size : Int) < c.Pointer
          · rw [bif_pos hl, if_pos hl]
          · rw [bif_neg hl, if_neg hl, l15_is M M c hc { s with At := e.From, Acc := 0 } rfl e _ _ ⟨rfl, rfl, rfl, rfl⟩ (by omega) hb hM]
        · simp only [if_neg hv]
          by_cases hv1 : e.Value = 2 * c.Address + 1
          · rw [if_pos hv1, if_pos hv1, size_is M c hc, Option.bind_some, bif_neg (by have := md_pos c; omega)]
          · rw [if_neg hv1, if_neg hv1]
      · have hf' : e.Fault ≠ 0 := hf
        rw [if_neg hf, if_pos hf']
    · have hcond : ¬ (OkC c ∧ e.Kind = 5 ∧ Vld e ∧ s.At ≤ e.From) := fun h => ha h.2
      rw [if_pos hc, if_pos (rfl : (0 : Int) = 0), decide_eq_false ha, if_neg hcond]
      rfl
  · have hcond : ¬ (OkC c ∧ e.Kind = 5 ∧ Vld e ∧ s.At ≤ e.From) := fun h => hc h.1
    rw [if_neg hc, if_neg (show ¬ (2 : Int) = 0 by omega), if_neg hcond]
theorem number_is (M : Nat) (hM : 3 ≤ M) (c : Eeprom) (hc : OkC c) (d : ByteArray) (hd : c.Pointer ≤ (d.size : Int)) : ref31_number M (d.extract 0 c.Pointer.toNat) = some (num c d) := by
  obtain ⟨M, rfl⟩ : ∃ k, M = k + 3 := ⟨M - 3, by omega⟩
  have hc' := hc
  unfold OkC at hc'
  have b0 := byteAt_range d 0
  have b1 := byteAt_range d 1
  have hsz : ((d.extract 0 c.Pointer.toNat).size : Int) = c.Pointer := by
    rw [← ofBytes_length, ofBytes_extract, List.length_drop, List.length_take, ofBytes_length]; omega
  have hb : ∀ i : Nat, (i : Int) < c.Pointer → byteAt (d.extract 0 c.Pointer.toNat) (i : Int) = byteAt d (i : Int) := fun i hi => by
    rw [byteAt_eq, byteAt_eq, ofBytes_extract, List.drop_zero, List.getD_eq_getElem?_getD, List.getD_eq_getElem?_getD, List.getElem?_take, if_pos (by omega)]
  have h0 := hb 0 (by omega)
  have e0 : IntKind.i64.wrap (256 * 0) = 0 := by decide
  have w1 : IntKind.i64.wrap (0 + 1) = 1 := by decide
  have w2 : IntKind.i64.wrap (1 + 1) = 2 := by decide
  have h2 : c.Pointer = 1 ∨ c.Pointer = 2 := by omega
  simp only [ref31_number, b_ref31_number, ref31_number_l3, b_ref31_number_l3]
  simp only [Int.natCast_zero] at h0
  rcases h2 with h2 | h2
  · rw [bif_pos (by omega), bif_pos (by omega), bif_pos (by omega), w1, bif_neg (by omega), h0, e0, wrap_byte, i64_ok (by omega)]
    unfold num; rw [if_pos h2]; congr 1; omega
  · have h1 := hb 1 (by omega)
    rw [bif_pos (by omega), bif_pos (by omega), bif_pos (by omega), w1, bif_pos (by omega), bif_pos (by omega), bif_pos (by omega), w2, bif_neg (by omega), h0]
    rw [show (1 : Int) = ((1 : Nat) : Int) from rfl, h1, e0, wrap_byte, i64_ok (n := 0 + byteAt d 0) (by omega), i64_ok (n := 256 * (0 + byteAt d 0)) (by omega), wrap_byte, i64_ok (by simp only [Int.natCast_one]; omega)]
    unfold num; rw [if_neg (by omega)]; congr 1; simp only [Int.natCast_one]; omega
theorem ref_step_is (M : Nat) (hM : 3 ≤ M) (c : Eeprom) (s : State) (e : Event) : ref31_Step M c s e = some (stepE c s e) := by
  simp only [ref31_Step, b_ref31_Step, ref_check_is, ref_accepts_is, Option.bind_some, bne_if, beq_if]
  unfold stepE
  by_cases hc : OkC c
  · by_cases ha : e.Kind = 5 ∧ Vld e ∧ s.At ≤ e.From
    · have hcond : OkC c ∧ e.Kind = 5 ∧ Vld e ∧ s.At ≤ e.From := ⟨hc, ha⟩
      rw [if_pos hc, if_pos (rfl : (0 : Int) = 0), decide_eq_true ha, if_pos hcond]
      simp only [Bool.not_true, Bool.cond_false]
      have hc' := hc
      unfold OkC at hc'
      have hmd := md_pos c
      rw [i64_ok (n := 2 * c.Address) (by omega), i64_ok (n := 2 * c.Address + 1) (by omega)]
      have hb : (e.Data.size : Int) ≤ 4096 := by have := ha.2.1; unfold Vld at this; omega
      by_cases hf : e.Fault = 0
      · have hf' : ¬ e.Fault ≠ 0 := by simpa using hf
        rw [if_pos hf, if_neg hf']
        by_cases hv1 : e.Value = 2 * c.Address + 1
        · rw [if_pos hv1, if_neg (by omega), if_pos hv1, modulus_is M c hc, Option.bind_some, bif_neg (by omega)]
        · rw [if_neg hv1]
          by_cases hv : e.Value = 2 * c.Address
          · rw [if_pos hv, if_pos hv]
            by_cases hl : (e.Data.size : Int) < c.Pointer
            · rw [bif_pos hl, if_pos hl]
            · rw [bif_neg hl, if_neg hl, bif_pos (by omega), bif_pos (by omega), bif_pos (by omega), number_is M hM c hc e.Data (by omega), Option.bind_some]
              by_cases hq : (e.Data.size : Int) = c.Pointer
              · rw [if_pos hq, if_pos hq]
              · have hz := extract_size e.Data c.Pointer (by omega) (by omega)
                have hn := num_range c e.Data
                rw [if_neg hq, if_neg hq, bif_pos (by omega), bif_pos (by omega), bif_pos (by omega), modulus_is M c hc, Option.bind_some, bif_neg (by omega), Int.toNat_natCast, hz, i64_ok (by omega), IntWalk.rem_in _ _ (by omega)]
          · rw [if_neg hv, if_neg hv, if_neg hv1]
      · have hf' : e.Fault ≠ 0 := hf
        rw [if_neg hf, if_pos hf']
    · have hcond : ¬ (OkC c ∧ e.Kind = 5 ∧ Vld e ∧ s.At ≤ e.From) := fun h => ha h.2
      rw [if_pos hc, if_pos (rfl : (0 : Int) = 0), decide_eq_false ha, if_neg hcond]
      rfl
  · have hcond : ¬ (OkC c ∧ e.Kind = 5 ∧ Vld e ∧ s.At ≤ e.From) := fun h => hc h.1
    rw [if_neg hc, if_neg (show ¬ (2 : Int) = 0 by omega), if_neg hcond]
end Go.Abs.K
