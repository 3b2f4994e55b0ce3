/- EEPROM: what is encoded; the laws of encoding, of round trips, of reads. -/
import Derived.Test.YteennedaijeiaaaP2
set_option linter.unusedVariables false
set_option linter.unusedSimpArgs false
namespace Go.Abs.K
open Go Go.Abs Go.Proofs

def errI (c : Eeprom) (x : Item) : Int :=
  if x.Gap < 0 ∨ x.Gap > 1048576 then 1
  else if (x.Data.size : Int) > 4096 then 6
  else if x.Value < 0 ∨ x.Value ≥ md c ∨ x.Aux < 0 ∨ x.Aux > 1 then 2
  else if x.Fault ≠ 0 ∨ (x.Aux = 0 ∧ x.Data.size = 0) then 1
  else if x.Aux = 0 ∧ c.Pointer + (x.Data.size : Int) > 4096 then 6
  else 0
theorem check_is (M : Nat) (c : Eeprom) (hc : OkC c) (x : Item) : eeprom_check M c x = some (errI c x) := by
  simp only [eeprom_check, b_eeprom_check, size_is M c hc, Option.bind_some, bif_if, beq_if, bne_if, empty_iff]
  unfold errI
  unfold OkC at hc
  by_cases h1 : x.Gap < 0
  · rw [if_pos h1, if_pos (.inl h1)]
  rw [if_neg h1]
  by_cases h2 : x.Gap > 1048576
  · rw [if_pos h2, if_pos (.inr h2)]
  rw [if_neg h2, if_neg (show ¬ (x.Gap < 0 ∨ x.Gap > 1048576) by omega)]
  by_cases h3 : (x.Data.size : Int) > 4096
  · rw [if_pos h3, if_pos h3]
  rw [if_neg h3, if_neg h3, i64_ok (by omega)]
  by_cases h4 : x.Value < 0 ∨ x.Value ≥ md c ∨ x.Aux < 0 ∨ x.Aux > 1
  · rw [if_pos h4]
    repeat' split
    all_goals first | rfl | (exfalso; omega)
  · rw [if_neg (show ¬ x.Value < 0 by omega), if_neg (show ¬ x.Value ≥ md c by omega), if_neg (show ¬ x.Aux < 0 by omega), if_neg (show ¬ x.Aux > 1 by omega), if_neg h4]
    by_cases h5 : x.Fault ≠ 0 ∨ (x.Aux = 0 ∧ x.Data.size = 0)
    · rw [if_pos h5]
      repeat' split
      all_goals first | rfl | (exfalso; omega)
    · rw [if_neg h5]
      repeat' split
      all_goals first | rfl | (exfalso; omega)
theorem wrong_is (M : Nat) (c : Eeprom) (hc : OkC c) (x : Item) : ref31_wrong M c x = some (errI c x) := by
  rw [← check_is M c hc x]
  simp only [eeprom_check, b_eeprom_check, ref31_wrong, b_ref31_wrong, size_is M c hc, modulus_is M c hc, Option.bind_some, Int.add_comm]
def ptr (c : Eeprom) (n : Int) : ByteArray := toBytes (if c.Pointer = 1 then [n] else [n / 256, n % 256])
theorem pointer_is (M : Nat) (c : Eeprom) (n : Int) (h0 : 0 ≤ n) (h1 : n < md c) : eeprom_pointer M c n = some (ptr c n) := by
  simp only [eeprom_pointer, b_eeprom_pointer, beq_if, ptr]
  unfold md at h1
  by_cases h : c.Pointer = 1
  · rw [if_pos h] at h1; rw [if_pos h, if_pos h, u8_ok (by omega)]
  · rw [if_neg h] at h1; rw [if_neg h, if_neg h, Int.fdiv_eq_ediv_of_nonneg _ (by omega), u8_ok (n := n / 256) (by omega), u8_eq]
theorem ref_pointer_is (M : Nat) (c : Eeprom) (n : Int) (h0 : 0 ≤ n) (h1 : n < md c) : ref31_pointer M c n = some (ptr c n) := by
  simp only [ref31_pointer, b_ref31_pointer, beq_if, ptr]
  unfold md at h1
  by_cases h : c.Pointer = 1
  · rw [if_pos h] at h1; rw [if_pos h, if_pos h, u8_ok (by omega)]
  · rw [if_neg h] at h1; rw [if_neg h, if_neg h, IntWalk.i64_quo _ _ (by omega), IntWalk.rem_in _ _ h0, u8_ok (n := n / 256) (by omega), u8_ok (by omega)]
theorem ptr_bytes (c : Eeprom) (n : Int) (h0 : 0 ≤ n) (h1 : n < md c) : ofBytes (ptr c n) = if c.Pointer = 1 then [n] else [n / 256, n % 256] := by
  unfold ptr
  unfold md at h1
  apply ofBytes_toBytes
  intro x hx
  split at hx
  · rename_i h; rw [if_pos h] at h1; simp at hx; omega
  · rename_i h; rw [if_neg h] at h1; simp at hx; omega
theorem ptr_size (c : Eeprom) (hc : OkC c) (n : Int) : ((ptr c n).size : Int) = c.Pointer := by
  unfold ptr
  unfold OkC at hc
  rw [toBytes_size]
  split
  · simp; omega
  · simp; omega
def itemsE (c : Eeprom) (x : Item) : List Item :=
  if x.Aux = 0 then [Item.mk x.Gap (2 * c.Address) 1 (ptr c x.Value ++ x.Data) 0]
  else [Item.mk x.Gap (2 * c.Address) 0 (ptr c x.Value) 0, Item.mk 0 (2 * c.Address + 1) 1 x.Data 0]
def encE (c : Eeprom) : List Item → List Item → List Item × Int
  | out, [] => (out, 0)
  | out, x :: l => if errI c x = 0 then encE c (out ++ itemsE c x) l else ([], errI c x)
theorem err_ok {c : Eeprom} {x : Item} (h : errI c x = 0) : 0 ≤ x.Gap ∧ x.Gap ≤ 1048576 ∧ (x.Data.size : Int) ≤ 4096 ∧ 0 ≤ x.Value ∧ x.Value < md c ∧ (x.Aux = 0 ∨ x.Aux = 1) ∧ x.Fault = 0 ∧ (x.Aux = 0 → x.Data.size ≠ 0 ∧ c.Pointer + (x.Data.size : Int) ≤ 4096) := by
  unfold errI at h
  split at h
  · omega
  split at h
  · omega
  split at h
  · omega
  split at h
  · omega
  split at h
  · omega
  omega
theorem itemsE_len (c : Eeprom) (x : Item) : (itemsE c x).length ≤ 2 := by unfold itemsE; split <;> simp
theorem enc_l8 (M : Nat) (c : Eeprom) (hc : OkC c) (l : List Item) (hl : l.length ≤ 1024) : ∀ (r : List Item) (i m : Nat) (out : List Item), l.drop i = r → r.length < m → out.length + 2 * r.length ≤ 2048 → eeprom_Encode_l8 M m (l.length : Int) (i : Int) c out l = some (encE c out r)
  | r, i, 0, out, _, hm, _ => by omega
  | [], i, m + 1, out, hr, hm, ho => by
    have := drop_nil hr
    simp only [eeprom_Encode_l8, b_eeprom_Encode_l8, encE]
    rw [bif_neg (by omega)]
  | x :: r, i, m + 1, out, hr, hm, ho => by
    obtain ⟨h1, h2, h3, h4, h5⟩ := drop_cons hr dflt_Item
    have hc' := hc
    unfold OkC at hc'
    simp only [List.length_cons] at hm ho
    simp only [eeprom_Encode_l8, b_eeprom_Encode_l8, h1, check_is M c hc, Option.bind_some, bne_if, beq_if, encE]
    rw [bif_pos (by omega), bif_pos (by omega), bif_pos (by omega), next_i i (by omega)]
    by_cases he : errI c x = 0
    · rw [if_pos he, if_pos he]
      obtain ⟨g1, g2, g3, g4, g5, g6, g7, g8⟩ := err_ok he
      have hp := ptr_size c hc x.Value
      rw [pointer_is M c x.Value g4 g5, i64_ok (n := 2 * c.Address) (by omega), i64_ok (by omega)]
      simp only [Option.bind_some]
      unfold itemsE
      by_cases ha : x.Aux = 0
      · rw [if_pos ha, if_pos ha, bif_neg (by omega), bif_pos (by omega)]
        exact enc_l8 M c hc l hl r (i + 1) m _ h3 (by omega) (by simp; omega)
      · rw [if_neg ha, if_neg ha, bif_pos (by omega)]
        exact enc_l8 M c hc l hl r (i + 1) m _ h3 (by omega) (by simp; omega)
    · rw [if_neg he, if_neg he]
theorem renc_l8 (M : Nat) (c : Eeprom) (hc : OkC c) (l : List Item) (hl : l.length ≤ 1024) : ∀ (r : List Item) (i m : Nat) (out : List Item), l.drop i = r → r.length < m → out.length + 2 * r.length ≤ 2048 → ref31_Encode_l8 M m (i : Int) l c out = some (encE c out r)
  | r, i, 0, out, _, hm, _ => by omega
  | [], i, m + 1, out, hr, hm, ho => by
    have := drop_nil hr
    simp only [ref31_Encode_l8, b_ref31_Encode_l8, encE]
    rw [bif_neg (by omega)]
  | x :: r, i, m + 1, out, hr, hm, ho => by
    obtain ⟨h1, h2, h3, h4, h5⟩ := drop_cons hr dflt_Item
    have hc' := hc
    unfold OkC at hc'
    simp only [List.length_cons] at hm ho
    simp only [ref31_Encode_l8, b_ref31_Encode_l8, h1, wrong_is M c hc, Option.bind_some, bne_if, beq_if, encE]
    rw [bif_pos (by omega), bif_pos (by omega), bif_pos (by omega), next_i i (by omega)]
    by_cases he : errI c x = 0
    · rw [if_pos he, if_pos he]
      obtain ⟨g1, g2, g3, g4, g5, g6, g7, g8⟩ := err_ok he
      have hp := ptr_size c hc x.Value
      rw [ref_pointer_is M c x.Value g4 g5, i64_ok (n := 2 * c.Address) (by omega), i64_ok (by omega)]
      simp only [Option.bind_some]
      unfold itemsE
      by_cases ha : x.Aux = 0
      · rw [if_pos ha, if_pos ha, bif_neg (by omega), bif_pos (by omega)]
        exact renc_l8 M c hc l hl r (i + 1) m _ h3 (by omega) (by simp; omega)
      · rw [if_neg ha, if_neg ha, bif_pos (by omega)]
        exact renc_l8 M c hc l hl r (i + 1) m _ h3 (by omega) (by simp; omega)
    · rw [if_neg he, if_neg he]
def encodeE (c : Eeprom) (l : List Item) : List Item × Int := if OkC c then (if (l.length : Int) > 1024 then ([], 6) else encE c [] l) else ([], 2)
theorem encode_is (M : Nat) (c : Eeprom) (l : List Item) (hM : l.length < M) : eeprom_Encode M c l = some (encodeE c l) := by
  simp only [eeprom_Encode, b_eeprom_Encode, eeprom_check_is, Option.bind_some, bne_if, encodeE]
  by_cases hc : OkC c
  · simp only [if_pos hc, if_true]
    by_cases h : (l.length : Int) > 1024
    · rw [bif_pos h, if_pos h]
    · rw [bif_neg h, if_neg h]
      exact enc_l8 M c hc l (by omega) l 0 M [] rfl hM (by simp; omega)
  · simp only [if_neg hc]; rfl
theorem ref_encode_is (M : Nat) (c : Eeprom) (l : List Item) (hM : l.length < M) : ref31_Encode M c l = some (encodeE c l) := by
  simp only [ref31_Encode, b_ref31_Encode, ref_check_is, Option.bind_some, bne_if, encodeE]
  by_cases hc : OkC c
  · simp only [if_pos hc, if_true]
    by_cases h : (l.length : Int) > 1024
    · rw [bif_pos h, if_pos h]
    · rw [bif_neg h, if_neg h]
      exact renc_l8 M c hc l (by omega) l 0 M [] rfl hM (by simp; omega)
  · simp only [if_neg hc]; rfl
theorem encE_len (c : Eeprom) : ∀ (l out : List Item), (encE c out l).1.length ≤ out.length + 2 * l.length
  | [], out => by simp [encE]
  | x :: l, out => by
    unfold encE
    split
    · have := encE_len c l (out ++ itemsE c x)
      have := itemsE_len c x
      simp only [List.length_append, List.length_cons] at *
      omega
    · simp
theorem encodes_l8 (a : List Item) (ha : a.length ≤ 40) : ∀ (k i m : Nat), i + k = a.length → k < m → law31_EepromEncodes_l8 100 m (i : Int) a a = some true
  | k, i, 0, _, hm => by omega
  | 0, i, m + 1, hi, hm => by
    simp only [law31_EepromEncodes_l8, b_law31_EepromEncodes_l8, awake_true 100 (by omega), Option.bind_some]
    rw [bif_neg (by omega)]
  | k + 1, i, m + 1, hi, hm => by
    simp only [law31_EepromEncodes_l8, b_law31_EepromEncodes_l8, beq_self_eq_true, bytes_beq_self, Bool.and_self, Bool.not_true, Bool.cond_false]
    simp only [bif_pos (show (0 : Int) ≤ (i : Int) by omega), bif_pos (show (i : Int) < (a.length : Int) by omega), next_i i (by omega)]
    exact encodes_l8 a ha k (i + 1) m (by omega) (by omega)
theorem EepromEncodes_true (c : Eeprom) (l : List Item) (hc : wf_Eeprom c) (hl : (∀ x, x ∈ l → wf_Item x) ∧ l.length * Try.prog.bytesOf 45 ≤ 140737488351232) : ∃ M, law31_EepromEncodes M c l = some true := by
  refine ⟨100, ?_⟩
  obtain ⟨b, hb, hb2⟩ := tiny_is 100 l (by omega)
  simp only [law31_EepromEncodes, b_law31_EepromEncodes, hb, Option.bind_some, awake_true 100 (by omega)]
  cases b with
  | false => rfl
  | true =>
    have hl20 := hb2 rfl
    have hlen : (encodeE c l).1.length ≤ 40 := by
      unfold encodeE
      split
      · split
        · simp
        · have := encE_len c l []; simp at this; omega
      · simp
    simp only [encode_is 100 c l (by omega), ref_encode_is 100 c l (by omega), Option.bind_some, bne_self_eq_false, Bool.not_true, Bool.cond_false]
    exact encodes_l8 _ hlen _ 0 100 (Nat.zero_add _) (by omega)
end Go.Abs.K
