/- EEPROM: what is decoded of a list; what is encoded; the laws. -/
import Derived.Test.YteennedaijeiaaaP1
set_option linter.unusedVariables false
set_option linter.unusedSimpArgs false
namespace Go.Abs.K
open Go Go.Abs Go.Proofs

def decE (c : Eeprom) : State → List Event → List Event
  | _, [] => []
  | s, e :: l => (stepE c s e).2 ++ decE c (stepE c s e).1 l
theorem stepE_len (c : Eeprom) (s : State) (e : Event) : (stepE c s e).2.length ≤ 1 := by
  unfold stepE
  repeat' split
  all_goals simp
theorem decE_len (c : Eeprom) : ∀ (l : List Event) (s : State), (decE c s l).length ≤ l.length
  | [], s => by simp [decE]
  | e :: l, s => by
    have := decE_len c l (stepE c s e).1
    have := stepE_len c s e
    simp only [decE, List.length_append, List.length_cons]
    omega
theorem dec_l4 (M : Nat) (hM : 3 ≤ M) (c : Eeprom) (l : List Event) (hl : l.length ≤ 1000000) : ∀ (r : List Event) (i m : Nat) (s : State) (out : List Event), l.drop i = r → r.length < m → out.length + r.length ≤ 1000000 → eeprom_Decode_l4 M m (l.length : Int) (i : Int) c s out l = some (out ++ decE c s r)
  | r, i, 0, s, out, _, hm, _ => by omega
  | [], i, m + 1, s, out, hr, hm, ho => by
    have := drop_nil hr
    simp only [eeprom_Decode_l4, b_eeprom_Decode_l4]
    rw [bif_neg (by omega), bif_pos (by simp at ho; omega)]
    simp [decE]
  | e :: r, i, m + 1, s, out, hr, hm, ho => by
    obtain ⟨h1, h2, h3, h4, h5⟩ := drop_cons hr dflt_Event
    have hlen := stepE_len c s e
    simp only [List.length_cons] at hm ho
    simp only [eeprom_Decode_l4, b_eeprom_Decode_l4, h1, step_is M hM, Option.bind_some]
    rw [bif_pos (by omega), bif_pos (by omega), bif_pos (by omega), bif_pos (by omega), next_i i (by omega)]
    rw [dec_l4 M hM c l hl r (i + 1) m _ _ h3 (by omega) (by rw [List.length_append]; omega)]
    simp [decE]
def s0 : State := State.mk 0 0 0 0 0 0 0 (bs [])
theorem decode_is (M : Nat) (hM : 3 ≤ M) (c : Eeprom) (l : List Event) (hl : l.length ≤ 1000000) (hm : l.length < M) : eeprom_Decode M c l = some (decE c s0 l) := by
  simp only [eeprom_Decode, b_eeprom_Decode]
  have := dec_l4 M hM c l hl l 0 M s0 [] rfl hm (by simpa using hl)
  rw [List.nil_append] at this
  exact this
theorem rdec_l3 (M : Nat) (hM : 3 ≤ M) (c : Eeprom) (l : List Event) (hl : l.length ≤ 1000000) : ∀ (r : List Event) (i m : Nat) (s : State) (out : List Event), l.drop i = r → r.length < m → out.length + r.length ≤ 1000000 → ref31_Decode_l3 M m (i : Int) l c s out = some (out ++ decE c s r)
  | r, i, 0, s, out, _, hm, _ => by omega
  | [], i, m + 1, s, out, hr, hm, ho => by
    have := drop_nil hr
    simp only [ref31_Decode_l3, b_ref31_Decode_l3]
    rw [bif_neg (by omega), bif_pos (by simp at ho; omega)]
    simp [decE]
  | e :: r, i, m + 1, s, out, hr, hm, ho => by
    obtain ⟨h1, h2, h3, h4, h5⟩ := drop_cons hr dflt_Event
    have hlen := stepE_len c s e
    simp only [List.length_cons] at hm ho
    simp only [ref31_Decode_l3, b_ref31_Decode_l3, h1, ref_step_is M hM, Option.bind_some]
    rw [bif_pos (by omega), bif_pos (by omega), bif_pos (by omega), bif_pos (by omega), next_i i (by omega)]
    rw [rdec_l3 M hM c l hl r (i + 1) m _ _ h3 (by omega) (by rw [List.length_append]; omega)]
    simp [decE]
theorem rdecode_is (M : Nat) (hM : 3 ≤ M) (c : Eeprom) (l : List Event) (hl : l.length ≤ 1000000) (hm : l.length < M) : ref31_Decode M c l = some (decE c s0 l) := by
  simp only [ref31_Decode, b_ref31_Decode]
  have := rdec_l3 M hM c l hl l 0 M s0 [] rfl hm (by simpa using hl)
  rw [List.nil_append] at this
  exact this
theorem awake_true (M : Nat) (hM : 20 < M) : law31_awake M = some true := by
  obtain ⟨m, rfl⟩ : ∃ m, M = m + 20 := ⟨M - 20, by omega⟩
  kernel_rfl
theorem small_l4 (M : Nat) (l : List Event) (hl : l.length ≤ 1000000) : ∀ (r : List Event) (i m : Nat), l.drop i = r → r.length < m → law31_small_l4 M m (i : Int) l = some (r.all fun e => decide ((e.Data.size : Int) ≤ 40))
  | r, i, 0, _, hm => by omega
  | [], i, m + 1, hr, hm => by
    have := drop_nil hr
    simp only [law31_small_l4, b_law31_small_l4]
    rw [bif_neg (by omega)]; rfl
  | e :: r, i, m + 1, hr, hm => by
    obtain ⟨h1, h2, h3, h4, h5⟩ := drop_cons hr dflt_Event
    simp only [List.length_cons] at hm
    simp only [law31_small_l4, b_law31_small_l4, h1]
    rw [bif_pos (by omega), bif_pos (by omega), bif_pos (by omega), next_i i (by omega), small_l4 M l hl r (i + 1) m h3 (by omega)]
    by_cases h : (e.Data.size : Int) ≤ 40
    · rw [bif_neg (by omega)]; simp [h]
    · rw [bif_pos (by omega)]; simp [h]
theorem small_is (M : Nat) (l : List Event) (hM : 40 < M) : ∃ b, law31_small M l = some b ∧ (b = true → l.length ≤ 40) := by
  simp only [law31_small, b_law31_small]
  by_cases h : (l.length : Int) > 40
  · rw [bif_pos h]; exact ⟨false, rfl, by simp⟩
  · rw [bif_neg h]
    refine ⟨_, small_l4 M l (by omega) l 0 M rfl (by omega), fun _ => by omega⟩
theorem tiny_l4 (M : Nat) (l : List Item) (hl : l.length ≤ 1000000) : ∀ (r : List Item) (i m : Nat), l.drop i = r → r.length < m → law31_tiny_l4 M m (i : Int) l = some (r.all fun e => decide ((e.Data.size : Int) ≤ 5000))
  | r, i, 0, _, hm => by omega
  | [], i, m + 1, hr, hm => by
    have := drop_nil hr
    simp only [law31_tiny_l4, b_law31_tiny_l4]
    rw [bif_neg (by omega)]; rfl
  | e :: r, i, m + 1, hr, hm => by
    obtain ⟨h1, h2, h3, h4, h5⟩ := drop_cons hr dflt_Item
    simp only [List.length_cons] at hm
    simp only [law31_tiny_l4, b_law31_tiny_l4, h1]
    rw [bif_pos (by omega), bif_pos (by omega), bif_pos (by omega), next_i i (by omega), tiny_l4 M l hl r (i + 1) m h3 (by omega)]
    by_cases h : (e.Data.size : Int) ≤ 5000
    · rw [bif_neg (by omega)]; simp [h]
    · rw [bif_pos (by omega)]; simp [h]
theorem tiny_is (M : Nat) (l : List Item) (hM : 20 < M) : ∃ b, law31_tiny M l = some b ∧ (b = true → l.length ≤ 20) := by
  simp only [law31_tiny, b_law31_tiny]
  by_cases h : (l.length : Int) > 20
  · rw [bif_pos h]; exact ⟨false, rfl, by simp⟩
  · rw [bif_neg h]
    refine ⟨_, tiny_l4 M l (by omega) l 0 M rfl (by omega), fun _ => by omega⟩

/-! ### The law of decoding -/
theorem decodes_l5 (c : Eeprom) (l : List Event) (hl : l.length ≤ 40) : ∀ (r : List Event) (i m : Nat) (s : State), l.drop i = r → r.length < m → law31_EepromDecodes_l5 100 m (i : Int) l c s s = some true
  | r, i, 0, s, _, hm => by omega
  | [], i, m + 1, s, hr, hm => by
    have := drop_nil hr
    simp only [law31_EepromDecodes_l5, b_law31_EepromDecodes_l5, eeprom_check_is, ref_check_is, Option.bind_some, beq_self_eq_true, Bool.cond_true, decode_is 100 (by omega) c l (by omega) (by omega), rdecode_is 100 (by omega) c l (by omega) (by omega),
      same_self 100 (decE c s0 l) (by have := decE_len c l s0; omega) (by have := decE_len c l s0; omega), awake_true 100 (by omega)]
    rw [bif_neg (by omega)]
  | e :: r, i, m + 1, s, hr, hm => by
    obtain ⟨h1, h2, h3, h4, h5⟩ := drop_cons hr dflt_Event
    simp only [List.length_cons] at hm
    have hlen := stepE_len c s e
    simp only [law31_EepromDecodes_l5, b_law31_EepromDecodes_l5, h1, step_is 100 (by omega), ref_step_is 100 (by omega), Option.bind_some, same_self 100 (stepE c s e).2 (by omega) (by omega), Bool.not_true, Bool.cond_false]
    simp only [bif_pos (show (i : Int) < (l.length : Int) by omega), bif_pos (show (0 : Int) ≤ (i : Int) by omega), next_i i (by omega)]
    exact decodes_l5 c l hl r (i + 1) m _ h3 (by omega)
theorem EepromDecodes_true (c : Eeprom) (l : List Event) (hc : wf_Eeprom c) (hl : (∀ x, x ∈ l → wf_Event x) ∧ l.length * Try.prog.bytesOf 33 ≤ 140737488351232) : ∃ M, law31_EepromDecodes M c l = some true := by
  refine ⟨100, ?_⟩
  obtain ⟨b, hb, hb2⟩ := small_is 100 l (by omega)
  simp only [law31_EepromDecodes, b_law31_EepromDecodes, hb, Option.bind_some, awake_true 100 (by omega)]
  cases b with
  | false => rfl
  | true =>
    have := hb2 rfl
    exact decodes_l5 c l this l 0 100 s0 rfl (by omega)

/-! ### The law of what is passed over -/
theorem decE_skip (c : Eeprom) (x : Event) (hx : ∀ s : State, 0 ≤ s.At → stepE c s x = (s, [])) : ∀ (l : List Event) (s : State), 0 ≤ s.At → decE c s (l.flatMap (fun e => [x, e]) ++ [x]) = decE c s l
  | [], s, hs => by simp [decE, hx s hs]
  | e :: l, s, hs => by
    have hs' : 0 ≤ (stepE c s e).1.At := by
      unfold stepE
      by_cases h : OkC c ∧ e.Kind = 5 ∧ Vld e ∧ s.At ≤ e.From
      · rw [if_pos h]
        repeat' split
        all_goals (dsimp only; omega)
      · rw [if_neg h]; exact hs
    simp only [List.flatMap_cons, List.cons_append, List.nil_append, decE, hx s hs]
    rw [decE_skip c x hx l _ hs']
theorem ign_l7 (c : Eeprom) (x : Event) (l : List Event) (hl : l.length ≤ 40) (hx : ∀ s : State, 0 ≤ s.At → stepE c s x = (s, [])) : ∀ (r : List Event) (i m : Nat) (out : List Event), l.drop i = r → r.length < m → out.length + 2 * r.length ≤ 80 → out ++ r.flatMap (fun e => [x, e]) = l.flatMap (fun e => [x, e]) → law31_EepromIgnores_l7 100 m (i : Int) l c x out = some true
  | r, i, 0, out, _, hm, _, _ => by omega
  | [], i, m + 1, out, hr, hm, ho, he => by
    have := drop_nil hr
    simp only [List.flatMap_nil, List.append_nil] at he
    have hd : decE c s0 (out ++ [x]) = decE c s0 l := by rw [he]; exact decE_skip c x hx l s0 (by decide)
    have hlen := decE_len c l s0
    simp only [law31_EepromIgnores_l7, b_law31_EepromIgnores_l7]
    simp only [List.length_nil] at ho
    rw [bif_neg (by omega), bif_pos (by omega), decode_is 100 (by omega) c (out ++ [x]) (by simp; omega) (by simp; omega), decode_is 100 (by omega) c l (by omega) (by omega), hd]
    simp only [Option.bind_some, same_self 100 (decE c s0 l) (by omega) (by omega), Bool.cond_true, awake_true 100 (by omega)]
  | e :: r, i, m + 1, out, hr, hm, ho, he => by
    obtain ⟨h1, h2, h3, h4, h5⟩ := drop_cons hr dflt_Event
    simp only [List.length_cons] at hm ho
    simp only [law31_EepromIgnores_l7, b_law31_EepromIgnores_l7, h1]
    rw [bif_pos (by omega), bif_pos (by omega), bif_pos (by omega), bif_pos (by omega), next_i i (by omega)]
    refine ign_l7 c x l hl hx r (i + 1) m _ h3 (by omega) (by simp; omega) ?_
    rw [← he]; simp
theorem EepromIgnores_true (c : Eeprom) (l : List Event) (x : Event) (hc : wf_Eeprom c) (hl : (∀ x, x ∈ l → wf_Event x) ∧ l.length * Try.prog.bytesOf 33 ≤ 140737488351232) (hx : wf_Event x) : ∃ M, law31_EepromIgnores M c l x = some true := by
  refine ⟨100, ?_⟩
  obtain ⟨b, hb, hb2⟩ := small_is 100 l (by omega)
  simp only [law31_EepromIgnores, b_law31_EepromIgnores, hb, Option.bind_some, awake_true 100 (by omega), bif_if, beq_if, bne_if]
  cases b with
  | false => rfl
  | true =>
    have hl40 := hb2 rfl
    simp only [Bool.not_true, Bool.cond_false]
    have go : (∀ s : State, 0 ≤ s.At → stepE c s x = (s, [])) → law31_EepromIgnores_l7 100 100 0 l c x [] = some true := fun h => ign_l7 c x l hl40 h l 0 100 [] rfl (by omega) (by simp; omega) (by simp)
    by_cases h1 : (x.Data.size : Int) > 40
    · rw [if_pos h1]
    rw [if_neg h1]
    by_cases h2 : c.Address < 0
    · rw [if_pos h2]
    rw [if_neg h2]
    by_cases h3 : c.Address > 127
    · rw [if_pos h3]
    rw [if_neg h3]
    by_cases h4 : x.Kind = 5
    · rw [if_pos h4]
      by_cases h5 : x.Fault = 0
      · rw [if_pos h5, i64_ok (n := 2 * c.Address) (by omega), i64_ok (by omega)]
        by_cases h6 : x.Value = 2 * c.Address
        · rw [if_pos h6]
        rw [if_neg h6]
        by_cases h7 : x.Value = 2 * c.Address + 1
        · rw [if_pos h7]
        rw [if_neg h7]
        by_cases h8 : x.From > 0
        · rw [if_pos h8]
        rw [if_neg h8]
        refine go fun s hs => ?_
        unfold stepE
        by_cases h : OkC c ∧ x.Kind = 5 ∧ Vld x ∧ s.At ≤ x.From
        · have hf : ¬ x.Fault ≠ 0 := by simpa using h5
          rw [if_pos h, if_neg hf, if_neg h6, if_neg h7]
          have : x.From = s.At := by omega
          rw [this]
        · rw [if_neg h]
      · rw [if_neg h5]
    · rw [if_neg h4]
      refine go fun s hs => ?_
      unfold stepE
      rw [if_neg (fun h => h4 h.2.1)]
end Go.Abs.K
