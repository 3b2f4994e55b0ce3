/- ONEWIRE: something is sent, or an error is told; what is expected is what is decoded of it. -/
import Derived.Test.YtimanhbcjbnleaaP3
set_option linter.unusedVariables false
set_option linter.unusedSimpArgs false
namespace Go.Abs.K
open Go Go.Abs Go.Proofs

theorem ite_some {α : Type} {p : Prop} [Decidable p] {a b : Option α} (ha : ∃ v, a = some v) (hb : ∃ v, b = some v) : ∃ v, (if p then a else b) = some v := by
  by_cases h : p
  · rw [if_pos h]; exact ha
  · rw [if_neg h]; exact hb
theorem refused_some (M : Nat) (x : Item) : ∃ v, onewire_refused M x = some v := by
  simp only [onewire_refused, b_onewire_refused, bif_if, bne_if]
  cases (x.Data.toList == (bs []).toList)
  all_goals
    simp only [Bool.not_true, Bool.not_false, Bool.cond_true, Bool.cond_false]
    repeat' first | exact ⟨_, rfl⟩ | apply ite_some
theorem units_l8 (M : Nat) (x : Item) : ∀ (k i m : Nat) (out : List Int), i + k = 8 → k < m → out.length ≤ 2 * i → ∃ u, onewire_units_l8 M m (i : Int) x out = some u ∧ u.length ≤ 16
  | k, i, 0, out, _, hm, _ => by omega
  | 0, i, m + 1, out, hi, hm, ho => by
    simp only [onewire_units_l8, b_onewire_units_l8]
    rw [bif_neg (by omega)]
    exact ⟨out, rfl, by omega⟩
  | k + 1, i, m + 1, out, hi, hm, ho => by
    obtain ⟨u1, e1, h1⟩ := units_l8 M x k (i + 1) m (out ++ [1, 5]) (by omega) (by omega) (by simp; omega)
    obtain ⟨u2, e2, h2⟩ := units_l8 M x k (i + 1) m (out ++ [4, 2]) (by omega) (by omega) (by simp; omega)
    simp only [onewire_units_l8, b_onewire_units_l8, next_i i (by omega), e1, e2]
    rw [bif_pos (by omega)]
    simp only [bif_pos (show (out.length + 2) * 8 ≤ 140737488355328 by omega), bif_neg (show ¬ (i : Int) < 0 by omega), beq_if]
    repeat' split
    all_goals first | exact ⟨_, rfl, h1⟩ | exact ⟨_, rfl, h2⟩ | exact ⟨_, rfl, by simp; omega⟩
theorem units_some (M : Nat) (hM : 10 < M) (x : Item) : ∃ u, onewire_units M x = some u ∧ u.length ≤ 16 := by
  simp only [onewire_units, b_onewire_units, beq_if]
  by_cases h1 : x.Aux = 1
  · rw [if_pos h1]; exact ⟨_, rfl, by decide⟩
  rw [if_neg h1]
  by_cases h2 : x.Aux = 2
  · rw [if_pos h2]; exact ⟨_, rfl, by decide⟩
  rw [if_neg h2]
  exact units_l8 M x 8 0 M [] (by omega) (by omega) (by simp)
theorem valid_l5 (M : Nat) (l : List Run) (hl : l.length ≤ 100000) : ∀ (k i m : Nat) (left : Int), i + k = l.length → k < m → ∃ b, wave_Valid_l5 M m left (l.length : Int) (i : Int) l = some b
  | k, i, 0, left, _, hm => by omega
  | 0, i, m + 1, left, hi, hm => by
    simp only [wave_Valid_l5, b_wave_Valid_l5]
    rw [bif_neg (by omega)]; exact ⟨_, rfl⟩
  | k + 1, i, m + 1, left, hi, hm => by
    simp only [wave_Valid_l5, b_wave_Valid_l5, next_i i (by omega)]
    obtain ⟨b, hb⟩ := valid_l5 M l hl k (i + 1) m (IntKind.i64.wrap (left - (l.getD (i : Int).toNat dflt_Run).Ticks)) (by omega) (by omega)
    rw [bif_pos (by omega), bif_pos (by omega), bif_pos (by omega), hb]
    simp only [bne_if, bif_if]
    repeat' split
    all_goals exact ⟨_, rfl⟩
theorem valid_some (M : Nat) (l : List Run) (hl : l.length ≤ 100000) (hM : l.length < M) : ∃ b, wave_Valid M l = some b := by
  simp only [wave_Valid, b_wave_Valid]
  rw [bif_neg (by omega)]
  exact valid_l5 M l hl l.length 0 M _ (by omega) hM
theorem joined_l3 (M : Nat) (l : List Run) (hl : l.length ≤ 100000) : ∀ (k i m : Nat) (out : List Run), i + k = l.length → k < m → out.length ≤ i → ∃ r, wave_joined_l3 M m (l.length : Int) (i : Int) out l = some r ∧ r.length ≤ l.length
  | k, i, 0, out, _, hm, _ => by omega
  | 0, i, m + 1, out, hi, hm, ho => by
    simp only [wave_joined_l3, b_wave_joined_l3]
    rw [bif_neg (by omega)]; exact ⟨_, rfl, by omega⟩
  | k + 1, i, m + 1, out, hi, hm, ho => by
    have ih := fun o (h : o.length ≤ i + 1) => joined_l3 M l hl k (i + 1) m o (by omega) (by omega) h
    simp only [wave_joined_l3, b_wave_joined_l3, next_i i (by omega)]
    rw [bif_pos (by omega), bif_pos (by omega), bif_pos (by omega)]
    simp only [bif_pos (show (out.length + 1) * 16 ≤ 140737488355328 by omega)]
    by_cases h0 : (out.length : Int) > 0
    · rw [bif_pos h0, i64_ok (n := (out.length : Int) - 1) (by omega)]
      simp only [bif_pos (show (0 : Int) ≤ (out.length : Int) - 1 by omega), bif_pos (show (out.length : Int) - 1 < (out.length : Int) by omega), beq_if]
      split
      · exact ih _ (by rw [List.length_set]; omega)
      · exact ih _ (by simp; omega)
    · rw [bif_neg h0]
      exact ih _ (by simp; omega)
theorem clean_some (M : Nat) (l : List Run) (hl : l.length ≤ 100000) (hM : l.length < M) : ∃ r, wave_Clean M l = some r ∧ r.length ≤ l.length := by
  obtain ⟨b, hb⟩ := valid_some M l hl hM
  obtain ⟨r, hr, hr2⟩ : ∃ r, wave_joined M l = some r ∧ r.length ≤ l.length := by
    simp only [wave_joined, b_wave_joined]
    exact joined_l3 M l hl l.length 0 M [] (by omega) hM (by simp)
  simp only [wave_Clean, b_wave_Clean, hb, hr, Option.bind_some]
  cases b with
  | true => exact ⟨r, rfl, hr2⟩
  | false => exact ⟨[], rfl, by simp⟩
def Fair (p : Option (List Run × Int)) : Prop := ∃ r e, p = some (r, e) ∧ (e ≠ 0 → r = []) ∧ r.length ≤ 100000
theorem enc_l29 (M : Nat) (l : List Run) (hl : l.length ≤ 100000) (hM : l.length < M) : ∀ (k i m : Nat) (tot : Int), i + k = l.length → k < m → Fair (onewire_Encode_l29 M m tot (l.length : Int) (i : Int) l)
  | k, i, 0, tot, _, hm => by omega
  | 0, i, m + 1, tot, hi, hm => by
    obtain ⟨r, hr, hr2⟩ := clean_some M l hl hM
    simp only [onewire_Encode_l29, b_onewire_Encode_l29, hr, Option.bind_some]
    rw [bif_neg (by omega), bif_neg (by omega), bif_if]
    split
    · exact ⟨[], 2, rfl, fun _ => rfl, by simp⟩
    · exact ⟨r, 0, rfl, fun h => absurd rfl h, by omega⟩
  | k + 1, i, m + 1, tot, hi, hm => by
    simp only [onewire_Encode_l29, b_onewire_Encode_l29, next_i i (by omega)]
    rw [bif_pos (by omega), bif_pos (by omega), bif_pos (by omega)]
    exact enc_l29 M l hl hM k (i + 1) m _ (by omega) (by omega)
theorem enc_l19 (M : Nat) (q : Int → Int → List Item → Onewire → List Run → Option (List Run × Int)) (a b : Int) (l : List Item) (c : Onewire) (u : List Int) (hu : u.length ≤ 16) : ∀ (k i m : Nat) (out : List Run), i + k = u.length → k < m → out.length + k ≤ 50000 → ∃ o, onewire_Encode_l19 M q m a b (u.length : Int) (i : Int) l c out u = q a (IntKind.i64.wrap (b + 1)) l c o ∧ o.length = out.length + k
  | k, i, 0, out, _, hm, _ => by omega
  | 0, i, m + 1, out, hi, hm, ho => by
    simp only [onewire_Encode_l19, b_onewire_Encode_l19]
    rw [bif_neg (by omega)]; exact ⟨out, rfl, by omega⟩
  | k + 1, i, m + 1, out, hi, hm, ho => by
    simp only [onewire_Encode_l19, b_onewire_Encode_l19, next_i i (by omega)]
    rw [bif_pos (by omega), bif_pos (by omega), bif_pos (by omega), bif_pos (by omega)]
    obtain ⟨o, e, h⟩ := enc_l19 M q a b l c u hu k (i + 1) m (out ++ [Run.mk ((i : Int).tmod 2) (IntKind.i64.wrap (u.getD (i : Int).toNat 0 * c.T))]) (by omega) (by omega) (by simp; omega)
    exact ⟨o, e, by rw [h]; simp; omega⟩
theorem enc_l15 (M : Nat) (hM : 2000 < M) (l : List Item) (hl : l.length ≤ 12) (c : Onewire) : ∀ (k i m : Nat) (out : List Run), i + k = l.length → k < m → 1 ≤ out.length → out.length ≤ 1 + 16 * i → Fair (onewire_Encode_l15 M m (l.length : Int) (i : Int) l c out)
  | k, i, 0, out, _, hm, _, _ => by omega
  | 0, i, m + 1, out, hi, hm, h1, h2 => by
    simp only [onewire_Encode_l15, b_onewire_Encode_l15]
    rw [bif_neg (by omega), i64_ok (n := (out.length : Int) - 1) (by omega)]
    simp only [bif_pos (show (0 : Int) ≤ (out.length : Int) - 1 by omega), bif_pos (show (out.length : Int) - 1 < (out.length : Int) by omega), beq_if]
    split
    · rw [bif_pos (by rw [List.length_set]; omega)]
      refine enc_l29 M _ ?_ ?_ _ 0 M 0 (Nat.zero_add _) ?_ <;> (simp only [List.length_set]; omega)
    · refine enc_l29 M _ ?_ ?_ _ 0 M 0 (Nat.zero_add _) ?_ <;> (simp only [List.length_set]; omega)
  | k + 1, i, m + 1, out, hi, hm, h1, h2 => by
    obtain ⟨u, hu, hu2⟩ := units_some M (by omega) (l.getD (i : Int).toNat dflt_Item)
    simp only [onewire_Encode_l15, b_onewire_Encode_l15, hu, Option.bind_some]
    rw [bif_pos (by omega), bif_pos (by omega), bif_pos (by omega), i64_ok (n := (out.length : Int) - 1) (by omega)]
    simp only [bif_pos (show (0 : Int) ≤ (out.length : Int) - 1 by omega), bif_pos (show (out.length : Int) - 1 < (out.length : Int) by omega)]
    obtain ⟨o, e, h⟩ := enc_l19 M (fun a b l c out => onewire_Encode_l15 M m a b l c out) (l.length : Int) (i : Int) l c u hu2 u.length 0 M (out.set ((out.length : Int) - 1).toNat (Run.mk (out.getD ((out.length : Int) - 1).toNat dflt_Run).Level (IntKind.i64.wrap ((out.getD ((out.length : Int) - 1).toNat dflt_Run).Ticks + (l.getD (i : Int).toNat dflt_Item).Gap)))) (by omega) (by omega) (by rw [List.length_set]; omega)
    rw [List.length_set] at h
    refine Eq.mpr (congrArg Fair (Eq.trans e ?_)) (enc_l15 M hM l hl c k (i + 1) m o (by omega) (by omega) (by omega) (by omega))
    rw [next_i i (by omega)]
theorem enc_l7 (M : Nat) (hM : 2000 < M) (l : List Item) (hl : l.length ≤ 12) (c : Onewire) : ∀ (k i m : Nat), i + k = l.length → k < m → Fair (onewire_Encode_l7 M m (l.length : Int) (i : Int) l c)
  | k, i, 0, _, hm => by omega
  | 0, i, m + 1, hi, hm => by
    simp only [onewire_Encode_l7, b_onewire_Encode_l7]
    rw [bif_neg (by omega)]
    exact enc_l15 M hM l hl c l.length 0 M [Run.mk 1 (IntKind.i64.wrap (8 * c.T))] (by omega) (by omega) (by simp) (by simp)
  | k + 1, i, m + 1, hi, hm => by
    obtain ⟨v, hv⟩ := refused_some M (l.getD (i : Int).toNat dflt_Item)
    simp only [onewire_Encode_l7, b_onewire_Encode_l7, hv, Option.bind_some, next_i i (by omega)]
    rw [bif_pos (by omega), bif_pos (by omega), bif_pos (by omega), bne_if]
    split
    · exact enc_l7 M hM l hl c k (i + 1) m (by omega) (by omega)
    · exact ⟨[], v, rfl, fun _ => rfl, by simp⟩
theorem enc_fair (M : Nat) (hM : 2000 < M) (l : List Item) (hl : l.length ≤ 12) (c : Onewire) : Fair (onewire_Encode M c l) := by
  simp only [onewire_Encode, b_onewire_Encode, check_is, Option.bind_some, bne_if]
  split
  · rw [bif_neg (by omega)]
    exact enc_l7 M hM l hl c l.length 0 M (by omega) (by omega)
  · exact ⟨[], _, rfl, fun _ => rfl, by simp⟩
/-! ### The events of runs -/
noncomputable def levA : Int → List Run → List Event
  | _, [] => []
  | at_, r :: l => Event.mk 1 at_ (IntKind.i64.wrap (at_ + r.Ticks)) r.Level 0 (bs []) 0 :: levA (IntKind.i64.wrap (at_ + r.Ticks)) l
theorem levA_len : ∀ (l : List Run) (at_ : Int), (levA at_ l).length = l.length
  | [], at_ => rfl
  | r :: l, at_ => by simp only [levA, List.length_cons, levA_len l]
theorem events_l3 (M : Nat) (l : List Run) (hl : l.length ≤ 100000) : ∀ (r : List Run) (i m : Nat) (at_ : Int) (out : List Event), l.drop i = r → r.length < m → out.length + r.length ≤ 200000 → law25_events_l3 M m at_ (i : Int) l out = some (out ++ levA at_ r)
  | r, i, 0, at_, out, _, hm, _ => by omega
  | [], i, m + 1, at_, out, hr, hm, ho => by
    have := drop_nil hr
    simp only [law25_events_l3, b_law25_events_l3]
    rw [bif_neg (by omega)]; simp [levA]
  | x :: r, i, m + 1, at_, out, hr, hm, ho => by
    obtain ⟨h1, h2, h3, h4, h5⟩ := drop_cons hr dflt_Run
    simp only [List.length_cons] at hm ho
    simp only [law25_events_l3, b_law25_events_l3, h1, next_i i (by omega)]
    rw [bif_pos (by omega), bif_pos (by omega), bif_pos (by omega), bif_pos (by omega), bif_pos (by omega), bif_pos (by omega), bif_pos (by omega), bif_pos (by omega), events_l3 M l hl r (i + 1) m _ _ h3 (by omega) (by simp; omega)]
    simp [levA]
theorem expect_l7 (M : Nat) (c : Onewire) (l : List Run) (hl : l.length ≤ 100000) (hM : l.length < M) : ∀ (r : List Run) (i m : Nat) (at_ : Int) (out : List Event), l.drop i = r → r.length < m → out.length + r.length ≤ l.length → onewire_Expect_l7 M m at_ (l.length : Int) (i : Int) c out l = some (decA c (out ++ levA at_ r), 0)
  | r, i, 0, at_, out, _, hm, _ => by omega
  | [], i, m + 1, at_, out, hr, hm, ho => by
    have := drop_nil hr
    simp only [List.length_nil] at ho
    simp only [onewire_Expect_l7, b_onewire_Expect_l7, decode_is M c out (by omega) (by omega), Option.bind_some]
    rw [bif_neg (by omega)]; simp [levA]
  | x :: r, i, m + 1, at_, out, hr, hm, ho => by
    obtain ⟨h1, h2, h3, h4, h5⟩ := drop_cons hr dflt_Run
    simp only [List.length_cons] at hm ho
    simp only [onewire_Expect_l7, b_onewire_Expect_l7, h1, next_i i (by omega)]
    rw [bif_pos (by omega), bif_pos (by omega), bif_pos (by omega), bif_pos (by omega), expect_l7 M c l hl hM r (i + 1) m _ _ h3 (by omega) (by simp; omega)]
    simp [levA]
theorem tiny_l4 (M : Nat) (l : List Item) (hl : l.length ≤ 12) : ∀ (r : List Item) (i m : Nat), l.drop i = r → r.length < m → ∃ b, law25_tiny_l4 M m (i : Int) l = some b
  | r, i, 0, _, hm => by omega
  | [], i, m + 1, hr, hm => by
    have := drop_nil hr
    simp only [law25_tiny_l4, b_law25_tiny_l4]
    rw [bif_neg (by omega)]; exact ⟨_, rfl⟩
  | e :: r, i, m + 1, hr, hm => by
    obtain ⟨h1, h2, h3, h4, h5⟩ := drop_cons hr dflt_Item
    simp only [List.length_cons] at hm
    simp only [law25_tiny_l4, b_law25_tiny_l4, h1]
    obtain ⟨b, hb⟩ := tiny_l4 M l hl r (i + 1) m h3 (by omega)
    rw [bif_pos (by omega), bif_pos (by omega), bif_pos (by omega), next_i i (by omega), hb, bif_if]
    split <;> exact ⟨_, rfl⟩
theorem tiny_is (M : Nat) (l : List Item) (hM : 60 < M) : ∃ b, law25_tiny M l = some b ∧ (b = true → l.length ≤ 12) := by
  simp only [law25_tiny, b_law25_tiny]
  by_cases h : (l.length : Int) > 12
  · rw [bif_pos h]; exact ⟨false, rfl, by simp⟩
  · rw [bif_neg h]
    obtain ⟨b, hb⟩ := tiny_l4 M l (by omega) l 0 M rfl (by omega)
    exact ⟨b, hb, fun _ => by omega⟩
theorem OnewireExpects_true (c : Onewire) (l : List Item) (hc : wf_Onewire c) (hl : (∀ x, x ∈ l → wf_Item x) ∧ l.length * Try.prog.bytesOf 53 ≤ 140737488351232) : ∃ M, law25_OnewireExpects M c l = some true := by
  refine ⟨500000, ?_⟩
  obtain ⟨b, hb, hb2⟩ := tiny_is 500000 l (by omega)
  simp only [law25_OnewireExpects, b_law25_OnewireExpects, hb, Option.bind_some, awake_true 500000 (by omega)]
  cases b with
  | false => rfl
  | true =>
    obtain ⟨r, e, he, hz, hr⟩ := enc_fair 500000 (by omega) l (hb2 rfl) c
    have hx : onewire_Expect 500000 c l = some (if e = 0 then (decA c (levA 0 r), 0) else ([], e)) := by
      simp only [onewire_Expect, b_onewire_Expect, he, Option.bind_some, bne_if]
      by_cases h0 : e = 0
      · rw [if_pos h0, if_pos h0]
        exact expect_l7 500000 c r hr (by omega) r 0 500000 0 [] rfl (by omega) (by simp)
      · rw [if_neg h0, if_neg h0]
    simp only [he, hx, Option.bind_some, Bool.not_true, Bool.cond_false, bne_if]
    by_cases h0 : e = 0
    · rw [if_pos h0, if_pos h0]
      have hev : law25_events 500000 r = some (levA 0 r) := by
        simp only [law25_events, b_law25_events]
        exact events_l3 500000 r hr r 0 500000 0 [] rfl (by omega) (by simp; omega)
      have hlen := levA_len r 0
      have hdl := dec_len c (levA 0 r)
      simp only [hev, Option.bind_some, decode_is 500000 c (levA 0 r) (by omega) (by omega), same_self 500000 (decA c (levA 0 r)) (by omega) (by omega), beq_self_eq_true, Bool.cond_true]
    · rw [if_neg h0, if_neg h0, hz h0]
      simp only [beq_self_eq_true, Bool.cond_true]
      rfl
end Go.Abs.K
