/- PAIR: what is encoded; PairEncodes. -/
import Derived.Test.YtcagcnlddcloiaaP6
set_option linter.unusedVariables false
set_option linter.unusedSimpArgs false
namespace Go.Abs.K
open Go Go.Abs Go.Proofs

def chk (x : Item) : Int :=
  if x.Gap < 0 ∨ x.Gap > 1048576 then 1 else if (x.Data.size : Int) > 4095 then 6 else if x.Value < 0 ∨ x.Value > 127 then 2 else if ¬ (x.Fault = 0 ∨ x.Fault = 12 ∨ x.Fault = 7) ∨ x.Aux ≠ 0 then 1 else 0
def askI (g : Int) (x : Item) : Item := Item.mk g 0 0 (toBytes [x.Value]) 0
def ansI (g : Int) (x : Item) : Item := Item.mk g 0 0 (toBytes [128 + x.Value] ++ x.Data) 0
def one (x : Item) : List Item := if x.Fault = 12 then [ansI x.Gap x] else if x.Fault = 7 then [askI x.Gap x, askI 0 x, ansI 0 x] else [askI x.Gap x, ansI 0 x]
theorem one_len (x : Item) : 1 ≤ (one x).length ∧ (one x).length ≤ 3 := by
  unfold one
  split
  · simp
  · split
    · simp
    · simp
/-- A valid item. -/
structure Okx (x : Item) : Prop where
  g0 : 0 ≤ x.Gap
  g1 : x.Gap ≤ 1048576
  d : x.Data.size ≤ 4095
  v0 : 0 ≤ x.Value
  v1 : x.Value ≤ 127
  f : x.Fault = 0 ∨ x.Fault = 12 ∨ x.Fault = 7
  a : x.Aux = 0
theorem chk_ok {x : Item} (h : chk x = 0) : Okx x := by
  unfold chk at h
  split at h
  · omega
  · rename_i h1
    split at h
    · omega
    · rename_i h2
      split at h
      · omega
      · rename_i h3
        split at h
        · omega
        · rename_i h4
          exact ⟨by omega, by omega, by omega, by omega, by omega, by omega, by omega⟩
theorem pcheck_is (M : Nat) (x : Item) : pair_check M x = some (chk x) := by
  unfold chk
  simp only [pair_check, b_pair_check, bif_if, bne_if]
  by_cases h1 : x.Gap < 0
  · rw [if_pos h1, if_pos (.inl h1)]
  · rw [if_neg h1]
    by_cases h2 : x.Gap > 1048576
    · rw [if_pos h2, if_pos (.inr h2)]
    · rw [if_neg h2, if_neg (by omega : ¬ (x.Gap < 0 ∨ x.Gap > 1048576))]
      by_cases h3 : (x.Data.size : Int) > 4095
      · rw [if_pos h3, if_pos h3]
      · rw [if_neg h3, if_neg h3]
        by_cases h4 : x.Value < 0
        · rw [if_pos h4, if_pos (.inl h4)]
        · rw [if_neg h4]
          by_cases h5 : x.Value > 127
          · rw [if_pos h5, if_pos (.inr h5)]
          · rw [if_neg h5, if_neg (by omega : ¬ (x.Value < 0 ∨ x.Value > 127))]
            by_cases h6 : x.Aux = 0
            · simp only [if_pos h6]
              by_cases f1 : x.Fault = 0
              · rw [if_pos f1, if_neg (by omega)]
              · rw [if_neg f1]
                by_cases f2 : x.Fault = 12
                · rw [if_pos f2, if_neg (by omega)]
                · rw [if_neg f2]
                  by_cases f3 : x.Fault = 7
                  · rw [if_pos f3, if_neg (by omega)]
                  · rw [if_neg f3, if_pos (by omega)]
            · simp only [if_neg h6]
              rw [if_pos (by omega : ¬ (x.Fault = 0 ∨ x.Fault = 12 ∨ x.Fault = 7) ∨ x.Aux ≠ 0)]
              by_cases f1 : x.Fault = 0
              · rw [if_pos f1]
              · rw [if_neg f1]
                by_cases f2 : x.Fault = 12
                · rw [if_pos f2]
                · rw [if_neg f2]
                  by_cases f3 : x.Fault = 7
                  · rw [if_pos f3]
                  · rw [if_neg f3]
theorem set_mid {α : Type} (out : List α) (a y : α) (r : List α) : (out ++ a :: r).set ((out.length : Nat) : Int).toNat y = out ++ y :: r := by
  rw [Int.toNat_natCast, List.set_append]
  simp
theorem getD_mid {α : Type} (out : List α) (a d : α) (r : List α) : (out ++ a :: r).getD ((out.length : Nat) : Int).toNat d = a := by
  rw [Int.toNat_natCast, List.getD_eq_getElem?_getD, List.getElem?_append_right (Nat.le_refl _), Nat.sub_self]
  rfl
theorem enc_step (M m : Nat) (t : List Item) (ht : t.length ≤ 2000) (i : Nat) (out r : List Item) (x : Item) (h : t.drop i = x :: r) (ho : out.length ≤ 10000) :
    pair_Encode_l8 M (m + 1) (t.length : Int) (i : Int) out t = if chk x = 0 then pair_Encode_l8 M m (t.length : Int) ((i + 1 : Nat) : Int) (out ++ one x) t else some ([], chk x) := by
  obtain ⟨h1, h2, h3, h4, h5⟩ := drop_cons h dflt_Item
  conv => lhs; rw [pair_Encode_l8]
  simp only [b_pair_Encode_l8, h1, pcheck_is, Option.bind_some]
  rw [bif_pos (by omega), bif_pos (by omega), bif_pos (by omega), bne_if]
  by_cases hc : chk x = 0
  · rw [if_pos hc, if_pos hc]
    obtain ⟨g0, g1, d, v0, v1, f, a⟩ := chk_ok hc
    rw [u8_ok (n := x.Value) (by omega), i64_ok (n := x.Value + 128) (by omega), u8_ok (n := x.Value + 128) (by omega), next_i i (by omega), show x.Value + 128 = 128 + x.Value from Int.add_comm _ _]
    have e1 : ¬ ((((toBytes [128 + x.Value]).size + x.Data.size : Nat) : Int) > 9223372036854775807) := by rw [toBytes_size]; simp only [List.length_cons, List.length_nil]; omega
    have e1' : ¬ ((((toBytes [128 + x.Value]).size : Int) + (x.Data.size : Int)) > 9223372036854775807) := by rw [toBytes_size]; simp only [List.length_cons, List.length_nil]; omega
    unfold one
    rcases f with f | f | f
    · simp only [bne_if, beq_if, f, Int.reduceEq, if_false]
      rw [bif_pos (by omega), bif_neg (by first | exact e1 | exact e1'), bif_pos (by simp only [List.length_append, List.length_cons, List.length_nil]; omega), bif_pos (by simp only [List.length_append, List.length_cons, List.length_nil]; omega)]
      simp only [List.append_assoc, List.cons_append, List.nil_append, set_mid, getD_mid]
      rfl
    · simp only [bne_if, beq_if, f, if_true, Int.reduceEq, if_false]
      rw [bif_neg (by first | exact e1 | exact e1'), bif_pos (by omega), bif_pos (by simp only [List.length_append, List.length_cons, List.length_nil]; omega)]
      simp only [List.append_assoc, List.cons_append, List.nil_append, set_mid, getD_mid]
      rfl
    · simp only [bne_if, beq_if, f, if_true, Int.reduceEq, if_false]
      rw [bif_pos (by omega), bif_pos (by simp only [List.length_append, List.length_cons, List.length_nil]; omega), bif_neg (by first | exact e1 | exact e1'), bif_pos (by simp only [List.length_append, List.length_cons, List.length_nil]; omega), bif_pos (by simp only [List.length_append, List.length_cons, List.length_nil]; omega)]
      simp only [List.append_assoc, List.cons_append, List.nil_append, set_mid, getD_mid]
      rfl
  · rw [if_neg hc, if_neg hc]
theorem renc_step (M m : Nat) (t : List Item) (ht : t.length ≤ 2000) (i : Nat) (out r : List Item) (x : Item) (h : t.drop i = x :: r) (ho : out.length ≤ 10000) :
    ref33_Encode_l8 M (m + 1) (i : Int) t out = if chk x = 0 then ref33_Encode_l8 M m ((i + 1 : Nat) : Int) t (out ++ one x) else some ([], chk x) := by
  obtain ⟨h1, h2, h3, h4, h5⟩ := drop_cons h dflt_Item
  conv => lhs; rw [ref33_Encode_l8]
  simp only [b_ref33_Encode_l8, h1]
  rw [bif_pos (by omega), bif_pos (by omega), bif_pos (by omega)]
  by_cases hc : chk x = 0
  · rw [if_pos hc]
    obtain ⟨g0, g1, d, v0, v1, f, a⟩ := chk_ok hc
    rw [bif_neg (show ¬ x.Gap < 0 by omega), bif_neg (show ¬ x.Gap > 1048576 by omega), bif_neg (show ¬ (x.Data.size : Int) > 4095 by omega), bif_neg (show ¬ x.Value < 0 by omega), bif_neg (show ¬ x.Value > 127 by omega)]
    rw [u8_ok (n := x.Value) (by omega), i64_ok (n := 128 + x.Value) (by omega), u8_ok (n := 128 + x.Value) (by omega), next_i i (by omega)]
    have e1 : ¬ ((((toBytes [128 + x.Value]).size + x.Data.size : Nat) : Int) > 9223372036854775807) := by rw [toBytes_size]; simp only [List.length_cons, List.length_nil]; omega
    have e1' : ¬ ((((toBytes [128 + x.Value]).size : Int) + (x.Data.size : Int)) > 9223372036854775807) := by rw [toBytes_size]; simp only [List.length_cons, List.length_nil]; omega
    unfold one
    rcases f with f | f | f
    · simp only [bne_if, beq_if, f, a, Int.reduceEq, if_false, if_true]
      rw [bif_neg (by first | exact e1 | exact e1'), bif_pos (by omega), bif_pos (by simp only [List.length_append, List.length_cons, List.length_nil]; omega), bif_pos (by simp only [List.length_append, List.length_cons, List.length_nil]; omega)]
      simp only [List.append_assoc, List.cons_append, List.nil_append, set_mid, getD_mid]
      rfl
    · simp only [bne_if, beq_if, f, a, if_true, Int.reduceEq, if_false]
      rw [bif_neg (by first | exact e1 | exact e1'), bif_pos (by omega), bif_pos (by simp only [List.length_append, List.length_cons, List.length_nil]; omega)]
      simp only [List.append_assoc, List.cons_append, List.nil_append, set_mid, getD_mid]
      rfl
    · simp only [bne_if, beq_if, f, a, if_true, Int.reduceEq, if_false]
      rw [bif_neg (by first | exact e1 | exact e1'), bif_pos (by omega), bif_pos (by simp only [List.length_append, List.length_cons, List.length_nil]; omega), bif_pos (by simp only [List.length_append, List.length_cons, List.length_nil]; omega), bif_pos (by simp only [List.length_append, List.length_cons, List.length_nil]; omega)]
      simp only [List.append_assoc, List.cons_append, List.nil_append, set_mid, getD_mid]
      rfl
  · rw [if_neg hc]
    unfold chk at hc ⊢
    by_cases h1 : x.Gap < 0
    · rw [bif_pos h1, if_pos (.inl h1)]
    · rw [bif_neg h1]
      by_cases h2 : x.Gap > 1048576
      · rw [bif_pos h2, if_pos (.inr h2)]
      · have k1 : ¬ (x.Gap < 0 ∨ x.Gap > 1048576) := by omega
        rw [if_neg k1] at hc ⊢
        rw [bif_neg h2]
        by_cases h3 : (x.Data.size : Int) > 4095
        · rw [bif_pos h3, if_pos h3]
        · rw [if_neg h3] at hc ⊢
          rw [bif_neg h3]
          by_cases h4 : x.Value < 0
          · rw [bif_pos h4, if_pos (.inl h4)]
          · rw [bif_neg h4]
            by_cases h5 : x.Value > 127
            · rw [bif_pos h5, if_pos (.inr h5)]
            · have k2 : ¬ (x.Value < 0 ∨ x.Value > 127) := by omega
              rw [if_neg k2] at hc ⊢
              rw [bif_neg h5]
              by_cases h6 : ¬ (x.Fault = 0 ∨ x.Fault = 12 ∨ x.Fault = 7) ∨ x.Aux ≠ 0
              · rw [if_pos h6]
                by_cases a0 : x.Aux = 0
                · simp only [bne_if]
                  rw [if_neg (show ¬ x.Fault = 0 by omega), if_neg (show ¬ x.Fault = 12 by omega), if_neg (show ¬ x.Fault = 7 by omega)]
                · simp only [bne_if, if_neg a0]
                  by_cases f1 : x.Fault = 0
                  · rw [if_pos f1]
                  · rw [if_neg f1]
                    by_cases f2 : x.Fault = 12
                    · rw [if_pos f2]
                    · rw [if_neg f2]
                      by_cases f3 : x.Fault = 7
                      · rw [if_pos f3]
                      · rw [if_neg f3]
              · rw [if_neg h6] at hc
                exact absurd rfl hc
/-- The error, or the items. -/
def encl : List Item → Int × List Item
  | [] => (0, [])
  | x :: r => if chk x = 0 then (if (encl r).1 = 0 then (0, one x ++ (encl r).2) else ((encl r).1, [])) else (chk x, [])
theorem enc_l (M : Nat) (t : List Item) (ht : t.length ≤ 2000) : ∀ (r : List Item) (i m : Nat) (out : List Item), t.drop i = r → r.length < m → out.length + 3 * r.length ≤ 10000 →
    pair_Encode_l8 M m (t.length : Int) (i : Int) out t = some (if (encl r).1 = 0 then (out ++ (encl r).2, 0) else ([], (encl r).1)) ∧
    ref33_Encode_l8 M m (i : Int) t out = some (if (encl r).1 = 0 then (out ++ (encl r).2, 0) else ([], (encl r).1))
  | r, i, 0, out, _, hm, _ => by omega
  | [], i, m + 1, out, h, hm, hb => by
    have := drop_nil h
    constructor
    · simp only [pair_Encode_l8, b_pair_Encode_l8]
      rw [bif_neg (by omega)]
      simp [encl]
    · simp only [ref33_Encode_l8, b_ref33_Encode_l8]
      rw [bif_neg (by omega)]
      simp [encl]
  | x :: r, i, m + 1, out, h, hm, hb => by
    obtain ⟨h1, h2, h3, h4, h5⟩ := drop_cons h dflt_Item
    have hl := one_len x
    simp only [List.length_cons] at hm hb
    rw [enc_step M m t ht i out r x h (by omega), renc_step M m t ht i out r x h (by omega), encl]
    by_cases hc : chk x = 0
    · rw [if_pos hc, if_pos hc, if_pos hc]
      have ih := enc_l M t ht r (i + 1) m (out ++ one x) h3 (by omega) (by simp only [List.length_append]; omega)
      rw [ih.1, ih.2]
      by_cases he : (encl r).1 = 0
      · simp [he]
      · simp [he]
    · rw [if_neg hc, if_neg hc, if_neg hc]
      simp [hc]
def encd (c : Pair) (l : List Item) : List Item × Int := if CV c then (if l.length > 1024 then ([], 6) else if (encl l).1 = 0 then ((encl l).2, 0) else ([], (encl l).1)) else ([], 2)
theorem encode_is (M : Nat) (hM : 5000000 < M) (c : Pair) (l : List Item) : pair_Encode M c l = some (encd c l) ∧ ref33_Encode M c l = some (encd c l) := by
  unfold encd
  have e0 : ((0 : Nat) : Int) = 0 := rfl
  constructor
  · unfold pair_Encode b_pair_Encode
    simp only [check_is, Option.bind_some, bne_if]
    by_cases hc : CV c
    · rw [if_pos hc, if_pos hc, if_pos rfl]
      by_cases hl : l.length > 1024
      · rw [bif_pos (by omega), if_pos hl]
      · rw [bif_neg (by omega), if_neg hl]
        have := (enc_l M l (by omega) l 0 M [] rfl (by omega) (by simp only [List.length_nil]; omega)).1
        rw [e0, List.nil_append] at this
        exact this
    · rw [if_neg hc, if_neg hc, if_neg (by omega)]
  · unfold ref33_Encode b_ref33_Encode
    simp only [rcheck_is, Option.bind_some, bne_if]
    by_cases hc : CV c
    · rw [if_pos hc, if_pos hc, if_pos rfl]
      by_cases hl : l.length > 1024
      · rw [bif_pos (by omega), if_pos hl]
      · rw [bif_neg (by omega), if_neg hl]
        have := (enc_l M l (by omega) l 0 M [] rfl (by omega) (by simp only [List.length_nil]; omega)).2
        rw [e0, List.nil_append] at this
        exact this
    · rw [if_neg hc, if_neg hc, if_neg (by omega)]
theorem encl_len : ∀ (l : List Item), (encl l).2.length ≤ 3 * l.length
  | [] => by simp [encl]
  | x :: r => by
    have h1 := encl_len r
    have h2 := one_len x
    rw [encl]
    split
    · split
      · simp only [List.length_append, List.length_cons]; omega
      · simp
    · simp
theorem encd_len (c : Pair) (l : List Item) : (encd c l).1.length ≤ 3 * l.length ∧ (encd c l).1.length ≤ 3072 := by
  have h1 := encl_len l
  unfold encd
  split
  · split
    · simp
    · split
      · dsimp only; omega
      · simp
  · simp
theorem itms_l4 (M : Nat) (a : List Item) (ha : a.length < 9223372036854775807) : ∀ (k i m : Nat), i + k = a.length → k < m → law33_sameItems_l4 M m (i : Int) a a = some true
  | k, i, 0, _, hm => by omega
  | 0, i, m + 1, hi, hm => by
    simp only [law33_sameItems_l4, b_law33_sameItems_l4]
    rw [bif_neg (by omega)]
  | k + 1, i, m + 1, hi, hm => by
    simp only [law33_sameItems_l4, b_law33_sameItems_l4, beq_self_eq_true, bytes_beq_self, Bool.and_self, Bool.not_true, Bool.cond_false]
    rw [bif_pos (by omega), bif_pos (by omega), bif_pos (by omega), next_i i (by omega)]
    simp only [bif_pos (show (0 : Int) ≤ (i : Int) by omega), bif_pos (show (i : Int) < (a.length : Int) by omega)]
    exact itms_l4 M a ha k (i + 1) m (by omega) (by omega)
theorem itms_self (M : Nat) (a : List Item) (ha : a.length < 9223372036854775807) (hM : a.length < M) : law33_sameItems M a a = some true := by
  simp only [law33_sameItems, b_law33_sameItems, bne_self_eq_false, Bool.cond_false]
  exact itms_l4 M a ha a.length 0 M (by omega) hM
theorem few_l (M : Nat) (l : List Item) (hl : l.length ≤ 1100) : ∀ (r : List Item) (i m : Nat) (n : Int), l.drop i = r → r.length < m → 0 ≤ n → n ≤ 20000 → (∀ x, x ∈ l → x.Data.size ≤ 140737488351232) → ∃ b, law33_few_l5 M m n (i : Int) l = some b
  | r, i, 0, n, _, hm, _, _, _ => by omega
  | [], i, m + 1, n, h, hm, h0, h1, hw => by
    have := drop_nil h
    simp only [law33_few_l5, b_law33_few_l5]
    rw [bif_neg (by omega)]
    exact ⟨_, rfl⟩
  | x :: r, i, m + 1, n, h, hm, h0, h1, hw => by
    obtain ⟨g1, g2, g3, g4, g5⟩ := drop_cons h dflt_Item
    have := hw x g5
    simp only [List.length_cons] at hm
    simp only [law33_few_l5, b_law33_few_l5, g1]
    rw [bif_pos (by omega), bif_pos (by omega), bif_pos (by omega), i64_ok (n := n + (x.Data.size : Int)) (by omega), next_i i (by omega)]
    by_cases c : n + (x.Data.size : Int) > 20000
    · rw [bif_pos c]; exact ⟨_, rfl⟩
    · rw [bif_neg c]
      exact few_l M l hl r (i + 1) m _ g3 (by omega) (by omega) (by omega) hw
theorem few_is (M : Nat) (hM : 5000000 < M) (l : List Item) (hw : ∀ x, x ∈ l → x.Data.size ≤ 140737488351232) : ∃ b, law33_few M l = some b ∧ (b = true → l.length ≤ 1100) := by
  unfold law33_few b_law33_few
  by_cases h : (l.length : Int) > 1100
  · rw [bif_pos h]; exact ⟨_, rfl, fun hh => by cases hh⟩
  · rw [bif_neg h]
    obtain ⟨b, hb⟩ := few_l M l (by omega) l 0 M 0 rfl (by omega) (by omega) (by omega) hw
    exact ⟨b, hb, fun _ => by omega⟩
theorem PairEncodes_true (c : Pair) (l : List Item) (q0 : wf_Pair c) (q1 : (∀ x, x ∈ l → wf_Item x) ∧ l.length * Try.prog.bytesOf 48 ≤ 140737488351232) : ∃ M, law33_PairEncodes M c l = some true := by
  refine ⟨6000000, ?_⟩
  unfold law33_PairEncodes b_law33_PairEncodes
  obtain ⟨b, hb, hb2⟩ := few_is 6000000 (by omega) l fun x hx => (q1.1 x hx).2.2.2.1
  rw [lives_true 6000000 (by omega), hb]
  simp only [Option.bind_some, Bool.not_true, Bool.cond_false]
  cases b with
  | false => rfl
  | true =>
    have he := encode_is 6000000 (by omega) c l
    have hl := encd_len c l
    simp only [Bool.not_true, Bool.cond_false, he.1, he.2, Option.bind_some, beq_self_eq_true, Bool.cond_true]
    rw [itms_self 6000000 _ (by omega) (by omega)]
    rfl
end Go.Abs.K
