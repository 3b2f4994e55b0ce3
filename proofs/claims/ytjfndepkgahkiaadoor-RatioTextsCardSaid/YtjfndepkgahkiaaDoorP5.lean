/- RATIO: what is read of a string; RatioParses. -/
import Derived.Test.YtjfndepkgahkiaaDoorP4
set_option linter.unusedVariables false
set_option linter.unusedSimpArgs false
namespace Go.Abs.K
open Go Go.Abs Go.Proofs

/-- How many digits a list begins with. -/
def lead : List Int → Nat
  | [] => 0
  | x :: r => if 48 ≤ x ∧ x ≤ 57 then lead r + 1 else 0
/-- The number of some digits; what is too great is told as one number. -/
def val : Int → List Int → Int
  | n, [] => n
  | n, x :: r => val (if 1073741825 < 10 * n + (x - 48) then 1073741825 else 10 * n + (x - 48)) r
theorem lead_le : ∀ (l : List Int), lead l ≤ l.length
  | [] => Nat.le_refl _
  | x :: r => by
    have := lead_le r
    rw [lead]
    split
    · simp only [List.length_cons]; omega
    · omega
theorem val_range : ∀ (l : List Int) (n : Int), (∀ x, x ∈ l → 48 ≤ x ∧ x ≤ 57) → 0 ≤ n → n ≤ 1073741825 → 0 ≤ val n l ∧ val n l ≤ 1073741825
  | [], n, _, h0, h1 => ⟨h0, h1⟩
  | x :: r, n, h, h0, h1 => by
    have hx := h x (.head _)
    rw [val]
    exact val_range r _ (fun y hy => h y (.tail _ hy)) (by split <;> omega) (by split <;> omega)
theorem lead_digits : ∀ (l : List Int), ∀ x, x ∈ l.take (lead l) → 48 ≤ x ∧ x ≤ 57
  | [], x, hx => by simp at hx
  | y :: r, x, hx => by
    rw [lead] at hx
    split at hx
    · rw [List.take_succ_cons] at hx
      rcases List.mem_cons.1 hx with rfl | hx
      · assumption
      · exact lead_digits r x hx
    · simp at hx
def okl (k : Nat) (l : List Int) : Bool := decide (k = 1 ∨ (1 < k ∧ l.headD 0 ≠ 48))
theorem at0 (s : ByteArray) : byteAt s 0 = (ofBytes s).headD 0 := by
  rw [byteAt_eq]
  cases ofBytes s <;> rfl
theorem digits_loop (M : Nat) (s : ByteArray) (hs : s.size ≤ 1000) : ∀ (r : List Int) (i m : Nat) (n : Int), (ofBytes s).drop i = r → i ≤ s.size → r.length < m → 0 ≤ n → n ≤ 1073741825 →
    ratio_digits_l2 M m s n (i : Int) = some (val n (r.take (lead r)), s.extract (i + lead r) s.size, okl (i + lead r) (ofBytes s))
  | r, i, 0, n, _, _, hm, _, _ => by omega
  | [], i, m + 1, n, h, hi, hm, h0, h1 => by
    have hlen := drop_nil h
    rw [ofBytes_length] at hlen
    simp only [ratio_digits_l2, b_ratio_digits_l2]
    rw [bif_neg (by omega), bif_pos (by omega), bif_pos (by omega), bif_pos (by omega), Int.toNat_natCast, Int.toNat_natCast, beq_if, at0]
    rw [show lead [] = 0 from rfl, Nat.add_zero, List.take_nil, val]
    unfold okl
    by_cases c : (i : Int) = 1
    · rw [if_pos c, decide_eq_true (.inl (by omega))]
    · rw [if_neg c]
      by_cases c2 : (i : Int) > 1
      · rw [bif_pos c2, bif_pos (by omega)]
        congr 3
        rw [Bool.eq_iff_iff]
        simp only [bne_iff_ne, ne_eq, decide_eq_true_eq]
        omega
      · rw [bif_neg c2, decide_eq_false (by omega)]
  | x :: r, i, m + 1, n, h, hi, hm, h0, h1 => by
    obtain ⟨h2, h3, h4, h5, h6⟩ := drop_cons h 0
    rw [ofBytes_length] at h3 h5
    have hx : byteAt s (i : Int) = x := by rw [byteAt_eq]; exact h2
    simp only [List.length_cons] at hm
    have stop : ¬ (48 ≤ x ∧ x ≤ 57) → (bif decide ((s.size : Int) ≤ (s.size : Int)) then bif decide (0 ≤ (i : Int)) then bif decide ((i : Int) ≤ (s.size : Int)) then
        bif (i : Int) == 1 then some (n, s.extract (i : Int).toNat ((s.size : Int)).toNat, true) else bif decide ((i : Int) > 1) then bif decide (0 < (s.size : Int)) then some (n, s.extract (i : Int).toNat ((s.size : Int)).toNat, byteAt s 0 != 48) else none else some (n, s.extract (i : Int).toNat ((s.size : Int)).toNat, false) else none else none else none) =
        some (val n ((x :: r).take (lead (x :: r))), s.extract (i + lead (x :: r)) s.size, okl (i + lead (x :: r)) (ofBytes s)) := fun hc => by
      rw [bif_pos (by omega), bif_pos (by omega), bif_pos (by omega), Int.toNat_natCast, Int.toNat_natCast, beq_if, at0]
      rw [show lead (x :: r) = 0 by rw [lead, if_neg hc], Nat.add_zero, List.take_zero, val]
      unfold okl
      by_cases c : (i : Int) = 1
      · rw [if_pos c, decide_eq_true (.inl (by omega))]
      · rw [if_neg c]
        by_cases c2 : (i : Int) > 1
        · rw [bif_pos c2, bif_pos (by omega)]
          congr 3
          rw [Bool.eq_iff_iff]
          simp only [bne_iff_ne, ne_eq, decide_eq_true_eq]
          omega
        · rw [bif_neg c2, decide_eq_false (by omega)]
    simp only [ratio_digits_l2, b_ratio_digits_l2, hx]
    rw [bif_pos (show (i : Int) < (s.size : Int) by omega)]
    simp only [bif_pos (show (0 : Int) ≤ (i : Int) by omega), bif_pos (show (i : Int) < (s.size : Int) by omega)]
    simp only [bif_pos (show (0 : Int) ≤ (i : Int) by omega)] at stop
    by_cases c1 : 48 ≤ x
    · rw [bif_pos c1]
      by_cases c2 : x ≤ 57
      · rw [bif_pos c2, u8_ok (n := x - 48) (by omega), i64_ok (n := x - 48) (by omega), i64_ok (n := 10 * n) (by omega), i64_ok (n := 10 * n + (x - 48)) (by omega), next_i i (by omega)]
        rw [digits_loop M s hs r (i + 1) m _ h4 (by omega) (by omega) (by split <;> omega) (by split <;> omega)]
        rw [show lead (x :: r) = lead r + 1 by rw [lead, if_pos ⟨c1, c2⟩], List.take_succ_cons, val, show i + 1 + lead r = i + (lead r + 1) by omega]
      · rw [bif_neg c2]
        exact stop (by omega)
    · rw [bif_neg c1]
      exact stop (by omega)
theorem digitsP_is (M : Nat) (hM : Big M) (s : ByteArray) (hs : s.size ≤ 1000) : ratio_digits M s = some (val 0 ((ofBytes s).take (lead (ofBytes s))), s.extract (lead (ofBytes s)) s.size, okl (lead (ofBytes s)) (ofBytes s)) := by
  have hM := hM.h
  have := digits_loop M s hs (ofBytes s) 0 M 0 rfl (by omega) (by rw [ofBytes_length]; omega) (by omega) (by omega)
  rw [Nat.zero_add] at this
  exact this
/-- A numeral. -/
def num? (l : List Int) : Option Int := if lead l = l.length ∧ okl l.length l = true then some (val 0 l) else none
def sat (n : Int) : Int := if n > 1073741824 then 1073741825 else n
theorem number_loop (M : Nat) (s : ByteArray) (hs : s.size ≤ 1000) : ∀ (r : List Int) (i m : Nat) (n : Int), (ofBytes s).drop i = r → i ≤ s.size → r.length < m → 0 ≤ n → n ≤ 20000000000 →
    ref01_number_l5 M m s n (i : Int) = some (if lead r = r.length then (val (sat n) r, true) else (0, false))
  | r, i, 0, n, _, _, hm, _, _ => by omega
  | [], i, m + 1, n, h, hi, hm, h0, h1 => by
    have hlen := drop_nil h
    rw [ofBytes_length] at hlen
    simp only [ref01_number_l5, b_ref01_number_l5]
    have hz : lead [] = ([] : List Int).length := rfl
    rw [bif_neg (by omega), if_pos hz, val, bif_if]
    unfold sat
    split <;> rfl
  | x :: r, i, m + 1, n, h, hi, hm, h0, h1 => by
    obtain ⟨h2, h3, h4, h5, h6⟩ := drop_cons h 0
    rw [ofBytes_length] at h3 h5
    have hx : byteAt s (i : Int) = x := by rw [byteAt_eq]; exact h2
    simp only [List.length_cons] at hm
    have hll := lead_le r
    simp only [ref01_number_l5, b_ref01_number_l5, hx]
    rw [bif_pos (show (i : Int) < (s.size : Int) by omega), bif_pos (by omega), bif_pos (by omega)]
    by_cases c1 : x < 48
    · rw [bif_pos c1, if_neg (by rw [lead, if_neg (by omega)]; simp)]
    rw [bif_neg c1, bif_pos (by omega), bif_pos (by omega)]
    by_cases c2 : x > 57
    · rw [bif_pos c2, if_neg (by rw [lead, if_neg (by omega)]; simp)]
    rw [bif_neg c2, u8_ok (n := x - 48) (by omega), i64_ok (n := x - 48) (by omega), i64_ok (n := 10 * n) (by omega), i64_ok (n := 10 * n + (x - 48)) (by omega), next_i i (by omega)]
    have hsame : ∀ (X Y : Int × Bool), (if lead (x :: r) = (x :: r).length then X else Y) = (if lead r = r.length then X else Y) := fun X Y => by
      by_cases c : lead r = r.length
      · rw [if_pos c, if_pos (by rw [lead, if_pos (by omega), List.length_cons, c])]
      · rw [if_neg c, if_neg (fun hh => c (by rw [lead, if_pos (by omega), List.length_cons] at hh; omega))]
    rw [hsame]
    by_cases c3 : n ≤ 1073741824
    · rw [bif_pos c3, bif_pos (by omega), bif_pos (by omega), number_loop M s hs r (i + 1) m _ h4 (by omega) (by omega) (by omega) (by omega)]
      rw [val]
      have : sat (10 * n + (x - 48)) = if 1073741825 < 10 * sat n + (x - 48) then 1073741825 else 10 * sat n + (x - 48) := by
        unfold sat
        rw [if_neg (show ¬ n > 1073741824 by omega)]
        split <;> split <;> omega
      rw [this]
    · rw [bif_neg c3, number_loop M s hs r (i + 1) m _ h4 (by omega) (by omega) (by omega) (by omega)]
      rw [val]
      have : sat n = if 1073741825 < 10 * sat n + (x - 48) then 1073741825 else 10 * sat n + (x - 48) := by
        unfold sat
        rw [if_pos (show n > 1073741824 by omega)]
        split <;> omega
      rw [← this]
theorem empty_iff (s : ByteArray) : (s.toList == (bs []).toList) = decide (ofBytes s = []) := by
  rw [str_beq]
  rfl
theorem number_is (M : Nat) (hM : Big M) (s : ByteArray) (hs : s.size ≤ 1000) : ref01_number M s = some (match num? (ofBytes s) with
    | some a => (a, true)
    | none => (0, false)) := by
  have hM := hM.h
  have hlp := number_loop M s hs (ofBytes s) 0 M 0 rfl (by omega) (by rw [ofBytes_length]; omega) (by omega) (by omega)
  have e0 : ((0 : Nat) : Int) = 0 := rfl
  rw [e0] at hlp
  have hlen := ofBytes_length s
  unfold ref01_number b_ref01_number
  rw [empty_iff, at0, beq_if]
  unfold num? okl
  by_cases c0 : ofBytes s = []
  · rw [bif_pos c0, c0]
    rfl
  · have hp : 0 < (ofBytes s).length := List.length_pos_iff.2 c0
    rw [bif_neg c0, bif_pos (by omega)]
    have fin : ∀ (q : (ofBytes s).length = 1 ∨ (ofBytes s).headD 0 ≠ 48), ref01_number_l5 M M s 0 0 = some (match (if lead (ofBytes s) = (ofBytes s).length ∧ decide ((ofBytes s).length = 1 ∨ 1 < (ofBytes s).length ∧ (ofBytes s).headD 0 ≠ 48) = true then some (val 0 (ofBytes s)) else none : Option Int) with
        | some a => (a, true)
        | none => (0, false)) := fun q => by
      rw [hlp]
      by_cases c : lead (ofBytes s) = (ofBytes s).length
      · rw [if_pos c, if_pos ⟨c, decide_eq_true (by omega)⟩]
        rfl
      · rw [if_neg c, if_neg (fun h => c h.1)]
    by_cases c1 : (ofBytes s).headD 0 = 48
    · rw [if_pos c1]
      by_cases c2 : (s.size : Int) > 1
      · rw [bif_pos c2, if_neg (fun h => by
          have := of_decide_eq_true h.2
          omega)]
      · rw [bif_neg c2]
        exact fin (.inl (by omega))
    · rw [if_neg c1]
      exact fin (.inr c1)
/-- The first slash. -/
def sl : List Int → Nat
  | [] => 0
  | x :: r => if x = 47 then 0 else sl r + 1
theorem sl_le : ∀ (l : List Int), sl l ≤ l.length
  | [] => Nat.le_refl _
  | x :: r => by
    have := sl_le r
    rw [sl]
    split
    · omega
    · simp only [List.length_cons]; omega
theorem slash_loop (M : Nat) (s : ByteArray) (hs : s.size ≤ 1000) : ∀ (r : List Int) (i m : Nat), (ofBytes s).drop i = r → i ≤ s.size → r.length < m → ref01_slash_l2 M m s (i : Int) = some ((i + sl r : Nat) : Int)
  | r, i, 0, _, _, hm => by omega
  | [], i, m + 1, h, hi, hm => by
    have hlen := drop_nil h
    rw [ofBytes_length] at hlen
    simp only [ref01_slash_l2, b_ref01_slash_l2]
    rw [bif_neg (by omega), show sl [] = 0 from rfl, show i + 0 = s.size by omega]
  | x :: r, i, m + 1, h, hi, hm => by
    obtain ⟨h2, h3, h4, h5, h6⟩ := drop_cons h 0
    rw [ofBytes_length] at h3 h5
    have hx : byteAt s (i : Int) = x := by rw [byteAt_eq]; exact h2
    simp only [List.length_cons] at hm
    simp only [ref01_slash_l2, b_ref01_slash_l2, hx]
    rw [bif_pos (by omega), bif_pos (by omega), bif_pos (by omega), beq_if, sl]
    by_cases c : x = 47
    · rw [if_pos c, if_pos c]; rfl
    · rw [if_neg c, if_neg c, next_i i (by omega), slash_loop M s hs r (i + 1) m h4 (by omega) (by omega), show i + 1 + sl r = i + (sl r + 1) by omega]
theorem slash_is (M : Nat) (hM : Big M) (s : ByteArray) (hs : s.size ≤ 1000) : ref01_slash M s = some ((sl (ofBytes s) : Nat) : Int) := by
  have hM := hM.h
  have := slash_loop M s hs (ofBytes s) 0 M rfl (by omega) (by rw [ofBytes_length]; omega)
  rw [Nat.zero_add] at this
  exact this
/-! ### The digits ahead of the slash -/
theorem lead_sl : ∀ (l : List Int), lead l ≤ sl l
  | [] => Nat.le_refl _
  | x :: r => by
    have := lead_sl r
    rw [lead, sl]
    by_cases c : x = 47
    · rw [if_pos c, if_neg (by omega)]; exact Nat.le_refl _
    · rw [if_neg c]
      split <;> omega
theorem lead_take : ∀ (l : List Int) (n : Nat), lead l ≤ n → lead (l.take n) = lead l
  | [], n, _ => by simp
  | x :: r, 0, h => by
    rw [List.take_zero]
    have : lead (x :: r) = 0 := by omega
    rw [this]; rfl
  | x :: r, n + 1, h => by
    rw [List.take_succ_cons, lead, lead]
    rw [lead] at h
    split
    · rename_i c
      rw [if_pos c] at h
      rw [lead_take r n (by omega)]
    · rfl
theorem head_take (l : List Int) (n : Nat) (h : 0 < n) : (l.take n).headD 0 = l.headD 0 := by
  cases l with
  | nil => simp
  | cons x r =>
    obtain ⟨k, rfl⟩ : ∃ k, n = k + 1 := ⟨n - 1, by omega⟩
    rfl
theorem num_at (l : List Int) : num? (l.take (sl l)) = if lead l = sl l ∧ okl (lead l) l = true then some (val 0 (l.take (lead l))) else none := by
  have h1 := lead_sl l
  have h2 := sl_le l
  have hl : (l.take (sl l)).length = sl l := by rw [List.length_take]; omega
  unfold num?
  rw [hl, lead_take l _ h1]
  by_cases c : lead l = sl l
  · have e : okl (sl l) (l.take (sl l)) = okl (lead l) l := by
      rw [← c]
      unfold okl
      by_cases z : lead l = 0
      · rw [z]; rfl
      · rw [head_take l _ (by omega)]
    rw [e]
    by_cases c2 : okl (lead l) l = true
    · rw [if_pos ⟨c, c2⟩, if_pos ⟨c, c2⟩, c]
    · rw [if_neg (fun h => c2 h.2), if_neg (fun h => c2 h.2)]
  · rw [if_neg (fun h => c h.1), if_neg (fun h => c h.1)]
theorem num_all (l : List Int) : num? l = if lead l = l.length ∧ okl (lead l) l = true then some (val 0 (l.take (lead l))) else none := by
  unfold num?
  by_cases c : lead l = l.length
  · rw [c, List.take_length]
  · rw [if_neg (fun h => c h.1), if_neg (fun h => c h.1)]
theorem at_sl : ∀ (l : List Int), sl l < l.length → l.drop (sl l) = 47 :: l.drop (sl l + 1)
  | x :: r, h => by
    rw [sl] at h ⊢
    by_cases c : x = 47
    · rw [if_pos c, List.drop_zero, Nat.zero_add, List.drop_one, c]; rfl
    · rw [if_neg c] at h ⊢
      simp only [List.length_cons] at h
      rw [List.drop_succ_cons, List.drop_succ_cons]
      exact at_sl r (by omega)
theorem before_sl : ∀ (l : List Int) (k : Nat), k < sl l → ∃ y t, l.drop k = y :: t ∧ y ≠ 47
  | [], k, h => by simp [sl] at h
  | x :: r, k, h => by
    rw [sl] at h
    by_cases c : x = 47
    · rw [if_pos c] at h; omega
    · rw [if_neg c] at h
      cases k with
      | zero => exact ⟨x, r, rfl, c⟩
      | succ k =>
        rw [List.drop_succ_cons]
        exact before_sl r k (by omega)
end Go.Abs.K
