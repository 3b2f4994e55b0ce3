/- RATIO: texts are read back, and what is read is a text; RatioTexts. -/
import Derived.Test.YtjfndepkgahkiaaDoorP6
set_option linter.unusedVariables false
set_option linter.unusedSimpArgs false
namespace Go.Abs.K
open Go Go.Abs Go.Proofs

theorem dgs_all (u : Nat) : ∀ x, x ∈ dgs u → 48 ≤ x ∧ x ≤ 57 := by
  induction u using Nat.strongRecOn with
  | _ u ih =>
    intro x hx
    by_cases h : u < 10
    · rw [dgs_small h] at hx
      simp only [List.mem_singleton] at hx
      omega
    · rw [dgs_big h] at hx
      rcases List.mem_append.1 hx with hx | hx
      · exact ih (u / 10) (by omega) x hx
      · simp only [List.mem_singleton] at hx
        have := Nat.mod_lt u (show 10 > 0 by omega)
        omega
theorem dgs_short : ∀ (k u : Nat), u < 10 ^ (k + 1) → (dgs u).length ≤ k + 1
  | 0, u, h => by
    rw [dgs_small (by omega)]; simp
  | k + 1, u, h => by
    by_cases c : u < 10
    · rw [dgs_small c]; simp
    · rw [dgs_big c]
      have : u / 10 < 10 ^ (k + 1) := by
        rw [Nat.pow_succ] at h
        exact Nat.div_lt_of_lt_mul (by rw [Nat.mul_comm]; exact h)
      have := dgs_short k (u / 10) this
      simp only [List.length_append, List.length_cons, List.length_nil]
      omega
theorem dgs_len10 {u : Nat} (h : u ≤ 1073741824) : (dgs u).length ≤ 10 := dgs_short 9 u (by
  have : (10 : Nat) ^ (9 + 1) = 10000000000 := by decide
  omega)
theorem lead_all : ∀ (l : List Int), (∀ x, x ∈ l → 48 ≤ x ∧ x ≤ 57) → lead l = l.length
  | [], _ => rfl
  | x :: r, h => by
    rw [lead, if_pos (h x (.head _)), lead_all r fun y hy => h y (.tail _ hy)]
    rfl
theorem sl_app (t : List Int) : ∀ (l : List Int), (∀ x, x ∈ l → 48 ≤ x ∧ x ≤ 57) → sl (l ++ t) = l.length + sl t
  | [], _ => by simp
  | x :: r, h => by
    have := h x (.head _)
    rw [List.cons_append, sl, if_neg (by omega), sl_app t r fun y hy => h y (.tail _ hy), List.length_cons]
    omega
theorem val_app (t : List Int) : ∀ (l : List Int) (n : Int), val n (l ++ t) = val (val n l) t
  | [], n => rfl
  | x :: r, n => by rw [List.cons_append, val, val, val_app t r]
theorem val_dgs (u : Nat) (h : u ≤ 1073741824) : val 0 (dgs u) = u := by
  induction u using Nat.strongRecOn with
  | _ u ih =>
    by_cases c : u < 10
    · rw [dgs_small c, val, val, if_neg (by omega)]
      omega
    · have hm := Nat.mod_lt u (show 10 > 0 by omega)
      rw [dgs_big c, val_app, ih (u / 10) (by omega) (by omega), val, val]
      have e : 10 * ((u / 10 : Nat) : Int) + (48 + ((u % 10 : Nat) : Int) - 48) = (u : Int) := by omega
      rw [e, if_neg (by omega)]
theorem headD_app {l : List Int} (t : List Int) (h : 0 < l.length) : (l ++ t).headD 0 = l.headD 0 := by
  cases l with
  | nil => simp at h
  | cons x r => rfl
theorem dgs_head (u : Nat) (h : 0 < u) : (dgs u).headD 0 ≠ 48 := by
  induction u using Nat.strongRecOn with
  | _ u ih =>
    by_cases c : u < 10
    · rw [dgs_small c, List.headD_cons]
      omega
    · have := dgs_len (u / 10)
      rw [dgs_big c, headD_app _ (by omega)]
      exact ih (u / 10) (by omega) (by omega)
theorem dgs_okl (u : Nat) : okl (dgs u).length (dgs u) = true := by
  unfold okl
  apply decide_eq_true
  by_cases c : u < 10
  · rw [dgs_small c]
    exact .inl rfl
  · right
    have := dgs_len (u / 10)
    refine ⟨?_, dgs_head u (by omega)⟩
    rw [dgs_big c]
    simp only [List.length_append, List.length_cons, List.length_nil]
    omega
theorem num_dgs (u : Nat) (h : u ≤ 1073741824) : num? (dgs u) = some (u : Int) := by
  unfold num?
  rw [if_pos ⟨lead_all _ (dgs_all u), dgs_okl u⟩, val_dgs u h]
theorem pr2_one (mn : Bool) (u : Nat) (h : u ≤ 1073741824) (h0 : mn = true → u ≠ 0) : pr2 mn (dgs u) = (⟨sg mn u, 1⟩, 0) := by
  have e := sl_app [] (dgs u) (dgs_all u)
  rw [List.append_nil, show sl [] = 0 from rfl, Nat.add_zero] at e
  unfold pr2
  rw [e, List.take_length, num_dgs u h]
  dsimp only
  rw [if_neg (fun hh => h0 hh.1 (by omega))]
  unfold pr3 fin1
  rw [e, if_neg (by omega), if_neg (by omega)]
theorem pr2_two (mn : Bool) (u v : Nat) (h : u ≤ 1073741824) (h0 : mn = true → u ≠ 0) (hv : v ≤ 1073741824) (h2 : 2 ≤ v) (hg : Nat.gcd u v = 1) : pr2 mn (dgs u ++ 47 :: dgs v) = (⟨sg mn u, v⟩, 0) := by
  have e := sl_app (47 :: dgs v) (dgs u) (dgs_all u)
  rw [show sl (47 :: dgs v) = 0 from rfl, Nat.add_zero] at e
  unfold pr2
  rw [e, List.take_left, num_dgs u h]
  dsimp only
  rw [if_neg (fun hh => h0 hh.1 (by omega))]
  unfold pr3
  have hd : (dgs u ++ 47 :: dgs v).drop ((dgs u).length + 1) = dgs v := by
    rw [← List.drop_drop, List.drop_left]
    rfl
  rw [e, if_pos (by simp only [List.length_append, List.length_cons]; omega), hd, num_dgs v hv]
  dsimp only
  unfold fin2
  rw [if_neg (by omega), if_neg (by
    rw [Int.natAbs_natCast, Int.natAbs_natCast]
    omega)]
theorem head_dgs (u : Nat) (t : List Int) : (dgs u ++ t).headD 0 ≠ 45 := by
  have h1 := dgs_len u
  have h2 := dgs_all u
  cases hd : dgs u with
  | nil => rw [hd] at h1; simp at h1
  | cons x r =>
    rw [hd] at h2
    have := h2 x (.head _)
    rw [List.cons_append, List.headD_cons]
    omega
theorem prs_pos (u : Nat) (t : List Int) : prs (dgs u ++ t) = pr2 false (dgs u ++ t) := by
  unfold prs
  rw [if_neg (head_dgs u t)]
theorem prs_neg (l : List Int) : prs (45 :: l) = pr2 true l := rfl
theorem tx_bytes {r : Ratio} (h : VR r) : ofBytes (tx r) = ofBytes (itoaB r.Num) ++ (if r.Den = 1 then [] else 47 :: dgs r.Den.natAbs) := by
  have d0 := h.d0
  unfold tx
  rw [if_pos h]
  by_cases c : r.Den = 1
  · rw [if_pos c, if_pos c, List.append_nil]
  · rw [if_neg c, if_neg c, ofBytes_append, ofBytes_append, bs47, itoaB_pos (n := r.Den) (by omega)]
    rfl
theorem read_back {r : Ratio} (h : VR r) : prs (ofBytes (tx r)) = (r, 0) := by
  have d0 := h.d0
  have d1 := h.d1
  have n0 := h.n0
  have n1 := h.n1
  rw [tx_bytes h]
  by_cases c : r.Num < 0
  · rw [itoaB_neg c, List.cons_append, prs_neg]
    have es : sg true (r.Num.natAbs : Int) = r.Num := by unfold sg; rw [if_pos rfl]; omega
    by_cases c2 : r.Den = 1
    · rw [if_pos c2, List.append_nil, pr2_one true _ (by omega) (fun _ => by omega), es, ← c2]
    · rw [if_neg c2, pr2_two true _ _ (by omega) (fun _ => by omega) (by omega) (by omega) h.g, es]
      have : ((r.Den.natAbs : Nat) : Int) = r.Den := by omega
      rw [this]
  · rw [itoaB_pos c, prs_pos]
    have es : sg false (r.Num.natAbs : Int) = r.Num := by unfold sg; rw [if_neg (by decide)]; omega
    by_cases c2 : r.Den = 1
    · rw [if_pos c2, List.append_nil, pr2_one false _ (by omega) (fun hh => by cases hh), es, ← c2]
    · rw [if_neg c2, pr2_two false _ _ (by omega) (fun hh => by cases hh) (by omega) (by omega) h.g, es]
      have : ((r.Den.natAbs : Nat) : Int) = r.Den := by omega
      rw [this]
theorem tx_size {r : Ratio} (h : VR r) : (tx r).size ≤ 200 ∧ 0 < (tx r).size := by
  have d0 := h.d0
  have d1 := h.d1
  have n0 := h.n0
  have n1 := h.n1
  have l1 := dgs_len10 (u := r.Num.natAbs) (by omega)
  have l2 := dgs_len10 (u := r.Den.natAbs) (by omega)
  have l3 := dgs_len r.Num.natAbs
  have e : (ofBytes (itoaB r.Num)).length ≤ 11 ∧ 0 < (ofBytes (itoaB r.Num)).length := by
    by_cases c : r.Num < 0
    · rw [itoaB_neg c, List.length_cons]; omega
    · rw [itoaB_pos c]; omega
  rw [← ofBytes_length, tx_bytes h, List.length_append]
  split
  · simp only [List.length_nil]; omega
  · simp only [List.length_cons]; omega
/-! ### What is read is a text -/
theorem num_inv : ∀ (k : Nat) (l : List Int), l.length = k + 1 → (∀ x, x ∈ l → 48 ≤ x ∧ x ≤ 57) → okl l.length l = true → val 0 l ≤ 1073741824 → l = dgs (val 0 l).toNat
  | 0, l, hk, hd, ho, hv => by
    match l, hk with
    | [x], _ =>
      have hx := hd x (.head _)
      rw [val, val] at hv ⊢
      rw [if_neg (by omega)] at hv ⊢
      rw [dgs_small (by omega)]
      congr 1
      omega
  | k + 1, l, hk, hd, ho, hv => by
    have hne : l ≠ [] := fun h => by rw [h] at hk; simp at hk
    have hl := List.dropLast_concat_getLast hne
    generalize hx : l.getLast hne = x at *
    generalize hl' : l.dropLast = l' at *
    have hlen : l'.length = k + 1 := by rw [← hl', List.length_dropLast]; omega
    subst hl
    have hdx := hd x (by simp)
    have hd' : ∀ y, y ∈ l' → 48 ≤ y ∧ y ≤ 57 := fun y hy => hd y (by simp [hy])
    have hhead : l'.headD 0 ≠ 48 := by
      unfold okl at ho
      have := of_decide_eq_true ho
      rw [headD_app _ (by omega)] at this
      omega
    obtain ⟨r0, r1⟩ := val_range l' 0 hd' (by omega) (by omega)
    rw [val_app, val, val] at hv ⊢
    have hns : ¬ 1073741825 < 10 * val 0 l' + (x - 48) := fun hc => by rw [if_pos hc] at hv; omega
    rw [if_neg hns] at hv ⊢
    have ho' : okl l'.length l' = true := by
      unfold okl
      apply decide_eq_true
      omega
    have ih := num_inv k l' hlen hd' ho' (by omega)
    have hpos : 0 < val 0 l' := by
      rcases Int.lt_or_eq_of_le r0 with h | h
      · exact h
      · exfalso
        rw [← h, show (0 : Int).toNat = 0 from rfl, dgs_small (by omega)] at ih
        rw [ih] at hhead
        exact hhead rfl
    generalize val 0 l' = v at *
    rw [dgs_big (show ¬ (10 * v + (x - 48)).toNat < 10 by omega)]
    have e1 : (10 * v + (x - 48)).toNat / 10 = v.toNat := by omega
    have e2 : ((((10 * v + (x - 48)).toNat % 10 : Nat)) : Int) = x - 48 := by omega
    rw [e1, e2, ← ih]
    congr 2
    omega
theorem num_some {l : List Int} {n : Int} (h : num? l = some n) (hn : n ≤ 1073741824) : l = dgs n.toNat ∧ 0 ≤ n := by
  have hr := num_range h
  unfold num? at h
  split at h
  · rename_i hc
    injection h with h
    have hd : ∀ x, x ∈ l → 48 ≤ x ∧ x ≤ 57 := by
      have := lead_digits l
      rw [hc.1, List.take_length] at this
      exact this
    have hne : 0 < l.length := by
      rcases Nat.eq_zero_or_pos l.length with h0 | h0
      · have := hc.2
        unfold okl at this
        have := of_decide_eq_true this
        omega
      · exact h0
    obtain ⟨k, hk⟩ : ∃ k, l.length = k + 1 := ⟨l.length - 1, by omega⟩
    have := num_inv k l hk hd hc.2 (by omega)
    rw [h] at this
    exact ⟨this, hr.1⟩
  · cases h
theorem itoa_sg (mn : Bool) (n : Int) (h0 : 0 ≤ n) (hm : mn = true → n ≠ 0) : ofBytes (itoaB (sg mn n)) = (if mn = true then [45] else []) ++ dgs n.toNat := by
  cases mn with
  | true =>
    have := hm rfl
    unfold sg
    rw [if_pos rfl, if_pos rfl, itoaB_neg (by omega), show (-n).natAbs = n.toNat by omega]
    rfl
  | false =>
    unfold sg
    rw [if_neg (by decide), if_neg (by decide), itoaB_pos (by omega), show n.natAbs = n.toNat by omega]
    rfl
theorem pr2_ok {mn : Bool} {l : List Int} {a : Ratio} (h : pr2 mn l = (a, 0)) : VR a ∧ ofBytes (tx a) = (if mn = true then [45] else []) ++ l := by
  unfold pr2 at h
  split at h
  · injection h with _ h; cases h
  · rename_i n hn
    split at h
    · injection h with _ h; cases h
    · rename_i hm
      have hm' : mn = true → n ≠ 0 := fun h1 h2 => hm ⟨h1, h2⟩
      unfold pr3 at h
      split at h
      · rename_i hs
        split at h
        · injection h with _ h; cases h
        · rename_i b hb
          unfold fin2 at h
          split at h
          · injection h with _ h; cases h
          · rename_i c1
            split at h
            · injection h with _ h; cases h
            · rename_i c2
              injection h with h _
              subst h
              obtain ⟨e1, n0⟩ := num_some hn (by omega)
              obtain ⟨e2, b0⟩ := num_some hb (by omega)
              have hsa : (sg mn n).natAbs = n.natAbs := by unfold sg; split <;> omega
              have hv : VR ⟨sg mn n, b⟩ := ⟨by dsimp only; omega, by dsimp only; omega, by dsimp only; omega, by dsimp only; omega, by
                dsimp only
                rw [hsa]
                omega⟩
              refine ⟨hv, ?_⟩
              rw [tx_bytes hv]
              dsimp only
              rw [if_neg (by omega), itoa_sg mn n n0 hm', List.append_assoc]
              congr 1
              have hl : l = l.take (sl l) ++ l.drop (sl l) := (List.take_append_drop _ _).symm
              rw [at_sl l hs, e1, e2] at hl
              rw [hl, show b.natAbs = b.toNat by omega]
      · rename_i hs
        have hsl := sl_le l
        unfold fin1 at h
        split at h
        · injection h with _ h; cases h
        · rename_i c1
          injection h with h _
          subst h
          obtain ⟨e1, n0⟩ := num_some hn (by omega)
          rw [List.take_of_length_le (by omega)] at e1
          have hsa : (sg mn n).natAbs = n.natAbs := by unfold sg; split <;> omega
          have hv : VR ⟨sg mn n, 1⟩ := ⟨by dsimp only; omega, by dsimp only; omega, by dsimp only; omega, by dsimp only; omega, by
            dsimp only
            rw [hsa]
            exact Nat.gcd_one_right _⟩
          refine ⟨hv, ?_⟩
          rw [tx_bytes hv]
          dsimp only
          rw [if_pos rfl, itoa_sg mn n n0 hm', List.append_nil, ← e1]
theorem prs_ok {l : List Int} {a : Ratio} (h : prs l = (a, 0)) : VR a ∧ ofBytes (tx a) = l := by
  unfold prs at h
  split at h
  · rename_i hc
    obtain ⟨h1, h2⟩ := pr2_ok h
    refine ⟨h1, ?_⟩
    rw [h2, if_pos rfl]
    cases l with
    | nil => simp at hc
    | cons x r =>
      rw [List.headD_cons] at hc
      subst hc
      rfl
  · obtain ⟨h1, h2⟩ := pr2_ok h
    exact ⟨h1, by rw [h2, if_neg (by decide)]; rfl⟩
theorem RatioTexts_true (r : Ratio) (s : ByteArray) (q0 : wf_Ratio r) (q1 : s.size ≤ 140737488351232) : ∃ M, law01_RatioTexts M r s = some true := by
  refine ⟨9223372036854775901, ?_⟩
  have haw := awake_true _ big0
  have htail : ∀ (hs : s.size ≤ 200), ((ratio_Parse 9223372036854775901 s).bind fun r4 => bif r4.snd != 0 then ((law01_awake 9223372036854775901).bind fun r5 => some r5) else (ratio_Valid 9223372036854775901 r4.fst).bind fun r6 => bif r6 then ((ratio_Text 9223372036854775901 r4.fst).bind fun r7 => bif r7.toList == s.toList then ((law01_awake 9223372036854775901).bind fun r8 => some r8) else some false) else some false) = some true := fun hs => by
    rw [parse_is _ big0 s hs, Option.bind_some, haw, bne_if]
    by_cases c : (prs (ofBytes s)).2 = 0
    · rw [if_pos c]
      have hp : prs (ofBytes s) = ((prs (ofBytes s)).1, 0) := by rw [← c]
      obtain ⟨h1, h2⟩ := prs_ok hp
      rw [valid_is _ big0, decide_eq_true h1, text_is _ big0]
      simp only [Option.bind_some, Bool.cond_true]
      rw [str_beq, h2, decide_eq_true rfl]
      rfl
    · rw [if_neg c]
      rfl
  unfold law01_RatioTexts b_law01_RatioTexts
  by_cases c : (s.size : Int) > 200
  · rw [bif_pos c, haw]; rfl
  · have ht := htail (by omega)
    rw [bif_neg c, text_is _ big0, Option.bind_some, valid_is _ big0, Option.bind_some, empty_iff]
    by_cases h : VR r
    · obtain ⟨z1, z2⟩ := tx_size h
      have hne : ofBytes (tx r) ≠ [] := fun hh => by
        rw [← ofBytes_length, hh] at z2
        simp at z2
      rw [decide_eq_true h, decide_eq_false hne]
      simp only [Bool.not_false, beq_self_eq_true, Bool.not_true, Bool.cond_false, Bool.cond_true]
      rw [parse_is _ big0 (tx r) z1, Option.bind_some, read_back h]
      simp only [bne_self_eq_false, Bool.cond_false, beq_self_eq_true, Bool.and_true, Bool.not_true]
      exact ht
    · have he : ofBytes (tx r) = [] := by unfold tx; rw [if_neg h]; rfl
      rw [decide_eq_false h, decide_eq_true he]
      simp only [Bool.not_true, beq_self_eq_true, Bool.cond_false]
      exact ht
end Go.Abs.K
