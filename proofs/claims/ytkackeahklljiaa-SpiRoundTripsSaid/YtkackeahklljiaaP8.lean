/- SPI: Encode and Expect, the program's and the document's. -/
import Derived.Test.YtkackeahklljiaaP7
set_option linter.unusedVariables false
set_option linter.unusedSimpArgs false
namespace Go.Abs.K
open Go Go.Abs Go.Proofs

noncomputable def chkA (M : Nat) (c : Spi) (x : Item) : Int := (spi_checkItem M c x).getD 0
noncomputable def errA (M : Nat) (c : Spi) : List Item → Int
  | [] => 0
  | x :: l => if chkA M c x = 0 then errA M c l else chkA M c x
theorem err_ok1 {M : Nat} {c : Spi} {x : Item} (l : List Item) (h : chkA M c x = 0) : errA M c (x :: l) = errA M c l := by
  show (if chkA M c x = 0 then errA M c l else chkA M c x) = _
  rw [if_pos h]
theorem err_bad1 {M : Nat} {c : Spi} {x : Item} (l : List Item) (h : chkA M c x ≠ 0) : errA M c (x :: l) = chkA M c x := by
  show (if chkA M c x = 0 then errA M c l else chkA M c x) = _
  rw [if_neg h]
theorem chk_is (M : Nat) (hM : 65536 < M) (c : Spi) (hc : OkC c) (x : Item) : spi_checkItem M c x = some (chkA M c x) ∧ ref24_item M c x = some (chkA M c x) ∧ (chkA M c x = 0 → ItemOk c x) := by
  obtain ⟨v, h1, h2, h3⟩ := item_check M hM c hc x
  have : chkA M c x = v := by unfold chkA; rw [h1]; rfl
  rw [this]; exact ⟨h1, h2, h3⟩
theorem err_ok (M : Nat) (hM : 65536 < M) (c : Spi) (hc : OkC c) : ∀ (l : List Item), errA M c l = 0 → ∀ x, x ∈ l → ItemOk c x
  | [], _, x, hx => by cases hx
  | y :: l, h, x, hx => by
    by_cases hz : chkA M c y = 0
    · rw [err_ok1 l hz] at h
      rcases List.mem_cons.1 hx with rfl | hx
      · exact (chk_is M hM c hc x).2.2 hz
      · exact err_ok M hM c hc l h x hx
    · rw [err_bad1 l hz] at h; exact absurd h hz
def finA (L : List Run) : List Run × Int := if (L.length : Int) > 262144 then ([], 6) else if total L > 1099511627776 then ([], 2) else (L, 0)
def allP (c : Spi) (l : List Item) : List (Int × Int) := l.flatMap (itemP c)
theorem allP_cons (c : Spi) (x : Item) (l : List Item) : allP c (x :: l) = itemP c x ++ allP c l := by simp [allP]
def closeA (c : Spi) (L : List Run) : List Run := putA L (4 + idl c) (2 * c.T)
theorem fin_rel (P L : List Run) (hR : Rel P L) : (if (P.length : Int) > 262144 then some (([] : List Run), (6 : Int)) else if total L > 1099511627776 then some ([], 2) else some (P, 0)) = some (finA L) := by
  unfold finA
  rcases hR with ⟨h1, h2⟩ | ⟨h1, h2, h3⟩
  · subst h1
    repeat' split
    all_goals rfl
  · rw [if_pos (by omega), if_pos (by omega)]
theorem enc_s1 (M : Nat) (hM : 100000 < M) (c : Spi) (hc : OkC c) (l : List Item) (hl : l.length ≤ 1024) (hok : ∀ x, x ∈ l → ItemOk c x) : ∀ (r : List Item) (i m : Nat) (P L : List Run), l.drop i = r → r.length < m → Rel P L → Fine L → total L + 70000000000 * r.length ≤ 90000000000000 →
    spi_Encode_l15s1 M m (l.length : Int) (i : Int) c (total L) P l = some (finA (closeA c (puts L (allP c r))))
  | r, i, 0, P, L, _, hm, _, _, _ => by omega
  | [], i, m + 1, P, L, hr, hm, hR, hf, hb => by
    have := drop_nil hr
    have ht := (fine_total hf).1
    have hi := idl_b c hc
    have hc' := hc
    unfold OkC at hc'
    obtain ⟨o1, o2⟩ := or_idl c hc
    rw [o2] at o1
    simp only [List.length_nil] at hb
    obtain ⟨P', e1, e2⟩ := send_is M P L hR hf (total L) (4 + idl c) (2 * c.T) (by omega) (by omega) (by omega)
    have ht1 := put_total L (4 + idl c) (2 * c.T)
    simp only [spi_Encode_l15s1, b_spi_Encode_l15s1, o1, o2]
    rw [bif_neg (by omega), i64_ok (n := 2 * c.T) (by omega), e1, Option.bind_some, bif_if, bif_if, ← ht1]
    exact fin_rel P' _ e2
  | x :: r, i, m + 1, P, L, hr, hm, hR, hf, hb => by
    obtain ⟨h1, h2, h3, h4, h5⟩ := drop_cons hr dflt_Item
    have hx := hok x h5
    obtain ⟨f1, f2, f3⟩ := item_fine c hc x hx
    have ht := (fine_total hf).1
    simp only [List.length_cons] at hm hb
    obtain ⟨P', e1, e2⟩ := item_is M hM c hc x hx P L hR hf (by omega)
    have t1 := puts_total (itemP c x) L
    have t2 := puts_fine (itemP c x) L hf f1
    simp only [spi_Encode_l15s1, b_spi_Encode_l15s1, h1]
    rw [bif_pos (by omega), bif_pos (by omega), bif_pos (by omega), e1, Option.bind_some, next_i i (by omega), enc_s1 M hM c hc l hl hok r (i + 1) m P' _ h3 (by omega) e2 t2 (by omega), allP_cons, puts_append]
theorem rel_nil : Rel [] [] := .inl ⟨rfl, by simp⟩
theorem fine_nil : Fine [] := fun r hr => by cases hr
def runsA (c : Spi) (l : List Item) : List Run := closeA c (puts [] (allP c l))
theorem enc_l15 (M : Nat) (hM : 100000 < M) (c : Spi) (hc : OkC c) (l : List Item) (hl : l.length ≤ 1024) (hok : ∀ x, x ∈ l → ItemOk c x) (m : Nat) (hm : 2000 < m) : spi_Encode_l15 M m (l.length : Int) 0 c 0 l = some (finA (runsA c l)) := by
  obtain ⟨m, rfl⟩ : ∃ n, m = n + 1 := ⟨m - 1, by omega⟩
  have hi := idl_b c hc
  have hc' := hc
  unfold OkC at hc'
  obtain ⟨o1, o2⟩ := or_idl c hc
  rw [o2] at o1
  cases l with
  | nil =>
    simp only [spi_Encode_l15, b_spi_Encode_l15, o1, o2, List.length_nil]
    rw [bif_neg (by omega), i64_ok (n := 2 * c.T) (by omega), Int.zero_add, i64_ok (n := 2 * c.T) (by omega), bif_neg (by omega)]
    have e : runsA c [] = [⟨4 + idl c, 2 * c.T⟩] := by
      show putA [] _ _ = _
      rw [put_nil, if_neg (by omega)]
    rw [e]
    unfold finA
    rw [total_one, if_neg (by simp), if_neg (by dsimp only; omega)]
    rfl
  | cons x r =>
    have hx := hok x List.mem_cons_self
    obtain ⟨f1, f2, f3⟩ := item_fine c hc x hx
    obtain ⟨P', e1, e2⟩ := item_is M hM c hc x hx [] [] rel_nil fine_nil (by rw [total_nil]; omega)
    have t1 := puts_total (itemP c x) []
    have t2 := puts_fine (itemP c x) [] fine_nil f1
    rw [total_nil] at e1 t1
    simp only [List.length_cons] at hl
    have key := enc_s1 M hM c hc (x :: r) (by simp only [List.length_cons]; omega) hok r 1 m P' _ rfl (by omega) e2 t2 (by omega)
    simp only [spi_Encode_l15, b_spi_Encode_l15]
    rw [bif_pos (by simp only [List.length_cons]; omega), bif_pos (by omega), bif_pos (by simp only [List.length_cons]; omega)]
    have hg : (x :: r).getD (0 : Int).toNat dflt_Item = x := rfl
    rw [hg, e1, Option.bind_some, show IntKind.i64.wrap (0 + 1) = ((1 : Nat) : Int) from rfl]
    refine key.trans ?_
    unfold runsA
    rw [allP_cons, puts_append]
noncomputable def encA (M : Nat) (c : Spi) (l : List Item) : List Run × Int :=
  if OkC c then (if (l.length : Int) > 1024 then ([], 6) else if errA M c l = 0 then finA (runsA c l) else ([], errA M c l)) else ([], 2)
theorem enc_l7 (M : Nat) (hM : 100000 < M) (c : Spi) (hc : OkC c) (l : List Item) (hl : l.length ≤ 1024) : ∀ (r : List Item) (i m : Nat), l.drop i = r → r.length < m → (errA M c r = 0 → errA M c l = 0) →
    spi_Encode_l7 M m (l.length : Int) (i : Int) l c = some (if errA M c r = 0 then finA (runsA c l) else ([], errA M c r))
  | r, i, 0, _, hm, _ => by omega
  | [], i, m + 1, hr, hm, he => by
    have := drop_nil hr
    simp only [spi_Encode_l7, b_spi_Encode_l7, errA, if_true]
    rw [bif_neg (by omega)]
    exact enc_l15 M hM c hc l hl (err_ok M (by omega) c hc l (he rfl)) M (by omega)
  | x :: r, i, m + 1, hr, hm, he => by
    obtain ⟨h1, h2, h3, h4, h5⟩ := drop_cons hr dflt_Item
    obtain ⟨k1, k2, k3⟩ := chk_is M (by omega) c hc x
    simp only [List.length_cons] at hm
    simp only [spi_Encode_l7, b_spi_Encode_l7, h1, k1, Option.bind_some]
    rw [bif_pos (by omega), bif_pos (by omega), bif_pos (by omega), next_i i (by omega), bne_if]
    by_cases hz : chkA M c x = 0
    · simp only [err_ok1 r hz]
      rw [if_pos hz]
      exact enc_l7 M hM c hc l hl r (i + 1) m h3 (by omega) (fun h => he (by rw [err_ok1 r hz]; exact h))
    · simp only [err_bad1 r hz]
      rw [if_neg hz, if_neg hz]
theorem encode_is (M : Nat) (hM : 100000 < M) (c : Spi) (l : List Item) : spi_Encode M c l = some (encA M c l) := by
  simp only [spi_Encode, b_spi_Encode, (check_is M c).1, Option.bind_some, bne_if, bif_if, encA]
  by_cases hc : OkC c
  · rw [if_pos hc, if_pos hc, if_pos rfl]
    by_cases hl : (l.length : Int) > 1024
    · rw [if_pos hl, if_pos hl]
    · rw [if_neg hl, if_neg hl]
      exact enc_l7 M hM c hc l (by omega) l 0 M rfl (by omega) (fun h => h)
  · rw [if_neg hc, if_neg hc, if_neg (by omega)]

/-! ### The document's -/
theorem ref_l25 (M : Nat) (L : List Run) (hf : Fine L) (hl : L.length ≤ 262144) : ∀ (r : List Run) (i m : Nat), L.drop i = r → r.length < m → total (L.take i) ≤ 1099511627776 →
    ref24_Encode_l25 M m (1099511627776 - total (L.take i)) (i : Int) L = some (if total L > 1099511627776 then ([], 2) else (L, 0))
  | r, i, 0, _, hm, _ => by omega
  | [], i, m + 1, hr, hm, hb => by
    have := drop_nil hr
    rw [List.take_of_length_le this] at hb
    simp only [ref24_Encode_l25, b_ref24_Encode_l25]
    rw [bif_neg (by omega), if_neg (by omega)]
  | x :: r, i, m + 1, hr, hm, hb => by
    obtain ⟨h1, h2, h3, h4, h5⟩ := drop_cons hr dflt_Run
    have hx := hf x h5
    have ht0 := fine_take hf i
    have ht1 := fine_take hf (i + 1)
    have he := total_drop hr
    simp only [List.length_cons] at hm
    simp only [ref24_Encode_l25, b_ref24_Encode_l25, h1]
    rw [bif_pos (by omega), bif_pos (by omega), bif_pos (by omega), bif_if]
    by_cases h : x.Ticks > 1099511627776 - total (L.take i)
    · rw [if_pos h, if_pos (by omega)]
    · rw [if_neg h, bif_pos (by omega), bif_pos (by omega), i64_ok (n := 1099511627776 - total (L.take i) - x.Ticks) (by omega), next_i i (by omega), show 1099511627776 - total (L.take i) - x.Ticks = 1099511627776 - total (L.take (i + 1)) by omega]
      exact ref_l25 M L hf hl r (i + 1) m h3 (by omega) (by omega)
theorem allP_len (c : Spi) (hc : OkC c) : ∀ l : List Item, (∀ x, x ∈ l → ItemOk c x) → ((allP c l).length : Int) ≤ 65600 * (l.length : Int)
  | [], _ => by simp [allP]
  | x :: l, h => by
    have h1 := (item_fine c hc x (h x List.mem_cons_self)).2.2
    have h2 := allP_len c hc l fun y hy => h y (List.mem_cons_of_mem _ hy)
    rw [allP_cons, List.length_append, List.length_cons]
    omega
structure Few (n : Int) : Prop where
  le : n ≤ 70000000
theorem nat_b (a : Nat) (h : (a : Int) ≤ 70000000) : a + 200000 ≤ 1000000000 := by omega
theorem nat_c (a : Nat) (h : (a : Int) ≤ 70000000) : a ≤ 1000000000 := by omega
theorem ref_l14 (M : Nat) (hM : 1000000 < M) (c : Spi) (hc : OkC c) (l : List Item) (hl : l.length ≤ 1024) (hok : ∀ x, x ∈ l → ItemOk c x) : ∀ (r : List Item) (i m : Nat) (L : List Run), l.drop i = r → r.length < m → Fine L → total L + 70000000000 * r.length ≤ 90000000000000 → Few ((L.length : Int) + ((allP c r).length : Int)) →
    ref24_Encode_l14 M m (i : Int) l c L = some (finA (closeA c (puts L (allP c r))))
  | r, i, 0, L, _, hm, _, _, _ => by omega
  | [], i, m + 1, L, hr, hm, hf, hb, hn => by
    have := drop_nil hr
    have ht := (fine_total hf).1
    have hi := idl_b c hc
    have hc' := hc
    unfold OkC at hc'
    simp only [List.length_nil] at hb
    have hn0 : (allP c []).length = 0 := rfl
    have hn := hn.le
    rw [hn0] at hn
    have e1 := ref_put_is M L (4 + idl c) (2 * c.T) (nat_c _ (by omega)) hf (by omega) (by omega)
    have hp := put_fine hf (4 + idl c) (2 * c.T) (by omega) (by omega)
    have hfin : (if ((closeA c L).length : Int) > 262144 then some (([] : List Run), (6 : Int)) else ref24_Encode_l25 M M 1099511627776 0 (closeA c L)) = some (finA (closeA c L)) := by
      unfold finA
      by_cases h : ((closeA c L).length : Int) > 262144
      · rw [if_pos h, if_pos h]
      · rw [if_neg h, if_neg h]
        have h25 := ref_l25 M (closeA c L) hp (by omega) (closeA c L) 0 M rfl (by omega) (by simp [total])
        have hz : total (List.take 0 (closeA c L)) = 0 := rfl
        rw [hz, Int.sub_zero] at h25
        exact h25
    have e0 : puts L (allP c []) = L := rfl
    rw [e0, ← hfin]
    simp only [ref24_Encode_l14, b_ref24_Encode_l14, bif_if]
    rw [if_neg (by omega), i64_ok (n := 2 * c.T) (by omega)]
    by_cases hm2 : c.Mode ≥ 2
    · have h1 : idl c = 1 := by unfold idl; omega
      rw [h1] at e1
      rw [if_pos hm2]
      simp only [show (4 : Int) + 1 = 5 from rfl] at e1
      rw [e1, Option.bind_some]
      unfold closeA
      rw [h1]
      rfl
    · have h1 : idl c = 0 := by unfold idl; omega
      rw [h1] at e1
      rw [if_neg hm2]
      simp only [show (4 : Int) + 0 = 4 from rfl] at e1
      rw [e1, Option.bind_some]
      unfold closeA
      rw [h1]
      rfl
  | x :: r, i, m + 1, L, hr, hm, hf, hb, hn => by
    obtain ⟨h1, h2, h3, h4, h5⟩ := drop_cons hr dflt_Item
    have hx := hok x h5
    obtain ⟨f1, f2, f3⟩ := item_fine c hc x hx
    have ht := (fine_total hf).1
    simp only [List.length_cons] at hm hb
    have hn := hn.le
    rw [allP_cons, List.length_append] at hn
    have t1 := puts_total (itemP c x) L
    have t2 := puts_fine (itemP c x) L hf f1
    have t3 := puts_len (itemP c x) L
    simp only [ref24_Encode_l14, b_ref24_Encode_l14, h1]
    rw [bif_pos (by omega), bif_pos (by omega), bif_pos (by omega), ref_item_is M (by omega) c hc x hx L hf (nat_b _ (by omega)) (by omega), Option.bind_some, next_i i (by omega), ref_l14 M hM c hc l hl hok r (i + 1) m _ h3 (by omega) t2 (by omega) ⟨by omega⟩, allP_cons, puts_append]
theorem ref_l7 (M : Nat) (hM : 1000000 < M) (c : Spi) (hc : OkC c) (l : List Item) (hl : l.length ≤ 1024) : ∀ (r : List Item) (i m : Nat), l.drop i = r → r.length < m → (errA M c r = 0 → errA M c l = 0) →
    ref24_Encode_l7 M m (i : Int) l c = some (if errA M c r = 0 then finA (runsA c l) else ([], errA M c r))
  | r, i, 0, _, hm, _ => by omega
  | [], i, m + 1, hr, hm, he => by
    have := drop_nil hr
    simp only [ref24_Encode_l7, b_ref24_Encode_l7, errA, if_true]
    rw [bif_neg (by omega)]
    have hal := allP_len c hc l (err_ok M (by omega) c hc l (he rfl))
    exact ref_l14 M hM c hc l hl (err_ok M (by omega) c hc l (he rfl)) l 0 M [] rfl (by omega) fine_nil (by rw [total_nil]; omega) ⟨by rw [List.length_nil]; omega⟩
  | x :: r, i, m + 1, hr, hm, he => by
    obtain ⟨h1, h2, h3, h4, h5⟩ := drop_cons hr dflt_Item
    obtain ⟨k1, k2, k3⟩ := chk_is M (by omega) c hc x
    simp only [List.length_cons] at hm
    simp only [ref24_Encode_l7, b_ref24_Encode_l7, h1, k2, Option.bind_some]
    rw [bif_pos (by omega), bif_pos (by omega), bif_pos (by omega), next_i i (by omega), bne_if]
    by_cases hz : chkA M c x = 0
    · simp only [err_ok1 r hz]
      rw [if_pos hz]
      exact ref_l7 M hM c hc l hl r (i + 1) m h3 (by omega) (fun h => he (by rw [err_ok1 r hz]; exact h))
    · simp only [err_bad1 r hz]
      rw [if_neg hz, if_neg hz]
theorem ref_encode_is (M : Nat) (hM : 1000000 < M) (c : Spi) (l : List Item) : ref24_Encode M c l = some (encA M c l) := by
  simp only [ref24_Encode, b_ref24_Encode, (check_is M c).2, Option.bind_some, bne_if, bif_if, encA]
  by_cases hc : OkC c
  · rw [if_pos hc, if_pos hc, if_pos rfl]
    by_cases hl : (l.length : Int) > 1024
    · rw [if_pos hl, if_pos hl]
    · rw [if_neg hl, if_neg hl]
      exact ref_l7 M hM c hc l (by omega) l 0 M rfl (by omega) (fun h => h)
  · rw [if_neg hc, if_neg hc, if_neg (by omega)]
theorem allP_fine (c : Spi) (hc : OkC c) : ∀ l : List Item, (∀ x, x ∈ l → ItemOk c x) → FineP (allP c l)
  | [], _ => fun p hp => by cases hp
  | x :: l, h => by
    rw [allP_cons, fineP_append]
    exact ⟨(item_fine c hc x (h x List.mem_cons_self)).1, allP_fine c hc l fun y hy => h y (List.mem_cons_of_mem _ hy)⟩
/-- What is known of runs without an error. -/
theorem enc_ok (M : Nat) (hM : 65536 < M) (c : Spi) (l : List Item) (h0 : (encA M c l).2 = 0) : OkC c ∧ (encA M c l).1 = runsA c l ∧ Fine (runsA c l) ∧ (runsA c l).length ≤ 262144 ∧ total (runsA c l) ≤ 1099511627776 ∧ l.length ≤ 1024 ∧ (∀ x, x ∈ l → ItemOk c x) := by
  unfold encA at h0 ⊢
  by_cases hc : OkC c
  · rw [if_pos hc] at h0 ⊢
    by_cases hl : (l.length : Int) > 1024
    · rw [if_pos hl] at h0; exact absurd h0 (by decide)
    · rw [if_neg hl] at h0 ⊢
      by_cases he : errA M c l = 0
      · rw [if_pos he] at h0 ⊢
        have hok := err_ok M hM c hc l he
        have hi := idl_b c hc
        have hc' := hc
        unfold OkC at hc'
        have hf : Fine (runsA c l) := put_fine (puts_fine _ _ fine_nil (allP_fine c hc l hok)) _ _ (by omega) (by omega)
        unfold finA at h0 ⊢
        by_cases h1 : ((runsA c l).length : Int) > 262144
        · rw [if_pos h1] at h0; exact absurd h0 (by decide)
        · rw [if_neg h1] at h0 ⊢
          by_cases h2 : total (runsA c l) > 1099511627776
          · rw [if_pos h2] at h0; exact absurd h0 (by decide)
          · rw [if_neg h2]
            exact ⟨hc, rfl, hf, by omega, by omega, by omega, hok⟩
      · rw [if_neg he] at h0; exact absurd h0 he
  · rw [if_neg hc] at h0; exact absurd h0 (by decide)
theorem enc_bad (M : Nat) (c : Spi) (l : List Item) (h0 : (encA M c l).2 ≠ 0) : (encA M c l).1 = [] := by
  unfold encA finA at h0 ⊢
  repeat' split
  all_goals first | rfl | (exfalso; simp_all)

/-! ### Levels as events -/
def evs (t : Int) : List Run → List Event
  | [] => []
  | r :: l => Event.mk 1 t (t + r.Ticks) r.Level 0 (bs []) 0 :: evs (t + r.Ticks) l
theorem evs_len : ∀ (l : List Run) (t : Int), (evs t l).length = l.length
  | [], t => rfl
  | r :: l, t => by simp [evs, evs_len l]
theorem expect_l7 (M : Nat) (c : Spi) (l : List Run) (hf : Fine l) (hl : l.length ≤ 262144) (hM : 1000000 < M) (ht : total l ≤ 1099511627776) : ∀ (r : List Run) (i m : Nat) (acc : List Event), l.drop i = r → r.length < m → acc.length + r.length ≤ 262144 →
    spi_Expect_l7 M m (total (l.take i)) (l.length : Int) (i : Int) c acc l = some (decA c (acc ++ evs (total (l.take i)) r), 0)
  | r, i, 0, acc, _, hm, _ => by omega
  | [], i, m + 1, acc, hr, hm, ha => by
    have := drop_nil hr
    simp only [List.length_nil] at ha
    simp only [spi_Expect_l7, b_spi_Expect_l7]
    rw [bif_neg (by omega), decode_is M c acc (by omega) (by omega)]
    simp [evs]
  | x :: r, i, m + 1, acc, hr, hm, ha => by
    obtain ⟨h1, h2, h3, h4, h5⟩ := drop_cons hr dflt_Run
    have hx := hf x h5
    have ht0 := fine_take hf i
    have ht1 := fine_take hf (i + 1)
    have he := total_drop hr
    simp only [List.length_cons] at hm ha
    simp only [spi_Expect_l7, b_spi_Expect_l7, h1]
    rw [bif_pos (by omega), bif_pos (by omega), bif_pos (by omega), bif_pos (by omega), next_i i (by omega), ← he, i64_ok (by omega), expect_l7 M c l hf hl hM ht r (i + 1) m _ h3 (by omega) (by simp; omega)]
    simp [evs, he]
theorem events_l4 {M : Nat} (l : List Run) (hf : Fine l) (hl : l.length ≤ 262144) (ht : total l ≤ 1099511627776) : ∀ (r : List Run) (i m : Nat) (acc : List Event), l.drop i = r → r.length < m → acc.length + r.length ≤ 262144 →
    ref24_Events_l4 M m (total (l.take i)) (i : Int) l acc = some (acc ++ evs (total (l.take i)) r)
  | r, i, 0, acc, _, hm, _ => by omega
  | [], i, m + 1, acc, hr, hm, ha => by
    have := drop_nil hr
    simp only [ref24_Events_l4, b_ref24_Events_l4]
    rw [bif_neg (by omega)]
    simp [evs]
  | x :: r, i, m + 1, acc, hr, hm, ha => by
    obtain ⟨h1, h2, h3, h4, h5⟩ := drop_cons hr dflt_Run
    have hx := hf x h5
    have ht0 := fine_take hf i
    have ht1 := fine_take hf (i + 1)
    have he := total_drop hr
    simp only [List.length_cons] at hm ha
    simp only [ref24_Events_l4, b_ref24_Events_l4, h1]
    simp only [bif_pos (show (0 : Int) ≤ (i : Int) by omega), bif_pos (show (i : Int) < (l.length : Int) by omega), bif_pos (show (acc.length + 1) * 64 ≤ 140737488355328 by omega)]
    rw [next_i i (by omega), ← he, i64_ok (by omega), events_l4 l hf hl ht r (i + 1) m _ h3 (by omega) (by simp; omega)]
    simp [evs, he]
noncomputable def expA (M : Nat) (c : Spi) (l : List Item) : List Event × Int := if (encA M c l).2 = 0 then (decA c (evs 0 (encA M c l).1), 0) else ([], (encA M c l).2)
theorem expect_is (M : Nat) (hM : 1000000 < M) (c : Spi) (l : List Item) : spi_Expect M c l = some (expA M c l) := by
  simp only [spi_Expect, b_spi_Expect, encode_is M (by omega) c l, Option.bind_some, bne_if, expA]
  by_cases h0 : (encA M c l).2 = 0
  · obtain ⟨e1, e3, e4, e5, e6, e7, e8⟩ := enc_ok M (by omega) c l h0
    rw [if_pos h0, if_pos h0, e3]
    have := expect_l7 M c (runsA c l) e4 e5 hM e6 (runsA c l) 0 M [] rfl (by omega) (by simpa using e5)
    simpa [total] using this
  · rw [if_neg h0, if_neg h0]
theorem events_is (M : Nat) (hM : 1000000 < M) (l : List Run) (hf : Fine l) (hl : l.length ≤ 262144) (ht : total l ≤ 1099511627776) : ref24_Events M l = some (evs 0 l) := by
  simp only [ref24_Events, b_ref24_Events]
  have := events_l4 (M := M) l hf hl ht l 0 M [] rfl (by omega) (by simpa using hl)
  simpa [total] using this
theorem ref_expect_is (M : Nat) (hM : 1000000 < M) (c : Spi) (l : List Item) : ref24_Expect M c l = some (expA M c l) := by
  simp only [ref24_Expect, b_ref24_Expect, ref_encode_is M hM c l, Option.bind_some, bne_if, expA]
  by_cases h0 : (encA M c l).2 = 0
  · obtain ⟨e1, e3, e4, e5, e6, e7, e8⟩ := enc_ok M (by omega) c l h0
    rw [if_pos h0, if_pos h0, e3, events_is M hM _ e4 e5 e6, Option.bind_some, ref_decode_is M c _ (by rw [evs_len]; omega) (by omega)]
    rfl
  · rw [if_neg h0, if_neg h0]
theorem few_l5 (M : Nat) (l : List Item) (hl : l.length ≤ 1100) : ∀ (r : List Item) (i m : Nat) (k : Int), l.drop i = r → r.length < m → 0 ≤ k → k ≤ 20000 → (∀ x, x ∈ r → x.Data.size ≤ 140737488355328) → ∃ b, law24_few_l5 M m k (i : Int) l = some b
  | r, i, 0, k, _, hm, _, _, _ => by omega
  | [], i, m + 1, k, hr, hm, _, _, _ => by
    have := drop_nil hr
    exact ⟨true, by simp only [law24_few_l5, b_law24_few_l5]; rw [bif_neg (by omega)]⟩
  | x :: r, i, m + 1, k, hr, hm, hk, hk2, hs => by
    obtain ⟨h1, h2, h3, h4, h5⟩ := drop_cons hr dflt_Item
    simp only [List.length_cons] at hm
    have hx := hs x List.mem_cons_self
    simp only [law24_few_l5, b_law24_few_l5, h1]
    rw [bif_pos (by omega), bif_pos (by omega), bif_pos (by omega), i64_ok (n := k + (x.Data.size : Int)) (by omega), next_i i (by omega)]
    by_cases c : k + (x.Data.size : Int) > 20000
    · exact ⟨false, by rw [bif_pos c]⟩
    · rw [bif_neg c]
      exact few_l5 M l hl r (i + 1) m _ h3 (by omega) (by omega) (by omega) fun y hy => hs y (List.mem_cons_of_mem _ hy)
theorem few_is (M : Nat) (hM : 10000 < M) (l : List Item) (hs : ∀ x, x ∈ l → x.Data.size ≤ 140737488355328) : ∃ b, law24_few M l = some b := by
  simp only [law24_few, b_law24_few]
  by_cases c : (l.length : Int) > 1100
  · exact ⟨false, by rw [bif_pos c]⟩
  · rw [bif_neg c]
    exact few_l5 M l (by omega) l 0 M 0 rfl (by omega) (by omega) (by omega) hs
theorem enc_len (M : Nat) (hM : 65536 < M) (c : Spi) (l : List Item) : (encA M c l).1.length ≤ 262144 := by
  by_cases h0 : (encA M c l).2 = 0
  · obtain ⟨e1, e3, e4, e5, e6, e7, e8⟩ := enc_ok M hM c l h0
    rw [e3]; exact e5
  · rw [enc_bad M c l h0]; simp
theorem exp_len (M : Nat) (hM : 65536 < M) (c : Spi) (l : List Item) : (expA M c l).1.length ≤ 1000000 := by
  unfold expA
  split
  · have h1 := dec_len c (evs 0 (encA M c l).1)
    have h2 := enc_len M hM c l
    rw [evs_len] at h1
    dsimp only; omega
  · simp
theorem encodes_l10 (M : Nat) (hM : 100000000 < M) (c : Spi) (l : List Item) (a : List Run) (ha : a.length ≤ 262144) : ∀ (k i m : Nat), i + k = a.length → k < m → law24_SpiEncodes_l10 M m (i : Int) l c a a = some true
  | k, i, 0, _, hm => by omega
  | 0, i, m + 1, hi, hm => by
    have h2 := exp_len M (by omega) c l
    simp only [law24_SpiEncodes_l10, b_law24_SpiEncodes_l10, expect_is M (by omega) c l, ref_expect_is M (by omega) c l, Option.bind_some, same_self M (expA M c l).1 (by omega) (by omega), beq_self_eq_true, Bool.cond_true]
    rw [bif_neg (by omega)]
  | k + 1, i, m + 1, hi, hm => by
    simp only [law24_SpiEncodes_l10, b_law24_SpiEncodes_l10, beq_self_eq_true, Bool.and_self, Bool.not_true, Bool.cond_false]
    rw [bif_pos (by omega), bif_pos (by omega), bif_pos (by omega), next_i i (by omega)]
    simp only [bif_pos (show (0 : Int) ≤ (i : Int) by omega), bif_pos (show (i : Int) < (a.length : Int) by omega)]
    exact encodes_l10 M hM c l a ha k (i + 1) m (by omega) (by omega)
theorem wf_size (l : List Item) (hl : ∀ x, x ∈ l → wf_Item x) : ∀ x, x ∈ l → x.Data.size ≤ 140737488355328 := by
  intro x hx
  have := (hl x hx).2.2.2.1
  omega
theorem SpiEncodes_true (c : Spi) (l : List Item) (hc : wf_Spi c) (hl : (∀ x, x ∈ l → wf_Item x) ∧ l.length * Try.prog.bytesOf 47 ≤ 140737488351232) : ∃ M, law24_SpiEncodes M c l = some true := by
  obtain ⟨M, hM⟩ := big
  obtain ⟨b, hb⟩ := few_is M (by omega) l (wf_size l hl.1)
  refine ⟨M, ?_⟩
  have h1 := enc_len M (by omega) c l
  simp only [law24_SpiEncodes, b_law24_SpiEncodes, lives_true M (by omega), hb, Option.bind_some, Bool.not_true, Bool.cond_false]
  cases b with
  | false => rfl
  | true =>
    simp only [encode_is M (by omega) c l, ref_encode_is M (by omega) c l, Option.bind_some, bne_self_eq_false, Bool.not_true, Bool.cond_false]
    exact encodes_l10 M hM c l _ h1 (encA M c l).1.length 0 M (by omega) (by omega)
end Go.Abs.K
