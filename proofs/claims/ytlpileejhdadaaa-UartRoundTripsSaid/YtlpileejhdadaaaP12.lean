/- UART: Encode, the program's and the document's. -/
import Derived.Test.YtlpileejhdadaaaP11
set_option linter.unusedVariables false
set_option linter.unusedSimpArgs false
namespace Go.Abs.K
open Go Go.Abs Go.Proofs

theorem prog_put (M : Nat) (l : List Run) (v t tt : Int) (hl : l.length ≤ 1000000) (hf : Fine l) (ht : 0 ≤ t) (hb : total l + t ≤ 1099511627776) (htt : 0 ≤ tt ∧ tt ≤ 1099511627776) : uart_Encode_1 M v t tt l = some (tt + t, putA l v t) := by
  have hg := fine_total hf
  simp only [uart_Encode_1, b_uart_Encode_1, bif_pos (show (l.length + 1) * 16 ≤ 140737488355328 by omega), i64_ok (n := tt + t) (by omega)]
  rcases snoc_cases l with rfl | ⟨q, r, rfl⟩
  · rw [bif_neg (by simp), put_nil, bif_if]
    by_cases h0 : t = 0
    · rw [if_neg (by omega), if_pos h0]
    · rw [if_pos (by omega), if_neg h0]; rfl
  · have hlen : ((q ++ [r]).length : Int) = q.length + 1 := by simp
    have hr := hg.2 r (by simp)
    have hr1 := hf r (by simp)
    rw [i64_ok (n := ((q ++ [r]).length : Int) - 1) (by omega), getD_snoc, set_snoc, put_snoc, i64_ok (n := r.Ticks + t) (by omega)]
    rw [bif_pos (show ((q ++ [r]).length : Int) > 0 by omega), beq_if]
    simp only [bif_pos (show (0 : Int) ≤ ((q ++ [r]).length : Int) - 1 by omega), bif_pos (show ((q ++ [r]).length : Int) - 1 < ((q ++ [r]).length : Int) by omega)]
    by_cases c1 : r.Level = v
    · rw [if_pos c1]
      by_cases h0 : t = 0
      · rw [if_pos h0, h0, Int.add_zero, Int.add_zero]
      · rw [if_neg h0, if_pos c1, c1]
    · rw [if_neg c1]
      by_cases h0 : t = 0
      · rw [bif_neg (show ¬ t > 0 by omega), if_pos h0]
      · rw [bif_pos (show t > 0 by omega), if_neg h0, if_neg c1]
theorem ref_put (M : Nat) (l : List Run) (v t : Int) (hne : l ≠ []) (hl : l.length ≤ 1000000) (hf : Fine l) (ht : 0 ≤ t) (hb : total l + t ≤ 1099511627776) : ref22_add M l v t = some (putA l v t) := by
  have hg := fine_total hf
  rcases snoc_cases l with rfl | ⟨q, r, rfl⟩
  · exact absurd rfl hne
  · have hr := hg.2 r (by simp)
    have hr1 := hf r (by simp)
    have hlen : (q ++ [r]).length = q.length + 1 := by simp
    have key := add_at M q r.Level r.Ticks v t (by omega) ht (by omega)
    have e : (Run.mk r.Level r.Ticks) = r := rfl
    rw [e] at key
    rw [key, put_snoc]
    by_cases h0 : t = 0
    · rw [if_pos h0, if_pos h0]
    · rw [if_neg h0, if_neg h0]
      by_cases c1 : r.Level = v
      · rw [if_pos c1, if_pos c1, c1]
      · rw [if_neg c1, if_neg c1]; simp
/-! ### Levels alternate -/
theorem sum_total : ∀ l : List Run, sumR l = total l
  | [] => rfl
  | r :: l => by
    have e : total (r :: l) = r.Ticks + total l := by simp [total]
    rw [e, ← sum_total l]; rfl
theorem alt_set : ∀ (k : List Run) (lv : Int) (r : Run) (t : Int), AltR lv (k ++ [r]) → 1 ≤ t → AltR lv (k ++ [⟨r.Level, t⟩])
  | [], lv, r, t, h, ht => ⟨h.1, ht, trivial⟩
  | x :: k, lv, r, t, h, ht => ⟨h.1, h.2.1, alt_set k _ r t h.2.2 ht⟩
theorem alt_more : ∀ (k : List Run) (lv : Int) (r : Run) (v t : Int), (lv = 0 ∨ lv = 1) → AltR lv (k ++ [r]) → (v = 0 ∨ v = 1) → v ≠ r.Level → 1 ≤ t → AltR lv (k ++ [r] ++ [⟨v, t⟩])
  | [], lv, r, v, t, hl, h, hv, hne, ht => by
    have h1 : r.Level = lv := h.1
    exact ⟨h1, h.2.1, by show v = 1 - lv; omega, ht, trivial⟩
  | x :: k, lv, r, v, t, hl, h, hv, hne, ht => ⟨h.1, h.2.1, alt_more k (1 - lv) r v t (by omega) h.2.2 hv hne ht⟩
theorem put_alt (l : List Run) (v t : Int) (hne : l ≠ []) (h : AltR 1 l) (hf : Fine l) (hv : v = 0 ∨ v = 1) (ht : 0 ≤ t) : AltR 1 (putA l v t) ∧ putA l v t ≠ [] := by
  rcases snoc_cases l with rfl | ⟨q, r, rfl⟩
  · exact absurd rfl hne
  · have hr1 := hf r (by simp)
    rw [put_snoc]
    by_cases h0 : t = 0
    · rw [if_pos h0]; exact ⟨h, hne⟩
    · rw [if_neg h0]
      by_cases c1 : r.Level = v
      · rw [if_pos c1, ← c1]; exact ⟨alt_set q 1 r _ h (by omega), by simp⟩
      · rw [if_neg c1]; exact ⟨alt_more q 1 r v t (.inr rfl) h hv (fun h => c1 h.symm) (by omega), by simp⟩
def Ps (ps : List (Int × Int)) : Prop := ∀ p, p ∈ ps → (p.1 = 0 ∨ p.1 = 1) ∧ 0 ≤ p.2 ∧ p.2 ≤ 16000000
theorem ps_cons (p : Int × Int) (ps : List (Int × Int)) : Ps (p :: ps) ↔ ((p.1 = 0 ∨ p.1 = 1) ∧ 0 ≤ p.2 ∧ p.2 ≤ 16000000) ∧ Ps ps := by
  unfold Ps
  simp only [List.mem_cons, forall_eq_or_imp]
theorem ps_append (a b : List (Int × Int)) : Ps (a ++ b) ↔ Ps a ∧ Ps b := by
  unfold Ps
  simp only [List.mem_append]
  exact ⟨fun h => ⟨fun p hp => h p (.inl hp), fun p hp => h p (.inr hp)⟩, fun h p hp => hp.elim (h.1 p) (h.2 p)⟩
theorem ps_nil : Ps [] := fun p hp => by cases hp
/-- What holds of runs under way. n: how many pulses they had. -/
structure Inv (l : List Run) (n : Nat) : Prop where
  ne : l ≠ []
  alt : AltR 1 l
  fine : Fine l
  len : l.length ≤ n
  sum : total l ≤ 16000000 * (n : Int)
theorem inv_put {l : List Run} {n : Nat} (h : Inv l n) (v t : Int) (hv : v = 0 ∨ v = 1) (ht : 0 ≤ t ∧ t ≤ 16000000) : Inv (putA l v t) (n + 1) := by
  obtain ⟨a1, a2⟩ := put_alt l v t h.ne h.alt h.fine hv ht.1
  have h1 := put_len l v t
  have h2 := put_total l v t
  have h3 := h.len
  have h4 := h.sum
  exact ⟨a2, a1, put_fine h.fine v t ht.1 (by omega), by omega, by rw [h2]; omega⟩
theorem inv_puts : ∀ {l : List Run} {n : Nat} (h : Inv l n) (ps : List (Int × Int)), Ps ps → Inv (puts l ps) (n + ps.length)
  | l, n, h, [], _ => h
  | l, n, h, p :: ps, hp => by
    obtain ⟨p1, p2⟩ := (ps_cons p ps).1 hp
    have := inv_puts (inv_put h p.1 p.2 p1.1 p1.2) ps p2
    rw [puts_cons, List.length_cons, show n + (ps.length + 1) = n + 1 + ps.length by omega]
    exact this
/-! ### Pulses -/
theorem hv_le (c : Uart) (h : OkU c) (n : Int) (hn : 0 ≤ n) : hv c n ≤ 524288 * n := by
  unfold OkU at h
  unfold hv
  refine Int.ediv_le_of_le_mul (by omega) ?_
  have : n * c.T_Num ≤ n * (1048576 * c.T_Den) := Int.mul_le_mul_of_nonneg_left (by omega) hn
  refine Int.le_trans this (Int.le_of_eq ?_)
  rw [show (1048576 : Int) * c.T_Den = 524288 * (2 * c.T_Den) by omega, ← Int.mul_assoc, Int.mul_comm n 524288]
def dl (c : Uart) (k : Int) : Int := hv c (2 * k + 2) - hv c (2 * k)
theorem dl_b (c : Uart) (h : OkU c) (k : Int) (hk : 0 ≤ k ∧ k ≤ 14) : 0 ≤ dl c k ∧ dl c k ≤ 16000000 := by
  have h1 := hv_mono c h (2 * k) (2 * k + 2) (by omega)
  have h2 := hv_le c h (2 * k + 2) (by omega)
  have h3 := (hv_b c h (2 * k) (by omega)).2.2.1
  unfold dl
  omega
def smpP (c : Uart) (s : Int) : Nat → Int → List (Int × Int)
  | 0, _ => []
  | n + 1, k => (s / pw k % 2, dl c k) :: smpP c s n (k + 1)
theorem smpP_ok (c : Uart) (h : OkU c) (s : Int) : ∀ (n : Nat) (k : Int), 0 ≤ k → k + n = tot c → Ps (smpP c s n k) ∧ (smpP c s n k).length = n
  | 0, k, _, _ => ⟨ps_nil, rfl⟩
  | n + 1, k, h0, hk => by
    have ht := tot_b c h
    obtain ⟨i1, i2⟩ := smpP_ok c h s n (k + 1) (by omega) (by omega)
    have hd := dl_b c h k (by omega)
    exact ⟨(ps_cons _ _).2 ⟨⟨by dsimp only; omega, hd⟩, i1⟩, by simp [smpP, i2]⟩
def tailP (c : Uart) (x : Item) : List (Int × Int) := if x.Aux = 1 ∨ x.Fault = 1 then [(1, dl c (tot c))] else []
def bodyP (c : Uart) (x : Item) : List (Int × Int) := smpP c (smpA c x) (tot c).toNat 0 ++ tailP c x
def itemP (c : Uart) (x : Item) : List (Int × Int) := (1, x.Gap) :: bodyP c x
theorem tail_ok (c : Uart) (h : OkU c) (x : Item) : Ps (tailP c x) ∧ (tailP c x).length ≤ 1 := by
  have ht := tot_b c h
  have hd := dl_b c h (tot c) (by omega)
  unfold tailP
  split
  · exact ⟨(ps_cons _ _).2 ⟨⟨.inr rfl, hd⟩, ps_nil⟩, by simp⟩
  · exact ⟨ps_nil, by simp⟩
theorem body_ok (c : Uart) (h : OkU c) (x : Item) : Ps (bodyP c x) ∧ (bodyP c x).length ≤ 14 := by
  have ht := tot_b c h
  obtain ⟨a1, a2⟩ := smpP_ok c h (smpA c x) (tot c).toNat 0 (by omega) (by omega)
  obtain ⟨b1, b2⟩ := tail_ok c h x
  unfold bodyP
  refine ⟨(ps_append _ _).2 ⟨a1, b1⟩, ?_⟩
  rw [List.length_append, a2]; omega
theorem item_ok (c : Uart) (h : OkU c) (x : Item) (hg : 0 ≤ x.Gap ∧ x.Gap ≤ 1048576) : Ps (itemP c x) ∧ (itemP c x).length ≤ 15 := by
  obtain ⟨b1, b2⟩ := body_ok c h x
  unfold itemP
  exact ⟨(ps_cons _ _).2 ⟨⟨.inr rfl, hg.1, by dsimp only; omega⟩, b1⟩, by simp only [List.length_cons]; omega⟩
/-! ### The program's loops -/
theorem p_l23 (M : Nat) (c : Uart) (h : OkU c) (x : Item) (s : Int) (l : List Item) (t45 t46 : Int) (ht46 : 0 ≤ t46 ∧ t46 ≤ 10000) (q : Int → Int → Uart → List Run → Int → List Item → Option (List Run × Int)) : ∀ (n : Nat) (k m : Nat) (out : List Run) (N : Nat), (k : Int) + n = tot c → n < m → Inv out N → N + n ≤ 1000 →
    uart_Encode_l23 M q m (tot c) s t45 t46 (tot c) (k : Int) c out (total out) x l = q t45 (t46 + 1) c (puts out (smpP c s n (k : Int) ++ tailP c x)) (total (puts out (smpP c s n (k : Int) ++ tailP c x))) l
  | n, k, 0, out, N, _, hm, _, _ => by omega
  | 0, k, m + 1, out, N, hk, hm, hI, hN => by
    have ht := tot_b c h
    have hg := fine_total hI.fine
    have hs := hI.sum
    have hl := hI.len
    have hd := dl_b c h (tot c) (by omega)
    have e1 := prog_put M out 1 (dl c (tot c)) (total out) (by omega) hI.fine hd.1 (by omega) (by omega)
    have h2 := (hv_b c h (2 * tot c) (by omega)).2.2
    have h3 := (hv_b c h (2 * tot c + 2) (by omega)).2.2
    simp only [uart_Encode_l23, b_uart_Encode_l23, beq_if]
    rw [bif_neg (by omega), i64_ok (n := 2 * tot c) (by omega), i64_ok (n := 2 * tot c + 2) (by omega), halves_is M c h (2 * tot c + 2) (by omega), halves_is M c h (2 * tot c) (by omega), i64_ok (n := t46 + 1) (by omega)]
    simp only [Option.bind_some]
    rw [i64_ok (n := hv c (2 * tot c + 2) - hv c (2 * tot c)) (by omega)]
    change (if x.Aux = 1 then (uart_Encode_1 M 1 (dl c (tot c)) (total out) out).bind _ else if x.Fault = 1 then (uart_Encode_1 M 1 (dl c (tot c)) (total out) out).bind _ else _) = _
    rw [e1]
    simp only [Option.bind_some, smpP, List.nil_append]
    unfold tailP
    have hpt := put_total out 1 (dl c (tot c))
    by_cases hA : x.Aux = 1
    · rw [if_pos hA, if_pos (.inl hA), ← hpt]; rfl
    · rw [if_neg hA]
      by_cases hF : x.Fault = 1
      · rw [if_pos hF, if_pos (.inr hF), ← hpt]; rfl
      · rw [if_neg hF, if_neg (fun hh => hh.elim hA hF)]; rfl
  | n + 1, k, m + 1, out, N, hk, hm, hI, hN => by
    have ht := tot_b c h
    have hg := fine_total hI.fine
    have hs := hI.sum
    have hl := hI.len
    have hd := dl_b c h (k : Int) (by omega)
    have e1 := prog_put M out (s / pw (k : Int) % 2) (dl c (k : Int)) (total out) (by omega) hI.fine hd.1 (by omega) (by omega)
    have hpt := put_total out (s / pw (k : Int) % 2) (dl c (k : Int))
    have h2 := (hv_b c h (2 * (k : Int)) (by omega)).2.2
    have h3 := (hv_b c h (2 * (k : Int) + 2) (by omega)).2.2
    have hpw := pw_b (k : Int) (by omega)
    have ih := p_l23 M c h x s l t45 t46 ht46 q n (k + 1) m _ (N + 1) (by omega) (by omega) (inv_put hI (s / pw (k : Int) % 2) (dl c (k : Int)) (by omega) hd) (by omega)
    simp only [uart_Encode_l23, b_uart_Encode_l23]
    rw [bif_pos (by omega), bif_neg (by omega), i64_ok (n := 2 * (k : Int)) (by omega), i64_ok (n := 2 * (k : Int) + 2) (by omega), halves_is M c h (2 * (k : Int) + 2) (by omega), halves_is M c h (2 * (k : Int)) (by omega), next_i k (by omega), min_pw (k : Int) (by omega), Int.fdiv_eq_ediv_of_nonneg _ (by omega), and_one]
    simp only [Option.bind_some]
    rw [i64_ok (n := hv c (2 * (k : Int) + 2) - hv c (2 * (k : Int))) (by omega)]
    change (uart_Encode_1 M (s / pw (k : Int) % 2) (dl c (k : Int)) (total out) out).bind _ = _
    rw [e1, Option.bind_some, ← hpt]
    exact ih
def finR (c : Uart) (out : List Run) (r : List Item) : List Run := putA (puts out (r.flatMap (itemP c))) 1 (hv c 4)
theorem finR_cons (c : Uart) (out : List Run) (x : Item) (r : List Item) : finR c out (x :: r) = finR c (puts out (itemP c x)) r := by
  unfold finR
  rw [List.flatMap_cons, puts_append]
theorem hv4_b (c : Uart) (h : OkU c) : 1 ≤ hv c 4 ∧ hv c 4 ≤ 16000000 := by
  have h2 := hv_le c h 4 (by omega)
  refine ⟨?_, by omega⟩
  unfold OkU at h
  unfold hv
  exact Int.le_ediv_of_mul_le (by omega) (by omega)
theorem p_l18 (M : Nat) (hM : 100000 < M) (c : Uart) (h : OkU c) (l : List Item) (hl : l.length ≤ 12) (hok : ∀ x, x ∈ l → VOk c x ∧ 0 ≤ x.Gap ∧ x.Gap ≤ 1048576) : ∀ (r : List Item) (i m : Nat) (out : List Run) (N : Nat), l.drop i = r → r.length < m → Inv out N → N + 15 * r.length ≤ 500 →
    uart_Encode_l18 M m (l.length : Int) (i : Int) c out (total out) l = some (finR c out r, 0) ∧ Inv (finR c out r) 501
  | r, i, 0, out, N, _, hm, _, _ => by omega
  | [], i, m + 1, out, N, hr, hm, hI, hN => by
    have := drop_nil hr
    have hg := fine_total hI.fine
    have hs := hI.sum
    have hle := hI.len
    have h4 := hv4_b c h
    have e1 := prog_put M out 1 (hv c 4) (total out) (by omega) hI.fine (by omega) (by omega) (by omega)
    have hpt := put_total out 1 (hv c 4)
    have hI2 := inv_put hI 1 (hv c 4) (.inr rfl) (by omega)
    have hl2 := hI2.len
    have hs2 := hI2.sum
    have hcl := clean_is M (putA out 1 (hv c 4)) (by omega) (by omega) hI2.alt (by rw [sum_total]; omega)
    have e0 : finR c out [] = putA out 1 (hv c 4) := rfl
    rw [e0]
    refine ⟨?_, ⟨hI2.ne, hI2.alt, hI2.fine, by omega, by omega⟩⟩
    simp only [uart_Encode_l18, b_uart_Encode_l18]
    rw [bif_neg (by omega), halves_is M c h 4 (by omega), Option.bind_some, e1, Option.bind_some]
    dsimp only
    rw [bif_neg (by omega), bif_neg (by omega), hcl, Option.bind_some]
  | x :: r, i, m + 1, out, N, hr, hm, hI, hN => by
    obtain ⟨h1, h2, h3, h4, h5⟩ := drop_cons hr dflt_Item
    obtain ⟨hx, hg1⟩ := hok x h5
    have ht := tot_b c h
    have hg := fine_total hI.fine
    have hs := hI.sum
    have hle := hI.len
    simp only [List.length_cons] at hm hN
    have e1 := prog_put M out 1 x.Gap (total out) (by omega) hI.fine hg1.1 (by omega) (by omega)
    have hpt := put_total out 1 x.Gap
    have hI2 := inv_put hI 1 x.Gap (.inr rfl) (by omega)
    obtain ⟨i1, i2⟩ := item_ok c h x hg1
    have key := p_l23 M c h x (smpA c x) l (l.length : Int) (i : Int) (by omega) (fun t45 t46 c0 r2 c3 t44 => uart_Encode_l18 M m t45 t46 c0 r2 c3 t44) (tot c).toNat 0 M (putA out 1 x.Gap) (N + 1) (by omega) (by omega) hI2 (by omega)
    have hI3 := inv_puts hI (itemP c x) i1
    have hI4 : Inv (puts out (itemP c x)) (N + 15) := ⟨hI3.ne, hI3.alt, hI3.fine, by have := hI3.len; omega, by have := hI3.sum; omega⟩
    obtain ⟨j1, j2⟩ := p_l18 M hM c h l hl hok r (i + 1) m _ (N + 15) h3 (by omega) hI4 (by omega)
    rw [finR_cons]
    refine ⟨?_, j2⟩
    simp only [uart_Encode_l18, b_uart_Encode_l18, h1]
    rw [bif_pos (by omega), bif_pos (by omega), bif_pos (by omega), e1, Option.bind_some, (size_is M c h).1, Option.bind_some, smp_prog M (by omega) c h x hx, Option.bind_some, ← hpt]
    refine key.trans ?_
    rw [show (i : Int) + 1 = ((i + 1 : Nat) : Int) by omega]
    exact j1
noncomputable def chkA (M : Nat) (c : Uart) (x : Item) : Int := (uart_refused M c x).getD 0
noncomputable def errA (M : Nat) (c : Uart) : List Item → Int
  | [] => 0
  | x :: l => if chkA M c x = 0 then errA M c l else chkA M c x
theorem err_ok1 {M : Nat} {c : Uart} {x : Item} (l : List Item) (h : chkA M c x = 0) : errA M c (x :: l) = errA M c l := by
  show (if chkA M c x = 0 then errA M c l else chkA M c x) = _
  rw [if_pos h]
theorem err_bad1 {M : Nat} {c : Uart} {x : Item} (l : List Item) (h : chkA M c x ≠ 0) : errA M c (x :: l) = chkA M c x := by
  show (if chkA M c x = 0 then errA M c l else chkA M c x) = _
  rw [if_neg h]
theorem chk_is (M : Nat) (hM : 20 < M) (c : Uart) (h : OkU c) (x : Item) : uart_refused M c x = some (chkA M c x) ∧ ref22_wrong M c x = some (chkA M c x) ∧ (chkA M c x = 0 → VOk c x ∧ (x.Aux = 0 ∨ x.Aux = 1) ∧ (x.Aux = 1 → x.Fault = 0) ∧ 0 ≤ x.Gap ∧ x.Gap ≤ 1048576) := by
  obtain ⟨v, h1, h2, h3⟩ := refused_same M hM c h x
  have : chkA M c x = v := by unfold chkA; rw [h1]; rfl
  rw [this]; exact ⟨h1, h2, h3⟩
theorem err_ok (M : Nat) (hM : 20 < M) (c : Uart) (h : OkU c) : ∀ (l : List Item), errA M c l = 0 → ∀ x, x ∈ l → VOk c x ∧ 0 ≤ x.Gap ∧ x.Gap ≤ 1048576
  | [], _, x, hx => by cases hx
  | y :: l, he, x, hx => by
    by_cases hz : chkA M c y = 0
    · rw [err_ok1 l hz] at he
      rcases List.mem_cons.1 hx with rfl | hx
      · have := (chk_is M hM c h x).2.2 hz
        exact ⟨this.1, this.2.2.2⟩
      · exact err_ok M hM c h l he x hx
    · rw [err_bad1 l hz] at he; exact absurd he hz
theorem inv_first (c : Uart) (h : OkU c) : Inv [Run.mk 1 (hv c 4)] 1 := by
  have h4 := hv4_b c h
  exact ⟨by simp, ⟨rfl, h4.1, trivial⟩, fun r hr => by rw [List.mem_singleton.1 hr]; exact ⟨h4.1, by show (0 : Int) ≤ 1; decide, by show (1 : Int) ≤ 1; decide⟩, by simp, by rw [total_one]; dsimp only; omega⟩
theorem p_l7 (M : Nat) (hM : 100000 < M) (c : Uart) (h : OkU c) (l : List Item) (hl : l.length ≤ 12) : ∀ (r : List Item) (i m : Nat), l.drop i = r → r.length < m → (errA M c r = 0 → errA M c l = 0) → uart_Encode_l7 M m (l.length : Int) (i : Int) l c = some (if errA M c r = 0 then (finR c [Run.mk 1 (hv c 4)] l, 0) else ([], errA M c r))
  | r, i, 0, _, hm, _ => by omega
  | [], i, m + 1, hr, hm, he => by
    have := drop_nil hr
    have h4 := hv4_b c h
    have e1 := prog_put M [] 1 (hv c 4) 0 (by simp) (fun r hr => by cases hr) (by omega) (by rw [total_nil]; omega) (by omega)
    have e2 : putA [] 1 (hv c 4) = [Run.mk 1 (hv c 4)] := by rw [put_nil, if_neg (by omega)]
    have ht1 : total [Run.mk 1 (hv c 4)] = 0 + hv c 4 := by rw [total_one]; dsimp only; omega
    obtain ⟨k1, k2⟩ := p_l18 M hM c h l hl (err_ok M (by omega) c h l (he rfl)) l 0 M _ 1 rfl (by omega) (inv_first c h) (by omega)
    simp only [uart_Encode_l7, b_uart_Encode_l7, errA, if_true]
    rw [bif_neg (by omega), halves_is M c h 4 (by omega), Option.bind_some, e1, Option.bind_some, e2, ← ht1]
    exact k1
  | x :: r, i, m + 1, hr, hm, he => by
    obtain ⟨h1, h2, h3, h4, h5⟩ := drop_cons hr dflt_Item
    obtain ⟨k1, k2, k3⟩ := chk_is M (by omega) c h x
    simp only [List.length_cons] at hm
    simp only [uart_Encode_l7, b_uart_Encode_l7, h1, k1, Option.bind_some, next_i i (by omega)]
    rw [bif_pos (by omega), bif_pos (by omega), bif_pos (by omega), bne_if]
    by_cases hz : chkA M c x = 0
    · simp only [err_ok1 r hz]
      rw [if_pos hz]
      exact p_l7 M hM c h l hl r (i + 1) m h3 (by omega) (fun h => he (by rw [err_ok1 r hz]; exact h))
    · simp only [err_bad1 r hz]
      rw [if_neg hz, if_neg hz]
/-! ### The document's loops -/
theorem smpA_nn (c : Uart) (x : Item) : 0 ≤ smpA c x := by
  unfold smpA
  repeat' split
  all_goals omega
theorem r_l16 (M : Nat) (c : Uart) (h : OkU c) (x : Item) (s : Int) (hs0 : 0 ≤ s) (l : List Item) (hl : l.length ≤ 12) (j : Nat) (hj : j < l.length) (hx : l.getD ((j : Int)).toNat dflt_Item = x) (q : Int → List Item → Uart → List Run → Option (List Run × Int)) : ∀ (n : Nat) (k m : Nat) (out : List Run) (N : Nat), (k : Int) + n = tot c → n < m → Inv out N → N + n ≤ 1000 →
    ref22_Encode_l16 M q m (j : Int) s (tot c) (k : Int) l c out = q ((j : Int) + 1) l c (puts out (smpP c s n (k : Int) ++ tailP c x))
  | n, k, 0, out, N, _, hm, _, _ => by omega
  | 0, k, m + 1, out, N, hk, hm, hI, hN => by
    have ht := tot_b c h
    have hg := fine_total hI.fine
    have hs := hI.sum
    have hle := hI.len
    have hd := dl_b c h (tot c) (by omega)
    have e1 := ref_put M out 1 (dl c (tot c)) hI.ne (by omega) hI.fine hd.1 (by omega)
    have h2 := (hv_b c h (2 * tot c) (by omega)).2.2
    have h3 := (hv_b c h (2 * (tot c + 1)) (by omega)).2.2
    have hdl : hv c (2 * (tot c + 1)) - hv c (2 * tot c) = dl c (tot c) := by unfold dl; rw [Int.mul_add, Int.mul_one]
    simp only [ref22_Encode_l16, b_ref22_Encode_l16, beq_if, hx]
    simp only [bif_pos (show (0 : Int) ≤ (j : Int) by omega), bif_pos (show (j : Int) < (l.length : Int) by omega)]
    rw [bif_neg (by omega), i64_ok (n := tot c + 1) (by omega), boundary_is M c h (tot c + 1) (by omega), boundary_is M c h (tot c) (by omega), i64_ok (n := (j : Int) + 1) (by omega)]
    simp only [Option.bind_some]
    rw [i64_ok (n := hv c (2 * (tot c + 1)) - hv c (2 * tot c)) (by omega), hdl, e1]
    simp only [Option.bind_some, smpP, List.nil_append]
    unfold tailP
    by_cases hA : x.Aux = 1
    · rw [if_pos hA, if_pos (.inl hA)]; rfl
    · rw [if_neg hA]
      by_cases hF : x.Fault = 1
      · rw [if_pos hF, if_pos (.inr hF)]; rfl
      · rw [if_neg hF, if_neg (fun hh => hh.elim hA hF)]; rfl
  | n + 1, k, m + 1, out, N, hk, hm, hI, hN => by
    have ht := tot_b c h
    have hg := fine_total hI.fine
    have hs := hI.sum
    have hle := hI.len
    have hd := dl_b c h (k : Int) (by omega)
    have e1 := ref_put M out (s / pw (k : Int) % 2) (dl c (k : Int)) hI.ne (by omega) hI.fine hd.1 (by omega)
    have h2 := (hv_b c h (2 * (k : Int)) (by omega)).2.2
    have h3 := (hv_b c h (2 * ((k : Int) + 1)) (by omega)).2.2
    have hdl : hv c (2 * ((k : Int) + 1)) - hv c (2 * (k : Int)) = dl c (k : Int) := by unfold dl; rw [Int.mul_add, Int.mul_one]
    have hpw := pw_b (k : Int) (by omega)
    have hnn : 0 ≤ s / pw (k : Int) := Int.ediv_nonneg hs0 (by omega)
    have ih := r_l16 M c h x s hs0 l hl j hj hx q n (k + 1) m _ (N + 1) (by omega) (by omega) (inv_put hI (s / pw (k : Int) % 2) (dl c (k : Int)) (by omega) hd) (by omega)
    simp only [ref22_Encode_l16, b_ref22_Encode_l16]
    rw [bif_pos (by omega), bif_neg (by omega), i64_ok (n := (k : Int) + 1) (by omega), boundary_is M c h ((k : Int) + 1) (by omega), boundary_is M c h (k : Int) (by omega), min_pw (k : Int) (by omega), Int.fdiv_eq_ediv_of_nonneg _ (by omega), Int.tmod_eq_emod_of_nonneg hnn]
    simp only [Option.bind_some]
    rw [i64_ok (n := hv c (2 * ((k : Int) + 1)) - hv c (2 * (k : Int))) (by omega), hdl, e1, Option.bind_some, show (k : Int) + 1 = ((k + 1 : Nat) : Int) by omega]
    exact ih
theorem r_l8 (M : Nat) (hM : 100000 < M) (c : Uart) (h : OkU c) (l : List Item) (hl : l.length ≤ 12) : ∀ (r : List Item) (i m : Nat) (out : List Run) (N : Nat), l.drop i = r → r.length < m → Inv out N → N + 15 * r.length ≤ 500 →
    ref22_Encode_l8 M m (i : Int) l c out = some (if errA M c r = 0 then (finR c out r, 0) else ([], errA M c r))
  | r, i, 0, out, N, _, hm, _, _ => by omega
  | [], i, m + 1, out, N, hr, hm, hI, hN => by
    have := drop_nil hr
    have hg := fine_total hI.fine
    have hs := hI.sum
    have hle := hI.len
    have h4 := hv4_b c h
    have e1 := ref_put M out 1 (hv c 4) hI.ne (by omega) hI.fine (by omega) (by omega)
    have hI2 := inv_put hI 1 (hv c 4) (.inr rfl) (by omega)
    have hl2 := hI2.len
    have hs2 := hI2.sum
    have hfit := fit_is M (putA out 1 (hv c 4)) (by omega) (by omega) hI2.alt (by rw [sum_total]; omega)
    simp only [ref22_Encode_l8, b_ref22_Encode_l8, errA, if_true]
    rw [bif_neg (by omega), boundary_is M c h 2 (by omega), Option.bind_some, show (2 : Int) * 2 = 4 from rfl, e1, Option.bind_some, hfit]
    rfl
  | x :: r, i, m + 1, out, N, hr, hm, hI, hN => by
    obtain ⟨h1, h2, h3, h4, h5⟩ := drop_cons hr dflt_Item
    obtain ⟨k1, k2, k3⟩ := chk_is M (by omega) c h x
    have ht := tot_b c h
    have hg := fine_total hI.fine
    have hs := hI.sum
    have hle := hI.len
    simp only [List.length_cons] at hm hN
    simp only [ref22_Encode_l8, b_ref22_Encode_l8, h1, k2, Option.bind_some, bne_if]
    rw [bif_pos (by omega), bif_pos (by omega), bif_pos (by omega)]
    by_cases hz : chkA M c x = 0
    · obtain ⟨v1, v2, v3, v4⟩ := k3 hz
      have e1 := ref_put M out 1 x.Gap hI.ne (by omega) hI.fine v4.1 (by omega)
      have hI2 := inv_put hI 1 x.Gap (.inr rfl) (by omega)
      obtain ⟨i1, i2⟩ := item_ok c h x v4
      have key := r_l16 M c h x (smpA c x) (smpA_nn c x) l hl i h2 h1 (fun i_8 l_1 c1 out_7 => ref22_Encode_l8 M m i_8 l_1 c1 out_7) (tot c).toNat 0 M (putA out 1 x.Gap) (N + 1) (by omega) (by omega) hI2 (by omega)
      have hI3 := inv_puts hI (itemP c x) i1
      have hI4 : Inv (puts out (itemP c x)) (N + 15) := ⟨hI3.ne, hI3.alt, hI3.fine, by have := hI3.len; omega, by have := hI3.sum; omega⟩
      have ih := r_l8 M hM c h l hl r (i + 1) m _ (N + 15) h3 (by omega) hI4 (by omega)
      rw [if_pos hz, err_ok1 r hz, finR_cons, e1]
      simp only [bif_pos (show (0 : Int) ≤ (i : Int) by omega), bif_pos (show (i : Int) < (l.length : Int) by omega), Option.bind_some, smp_ref M (show 20 < M by omega) c h x v1 v3, (size_is M c h).2]
      refine key.trans ?_
      rw [show (i : Int) + 1 = ((i + 1 : Nat) : Int) by omega]
      exact ih
    · rw [if_neg hz, err_bad1 r hz, if_neg hz]
theorem enc_both {M : Nat} (hM : 100000 < M) {c : Uart} {v : Int} (H : Cf M c v) (l : List Item) (hl : l.length ≤ 12) : ∃ r e, uart_Encode M c l = some (r, e) ∧ ref22_Encode M c l = some (r, e) ∧ r.length ≤ 100000 := by
  simp only [uart_Encode, b_uart_Encode, ref22_Encode, b_ref22_Encode, H.p, H.r, Option.bind_some, bne_if]
  by_cases hv0 : v = 0
  · have h := H.ok hv0
    have h4 := hv4_b c h
    rw [if_pos hv0, if_pos hv0, bif_neg (by omega), bif_neg (by omega), boundary_is M c h 2 (by omega), Option.bind_some, show (2 : Int) * 2 = 4 from rfl, add_nil M _ h4.1, Option.bind_some]
    have h7 := p_l7 M hM c h l hl l 0 M rfl (by omega) (fun h => h)
    have h8 := r_l8 M hM c h l hl l 0 M _ 1 rfl (by omega) (inv_first c h) (by omega)
    by_cases he : errA M c l = 0
    · rw [if_pos he] at h7 h8
      obtain ⟨k1, k2⟩ := p_l18 M hM c h l hl (err_ok M (by omega) c h l he) l 0 M _ 1 rfl (by omega) (inv_first c h) (by omega)
      exact ⟨_, 0, h7, h8, by have := k2.len; omega⟩
    · rw [if_neg he] at h7 h8
      exact ⟨[], _, h7, h8, by simp⟩
  · rw [if_neg hv0, if_neg hv0]
    exact ⟨[], v, rfl, rfl, by simp⟩
theorem lsame_l4 (M : Nat) (a : List Run) (ha : a.length < 9223372036854775807) : ∀ (k i m : Nat), i + k = a.length → k < m → law22_same_l4 M m (i : Int) a a = some true
  | k, i, 0, _, hm => by omega
  | 0, i, m + 1, hi, hm => by
    simp only [law22_same_l4, b_law22_same_l4]
    rw [bif_neg (by omega)]
  | k + 1, i, m + 1, hi, hm => by
    simp only [law22_same_l4, b_law22_same_l4, beq_self_eq_true, Bool.and_self, Bool.not_true, Bool.cond_false]
    rw [bif_pos (by omega), bif_pos (by omega), bif_pos (by omega), next_i i (by omega)]
    simp only [bif_pos (show (0 : Int) ≤ (i : Int) by omega), bif_pos (show (i : Int) < (a.length : Int) by omega)]
    exact lsame_l4 M a ha k (i + 1) m (by omega) (by omega)
theorem lsame_self (M : Nat) (a : List Run) (ha : a.length < 9223372036854775807) (hM : a.length < M) : law22_same M a a = some true := by
  simp only [law22_same, b_law22_same, bne_self_eq_false, Bool.cond_false]
  exact lsame_l4 M a ha a.length 0 M (by omega) hM
theorem UartEncodes_true (c : Uart) (l : List Item) (hc : wf_Uart c) (hl : (∀ x, x ∈ l → wf_Item x) ∧ l.length * Try.prog.bytesOf 54 ≤ 140737488351232) : ∃ M, law22_UartEncodes M c l = some true := by
  obtain ⟨M, hM⟩ := big
  obtain ⟨v, H⟩ := cf_some M (by omega) c
  refine ⟨M, ?_⟩
  obtain ⟨b, hb, hb2⟩ := tiny_is M l (by omega)
  simp only [law22_UartEncodes, b_law22_UartEncodes, hb, Option.bind_some, awake_true M (by omega)]
  cases b with
  | false => rfl
  | true =>
    obtain ⟨r, e, e1, e2, e3⟩ := enc_both (show 100000 < M by omega) H l (hb2 rfl)
    simp only [e1, e2, Option.bind_some, Bool.not_true, Bool.cond_false, lsame_self M r (by omega) (by omega), Bool.cond_true, beq_self_eq_true]
end Go.Abs.K
