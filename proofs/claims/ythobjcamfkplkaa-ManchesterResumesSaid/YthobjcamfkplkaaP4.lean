/- MANCHESTER: Encode and Expect, the program's and the document's. -/
import Derived.Test.YthobjcamfkplkaaP3
set_option linter.unusedVariables false
set_option linter.unusedSimpArgs false
namespace Go.Abs.K
open Go Go.Abs Go.Proofs

noncomputable def chkA (M : Nat) (x : Item) : Int := (manchester_check M x).getD 0
noncomputable def errA (M : Nat) : List Item → Int
  | [] => 0
  | x :: l => if chkA M x = 0 then errA M l else chkA M x
theorem err_ok1 {M : Nat} {x : Item} (l : List Item) (h : chkA M x = 0) : errA M (x :: l) = errA M l := by
  show (if chkA M x = 0 then errA M l else chkA M x) = _
  rw [if_pos h]
theorem err_bad1 {M : Nat} {x : Item} (l : List Item) (h : chkA M x ≠ 0) : errA M (x :: l) = chkA M x := by
  show (if chkA M x = 0 then errA M l else chkA M x) = _
  rw [if_neg h]
theorem chk_is (M : Nat) (hM : 65536 < M) (x : Item) : manchester_check M x = some (chkA M x) ∧ ref17_right M x = some (chkA M x) ∧ (chkA M x = 0 → ItemOk x) := by
  obtain ⟨v, h1, h2, h3⟩ := item_check M hM x
  have : chkA M x = v := by unfold chkA; rw [h1]; rfl
  rw [this]; exact ⟨h1, h2, h3⟩
theorem err_ok (M : Nat) (hM : 65536 < M) : ∀ (l : List Item), errA M l = 0 → ∀ x, x ∈ l → ItemOk x
  | [], _, x, hx => by cases hx
  | y :: l, h, x, hx => by
    by_cases c : chkA M y = 0
    · rw [err_ok1 l c] at h
      rcases List.mem_cons.1 hx with rfl | hx
      · exact (chk_is M hM x).2.2 c
      · exact err_ok M hM l h x hx
    · rw [err_bad1 l c] at h; exact absurd h c
/-- An item's pulses. -/
theorem item_fine (n d : Int) (h : OkR n d) (x : Item) (hx : ItemOk x) : FineP (itemP n d x) ∧ sumP (itemP n d x) ≤ 5000000000 ∧ (itemP n d x).length ≤ 8200 := by
  obtain ⟨b1, b2, b3, b4⟩ := bitsI_spec x hx
  obtain ⟨p1, p2, p3⟩ := pulses_fine n d h (bitsI x) 0 (by omega) b1
  obtain ⟨f1, f2, f3⟩ := fault_fine n d h x (bitsI x).length (by omega)
  have h4 := tm4 n d h
  have hg := hx.gap
  have ht := tm_le n d h (2 * (bitsI x).length)
  refine ⟨?_, ?_, ?_⟩
  · unfold itemP tailP
    rw [fineP_cons, fineP_append, fineP_append, fineP_cons]
    exact ⟨⟨hg.1, by omega, by omega⟩, p1, f1, ⟨h4.1, by omega, by omega⟩, fun p hp => by cases hp⟩
  · unfold itemP tailP
    rw [sumP_cons, sumP_append, sumP_append, sumP_cons, p2]
    simp only [sumP, List.map_nil, List.sum_nil] at f2 ⊢
    rw [show (2 : Int) * 0 = 0 by rfl, tm_zero, Int.zero_add]
    have e : ((2 * (bitsI x).length : Nat) : Int) = 2 * ((bitsI x).length : Int) := by omega
    rw [e] at ht
    omega
  · unfold itemP tailP
    simp only [List.length_cons, List.length_append, p3, List.length_nil]
    omega
def finA (l : List Run) : List Run × Int := if (l.length : Int) > 262144 then ([], 6) else if total l > 1099511627776 then ([], 2) else (l, 0)
theorem total_drop {l : List Run} {i : Nat} {r : Run} {k : List Run} (h : l.drop i = r :: k) : total (l.take (i + 1)) = total (l.take i) + r.Ticks := by
  obtain ⟨h1, h2, h3, h4, h5⟩ := drop_cons h dflt_Run
  rw [List.take_succ_eq_append_getElem h2, total_append, total_one]
  rw [Int.toNat_natCast, List.getD_eq_getElem?_getD, List.getElem?_eq_getElem h2] at h1
  have : l[i] = r := h1
  rw [this]
theorem fine_take {l : List Run} (h : Fine l) (i : Nat) : 0 ≤ total (l.take i) ∧ total (l.take i) ≤ total l := by
  have h1 : Fine (l.take i) := fun r hr => h r (List.mem_of_mem_take hr)
  have h2 : Fine (l.drop i) := fun r hr => h r (List.mem_of_mem_drop hr)
  have e : total l = total (l.take i) + total (l.drop i) := by rw [← total_append, List.take_append_drop]
  have := (fine_total h1).1
  have := (fine_total h2).1
  omega
theorem enc_l19 (M : Nat) (l : List Run) (hf : Fine l) (hl : l.length ≤ 1000000000000) (ht : total l ≤ 1000000000000000000) : ∀ (r : List Run) (i m : Nat), l.drop i = r → r.length < m →
    manchester_Encode_l19 M m (total (l.take i)) (l.length : Int) (i : Int) l = some (if total l > 1099511627776 then ([], 2) else (l, 0))
  | r, i, 0, _, hm => by omega
  | [], i, m + 1, hr, hm => by
    have := drop_nil hr
    simp only [manchester_Encode_l19, b_manchester_Encode_l19, bif_if]
    rw [if_neg (by omega), List.take_of_length_le this]
    split <;> rfl
  | x :: r, i, m + 1, hr, hm => by
    obtain ⟨h1, h2, h3, h4, h5⟩ := drop_cons hr dflt_Run
    have hx := hf x h5
    have hxt := (fine_total hf).2 x h5
    have ht0 := fine_take hf i
    have ht1 := fine_take hf (i + 1)
    have he := total_drop hr
    simp only [List.length_cons] at hm
    simp only [manchester_Encode_l19, b_manchester_Encode_l19, h1]
    rw [bif_pos (by omega), bif_pos (by omega), bif_pos (by omega), next_i i (by omega), ← he, i64_ok (by omega)]
    exact enc_l19 M l hf hl ht r (i + 1) m h3 (by omega)
theorem enc_l8 {M : Nat} (hM : 10000000 < M) {c : Manchester} (h : OkR c.T_Num c.T_Den) (l : List Item) (hl : l.length ≤ 1024) : ∀ (r : List Item) (i m : Nat) (out : List Run), l.drop i = r → r.length < m → Fine out → out.length + 8200 * r.length ≤ 9000000 → total out + 5000000000 * r.length ≤ 9000000000000 →
    manchester_Encode_l8 M m (l.length : Int) (i : Int) c (line c out) l = some (if errA M r = 0 then (if ((puts out (r.flatMap (itemP c.T_Num c.T_Den))).length : Int) > 262144 then ([], 6) else if total (puts out (r.flatMap (itemP c.T_Num c.T_Den))) > 1099511627776 then ([], 2) else (line c (puts out (r.flatMap (itemP c.T_Num c.T_Den))), 0)) else ([], errA M r))
  | r, i, 0, out, _, hm, _, _, _ => by omega
  | [], i, m + 1, out, hr, hm, hf, ho, ht => by
    have := drop_nil hr
    simp only [List.length_nil] at ho ht
    simp only [manchester_Encode_l8, b_manchester_Encode_l8, bif_if, line_len, errA, List.flatMap_nil, if_true]
    rw [if_neg (by omega)]
    have e : puts out [] = out := rfl
    rw [e]
    split
    · rfl
    · have := enc_l19 M (line c out) (line_fine c hf) (by rw [line_len]; omega) (by rw [line_total]; omega) (line c out) 0 M rfl (by rw [line_len]; omega)
      rw [line_total, line_len] at this
      exact this
  | x :: r, i, m + 1, out, hr, hm, hf, ho, ht => by
    obtain ⟨h1, h2, h3, h4, h5⟩ := drop_cons hr dflt_Item
    obtain ⟨k1, k2, k3⟩ := chk_is M (by omega) x
    simp only [List.length_cons] at hm ho ht
    simp only [manchester_Encode_l8, b_manchester_Encode_l8, h1, k1, Option.bind_some]
    rw [bif_pos (by omega), bif_pos (by omega), bif_pos (by omega), next_i i (by omega), bne_if]
    by_cases hc : chkA M x = 0
    · have hx := k3 hc
      obtain ⟨i1, i2, i3⟩ := item_fine c.T_Num c.T_Den h x hx
      have hg := hx.gap
      have hfp := put_fine hf 0 x.Gap hg.1 (by omega)
      have hpt := put_total out 0 x.Gap
      have hpl := put_len out 0 x.Gap
      simp only [err_ok1 r hc]
      rw [if_pos hc, signal_is M c 0 (by omega), Option.bind_some, add_line M c out 0 x.Gap (by omega) hf hg.1 (by omega), Option.bind_some,
        transmit_is (by omega) h x hx (putA out 0 x.Gap) hfp (by omega) (by omega), Option.bind_some]
      have e : puts (putA out 0 x.Gap) (pulses c.T_Num c.T_Den (bitsI x) 0 ++ tailP c.T_Num c.T_Den x (bitsI x).length) = puts out (itemP c.T_Num c.T_Den x) := rfl
      rw [e]
      have t1 := puts_total (itemP c.T_Num c.T_Den x) out
      have t2 := puts_len (itemP c.T_Num c.T_Den x) out
      have t3 := puts_fine (itemP c.T_Num c.T_Den x) out hf i1
      rw [enc_l8 hM h l hl r (i + 1) m _ h3 (by omega) t3 (by omega) (by omega), List.flatMap_cons, puts_append]
    · simp only [err_bad1 r hc]
      rw [if_neg hc, if_neg hc]
def allP (n d : Int) (l : List Item) : List (Int × Int) := (0, tm n d 4) :: l.flatMap (itemP n d)
def runsA (n d : Int) (l : List Item) : List Run := puts [] (allP n d l)
/-- What Encode gives. -/
noncomputable def encA (M : Nat) (v : Int) (c : Manchester) (l : List Item) : List Run × Int :=
  if v = 0 then (if (l.length : Int) > 1024 then ([], 6) else if errA M l = 0 then (if ((runsA c.T_Num c.T_Den l).length : Int) > 262144 then ([], 6) else if total (runsA c.T_Num c.T_Den l) > 1099511627776 then ([], 2) else (line c (runsA c.T_Num c.T_Den l), 0)) else ([], errA M l)) else ([], v)
theorem first_fine (n d : Int) (h : OkR n d) : Fine (putA [] 0 (tm n d 4)) ∧ total (putA [] 0 (tm n d 4)) ≤ 2097156 ∧ (putA [] 0 (tm n d 4)).length ≤ 1 := by
  have h4 := tm4 n d h
  have := put_total [] 0 (tm n d 4)
  have hl := put_len [] 0 (tm n d 4)
  rw [total_nil] at this
  exact ⟨put_fine (fun r hr => by cases hr) 0 _ h4.1 (by omega), by omega, by simpa using hl⟩
theorem encode_is {M : Nat} (hM : 10000000 < M) {c : Manchester} {v : Int} (H : Cf M c v) (l : List Item) : manchester_Encode M c l = some (encA M v c l) := by
  simp only [manchester_Encode, b_manchester_Encode, H.p, Option.bind_some, bne_if, bif_if, encA]
  by_cases hv : v = 0
  · have h := H.ok hv
    obtain ⟨f1, f2, f3⟩ := first_fine _ _ h
    rw [if_pos hv, if_pos hv]
    by_cases hl : (l.length : Int) > 1024
    · rw [if_pos hl, if_pos hl]
    · rw [if_neg hl, if_neg hl, signal_is M c 0 (by omega), boundary_is M c h 2 (by omega)]
      simp only [Option.bind_some]
      have h4 := tm4 _ _ h
      have ha := add_line M c [] 0 (tm c.T_Num c.T_Den 4) (by simp) (fun r hr => by cases hr) h4.1 (by rw [total_nil]; omega)
      have e0 : line c [] = [] := rfl
      rw [e0] at ha
      rw [show (2 * 2 : Int) = 4 by rfl, ha, Option.bind_some]
      exact enc_l8 hM h l (by omega) l 0 M (putA [] 0 (tm c.T_Num c.T_Den 4)) rfl (by omega) f1 (by omega) (by omega)
  · rw [if_neg hv, if_neg hv]

/-! ### The document's -/
theorem valid_l5 (M : Nat) (l : List Run) (hf : Fine l) (hl : l.length ≤ 262144) (ht : total l ≤ 1099511627776) : ∀ (r : List Run) (i m : Nat), l.drop i = r → r.length < m → ref08_Valid_l5 M m (total (l.take i)) (i : Int) l = some true
  | r, i, 0, _, hm => by omega
  | [], i, m + 1, hr, hm => by
    have := drop_nil hr
    simp only [ref08_Valid_l5, b_ref08_Valid_l5, bif_if]
    rw [if_neg (by omega)]
  | x :: r, i, m + 1, hr, hm => by
    obtain ⟨h1, h2, h3, h4, h5⟩ := drop_cons hr dflt_Run
    have hx := hf x h5
    have ht0 := fine_take hf i
    have ht1 := fine_take hf (i + 1)
    have he := total_drop hr
    simp only [List.length_cons] at hm
    have ih := valid_l5 M l hf hl ht r (i + 1) m h3 (by omega)
    simp only [ref08_Valid_l5, b_ref08_Valid_l5, h1, bne_if]
    rw [bif_pos (by omega), bif_pos (by omega), bif_pos (by omega), next_i i (by omega), ← he, i64_ok (n := total (List.take (i + 1) l)) (by omega), ih, i64_ok (n := 1099511627776 - total (List.take i l)) (by omega)]
    simp only [bif_pos (show (0 : Int) ≤ (i : Int) by omega), bif_pos (show (i : Int) < (l.length : Int) by omega), bif_neg (show ¬ x.Ticks < 1 by omega), bif_neg (show ¬ x.Ticks > 1099511627776 - total (List.take i l) by omega)]
    have : x.Level = 0 ∨ x.Level = 1 := by omega
    rcases this with h | h
    · rw [if_pos h]
    · rw [if_neg (by omega), if_pos h]
theorem valid_is (M : Nat) (l : List Run) (hf : Fine l) (hl : l.length ≤ 262144) (ht : total l ≤ 1099511627776) (hM : 262144 < M) : ref08_Valid M l = some true := by
  simp only [ref08_Valid, b_ref08_Valid]
  rw [bif_neg (by omega)]
  exact valid_l5 M l hf hl ht l 0 M rfl (by omega)
def inv (l : List Run) : List Run := l.map fun r => ⟨1 - r.Level, r.Ticks⟩
theorem invert_l5 (M : Nat) (l : List Run) (hf : Fine l) (hl : l.length ≤ 262144) : ∀ (r : List Run) (i m : Nat) (out : List Run), l.drop i = r → r.length < m → out.length + r.length ≤ 262144 → ref08_Invert_l5 M m (i : Int) l out = some (out ++ inv r)
  | r, i, 0, out, _, hm, _ => by omega
  | [], i, m + 1, out, hr, hm, ho => by
    have := drop_nil hr
    simp only [ref08_Invert_l5, b_ref08_Invert_l5, bif_if]
    rw [if_neg (by omega)]; simp [inv]
  | x :: r, i, m + 1, out, hr, hm, ho => by
    obtain ⟨h1, h2, h3, h4, h5⟩ := drop_cons hr dflt_Run
    have hx := hf x h5
    simp only [List.length_cons] at hm ho
    simp only [ref08_Invert_l5, b_ref08_Invert_l5, h1]
    rw [bif_pos (by omega), bif_pos (by omega), bif_pos (by omega), bif_pos (by omega), bif_pos (by omega), bif_pos (by omega), next_i i (by omega), i64_ok (by omega), invert_l5 M l hf hl r (i + 1) m _ h3 (by omega) (by simp; omega)]
    simp [inv]
theorem invert_is (M : Nat) (l : List Run) (hf : Fine l) (hl : l.length ≤ 262144) (ht : total l ≤ 1099511627776) (hM : 262144 < M) : ref08_Invert M l = some (inv l) := by
  simp only [ref08_Invert, b_ref08_Invert, valid_is M l hf hl ht hM, Option.bind_some, Bool.not_true, Bool.cond_false]
  have := invert_l5 M l hf hl l 0 M [] rfl (by omega) (by simpa using hl)
  simpa using this
theorem ref_l23 {M : Nat} (hM : 10000000 < M) {c : Manchester} (l : List Run) (hf : Fine l) (hl : l.length ≤ 262144) (ht : total l ≤ 1000000000000000000) : ∀ (r : List Run) (i m : Nat), l.drop i = r → r.length < m →
    ref17_Encode_l23 M m (total (l.take i)) (i : Int) c l = some (if total l > 1099511627776 then ([], 2) else (line c l, 0))
  | r, i, 0, _, hm => by omega
  | [], i, m + 1, hr, hm => by
    have := drop_nil hr
    simp only [ref17_Encode_l23, b_ref17_Encode_l23, bif_if]
    rw [if_neg (by omega), List.take_of_length_le this]
    by_cases hb : total l > 1099511627776
    · rw [if_pos hb, if_pos hb]
    · rw [if_neg hb, if_neg hb]
      cases hi : c.Ieee with
      | true => simp [line, sg, hi]
      | false =>
        rw [invert_is M l hf hl (by omega) (by omega)]
        simp [line, sg, hi, inv]
  | x :: r, i, m + 1, hr, hm => by
    obtain ⟨h1, h2, h3, h4, h5⟩ := drop_cons hr dflt_Run
    have hx := hf x h5
    have hxt := (fine_total hf).2 x h5
    have ht0 := fine_take hf i
    have ht1 := fine_take hf (i + 1)
    have he := total_drop hr
    simp only [List.length_cons] at hm
    simp only [ref17_Encode_l23, b_ref17_Encode_l23, h1]
    rw [bif_pos (by omega), bif_pos (by omega), bif_pos (by omega), next_i i (by omega), ← he, i64_ok (by omega)]
    exact ref_l23 hM l hf hl ht r (i + 1) m h3 (by omega)
theorem ref_l14 {M : Nat} (hM : 10000000 < M) {c : Manchester} (h : OkR c.T_Num c.T_Den) (l : List Item) (hl : l.length ≤ 1024) (hok : ∀ x, x ∈ l → ItemOk x) : ∀ (r : List Item) (i m : Nat) (out : List Run), l.drop i = r → r.length < m → Fine out → out.length + 8200 * r.length ≤ 9000000 → total out + 5000000000 * r.length ≤ 9000000000000 →
    ref17_Encode_l14 M m (i : Int) l c out = some (if ((puts out (r.flatMap (itemP c.T_Num c.T_Den))).length : Int) > 262144 then ([], 6) else if total (puts out (r.flatMap (itemP c.T_Num c.T_Den))) > 1099511627776 then ([], 2) else (line c (puts out (r.flatMap (itemP c.T_Num c.T_Den))), 0))
  | r, i, 0, out, _, hm, _, _, _ => by omega
  | [], i, m + 1, out, hr, hm, hf, ho, ht => by
    have := drop_nil hr
    simp only [List.length_nil] at ho ht
    simp only [ref17_Encode_l14, b_ref17_Encode_l14, bif_if, List.flatMap_nil]
    rw [if_neg (by omega)]
    have e : puts out [] = out := rfl
    rw [e]
    by_cases hb : (out.length : Int) > 262144
    · rw [if_pos hb, if_pos hb]
    · rw [if_neg hb, if_neg hb]
      exact ref_l23 hM out hf (by omega) (by omega) out 0 M rfl (by omega)
  | x :: r, i, m + 1, out, hr, hm, hf, ho, ht => by
    obtain ⟨h1, h2, h3, h4, h5⟩ := drop_cons hr dflt_Item
    have hx := hok x h5
    simp only [List.length_cons] at hm ho ht
    obtain ⟨i1, i2, i3⟩ := item_fine c.T_Num c.T_Den h x hx
    have hg := hx.gap
    have hfp := put_fine hf 0 x.Gap hg.1 (by omega)
    have hpt := put_total out 0 x.Gap
    have hpl := put_len out 0 x.Gap
    obtain ⟨b1, b2, b3, b4⟩ := bitsI_spec x hx
    obtain ⟨p1, p2, p3⟩ := pulses_fine c.T_Num c.T_Den h (bitsI x) 0 (by omega) b1
    obtain ⟨f1, f2, f3⟩ := fault_fine c.T_Num c.T_Den h x (bitsI x).length (by omega)
    have h4' := tm4 _ _ h
    have q1 := puts_fine (pulses c.T_Num c.T_Den (bitsI x) 0 ++ faultP c.T_Num c.T_Den x (bitsI x).length) _ hfp ((fineP_append _ _).2 ⟨p1, f1⟩)
    have q2 := puts_total (pulses c.T_Num c.T_Den (bitsI x) 0 ++ faultP c.T_Num c.T_Den x (bitsI x).length) (putA out 0 x.Gap)
    have q3 := puts_len (pulses c.T_Num c.T_Den (bitsI x) 0 ++ faultP c.T_Num c.T_Den x (bitsI x).length) (putA out 0 x.Gap)
    have t1 := puts_total (itemP c.T_Num c.T_Den x) out
    have t2 := puts_len (itemP c.T_Num c.T_Den x) out
    have t3 := puts_fine (itemP c.T_Num c.T_Den x) out hf i1
    have hs : sumP (pulses c.T_Num c.T_Den (bitsI x) 0 ++ faultP c.T_Num c.T_Den x (bitsI x).length) ≤ 5000000000 := by
      have := sumP_nonneg i1
      unfold itemP tailP at i2
      rw [sumP_cons, sumP_append, sumP_append] at i2
      rw [sumP_append]
      have e : sumP [((0 : Int), tm c.T_Num c.T_Den 4)] = tm c.T_Num c.T_Den 4 := by simp [sumP]
      rw [e] at i2
      dsimp only at i2
      omega
    have hll : (pulses c.T_Num c.T_Den (bitsI x) 0 ++ faultP c.T_Num c.T_Den x (bitsI x).length).length ≤ 8196 := by
      rw [List.length_append, p3]; omega
    simp only [ref17_Encode_l14, b_ref17_Encode_l14, h1]
    rw [bif_pos (by omega), bif_pos (by omega), bif_pos (by omega), next_i i (by omega), ref_put_is M out 0 x.Gap (by omega) hf hg.1 (by omega), Option.bind_some, bif_pos (by omega), bif_pos (by omega),
      send_is (by omega) h x hx (putA out 0 x.Gap) hfp (by omega) (by omega), Option.bind_some, times_tm M c h 4 (by omega), Option.bind_some, ref_put_is M _ 0 _ (by omega) q1 h4'.1 (by omega), Option.bind_some]
    have e : putA (puts (putA out 0 x.Gap) (pulses c.T_Num c.T_Den (bitsI x) 0 ++ faultP c.T_Num c.T_Den x (bitsI x).length)) 0 (tm c.T_Num c.T_Den 4) = puts out (itemP c.T_Num c.T_Den x) := by
      unfold itemP tailP
      rw [puts_cons, ← List.append_assoc]
      exact (puts_append _ _ [(0, tm c.T_Num c.T_Den 4)]).symm
    rw [e, ref_l14 hM h l hl hok r (i + 1) m _ h3 (by omega) t3 (by omega) (by omega), List.flatMap_cons, puts_append]
theorem ref_l7 {M : Nat} (hM : 10000000 < M) {c : Manchester} (h : OkR c.T_Num c.T_Den) (l : List Item) (hl : l.length ≤ 1024) : ∀ (r : List Item) (i m : Nat), l.drop i = r → r.length < m → (errA M r = 0 → errA M l = 0) →
    ref17_Encode_l7 M m (i : Int) l c = some (if errA M r = 0 then (if ((runsA c.T_Num c.T_Den l).length : Int) > 262144 then ([], 6) else if total (runsA c.T_Num c.T_Den l) > 1099511627776 then ([], 2) else (line c (runsA c.T_Num c.T_Den l), 0)) else ([], errA M r))
  | r, i, 0, _, hm, _ => by omega
  | [], i, m + 1, hr, hm, he => by
    have := drop_nil hr
    obtain ⟨f1, f2, f3⟩ := first_fine _ _ h
    have h4 := tm4 _ _ h
    simp only [ref17_Encode_l7, b_ref17_Encode_l7, errA, if_true]
    rw [bif_neg (by omega), times_tm M c h 4 (by omega), Option.bind_some, ref_put_is M [] 0 _ (by simp) (fun r hr => by cases hr) h4.1 (by rw [total_nil]; omega), Option.bind_some]
    exact ref_l14 hM h l hl (err_ok M (by omega) l (he rfl)) l 0 M _ rfl (by omega) f1 (by omega) (by omega)
  | x :: r, i, m + 1, hr, hm, he => by
    obtain ⟨h1, h2, h3, h4, h5⟩ := drop_cons hr dflt_Item
    obtain ⟨k1, k2, k3⟩ := chk_is M (by omega) x
    simp only [List.length_cons] at hm
    simp only [ref17_Encode_l7, b_ref17_Encode_l7, h1, k2, Option.bind_some]
    rw [bif_pos (by omega), bif_pos (by omega), bif_pos (by omega), next_i i (by omega), bne_if]
    by_cases hc : chkA M x = 0
    · simp only [err_ok1 r hc]
      rw [if_pos hc]
      exact ref_l7 hM h l hl r (i + 1) m h3 (by omega) (fun h => he (by rw [err_ok1 r hc]; exact h))
    · simp only [err_bad1 r hc]
      rw [if_neg hc, if_neg hc]
theorem ref_encode_is {M : Nat} (hM : 10000000 < M) {c : Manchester} {v : Int} (H : Cf M c v) (l : List Item) : ref17_Encode M c l = some (encA M v c l) := by
  simp only [ref17_Encode, b_ref17_Encode, H.r, Option.bind_some, bne_if, bif_if, encA]
  by_cases hv : v = 0
  · have h := H.ok hv
    rw [if_pos hv, if_pos hv]
    by_cases hl : (l.length : Int) > 1024
    · rw [if_pos hl, if_pos hl]
    · rw [if_neg hl, if_neg hl]
      exact ref_l7 hM h l (by omega) l 0 M rfl (by omega) (fun h => h)
  · rw [if_neg hv, if_neg hv]
theorem runs_fine (M : Nat) (hM : 65536 < M) (n d : Int) (h : OkR n d) (l : List Item) (he : errA M l = 0) : Fine (runsA n d l) := by
  have hok := err_ok M hM l he
  have key : ∀ (r : List Item), (∀ x, x ∈ r → ItemOk x) → FineP (r.flatMap (itemP n d)) := by
    intro r
    induction r with
    | nil => intro _ p hp; cases hp
    | cons x r ih =>
      intro hr
      rw [List.flatMap_cons, fineP_append]
      exact ⟨(item_fine n d h x (hr x List.mem_cons_self)).1, ih fun y hy => hr y (List.mem_cons_of_mem _ hy)⟩
  have h4 := tm4 n d h
  refine puts_fine _ _ (fun r hr => by cases hr) ?_
  unfold allP
  rw [fineP_cons]
  exact ⟨⟨h4.1, by omega, by omega⟩, key l hok⟩
/-- What is known of runs without an error. -/
theorem enc_ok (M : Nat) (hM : 65536 < M) {c : Manchester} {v : Int} (H : Cf M c v) (l : List Item) (h0 : (encA M v c l).2 = 0) : v = 0 ∧ errA M l = 0 ∧ (encA M v c l).1 = line c (runsA c.T_Num c.T_Den l) ∧ Fine (runsA c.T_Num c.T_Den l) ∧ (runsA c.T_Num c.T_Den l).length ≤ 262144 ∧ total (runsA c.T_Num c.T_Den l) ≤ 1099511627776 ∧ l.length ≤ 1024 := by
  unfold encA at h0 ⊢
  by_cases hv : v = 0
  · rw [if_pos hv] at h0 ⊢
    by_cases hl : (l.length : Int) > 1024
    · rw [if_pos hl] at h0; exact absurd h0 (by decide)
    · rw [if_neg hl] at h0 ⊢
      by_cases he : errA M l = 0
      · rw [if_pos he] at h0 ⊢
        by_cases h1 : ((runsA c.T_Num c.T_Den l).length : Int) > 262144
        · rw [if_pos h1] at h0; exact absurd h0 (by decide)
        · rw [if_neg h1] at h0 ⊢
          by_cases h2 : total (runsA c.T_Num c.T_Den l) > 1099511627776
          · rw [if_pos h2] at h0; exact absurd h0 (by decide)
          · rw [if_neg h2]
            exact ⟨hv, he, rfl, runs_fine M hM _ _ (H.ok hv) l he, by omega, by omega, by omega⟩
      · rw [if_neg he] at h0; exact absurd h0 he
  · rw [if_neg hv] at h0; exact absurd h0 hv
theorem enc_bad (M : Nat) (v : Int) (c : Manchester) (l : List Item) (h0 : (encA M v c l).2 ≠ 0) : (encA M v c l).1 = [] := by
  unfold encA at h0 ⊢
  repeat' split
  all_goals first | rfl | (exfalso; simp_all)

/-! ### Levels as events -/
def evs (t : Int) : List Run → List Event
  | [] => []
  | r :: l => Event.mk 1 t (t + r.Ticks) r.Level 0 (bs []) 0 :: evs (t + r.Ticks) l
theorem evs_len : ∀ (l : List Run) (t : Int), (evs t l).length = l.length
  | [], t => rfl
  | r :: l, t => by simp [evs, evs_len l]
theorem expect_l7 {M : Nat} {c : Manchester} {v : Int} (H : Cf M c v) (l : List Run) (hf : Fine l) (hl : l.length ≤ 262144) (hM : 262144 < M) (ht : total l ≤ 1099511627776) : ∀ (r : List Run) (i m : Nat) (acc : List Event), l.drop i = r → r.length < m → acc.length + r.length ≤ 262144 →
    manchester_Expect_l7 M m (total (l.take i)) (l.length : Int) (i : Int) c acc l = some (decA v c (acc ++ evs (total (l.take i)) r), 0)
  | r, i, 0, acc, _, hm, _ => by omega
  | [], i, m + 1, acc, hr, hm, ha => by
    have := drop_nil hr
    simp only [List.length_nil] at ha
    simp only [manchester_Expect_l7, b_manchester_Expect_l7]
    rw [bif_neg (by omega), decode_is H acc (by omega) (by omega)]
    simp [evs]
  | x :: r, i, m + 1, acc, hr, hm, ha => by
    obtain ⟨h1, h2, h3, h4, h5⟩ := drop_cons hr dflt_Run
    have hx := hf x h5
    have ht0 := fine_take hf i
    have ht1 := fine_take hf (i + 1)
    have he := total_drop hr
    simp only [List.length_cons] at hm ha
    simp only [manchester_Expect_l7, b_manchester_Expect_l7, h1]
    rw [bif_pos (by omega), bif_pos (by omega), bif_pos (by omega), bif_pos (by omega), next_i i (by omega), ← he, i64_ok (by omega), expect_l7 H l hf hl hM ht r (i + 1) m _ h3 (by omega) (by simp; omega)]
    simp [evs, he]
theorem levels_l4 {M : Nat} (l : List Run) (hf : Fine l) (hl : l.length ≤ 262144) (ht : total l ≤ 1099511627776) : ∀ (r : List Run) (i m : Nat) (acc : List Event), l.drop i = r → r.length < m → acc.length + r.length ≤ 262144 →
    ref17_Levels_l4 M m (total (l.take i)) (i : Int) l acc = some (acc ++ evs (total (l.take i)) r)
  | r, i, 0, acc, _, hm, _ => by omega
  | [], i, m + 1, acc, hr, hm, ha => by
    have := drop_nil hr
    simp only [ref17_Levels_l4, b_ref17_Levels_l4]
    rw [bif_neg (by omega)]
    simp [evs]
  | x :: r, i, m + 1, acc, hr, hm, ha => by
    obtain ⟨h1, h2, h3, h4, h5⟩ := drop_cons hr dflt_Run
    have hx := hf x h5
    have ht0 := fine_take hf i
    have ht1 := fine_take hf (i + 1)
    have he := total_drop hr
    simp only [List.length_cons] at hm ha
    simp only [ref17_Levels_l4, b_ref17_Levels_l4, h1]
    simp only [bif_pos (show (0 : Int) ≤ (i : Int) by omega), bif_pos (show (i : Int) < (l.length : Int) by omega), bif_pos (show (acc.length + 1) * 64 ≤ 140737488355328 by omega)]
    rw [next_i i (by omega), ← he, i64_ok (by omega), levels_l4 l hf hl ht r (i + 1) m _ h3 (by omega) (by simp; omega)]
    simp [evs, he]
noncomputable def expA (M : Nat) (v : Int) (c : Manchester) (l : List Item) : List Event × Int := if (encA M v c l).2 = 0 then (decA v c (evs 0 (encA M v c l).1), 0) else ([], (encA M v c l).2)
theorem expect_is {M : Nat} (hM : 10000000 < M) {c : Manchester} {v : Int} (H : Cf M c v) (l : List Item) : manchester_Expect M c l = some (expA M v c l) := by
  simp only [manchester_Expect, b_manchester_Expect, encode_is hM H l, Option.bind_some, bne_if, expA]
  by_cases h0 : (encA M v c l).2 = 0
  · obtain ⟨e1, e2, e3, e4, e5, e6, e7⟩ := enc_ok M (by omega) H l h0
    rw [if_pos h0, if_pos h0, e3]
    have := expect_l7 H (line c (runsA c.T_Num c.T_Den l)) (line_fine c e4) (by rw [line_len]; exact e5) (by omega) (by rw [line_total]; exact e6) (line c (runsA c.T_Num c.T_Den l)) 0 M [] rfl (by rw [line_len]; omega) (by rw [line_len]; simpa using e5)
    simpa [total] using this
  · rw [if_neg h0, if_neg h0]
theorem levels_is {M : Nat} (hM : 10000000 < M) (l : List Run) (hf : Fine l) (hl : l.length ≤ 262144) (ht : total l ≤ 1099511627776) : ref17_Levels M l = some (evs 0 l) := by
  simp only [ref17_Levels, b_ref17_Levels, bif_if]
  have := levels_l4 (M := M) l hf hl ht l 0 M [] rfl (by omega) (by simpa using hl)
  repeat rw [if_pos (by omega)]
  simpa [total] using this
theorem ref_expect_is {M : Nat} (hM : 10000000 < M) {c : Manchester} {v : Int} (H : Cf M c v) (l : List Item) : ref17_Expect M c l = some (expA M v c l) := by
  simp only [ref17_Expect, b_ref17_Expect, ref_encode_is hM H l, Option.bind_some, bne_if, expA]
  by_cases h0 : (encA M v c l).2 = 0
  · obtain ⟨e1, e2, e3, e4, e5, e6, e7⟩ := enc_ok M (by omega) H l h0
    rw [if_pos h0, if_pos h0, e3, levels_is hM _ (line_fine c e4) (by rw [line_len]; exact e5) (by rw [line_total]; exact e6), Option.bind_some, ref_decode_is H _ (by rw [evs_len, line_len]; omega) (by rw [evs_len, line_len]; omega)]
    rfl
  · rw [if_neg h0, if_neg h0]
theorem rsame_l4 (M : Nat) (a : List Run) (ha : a.length < 9223372036854775807) : ∀ (k i m : Nat), i + k = a.length → k < m → ref08_Same_l4 M m (i : Int) a a = some true
  | k, i, 0, _, hm => by omega
  | 0, i, m + 1, hi, hm => by
    simp only [ref08_Same_l4, b_ref08_Same_l4]
    rw [bif_neg (by omega)]
  | k + 1, i, m + 1, hi, hm => by
    simp only [ref08_Same_l4, b_ref08_Same_l4, beq_self_eq_true, Bool.and_self, Bool.not_true, Bool.cond_false]
    rw [bif_pos (by omega), bif_pos (by omega), bif_pos (by omega), next_i i (by omega)]
    simp only [bif_pos (show (0 : Int) ≤ (i : Int) by omega), bif_pos (show (i : Int) < (a.length : Int) by omega)]
    exact rsame_l4 M a ha k (i + 1) m (by omega) (by omega)
theorem rsame_self (M : Nat) (a : List Run) (ha : a.length < 9223372036854775807) (hM : a.length < M) : ref08_Same M a a = some true := by
  simp only [ref08_Same, b_ref08_Same, bne_self_eq_false, Bool.cond_false]
  exact rsame_l4 M a ha a.length 0 M (by omega) hM
theorem enc_len (M : Nat) (hM : 65536 < M) {c : Manchester} {v : Int} (H : Cf M c v) (l : List Item) : (encA M v c l).1.length ≤ 262144 := by
  by_cases h0 : (encA M v c l).2 = 0
  · obtain ⟨e1, e2, e3, e4, e5, e6, e7⟩ := enc_ok M hM H l h0
    rw [e3, line_len]; exact e5
  · rw [enc_bad M v c l h0]; simp
theorem exp_len (M : Nat) (hM : 65536 < M) {c : Manchester} {v : Int} (H : Cf M c v) (l : List Item) : (expA M v c l).1.length ≤ 262144 := by
  unfold expA
  split
  · have h1 := decA_len v c (evs 0 (encA M v c l).1)
    have h2 := enc_len M hM H l
    rw [evs_len] at h1
    dsimp only
    omega
  · simp
theorem ManchesterEncodes_true (c : Manchester) (l : List Item) (hc : wf_Manchester c) (hl : (∀ x, x ∈ l → wf_Item x) ∧ l.length * Try.prog.bytesOf 52 ≤ 140737488351232) : ∃ M, law17_ManchesterEncodes M c l = some true := by
  obtain ⟨M, hM⟩ := big
  obtain ⟨v, H⟩ := cf_some M (by omega) c
  refine ⟨M, ?_⟩
  have h1 := enc_len M (by omega) H l
  have h2 := exp_len M (by omega) H l
  simp only [law17_ManchesterEncodes, b_law17_ManchesterEncodes, encode_is (show 10000000 < M by omega) H l, ref_encode_is (show 10000000 < M by omega) H l, expect_is (show 10000000 < M by omega) H l, ref_expect_is (show 10000000 < M by omega) H l, awake_true M (by omega), Option.bind_some, bne_self_eq_false, Bool.cond_false, rsame_self M (encA M v c l).1 (by omega) (by omega), same_self M (expA M v c l).1 (by omega) (by omega), Bool.not_true, beq_self_eq_true, Bool.cond_true]
end Go.Abs.K
