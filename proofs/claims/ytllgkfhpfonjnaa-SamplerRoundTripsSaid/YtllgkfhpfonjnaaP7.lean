/- SAMPLER: Encode and Expect, the program's and the document's. -/
import Derived.Test.YtllgkfhpfonjnaaP6
set_option linter.unusedVariables false
set_option linter.unusedSimpArgs false
namespace Go.Abs.K
open Go Go.Abs Go.Proofs

theorem bd_bounds (n d k : Int) (h : OkR n d) (hk : 0 ≤ k) : 0 ≤ bd n d k ∧ bd n d k ≤ 1048576 * k := ⟨(bd_spec n d k h hk).1, bd_le n d k h hk⟩
theorem level_is {s : ByteArray} {i v : Int} (h : byteAt s i = v + 48) (hv : v = 0 ∨ v = 1) : IntKind.i64.wrap (IntKind.u8.wrap (byteAt s i - 48)) = v := by
  rw [h]; rcases hv with rfl | rfl <;> rfl
theorem enc_l20 (M : Nat) (n d : Int) (h : OkR n d) (x : Item) (hs : x.Data.size ≤ 4096) (l : List Item) (t43 j : Int) (hj : 0 ≤ j ∧ j ≤ 100000) (q : Int → Int → Int → Sampler_machine → List Run → List Item → Option (List Run × Int)) : ∀ (r : List Int) (i m : Nat) (k : Int) (out : List Run), (bitsI x).drop i = r → r.length < m → Bits r → Fine out → 0 ≤ k → k + r.length ≤ 10000000 → out.length + r.length ≤ 10000000 → total out = bd n d k →
    sampler_Encode_l20 M q m k t43 j (x.Data.size : Int) (i : Int) ⟨n, d⟩ out x l = q (k + r.length) t43 (j + 1) ⟨n, d⟩ (puts out (pulses n d r k)) l
  | r, i, 0, k, out, _, hm, _, _, _, _, _, _ => by omega
  | [], i, m + 1, k, out, hr, hm, hb, hf, hk, hk2, ho, ht => by
    have := drop_nil hr
    rw [bitsI_len] at this
    simp only [sampler_Encode_l20, b_sampler_Encode_l20]
    rw [bif_neg (by omega), i64_ok (n := j + 1) (by omega)]
    simp [pulses, puts]
  | v :: r, i, m + 1, k, out, hr, hm, hb, hf, hk, hk2, ho, ht => by
    obtain ⟨g1, g2, g3⟩ := byteAt_bit hr
    have hv := hb v List.mem_cons_self
    have e := level_is g1 hv
    simp only [List.length_cons] at hm hk2 ho
    have b0 := bd_bounds n d k h hk
    have b1 := bd_bounds n d (k + 1) h (by omega)
    have bs' := bd_step n d k h hk
    have hp := put_fine hf v (bd n d (k + 1) - bd n d k) (by omega) (by omega)
    have hpt := put_total out v (bd n d (k + 1) - bd n d k)
    have hpl := put_len out v (bd n d (k + 1) - bd n d k)
    simp only [sampler_Encode_l20, b_sampler_Encode_l20, e]
    rw [bif_pos (by omega), bif_pos (by omega), bif_pos (by omega), i64_ok (n := k + 1) (by omega), (boundary_is M n d (k + 1) h (by omega)).1, Option.bind_some, (boundary_is M n d k h (by omega)).1, Option.bind_some, i64_ok (n := bd n d (k + 1) - bd n d k) (by omega), next_i i (by omega)]
    refine (join_text out v _ (by omega) hf (by omega) (by omega) (fun o => sampler_Encode_l20 M q m (k + 1) t43 j (x.Data.size : Int) ((i + 1 : Nat) : Int) ⟨n, d⟩ o x l)).trans ?_
    rw [enc_l20 M n d h x hs l t43 j hj q r (i + 1) m (k + 1) _ g3 (by omega) (fun w hw => hb w (List.mem_cons_of_mem _ hw)) hp (by omega) (by omega) (by omega) (by omega)]
    simp only [pulses, puts_cons, List.length_cons]
    rw [show k + 1 + (r.length : Int) = k + ((r.length + 1 : Nat) : Int) by omega]
def finA (n d : Int) (out : List Run) (k : Int) : List Run × Int := if (out.length : Int) > 262144 then ([], 6) else if bd n d k > 1099511627776 then ([], 2) else (out, 0)
def allB (l : List Item) : List Int := l.flatMap bitsI
theorem allB_cons (x : Item) (l : List Item) : allB (x :: l) = bitsI x ++ allB l := by simp [allB]
theorem allB_bits : ∀ (l : List Item), (∀ x, x ∈ l → ItemOk x) → Bits (allB l) ∧ (allB l).length ≤ 4096 * l.length
  | [], _ => ⟨fun v (hv : v ∈ ([] : List Int)) => (nomatch hv), Nat.le_refl _⟩
  | x :: l, h => by
    obtain ⟨i1, i2⟩ := allB_bits l fun y hy => h y (List.mem_cons_of_mem _ hy)
    have hx := h x List.mem_cons_self
    have hb := bitsI_ok x hx
    have hl := bitsI_len x
    have hs := hx.size
    rw [allB_cons]
    refine ⟨fun v hv => ?_, ?_⟩
    · rcases List.mem_append.1 hv with hv | hv
      · exact hb v hv
      · exact i1 v hv
    · rw [List.length_append, List.length_cons]; omega
theorem puts_step (n d : Int) (h : OkR n d) (r : List Int) (k : Int) (out : List Run) (hb : Bits r) (hf : Fine out) (hk : 0 ≤ k) (ht : total out = bd n d k) : Fine (puts out (pulses n d r k)) ∧ total (puts out (pulses n d r k)) = bd n d (k + r.length) ∧ (puts out (pulses n d r k)).length ≤ out.length + r.length := by
  obtain ⟨p1, p2, p3⟩ := pulses_fine n d h r k hk hb
  refine ⟨puts_fine _ _ hf p1, ?_, ?_⟩
  · rw [puts_total, p2, ht]; omega
  · have := puts_len (pulses n d r k) out
    omega
theorem enc_l17 (M : Nat) (hM : 10000000 < M) (n d : Int) (h : OkR n d) (l : List Item) (hl : l.length ≤ 1024) (hok : ∀ x, x ∈ l → ItemOk x) : ∀ (r : List Item) (j m : Nat) (k : Int) (out : List Run), l.drop j = r → r.length < m → Fine out → 0 ≤ k → k + 4096 * r.length ≤ 4194304 → out.length + 4096 * r.length ≤ 4194304 → total out = bd n d k →
    sampler_Encode_l17 M m k (l.length : Int) (j : Int) ⟨n, d⟩ out l = some (finA n d (puts out (pulses n d (allB r) k)) (k + (allB r).length))
  | r, j, 0, k, out, _, hm, _, _, _, _, _ => by omega
  | [], j, m + 1, k, out, hr, hm, hf, hk, hk2, ho, ht => by
    have := drop_nil hr
    simp only [List.length_nil] at hk2 ho
    simp only [sampler_Encode_l17, b_sampler_Encode_l17, bif_if, allB, List.flatMap_nil, pulses, List.length_nil]
    rw [if_neg (by omega), (boundary_is M n d k h (by omega)).1, Option.bind_some]
    have e : puts out [] = out := rfl
    rw [e, show k + ((0 : Nat) : Int) = k by omega]
    unfold finA
    repeat' split
    all_goals rfl
  | x :: r, j, m + 1, k, out, hr, hm, hf, hk, hk2, ho, ht => by
    obtain ⟨h1, h2, h3, h4, h5⟩ := drop_cons hr dflt_Item
    have hx := hok x h5
    have hs := hx.size
    have hb := bitsI_ok x hx
    have hbl := bitsI_len x
    simp only [List.length_cons] at hm hk2 ho
    obtain ⟨s1, s2, s3⟩ := puts_step n d h (bitsI x) k out hb hf hk ht
    simp only [sampler_Encode_l17, b_sampler_Encode_l17, h1]
    rw [bif_pos (by omega), bif_pos (by omega), bif_pos (by omega)]
    have key := enc_l20 M n d h x hs l (l.length : Int) (j : Int) (by omega) (fun n_12 t43 t44 c0 out_11 t42 => sampler_Encode_l17 M m n_12 t43 t44 c0 out_11 t42) (bitsI x) 0 M k out rfl (by omega) hb hf hk (by omega) (by omega) ht
    refine key.trans ?_
    rw [show (j : Int) + 1 = ((j + 1 : Nat) : Int) by omega, enc_l17 M hM n d h l hl hok r (j + 1) m (k + (bitsI x).length) _ h3 (by omega) s1 (by omega) (by omega) (by omega) s2, allB_cons, pulses_append, puts_append, List.length_append]
    rw [show k + (bitsI x).length + ((allB r).length : Int) = k + (((bitsI x).length + (allB r).length : Nat) : Int) by omega]
def runsA (n d : Int) (l : List Item) : List Run := puts [] (pulses n d (allB l) 0)
theorem bd_zero (n d : Int) : bd n d 0 = 0 := by simp [bd]
/-- What Encode gives. -/
noncomputable def encA (M : Nat) (v : Int) (c : Clock) (l : List Item) : List Run × Int :=
  if v = 0 then (if (l.length : Int) > 1024 then ([], 6) else if errA M l = 0 then finA c.T_Num c.T_Den (runsA c.T_Num c.T_Den l) (allB l).length else ([], errA M l)) else ([], v)
theorem enc_l7 {M : Nat} (hM : 10000000 < M) {c : Clock} (h : OkR c.T_Num c.T_Den) (l : List Item) (hl : l.length ≤ 1024) : ∀ (r : List Item) (i m : Nat), l.drop i = r → r.length < m → (errA M r = 0 → errA M l = 0) →
    sampler_Encode_l7 M m (l.length : Int) (i : Int) l c = some (if errA M r = 0 then finA c.T_Num c.T_Den (runsA c.T_Num c.T_Den l) (allB l).length else ([], errA M r))
  | r, i, 0, _, hm, _ => by omega
  | [], i, m + 1, hr, hm, he => by
    have := drop_nil hr
    simp only [sampler_Encode_l7, b_sampler_Encode_l7, errA, if_true]
    rw [bif_neg (by omega)]
    have := enc_l17 M hM c.T_Num c.T_Den h l hl (err_ok M (by omega) l (he rfl)) l 0 M 0 [] rfl (by omega) (fun r hr => by cases hr) (by omega) (by omega) (by simp; omega) (by rw [bd_zero]; rfl)
    rw [Int.zero_add] at this
    exact this
  | x :: r, i, m + 1, hr, hm, he => by
    obtain ⟨h1, h2, h3, h4, h5⟩ := drop_cons hr dflt_Item
    obtain ⟨k1, k2, k3⟩ := chk_is M (by omega) x
    simp only [List.length_cons] at hm
    simp only [sampler_Encode_l7, b_sampler_Encode_l7, h1, k1, Option.bind_some]
    rw [bif_pos (by omega), bif_pos (by omega), bif_pos (by omega), next_i i (by omega), bne_if]
    by_cases hc : chkA M x = 0
    · simp only [err_ok1 r hc]
      rw [if_pos hc]
      exact enc_l7 hM h l hl r (i + 1) m h3 (by omega) (fun h => he (by rw [err_ok1 r hc]; exact h))
    · simp only [err_bad1 r hc]
      rw [if_neg hc, if_neg hc]
theorem encode_is {M : Nat} (hM : 10000000 < M) {c : Clock} {v : Int} (H : Cf M c v) (l : List Item) : sampler_Encode M c l = some (encA M v c l) := by
  simp only [sampler_Encode, b_sampler_Encode, H.p, Option.bind_some, bne_if, bif_if, encA]
  by_cases hv : v = 0
  · have h := H.ok hv
    rw [if_pos hv, if_pos hv]
    by_cases hl : (l.length : Int) > 1024
    · rw [if_pos hl, if_pos hl]
    · rw [if_neg hl, if_neg hl]
      exact enc_l7 hM h l (by omega) l 0 M rfl (by omega) (fun h => h)
  · rw [if_neg hv, if_neg hv]

/-! ### The document's -/
theorem ref_l18 (M : Nat) (c : Clock) (h : OkR c.T_Num c.T_Den) (x : Item) (hs : x.Data.size ≤ 4096) (l : List Item) (hl : l.length ≤ 1024) (j : Nat) (hj : j < l.length) (hx : l.getD ((j : Int)).toNat dflt_Item = x) (q : Int → Int → List Item → Clock → List Run → Option (List Run × Int)) : ∀ (r : List Int) (i m : Nat) (k : Int) (out : List Run), (bitsI x).drop i = r → r.length < m → Bits r → Fine out → 0 ≤ k → k + r.length ≤ 10000000 → out.length + r.length ≤ 10000000 → total out = bd c.T_Num c.T_Den k →
    ref15_Encode_l18 M q m k (j : Int) (i : Int) l c out = q (k + r.length) ((j : Int) + 1) l c (puts out (pulses c.T_Num c.T_Den r k))
  | r, i, 0, k, out, _, hm, _, _, _, _, _, _ => by omega
  | [], i, m + 1, k, out, hr, hm, hb, hf, hk, hk2, ho, ht => by
    have := drop_nil hr
    rw [bitsI_len] at this
    simp only [ref15_Encode_l18, b_ref15_Encode_l18, hx]
    rw [bif_pos (by omega), bif_pos (by omega), bif_neg (by omega), i64_ok (n := (j : Int) + 1) (by omega)]
    simp [pulses, puts]
  | v :: r, i, m + 1, k, out, hr, hm, hb, hf, hk, hk2, ho, ht => by
    obtain ⟨g1, g2, g3⟩ := byteAt_bit hr
    have hv := hb v List.mem_cons_self
    have e := level_is g1 hv
    simp only [List.length_cons] at hm hk2 ho
    have b0 := bd_bounds c.T_Num c.T_Den k h hk
    have b1 := bd_bounds c.T_Num c.T_Den (k + 1) h (by omega)
    have bs' := bd_step c.T_Num c.T_Den k h hk
    have hp := put_fine hf v (bd c.T_Num c.T_Den (k + 1) - bd c.T_Num c.T_Den k) (by omega) (by omega)
    have hpt := put_total out v (bd c.T_Num c.T_Den (k + 1) - bd c.T_Num c.T_Den k)
    have hpl := put_len out v (bd c.T_Num c.T_Den (k + 1) - bd c.T_Num c.T_Den k)
    simp only [ref15_Encode_l18, b_ref15_Encode_l18, hx, e, ge_text out (by omega)]
    simp only [bif_pos (show (0 : Int) ≤ (j : Int) by omega), bif_pos (show (j : Int) < (l.length : Int) by omega), bif_pos (show (0 : Int) ≤ (i : Int) by omega), bif_pos (show (i : Int) < (x.Data.size : Int) by omega)]
    rw [i64_ok (n := k + 1) (by omega), (boundary_is M c.T_Num c.T_Den (k + 1) h (by omega)).2, Option.bind_some, (boundary_is M c.T_Num c.T_Den k h (by omega)).2, Option.bind_some, i64_ok (n := bd c.T_Num c.T_Den (k + 1) - bd c.T_Num c.T_Den k) (by omega), next_i i (by omega)]
    have jt := join_text out v (bd c.T_Num c.T_Den (k + 1) - bd c.T_Num c.T_Den k) (by omega) hf (by omega) (by omega) (fun o => ref15_Encode_l18 M q m (k + 1) (j : Int) ((i + 1 : Nat) : Int) l c o)
    rw [show decide (0 ≤ IntKind.i64.wrap ((out.length : Int) - 1)) = decide ((out.length : Int) > 0) from ge_text out (by omega)] at jt
    refine jt.trans ?_
    rw [ref_l18 M c h x hs l hl j hj hx q r (i + 1) m (k + 1) _ g3 (by omega) (fun w hw => hb w (List.mem_cons_of_mem _ hw)) hp (by omega) (by omega) (by omega) (by omega)]
    simp only [pulses, puts_cons, List.length_cons]
    rw [show k + 1 + (r.length : Int) = k + ((r.length + 1 : Nat) : Int) by omega]
theorem ref_l15 (M : Nat) (hM : 10000000 < M) (c : Clock) (h : OkR c.T_Num c.T_Den) (l : List Item) (hl : l.length ≤ 1024) (hok : ∀ x, x ∈ l → ItemOk x) : ∀ (r : List Item) (j m : Nat) (k : Int) (out : List Run), l.drop j = r → r.length < m → Fine out → 0 ≤ k → k + 4096 * r.length ≤ 4194304 → out.length + 4096 * r.length ≤ 4194304 → total out = bd c.T_Num c.T_Den k →
    ref15_Encode_l15 M m k (j : Int) l c out = some (finA c.T_Num c.T_Den (puts out (pulses c.T_Num c.T_Den (allB r) k)) (k + (allB r).length))
  | r, j, 0, k, out, _, hm, _, _, _, _, _ => by omega
  | [], j, m + 1, k, out, hr, hm, hf, hk, hk2, ho, ht => by
    have := drop_nil hr
    simp only [List.length_nil] at hk2 ho
    simp only [ref15_Encode_l15, b_ref15_Encode_l15, bif_if, allB, List.flatMap_nil, pulses, List.length_nil]
    rw [if_neg (by omega), (boundary_is M c.T_Num c.T_Den k h (by omega)).2, Option.bind_some]
    have e : puts out [] = out := rfl
    rw [e, show k + ((0 : Nat) : Int) = k by omega]
    unfold finA
    repeat' split
    all_goals rfl
  | x :: r, j, m + 1, k, out, hr, hm, hf, hk, hk2, ho, ht => by
    obtain ⟨h1, h2, h3, h4, h5⟩ := drop_cons hr dflt_Item
    have hx := hok x h5
    have hs := hx.size
    have hb := bitsI_ok x hx
    have hbl := bitsI_len x
    simp only [List.length_cons] at hm hk2 ho
    obtain ⟨s1, s2, s3⟩ := puts_step c.T_Num c.T_Den h (bitsI x) k out hb hf hk ht
    simp only [ref15_Encode_l15, b_ref15_Encode_l15]
    rw [bif_pos (by omega)]
    have key := ref_l18 M c h x hs l hl j h2 h1 (fun n_10 i_11 l_1 c1 out_9 => ref15_Encode_l15 M m n_10 i_11 l_1 c1 out_9) (bitsI x) 0 M k out rfl (by omega) hb hf hk (by omega) (by omega) ht
    refine key.trans ?_
    rw [show (j : Int) + 1 = ((j + 1 : Nat) : Int) by omega, ref_l15 M hM c h l hl hok r (j + 1) m (k + (bitsI x).length) _ h3 (by omega) s1 (by omega) (by omega) (by omega) s2, allB_cons, pulses_append, puts_append, List.length_append]
    rw [show k + (bitsI x).length + ((allB r).length : Int) = k + (((bitsI x).length + (allB r).length : Nat) : Int) by omega]
theorem ref_l7 {M : Nat} (hM : 10000000 < M) {c : Clock} (h : OkR c.T_Num c.T_Den) (l : List Item) (hl : l.length ≤ 1024) : ∀ (r : List Item) (i m : Nat), l.drop i = r → r.length < m → (errA M r = 0 → errA M l = 0) →
    ref15_Encode_l7 M m (i : Int) l c = some (if errA M r = 0 then finA c.T_Num c.T_Den (runsA c.T_Num c.T_Den l) (allB l).length else ([], errA M r))
  | r, i, 0, _, hm, _ => by omega
  | [], i, m + 1, hr, hm, he => by
    have := drop_nil hr
    simp only [ref15_Encode_l7, b_ref15_Encode_l7, errA, if_true]
    rw [bif_neg (by omega)]
    have := ref_l15 M hM c h l hl (err_ok M (by omega) l (he rfl)) l 0 M 0 [] rfl (by omega) (fun r hr => by cases hr) (by omega) (by omega) (by simp; omega) (by rw [bd_zero]; rfl)
    rw [Int.zero_add] at this
    exact this
  | x :: r, i, m + 1, hr, hm, he => by
    obtain ⟨h1, h2, h3, h4, h5⟩ := drop_cons hr dflt_Item
    obtain ⟨k1, k2, k3⟩ := chk_is M (by omega) x
    simp only [List.length_cons] at hm
    simp only [ref15_Encode_l7, b_ref15_Encode_l7, h1, k2, Option.bind_some]
    rw [bif_pos (by omega), bif_pos (by omega), bif_pos (by omega), next_i i (by omega), bne_if]
    by_cases hc : chkA M x = 0
    · simp only [err_ok1 r hc]
      rw [if_pos hc]
      exact ref_l7 hM h l hl r (i + 1) m h3 (by omega) (fun h => he (by rw [err_ok1 r hc]; exact h))
    · simp only [err_bad1 r hc]
      rw [if_neg hc, if_neg hc]
theorem ref_encode_is {M : Nat} (hM : 10000000 < M) {c : Clock} {v : Int} (H : Cf M c v) (l : List Item) : ref15_Encode M c l = some (encA M v c l) := by
  simp only [ref15_Encode, b_ref15_Encode, H.r, Option.bind_some, bne_if, bif_if, encA]
  by_cases hv : v = 0
  · have h := H.ok hv
    rw [if_pos hv, if_pos hv]
    by_cases hl : (l.length : Int) > 1024
    · rw [if_pos hl, if_pos hl]
    · rw [if_neg hl, if_neg hl]
      exact ref_l7 hM h l (by omega) l 0 M rfl (by omega) (fun h => h)
  · rw [if_neg hv, if_neg hv]
/-- What is known of runs without an error. -/
theorem enc_ok (M : Nat) (hM : 65536 < M) {c : Clock} {v : Int} (H : Cf M c v) (l : List Item) (h0 : (encA M v c l).2 = 0) : v = 0 ∧ (encA M v c l).1 = runsA c.T_Num c.T_Den l ∧ Fine (runsA c.T_Num c.T_Den l) ∧ (runsA c.T_Num c.T_Den l).length ≤ 262144 ∧ total (runsA c.T_Num c.T_Den l) ≤ 1099511627776 ∧ total (runsA c.T_Num c.T_Den l) = bd c.T_Num c.T_Den (allB l).length ∧ l.length ≤ 1024 ∧ (∀ x, x ∈ l → ItemOk x) := by
  unfold encA at h0 ⊢
  by_cases hv : v = 0
  · rw [if_pos hv] at h0 ⊢
    by_cases hl : (l.length : Int) > 1024
    · rw [if_pos hl] at h0; exact absurd h0 (by decide)
    · rw [if_neg hl] at h0 ⊢
      by_cases he : errA M l = 0
      · rw [if_pos he] at h0 ⊢
        have hok := err_ok M hM l he
        obtain ⟨s1, s2, s3⟩ := puts_step c.T_Num c.T_Den (H.ok hv) (allB l) 0 [] (allB_bits l hok).1 (fun r hr => by cases hr) (by omega) (by rw [bd_zero]; rfl)
        rw [Int.zero_add] at s2
        change total (runsA c.T_Num c.T_Den l) = _ at s2
        unfold finA at h0 ⊢
        by_cases h1 : ((runsA c.T_Num c.T_Den l).length : Int) > 262144
        · rw [if_pos h1] at h0; exact absurd h0 (by decide)
        · rw [if_neg h1] at h0 ⊢
          by_cases h2 : bd c.T_Num c.T_Den (allB l).length > 1099511627776
          · rw [if_pos h2] at h0; exact absurd h0 (by decide)
          · rw [if_neg h2]
            exact ⟨hv, rfl, s1, by omega, by omega, s2, by omega, hok⟩
      · rw [if_neg he] at h0; exact absurd h0 he
  · rw [if_neg hv] at h0; exact absurd h0 hv
theorem enc_bad (M : Nat) (v : Int) (c : Clock) (l : List Item) (h0 : (encA M v c l).2 ≠ 0) : (encA M v c l).1 = [] := by
  unfold encA finA at h0 ⊢
  repeat' split
  all_goals first | rfl | (exfalso; simp_all)

/-! ### Levels as events -/
def evs (t : Int) : List Run → List Event
  | [] => []
  | r :: l => Event.mk 1 t (t + r.Ticks) r.Level 0 (bs []) 0 :: evs (t + r.Ticks) l
theorem evs_len : ∀ (l : List Run) (t : Int), (evs t l).length = l.length
  | [], t => rfl
  | r :: l, t => by simp [evs, evs_len l]
theorem expect_l7 {M : Nat} {c : Clock} {v : Int} (H : Cf M c v) (l : List Run) (hf : Fine l) (hl : l.length ≤ 262144) (hM : 1200000000000 < M) (ht : total l ≤ 1099511627776) : ∀ (r : List Run) (i m : Nat) (acc : List Event), l.drop i = r → r.length < m → acc.length + r.length ≤ 262144 →
    sampler_Expect_l7 M m (total (l.take i)) (l.length : Int) (i : Int) c acc l = some (decA v c (acc ++ evs (total (l.take i)) r), 0)
  | r, i, 0, acc, _, hm, _ => by omega
  | [], i, m + 1, acc, hr, hm, ha => by
    have := drop_nil hr
    simp only [List.length_nil] at ha
    simp only [sampler_Expect_l7, b_sampler_Expect_l7]
    rw [bif_neg (by omega), decode_is hM H acc (by omega)]
    simp [evs]
  | x :: r, i, m + 1, acc, hr, hm, ha => by
    obtain ⟨h1, h2, h3, h4, h5⟩ := drop_cons hr dflt_Run
    have hx := hf x h5
    have ht0 := fine_take hf i
    have ht1 := fine_take hf (i + 1)
    have he := total_drop hr
    simp only [List.length_cons] at hm ha
    simp only [sampler_Expect_l7, b_sampler_Expect_l7, h1]
    rw [bif_pos (by omega), bif_pos (by omega), bif_pos (by omega), bif_pos (by omega), next_i i (by omega), ← he, i64_ok (by omega), expect_l7 H l hf hl hM ht r (i + 1) m _ h3 (by omega) (by simp; omega)]
    simp [evs, he]
theorem events_l4 {M : Nat} (l : List Run) (hf : Fine l) (hl : l.length ≤ 262144) (ht : total l ≤ 1099511627776) : ∀ (r : List Run) (i m : Nat) (acc : List Event), l.drop i = r → r.length < m → acc.length + r.length ≤ 262144 →
    ref15_Events_l4 M m (total (l.take i)) (i : Int) l acc = some (acc ++ evs (total (l.take i)) r)
  | r, i, 0, acc, _, hm, _ => by omega
  | [], i, m + 1, acc, hr, hm, ha => by
    have := drop_nil hr
    simp only [ref15_Events_l4, b_ref15_Events_l4]
    rw [bif_neg (by omega)]
    simp [evs]
  | x :: r, i, m + 1, acc, hr, hm, ha => by
    obtain ⟨h1, h2, h3, h4, h5⟩ := drop_cons hr dflt_Run
    have hx := hf x h5
    have ht0 := fine_take hf i
    have ht1 := fine_take hf (i + 1)
    have he := total_drop hr
    simp only [List.length_cons] at hm ha
    simp only [ref15_Events_l4, b_ref15_Events_l4, h1]
    simp only [bif_pos (show (0 : Int) ≤ (i : Int) by omega), bif_pos (show (i : Int) < (l.length : Int) by omega), bif_pos (show (acc.length + 1) * 64 ≤ 140737488355328 by omega)]
    rw [next_i i (by omega), ← he, i64_ok (by omega), events_l4 l hf hl ht r (i + 1) m _ h3 (by omega) (by simp; omega)]
    simp [evs, he]
noncomputable def expA (M : Nat) (v : Int) (c : Clock) (l : List Item) : List Event × Int := if (encA M v c l).2 = 0 then (decA v c (evs 0 (encA M v c l).1), 0) else ([], (encA M v c l).2)
theorem expect_is {M : Nat} (hM : 1200000000000 < M) {c : Clock} {v : Int} (H : Cf M c v) (l : List Item) : sampler_Expect M c l = some (expA M v c l) := by
  simp only [sampler_Expect, b_sampler_Expect, encode_is (by omega) H l, Option.bind_some, bne_if, expA]
  by_cases h0 : (encA M v c l).2 = 0
  · obtain ⟨e1, e3, e4, e5, e6, e7, e8, e9⟩ := enc_ok M (by omega) H l h0
    rw [if_pos h0, if_pos h0, e3]
    have := expect_l7 H (runsA c.T_Num c.T_Den l) e4 e5 hM e6 (runsA c.T_Num c.T_Den l) 0 M [] rfl (by omega) (by simpa using e5)
    simpa [total] using this
  · rw [if_neg h0, if_neg h0]
theorem events_is {M : Nat} (hM : 10000000 < M) (l : List Run) (hf : Fine l) (hl : l.length ≤ 262144) (ht : total l ≤ 1099511627776) : ref15_Events M l = some (evs 0 l) := by
  simp only [ref15_Events, b_ref15_Events]
  have := events_l4 (M := M) l hf hl ht l 0 M [] rfl (by omega) (by simpa using hl)
  simpa [total] using this
theorem ref_expect_is {M : Nat} (hM : 1200000000000 < M) {c : Clock} {v : Int} (H : Cf M c v) (l : List Item) : ref15_Expect M c l = some (expA M v c l) := by
  simp only [ref15_Expect, b_ref15_Expect, ref_encode_is (by omega) H l, Option.bind_some, bne_if, expA]
  by_cases h0 : (encA M v c l).2 = 0
  · obtain ⟨e1, e3, e4, e5, e6, e7, e8, e9⟩ := enc_ok M (by omega) H l h0
    rw [if_pos h0, if_pos h0, e3, events_is (by omega) _ e4 e5 e6, Option.bind_some, ref_decode_is hM H _ (by rw [evs_len]; omega)]
    rfl
  · rw [if_neg h0, if_neg h0]
theorem few_l5 (M : Nat) (l : List Item) (hl : l.length ≤ 1100) : ∀ (r : List Item) (i m : Nat) (k : Int), l.drop i = r → r.length < m → 0 ≤ k → k ≤ 20000 → (∀ x, x ∈ r → x.Data.size ≤ 140737488355328) → ∃ b, law15_few_l5 M m k (i : Int) l = some b
  | r, i, 0, k, _, hm, _, _, _ => by omega
  | [], i, m + 1, k, hr, hm, _, _, _ => by
    have := drop_nil hr
    exact ⟨true, by simp only [law15_few_l5, b_law15_few_l5]; rw [bif_neg (by omega)]⟩
  | x :: r, i, m + 1, k, hr, hm, hk, hk2, hs => by
    obtain ⟨h1, h2, h3, h4, h5⟩ := drop_cons hr dflt_Item
    simp only [List.length_cons] at hm
    have hx := hs x List.mem_cons_self
    simp only [law15_few_l5, b_law15_few_l5, h1]
    rw [bif_pos (by omega), bif_pos (by omega), bif_pos (by omega), i64_ok (n := k + (x.Data.size : Int)) (by omega), next_i i (by omega)]
    by_cases c : k + (x.Data.size : Int) > 20000
    · exact ⟨false, by rw [bif_pos c]⟩
    · rw [bif_neg c]
      exact few_l5 M l hl r (i + 1) m _ h3 (by omega) (by omega) (by omega) fun y hy => hs y (List.mem_cons_of_mem _ hy)
theorem few_is (M : Nat) (hM : 10000 < M) (l : List Item) (hs : ∀ x, x ∈ l → x.Data.size ≤ 140737488355328) : ∃ b, law15_few M l = some b := by
  simp only [law15_few, b_law15_few]
  by_cases c : (l.length : Int) > 1100
  · exact ⟨false, by rw [bif_pos c]⟩
  · rw [bif_neg c]
    exact few_l5 M l (by omega) l 0 M 0 rfl (by omega) (by omega) (by omega) hs
theorem enc_len (M : Nat) (hM : 65536 < M) {c : Clock} {v : Int} (H : Cf M c v) (l : List Item) : (encA M v c l).1.length ≤ 262144 := by
  by_cases h0 : (encA M v c l).2 = 0
  · obtain ⟨e1, e3, e4, e5, e6, e7, e8, e9⟩ := enc_ok M hM H l h0
    rw [e3]; exact e5
  · rw [enc_bad M v c l h0]; simp
theorem exp_len (M : Nat) (hM : 65536 < M) {c : Clock} {v : Int} (H : Cf M c v) (l : List Item) : (expA M v c l).1.length ≤ 1099511627776 := by
  unfold expA
  split
  · exact decA_len H _
  · simp
theorem encodes_l10 {M : Nat} (hM : 10000000000000 < M) {c : Clock} {v : Int} (H : Cf M c v) (l : List Item) (a : List Run) (ha : a.length ≤ 262144) : ∀ (k i m : Nat), i + k = a.length → k < m → law15_SamplerEncodes_l10 M m (i : Int) l c a a = some true
  | k, i, 0, _, hm => by omega
  | 0, i, m + 1, hi, hm => by
    have h2 := exp_len M (by omega) H l
    simp only [law15_SamplerEncodes_l10, b_law15_SamplerEncodes_l10, expect_is (show 1200000000000 < M by omega) H l, ref_expect_is (show 1200000000000 < M by omega) H l, Option.bind_some, same_self M (expA M v c l).1 (by omega) (by omega), beq_self_eq_true, Bool.cond_true]
    rw [bif_neg (by omega)]
  | k + 1, i, m + 1, hi, hm => by
    simp only [law15_SamplerEncodes_l10, b_law15_SamplerEncodes_l10, beq_self_eq_true, Bool.and_self, Bool.not_true, Bool.cond_false]
    rw [bif_pos (by omega), bif_pos (by omega), bif_pos (by omega), next_i i (by omega)]
    simp only [bif_pos (show (0 : Int) ≤ (i : Int) by omega), bif_pos (show (i : Int) < (a.length : Int) by omega)]
    exact encodes_l10 hM H l a ha k (i + 1) m (by omega) (by omega)
theorem wf_size (l : List Item) (hl : ∀ x, x ∈ l → wf_Item x) : ∀ x, x ∈ l → x.Data.size ≤ 140737488355328 := by
  intro x hx
  have := (hl x hx).2.2.2.1
  omega
theorem SamplerEncodes_true (c : Clock) (l : List Item) (hc : wf_Clock c) (hl : (∀ x, x ∈ l → wf_Item x) ∧ l.length * Try.prog.bytesOf 49 ≤ 140737488351232) : ∃ M, law15_SamplerEncodes M c l = some true := by
  obtain ⟨M, hM⟩ := big
  obtain ⟨v, H⟩ := cf_some M (by omega) c
  obtain ⟨b, hb⟩ := few_is M (by omega) l (wf_size l hl.1)
  refine ⟨M, ?_⟩
  have h1 := enc_len M (by omega) H l
  simp only [law15_SamplerEncodes, b_law15_SamplerEncodes, lives_true M (by omega), hb, Option.bind_some, Bool.not_true, Bool.cond_false]
  cases b with
  | false => rfl
  | true =>
    simp only [encode_is (show 10000000 < M by omega) H l, ref_encode_is (show 10000000 < M by omega) H l, Option.bind_some, bne_self_eq_false, Bool.not_true, Bool.cond_false]
    exact encodes_l10 hM H l _ h1 (encA M v c l).1.length 0 M (by omega) (by omega)
end Go.Abs.K
