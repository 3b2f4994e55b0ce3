/- MANCHESTER: what is sent, the program's and the document's. -/
import Derived.Test.YthobjcamfkplkaaP2
set_option linter.unusedVariables false
set_option linter.unusedSimpArgs false
namespace Go.Abs.K
open Go Go.Abs Go.Proofs

/-! ### Levels that are joined -/
def putA (l : List Run) (v t : Int) : List Run :=
  if t = 0 then l else match l.getLast? with
    | some r => if r.Level = v then l.dropLast ++ [⟨v, r.Ticks + t⟩] else l ++ [⟨v, t⟩]
    | none => [⟨v, t⟩]
theorem put_nil (v t : Int) : putA [] v t = if t = 0 then [] else [⟨v, t⟩] := rfl
theorem put_snoc (l : List Run) (r : Run) (v t : Int) : putA (l ++ [r]) v t = if t = 0 then l ++ [r] else if r.Level = v then l ++ [⟨v, r.Ticks + t⟩] else l ++ [r] ++ [⟨v, t⟩] := by
  unfold putA
  simp
theorem snoc_cases {α : Type} (l : List α) : l = [] ∨ ∃ k r, l = k ++ [r] := by
  rcases List.eq_nil_or_concat l with h | ⟨k, r, h⟩
  · exact .inl h
  · exact .inr ⟨k, r, by simpa using h⟩
def total (l : List Run) : Int := (l.map (·.Ticks)).sum
theorem total_nil : total [] = 0 := rfl
theorem total_append (a b : List Run) : total (a ++ b) = total a + total b := by simp [total, List.sum_append]
theorem total_one (r : Run) : total [r] = r.Ticks := by simp [total]
theorem put_total (l : List Run) (v t : Int) : total (putA l v t) = total l + t := by
  rcases snoc_cases l with rfl | ⟨k, r, rfl⟩
  · rw [put_nil]; split <;> simp [total] <;> omega
  · rw [put_snoc]
    split
    · omega
    · split <;> simp only [total_append, total_one] <;> omega
theorem put_len (l : List Run) (v t : Int) : (putA l v t).length ≤ l.length + 1 := by
  rcases snoc_cases l with rfl | ⟨k, r, rfl⟩
  · rw [put_nil]; split <;> simp
  · rw [put_snoc]
    repeat' split
    all_goals simp
/-- Ticks are not negative, levels are those of a signal. -/
def Fine (l : List Run) : Prop := ∀ r, r ∈ l → 1 ≤ r.Ticks ∧ 0 ≤ r.Level ∧ r.Level ≤ 1
theorem fine_total {l : List Run} (h : Fine l) : 0 ≤ total l ∧ ∀ r, r ∈ l → r.Ticks ≤ total l := by
  induction l with
  | nil => exact ⟨by simp [total], fun r hr => by cases hr⟩
  | cons a l ih =>
    obtain ⟨h1, h2⟩ := ih (fun r hr => h r (List.mem_cons_of_mem _ hr))
    have ha := h a List.mem_cons_self
    have e : total (a :: l) = a.Ticks + total l := by simp [total]
    refine ⟨by omega, fun r hr => ?_⟩
    rcases List.mem_cons.1 hr with rfl | hr
    · omega
    · have := h2 r hr; omega
theorem put_fine {l : List Run} (h : Fine l) (v t : Int) (ht : 0 ≤ t) (hv : 0 ≤ v ∧ v ≤ 1) : Fine (putA l v t) := by
  rcases snoc_cases l with rfl | ⟨k, r, rfl⟩
  · rw [put_nil]
    split
    · exact h
    · intro r hr; simp only [List.mem_singleton] at hr; subst hr; exact ⟨by dsimp only; omega, hv.1, hv.2⟩
  · rw [put_snoc]
    have hr := h r (by simp)
    split
    · exact h
    · split
      · intro x hx
        rcases List.mem_append.1 hx with hx | hx
        · exact h x (by simp [hx])
        · simp only [List.mem_singleton] at hx; subst hx; exact ⟨by dsimp only; omega, hv.1, hv.2⟩
      · intro x hx
        rcases List.mem_append.1 hx with hx | hx
        · exact h x hx
        · simp only [List.mem_singleton] at hx; subst hx; exact ⟨by dsimp only; omega, hv.1, hv.2⟩
theorem getD_snoc {α : Type} (k : List α) (r d : α) : (k ++ [r]).getD (((k ++ [r]).length : Int) - 1).toNat d = r := by
  have : (((k ++ [r]).length : Int) - 1).toNat = k.length := by simp
  rw [this, List.getD_eq_getElem?_getD, List.getElem?_append_right (Nat.le_refl _)]; simp
theorem set_snoc {α : Type} (k : List α) (r x : α) : (k ++ [r]).set (((k ++ [r]).length : Int) - 1).toNat x = k ++ [x] := by
  have : (((k ++ [r]).length : Int) - 1).toNat = k.length := by simp
  rw [this, List.set_append_right _ _ (Nat.le_refl _)]; simp
theorem add_is (M : Nat) (l : List Run) (v t : Int) (hl : l.length ≤ 1000000000000) (hf : Fine l) (ht : 0 ≤ t) (hb : total l + t ≤ 1000000000000000000) : manchester_add M l v t = some (putA l v t) := by
  obtain ⟨g1, g2⟩ := fine_total hf
  simp only [manchester_add, b_manchester_add, bif_if, beq_if]
  rcases snoc_cases l with rfl | ⟨k, r, rfl⟩
  · rw [put_nil]
    simp only [List.length_nil]
    rw [if_neg (show ¬ ((0 : Nat) : Int) > 0 by omega)]
    split
    · rfl
    · rw [if_pos (by omega)]; rfl
  · have hlen : ((k ++ [r]).length : Int) = k.length + 1 := by simp
    have hl' : k.length + 1 ≤ 1000000000000 := by simpa using hl
    have hr := g2 r (by simp)
    have hr1 := hf r (by simp)
    rw [i64_ok (n := (((k ++ [r]).length : Int)) - 1) (by omega), getD_snoc, put_snoc, i64_ok (n := r.Ticks + t) (by omega)]
    rw [if_pos (by omega), if_pos (by omega), if_pos (by omega)]
    by_cases c1 : r.Level = v
    · rw [if_pos c1, if_pos (by omega), if_pos (by omega), if_pos (by omega), if_pos (by omega), set_snoc, if_pos c1]
      split
      · rename_i h0; subst h0; subst c1; simp
      · subst c1; rfl
    · rw [if_neg c1, if_neg c1]
      split
      · rfl
      · rw [if_pos (by simp; omega)]
theorem ref_put_is (M : Nat) (l : List Run) (v t : Int) (hl : l.length ≤ 1000000000000) (hf : Fine l) (ht : 0 ≤ t) (hb : total l + t ≤ 1000000000000000000) : ref17_put M l v t = some (putA l v t) := by
  obtain ⟨g1, g2⟩ := fine_total hf
  simp only [ref17_put, b_ref17_put, bif_if, beq_if]
  rcases snoc_cases l with rfl | ⟨k, r, rfl⟩
  · rw [put_nil]
    simp only [List.length_nil]
    by_cases h0 : t = 0
    · rw [if_pos (by omega), if_pos h0]
    · rw [if_neg (by omega), if_neg (by omega), if_pos (by omega), if_neg h0]; rfl
  · have hlen : ((k ++ [r]).length : Int) = k.length + 1 := by simp
    have hl' : k.length + 1 ≤ 1000000000000 := by simpa using hl
    have hr := g2 r (by simp)
    have hr1 := hf r (by simp)
    rw [i64_ok (n := (((k ++ [r]).length : Int)) - 1) (by omega), getD_snoc, put_snoc, i64_ok (n := r.Ticks + t) (by omega)]
    by_cases h0 : t = 0
    · rw [if_pos (by omega), if_pos h0]
    · rw [if_neg (by omega), if_neg h0, if_pos (by omega), if_pos (by omega), if_pos (by omega)]
      by_cases c1 : r.Level = v
      · rw [if_pos c1, if_pos (by omega), if_pos (by omega), if_pos (by omega), if_pos (by omega), set_snoc, if_pos c1]
        subst c1; rfl
      · rw [if_neg c1, if_neg c1, if_pos (by simp; omega)]
/-- A signal as it stands on the line. -/
def line (c : Manchester) (l : List Run) : List Run := l.map fun r => ⟨sg c r.Level, r.Ticks⟩
theorem sg_inj (c : Manchester) (a b : Int) : sg c a = sg c b ↔ a = b := by unfold sg; split <;> omega
theorem line_put (c : Manchester) (l : List Run) (v t : Int) : putA (line c l) (sg c v) t = line c (putA l v t) := by
  rcases snoc_cases l with rfl | ⟨k, r, rfl⟩
  · simp only [line, List.map_nil]
    rw [put_nil, put_nil]; split <;> rfl
  · simp only [line, List.map_append, List.map_cons, List.map_nil]
    rw [put_snoc, put_snoc]
    simp only [sg_inj]
    repeat' split
    all_goals simp
theorem line_total (c : Manchester) (l : List Run) : total (line c l) = total l := by simp [total, line, Function.comp_def]
theorem line_fine (c : Manchester) {l : List Run} (h : Fine l) : Fine (line c l) := by
  intro r hr
  simp only [line, List.mem_map] at hr
  obtain ⟨x, hx, rfl⟩ := hr
  have := h x hx
  refine ⟨this.1, ?_⟩
  unfold sg
  dsimp only
  split <;> omega
theorem line_len (c : Manchester) (l : List Run) : (line c l).length = l.length := by simp [line]

/-! ### Pulses -/
def tm (n d k : Int) : Int := k * n / (2 * d)
theorem tm_even (n d k : Int) (hd : 0 < d) : tm n d (2 * k) = k * n / d := by
  unfold tm
  rw [Int.mul_assoc, Int.mul_ediv_mul_of_pos _ _ (by omega)]
/-- How times lie. -/
theorem tm_bound (n d k : Int) (h : OkR n d) (hk : 0 ≤ k) : 0 ≤ tm n d k ∧ 2 * d * tm n d k ≤ k * n ∧ k * n < 2 * d * tm n d k + 2 * d := by
  obtain ⟨h1, h2, h3, h4, h5⟩ := h
  unfold tm
  have e1 := Int.mul_ediv_add_emod (k * n) (2 * d)
  have e2 := Int.emod_nonneg (k * n) (show (2 * d) ≠ 0 by omega)
  have e3 := Int.emod_lt_of_pos (k * n) (show 0 < 2 * d by omega)
  exact ⟨Int.ediv_nonneg (Int.mul_nonneg hk (by omega)) (by omega), by omega, by omega⟩
/-- Half a bit: from one tick on. -/
theorem tm_step (n d k : Int) (h : OkR n d) (hk : 0 ≤ k) : tm n d k + 1 ≤ tm n d (k + 1) ∧ tm n d (k + 1) ≤ tm n d k + 524289 := by
  have b1 := tm_bound n d k h hk
  have b2 := tm_bound n d (k + 1) h (by omega)
  obtain ⟨h1, h2, h3, h4, h5⟩ := h
  rw [Int.add_mul, Int.one_mul] at b2
  generalize tm n d k = x at *
  generalize tm n d (k + 1) = y at *
  generalize k * n = z at *
  constructor
  · by_cases c : x + 1 ≤ y
    · exact c
    · exfalso
      have : 2 * d * y ≤ 2 * d * x := Int.mul_le_mul_of_nonneg_left (by omega) (by omega)
      omega
  · by_cases c : y ≤ x + 524289
    · exact c
    · exfalso
      have : 2 * d * (x + 524290) ≤ 2 * d * y := Int.mul_le_mul_of_nonneg_left (by omega) (by omega)
      rw [Int.mul_add] at this
      omega
theorem tm_zero (n d : Int) : tm n d 0 = 0 := by simp [tm]
theorem tm_le (n d : Int) (h : OkR n d) : ∀ (k : Nat), 0 ≤ tm n d k ∧ tm n d k ≤ 524289 * k
  | 0 => by simp [tm_zero]
  | k + 1 => by
    have := tm_le n d h k
    have h2 := tm_step n d k h (by omega)
    simp only [Int.natCast_add, Int.cast_ofNat_Int] at h2 ⊢
    omega
def bitsI (x : Item) : List Int := if x.Fault = 5 then (1 :: (ofBytes x.Data).map (· - 48)).take (x.Aux + 1).toNat else 1 :: (ofBytes x.Data).map (· - 48)
def pulses (n d : Int) : List Int → Int → List (Int × Int)
  | [], _ => []
  | v :: r, k => (1 - v, tm n d (2 * k + 1) - tm n d (2 * k)) :: (v, tm n d (2 * k + 2) - tm n d (2 * k + 1)) :: pulses n d r (k + 1)
def faultP (n d : Int) (x : Item) (k : Int) : List (Int × Int) := if x.Fault = 5 then [(1, tm n d (2 * k + 2) - tm n d (2 * k))] else []
def tailP (n d : Int) (x : Item) (k : Int) : List (Int × Int) := faultP n d x k ++ [(0, tm n d 4)]
def itemP (n d : Int) (x : Item) : List (Int × Int) := (0, x.Gap) :: (pulses n d (bitsI x) 0 ++ tailP n d x (bitsI x).length)
def puts (l : List Run) (ps : List (Int × Int)) : List Run := ps.foldl (fun l p => putA l p.1 p.2) l
theorem puts_cons (l : List Run) (p : Int × Int) (ps : List (Int × Int)) : puts l (p :: ps) = puts (putA l p.1 p.2) ps := rfl
theorem puts_append (l : List Run) (a b : List (Int × Int)) : puts l (a ++ b) = puts (puts l a) b := by simp [puts, List.foldl_append]
def FineP (ps : List (Int × Int)) : Prop := ∀ p, p ∈ ps → 0 ≤ p.2 ∧ 0 ≤ p.1 ∧ p.1 ≤ 1
def sumP (ps : List (Int × Int)) : Int := (ps.map (·.2)).sum
theorem sumP_cons (p : Int × Int) (ps : List (Int × Int)) : sumP (p :: ps) = p.2 + sumP ps := by simp [sumP]
theorem sumP_append (a b : List (Int × Int)) : sumP (a ++ b) = sumP a + sumP b := by simp [sumP, List.sum_append]
theorem sumP_nonneg : ∀ {ps : List (Int × Int)}, FineP ps → 0 ≤ sumP ps
  | [], _ => by simp [sumP]
  | p :: ps, h => by
    have h1 := h p List.mem_cons_self
    have h2 := sumP_nonneg (ps := ps) fun q hq => h q (List.mem_cons_of_mem _ hq)
    rw [sumP_cons]; omega
theorem puts_total : ∀ (ps : List (Int × Int)) (l : List Run), total (puts l ps) = total l + sumP ps
  | [], l => by simp [puts, sumP]
  | p :: ps, l => by rw [puts_cons, puts_total ps, put_total, sumP_cons]; omega
theorem puts_len : ∀ (ps : List (Int × Int)) (l : List Run), (puts l ps).length ≤ l.length + ps.length
  | [], l => by simp [puts]
  | p :: ps, l => by
    have h1 := puts_len ps (putA l p.1 p.2)
    have h2 := put_len l p.1 p.2
    rw [puts_cons, List.length_cons]; omega
theorem puts_fine : ∀ (ps : List (Int × Int)) (l : List Run), Fine l → FineP ps → Fine (puts l ps)
  | [], l, h, _ => h
  | p :: ps, l, h, hp => by
    have h1 := hp p List.mem_cons_self
    exact puts_fine ps _ (put_fine h p.1 p.2 h1.1 h1.2) fun q hq => hp q (List.mem_cons_of_mem _ hq)
theorem fineP_cons (p : Int × Int) (ps : List (Int × Int)) : FineP (p :: ps) ↔ (0 ≤ p.2 ∧ 0 ≤ p.1 ∧ p.1 ≤ 1) ∧ FineP ps := by
  unfold FineP
  simp only [List.mem_cons, forall_eq_or_imp]
theorem fineP_append (a b : List (Int × Int)) : FineP (a ++ b) ↔ FineP a ∧ FineP b := by
  unfold FineP
  simp only [List.mem_append]
  exact ⟨fun h => ⟨fun p hp => h p (.inl hp), fun p hp => h p (.inr hp)⟩, fun h p hp => hp.elim (h.1 p) (h.2 p)⟩
/-- A list of bits. -/
def Bits (r : List Int) : Prop := ∀ v, v ∈ r → v = 0 ∨ v = 1
theorem tm_two (n d k : Int) (h : OkR n d) (hk : 0 ≤ k) : tm n d (2 * k) + 1 ≤ tm n d (2 * k + 1) ∧ tm n d (2 * k + 1) + 1 ≤ tm n d (2 * k + 2) ∧ tm n d (2 * k + 2) = tm n d (2 * (k + 1)) ∧ tm n d (2 * k + 2) ≤ tm n d (2 * k) + 1048578 := by
  have h1 := tm_step n d (2 * k) h (by omega)
  have h2 := tm_step n d (2 * k + 1) h (by omega)
  rw [show 2 * k + 1 + 1 = 2 * k + 2 by omega] at h2
  refine ⟨h1.1, h2.1, by rw [show 2 * (k + 1) = 2 * k + 2 by omega], by omega⟩
theorem pulses_fine (n d : Int) (h : OkR n d) : ∀ (r : List Int) (k : Int), 0 ≤ k → Bits r → FineP (pulses n d r k) ∧ sumP (pulses n d r k) = tm n d (2 * (k + r.length)) - tm n d (2 * k) ∧ (pulses n d r k).length = 2 * r.length
  | [], k, hk, _ => by simp [pulses, FineP, sumP]
  | v :: r, k, hk, hb => by
    obtain ⟨i1, i2, i3⟩ := pulses_fine n d h r (k + 1) (by omega) fun w hw => hb w (List.mem_cons_of_mem _ hw)
    have ht := tm_two n d k h hk
    have hv := hb v List.mem_cons_self
    refine ⟨?_, ?_, ?_⟩
    · simp only [pulses, fineP_cons]
      exact ⟨⟨by omega, by omega, by omega⟩, ⟨by omega, by omega, by omega⟩, i1⟩
    · simp only [pulses, sumP_cons, i2, List.length_cons]
      rw [show k + 1 + (r.length : Int) = k + ((r.length + 1 : Nat) : Int) by omega]
      omega
    · simp only [pulses, List.length_cons, i3]; omega
theorem fault_fine (n d : Int) (h : OkR n d) (x : Item) (k : Int) (hk : 0 ≤ k) : FineP (faultP n d x k) ∧ sumP (faultP n d x k) ≤ 1048578 ∧ (faultP n d x k).length ≤ 1 := by
  have ht := tm_two n d k h hk
  unfold faultP
  split
  · refine ⟨?_, ?_, by simp⟩
    · simp only [fineP_cons]; exact ⟨⟨by omega, by omega, by omega⟩, fun p hp => by cases hp⟩
    · simp [sumP]; omega
  · exact ⟨fun p hp => (by cases hp), by simp [sumP], by simp⟩
theorem tm4 (n d : Int) (h : OkR n d) : 0 ≤ tm n d 4 ∧ tm n d 4 ≤ 2097156 := by
  have := tm_le n d h 4
  simpa using this
theorem boundary_is (M : Nat) (c : Manchester) (h : OkR c.T_Num c.T_Den) (k : Int) (hk : 0 ≤ k ∧ k ≤ 100000) : manchester_boundary M c k = some (tm c.T_Num c.T_Den (2 * k)) := by
  rw [tm_even _ _ _ (by unfold OkR at h; omega)]
  obtain ⟨h1, h2, h3, h4, h5⟩ := h
  have hb := mul_bounds k c.T_Num 100000 hk.1 (by omega)
  have hb2 := hb.2.1 hk.2
  have hq : 0 ≤ k * c.T_Num / c.T_Den ∧ k * c.T_Num / c.T_Den ≤ k * c.T_Num := ⟨Int.ediv_nonneg (by omega) (by omega), Int.ediv_le_self _ (by omega)⟩
  simp (disch := omega) only [manchester_boundary, b_manchester_boundary, i64_ok, Int.tdiv_eq_ediv_of_nonneg]
  rw [bif_neg (by omega)]
theorem sample_is (M : Nat) (c : Manchester) (h : OkR c.T_Num c.T_Den) (k : Int) (hk : 0 ≤ k ∧ k ≤ 40000) : manchester_sample M c k = some (tm c.T_Num c.T_Den (2 * k + 1)) := by
  obtain ⟨h1, h2, h3, h4, h5⟩ := h
  have hb := mul_bounds (2 * k + 1) c.T_Num 100000 (by omega) (by omega)
  have hb2 := hb.2.1 (by omega)
  have hq : 0 ≤ (2 * k + 1) * c.T_Num / (2 * c.T_Den) ∧ (2 * k + 1) * c.T_Num / (2 * c.T_Den) ≤ (2 * k + 1) * c.T_Num := ⟨Int.ediv_nonneg (by omega) (by omega), Int.ediv_le_self _ (by omega)⟩
  simp (disch := omega) only [manchester_sample, b_manchester_sample, i64_ok, Int.tdiv_eq_ediv_of_nonneg]
  rw [bif_neg (by omega)]; rfl
theorem times_tm (M : Nat) (c : Manchester) (h : OkR c.T_Num c.T_Den) (k : Int) (hk : 0 ≤ k ∧ k ≤ 100000) : ref17_times M c k = some (tm c.T_Num c.T_Den k) := times_is M c h k hk
theorem add_line (M : Nat) (c : Manchester) (l : List Run) (v t : Int) (hl : l.length ≤ 1000000000000) (hf : Fine l) (ht : 0 ≤ t) (hb : total l + t ≤ 1000000000000000000) : manchester_add M (line c l) (sg c v) t = some (line c (putA l v t)) := by
  rw [add_is M (line c l) (sg c v) t (by rw [line_len]; exact hl) (line_fine c hf) ht (by rw [line_total]; exact hb), line_put]
theorem byteAt_bit {s : ByteArray} {i N : Nat} {v : Int} {r : List Int} (h : (((ofBytes s).map (· - 48)).take N).drop i = v :: r) : byteAt s i = v + 48 ∧ i < N ∧ i < s.size ∧ (((ofBytes s).map (· - 48)).take N).drop (i + 1) = r := by
  obtain ⟨h1, h2, h3, h4, h5⟩ := drop_cons h 0
  rw [List.length_take, List.length_map, ofBytes_length] at h2
  refine ⟨?_, by omega, by omega, h3⟩
  rw [Int.toNat_natCast, List.getD_eq_getElem?_getD, List.getElem?_take_of_lt (by omega), List.getElem?_map] at h1
  rw [byteAt_eq, Int.toNat_natCast, List.getD_eq_getElem?_getD]
  have hl : i < (ofBytes s).length := by rw [ofBytes_length]; omega
  rw [List.getElem?_eq_getElem hl] at h1 ⊢
  simp only [Option.map_some, Option.getD_some] at h1 ⊢
  omega
theorem transmit_l6 {M : Nat} {c : Manchester} (h : OkR c.T_Num c.T_Den) (s : ByteArray) (x : Item) (N : Nat) (hN : N ≤ s.size) (hsz : s.size ≤ 5000) (hb : Bits (((ofBytes s).map (· - 48)).take N)) :
    ∀ (r : List Int) (i m : Nat) (l : List Run), (((ofBytes s).map (· - 48)).take N).drop i = r → r.length < m → Fine l → l.length + 2 * r.length ≤ 100000000000 → total l + 1048578 * r.length ≤ 100000000000000000 →
    manchester_transmit_l6 M m s (N : Int) (N : Int) (i : Int) (line c l) c x = some (line c (puts l (pulses c.T_Num c.T_Den r i ++ tailP c.T_Num c.T_Den x N)))
  | r, i, 0, l, _, hm, _, _, _ => by omega
  | [], i, m + 1, l, hr, hm, hf, hl, ht => by
    have hi := drop_nil hr
    rw [List.length_take, List.length_map, ofBytes_length] at hi
    simp only [List.length_nil] at hl ht
    have h4 := tm4 _ _ h
    have hq := tm_two c.T_Num c.T_Den N h (by omega)
    simp only [manchester_transmit_l6, b_manchester_transmit_l6]
    rw [bif_neg (by omega), i64_ok (n := (N : Int) + 1) (by omega), signal_is M c 1 (by omega), signal_is M c 0 (by omega), boundary_is M c h (N + 1) (by omega), boundary_is M c h N (by omega), boundary_is M c h 2 (by omega)]
    simp only [Option.bind_some, beq_if, pulses, List.nil_append, tailP, faultP]
    rw [show (2 * 2 : Int) = 4 by rfl, ← hq.2.2.1]
    by_cases hx : x.Fault = 5
    · have hf1 := put_fine hf 1 (tm c.T_Num c.T_Den (2 * N + 2) - tm c.T_Num c.T_Den (2 * N)) (by omega) (by omega)
      have hp := put_total l 1 (tm c.T_Num c.T_Den (2 * N + 2) - tm c.T_Num c.T_Den (2 * N))
      have hpl := put_len l 1 (tm c.T_Num c.T_Den (2 * N + 2) - tm c.T_Num c.T_Den (2 * N))
      rw [if_pos hx, if_pos hx, i64_ok (n := tm c.T_Num c.T_Den (2 * N + 2) - tm c.T_Num c.T_Den (2 * N)) (by omega), add_line M c l 1 _ (by omega) hf (by omega) (by omega), Option.bind_some, add_line M c _ 0 _ (by omega) hf1 (by omega) (by omega)]
      rfl
    · rw [if_neg hx, if_neg hx, add_line M c l 0 _ (by omega) hf (by omega) (by omega)]
      rfl
  | v :: r, i, m + 1, l, hr, hm, hf, hl, ht => by
    obtain ⟨h1, h2, h3, h4⟩ := byteAt_bit hr
    have hv : v = 0 ∨ v = 1 := hb v (List.mem_of_mem_drop (i := i) (by rw [hr]; simp))
    have hq := tm_two c.T_Num c.T_Den i h (by omega)
    simp only [List.length_cons] at hm hl ht
    have hf1 := put_fine hf (1 - v) (tm c.T_Num c.T_Den (2 * i + 1) - tm c.T_Num c.T_Den (2 * i)) (by omega) (by omega)
    have hp := put_total l (1 - v) (tm c.T_Num c.T_Den (2 * i + 1) - tm c.T_Num c.T_Den (2 * i))
    have hpl := put_len l (1 - v) (tm c.T_Num c.T_Den (2 * i + 1) - tm c.T_Num c.T_Den (2 * i))
    have hf2 := put_fine hf1 v (tm c.T_Num c.T_Den (2 * i + 2) - tm c.T_Num c.T_Den (2 * i + 1)) (by omega) (by omega)
    have hp2 := put_total (putA l (1 - v) (tm c.T_Num c.T_Den (2 * i + 1) - tm c.T_Num c.T_Den (2 * i))) v (tm c.T_Num c.T_Den (2 * i + 2) - tm c.T_Num c.T_Den (2 * i + 1))
    have hpl2 := put_len (putA l (1 - v) (tm c.T_Num c.T_Den (2 * i + 1) - tm c.T_Num c.T_Den (2 * i))) v (tm c.T_Num c.T_Den (2 * i + 2) - tm c.T_Num c.T_Den (2 * i + 1))
    have hle : total l + (tm c.T_Num c.T_Den (2 * i + 2) - tm c.T_Num c.T_Den (2 * i)) ≤ 1000000000000000000 := by omega
    simp only [manchester_transmit_l6, b_manchester_transmit_l6, h1]
    have e48 : v + 48 - 48 = v := by omega
    rw [bif_pos (by omega), bif_pos (by omega), bif_pos (by omega), e48, u8_ok (by omega), i64_ok (n := v) (by omega), i64_ok (n := 1 - v) (by omega), next_i i (by omega), signal_is M c (1 - v) (by omega), signal_is M c v (by omega), sample_is M c h i (by omega), boundary_is M c h i (by omega), boundary_is M c h ((i + 1 : Nat) : Int) (by omega)]
    have e2 : tm c.T_Num c.T_Den (2 * ((i + 1 : Nat) : Int)) = tm c.T_Num c.T_Den (2 * i + 2) := by rw [hq.2.2.1]; rfl
    simp only [Option.bind_some, e2]
    rw [i64_ok (n := tm c.T_Num c.T_Den (2 * i + 1) - tm c.T_Num c.T_Den (2 * i)) (by omega), i64_ok (n := tm c.T_Num c.T_Den (2 * i + 2) - tm c.T_Num c.T_Den (2 * i + 1)) (by omega), add_line M c l (1 - v) _ (by omega) hf (by omega) (by omega), Option.bind_some, add_line M c _ v _ (by omega) hf1 (by omega) (by omega), Option.bind_some]
    rw [transmit_l6 h s x N hN hsz hb r (i + 1) m _ h4 (by omega) hf2 (by omega) (by omega)]
    rfl
theorem send_l5 {M : Nat} {c : Manchester} (h : OkR c.T_Num c.T_Den) (s : ByteArray) (x : Item) (hsz : s.size ≤ 5000) (hb : Bits (((ofBytes s).map (· - 48)).take s.size)) :
    ∀ (r : List Int) (i m : Nat) (l : List Run), (((ofBytes s).map (· - 48)).take s.size).drop i = r → r.length < m → Fine l → l.length + 2 * r.length ≤ 100000000000 → total l + 1048578 * r.length ≤ 100000000000000000 →
    ref17_send_l5 M m s (i : Int) l c x = some (puts l (pulses c.T_Num c.T_Den r i ++ faultP c.T_Num c.T_Den x s.size))
  | r, i, 0, l, _, hm, _, _, _ => by omega
  | [], i, m + 1, l, hr, hm, hf, hl, ht => by
    have hi := drop_nil hr
    rw [List.length_take, List.length_map, ofBytes_length] at hi
    simp only [List.length_nil] at hl ht
    have hq := tm_two c.T_Num c.T_Den s.size h (by omega)
    simp only [ref17_send_l5, b_ref17_send_l5]
    rw [bif_neg (by omega), i64_ok (n := 2 * (s.size : Int)) (by omega), i64_ok (n := 2 * (s.size : Int) + 2) (by omega), times_tm M c h _ (by omega), times_tm M c h _ (by omega)]
    simp only [Option.bind_some, beq_if, pulses, List.nil_append, faultP]
    by_cases hx : x.Fault = 5
    · rw [if_pos hx, if_pos hx, i64_ok (n := tm c.T_Num c.T_Den (2 * s.size + 2) - tm c.T_Num c.T_Den (2 * s.size)) (by omega), ref_put_is M l 1 _ (by omega) hf (by omega) (by omega)]
      rfl
    · rw [if_neg hx, if_neg hx]; rfl
  | v :: r, i, m + 1, l, hr, hm, hf, hl, ht => by
    obtain ⟨h1, h2, h3, h4⟩ := byteAt_bit hr
    have hv : v = 0 ∨ v = 1 := hb v (List.mem_of_mem_drop (i := i) (by rw [hr]; simp))
    have hq := tm_two c.T_Num c.T_Den i h (by omega)
    simp only [List.length_cons] at hm hl ht
    have hf1 := put_fine hf (1 - v) (tm c.T_Num c.T_Den (2 * i + 1) - tm c.T_Num c.T_Den (2 * i)) (by omega) (by omega)
    have hp := put_total l (1 - v) (tm c.T_Num c.T_Den (2 * i + 1) - tm c.T_Num c.T_Den (2 * i))
    have hpl := put_len l (1 - v) (tm c.T_Num c.T_Den (2 * i + 1) - tm c.T_Num c.T_Den (2 * i))
    have hf2 := put_fine hf1 v (tm c.T_Num c.T_Den (2 * i + 2) - tm c.T_Num c.T_Den (2 * i + 1)) (by omega) (by omega)
    have hp2 := put_total (putA l (1 - v) (tm c.T_Num c.T_Den (2 * i + 1) - tm c.T_Num c.T_Den (2 * i))) v (tm c.T_Num c.T_Den (2 * i + 2) - tm c.T_Num c.T_Den (2 * i + 1))
    have hpl2 := put_len (putA l (1 - v) (tm c.T_Num c.T_Den (2 * i + 1) - tm c.T_Num c.T_Den (2 * i))) v (tm c.T_Num c.T_Den (2 * i + 2) - tm c.T_Num c.T_Den (2 * i + 1))
    simp only [ref17_send_l5, b_ref17_send_l5, h1]
    rw [bif_pos (by omega), bif_pos (by omega), bif_pos (by omega), i64_ok (n := v + 48) (by omega), show v + 48 - 48 = v by omega, i64_ok (n := v) (by omega), i64_ok (n := 1 - v) (by omega), next_i i (by omega), i64_ok (n := 2 * (i : Int)) (by omega), i64_ok (n := 2 * (i : Int) + 1) (by omega), i64_ok (n := 2 * (i : Int) + 2) (by omega), times_tm M c h _ (by omega), times_tm M c h _ (by omega), times_tm M c h _ (by omega)]
    simp only [Option.bind_some]
    rw [i64_ok (n := tm c.T_Num c.T_Den (2 * i + 1) - tm c.T_Num c.T_Den (2 * i)) (by omega), i64_ok (n := tm c.T_Num c.T_Den (2 * i + 2) - tm c.T_Num c.T_Den (2 * i + 1)) (by omega), ref_put_is M l (1 - v) _ (by omega) hf (by omega) (by omega), Option.bind_some, ref_put_is M _ v _ (by omega) hf1 (by omega) (by omega), Option.bind_some]
    rw [send_l5 h s x hsz hb r (i + 1) m _ h4 (by omega) hf2 (by omega) (by omega)]
    rfl

/-! ### Items -/
theorem bits_l4 (M : Nat) (s : ByteArray) (hs : s.size ≤ 65536) : ∀ (r : List Int) (i m : Nat), (ofBytes s).drop i = r → r.length < m → bits_Valid_l4 M m s (s.size : Int) (i : Int) = some (r.all fun b => b == 48 || b == 49) ∧ ref03_Valid_l4 M m s (i : Int) = some (r.all fun b => b == 48 || b == 49)
  | r, i, 0, _, hm => by omega
  | [], i, m + 1, hr, hm => by
    have := drop_nil hr
    rw [ofBytes_length] at this
    simp only [bits_Valid_l4, b_bits_Valid_l4, ref03_Valid_l4, b_ref03_Valid_l4]
    rw [bif_neg (by omega), bif_neg (by omega)]; exact ⟨rfl, rfl⟩
  | b :: r, i, m + 1, hr, hm => by
    obtain ⟨h1, h2, h3, h4, h5⟩ := drop_cons hr 0
    rw [ofBytes_length] at h2
    simp only [List.length_cons] at hm
    obtain ⟨i1, i2⟩ := bits_l4 M s hs r (i + 1) m h3 (by omega)
    have hb : byteAt s (i : Int) = b := by rw [byteAt_eq]; exact h1
    simp only [bits_Valid_l4, b_bits_Valid_l4, ref03_Valid_l4, b_ref03_Valid_l4, hb, bne_if]
    rw [bif_pos (by omega), bif_pos (by omega), bif_pos (by omega), bif_pos (by omega), next_i i (by omega), i1, i2]
    simp only [bif_pos (show (0 : Int) ≤ (i : Int) by omega), bif_pos (show (i : Int) < (s.size : Int) by omega), List.all_cons]
    by_cases c1 : b = 48
    · subst c1; simp
    · by_cases c2 : b = 49
      · subst c2; simp
      · simp [c1, c2]
theorem bits_is (M : Nat) (s : ByteArray) (hM : 65536 < M) : bits_Valid M s = some (decide ((s.size : Int) ≤ 65536) && (ofBytes s).all fun b => b == 48 || b == 49) ∧ ref03_Valid M s = some (decide ((s.size : Int) ≤ 65536) && (ofBytes s).all fun b => b == 48 || b == 49) := by
  simp only [bits_Valid, b_bits_Valid, ref03_Valid, b_ref03_Valid]
  by_cases h : (s.size : Int) > 65536
  · rw [bif_pos h, bif_pos h, decide_eq_false (by omega)]; exact ⟨rfl, rfl⟩
  · have := bits_l4 M s (by omega) (ofBytes s) 0 M rfl (by rw [ofBytes_length]; omega)
    rw [bif_neg h, bif_neg h, decide_eq_true (by omega), Bool.true_and]
    exact this
theorem check_same_item (M : Nat) (hM : 65536 < M) (x : Item) : ref17_right M x = manchester_check M x := by
  obtain ⟨h1, h2⟩ := bits_is M x.Data hM
  simp only [ref17_right, b_ref17_right, manchester_check, b_manchester_check, h1, h2]
structure ItemOk (x : Item) : Prop where
  gap : 0 ≤ x.Gap ∧ x.Gap ≤ 1048576
  size : x.Data.size ≤ 4096
  bits : ∀ b, b ∈ ofBytes x.Data → b = 48 ∨ b = 49
  fault : x.Fault = 0 ∨ (x.Fault = 5 ∧ 0 ≤ x.Aux ∧ x.Aux < x.Data.size)
theorem item_check (M : Nat) (hM : 65536 < M) (x : Item) : ∃ v, manchester_check M x = some v ∧ ref17_right M x = some v ∧ (v = 0 → ItemOk x) := by
  rw [check_same_item M hM]
  obtain ⟨h1, -⟩ := bits_is M x.Data hM
  simp only [manchester_check, b_manchester_check, h1, Option.bind_some, bif_if, beq_if, bne_if]
  by_cases c1 : x.Gap < 0
  · rw [if_pos c1]; exact ⟨1, rfl, rfl, by omega⟩
  rw [if_neg c1]
  by_cases c2 : x.Gap > 1048576
  · rw [if_pos c2]; exact ⟨1, rfl, rfl, by omega⟩
  rw [if_neg c2]
  by_cases c3 : (x.Data.size : Int) > 4096
  · rw [if_pos c3]; exact ⟨6, rfl, rfl, by omega⟩
  rw [if_neg c3, decide_eq_true (show (x.Data.size : Int) ≤ 65536 by omega), Bool.true_and]
  cases hall : (ofBytes x.Data).all fun b => b == 48 || b == 49 with
  | false => exact ⟨4, rfl, rfl, by omega⟩
  | true =>
    have hbits : ∀ b, b ∈ ofBytes x.Data → b = 48 ∨ b = 49 := fun b hb => by
      have := List.all_eq_true.1 hall b hb
      simpa using this
    simp only [Bool.not_true, Bool.cond_false]
    have fin : (x.Fault = 0 ∨ (x.Fault = 5 ∧ 0 ≤ x.Aux ∧ x.Aux < x.Data.size)) → ItemOk x := fun hf => ⟨by omega, by omega, hbits, hf⟩
    by_cases f0 : x.Fault = 0
    · have f5 : ¬ x.Fault = 5 := by omega
      simp only [f0, f5, if_true, if_neg (show ¬ (0 : Int) = 5 by omega)]
      repeat' split
      all_goals exact ⟨_, rfl, rfl, fun _ => fin (.inl f0)⟩
    · by_cases f5 : x.Fault = 5
      · simp only [f5, if_true, if_neg (show ¬ (5 : Int) = 0 by omega)]
        by_cases a1 : x.Aux < 0
        · rw [if_pos a1]; exact ⟨17, rfl, rfl, by omega⟩
        rw [if_neg a1]
        by_cases a2 : x.Aux ≥ (x.Data.size : Int)
        · rw [if_pos a2]; exact ⟨17, rfl, rfl, by omega⟩
        rw [if_neg a2]
        repeat' split
        all_goals exact ⟨_, rfl, rfl, fun _ => fin (.inr ⟨f5, by omega, by omega⟩)⟩
      · rw [if_neg f0, if_neg f5]
        exact ⟨1, rfl, rfl, by omega⟩
/-- An item's bits. -/
theorem bitsI_spec (x : Item) (h : ItemOk x) : Bits (bitsI x) ∧ 1 ≤ (bitsI x).length ∧ (bitsI x).length ≤ 4097 ∧ ((bitsI x).length : Int) = (if x.Fault = 5 then x.Aux + 1 else x.Data.size + 1) := by
  have hb : Bits (1 :: (ofBytes x.Data).map (· - 48)) := fun v hv => by
    rcases List.mem_cons.1 hv with rfl | hv
    · exact .inr rfl
    · simp only [List.mem_map] at hv
      obtain ⟨b, hb, rfl⟩ := hv
      have := h.bits b hb
      omega
  have hl : (1 :: (ofBytes x.Data).map (· - 48)).length = x.Data.size + 1 := by simp [ofBytes_length]
  have hs := h.size
  unfold bitsI
  by_cases hf : x.Fault = 5
  · have hfa : 0 ≤ x.Aux ∧ x.Aux < x.Data.size := by have := h.fault; omega
    rw [if_pos hf, if_pos hf, List.length_take, hl]
    exact ⟨fun v hv => hb v (List.mem_of_mem_take hv), by omega, by omega, by omega⟩
  · rw [if_neg hf, if_neg hf, hl]
    exact ⟨hb, by omega, by omega, by omega⟩
theorem ofBytes_head (s : ByteArray) : (ofBytes (bs [49] ++ s)).map (· - 48) = 1 :: (ofBytes s).map (· - 48) := by
  rw [ofBytes_append, ofBytes_bs]; rfl
theorem transmit_is {M : Nat} (hM : 5000 < M) {c : Manchester} (h : OkR c.T_Num c.T_Den) (x : Item) (hx : ItemOk x) (l : List Run) (hf : Fine l) (hl : l.length ≤ 10000000000) (ht : total l ≤ 10000000000000000) :
    manchester_transmit M c (line c l) x = some (line c (puts l (pulses c.T_Num c.T_Den (bitsI x) 0 ++ tailP c.T_Num c.T_Den x (bitsI x).length))) := by
  obtain ⟨b1, b2, b3, b4⟩ := bitsI_spec x hx
  have hs := hx.size
  have hsz : (bs [49] ++ x.Data).size = 1 + x.Data.size := by rw [size_append]; rfl
  have hbm := ofBytes_head x.Data
  simp only [manchester_transmit, b_manchester_transmit, beq_if]
  rw [bif_neg (by omega)]
  have main : ∀ N : Nat, ((bs [49] ++ x.Data).size : Int) ≥ N → (((ofBytes (bs [49] ++ x.Data)).map (· - 48)).take N) = bitsI x → N = (bitsI x).length → manchester_transmit_l6 M M (bs [49] ++ x.Data) (N : Int) (N : Int) 0 (line c l) c x = some (line c (puts l (pulses c.T_Num c.T_Den (bitsI x) 0 ++ tailP c.T_Num c.T_Den x (bitsI x).length))) := fun N h1 h2 h3 => by
    have := transmit_l6 (M := M) h (bs [49] ++ x.Data) x N (by omega) (by omega) (by rw [h2]; exact b1) (bitsI x) 0 M l (by rw [h2]; rfl) (by omega) hf (by omega) (by omega)
    rw [h3] at this ⊢
    exact this
  by_cases hf5 : x.Fault = 5
  · rw [if_pos hf5] at b4
    have hfa : 0 ≤ x.Aux ∧ x.Aux < x.Data.size := by have := hx.fault; omega
    rw [if_pos hf5, i64_ok (n := x.Aux + 1) (by omega), ← b4]
    refine main _ (by omega) ?_ rfl
    rw [hbm, show (bitsI x).length = (x.Aux + 1).toNat by omega]
    unfold bitsI; rw [if_pos hf5]
  · rw [if_neg hf5] at b4
    rw [if_neg hf5, hsz, show ((1 + x.Data.size : Nat) : Int) = (((bitsI x).length : Nat) : Int) by omega]
    refine main _ (by omega) ?_ rfl
    rw [hbm]
    have e : bitsI x = 1 :: (ofBytes x.Data).map (· - 48) := by unfold bitsI; rw [if_neg hf5]
    rw [e, List.take_length]
theorem send_is {M : Nat} (hM : 5000 < M) {c : Manchester} (h : OkR c.T_Num c.T_Den) (x : Item) (hx : ItemOk x) (l : List Run) (hf : Fine l) (hl : l.length ≤ 10000000000) (ht : total l ≤ 10000000000000000) :
    ref17_send M c l x = some (puts l (pulses c.T_Num c.T_Den (bitsI x) 0 ++ faultP c.T_Num c.T_Den x (bitsI x).length)) := by
  obtain ⟨b1, b2, b3, b4⟩ := bitsI_spec x hx
  have hs := hx.size
  have hsz : (bs [49] ++ x.Data).size = 1 + x.Data.size := by rw [size_append]; rfl
  have hbm := ofBytes_head x.Data
  simp only [ref17_send, b_ref17_send, beq_if]
  rw [bif_neg (by omega)]
  have main : ∀ s : ByteArray, (ofBytes s).map (· - 48) = bitsI x → ref17_send_l5 M M s 0 l c x = some (puts l (pulses c.T_Num c.T_Den (bitsI x) 0 ++ faultP c.T_Num c.T_Den x (bitsI x).length)) := fun s h2 => by
    have hlen : s.size = (bitsI x).length := by rw [← h2, List.length_map, ofBytes_length]
    have htk : ((ofBytes s).map (· - 48)).take s.size = bitsI x := by rw [hlen, h2, List.take_length]
    have := send_l5 (M := M) h s x (by omega) (by rw [htk]; exact b1) (bitsI x) 0 M l (by rw [htk]; rfl) (by omega) hf (by omega) (by omega)
    rw [hlen] at this
    exact this
  by_cases hf5 : x.Fault = 5
  · rw [if_pos hf5] at b4
    have hfa : 0 ≤ x.Aux ∧ x.Aux < x.Data.size := by have := hx.fault; omega
    rw [if_pos hf5, i64_ok (n := x.Aux + 1) (by omega), bif_pos (by omega), bif_pos (by omega), bif_pos (by omega)]
    refine main _ ?_
    rw [ofBytes_extract, List.drop_zero, List.map_take, hbm]
    unfold bitsI; rw [if_pos hf5]
  · rw [if_neg hf5]
    refine main _ ?_
    rw [hbm]
    unfold bitsI; rw [if_neg hf5]
end Go.Abs.K
