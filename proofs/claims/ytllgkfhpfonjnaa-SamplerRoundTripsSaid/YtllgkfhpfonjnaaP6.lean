/- SAMPLER: what is sent, the program's and the document's. -/
import Derived.Test.YtllgkfhpfonjnaaP5
set_option linter.unusedVariables false
set_option linter.unusedSimpArgs false
namespace Go.Abs.K
open Go Go.Abs Go.Proofs

/-! ### Levels that are joined -/
def putA (l : List Run) (v t : Int) : List Run :=
  if t = 0 then l else match l.getLast? with
    | some r => if r.Level = v then l.dropLast ++ [⟨v, r.Ticks + t⟩] else l ++ [⟨v, t⟩]
    | none => [⟨v, t⟩]
theorem put_nil (v t : Int) : putA [] v t = if t = 0 then [] else [⟨v, t⟩] := rfl
theorem put_snoc (l : List Run) (r : Run) (v t : Int) : putA (l ++ [r]) v t = if t = 0 then l ++ [r] else if r.Level = v then l ++ [⟨v, r.Ticks + t⟩] else l ++ [r] ++ [⟨v, t⟩] := by
  unfold putA
  simp
theorem snoc_cases {α : Type} (l : List α) : l = [] ∨ ∃ k r, l = k ++ [r] := by
  rcases List.eq_nil_or_concat l with h | ⟨k, r, h⟩
  · exact .inl h
  · exact .inr ⟨k, r, by simpa using h⟩
def total (l : List Run) : Int := (l.map (·.Ticks)).sum
theorem total_nil : total [] = 0 := rfl
theorem total_append (a b : List Run) : total (a ++ b) = total a + total b := by simp [total, List.sum_append]
theorem total_one (r : Run) : total [r] = r.Ticks := by simp [total]
theorem put_total (l : List Run) (v t : Int) : total (putA l v t) = total l + t := by
  rcases snoc_cases l with rfl | ⟨k, r, rfl⟩
  · rw [put_nil]; split <;> simp [total] <;> omega
  · rw [put_snoc]
    split
    · omega
    · split <;> simp only [total_append, total_one] <;> omega
theorem put_len (l : List Run) (v t : Int) : (putA l v t).length ≤ l.length + 1 := by
  rcases snoc_cases l with rfl | ⟨k, r, rfl⟩
  · rw [put_nil]; split <;> simp
  · rw [put_snoc]
    repeat' split
    all_goals simp
/-- Ticks are not negative, levels are those of a signal. -/
def Fine (l : List Run) : Prop := ∀ r, r ∈ l → 1 ≤ r.Ticks ∧ 0 ≤ r.Level ∧ r.Level ≤ 1
theorem fine_total {l : List Run} (h : Fine l) : 0 ≤ total l ∧ ∀ r, r ∈ l → r.Ticks ≤ total l := by
  induction l with
  | nil => exact ⟨by simp [total], fun r hr => by cases hr⟩
  | cons a l ih =>
    obtain ⟨h1, h2⟩ := ih (fun r hr => h r (List.mem_cons_of_mem _ hr))
    have ha := h a List.mem_cons_self
    have e : total (a :: l) = a.Ticks + total l := by simp [total]
    refine ⟨by omega, fun r hr => ?_⟩
    rcases List.mem_cons.1 hr with rfl | hr
    · omega
    · have := h2 r hr; omega
theorem put_fine {l : List Run} (h : Fine l) (v t : Int) (ht : 0 ≤ t) (hv : 0 ≤ v ∧ v ≤ 1) : Fine (putA l v t) := by
  rcases snoc_cases l with rfl | ⟨k, r, rfl⟩
  · rw [put_nil]
    split
    · exact h
    · intro r hr; simp only [List.mem_singleton] at hr; subst hr; exact ⟨by dsimp only; omega, hv.1, hv.2⟩
  · rw [put_snoc]
    have hr := h r (by simp)
    split
    · exact h
    · split
      · intro x hx
        rcases List.mem_append.1 hx with hx | hx
        · exact h x (by simp [hx])
        · simp only [List.mem_singleton] at hx; subst hx; exact ⟨by dsimp only; omega, hv.1, hv.2⟩
      · intro x hx
        rcases List.mem_append.1 hx with hx | hx
        · exact h x hx
        · simp only [List.mem_singleton] at hx; subst hx; exact ⟨by dsimp only; omega, hv.1, hv.2⟩
theorem getD_snoc {α : Type} (k : List α) (r d : α) : (k ++ [r]).getD (((k ++ [r]).length : Int) - 1).toNat d = r := by
  have : (((k ++ [r]).length : Int) - 1).toNat = k.length := by simp
  rw [this, List.getD_eq_getElem?_getD, List.getElem?_append_right (Nat.le_refl _)]; simp
theorem set_snoc {α : Type} (k : List α) (r x : α) : (k ++ [r]).set (((k ++ [r]).length : Int) - 1).toNat x = k ++ [x] := by
  have : (((k ++ [r]).length : Int) - 1).toNat = k.length := by simp
  rw [this, List.set_append_right _ _ (Nat.le_refl _)]; simp
def puts (l : List Run) (ps : List (Int × Int)) : List Run := ps.foldl (fun l p => putA l p.1 p.2) l
theorem puts_cons (l : List Run) (p : Int × Int) (ps : List (Int × Int)) : puts l (p :: ps) = puts (putA l p.1 p.2) ps := rfl
theorem puts_append (l : List Run) (a b : List (Int × Int)) : puts l (a ++ b) = puts (puts l a) b := by simp [puts, List.foldl_append]
def FineP (ps : List (Int × Int)) : Prop := ∀ p, p ∈ ps → 0 ≤ p.2 ∧ 0 ≤ p.1 ∧ p.1 ≤ 1
def sumP (ps : List (Int × Int)) : Int := (ps.map (·.2)).sum
theorem sumP_cons (p : Int × Int) (ps : List (Int × Int)) : sumP (p :: ps) = p.2 + sumP ps := by simp [sumP]
theorem sumP_append (a b : List (Int × Int)) : sumP (a ++ b) = sumP a + sumP b := by simp [sumP, List.sum_append]
theorem sumP_nonneg : ∀ {ps : List (Int × Int)}, FineP ps → 0 ≤ sumP ps
  | [], _ => by simp [sumP]
  | p :: ps, h => by
    have h1 := h p List.mem_cons_self
    have h2 := sumP_nonneg (ps := ps) fun q hq => h q (List.mem_cons_of_mem _ hq)
    rw [sumP_cons]; omega
theorem puts_total : ∀ (ps : List (Int × Int)) (l : List Run), total (puts l ps) = total l + sumP ps
  | [], l => by simp [puts, sumP]
  | p :: ps, l => by rw [puts_cons, puts_total ps, put_total, sumP_cons]; omega
theorem puts_len : ∀ (ps : List (Int × Int)) (l : List Run), (puts l ps).length ≤ l.length + ps.length
  | [], l => by simp [puts]
  | p :: ps, l => by
    have h1 := puts_len ps (putA l p.1 p.2)
    have h2 := put_len l p.1 p.2
    rw [puts_cons, List.length_cons]; omega
theorem puts_fine : ∀ (ps : List (Int × Int)) (l : List Run), Fine l → FineP ps → Fine (puts l ps)
  | [], l, h, _ => h
  | p :: ps, l, h, hp => by
    have h1 := hp p List.mem_cons_self
    exact puts_fine ps _ (put_fine h p.1 p.2 h1.1 h1.2) fun q hq => hp q (List.mem_cons_of_mem _ hq)
theorem fineP_cons (p : Int × Int) (ps : List (Int × Int)) : FineP (p :: ps) ↔ (0 ≤ p.2 ∧ 0 ≤ p.1 ∧ p.1 ≤ 1) ∧ FineP ps := by
  unfold FineP
  simp only [List.mem_cons, forall_eq_or_imp]
theorem fineP_append (a b : List (Int × Int)) : FineP (a ++ b) ↔ FineP a ∧ FineP b := by
  unfold FineP
  simp only [List.mem_append]
  exact ⟨fun h => ⟨fun p hp => h p (.inl hp), fun p hp => h p (.inr hp)⟩, fun h p hp => hp.elim (h.1 p) (h.2 p)⟩
theorem total_drop {l : List Run} {i : Nat} {r : Run} {k : List Run} (h : l.drop i = r :: k) : total (l.take (i + 1)) = total (l.take i) + r.Ticks := by
  obtain ⟨h1, h2, h3, h4, h5⟩ := drop_cons h dflt_Run
  rw [List.take_succ_eq_append_getElem h2, total_append, total_one]
  rw [Int.toNat_natCast, List.getD_eq_getElem?_getD, List.getElem?_eq_getElem h2] at h1
  have : l[i] = r := h1
  rw [this]
theorem fine_take {l : List Run} (h : Fine l) (i : Nat) : 0 ≤ total (l.take i) ∧ total (l.take i) ≤ total l := by
  have h1 : Fine (l.take i) := fun r hr => h r (List.mem_of_mem_take hr)
  have h2 : Fine (l.drop i) := fun r hr => h r (List.mem_of_mem_drop hr)
  have e : total l = total (l.take i) + total (l.drop i) := by rw [← total_append, List.take_append_drop]
  have := (fine_total h1).1
  have := (fine_total h2).1
  omega

/-! ### Items -/
theorem bits_l4 (M : Nat) (s : ByteArray) (hs : s.size ≤ 65536) : ∀ (r : List Int) (i m : Nat), (ofBytes s).drop i = r → r.length < m → bits_Valid_l4 M m s (s.size : Int) (i : Int) = some (r.all fun b => b == 48 || b == 49) ∧ ref03_Valid_l4 M m s (i : Int) = some (r.all fun b => b == 48 || b == 49)
  | r, i, 0, _, hm => by omega
  | [], i, m + 1, hr, hm => by
    have := drop_nil hr
    rw [ofBytes_length] at this
    simp only [bits_Valid_l4, b_bits_Valid_l4, ref03_Valid_l4, b_ref03_Valid_l4]
    rw [bif_neg (by omega), bif_neg (by omega)]; exact ⟨rfl, rfl⟩
  | b :: r, i, m + 1, hr, hm => by
    obtain ⟨h1, h2, h3, h4, h5⟩ := drop_cons hr 0
    rw [ofBytes_length] at h2
    simp only [List.length_cons] at hm
    obtain ⟨i1, i2⟩ := bits_l4 M s hs r (i + 1) m h3 (by omega)
    have hb : byteAt s (i : Int) = b := by rw [byteAt_eq]; exact h1
    simp only [bits_Valid_l4, b_bits_Valid_l4, ref03_Valid_l4, b_ref03_Valid_l4, hb, bne_if]
    rw [bif_pos (by omega), bif_pos (by omega), bif_pos (by omega), bif_pos (by omega), next_i i (by omega), i1, i2]
    simp only [bif_pos (show (0 : Int) ≤ (i : Int) by omega), bif_pos (show (i : Int) < (s.size : Int) by omega), List.all_cons]
    by_cases c1 : b = 48
    · subst c1; simp
    · by_cases c2 : b = 49
      · subst c2; simp
      · simp [c1, c2]
theorem bits_is (M : Nat) (s : ByteArray) (hM : 65536 < M) : bits_Valid M s = some (decide ((s.size : Int) ≤ 65536) && (ofBytes s).all fun b => b == 48 || b == 49) ∧ ref03_Valid M s = some (decide ((s.size : Int) ≤ 65536) && (ofBytes s).all fun b => b == 48 || b == 49) := by
  simp only [bits_Valid, b_bits_Valid, ref03_Valid, b_ref03_Valid]
  by_cases h : (s.size : Int) > 65536
  · rw [bif_pos h, bif_pos h, decide_eq_false (by omega)]; exact ⟨rfl, rfl⟩
  · have := bits_l4 M s (by omega) (ofBytes s) 0 M rfl (by rw [ofBytes_length]; omega)
    rw [bif_neg h, bif_neg h, decide_eq_true (by omega), Bool.true_and]
    exact this
structure ItemOk (x : Item) : Prop where
  size : x.Data.size ≤ 4096
  bits : ∀ b, b ∈ ofBytes x.Data → b = 48 ∨ b = 49
theorem item_check (M : Nat) (hM : 65536 < M) (x : Item) : ∃ v, sampler_checkItem M x = some v ∧ ref15_item M x = some v ∧ (v = 0 → ItemOk x) := by
  obtain ⟨h1, h2⟩ := bits_is M x.Data hM
  simp only [sampler_checkItem, b_sampler_checkItem, ref15_item, b_ref15_item, h1, h2, Option.bind_some, bif_if, bne_if]
  by_cases c1 : x.Gap = 0
  · rw [if_pos c1]
    by_cases c3 : (x.Data.size : Int) > 4096
    · rw [if_pos c3]; exact ⟨6, rfl, rfl, by omega⟩
    rw [if_neg c3, decide_eq_true (show (x.Data.size : Int) ≤ 65536 by omega), Bool.true_and]
    cases hall : (ofBytes x.Data).all fun b => b == 48 || b == 49 with
    | false => exact ⟨4, rfl, rfl, by omega⟩
    | true =>
      have hbits : ∀ b, b ∈ ofBytes x.Data → b = 48 ∨ b = 49 := fun b hb => by
        have := List.all_eq_true.1 hall b hb
        simpa using this
      simp only [Bool.not_true, Bool.cond_false]
      repeat' split
      all_goals exact ⟨_, rfl, rfl, fun _ => ⟨by omega, hbits⟩⟩
  · rw [if_neg c1]; exact ⟨1, rfl, rfl, by omega⟩
noncomputable def chkA (M : Nat) (x : Item) : Int := (sampler_checkItem M x).getD 0
noncomputable def errA (M : Nat) : List Item → Int
  | [] => 0
  | x :: l => if chkA M x = 0 then errA M l else chkA M x
theorem err_ok1 {M : Nat} {x : Item} (l : List Item) (h : chkA M x = 0) : errA M (x :: l) = errA M l := by
  show (if chkA M x = 0 then errA M l else chkA M x) = _
  rw [if_pos h]
theorem err_bad1 {M : Nat} {x : Item} (l : List Item) (h : chkA M x ≠ 0) : errA M (x :: l) = chkA M x := by
  show (if chkA M x = 0 then errA M l else chkA M x) = _
  rw [if_neg h]
theorem chk_is (M : Nat) (hM : 65536 < M) (x : Item) : sampler_checkItem M x = some (chkA M x) ∧ ref15_item M x = some (chkA M x) ∧ (chkA M x = 0 → ItemOk x) := by
  obtain ⟨v, h1, h2, h3⟩ := item_check M hM x
  have : chkA M x = v := by unfold chkA; rw [h1]; rfl
  rw [this]; exact ⟨h1, h2, h3⟩
theorem err_ok (M : Nat) (hM : 65536 < M) : ∀ (l : List Item), errA M l = 0 → ∀ x, x ∈ l → ItemOk x
  | [], _, x, hx => by cases hx
  | y :: l, h, x, hx => by
    by_cases c : chkA M y = 0
    · rw [err_ok1 l c] at h
      rcases List.mem_cons.1 hx with rfl | hx
      · exact (chk_is M hM x).2.2 c
      · exact err_ok M hM l h x hx
    · rw [err_bad1 l c] at h; exact absurd h c

/-! ### Bits -/
def Bits (r : List Int) : Prop := ∀ v, v ∈ r → v = 0 ∨ v = 1
def bitsI (x : Item) : List Int := (ofBytes x.Data).map (· - 48)
theorem bitsI_ok (x : Item) (h : ItemOk x) : Bits (bitsI x) := fun v hv => by
  simp only [bitsI, List.mem_map] at hv
  obtain ⟨b, hb, rfl⟩ := hv
  have := h.bits b hb
  omega
theorem bitsI_len (x : Item) : (bitsI x).length = x.Data.size := by simp [bitsI, ofBytes_length]
def pulses (n d : Int) : List Int → Int → List (Int × Int)
  | [], _ => []
  | v :: r, k => (v, bd n d (k + 1) - bd n d k) :: pulses n d r (k + 1)
theorem bd_step (n d k : Int) (h : OkR n d) (hk : 0 ≤ k) : bd n d k + 2 ≤ bd n d (k + 1) ∧ bd n d (k + 1) ≤ bd n d k + 1048577 := by
  have h1 := bd_sm n d k h hk
  have h2 := bd_spec n d k h hk
  have h3 := bd_spec n d (k + 1) h (by omega)
  rw [Int.add_mul, Int.one_mul] at h3
  refine ⟨by omega, ?_⟩
  unfold OkR at h
  refine le_of_mul d _ _ (by omega) ?_
  rw [Int.mul_add]; omega
theorem pulses_fine (n d : Int) (h : OkR n d) : ∀ (r : List Int) (k : Int), 0 ≤ k → Bits r → FineP (pulses n d r k) ∧ sumP (pulses n d r k) = bd n d (k + r.length) - bd n d k ∧ (pulses n d r k).length = r.length
  | [], k, hk, _ => by simp [pulses, FineP, sumP]
  | v :: r, k, hk, hb => by
    obtain ⟨i1, i2, i3⟩ := pulses_fine n d h r (k + 1) (by omega) fun w hw => hb w (List.mem_cons_of_mem _ hw)
    have ht := bd_step n d k h hk
    have hv := hb v List.mem_cons_self
    refine ⟨?_, ?_, ?_⟩
    · simp only [pulses, fineP_cons]
      exact ⟨⟨by omega, by omega, by omega⟩, i1⟩
    · simp only [pulses, sumP_cons, i2, List.length_cons]
      rw [show k + 1 + (r.length : Int) = k + ((r.length + 1 : Nat) : Int) by omega]
      omega
    · simp only [pulses, List.length_cons, i3]
theorem pulses_append (n d : Int) : ∀ (a b : List Int) (k : Int), pulses n d (a ++ b) k = pulses n d a k ++ pulses n d b (k + a.length)
  | [], b, k => by simp [pulses]
  | v :: a, b, k => by
    simp only [List.cons_append, pulses, pulses_append n d a b, List.length_cons]
    rw [show k + 1 + (a.length : Int) = k + ((a.length + 1 : Nat) : Int) by omega]
theorem byteAt_bit {s : ByteArray} {i : Nat} {v : Int} {r : List Int} (h : ((ofBytes s).map (· - 48)).drop i = v :: r) : byteAt s i = v + 48 ∧ i < s.size ∧ ((ofBytes s).map (· - 48)).drop (i + 1) = r := by
  obtain ⟨h1, h2, h3, h4, h5⟩ := drop_cons h 0
  rw [List.length_map, ofBytes_length] at h2
  refine ⟨?_, by omega, h3⟩
  rw [Int.toNat_natCast, List.getD_eq_getElem?_getD, List.getElem?_map] at h1
  rw [byteAt_eq, Int.toNat_natCast, List.getD_eq_getElem?_getD]
  have hl : i < (ofBytes s).length := by rw [ofBytes_length]; omega
  rw [List.getElem?_eq_getElem hl] at h1 ⊢
  simp only [Option.map_some, Option.getD_some] at h1 ⊢
  omega
/-- One bit more, as the program's text has it. -/
theorem join_text {R : Type} (l : List Run) (v t : Int) (hl : l.length ≤ 1000000000) (hf : Fine l) (ht : 1 ≤ t) (hb : total l + t ≤ 1000000000000000000) (k : List Run → Option R) :
    (bif decide ((l.length : Int) > 0) then
      bif decide (0 ≤ IntKind.i64.wrap ((l.length : Int) - 1)) then
      bif decide (IntKind.i64.wrap ((l.length : Int) - 1) < (l.length : Int)) then
      bif (l.getD (IntKind.i64.wrap ((l.length : Int) - 1)).toNat dflt_Run).Level == v then
      bif decide (0 ≤ IntKind.i64.wrap ((l.length : Int) - 1)) then
      bif decide (IntKind.i64.wrap ((l.length : Int) - 1) < (l.length : Int)) then
      bif decide (0 ≤ IntKind.i64.wrap ((l.length : Int) - 1)) then
      bif decide (IntKind.i64.wrap ((l.length : Int) - 1) < (l.length : Int)) then
      k (l.set (IntKind.i64.wrap ((l.length : Int) - 1)).toNat (Run.mk (l.getD (IntKind.i64.wrap ((l.length : Int) - 1)).toNat dflt_Run).Level (IntKind.i64.wrap ((l.getD (IntKind.i64.wrap ((l.length : Int) - 1)).toNat dflt_Run).Ticks + t))))
      else none else none else none else none
      else bif decide ((l.length + 1) * 16 ≤ 140737488355328) then k (l ++ [Run.mk v t]) else none
      else none else none
      else bif decide ((l.length + 1) * 16 ≤ 140737488355328) then k (l ++ [Run.mk v t]) else none) = k (putA l v t) := by
  have h0 : ¬ t = 0 := by omega
  rcases snoc_cases l with rfl | ⟨q, r, rfl⟩
  · rw [put_nil, if_neg h0]
    rfl
  · have hlen : ((q ++ [r]).length : Int) = q.length + 1 := by simp
    have hl' : q.length + 1 ≤ 1000000000 := by simpa using hl
    obtain ⟨g1, g2⟩ := fine_total hf
    have hr := g2 r (by simp)
    have hr1 := hf r (by simp)
    rw [i64_ok (n := (((q ++ [r]).length : Int)) - 1) (by omega), getD_snoc, put_snoc, if_neg h0, i64_ok (n := r.Ticks + t) (by omega)]
    rw [bif_pos (by omega), bif_pos (by omega), bif_pos (by omega), beq_if]
    by_cases c1 : r.Level = v
    · rw [if_pos c1, bif_pos (by omega), bif_pos (by omega), bif_pos (by omega), bif_pos (by omega), set_snoc, if_pos c1]
      subst c1; rfl
    · rw [if_neg c1, if_neg c1, bif_pos (by simp; omega)]
theorem ge_text (l : List Run) (hl : l.length ≤ 1000000000) : decide (IntKind.i64.wrap ((l.length : Int) - 1) ≥ 0) = decide ((l.length : Int) > 0) := by
  rw [i64_ok (n := (l.length : Int) - 1) (by omega)]
  exact decide_eq_decide.2 (by omega)
end Go.Abs.K
