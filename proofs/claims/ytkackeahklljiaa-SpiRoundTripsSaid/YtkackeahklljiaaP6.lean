/- SPI: what is sent: the runs, the bits of an item. -/
import Derived.Test.YtkackeahklljiaaP5
set_option linter.unusedVariables false
set_option linter.unusedSimpArgs false
namespace Go.Abs.K
open Go Go.Abs Go.Proofs

/-! ### Levels that are joined -/
def putA (l : List Run) (v t : Int) : List Run :=
  if t = 0 then l else match l.getLast? with
    | some r => if r.Level = v then l.dropLast ++ [⟨v, r.Ticks + t⟩] else l ++ [⟨v, t⟩]
    | none => [⟨v, t⟩]
theorem put_nil (v t : Int) : putA [] v t = if t = 0 then [] else [⟨v, t⟩] := rfl
theorem put_snoc (l : List Run) (r : Run) (v t : Int) : putA (l ++ [r]) v t = if t = 0 then l ++ [r] else if r.Level = v then l ++ [⟨v, r.Ticks + t⟩] else l ++ [r] ++ [⟨v, t⟩] := by
  unfold putA
  simp
theorem snoc_cases {α : Type} (l : List α) : l = [] ∨ ∃ k r, l = k ++ [r] := by
  rcases List.eq_nil_or_concat l with h | ⟨k, r, h⟩
  · exact .inl h
  · exact .inr ⟨k, r, by simpa using h⟩
def total (l : List Run) : Int := (l.map (·.Ticks)).sum
theorem total_nil : total [] = 0 := rfl
theorem total_append (a b : List Run) : total (a ++ b) = total a + total b := by simp [total, List.sum_append]
theorem total_one (r : Run) : total [r] = r.Ticks := by simp [total]
theorem put_total (l : List Run) (v t : Int) : total (putA l v t) = total l + t := by
  rcases snoc_cases l with rfl | ⟨k, r, rfl⟩
  · rw [put_nil]; split <;> simp [total] <;> omega
  · rw [put_snoc]
    split
    · omega
    · split <;> simp only [total_append, total_one] <;> omega
theorem put_len (l : List Run) (v t : Int) : (putA l v t).length ≤ l.length + 1 := by
  rcases snoc_cases l with rfl | ⟨k, r, rfl⟩
  · rw [put_nil]; split <;> simp
  · rw [put_snoc]
    repeat' split
    all_goals simp
/-- Ticks are not negative, levels are those of a signal. -/
def Fine (l : List Run) : Prop := ∀ r, r ∈ l → 1 ≤ r.Ticks ∧ 0 ≤ r.Level ∧ r.Level ≤ 7
theorem fine_total {l : List Run} (h : Fine l) : 0 ≤ total l ∧ ∀ r, r ∈ l → r.Ticks ≤ total l := by
  induction l with
  | nil => exact ⟨by simp [total], fun r hr => by cases hr⟩
  | cons a l ih =>
    obtain ⟨h1, h2⟩ := ih (fun r hr => h r (List.mem_cons_of_mem _ hr))
    have ha := h a List.mem_cons_self
    have e : total (a :: l) = a.Ticks + total l := by simp [total]
    refine ⟨by omega, fun r hr => ?_⟩
    rcases List.mem_cons.1 hr with rfl | hr
    · omega
    · have := h2 r hr; omega
theorem put_fine {l : List Run} (h : Fine l) (v t : Int) (ht : 0 ≤ t) (hv : 0 ≤ v ∧ v ≤ 7) : Fine (putA l v t) := by
  rcases snoc_cases l with rfl | ⟨k, r, rfl⟩
  · rw [put_nil]
    split
    · exact h
    · intro r hr; simp only [List.mem_singleton] at hr; subst hr; exact ⟨by dsimp only; omega, hv.1, hv.2⟩
  · rw [put_snoc]
    have hr := h r (by simp)
    split
    · exact h
    · split
      · intro x hx
        rcases List.mem_append.1 hx with hx | hx
        · exact h x (by simp [hx])
        · simp only [List.mem_singleton] at hx; subst hx; exact ⟨by dsimp only; omega, hv.1, hv.2⟩
      · intro x hx
        rcases List.mem_append.1 hx with hx | hx
        · exact h x hx
        · simp only [List.mem_singleton] at hx; subst hx; exact ⟨by dsimp only; omega, hv.1, hv.2⟩
theorem getD_snoc {α : Type} (k : List α) (r d : α) : (k ++ [r]).getD (((k ++ [r]).length : Int) - 1).toNat d = r := by
  have : (((k ++ [r]).length : Int) - 1).toNat = k.length := by simp
  rw [this, List.getD_eq_getElem?_getD, List.getElem?_append_right (Nat.le_refl _)]; simp
theorem set_snoc {α : Type} (k : List α) (r x : α) : (k ++ [r]).set (((k ++ [r]).length : Int) - 1).toNat x = k ++ [x] := by
  have : (((k ++ [r]).length : Int) - 1).toNat = k.length := by simp
  rw [this, List.set_append_right _ _ (Nat.le_refl _)]; simp
def puts (l : List Run) (ps : List (Int × Int)) : List Run := ps.foldl (fun l p => putA l p.1 p.2) l
theorem puts_cons (l : List Run) (p : Int × Int) (ps : List (Int × Int)) : puts l (p :: ps) = puts (putA l p.1 p.2) ps := rfl
theorem puts_append (l : List Run) (a b : List (Int × Int)) : puts l (a ++ b) = puts (puts l a) b := by simp [puts, List.foldl_append]
def FineP (ps : List (Int × Int)) : Prop := ∀ p, p ∈ ps → 0 ≤ p.2 ∧ 0 ≤ p.1 ∧ p.1 ≤ 7
def sumP (ps : List (Int × Int)) : Int := (ps.map (·.2)).sum
theorem sumP_cons (p : Int × Int) (ps : List (Int × Int)) : sumP (p :: ps) = p.2 + sumP ps := by simp [sumP]
theorem sumP_append (a b : List (Int × Int)) : sumP (a ++ b) = sumP a + sumP b := by simp [sumP, List.sum_append]
theorem sumP_nonneg : ∀ {ps : List (Int × Int)}, FineP ps → 0 ≤ sumP ps
  | [], _ => by simp [sumP]
  | p :: ps, h => by
    have h1 := h p List.mem_cons_self
    have h2 := sumP_nonneg (ps := ps) fun q hq => h q (List.mem_cons_of_mem _ hq)
    rw [sumP_cons]; omega
theorem puts_total : ∀ (ps : List (Int × Int)) (l : List Run), total (puts l ps) = total l + sumP ps
  | [], l => by simp [puts, sumP]
  | p :: ps, l => by rw [puts_cons, puts_total ps, put_total, sumP_cons]; omega
theorem puts_len : ∀ (ps : List (Int × Int)) (l : List Run), (puts l ps).length ≤ l.length + ps.length
  | [], l => by simp [puts]
  | p :: ps, l => by
    have h1 := puts_len ps (putA l p.1 p.2)
    have h2 := put_len l p.1 p.2
    rw [puts_cons, List.length_cons]; omega
theorem puts_fine : ∀ (ps : List (Int × Int)) (l : List Run), Fine l → FineP ps → Fine (puts l ps)
  | [], l, h, _ => h
  | p :: ps, l, h, hp => by
    have h1 := hp p List.mem_cons_self
    exact puts_fine ps _ (put_fine h p.1 p.2 h1.1 h1.2) fun q hq => hp q (List.mem_cons_of_mem _ hq)
theorem fineP_cons (p : Int × Int) (ps : List (Int × Int)) : FineP (p :: ps) ↔ (0 ≤ p.2 ∧ 0 ≤ p.1 ∧ p.1 ≤ 7) ∧ FineP ps := by
  unfold FineP
  simp only [List.mem_cons, forall_eq_or_imp]
theorem fineP_append (a b : List (Int × Int)) : FineP (a ++ b) ↔ FineP a ∧ FineP b := by
  unfold FineP
  simp only [List.mem_append]
  exact ⟨fun h => ⟨fun p hp => h p (.inl hp), fun p hp => h p (.inr hp)⟩, fun h p hp => hp.elim (h.1 p) (h.2 p)⟩
theorem total_drop {l : List Run} {i : Nat} {r : Run} {k : List Run} (h : l.drop i = r :: k) : total (l.take (i + 1)) = total (l.take i) + r.Ticks := by
  obtain ⟨h1, h2, h3, h4, h5⟩ := drop_cons h dflt_Run
  rw [List.take_succ_eq_append_getElem h2, total_append, total_one]
  rw [Int.toNat_natCast, List.getD_eq_getElem?_getD, List.getElem?_eq_getElem h2] at h1
  have : l[i] = r := h1
  rw [this]
theorem fine_take {l : List Run} (h : Fine l) (i : Nat) : 0 ≤ total (l.take i) ∧ total (l.take i) ≤ total l := by
  have h1 : Fine (l.take i) := fun r hr => h r (List.mem_of_mem_take hr)
  have h2 : Fine (l.drop i) := fun r hr => h r (List.mem_of_mem_drop hr)
  have e : total l = total (l.take i) + total (l.drop i) := by rw [← total_append, List.take_append_drop]
  have := (fine_total h1).1
  have := (fine_total h2).1
  omega

/-- One bit more, as the program's text has it. -/
theorem join_text {R : Type} (l : List Run) (v t : Int) (hl : l.length ≤ 1000000000) (hf : Fine l) (ht : 1 ≤ t) (hb : total l + t ≤ 1000000000000000000) (k : List Run → Option R) :
    (bif decide ((l.length : Int) > 0) then
      bif decide (0 ≤ IntKind.i64.wrap ((l.length : Int) - 1)) then
      bif decide (IntKind.i64.wrap ((l.length : Int) - 1) < (l.length : Int)) then
      bif (l.getD (IntKind.i64.wrap ((l.length : Int) - 1)).toNat dflt_Run).Level == v then
      bif decide (0 ≤ IntKind.i64.wrap ((l.length : Int) - 1)) then
      bif decide (IntKind.i64.wrap ((l.length : Int) - 1) < (l.length : Int)) then
      bif decide (0 ≤ IntKind.i64.wrap ((l.length : Int) - 1)) then
      bif decide (IntKind.i64.wrap ((l.length : Int) - 1) < (l.length : Int)) then
      k (l.set (IntKind.i64.wrap ((l.length : Int) - 1)).toNat (Run.mk (l.getD (IntKind.i64.wrap ((l.length : Int) - 1)).toNat dflt_Run).Level (IntKind.i64.wrap ((l.getD (IntKind.i64.wrap ((l.length : Int) - 1)).toNat dflt_Run).Ticks + t))))
      else none else none else none else none
      else bif decide ((l.length + 1) * 16 ≤ 140737488355328) then k (l ++ [Run.mk v t]) else none
      else none else none
      else bif decide ((l.length + 1) * 16 ≤ 140737488355328) then k (l ++ [Run.mk v t]) else none) = k (putA l v t) := by
  have h0 : ¬ t = 0 := by omega
  rcases snoc_cases l with rfl | ⟨q, r, rfl⟩
  · rw [put_nil, if_neg h0]
    rfl
  · have hlen : ((q ++ [r]).length : Int) = q.length + 1 := by simp
    have hl' : q.length + 1 ≤ 1000000000 := by simpa using hl
    obtain ⟨g1, g2⟩ := fine_total hf
    have hr := g2 r (by simp)
    have hr1 := hf r (by simp)
    rw [i64_ok (n := (((q ++ [r]).length : Int)) - 1) (by omega), getD_snoc, put_snoc, if_neg h0, i64_ok (n := r.Ticks + t) (by omega)]
    rw [bif_pos (by omega), bif_pos (by omega), bif_pos (by omega), beq_if]
    by_cases c1 : r.Level = v
    · rw [if_pos c1, bif_pos (by omega), bif_pos (by omega), bif_pos (by omega), bif_pos (by omega), set_snoc, if_pos c1]
      subst c1; rfl
    · rw [if_neg c1, if_neg c1, bif_pos (by simp; omega)]
/-! ### The sender: runs are not kept beyond a number -/
def Rel (P L : List Run) : Prop := (P = L ∧ L.length ≤ 262145) ∨ (262144 < P.length ∧ P.length ≤ 262145 ∧ 262144 < L.length)
theorem put_grows (l : List Run) (v t : Int) : l.length ≤ (putA l v t).length := by
  rcases snoc_cases l with rfl | ⟨k, r, rfl⟩
  · simp
  · rw [put_snoc]
    repeat' split
    all_goals simp
theorem send_is (M : Nat) (P L : List Run) (hR : Rel P L) (hf : Fine L) (tot v t : Int) (ht : 1 ≤ t) (htot : 0 ≤ tot ∧ tot + t ≤ 1000000000000000000) (hT : total L ≤ tot) : ∃ P', spi_sender_send M P tot v t = some (P', tot + t) ∧ Rel P' (putA L v t) := by
  have h0 : ¬ t = 0 := by omega
  have hg := put_grows L v t
  simp only [spi_sender_send, b_spi_sender_send]
  rw [i64_ok (n := tot + t) (by omega)]
  rcases snoc_cases P with rfl | ⟨q, r, rfl⟩
  · rcases hR with ⟨h1, h2⟩ | ⟨h1, _, _⟩
    · subst h1
      refine ⟨[⟨v, t⟩], ?_, .inl ⟨?_, ?_⟩⟩
      · rw [bif_neg (by simp), bif_pos (by simp), bif_pos (by simp)]; rfl
      · rw [put_nil, if_neg h0]
      · rw [put_nil, if_neg h0]; simp
    · simp at h1
  · have hlen : ((q ++ [r]).length : Int) = q.length + 1 := by simp
    have hll : (q ++ [r]).length = q.length + 1 := by simp
    have hl' : q.length + 1 ≤ 262145 := by
      rcases hR with ⟨h1, h2⟩ | ⟨_, h2, _⟩
      · rw [← h1, hll] at h2; omega
      · rw [hll] at h2; omega
    rw [i64_ok (n := (((q ++ [r]).length : Int)) - 1) (by omega), getD_snoc]
    rw [bif_pos (by omega), bif_pos (by omega), bif_pos (by omega), beq_if]
    by_cases c1 : r.Level = v
    · rw [if_pos c1, bif_pos (by omega), bif_pos (by omega), bif_pos (by omega), bif_pos (by omega), set_snoc]
      refine ⟨_, rfl, ?_⟩
      rcases hR with ⟨h1, h2⟩ | ⟨h1, h2, h3⟩
      · subst h1
        obtain ⟨g1, g2⟩ := fine_total hf
        have hr := g2 r (by simp)
        have hr1 := hf r (by simp)
        left
        rw [put_snoc, if_neg h0, if_pos c1, i64_ok (n := r.Ticks + t) (by omega), c1]
        exact ⟨rfl, by simp; omega⟩
      · right
        rw [hll] at h1
        simp only [List.length_append, List.length_singleton]
        omega
    · rw [if_neg c1]
      by_cases c2 : ((q ++ [r]).length : Int) ≤ 262144
      · rw [bif_pos c2, bif_pos (by omega)]
        refine ⟨_, rfl, ?_⟩
        rcases hR with ⟨h1, h2⟩ | ⟨h1, h2, h3⟩
        · subst h1
          left
          rw [put_snoc, if_neg h0, if_neg c1]
          exact ⟨rfl, by simp; omega⟩
        · omega
      · rw [bif_neg c2]
        refine ⟨_, rfl, ?_⟩
        rcases hR with ⟨h1, h2⟩ | ⟨h1, h2, h3⟩
        · subst h1
          right
          omega
        · right
          omega
theorem ref_put_is (M : Nat) (l : List Run) (v t : Int) (hl : l.length ≤ 1000000000) (hf : Fine l) (ht : 1 ≤ t) (hb : total l + t ≤ 1000000000000000000) : ref24_put M l v t = some (putA l v t) := by
  simp only [ref24_put, b_ref24_put]
  exact join_text l v t hl hf ht hb (fun o => some o)

/-! ### The bits of a byte -/
def lsb (b : Int) : Nat → List Int
  | 0 => []
  | n + 1 => b % 2 :: lsb (b / 2) n
theorem lsb_len : ∀ (n : Nat) (b : Int), (lsb b n).length = n
  | 0, b => rfl
  | n + 1, b => by simp [lsb, lsb_len n]
theorem lsb_bits : ∀ (n : Nat) (b : Int), Bits (lsb b n)
  | 0, b => bits_nil
  | n + 1, b => by
    intro v hv
    simp only [lsb, List.mem_cons] at hv
    rcases hv with rfl | hv
    · omega
    · exact lsb_bits n _ v hv
theorem lsb_val : ∀ (n : Nat) (b : Int), 0 ≤ b → b < 2 ^ n → revV (lsb b n) = b
  | 0, b, h1, h2 => by simp only [Int.pow_zero] at h2; simp only [lsb, revV]; omega
  | n + 1, b, h1, h2 => by
    rw [pow_s] at h2
    simp only [lsb, revV_cons, lsb_val n (b / 2) (by omega) (by omega)]
    omega
def digs (c : Spi) (b : Int) : List Int := if c.Msb then (lsb b c.Bits.toNat).reverse else lsb b c.Bits.toNat
theorem digs_len (c : Spi) (b : Int) : (digs c b).length = c.Bits.toNat := by
  unfold digs
  split
  · rw [List.length_reverse, lsb_len]
  · exact lsb_len _ _
theorem digs_bits (c : Spi) (b : Int) : Bits (digs c b) := by
  unfold digs
  split
  · exact bits_reverse (lsb_bits _ _)
  · exact lsb_bits _ _
theorem digs_at (c : Spi) (hc : OkC c) (b : Int) (hb : 0 ≤ b ∧ b < 2 ^ c.Bits.toNat) (j : Nat) (hj : j < c.Bits.toNat) : (digs c b).getD j 0 = if c.Msb then b / 2 ^ (c.Bits.toNat - 1 - j) % 2 else b / 2 ^ j % 2 := by
  have hl := lsb_len c.Bits.toNat b
  have hk : ∀ k, (lsb b c.Bits.toNat).getD k 0 = b / 2 ^ k % 2 := fun k => by
    rw [← revV_bit _ (lsb_bits _ _) k, lsb_val _ _ hb.1 hb.2]
  unfold digs
  cases c.Msb with
  | true =>
    simp only [if_true]
    rw [List.getD_eq_getElem?_getD, List.getElem?_reverse (by omega), hl, ← List.getD_eq_getElem?_getD, hk]
  | false => simp only [Bool.false_eq_true, if_false]; exact hk j
def allB (c : Spi) (l : List Int) : List Int := l.flatMap (digs c)
theorem allB_cons (c : Spi) (b : Int) (l : List Int) : allB c (b :: l) = digs c b ++ allB c l := by simp [allB]
theorem allB_append (c : Spi) (a b : List Int) : allB c (a ++ b) = allB c a ++ allB c b := by simp [allB]
theorem allB_bits (c : Spi) : ∀ l : List Int, Bits (allB c l)
  | [] => bits_nil
  | b :: l => by rw [allB_cons]; exact bits_append.2 ⟨digs_bits c b, allB_bits c l⟩
theorem allB_len (c : Spi) : ∀ l : List Int, (allB c l).length = c.Bits.toNat * l.length
  | [] => by simp [allB]
  | b :: l => by rw [allB_cons, List.length_append, digs_len, allB_len c l, List.length_cons, Nat.mul_add]; omega
theorem allB_at (c : Spi) (hn : 0 < c.Bits.toNat) : ∀ (l : List Int) (k : Nat), k < c.Bits.toNat * l.length → (allB c l).getD k 0 = (digs c (l.getD (k / c.Bits.toNat) 0)).getD (k % c.Bits.toNat) 0
  | [], k, hk => by simp at hk
  | b :: l, k, hk => by
    have hd := digs_len c b
    rw [allB_cons, List.getD_eq_getElem?_getD]
    by_cases h : k < c.Bits.toNat
    · rw [List.getElem?_append_left (by omega), Nat.div_eq_of_lt h, Nat.mod_eq_of_lt h, ← List.getD_eq_getElem?_getD]; rfl
    · have ih := allB_at c hn l (k - c.Bits.toNat) (by rw [List.length_cons, Nat.mul_add] at hk; omega)
      obtain ⟨j, rfl⟩ : ∃ j, k = j + c.Bits.toNat := ⟨k - c.Bits.toNat, by omega⟩
      rw [List.getElem?_append_right (by omega), hd, ← List.getD_eq_getElem?_getD, ih, Nat.add_sub_cancel, Nat.add_div_right _ hn, Nat.add_mod_right]
      rfl
theorem fromint_is (M : Nat) (hM : 1000 < M) (c : Spi) (hc : OkC c) (b : Int) (hb : 0 ≤ b ∧ b < 2 ^ c.Bits.toNat) : ref03_FromInt M b c.Bits c.Msb = some (toBytes (chs (digs c b))) := by
  unfold OkC at hc
  simp only [ref03_FromInt, b_ref03_FromInt]
  rw [bif_neg (by omega), bif_neg (by omega)]
  have := from_l5 M hM b c.Bits c.Msb hb.1 (by omega) (lsb b c.Bits.toNat) 0 M [] (by rw [lsb_val _ _ hb.1 hb.2]; simp) (lsb_bits _ _) (by rw [lsb_len]; omega) (by rw [lsb_len]; omega) rfl (fun x hx => by cases hx)
  refine Eq.trans this ?_
  unfold digs
  cases c.Msb with
  | true => simp [chs]
  | false => simp [chs]

/-! ### Items -/
structure ItemOk (c : Spi) (x : Item) : Prop where
  gap : 0 ≤ x.Gap ∧ x.Gap ≤ 1048576
  size : x.Data.size ≤ 4096
  byte : ∀ b, b ∈ ofBytes x.Data → 0 ≤ b ∧ b < 2 ^ c.Bits.toNat
  fault : x.Fault = 0 ∨ x.Fault = 8
  short : x.Fault = 8 → x.Data ≠ bs [] ∧ c.Bits ≠ 1
  rest : x.Value = 0 ∧ x.Aux = 0
theorem item_l6 (M : Nat) (c : Spi) (hc : OkC c) (x : Item) (hs : x.Data.size ≤ 4096) : ∀ (r : List Int) (i m : Nat), (ofBytes x.Data).drop i = r → r.length < m → ∃ v, spi_checkItem_l6 M m (x.Data.size : Int) (i : Int) c x = some v ∧ ref24_item_l6 M m (i : Int) c x = some v ∧ (v = 0 → (∀ b, b ∈ r → 0 ≤ b ∧ b < 2 ^ c.Bits.toNat) ∧ (x.Fault = 0 ∨ x.Fault = 8) ∧ (x.Fault = 8 → x.Data ≠ bs [] ∧ c.Bits ≠ 1) ∧ x.Value = 0 ∧ x.Aux = 0)
  | r, i, 0, _, hm => by omega
  | [], i, m + 1, hr, hm => by
    have := drop_nil hr
    rw [ofBytes_length] at this
    simp only [spi_checkItem_l6, b_spi_checkItem_l6, ref24_item_l6, b_ref24_item_l6, bne_if, beq_if, str_beq', bif_if]
    simp only [if_neg (show ¬ ((i : Int) < (x.Data.size : Int)) by omega)]
    by_cases c1 : x.Fault = 0
    · rw [if_pos c1, if_neg (show ¬ x.Fault = 8 by omega)]
      by_cases c2 : x.Value = 0
      · rw [if_pos c2]
        by_cases c3 : x.Aux = 0
        · rw [if_pos c3]; exact ⟨0, rfl, rfl, fun _ => ⟨(fun b hb => by cases hb), .inl c1, (fun h => by omega), c2, c3⟩⟩
        · rw [if_neg c3]; exact ⟨1, rfl, rfl, fun h => by omega⟩
      · rw [if_neg c2]; exact ⟨1, rfl, rfl, fun h => by omega⟩
    · rw [if_neg c1]
      by_cases c8 : x.Fault = 8
      · rw [if_pos c8, if_pos c8]
        by_cases c4 : x.Data = bs []
        · rw [if_pos (by simpa using c4)]; exact ⟨17, rfl, rfl, fun h => by omega⟩
        · rw [if_neg (by simpa using c4)]
          by_cases c5 : c.Bits = 1
          · rw [if_pos c5]; exact ⟨17, rfl, rfl, fun h => by omega⟩
          · rw [if_neg c5]
            by_cases c2 : x.Value = 0
            · rw [if_pos c2]
              by_cases c3 : x.Aux = 0
              · rw [if_pos c3]; exact ⟨0, rfl, rfl, fun _ => ⟨(fun b hb => by cases hb), .inr c8, (fun h => ⟨c4, c5⟩), c2, c3⟩⟩
              · rw [if_neg c3]; exact ⟨1, rfl, rfl, fun h => by omega⟩
            · rw [if_neg c2]; exact ⟨1, rfl, rfl, fun h => by omega⟩
      · rw [if_neg c8]; exact ⟨1, rfl, rfl, fun h => by omega⟩
  | b :: r, i, m + 1, hr, hm => by
    obtain ⟨h1, h2, h3, h4, h5⟩ := drop_cons hr 0
    rw [ofBytes_length] at h2
    simp only [List.length_cons] at hm
    have hat : byteAt x.Data (i : Int) = b := by rw [byteAt_eq]; exact h1
    have hrng := byteAt_range x.Data (i : Int)
    rw [hat] at hrng
    have hc' := hc
    unfold OkC at hc'
    have hpw := pow_b c.Bits.toNat (by omega)
    obtain ⟨v, i1, i2, i3⟩ := item_l6 M c hc x hs r (i + 1) m h3 (by omega)
    simp only [spi_checkItem_l6, b_spi_checkItem_l6, ref24_item_l6, b_ref24_item_l6, hat]
    rw [bif_pos (by omega), bif_pos (by omega), bif_pos (by omega), bif_neg (by omega), bif_pos (by omega), bif_pos (by omega), bif_pos (by omega), bif_neg (by omega), bne_if, Nat.min_eq_left (by omega), i64_ok (n := b) (by omega), Int.fdiv_eq_ediv_of_nonneg _ (by omega), Int.one_mul, i64_ok (n := 2 ^ c.Bits.toNat) (by omega), bif_if, next_i i (by omega), i1, i2]
    by_cases hb : b < 2 ^ c.Bits.toNat
    · rw [if_pos (Int.ediv_eq_zero_of_lt (by omega) hb), if_neg (by omega)]
      refine ⟨v, rfl, rfl, fun hv => ?_⟩
      obtain ⟨j1, j2⟩ := i3 hv
      refine ⟨fun y hy => ?_, j2⟩
      rcases List.mem_cons.1 hy with rfl | hy
      · exact ⟨by omega, hb⟩
      · exact j1 y hy
    · have : 1 ≤ b / 2 ^ c.Bits.toNat := Int.le_ediv_of_mul_le (by omega) (by omega)
      rw [if_neg (by omega), if_pos (by omega)]
      exact ⟨2, rfl, rfl, fun h => by omega⟩
theorem item_check (M : Nat) (hM : 65536 < M) (c : Spi) (hc : OkC c) (x : Item) : ∃ v, spi_checkItem M c x = some v ∧ ref24_item M c x = some v ∧ (v = 0 → ItemOk c x) := by
  simp only [spi_checkItem, b_spi_checkItem, ref24_item, b_ref24_item, bif_if]
  by_cases c1 : x.Gap < 0
  · rw [if_pos c1, if_pos c1]; exact ⟨1, rfl, rfl, fun h => by omega⟩
  rw [if_neg c1, if_neg c1]
  by_cases c2 : x.Gap > 1048576
  · rw [if_pos c2, if_pos c2]; exact ⟨1, rfl, rfl, fun h => by omega⟩
  rw [if_neg c2, if_neg c2]
  by_cases c3 : (x.Data.size : Int) > 4096
  · rw [if_pos c3, if_pos c3]; exact ⟨6, rfl, rfl, fun h => by omega⟩
  rw [if_neg c3, if_neg c3]
  obtain ⟨v, i1, i2, i3⟩ := item_l6 M c hc x (by omega) (ofBytes x.Data) 0 M rfl (by rw [ofBytes_length]; omega)
  exact ⟨v, i1, i2, fun hv => by
    obtain ⟨j1, j2, j3, j4, j5⟩ := i3 hv
    exact ⟨by omega, by omega, j1, j2, j3, j4, j5⟩⟩
end Go.Abs.K
