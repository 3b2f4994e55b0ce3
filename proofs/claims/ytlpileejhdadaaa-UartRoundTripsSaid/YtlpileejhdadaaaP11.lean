/- UART: what is sent. -/
import Derived.Test.YtlpileejhdadaaaP10
set_option linter.unusedVariables false
set_option linter.unusedSimpArgs false
namespace Go.Abs.K
open Go Go.Abs Go.Proofs

theorem refused_same (M : Nat) (hM : 20 < M) (c : Uart) (h : OkU c) (x : Item) : ∃ v, uart_refused M c x = some v ∧ ref22_wrong M c x = some v ∧ (v = 0 → VOk c x ∧ (x.Aux = 0 ∨ x.Aux = 1) ∧ (x.Aux = 1 → x.Fault = 0) ∧ 0 ≤ x.Gap ∧ x.Gap ≤ 1048576) := by
  have hc := h
  unfold OkU at hc
  have hpw := pw_b c.Bits (by omega)
  have hmp : (2 : Int) ^ min c.Bits.toNat 64 = pw c.Bits := min_pw c.Bits (by omega)
  simp only [uart_refused, b_uart_refused, ref22_wrong, b_ref22_wrong, hmp, Int.one_mul, i64_ok (n := pw c.Bits) (by omega), bif_neg (show ¬ c.Bits < 0 by omega), bif_if, bne_if, beq_if, str_beq']
  by_cases c1 : x.Gap < 0
  · simp only [if_pos c1]; exact ⟨1, rfl, rfl, fun h => by omega⟩
  simp only [if_neg c1]
  by_cases c2 : x.Gap > 1048576
  · simp only [if_pos c2]; exact ⟨1, rfl, rfl, fun h => by omega⟩
  simp only [if_neg c2]
  by_cases c3 : (x.Data.size : Int) > 4096
  · simp only [if_pos c3]; exact ⟨6, rfl, rfl, fun h => by omega⟩
  simp only [if_neg c3]
  by_cases cA : x.Aux = 0 ∨ x.Aux = 1
  case neg =>
    refine ⟨2, ?_, ?_, fun h => by omega⟩
    · rw [if_neg (show ¬ x.Aux = 0 by omega), if_neg (show ¬ x.Aux = 1 by omega)]
    · by_cases q : x.Aux < 0
      · rw [if_pos q]
      · rw [if_neg q, if_pos (show x.Aux > 1 by omega)]
  simp only [if_neg (show ¬ x.Aux < 0 by omega), if_neg (show ¬ x.Aux > 1 by omega)]
  by_cases c4 : x.Value < 0
  · simp only [if_pos c4]; refine ⟨2, ?_, rfl, fun h => by omega⟩
    rcases cA with q | q <;> simp [q]
  simp only [if_neg c4]
  by_cases c5 : x.Value ≥ pw c.Bits
  · simp only [if_pos c5]; refine ⟨2, ?_, rfl, fun h => by omega⟩
    rcases cA with q | q <;> simp [q]
  simp only [if_neg c5]
  by_cases cF : x.Fault = 0 ∨ x.Fault = 1 ∨ x.Fault = 2
  case neg =>
    refine ⟨1, ?_, ?_, fun h => by omega⟩
    · simp only [if_neg (show ¬ x.Fault = 0 by omega), if_neg (show ¬ x.Fault = 1 by omega), if_neg (show ¬ x.Fault = 2 by omega)]
      rcases cA with q | q <;> simp [q]
    · by_cases q : x.Fault < 0
      · rw [if_pos q]
      · rw [if_neg q, if_pos (show x.Fault > 2 by omega)]
  simp only [if_neg (show ¬ x.Fault < 0 by omega), if_neg (show ¬ x.Fault > 2 by omega)]
  have fin : ∀ {v : Int}, (∃ w, some v = some w ∧ some v = some w ∧ (w = 0 → VOk c x ∧ (x.Aux = 0 ∨ x.Aux = 1) ∧ (x.Aux = 1 → x.Fault = 0) ∧ 0 ≤ x.Gap ∧ x.Gap ≤ 1048576)) ∨ True := .inr trivial
  have vok : ∀ (hp : x.Fault = 2 → c.Parity ≠ 0), VOk c x := fun hp => ⟨by omega, cF, hp⟩
  rcases cA with qA | qA
  · simp only [qA]
    rcases cF with qF | qF | qF
    · simp only [qF]
      by_cases cd : x.Data = bs []
      · simp [cd]
        exact ⟨vok (fun h => by omega), by omega⟩
      · simp [cd]
    · have hs := smp_prog M hM c h x (vok (fun h => by omega))
      have hr := smp_ref M hM c h x (vok (fun h => by omega)) (fun h => by omega)
      simp only [qF, hs, hr, Option.bind_some]
      by_cases cz : smpA c x = 0
      · simp [cz]
      · by_cases cd : x.Data = bs []
        · simp [cz, cd]
          exact ⟨vok (fun h => by omega), by omega⟩
        · simp [cz, cd]
    · simp only [qF]
      by_cases cp : c.Parity = 0
      · simp [cp]
      · by_cases cd : x.Data = bs []
        · simp [cp, cd]
          exact ⟨vok (fun _ => cp), by omega⟩
        · simp [cp, cd]
  · simp only [qA]
    by_cases cv : x.Value = 0
    · rcases cF with qF | qF | qF
      · simp only [qF]
        by_cases cd : x.Data = bs []
        · simp [cd, cv]
          exact ⟨vok (fun h => by omega), by omega⟩
        · simp [cd, cv]
      · simp [qF, cv]
      · simp [qF, cv]
    · rcases cF with qF | qF | qF <;> simp [qF, cv]

/-! ### Levels that are joined -/
def putA (l : List Run) (v t : Int) : List Run :=
  if t = 0 then l else match l.getLast? with
    | some r => if r.Level = v then l.dropLast ++ [⟨v, r.Ticks + t⟩] else l ++ [⟨v, t⟩]
    | none => [⟨v, t⟩]
theorem put_nil (v t : Int) : putA [] v t = if t = 0 then [] else [⟨v, t⟩] := rfl
theorem put_snoc (l : List Run) (r : Run) (v t : Int) : putA (l ++ [r]) v t = if t = 0 then l ++ [r] else if r.Level = v then l ++ [⟨v, r.Ticks + t⟩] else l ++ [r] ++ [⟨v, t⟩] := by
  unfold putA
  simp
theorem snoc_cases {α : Type} (l : List α) : l = [] ∨ ∃ k r, l = k ++ [r] := by
  rcases List.eq_nil_or_concat l with h | ⟨k, r, h⟩
  · exact .inl h
  · exact .inr ⟨k, r, by simpa using h⟩
def total (l : List Run) : Int := (l.map (·.Ticks)).sum
theorem total_nil : total [] = 0 := rfl
theorem total_append (a b : List Run) : total (a ++ b) = total a + total b := by simp [total, List.sum_append]
theorem total_one (r : Run) : total [r] = r.Ticks := by simp [total]
theorem put_total (l : List Run) (v t : Int) : total (putA l v t) = total l + t := by
  rcases snoc_cases l with rfl | ⟨k, r, rfl⟩
  · rw [put_nil]; split <;> simp [total] <;> omega
  · rw [put_snoc]
    split
    · omega
    · split <;> simp only [total_append, total_one] <;> omega
theorem put_len (l : List Run) (v t : Int) : (putA l v t).length ≤ l.length + 1 := by
  rcases snoc_cases l with rfl | ⟨k, r, rfl⟩
  · rw [put_nil]; split <;> simp
  · rw [put_snoc]
    repeat' split
    all_goals simp
/-- Ticks are not negative, levels are those of a signal. -/
def Fine (l : List Run) : Prop := ∀ r, r ∈ l → 1 ≤ r.Ticks ∧ 0 ≤ r.Level ∧ r.Level ≤ 1
theorem fine_total {l : List Run} (h : Fine l) : 0 ≤ total l ∧ ∀ r, r ∈ l → r.Ticks ≤ total l := by
  induction l with
  | nil => exact ⟨by simp [total], fun r hr => by cases hr⟩
  | cons a l ih =>
    obtain ⟨h1, h2⟩ := ih (fun r hr => h r (List.mem_cons_of_mem _ hr))
    have ha := h a List.mem_cons_self
    have e : total (a :: l) = a.Ticks + total l := by simp [total]
    refine ⟨by omega, fun r hr => ?_⟩
    rcases List.mem_cons.1 hr with rfl | hr
    · omega
    · have := h2 r hr; omega
theorem put_fine {l : List Run} (h : Fine l) (v t : Int) (ht : 0 ≤ t) (hv : 0 ≤ v ∧ v ≤ 1) : Fine (putA l v t) := by
  rcases snoc_cases l with rfl | ⟨k, r, rfl⟩
  · rw [put_nil]
    split
    · exact h
    · intro r hr; simp only [List.mem_singleton] at hr; subst hr; exact ⟨by dsimp only; omega, hv.1, hv.2⟩
  · rw [put_snoc]
    have hr := h r (by simp)
    split
    · exact h
    · split
      · intro x hx
        rcases List.mem_append.1 hx with hx | hx
        · exact h x (by simp [hx])
        · simp only [List.mem_singleton] at hx; subst hx; exact ⟨by dsimp only; omega, hv.1, hv.2⟩
      · intro x hx
        rcases List.mem_append.1 hx with hx | hx
        · exact h x hx
        · simp only [List.mem_singleton] at hx; subst hx; exact ⟨by dsimp only; omega, hv.1, hv.2⟩
theorem getD_snoc {α : Type} (k : List α) (r d : α) : (k ++ [r]).getD (((k ++ [r]).length : Int) - 1).toNat d = r := by
  have : (((k ++ [r]).length : Int) - 1).toNat = k.length := by simp
  rw [this, List.getD_eq_getElem?_getD, List.getElem?_append_right (Nat.le_refl _)]; simp
theorem set_snoc {α : Type} (k : List α) (r x : α) : (k ++ [r]).set (((k ++ [r]).length : Int) - 1).toNat x = k ++ [x] := by
  have : (((k ++ [r]).length : Int) - 1).toNat = k.length := by simp
  rw [this, List.set_append_right _ _ (Nat.le_refl _)]; simp
def puts (l : List Run) (ps : List (Int × Int)) : List Run := ps.foldl (fun l p => putA l p.1 p.2) l
theorem puts_cons (l : List Run) (p : Int × Int) (ps : List (Int × Int)) : puts l (p :: ps) = puts (putA l p.1 p.2) ps := rfl
theorem puts_append (l : List Run) (a b : List (Int × Int)) : puts l (a ++ b) = puts (puts l a) b := by simp [puts, List.foldl_append]
def FineP (ps : List (Int × Int)) : Prop := ∀ p, p ∈ ps → 0 ≤ p.2 ∧ 0 ≤ p.1 ∧ p.1 ≤ 1
def sumP (ps : List (Int × Int)) : Int := (ps.map (·.2)).sum
theorem sumP_cons (p : Int × Int) (ps : List (Int × Int)) : sumP (p :: ps) = p.2 + sumP ps := by simp [sumP]
theorem sumP_append (a b : List (Int × Int)) : sumP (a ++ b) = sumP a + sumP b := by simp [sumP, List.sum_append]
theorem sumP_nonneg : ∀ {ps : List (Int × Int)}, FineP ps → 0 ≤ sumP ps
  | [], _ => by simp [sumP]
  | p :: ps, h => by
    have h1 := h p List.mem_cons_self
    have h2 := sumP_nonneg (ps := ps) fun q hq => h q (List.mem_cons_of_mem _ hq)
    rw [sumP_cons]; omega
theorem puts_total : ∀ (ps : List (Int × Int)) (l : List Run), total (puts l ps) = total l + sumP ps
  | [], l => by simp [puts, sumP]
  | p :: ps, l => by rw [puts_cons, puts_total ps, put_total, sumP_cons]; omega
theorem puts_len : ∀ (ps : List (Int × Int)) (l : List Run), (puts l ps).length ≤ l.length + ps.length
  | [], l => by simp [puts]
  | p :: ps, l => by
    have h1 := puts_len ps (putA l p.1 p.2)
    have h2 := put_len l p.1 p.2
    rw [puts_cons, List.length_cons]; omega
theorem puts_fine : ∀ (ps : List (Int × Int)) (l : List Run), Fine l → FineP ps → Fine (puts l ps)
  | [], l, h, _ => h
  | p :: ps, l, h, hp => by
    have h1 := hp p List.mem_cons_self
    exact puts_fine ps _ (put_fine h p.1 p.2 h1.1 h1.2) fun q hq => hp q (List.mem_cons_of_mem _ hq)
theorem fineP_cons (p : Int × Int) (ps : List (Int × Int)) : FineP (p :: ps) ↔ (0 ≤ p.2 ∧ 0 ≤ p.1 ∧ p.1 ≤ 1) ∧ FineP ps := by
  unfold FineP
  simp only [List.mem_cons, forall_eq_or_imp]
theorem fineP_append (a b : List (Int × Int)) : FineP (a ++ b) ↔ FineP a ∧ FineP b := by
  unfold FineP
  simp only [List.mem_append]
  exact ⟨fun h => ⟨fun p hp => h p (.inl hp), fun p hp => h p (.inr hp)⟩, fun h p hp => hp.elim (h.1 p) (h.2 p)⟩
theorem total_drop {l : List Run} {i : Nat} {r : Run} {k : List Run} (h : l.drop i = r :: k) : total (l.take (i + 1)) = total (l.take i) + r.Ticks := by
  obtain ⟨h1, h2, h3, h4, h5⟩ := drop_cons h dflt_Run
  rw [List.take_succ_eq_append_getElem h2, total_append, total_one]
  rw [Int.toNat_natCast, List.getD_eq_getElem?_getD, List.getElem?_eq_getElem h2] at h1
  have : l[i] = r := h1
  rw [this]
theorem fine_take {l : List Run} (h : Fine l) (i : Nat) : 0 ≤ total (l.take i) ∧ total (l.take i) ≤ total l := by
  have h1 : Fine (l.take i) := fun r hr => h r (List.mem_of_mem_take hr)
  have h2 : Fine (l.drop i) := fun r hr => h r (List.mem_of_mem_drop hr)
  have e : total l = total (l.take i) + total (l.drop i) := by rw [← total_append, List.take_append_drop]
  have := (fine_total h1).1
  have := (fine_total h2).1
  omega

def sumR : List Run → Int
  | [] => 0
  | r :: l => r.Ticks + sumR l
def AltR : Int → List Run → Prop
  | _, [] => True
  | lv, r :: l => r.Level = lv ∧ 1 ≤ r.Ticks ∧ AltR (1 - lv) l
theorem sumR_nn : ∀ (l : List Run) (lv : Int), AltR lv l → 0 ≤ sumR l
  | [], _, _ => by simp [sumR]
  | r :: l, lv, h => by have := sumR_nn l _ h.2.2; have := h.2.1; simp only [sumR]; omega
theorem sumR_append : ∀ (a b : List Run), sumR (a ++ b) = sumR a + sumR b
  | [], b => by simp [sumR]
  | r :: a, b => by simp only [List.cons_append, sumR, sumR_append a b]; omega
theorem lev_ok (lv : Int) (h : lv = 0 ∨ lv = 1) : IntKind.i64.wrap (((BitVec.ofInt 64 lv &&& ~~~BitVec.ofInt 64 1).toNat : Int)) = 0 := by
  rcases h with rfl | rfl <;> rfl
theorem wvalid_is (M : Nat) (l : List Run) (hl : l.length ≤ 100000) : ∀ (r : List Run) (lv : Int) (i m : Nat) (left : Int), l.drop i = r → r.length < m → AltR lv r → (lv = 0 ∨ lv = 1) → sumR r ≤ left → left ≤ 1099511627776 → wave_Valid_l5 M m left (l.length : Int) (i : Int) l = some true
  | r, lv, i, 0, left, _, hm, _, _, _, _ => by omega
  | [], lv, i, m + 1, left, hr, hm, _, _, _, _ => by
    have := drop_nil hr
    simp only [wave_Valid_l5, b_wave_Valid_l5]
    rw [bif_neg (by omega)]
  | x :: r, lv, i, m + 1, left, hr, hm, ha, hlv, hs, hb => by
    obtain ⟨h1, h2, h3, h4, h5⟩ := drop_cons hr dflt_Run
    obtain ⟨a1, a2, a3⟩ := ha
    have hn := sumR_nn r _ a3
    simp only [List.length_cons] at hm
    simp only [sumR] at hs
    simp only [wave_Valid_l5, b_wave_Valid_l5, h1, next_i i (by omega), bne_if]
    rw [bif_pos (by omega), bif_pos (by omega), bif_pos (by omega), if_pos (lev_ok _ (by rw [a1]; exact hlv)), bif_neg (by omega), bif_neg (by omega), i64_ok (by omega)]
    exact wvalid_is M l hl r (1 - lv) (i + 1) m _ h3 (by omega) a3 (by omega) (by omega) (by omega)
theorem joined_is (M : Nat) (l : List Run) (hl : l.length ≤ 100000) : ∀ (r : List Run) (lv : Int) (i m : Nat) (acc : List Run), l.drop i = r → r.length < m → AltR lv r → acc.length + r.length ≤ 100000 → (acc = [] ∨ ∃ a y, acc = a ++ [y] ∧ y.Level = 1 - lv) → (lv = 0 ∨ lv = 1) → wave_joined_l3 M m (l.length : Int) (i : Int) acc l = some (acc ++ r)
  | r, lv, i, 0, acc, _, hm, _, _, _, _ => by omega
  | [], lv, i, m + 1, acc, hr, hm, _, _, _, _ => by
    have := drop_nil hr
    simp only [wave_joined_l3, b_wave_joined_l3]
    rw [bif_neg (by omega)]; simp
  | x :: r, lv, i, m + 1, acc, hr, hm, ha, ho, hacc, hlv => by
    obtain ⟨h1, h2, h3, h4, h5⟩ := drop_cons hr dflt_Run
    obtain ⟨a1, a2, a3⟩ := ha
    simp only [List.length_cons] at hm ho
    have ih := joined_is M l hl r (1 - lv) (i + 1) m (acc ++ [x]) h3 (by omega) a3 (by simp; omega) (.inr ⟨acc, x, rfl, by omega⟩) (by omega)
    simp only [wave_joined_l3, b_wave_joined_l3, h1, next_i i (by omega)]
    rw [bif_pos (by omega), bif_pos (by omega), bif_pos (by omega)]
    simp only [bif_pos (show (acc.length + 1) * 16 ≤ 140737488355328 by omega), ih]
    rcases hacc with rfl | ⟨a, y, rfl, hy⟩
    · rw [bif_neg (by simp)]; simp
    · have hlen : ((a ++ [y]).length : Int) = (a.length : Int) + 1 := by simp
      rw [hlen, bif_pos (by omega), i64_ok (n := (a.length : Int) + 1 - 1) (by simp at ho; omega)]
      rw [show ((a.length : Int) + 1 - 1).toNat = a.length by omega]
      have hg : (a ++ [y]).getD a.length dflt_Run = y := by simp
      rw [hg, bif_pos (by omega), bif_pos (by omega), beq_if, if_neg (by omega)]
      simp
theorem clean_is (M : Nat) (l : List Run) (hl : l.length ≤ 100000) (hM : l.length < M) (ha : AltR 1 l) (hs : sumR l ≤ 1099511627776) : wave_Clean M l = some l := by
  have h1 : wave_Valid M l = some true := by
    simp only [wave_Valid, b_wave_Valid]
    rw [bif_neg (by omega)]
    exact wvalid_is M l hl l 1 0 M _ rfl hM ha (.inr rfl) hs (by omega)
  have h2 : wave_joined M l = some l := by
    simp only [wave_joined, b_wave_joined]
    exact joined_is M l hl l 1 0 M [] rfl hM ha (by simpa using hl) (.inl rfl) (.inr rfl)
  simp only [wave_Clean, b_wave_Clean, h1, h2, Option.bind_some]
  rfl
theorem add_nil (M : Nat) (t : Int) (ht : 1 ≤ t) : ref22_add M [] 1 t = some [Run.mk 1 t] := by
  simp only [ref22_add, b_ref22_add, beq_if, List.length_nil]
  rw [if_neg (by omega), bif_neg (by decide)]
  rfl
theorem add_at (M : Nat) (pre : List Run) (lv W lv' t : Int) (hp : pre.length ≤ 1000000) (ht : 0 ≤ t) (hW : 0 ≤ W ∧ W + t ≤ 1099511627776000) : ref22_add M (pre ++ [Run.mk lv W]) lv' t = some (if t = 0 then pre ++ [Run.mk lv W] else if lv = lv' then pre ++ [Run.mk lv (W + t)] else pre ++ [Run.mk lv W, Run.mk lv' t]) := by
  have hlen : ((pre ++ [Run.mk lv W]).length : Int) = (pre.length : Int) + 1 := by simp
  have hg : (pre ++ [Run.mk lv W]).getD pre.length dflt_Run = Run.mk lv W := by simp
  have htk : List.take pre.length (pre ++ [Run.mk lv W]) = pre := by simp
  have hll : (pre ++ [Run.mk lv W]).length = pre.length + 1 := by simp
  simp only [ref22_add, b_ref22_add, beq_if, hlen]
  by_cases h0 : t = 0
  · rw [if_pos h0, if_pos h0]
  · rw [if_neg h0, if_neg h0, i64_ok (n := (pre.length : Int) + 1 - 1) (by omega), show ((pre.length : Int) + 1 - 1).toNat = pre.length by omega, hg, htk, hll]
    simp only [List.drop_zero, List.nil_append]
    rw [bif_pos (by omega), bif_pos (by omega), bif_pos (by omega)]
    by_cases hl : lv = lv'
    · rw [if_pos hl, if_pos hl, bif_pos (by omega), bif_pos (by omega), bif_pos (by omega), bif_pos (by omega), bif_pos (by omega), bif_pos (by omega), bif_pos (by omega), i64_ok (n := W + t) (by omega), hl]
    · rw [if_neg hl, if_neg hl, bif_pos (by omega)]
      simp
theorem fit_l5 (M : Nat) (l : List Run) (hl : l.length ≤ 100000) (hs : sumR l ≤ 1099511627776) : ∀ (r : List Run) (lv : Int) (i m : Nat) (tot : Int), l.drop i = r → r.length < m → AltR lv r → 0 ≤ tot → tot + sumR r = sumR l → ref22_fitting_l5 M m tot (i : Int) l = some (l, 0)
  | r, lv, i, 0, tot, _, hm, _, _, _ => by omega
  | [], lv, i, m + 1, tot, hr, hm, _, h0, ht => by
    have := drop_nil hr
    simp only [sumR] at ht
    simp only [ref22_fitting_l5, b_ref22_fitting_l5]
    rw [bif_neg (by omega), bif_neg (by omega)]
  | x :: r, lv, i, m + 1, tot, hr, hm, hx, h0, ht => by
    obtain ⟨h1, h2, h3, h4, h5⟩ := drop_cons hr dflt_Run
    obtain ⟨a1, a2, a3⟩ := hx
    have hn := sumR_nn r _ a3
    simp only [List.length_cons] at hm
    simp only [sumR] at ht
    simp only [ref22_fitting_l5, b_ref22_fitting_l5, h1, next_i i (by omega)]
    rw [bif_pos (by omega), bif_pos (by omega), bif_pos (by omega), i64_ok (by omega)]
    exact fit_l5 M l hl hs r _ (i + 1) m _ h3 (by omega) a3 (by omega) (by omega)
theorem fit_is (M : Nat) (l : List Run) (hl : l.length ≤ 100000) (hM : l.length < M) (ha : AltR 1 l) (hs : sumR l ≤ 1099511627776) : ref22_fitting M l = some (l, 0) := by
  simp only [ref22_fitting, b_ref22_fitting]
  rw [bif_neg (by omega)]
  exact fit_l5 M l hl hs l 1 0 M 0 rfl (by omega) ha (by omega) (by omega)

end Go.Abs.K
