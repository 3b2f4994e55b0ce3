/- SPI: what is sent is read again. -/
import Derived.Test.YtkackeahklljiaaP8
set_option linter.unusedVariables false
set_option linter.unusedSimpArgs false
namespace Go.Abs.K
open Go Go.Abs Go.Proofs

def lev (t u v : Int) : Event := Event.mk 1 t u v 0 (bs []) 0
theorem lev_vld (t u v : Int) (h1 : 0 ≤ t ∧ t ≤ u ∧ u ≤ 1099511627776) (hv : 0 ≤ v ∧ v ≤ 7) : Vld (lev t u v) := by
  unfold Vld lev
  simp only
  refine ⟨by omega, by omega, by omega, by omega, by omega, by omega, by omega, by omega, by omega, ?_⟩
  decide
theorem lev_in (a : A) (t u v : Int) (h1 : 0 ≤ t ∧ t < u ∧ u ≤ 1099511627776) (hv : 0 ≤ v ∧ v ≤ 7) (ha : a.ph = 0 ∨ a.at_ = t) : In a (lev t u v) := by
  refine ⟨lev_vld t u v ⟨h1.1, by omega, h1.2.2⟩ hv, rfl, rfl, h1.2.1, hv.1, hv.2, ?_⟩
  rcases ha with h | h
  · exact .inl h
  · exact .inr h.symm
theorem evs_append : ∀ (a b : List Run) (t : Int), evs t (a ++ b) = evs t a ++ evs (t + total a) b
  | [], b, t => by simp [evs, total]
  | r :: a, b, t => by
    have e : total (r :: a) = r.Ticks + total a := by simp [total]
    simp only [List.cons_append, evs, evs_append a b, e]
    rw [show t + r.Ticks + total a = t + (r.Ticks + total a) by omega]
theorem evs_at (c : Spi) (hc : OkC c) : ∀ (l : List Run) (t : Int) (a : A), Fine l → WfA c a → (a.ph = 0 ∧ t = 0 ∨ a.at_ = t) → 0 ≤ t → t + total l ≤ 1099511627776 → ((runA c a (evs t l)).1.ph = 0 ∨ (runA c a (evs t l)).1.at_ = t + total l) ∧ WfA c (runA c a (evs t l)).1
  | [], t, a, _, hw, hs, _, _ => by
    refine ⟨?_, hw⟩
    show a.ph = 0 ∨ a.at_ = t + 0
    omega
  | r :: l, t, a, hf, hw, hs, ht, hb => by
    have hr := hf r List.mem_cons_self
    have hf' : Fine l := fun x hx => hf x (List.mem_cons_of_mem _ hx)
    have ht' := (fine_total hf').1
    have e : total (r :: l) = r.Ticks + total l := by simp [total]
    have hi := lev_in a t (t + r.Ticks) r.Level ⟨ht, by omega, by omega⟩ hr.2 (by omega)
    have w1 := (step_wf c a (lev t (t + r.Ticks) r.Level) hw).1
    have hst : stepA c a (lev t (t + r.Ticks) r.Level) = stepB c a (lev t (t + r.Ticks) r.Level) := by unfold stepA; rw [if_pos ⟨hc, hi⟩]
    have hat : (stepA c a (lev t (t + r.Ticks) r.Level)).1.at_ = t + r.Ticks := by rw [hst]; exact (stepB_facts c a _).1
    have ih := evs_at c hc l (t + r.Ticks) (stepA c a (lev t (t + r.Ticks) r.Level)).1 hf' w1 (.inr hat) (by omega) (by omega)
    rw [e, show t + (r.Ticks + total l) = t + r.Ticks + total l by omega]
    exact ih
theorem fine_append {a b : List Run} : Fine (a ++ b) ↔ Fine a ∧ Fine b := by
  unfold Fine
  simp only [List.mem_append]
  exact ⟨fun h => ⟨fun r hr => h r (.inl hr), fun r hr => h r (.inr hr)⟩, fun h r hr => hr.elim (h.1 r) (h.2 r)⟩
theorem put_run (c : Spi) (hc : OkC c) (l : List Run) (v t : Int) (hf : Fine l) (ht : 1 ≤ t) (hv : 0 ≤ v ∧ v ≤ 7) (hb : total l + t ≤ 1099511627776) : runA c a0 (evs 0 (putA l v t)) = runA c a0 (evs 0 l ++ [lev (total l) (total l + t) v]) := by
  have h0 : ¬ t = 0 := by omega
  rcases snoc_cases l with rfl | ⟨q, r, rfl⟩
  · rw [put_nil, if_neg h0]
    rfl
  · rw [put_snoc, if_neg h0]
    obtain ⟨f1, f2⟩ := fine_append.1 hf
    have hr := f2 r List.mem_cons_self
    have hq := (fine_total f1).1
    have e1 : total (q ++ [r]) = total q + r.Ticks := by rw [total_append, total_one]
    by_cases c1 : r.Level = v
    · rw [if_pos c1, evs_append, evs_append]
      rw [e1] at hb ⊢
      obtain ⟨g1, g2⟩ := evs_at c hc q 0 a0 f1 (wf0 c hc) (.inl ⟨rfl, rfl⟩) (by omega) (by omega)
      rw [Int.zero_add] at g1
      simp only [evs, Int.zero_add, List.append_assoc, List.singleton_append]
      rw [run_append, run_append]
      have hi := lev_in (runA c a0 (evs 0 q)).1 (total q) (total q + (r.Ticks + t)) v ⟨hq, by omega, by omega⟩ hv g1
      have key := cut_run c hc (runA c a0 (evs 0 q)).1 (lev (total q) (total q + (r.Ticks + t)) v) (total q + r.Ticks) g2 hi ⟨by show total q < _; omega, by show _ < total q + (r.Ticks + t); omega⟩
      unfold lev at key ⊢
      dsimp only at key
      rw [c1, show total q + r.Ticks + t = total q + (r.Ticks + t) by omega, key]
    · rw [if_neg c1, evs_append]
      simp only [evs, Int.zero_add]
      rfl
def Pos (ps : List (Int × Int)) : Prop := ∀ p, p ∈ ps → 1 ≤ p.2 ∧ 0 ≤ p.1 ∧ p.1 ≤ 7
theorem pos_cons (p : Int × Int) (ps : List (Int × Int)) : Pos (p :: ps) ↔ (1 ≤ p.2 ∧ 0 ≤ p.1 ∧ p.1 ≤ 7) ∧ Pos ps := by
  unfold Pos
  simp only [List.mem_cons, forall_eq_or_imp]
theorem pos_append (a b : List (Int × Int)) : Pos (a ++ b) ↔ Pos a ∧ Pos b := by
  unfold Pos
  simp only [List.mem_append]
  exact ⟨fun h => ⟨fun p hp => h p (.inl hp), fun p hp => h p (.inr hp)⟩, fun h p hp => hp.elim (h.1 p) (h.2 p)⟩
theorem pos_nil : Pos [] := fun p hp => by cases hp
theorem pos_sum {ps : List (Int × Int)} (h : Pos ps) : 0 ≤ sumP ps := sumP_nonneg fun p hp => by have := h p hp; omega
def pev (t : Int) : List (Int × Int) → List Event
  | [] => []
  | p :: ps => lev t (t + p.2) p.1 :: pev (t + p.2) ps
theorem pev_append : ∀ (a b : List (Int × Int)) (t : Int), pev t (a ++ b) = pev t a ++ pev (t + sumP a) b
  | [], b, t => by simp [pev, sumP]
  | p :: a, b, t => by
    simp only [List.cons_append, pev, pev_append a b, sumP_cons]
    rw [show t + p.2 + sumP a = t + (p.2 + sumP a) by omega]
theorem puts_run (c : Spi) (hc : OkC c) : ∀ (ps : List (Int × Int)) (L : List Run), Pos ps → Fine L → total L + sumP ps ≤ 1099511627776 → runA c a0 (evs 0 (puts L ps)) = runA c a0 (evs 0 L ++ pev (total L) ps)
  | [], L, _, _, _ => by simp [puts, pev]
  | p :: ps, L, hp, hf, hb => by
    obtain ⟨p1, p2⟩ := (pos_cons p ps).1 hp
    have hs := pos_sum p2
    rw [sumP_cons] at hb
    have hfp := put_fine hf p.1 p.2 (by omega) p1.2
    have hpt := put_total L p.1 p.2
    have ih := puts_run c hc ps (putA L p.1 p.2) p2 hfp (by omega)
    have pr := put_run c hc L p.1 p.2 hf p1.1 p1.2 (by omega)
    rw [puts_cons, ih, run_append, pr, ← run_append, hpt]
    simp only [pev, List.append_assoc, List.singleton_append]

/-! ### Bits that are gathered -/
def shL (c : Spi) (a : A) (r : List Int) : A := r.foldl (shA c) a
theorem shL_cons (c : Spi) (a : A) (v : Int) (r : List Int) : shL c a (v :: r) = shL c (shA c a v) r := rfl
theorem shL_append (c : Spi) (a : A) (r s : List Int) : shL c a (r ++ s) = shL c (shL c a r) s := by simp [shL, List.foldl_append]
def withAP (a : A) (t p : Int) : A := { a with at_ := t, prev := p }
theorem sh_with (c : Spi) (a : A) (v t p : Int) : shA c (withAP a t p) v = withAP (shA c a v) t p := by
  unfold shA withAP
  dsimp only
  repeat' split
  all_goals rfl
theorem with_with (a : A) (t p t' p' : Int) : withAP (withAP a t p) t' p' = withAP a t' p' := rfl
theorem part_byte (c : Spi) : ∀ (q : List Int) (a : A), (a.bits.length : Int) + q.length < c.Bits → shL c a q = { a with bits := a.bits ++ q }
  | [], a, h => by simp [shL]
  | v :: q, a, h => by
    simp only [List.length_cons] at h
    have e : shA c a v = { a with bits := a.bits ++ [v] } := by unfold shA; rw [if_pos (by omega)]
    rw [shL_cons, e, part_byte c q _ (by simp; omega)]
    simp
theorem full_byte (c : Spi) (hc : OkC c) (a : A) (b : Int) (hb : 0 ≤ b ∧ b < 2 ^ c.Bits.toNat) (h0 : a.bits = []) (hd : a.data.size < 4096) : shL c a (digs c b) = { a with data := a.data ++ toBytes [b] } := by
  have hl := digs_len c b
  have hc' := hc
  unfold OkC at hc'
  rcases snoc_cases (digs c b) with h | ⟨q, v, h⟩
  · rw [h] at hl; simp at hl; omega
  · have hq : (q.length : Int) + 1 = c.Bits := by
      have := congrArg List.length h
      rw [hl, List.length_append, List.length_singleton] at this
      omega
    have hval : byteV c.Msb (q ++ [v]) = b := by
      rw [← h]
      unfold byteV digs
      cases c.Msb with
      | true => simp only [if_true, List.reverse_reverse]; exact lsb_val _ _ hb.1 hb.2
      | false => simp only [Bool.false_eq_true, if_false]; exact lsb_val _ _ hb.1 hb.2
    rw [h, shL_append, part_byte c q a (by rw [h0]; simp; omega), h0]
    show shA c _ v = _
    unfold shA
    dsimp only
    rw [List.nil_append, if_neg (by omega), if_pos hd, hval, ← h0]
theorem all_bytes (c : Spi) (hc : OkC c) : ∀ (l : List Int) (a : A), (∀ b, b ∈ l → 0 ≤ b ∧ b < 2 ^ c.Bits.toNat) → a.bits = [] → a.data.size + l.length ≤ 4096 → shL c a (allB c l) = { a with data := a.data ++ toBytes l }
  | [], a, _, h0, _ => by
    have : a.data ++ toBytes [] = a.data := by apply ofBytes_inj; rw [ofBytes_append]; simp [ofBytes, toBytes]
    rw [this]; rfl
  | b :: l, a, hb, h0, hd => by
    simp only [List.length_cons] at hd
    rw [allB_cons, shL_append, full_byte c hc a b (hb b List.mem_cons_self) h0 (by omega)]
    rw [all_bytes c hc l { a with data := a.data ++ toBytes [b] } (fun y hy => hb y (List.mem_cons_of_mem _ hy)) h0 (by simp only [ByteArray.size_append, toBytes_size, List.length_singleton]; omega)]
    dsimp only
    have : a.data ++ toBytes [b] ++ toBytes l = a.data ++ toBytes (b :: l) := by
      rw [ByteArray.append_assoc, toBytes_append]; rfl
    rw [this]
/-- The data of an item that is read. -/
def wantD (x : Item) : ByteArray := if x.Fault = 8 then x.Data.extract 0 (x.Data.size - 1) else x.Data
theorem item_sh (c : Spi) (hc : OkC c) (x : Item) (hx : ItemOk c x) (a : A) (h0 : a.bits = []) (hd : a.data = bs []) (ho : a.ov = false) : (shL c a (itemB c x)).data = wantD x ∧ endF (shL c a (itemB c x)) = x.Fault := by
  have hsz := hx.size
  have hnil : ∀ l : List Int, (bs []) ++ toBytes l = toBytes l := fun l => by apply ofBytes_inj; rw [ofBytes_append]; rfl
  unfold itemB wantD
  by_cases h8 : x.Fault = 8
  · rw [if_pos h8, if_pos h8]
    obtain ⟨hne, hb1⟩ := hx.short h8
    have hc' := hc
    unfold OkC at hc'
    rcases snoc_cases (ofBytes x.Data) with h | ⟨q, b, h⟩
    · exfalso
      apply hne
      apply ofBytes_inj
      rw [h]; rfl
    · have hl := congrArg List.length h
      rw [ofBytes_length, List.length_append, List.length_singleton] at hl
      have hdl := digs_len c b
      have hdn : digs c b ≠ [] := fun hh => by rw [hh] at hdl; simp at hdl; omega
      have e1 : (allB c (ofBytes x.Data)).dropLast = allB c q ++ (digs c b).dropLast := by
        rw [h, allB_append, show allB c [b] = digs c b by simp [allB], List.dropLast_append_of_ne_nil hdn]
      have hq : ∀ y, y ∈ q → 0 ≤ y ∧ y < 2 ^ c.Bits.toNat := fun y hy => hx.byte y (by rw [h]; simp [hy])
      have e2 := all_bytes c hc q a hq h0 (by rw [hd]; show 0 + _ ≤ _; omega)
      have hlast : ((digs c b).dropLast.length : Int) + 1 = c.Bits := by rw [List.length_dropLast, hdl]; omega
      rw [e1, shL_append, e2, part_byte c _ _ (by dsimp only; rw [h0]; simp only [List.length_nil]; omega)]
      dsimp only
      refine ⟨?_, ?_⟩
      · rw [hd, hnil]
        apply ofBytes_inj
        rw [ofBytes_extract, ofBytes_toBytes (fun y hy => by
          have := bytes_ofBytes x.Data y (by rw [h]; simp [hy]); exact this), h, List.drop_zero]
        rw [show x.Data.size - 1 = q.length by omega]
        simp
      · unfold endF
        rw [if_neg, h8]
        rintro ⟨hh, _⟩
        dsimp only at hh
        rw [h0, List.nil_append] at hh
        rw [hh] at hlast
        simp only [List.length_nil] at hlast
        omega
  · have h00 : x.Fault = 0 := by have := hx.fault; omega
    have e2 := all_bytes c hc (ofBytes x.Data) a hx.byte h0 (by rw [hd, ofBytes_length]; show 0 + _ ≤ _; omega)
    rw [if_neg h8, if_neg h8, e2]
    dsimp only
    refine ⟨by rw [hd, hnil, toBytes_ofBytes], ?_⟩
    unfold endF
    rw [if_pos ⟨h0, ho⟩, h00]

/-! ### One item -/
theorem stepA_in (c : Spi) (hc : OkC c) (a : A) (t u v : Int) (h1 : 0 ≤ t ∧ t < u ∧ u ≤ 1099511627776) (hv : 0 ≤ v ∧ v ≤ 7) (ha : a.ph = 0 ∨ a.at_ = t) : stepA c a (lev t u v) = stepB c a (lev t u v) := by
  unfold stepA; rw [if_pos ⟨hc, lev_in a t u v h1 hv ha⟩]
theorem act_bef (c : Spi) (v w : Int) (h : w % 2 = bef c) : ¬ act c v w := by
  unfold bef at h
  unfold act
  by_cases m : c.Mode = 0 ∨ c.Mode = 3
  · rw [if_pos m] at h ⊢; omega
  · rw [if_neg m] at h ⊢; omega
theorem act_yes (c : Spi) (v w : Int) (h : v % 2 = bef c) (h2 : w % 2 = 1 - bef c) : act c v w := by
  unfold bef at h h2
  unfold act
  by_cases m : c.Mode = 0 ∨ c.Mode = 3
  · rw [if_pos m] at h h2 ⊢; omega
  · rw [if_neg m] at h h2 ⊢; omega
theorem act_idl (c : Spi) (hc : OkC c) (v : Int) (h : v % 2 = 1 - bef c ∨ v % 2 = idl c) : ¬ act c v (idl c) := by
  have := idl_b c hc
  unfold act
  unfold bef idl at *
  rcases mode4 c hc with m | m | m | m <;> rw [m] at h ⊢ <;> simp at h ⊢ <;> omega
theorem bits_run (c : Spi) (hc : OkC c) : ∀ (r : List Int) (a : A) (t : Int), Bits r → a.ph = 2 → a.at_ = t → (0 ≤ a.prev ∧ a.prev ≤ 3 ∧ (a.prev % 2 = 1 - bef c ∨ a.prev % 2 = idl c)) → 0 ≤ t → t + sumP (bitP (bef c) c.T r) ≤ 1099511627776 →
    ∃ p, (0 ≤ p ∧ p ≤ 3 ∧ (p % 2 = 1 - bef c ∨ p % 2 = idl c)) ∧ runA c a (pev t (bitP (bef c) c.T r)) = (withAP (shL c a r) (t + sumP (bitP (bef c) c.T r)) p, [])
  | [], a, t, _, h2, ha, hp, _, _ => by
    refine ⟨a.prev, hp, ?_⟩
    have : sumP (bitP (bef c) c.T []) = 0 := rfl
    rw [this, Int.add_zero, ← ha]
    rfl
  | v :: r, a, t, hb, h2, ha, hp, ht, hT => by
    obtain ⟨hv, hb2⟩ := bits_cons hb
    have hbf := bef_b c
    have hc' := hc
    unfold OkC at hc'
    have hs := sumP_nonneg (bitP_fine c hc (bef c) hbf r hb2).1
    have hsum : sumP (bitP (bef c) c.T (v :: r)) = c.T + (c.T + sumP (bitP (bef c) c.T r)) := by simp only [bitP, sumP_cons]
    rw [hsum] at hT ⊢
    have s1 : stepA c a (lev t (t + c.T) (2 * v + bef c)) = (withAP a (t + c.T) (2 * v + bef c), []) := by
      rw [stepA_in c hc a _ _ _ ⟨ht, by omega, by omega⟩ (by omega) (.inr ha)]
      exact sB_not c a _ h2 (by omega) (by show ¬ (2 * v + bef c) / 4 ≠ 0; omega) (act_bef c _ _ (by show (2 * v + bef c) % 2 = bef c; omega))
    have s2 : stepA c (withAP a (t + c.T) (2 * v + bef c)) (lev (t + c.T) (t + c.T + c.T) (2 * v + 1 - bef c)) = (withAP (shA c a v) (t + c.T + c.T) (2 * v + 1 - bef c), []) := by
      rw [stepA_in c hc (withAP a (t + c.T) (2 * v + bef c)) (t + c.T) (t + c.T + c.T) (2 * v + 1 - bef c) ⟨by omega, by omega, by omega⟩ (by omega) (.inr rfl)]
      rw [sB_act c _ _ (show (withAP a (t + c.T) (2 * v + bef c)).ph = 2 from h2) (by show ¬ ((2 * v + bef c) / 4 ≠ 0 ∧ _); omega) (by show ¬ (2 * v + 1 - bef c) / 4 ≠ 0; omega) (act_yes c _ _ (by show (2 * v + bef c) % 2 = bef c; omega) (by show (2 * v + 1 - bef c) % 2 = _; omega))]
      have hvv : (lev (t + c.T) (t + c.T + c.T) (2 * v + 1 - bef c)).Value / 2 % 2 = v := by show (2 * v + 1 - bef c) / 2 % 2 = v; omega
      rw [hvv, sh_with]
      rfl
    have hk := sh_keeps c a v
    obtain ⟨p, p1, p2⟩ := bits_run c hc r (withAP (shA c a v) (t + c.T + c.T) (2 * v + 1 - bef c)) (t + c.T + c.T) hb2 (by show (shA c a v).ph = 2; rw [hk.1]; exact h2) rfl ⟨by show 0 ≤ 2 * v + 1 - bef c; omega, by show 2 * v + 1 - bef c ≤ 3; omega, .inl (by show (2 * v + 1 - bef c) % 2 = _; omega)⟩ (by omega) (by omega)
    refine ⟨p, p1, ?_⟩
    have hshw : ∀ (r : List Int) (a : A) (t p : Int), shL c (withAP a t p) r = withAP (shL c a r) t p := by
      intro r
      induction r with
      | nil => intro a t p; rfl
      | cons w r ih => intro a t p; rw [shL_cons, sh_with, ih]; rfl
    rw [hshw, with_with] at p2
    simp only [bitP, pev, runA, s1, s2, p2, List.nil_append]
    rw [show t + c.T + c.T + sumP (bitP (bef c) c.T r) = t + (c.T + (c.T + sumP (bitP (bef c) c.T r))) by omega]
    rfl
/-- Between two items. -/
def Btw (c : Spi) (a : A) (t : Int) : Prop := (a = a0 ∧ t = 0) ∨ (a.ph = 2 ∧ a.prev = idl c ∧ a.at_ = t)
def pendE (a : A) (t : Int) : List Event := if a.ph = 2 then [Event.mk 5 a.frm t 0 0 a.data (endF a)] else []
theorem high_run (c : Spi) (hc : OkC c) (a : A) (t u : Int) (hb : Btw c a t) (h1 : 0 ≤ t ∧ t < u ∧ u ≤ 1099511627776) : (stepA c a (lev t u (4 + idl c))).2 = pendE a t ∧ (stepA c a (lev t u (4 + idl c))).1.ph = 1 ∧ (stepA c a (lev t u (4 + idl c))).1.prev = 4 + idl c ∧ (stepA c a (lev t u (4 + idl c))).1.at_ = u := by
  have hi := idl_b c hc
  rcases hb with ⟨rfl, rfl⟩ | ⟨b1, b2, b3⟩
  · rw [stepA_in c hc a0 _ _ _ h1 (by omega) (.inl rfl), sB_zero c a0 _ rfl]
    exact ⟨rfl, rfl, rfl, rfl⟩
  · rw [stepA_in c hc a _ _ _ h1 (by omega) (.inr b3), sB_end c a _ b1 (by rw [b2]; omega) (by show (4 + idl c) / 4 ≠ 0; omega)]
    refine ⟨?_, rfl, rfl, rfl⟩
    unfold pendE
    rw [if_pos b1]; rfl
theorem item_run (c : Spi) (hc : OkC c) (x : Item) (hx : ItemOk c x) (a : A) (t : Int) (hb : Btw c a t) (ht : 0 ≤ t) (hT : t + sumP (itemP c x) ≤ 1099511627776) :
    (runA c a (pev t (itemP c x))).2 = pendE a t ∧ Btw c (runA c a (pev t (itemP c x))).1 (t + sumP (itemP c x)) ∧ (runA c a (pev t (itemP c x))).1.ph = 2 ∧ (runA c a (pev t (itemP c x))).1.frm = t + (2 * c.T + x.Gap) ∧ (runA c a (pev t (itemP c x))).1.data = wantD x ∧ endF (runA c a (pev t (itemP c x))).1 = x.Fault := by
  have hi := idl_b c hc
  have hg := hx.gap
  have hc' := hc
  unfold OkC at hc'
  have hB := itemB_bits c x
  have hs0 := sumP_nonneg (bitP_fine c hc (bef c) (bef_b c) (itemB c x) hB).1
  have hsum : sumP (itemP c x) = 2 * c.T + x.Gap + (c.T + (sumP (bitP (bef c) c.T (itemB c x)) + c.T)) := by
    unfold itemP tailP
    rw [sumP_cons, sumP_cons, sumP_append]
    simp [sumP]
  rw [hsum] at hT ⊢
  obtain ⟨e1, e2, e3, e4⟩ := high_run c hc a t (t + (2 * c.T + x.Gap)) hb ⟨ht, by omega, by omega⟩
  have s2 : ∀ a1 : A, a1.ph = 1 → a1.prev = 4 + idl c → a1.at_ = t + (2 * c.T + x.Gap) → stepA c a1 (lev (t + (2 * c.T + x.Gap)) (t + (2 * c.T + x.Gap) + c.T) (idl c)) = (⟨2, t + (2 * c.T + x.Gap) + c.T, t + (2 * c.T + x.Gap), idl c, [], bs [], false⟩, []) := fun a1 q1 q2 q3 => by
    rw [stepA_in c hc a1 _ _ _ ⟨by omega, by omega, by omega⟩ (by omega) (.inr q3)]
    exact sB_start c a1 _ (by omega) ⟨by rw [q2]; omega, by show idl c / 4 = 0; omega⟩
  obtain ⟨p, p1, p2⟩ := bits_run c hc (itemB c x) ⟨2, t + (2 * c.T + x.Gap) + c.T, t + (2 * c.T + x.Gap), idl c, [], bs [], false⟩ (t + (2 * c.T + x.Gap) + c.T) hB rfl rfl ⟨hi.1, by dsimp only; omega, .inr (by dsimp only; omega)⟩ (by omega) (by omega)
  obtain ⟨d1, d2⟩ := item_sh c hc x hx ⟨2, t + (2 * c.T + x.Gap) + c.T, t + (2 * c.T + x.Gap), idl c, [], bs [], false⟩ rfl rfl rfl
  have hkeep : ∀ (r : List Int) (a : A), (shL c a r).ph = a.ph ∧ (shL c a r).frm = a.frm := by
    intro r
    induction r with
    | nil => intro a; exact ⟨rfl, rfl⟩
    | cons w r ih => intro a; rw [shL_cons, (ih _).1, (ih _).2, (sh_keeps c a w).1, (sh_keeps c a w).2.1]; exact ⟨rfl, rfl⟩
  obtain ⟨k1, k2⟩ := hkeep (itemB c x) ⟨2, t + (2 * c.T + x.Gap) + c.T, t + (2 * c.T + x.Gap), idl c, [], bs [], false⟩
  generalize shL c ⟨2, t + (2 * c.T + x.Gap) + c.T, t + (2 * c.T + x.Gap), idl c, [], bs [], false⟩ (itemB c x) = S at *
  have s3 : stepA c (withAP S (t + (2 * c.T + x.Gap) + c.T + sumP (bitP (bef c) c.T (itemB c x))) p) (lev (t + (2 * c.T + x.Gap) + c.T + sumP (bitP (bef c) c.T (itemB c x))) (t + (2 * c.T + x.Gap) + c.T + sumP (bitP (bef c) c.T (itemB c x)) + c.T) (idl c)) = (withAP S (t + (2 * c.T + x.Gap) + c.T + sumP (bitP (bef c) c.T (itemB c x)) + c.T) (idl c), []) := by
    rw [stepA_in c hc (withAP S (t + (2 * c.T + x.Gap) + c.T + sumP (bitP (bef c) c.T (itemB c x))) p) (t + (2 * c.T + x.Gap) + c.T + sumP (bitP (bef c) c.T (itemB c x))) (t + (2 * c.T + x.Gap) + c.T + sumP (bitP (bef c) c.T (itemB c x)) + c.T) (idl c) ⟨by omega, by omega, by omega⟩ (by omega) (.inr rfl)]
    exact sB_not c _ _ (show S.ph = 2 from k1) (by show ¬ (p / 4 ≠ 0 ∧ _); omega) (by show ¬ idl c / 4 ≠ 0; omega) (act_idl c hc p p1.2.2)
  have hrun : runA c a (pev t (itemP c x)) = (withAP S (t + (2 * c.T + x.Gap) + c.T + sumP (bitP (bef c) c.T (itemB c x)) + c.T) (idl c), pendE a t) := by
    unfold itemP tailP
    simp only [pev, runA]
    rw [s2 _ e2 e3 e4, pev_append, run_append, p2]
    simp only [pev, runA, s3, e1, List.append_nil, List.nil_append]
  rw [hrun]
  refine ⟨rfl, .inr ⟨k1, rfl, ?_⟩, k1, k2, d1, d2⟩
  show t + (2 * c.T + x.Gap) + c.T + sumP (bitP (bef c) c.T (itemB c x)) + c.T = _
  omega
def wantL (c : Spi) (t : Int) : List Item → List Event
  | [] => []
  | x :: l => Event.mk 5 (t + (2 * c.T + x.Gap)) (t + sumP (itemP c x)) 0 0 (wantD x) x.Fault :: wantL c (t + sumP (itemP c x)) l
theorem item_pos (c : Spi) (hc : OkC c) (x : Item) (hx : ItemOk c x) : Pos (itemP c x) := by
  have hi := idl_b c hc
  have hg := hx.gap
  have hbf := bef_b c
  have hc' := hc
  unfold OkC at hc'
  have hbp : ∀ r : List Int, Bits r → Pos (bitP (bef c) c.T r) := by
    intro r
    induction r with
    | nil => intro _; exact pos_nil
    | cons v r ih =>
      intro h
      obtain ⟨h1, h2⟩ := bits_cons h
      simp only [bitP, pos_cons]
      exact ⟨⟨by omega, by omega, by omega⟩, ⟨by omega, by omega, by omega⟩, ih h2⟩
  unfold itemP tailP
  rw [pos_cons, pos_cons, pos_append, pos_cons]
  exact ⟨⟨by dsimp only; omega, by dsimp only; omega, by dsimp only; omega⟩, ⟨by dsimp only; omega, by dsimp only; omega, by dsimp only; omega⟩, hbp _ (itemB_bits c x), ⟨by dsimp only; omega, by dsimp only; omega, by dsimp only; omega⟩, pos_nil⟩
theorem all_pos (c : Spi) (hc : OkC c) : ∀ l : List Item, (∀ x, x ∈ l → ItemOk c x) → Pos (allP c l)
  | [], _ => pos_nil
  | x :: l, h => by
    rw [allP_cons, pos_append]
    exact ⟨item_pos c hc x (h x List.mem_cons_self), all_pos c hc l fun y hy => h y (List.mem_cons_of_mem _ hy)⟩
theorem all_run (c : Spi) (hc : OkC c) : ∀ (l : List Item) (a : A) (t : Int), (∀ x, x ∈ l → ItemOk c x) → Btw c a t → 0 ≤ t → t + sumP (allP c l ++ [(4 + idl c, 2 * c.T)]) ≤ 1099511627776 →
    (runA c a (pev t (allP c l ++ [(4 + idl c, 2 * c.T)]))).2 = pendE a t ++ wantL c t l ∧ (runA c a (pev t (allP c l ++ [(4 + idl c, 2 * c.T)]))).1.ph = 1
  | [], a, t, _, hb, ht, hT => by
    have hc' := hc
    unfold OkC at hc'
    have hs : sumP (allP c [] ++ [(4 + idl c, 2 * c.T)]) = 2 * c.T := by simp [allP, sumP]
    rw [hs] at hT
    obtain ⟨e1, e2, e3, e4⟩ := high_run c hc a t (t + 2 * c.T) hb ⟨ht, by omega, by omega⟩
    have : pev t (allP c [] ++ [(4 + idl c, 2 * c.T)]) = [lev t (t + 2 * c.T) (4 + idl c)] := rfl
    rw [this, run_one, e1]
    exact ⟨by simp [wantL], e2⟩
  | x :: l, a, t, hok, hb, ht, hT => by
    have hx := hok x List.mem_cons_self
    have hps := pos_sum (item_pos c hc x hx)
    have hrest : 0 ≤ sumP (allP c l ++ [(4 + idl c, 2 * c.T)]) := by
      have hi := idl_b c hc
      have hc' := hc
      unfold OkC at hc'
      exact pos_sum ((pos_append _ _).2 ⟨all_pos c hc l fun y hy => hok y (List.mem_cons_of_mem _ hy), (pos_cons _ _).2 ⟨⟨by dsimp only; omega, by dsimp only; omega, by dsimp only; omega⟩, pos_nil⟩⟩)
    rw [allP_cons, List.append_assoc, sumP_append] at hT
    obtain ⟨i1, i2, i3, i4, i5, i6⟩ := item_run c hc x hx a t hb ht (by omega)
    obtain ⟨j1, j2⟩ := all_run c hc l _ _ (fun y hy => hok y (List.mem_cons_of_mem _ hy)) i2 (by omega) (by omega)
    rw [allP_cons, List.append_assoc, pev_append, run_append, i1]
    refine ⟨?_, j2⟩
    dsimp only
    rw [j1]
    unfold pendE
    rw [if_pos i3, i4, i5, i6]
    rfl
theorem runs_dec (c : Spi) (hc : OkC c) (l : List Item) (hok : ∀ x, x ∈ l → ItemOk c x) (hT : total (runsA c l) ≤ 1099511627776) : decA c (evs 0 (runsA c l)) = wantL c 0 l := by
  have hi := idl_b c hc
  have hc' := hc
  unfold OkC at hc'
  have e : runsA c l = puts [] (allP c l ++ [(4 + idl c, 2 * c.T)]) := by rw [puts_append]; rfl
  have hpos : Pos (allP c l ++ [(4 + idl c, 2 * c.T)]) := (pos_append _ _).2 ⟨all_pos c hc l hok, (pos_cons _ _).2 ⟨⟨by dsimp only; omega, by dsimp only; omega, by dsimp only; omega⟩, pos_nil⟩⟩
  rw [e, puts_total, total_nil] at hT
  obtain ⟨j1, j2⟩ := all_run c hc l a0 0 hok (.inl ⟨rfl, rfl⟩) (by omega) (by omega)
  have hrun := puts_run c hc _ [] hpos fine_nil (by rw [total_nil]; omega)
  unfold decA
  rw [e, hrun]
  have hz : evs 0 [] ++ pev (total []) (allP c l ++ [(4 + idl c, 2 * c.T)]) = pev 0 (allP c l ++ [(4 + idl c, 2 * c.T)]) := rfl
  rw [hz, j1]
  unfold endA
  rw [if_neg (fun h => by rw [j2] at h; exact absurd h.2 (by decide))]
  simp [pendE, a0]
end Go.Abs.K
