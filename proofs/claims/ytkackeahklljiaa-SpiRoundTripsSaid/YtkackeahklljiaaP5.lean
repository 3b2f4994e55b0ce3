/- SPI: the order of bits. -/
import Derived.Test.YtkackeahklljiaaP4
set_option linter.unusedVariables false
set_option linter.unusedSimpArgs false
namespace Go.Abs.K
open Go Go.Abs Go.Proofs

theorem revV_bit : ∀ (l : List Int), Bits l → ∀ (j : Nat), revV l / 2 ^ j % 2 = l.getD j 0
  | [], _, j => by simp [revV]
  | b :: r, h, 0 => by
    obtain ⟨h1, h2⟩ := bits_cons h
    rw [revV_cons]; simp; omega
  | b :: r, h, j + 1 => by
    obtain ⟨h1, h2⟩ := bits_cons h
    rw [revV_cons, pow_s, ← Int.ediv_ediv_of_nonneg (show (0 : Int) ≤ 2 by decide), show (b + 2 * revV r) / 2 = revV r by omega, revV_bit r h2 j]
    simp
/-- Data of bits that came in groups. -/
def packA (msb : Bool) (D : List (List Int)) : ByteArray := toBytes (D.map (byteV msb))
def Groups (n : Int) (D : List (List Int)) : Prop := ∀ g, g ∈ D → Bits g ∧ (g.length : Int) = n
theorem toBytes_snoc (l : List Int) (x : Int) : toBytes l ++ toBytes [x] = toBytes (l ++ [x]) := by
  have : toBytes (l ++ [x]) = toBytes l ++ toBytes [x] := by
    apply ofBytes_inj
    rw [ofBytes_append]
    simp [ofBytes, toBytes]
  exact this.symm
structure O (c : Spi) (a b : A) : Prop where
  ph : b.ph = a.ph
  at_ : b.at_ = a.at_
  frm : b.frm = a.frm
  bits : b.bits = a.bits
  ov : b.ov = a.ov
  prev : b.prev = a.prev
  data : ∃ D, Groups c.Bits D ∧ a.data = packA c.Msb D ∧ b.data = packA (!c.Msb) D
def Alike (c : Spi) (e f : Event) : Prop := f.From = e.From ∧ f.To = e.To ∧ f.Fault = e.Fault ∧ ∃ D, Groups c.Bits D ∧ e.Data = packA c.Msb D ∧ f.Data = packA (!c.Msb) D
def AlikeL (c : Spi) : List Event → List Event → Prop
  | [], l => l = []
  | e :: k, l => ∃ f l', l = f :: l' ∧ Alike c e f ∧ AlikeL c k l'
theorem alike_append (c : Spi) : ∀ (k l k' l' : List Event), AlikeL c k l → AlikeL c k' l' → AlikeL c (k ++ k') (l ++ l')
  | [], l, k', l', h1, h2 => by rw [show l = [] from h1]; exact h2
  | e :: k, l, k', l', h1, h2 => by
    obtain ⟨f, l1, rfl, g1, g2⟩ := h1
    exact ⟨f, l1 ++ l', rfl, g1, alike_append c k l1 k' l' g2 h2⟩
theorem pack_size (msb : Bool) (D : List (List Int)) : (packA msb D).size = D.length := by unfold packA; rw [toBytes_size, List.length_map]
def oth (c : Spi) : Spi := ⟨c.T, c.Mode, c.Bits, !c.Msb⟩
theorem oth_ok (c : Spi) : OkC (oth c) ↔ OkC c := Iff.rfl
theorem oth_act (c : Spi) (v w : Int) : act (oth c) v w ↔ act c v w := Iff.rfl
theorem in_same (a b : A) (e : Event) (h1 : b.ph = a.ph) (h2 : b.at_ = a.at_) : In b e ↔ In a e := by
  unfold In; rw [h1, h2]
theorem groups_nil (n : Int) : Groups n [] := fun g hg => by cases hg
theorem sh_order (c : Spi) (hc : OkC c) (a b : A) (v : Int) (o : O c a b) (hw : WfA c a) (hv : v = 0 ∨ v = 1) : O c (shA c a v) (shA (oth c) b v) := by
  obtain ⟨q1, q2, q3, q4, q5, q6, D, d1, d2, d3⟩ := o
  have hlen := hw.len
  have hs : b.data.size = a.data.size := by rw [d2, d3, pack_size, pack_size]
  unfold shA
  show O c _ (if (b.bits.length : Int) + 1 < c.Bits then _ else if b.data.size < 4096 then _ else _)
  rw [q4, hs]
  by_cases c1 : (a.bits.length : Int) + 1 < c.Bits
  · rw [if_pos c1, if_pos c1]
    exact ⟨q1, q2, q3, rfl, q5, q6, D, d1, d2, d3⟩
  · rw [if_neg c1, if_neg c1]
    by_cases c2 : a.data.size < 4096
    · rw [if_pos c2, if_pos c2]
      refine ⟨q1, q2, q3, rfl, q5, q6, D ++ [a.bits ++ [v]], ?_, ?_, ?_⟩
      · intro g hg
        rcases List.mem_append.1 hg with hg | hg
        · exact d1 g hg
        · rw [List.mem_singleton.1 hg]
          refine ⟨bits_append.2 ⟨hw.bits, bits_one hv⟩, ?_⟩
          simp only [List.length_append, List.length_singleton]; omega
      · show a.data ++ _ = _
        rw [d2]; unfold packA; rw [toBytes_snoc, List.map_append]; rfl
      · show b.data ++ _ = _
        rw [d3]; unfold packA; rw [toBytes_snoc, List.map_append]; rfl
    · rw [if_neg c2, if_neg c2]
      exact ⟨q1, q2, q3, rfl, rfl, q6, D, d1, d2, d3⟩
theorem step_order (c : Spi) (a b : A) (e : Event) (o : O c a b) (hw : OkC c → WfA c a) : AlikeL c (stepA c a e).2 (stepA (oth c) b e).2 ∧ O c (stepA c a e).1 (stepA (oth c) b e).1 := by
  have o' := o
  obtain ⟨q1, q2, q3, q4, q5, q6, D, d1, d2, d3⟩ := o
  unfold stepA
  by_cases hi : OkC c ∧ In a e
  · rw [if_pos hi, if_pos (show OkC (oth c) ∧ In b e from ⟨hi.1, (in_same a b e q1 q2).2 hi.2⟩)]
    have hw := hw hi.1
    have hef : endF b = endF a := by unfold endF; rw [q4, q5]
    by_cases h0 : a.ph = 0
    · rw [sB_zero _ a e h0, sB_zero _ b e (by rw [q1]; exact h0)]
      exact ⟨rfl, ⟨rfl, rfl, q3, q4, q5, rfl, D, d1, d2, d3⟩⟩
    · have h0' : b.ph ≠ 0 := by rw [q1]; exact h0
      by_cases hs : a.prev / 4 ≠ 0 ∧ e.Value / 4 = 0
      · rw [sB_start _ a e h0 hs, sB_start _ b e h0' (by rw [q6]; exact hs)]
        exact ⟨rfl, ⟨rfl, rfl, rfl, rfl, rfl, rfl, [], groups_nil _, rfl, rfl⟩⟩
      · have hs' : ¬ (b.prev / 4 ≠ 0 ∧ e.Value / 4 = 0) := by rw [q6]; exact hs
        by_cases h2 : a.ph = 2
        · have h2' : b.ph = 2 := by rw [q1]; exact h2
          by_cases h4 : e.Value / 4 ≠ 0
          · rw [sB_end _ a e h2 hs h4, sB_end _ b e h2' hs' h4, hef]
            exact ⟨⟨_, [], rfl, ⟨q3, rfl, rfl, D, d1, d2, d3⟩, rfl⟩, ⟨rfl, rfl, q3, q4, q5, rfl, D, d1, d2, d3⟩⟩
          · by_cases ha : act c a.prev e.Value
            · rw [sB_act _ a e h2 hs h4 ha, sB_act _ b e h2' hs' h4 (by rw [q6]; exact ha)]
              obtain ⟨r1, r2, r3, r4, r5, r6, r7⟩ := sh_order c hi.1 a b (e.Value / 2 % 2) o' hw (by omega)
              exact ⟨rfl, ⟨r1, rfl, r3, r4, r5, rfl, r7⟩⟩
            · rw [sB_not _ a e h2 hs h4 ha, sB_not _ b e h2' hs' h4 (by rw [q6]; exact ha)]
              exact ⟨rfl, ⟨q1, rfl, q3, q4, q5, rfl, D, d1, d2, d3⟩⟩
        · rw [sB_idle _ a e h0 hs h2, sB_idle _ b e h0' hs' (by rw [q1]; exact h2)]
          exact ⟨rfl, ⟨q1, rfl, q3, q4, q5, rfl, D, d1, d2, d3⟩⟩
  · rw [if_neg hi, if_neg (fun h : OkC (oth c) ∧ In b e => hi ⟨h.1, (in_same a b e q1 q2).1 h.2⟩)]
    exact ⟨rfl, o'⟩
theorem run_order (c : Spi) : ∀ (l : List Event) (a b : A), O c a b → (OkC c → WfA c a) → AlikeL c (runA c a l).2 (runA (oth c) b l).2 ∧ O c (runA c a l).1 (runA (oth c) b l).1
  | [], a, b, o, _ => ⟨rfl, o⟩
  | e :: l, a, b, o, hw => by
    obtain ⟨s1, s2⟩ := step_order c a b e o hw
    obtain ⟨i1, i2⟩ := run_order c l _ _ s2 (fun hc => (step_wf c a e (hw hc)).1)
    exact ⟨alike_append c _ _ _ _ s1 i1, i2⟩
theorem dec_order (c : Spi) (l : List Event) : AlikeL c (decA c l) (decA (oth c) l) := by
  obtain ⟨i1, i2⟩ := run_order c l a0 a0 ⟨rfl, rfl, rfl, rfl, rfl, rfl, [], groups_nil _, rfl, rfl⟩ (wf0 c)
  unfold decA
  refine alike_append c _ _ _ _ i1 ?_
  unfold endA
  by_cases h : OkC c ∧ (runA c a0 l).1.ph = 2
  · rw [if_pos h, if_pos (show OkC (oth c) ∧ (runA (oth c) a0 l).1.ph = 2 from ⟨h.1, by rw [i2.ph]; exact h.2⟩)]
    exact ⟨_, [], rfl, ⟨i2.frm, i2.at_, rfl, [], groups_nil _, rfl, rfl⟩, rfl⟩
  · rw [if_neg h, if_neg (fun h' : OkC (oth c) ∧ (runA (oth c) a0 l).1.ph = 2 => h ⟨h'.1, by rw [← i2.ph]; exact h'.2⟩)]
    rfl
theorem alike_len (c : Spi) : ∀ (k l : List Event), AlikeL c k l → l.length = k.length
  | [], l, h => by rw [show l = [] from h]
  | e :: k, l, h => by
    obtain ⟨f, l1, rfl, g1, g2⟩ := h
    simp [alike_len c k l1 g2]
theorem alike_get (c : Spi) : ∀ (k l : List Event) (i : Nat), AlikeL c k l → i < k.length → Alike c (k.getD i dflt_Event) (l.getD i dflt_Event)
  | [], l, i, h, hi => by simp at hi
  | e :: k, l, 0, h, hi => by
    obtain ⟨f, l1, rfl, g1, g2⟩ := h
    exact g1
  | e :: k, l, i + 1, h, hi => by
    obtain ⟨f, l1, rfl, g1, g2⟩ := h
    have := alike_get c k l1 i g2 (by simpa using hi)
    simpa using this

/-! ### The law's loops -/
theorem pack_at (c : Spi) (hc : OkC c) (msb : Bool) (D : List (List Int)) (hD : Groups c.Bits D) (k : Nat) (hk : k < D.length) : IntKind.i64.wrap (byteAt (packA msb D) (k : Int)) = byteV msb (D.getD k []) := by
  have hB : Bytes (D.map (byteV msb)) := by
    intro x hx
    simp only [List.mem_map] at hx
    obtain ⟨g, hg, rfl⟩ := hx
    obtain ⟨h1, h2⟩ := hD g hg
    unfold OkC at hc
    have := byteV_range msb h1 (by omega)
    omega
  have hm : D.getD k [] = D[k] := by rw [List.getD_eq_getElem?_getD, List.getElem?_eq_getElem hk]; rfl
  have : byteAt (packA msb D) (k : Int) = byteV msb (D.getD k []) := by
    unfold packA
    rw [byteAt_eq, ofBytes_toBytes hB, Int.toNat_natCast, List.getD_eq_getElem?_getD, List.getElem?_map, List.getElem?_eq_getElem hk, hm]
    rfl
  rw [this]
  obtain ⟨h1, h2⟩ := hD (D.getD k []) (by rw [hm]; exact List.getElem_mem hk)
  unfold OkC at hc
  have := byteV_range msb h1 (by omega)
  exact i64_ok (by omega)
theorem order_l20 (M : Nat) (c : Spi) (hc : OkC c) (q : Int → Int → Spi → List Event → List Event → Option Bool) (i k : Int) (hk : 0 ≤ k ∧ k ≤ 100000) (g : List Int) (hg : Bits g) (hl : (g.length : Int) = c.Bits) (a b : List Event) : ∀ (n j m : Nat), j + n = g.length → n < m →
    law24_SpiOrder_l20 M q m i k (byteV c.Msb g) (byteV (!c.Msb) g) (j : Int) c a b = q i (k + 1) c a b
  | n, j, 0, _, hm => by omega
  | 0, j, m + 1, hj, hm => by
    have hc' := hc
    unfold OkC at hc'
    have h1 := byteV_range c.Msb hg (by omega)
    have h2 := byteV_range (!c.Msb) hg (by omega)
    have hn : c.Bits.toNat = g.length := by omega
    have hp := pow_pos2 g.length
    simp only [law24_SpiOrder_l20, b_law24_SpiOrder_l20, bne_if]
    rw [bif_neg (by omega), bif_neg (by omega), Nat.min_eq_left (by omega), hn, Int.fdiv_eq_ediv_of_nonneg _ (by omega), Int.fdiv_eq_ediv_of_nonneg _ (by omega), if_pos (Int.ediv_eq_zero_of_lt h1.1 h1.2.1), bif_neg (by omega), if_pos (Int.ediv_eq_zero_of_lt h2.1 h2.2.1), i64_ok (n := k + 1) (by omega)]
  | n + 1, j, m + 1, hj, hm => by
    have hc' := hc
    unfold OkC at hc'
    have ih := order_l20 M c hc q i k hk g hg hl a b n (j + 1) m (by omega) (by omega)
    have hp1 := pow_pos2 j
    have hp2 := pow_pos2 (g.length - 1 - j)
    have e1 : (c.Bits - 1 - (j : Int)).toNat = g.length - 1 - j := by omega
    have hrv : ∀ t : Nat, t < g.length → g.reverse.getD t 0 = g.getD (g.length - 1 - t) 0 := fun t ht => by
      rw [List.getD_eq_getElem?_getD, List.getElem?_reverse ht, List.getD_eq_getElem?_getD]
    have hbits : byteV c.Msb g / 2 ^ j % 2 = byteV (!c.Msb) g / 2 ^ (g.length - 1 - j) % 2 := by
      unfold byteV
      cases c.Msb with
      | true =>
        simp only [if_true, Bool.not_true, Bool.false_eq_true, if_false]
        rw [revV_bit _ (bits_reverse hg), revV_bit _ hg, hrv j (by omega)]
      | false =>
        simp only [if_true, Bool.not_false, Bool.false_eq_true, if_false]
        rw [revV_bit _ (bits_reverse hg), revV_bit _ hg, hrv _ (by omega)]
        congr 1; omega
    simp only [law24_SpiOrder_l20, b_law24_SpiOrder_l20, bne_if, and_one]
    rw [bif_pos (by omega), bif_neg (by omega), i64_ok (n := c.Bits - 1) (by omega), i64_ok (n := c.Bits - 1 - (j : Int)) (by omega), bif_neg (by omega), Int.toNat_natCast, e1, Nat.min_eq_left (by omega), Nat.min_eq_left (by omega), Int.fdiv_eq_ediv_of_nonneg _ (by omega), Int.fdiv_eq_ediv_of_nonneg _ (by omega), if_pos hbits, next_i j (by omega)]
    exact ih
theorem order_l16 (M : Nat) (hM : 100000 < M) (c : Spi) (hc : OkC c) (q : Int → Spi → List Event → List Event → Option Bool) (i : Nat) (a b : List Event) (hab : AlikeL c a b) (hi : i < a.length) (hia : a.length ≤ 100000) (D : List (List Int)) (hD : Groups c.Bits D) (hd1 : (a.getD i dflt_Event).Data = packA c.Msb D) (hd2 : (b.getD i dflt_Event).Data = packA (!c.Msb) D) (hDl : D.length ≤ 4096) : ∀ (n k m : Nat), k + n = D.length → n < m →
    law24_SpiOrder_l16 M q m (i : Int) (k : Int) c a b = q ((i : Int) + 1) c a b
  | n, k, 0, _, hm => by omega
  | 0, k, m + 1, hk, hm => by
    have hs1 := pack_size c.Msb D
    simp only [law24_SpiOrder_l16, b_law24_SpiOrder_l16, Int.toNat_natCast, hd1]
    rw [bif_pos (by omega), bif_pos (by omega), bif_neg (by omega), i64_ok (n := (i : Int) + 1) (by omega)]
  | n + 1, k, m + 1, hk, hm => by
    have hbl := alike_len c a b hab
    have hs1 := pack_size c.Msb D
    have hs2 := pack_size (!c.Msb) D
    have hm1 : D.getD k [] = D[k] := by rw [List.getD_eq_getElem?_getD, List.getElem?_eq_getElem (by omega)]; rfl
    obtain ⟨g1, g2⟩ := hD (D.getD k []) (by rw [hm1]; exact List.getElem_mem _)
    have key := order_l20 M c hc (fun i_8 k_9 c0 a_6 b_7 => law24_SpiOrder_l16 M q m i_8 k_9 c0 a_6 b_7) (i : Int) (k : Int) (by omega) (D.getD k []) g1 g2 a b (D.getD k []).length 0 M (by omega) (by unfold OkC at hc; omega)
    have ih := order_l16 M hM c hc q i a b hab hi hia D hD hd1 hd2 hDl n (k + 1) m (by omega) (by omega)
    simp only [law24_SpiOrder_l16, b_law24_SpiOrder_l16, Int.toNat_natCast, hd1, hd2, pack_at c hc _ D hD k (by omega)]
    simp only [bif_pos (show (0 : Int) ≤ (i : Int) by omega), bif_pos (show (i : Int) < (a.length : Int) by omega), bif_pos (show (i : Int) < (b.length : Int) by omega), bif_pos (show (0 : Int) ≤ (k : Int) by omega), bif_pos (show (k : Int) < ((packA c.Msb D).size : Int) by omega), bif_pos (show (k : Int) < ((packA (!c.Msb) D).size : Int) by omega)]
    refine key.trans ?_
    rw [show (k : Int) + 1 = ((k + 1 : Nat) : Int) by omega]
    exact ih
theorem order_l11 (M : Nat) (hM : 100000 < M) (c : Spi) (hc : OkC c) (a b : List Event) (hab : AlikeL c a b) (hia : a.length ≤ 100000) (hsz : ∀ i, (a.getD i dflt_Event).Data.size ≤ 4096) : ∀ (n i m : Nat), i + n = a.length → n < m → law24_SpiOrder_l11 M m (i : Int) c a b = some true
  | n, i, 0, _, hm => by omega
  | 0, i, m + 1, hi, hm => by
    simp only [law24_SpiOrder_l11, b_law24_SpiOrder_l11]
    rw [bif_neg (by omega)]
  | n + 1, i, m + 1, hi, hm => by
    have hbl := alike_len c a b hab
    obtain ⟨f1, f2, f3, D, d1, d2, d3⟩ := alike_get c a b i hab (by omega)
    have hs := hsz i
    have hs1 := pack_size c.Msb D
    have hs2 := pack_size (!c.Msb) D
    have hDl : D.length ≤ 4096 := by rw [d2] at hs; omega
    have key := order_l16 M hM c hc (fun i_8 c0 a_6 b_7 => law24_SpiOrder_l11 M m i_8 c0 a_6 b_7) i a b hab (by omega) hia D d1 d2 d3 hDl D.length 0 M (by omega) (by omega)
    have ih := order_l11 M hM c hc a b hab hia hsz n (i + 1) m (by omega) (by omega)
    have hsame : (b.getD i dflt_Event).Data.size = (a.getD i dflt_Event).Data.size := by rw [d2, d3]; omega
    simp only [law24_SpiOrder_l11, b_law24_SpiOrder_l11, Int.toNat_natCast, f1, f2, f3, hsame, bne_self_eq_false, Bool.cond_false]
    simp only [bif_pos (show (0 : Int) ≤ (i : Int) by omega), bif_pos (show (i : Int) < (a.length : Int) by omega), bif_pos (show (i : Int) < (b.length : Int) by omega)]
    refine key.trans ?_
    rw [show (i : Int) + 1 = ((i + 1 : Nat) : Int) by omega]
    exact ih
/-- Data that are given out are not long. -/
theorem step_data (c : Spi) (a : A) (e : Event) (hw : WfA c a) : ∀ x, x ∈ (stepA c a e).2 → x.Data.size ≤ 4096 := by
  intro x hx
  unfold stepA stepB at hx
  have := hw.data
  repeat' split at hx
  all_goals first
    | (cases hx; done)
    | (simp only [List.mem_singleton] at hx; subst hx; exact this)
theorem run_data (c : Spi) (hc : OkC c) : ∀ (l : List Event) (a : A), WfA c a → ∀ x, x ∈ (runA c a l).2 → x.Data.size ≤ 4096
  | [], a, hw, x, hx => by cases hx
  | e :: l, a, hw, x, hx => by
    simp only [runA] at hx
    rcases List.mem_append.1 hx with hx | hx
    · exact step_data c a e hw x hx
    · exact run_data c hc l _ (step_wf c a e hw).1 x hx
theorem dec_data (c : Spi) (hc : OkC c) (l : List Event) : ∀ x, x ∈ decA c l → x.Data.size ≤ 4096 := by
  intro x hx
  unfold decA at hx
  rcases List.mem_append.1 hx with hx | hx
  · exact run_data c hc l a0 (wf0 c hc) x hx
  · unfold endA at hx
    split at hx
    · simp only [List.mem_singleton] at hx; subst hx; show (bs []).size ≤ 4096; decide
    · cases hx
theorem getD_all {P : Event → Prop} (l : List Event) (h : ∀ x, x ∈ l → P x) (hd : P dflt_Event) (i : Nat) : P (l.getD i dflt_Event) := by
  rw [List.getD_eq_getElem?_getD]
  cases hg : l[i]? with
  | none => exact hd
  | some x => exact h x (List.mem_of_getElem? hg)
theorem SpiOrder_true (c : Spi) (l : List Event) (hc : wf_Spi c) (hl : (∀ x, x ∈ l → wf_Event x) ∧ l.length * Try.prog.bytesOf 32 ≤ 140737488351232) : ∃ M, law24_SpiOrder M c l = some true := by
  obtain ⟨M, hM⟩ := big
  refine ⟨M, ?_⟩
  simp only [law24_SpiOrder, b_law24_SpiOrder, lives_true M (by omega), Option.bind_some, Bool.not_true, Bool.cond_false, (check_is M c).1, bif_if, bne_if]
  by_cases h : (l.length : Int) > 3000
  · rw [if_pos h]
  rw [if_neg h]
  by_cases hok : OkC c
  · have hok' := hok
    unfold OkC at hok'
    have hab := dec_order c l
    have hlen := alike_len c _ _ hab
    have hdl := dec_len c l
    rw [if_pos hok, if_pos rfl, if_neg (by omega), if_neg (by omega), decode_is M c l (by omega) (by omega), Option.bind_some]
    have ho : spi_Decode M ⟨c.T, c.Mode, c.Bits, !c.Msb⟩ l = some (decA (oth c) l) := decode_is M (oth c) l (by omega) (by omega)
    rw [ho, Option.bind_some, if_pos (by omega)]
    exact order_l11 M (by omega) c hok _ _ hab (by omega) (getD_all _ (dec_data c hok l) (by decide)) (decA c l).length 0 M (by omega) (by omega)
  · rw [if_neg hok, if_neg (by omega)]
end Go.Abs.K
