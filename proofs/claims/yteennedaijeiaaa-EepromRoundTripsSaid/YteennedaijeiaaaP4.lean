/- EEPROM: the laws of round trips and of reads. -/
import Derived.Test.YteennedaijeiaaaP3
set_option linter.unusedVariables false
set_option linter.unusedSimpArgs false
namespace Go.Abs.K
open Go Go.Abs Go.Proofs

def idl : Int → List Item → List Event
  | _, [] => []
  | a, x :: l => Event.mk 5 (a + x.Gap) (a + x.Gap + 1) x.Value x.Aux x.Data 0 :: idl (a + x.Gap + 1) l
theorem idl_len : ∀ (l : List Item) (a : Int), (idl a l).length = l.length
  | [], a => rfl
  | x :: l, a => by simp [idl, idl_len l]
theorem idl_append : ∀ (l k : List Item) (a : Int), ∃ b, idl a (l ++ k) = idl a l ++ idl b k ∧ ((∀ x, x ∈ l → 0 ≤ x.Gap ∧ x.Gap ≤ 1048576) → a ≤ b ∧ b ≤ a + 1048577 * (l.length : Int))
  | [], k, a => ⟨a, rfl, fun _ => by simp⟩
  | x :: l, k, a => by
    obtain ⟨b, h1, h2⟩ := idl_append l k (a + x.Gap + 1)
    refine ⟨b, by simp [idl, h1], fun h => ?_⟩
    have := h2 fun y hy => h y (by simp [hy])
    have := h x (by simp)
    simp only [List.length_cons, Int.natCast_add, Int.natCast_one]
    omega
theorem ideal_l3 (M : Nat) (l : List Item) (hl : l.length ≤ 1000) (hg : ∀ x, x ∈ l → 0 ≤ x.Gap ∧ x.Gap ≤ 1048576) : ∀ (r : List Item) (i m : Nat) (a : Int) (out : List Event), l.drop i = r → r.length < m → 0 ≤ a → a ≤ 1048577 * i → out.length + r.length ≤ 1000 → law31_ideal_l3 M m a (i : Int) l out = some (out ++ idl a r)
  | r, i, 0, a, out, _, hm, _, _, _ => by omega
  | [], i, m + 1, a, out, hr, hm, h0, ha, ho => by
    have := drop_nil hr
    simp only [law31_ideal_l3, b_law31_ideal_l3]
    rw [bif_neg (by omega)]; simp [idl]
  | x :: r, i, m + 1, a, out, hr, hm, h0, ha, ho => by
    obtain ⟨h1, h2, h3, h4, h5⟩ := drop_cons hr dflt_Item
    have hx := hg x h5
    simp only [List.length_cons] at hm ho
    simp only [law31_ideal_l3, b_law31_ideal_l3, h1]
    simp only [bif_pos (show (0 : Int) ≤ (i : Int) by omega), bif_pos (show (i : Int) < (l.length : Int) by omega), next_i i (by omega)]
    rw [bif_pos (by omega), i64_ok (n := a + x.Gap) (by omega), i64_ok (n := a + x.Gap + 1) (by omega)]
    rw [ideal_l3 M l hl hg r (i + 1) m _ _ h3 (by omega) (by omega) (by omega) (by simp; omega)]
    simp [idl]
theorem ideal_is (M : Nat) (l : List Item) (hl : l.length ≤ 1000) (hM : l.length < M) (hg : ∀ x, x ∈ l → 0 ≤ x.Gap ∧ x.Gap ≤ 1048576) : law31_ideal M l = some (idl 0 l) := by
  simp only [law31_ideal, b_law31_ideal]
  exact ideal_l3 M l hl hg l 0 M 0 [] rfl hM (by omega) (by omega) (by simpa using hl)
theorem encE_ok (c : Eeprom) : ∀ (l out : List Item), (encE c out l).2 = 0 → (∀ x, x ∈ l → errI c x = 0) ∧ (encE c out l).1 = out ++ l.flatMap (itemsE c)
  | [], out, h => by simp [encE]
  | x :: l, out, h => by
    unfold encE at h ⊢
    by_cases he : errI c x = 0
    · rw [if_pos he] at h ⊢
      obtain ⟨h1, h2⟩ := encE_ok c l _ h
      refine ⟨fun y hy => ?_, by rw [h2]; simp⟩
      rcases List.mem_cons.1 hy with rfl | hy
      · exact he
      · exact h1 y hy
    · rw [if_neg he] at h; exact absurd h he
theorem encE_bad (c : Eeprom) : ∀ (l out : List Item), (encE c out l).2 ≠ 0 → (encE c out l).1 = []
  | [], out, h => by simp [encE] at h
  | x :: l, out, h => by
    unfold encE at h ⊢
    by_cases he : errI c x = 0
    · rw [if_pos he] at h ⊢
      exact encE_bad c l _ h
    · rw [if_neg he]
theorem encodeE_bad (c : Eeprom) (l : List Item) (h : (encodeE c l).2 ≠ 0) : (encodeE c l).1 = [] := by
  unfold encodeE at h ⊢
  split
  · rename_i h1
    rw [if_pos h1] at h
    split
    · rfl
    · rename_i h2; rw [if_neg h2] at h; exact encE_bad c l [] h
  · rfl
theorem encodeE_ok (c : Eeprom) (l : List Item) (h : (encodeE c l).2 = 0) : OkC c ∧ (∀ x, x ∈ l → errI c x = 0) ∧ (encodeE c l).1 = l.flatMap (itemsE c) := by
  unfold encodeE at h ⊢
  by_cases h1 : OkC c
  · rw [if_pos h1] at h ⊢
    by_cases h2 : (l.length : Int) > 1024
    · rw [if_pos h2] at h; simp at h
    · rw [if_neg h2] at h ⊢
      have := encE_ok c l [] h
      exact ⟨h1, this.1, by simpa using this.2⟩
  · rw [if_neg h1] at h; simp at h
theorem gaps_ok (c : Eeprom) (l : List Item) (h : ∀ x, x ∈ l → errI c x = 0) : ∀ y, y ∈ l.flatMap (itemsE c) → 0 ≤ y.Gap ∧ y.Gap ≤ 1048576 := by
  intro y hy
  obtain ⟨x, hx, hy⟩ := List.mem_flatMap.1 hy
  have := err_ok (h x hx)
  unfold itemsE at hy
  split at hy
  · simp at hy; subst hy; exact ⟨this.1, this.2.1⟩
  · simp at hy
    rcases hy with rfl | rfl
    · exact ⟨this.1, this.2.1⟩
    · exact ⟨Int.le_refl 0, show (0 : Int) ≤ 1048576 by omega⟩
theorem num_ptr (c : Eeprom) (hc : OkC c) (n : Int) (h0 : 0 ≤ n) (h1 : n < md c) (d : ByteArray) : num c (ptr c n ++ d) = n := by
  have hp := ptr_bytes c n h0 h1
  unfold num
  rw [byteAt_eq, byteAt_eq, ofBytes_append, hp]
  split
  · simp
  · simp; omega
theorem num_ptr' (c : Eeprom) (hc : OkC c) (n : Int) (h0 : 0 ≤ n) (h1 : n < md c) : num c (ptr c n) = n := by
  have hp := ptr_bytes c n h0 h1
  unfold num
  rw [byteAt_eq, byteAt_eq, hp]
  split
  · simp
  · simp; omega
theorem cut_ptr (c : Eeprom) (hc : OkC c) (n : Int) (d : ByteArray) : (ptr c n ++ d).extract c.Pointer.toNat (ptr c n ++ d).size = d := by
  apply ofBytes_inj
  have := ptr_size c hc n
  rw [ofBytes_extract, List.take_of_length_le (by rw [ofBytes_length]; exact Nat.le_refl _), ofBytes_append, show c.Pointer.toNat = (ofBytes (ptr c n)).length by rw [ofBytes_length]; omega, List.drop_left]
/-- A write, a command with data. -/
theorem step_write (c : Eeprom) (hc : OkC c) (s : State) (f n : Int) (d : ByteArray) (hs : s.At ≤ f) (hf : 0 ≤ f) (hf2 : f < 1099511627776) (h0 : 0 ≤ n) (h1 : n < md c) (hd : d.size ≠ 0) (hd2 : c.Pointer + (d.size : Int) ≤ 4096) :
    stepE c s (Event.mk 5 f (f + 1) (2 * c.Address) 1 (ptr c n ++ d) 0) = ({ s with At := f, Acc := (n + d.size) % md c }, [Event.mk 7 f (f + 1) n 0 d 0]) := by
  have hz := size_append (ptr c n) d
  have hp := ptr_size c hc n
  have hc' := hc
  unfold OkC at hc'
  unfold stepE
  have hcond : OkC c ∧ (Event.mk 5 f (f + 1) (2 * c.Address) 1 (ptr c n ++ d) 0).Kind = 5 ∧ Vld (Event.mk 5 f (f + 1) (2 * c.Address) 1 (ptr c n ++ d) 0) ∧ s.At ≤ (Event.mk 5 f (f + 1) (2 * c.Address) 1 (ptr c n ++ d) 0).From := by
    refine ⟨hc, rfl, ?_, hs⟩
    unfold Vld
    dsimp only
    omega
  rw [if_pos hcond]
  dsimp only
  rw [if_neg (by simp), if_pos rfl, if_neg (by omega), if_neg (by omega), num_ptr c hc n h0 h1, cut_ptr c hc n d]
  congr 2
  rw [hz, Int.natCast_add, hp]
  congr 1; omega
theorem step_set (c : Eeprom) (hc : OkC c) (s : State) (f n : Int) (hs : s.At ≤ f) (hf : 0 ≤ f) (hf2 : f < 1099511627776) (h0 : 0 ≤ n) (h1 : n < md c) :
    stepE c s (Event.mk 5 f (f + 1) (2 * c.Address) 0 (ptr c n) 0) = ({ s with At := f, Acc := n }, []) := by
  have hp := ptr_size c hc n
  have hc' := hc
  unfold OkC at hc'
  unfold stepE
  have hcond : OkC c ∧ (Event.mk 5 f (f + 1) (2 * c.Address) 0 (ptr c n) 0).Kind = 5 ∧ Vld (Event.mk 5 f (f + 1) (2 * c.Address) 0 (ptr c n) 0) ∧ s.At ≤ (Event.mk 5 f (f + 1) (2 * c.Address) 0 (ptr c n) 0).From := by
    refine ⟨hc, rfl, ?_, hs⟩
    unfold Vld
    dsimp only
    omega
  rw [if_pos hcond]
  dsimp only
  rw [if_neg (by simp), if_pos rfl, if_neg (by omega), if_pos hp, num_ptr' c hc n h0 h1]
theorem step_read (c : Eeprom) (hc : OkC c) (s : State) (f : Int) (d : ByteArray) (hs : s.At ≤ f) (hf : 0 ≤ f) (hf2 : f < 1099511627776) (h0 : 0 ≤ s.Acc) (h1 : s.Acc < md c) (hd : (d.size : Int) ≤ 4096) :
    stepE c s (Event.mk 5 f (f + 1) (2 * c.Address + 1) 1 d 0) = ({ s with At := f, Acc := (s.Acc + d.size) % md c }, [Event.mk 7 f (f + 1) s.Acc 1 d 0]) := by
  have hmd := md_pos c
  have hc' := hc
  unfold OkC at hc'
  unfold stepE
  have hcond : OkC c ∧ (Event.mk 5 f (f + 1) (2 * c.Address + 1) 1 d 0).Kind = 5 ∧ Vld (Event.mk 5 f (f + 1) (2 * c.Address + 1) 1 d 0) ∧ s.At ≤ (Event.mk 5 f (f + 1) (2 * c.Address + 1) 1 d 0).From := by
    refine ⟨hc, rfl, ?_, hs⟩
    unfold Vld
    dsimp only
    omega
  rw [if_pos hcond]
  dsimp only
  rw [if_neg (by simp), if_neg (by omega), if_pos rfl, i64_ok (by omega), IntWalk.rem_in _ _ (by omega)]
def Is (e : Event) (x : Item) : Prop := e.Kind = 7 ∧ e.Value = x.Value ∧ e.Aux = x.Aux ∧ e.Data = x.Data ∧ e.Fault = 0
/-- What follows an item. -/
theorem trip_one (c : Eeprom) (hc : OkC c) (x : Item) (he : errI c x = 0) (s : State) (a : Int) (hs : s.At ≤ a) (ha : 0 ≤ a) (ha2 : a + 4000000 < 1099511627776) :
    ∃ (s' : State) (b : Int) (e : Event), Is e x ∧ s'.At ≤ b ∧ a ≤ b ∧ b ≤ a + 3000000 ∧ s'.Acc = (x.Value + x.Data.size) % md c ∧ ∀ k, decE c s (idl a (itemsE c x ++ k)) = e :: decE c s' (idl b k) := by
  obtain ⟨g1, g2, g3, g4, g5, g6, g7, g8⟩ := err_ok he
  unfold itemsE
  by_cases h : x.Aux = 0
  · rw [if_pos h]
    have st := step_write c hc s (a + x.Gap) x.Value x.Data (by omega) (by omega) (by omega) g4 g5 (g8 h).1 (g8 h).2
    refine ⟨_, a + x.Gap + 1, _, ⟨rfl, rfl, h.symm, rfl, rfl⟩, ?_, by omega, by omega, ?_, fun k => by
      simp only [List.cons_append, List.nil_append, idl, decE, st]
      rfl⟩
    · dsimp only; omega
    · rfl
  · rw [if_neg h]
    have st1 := step_set c hc s (a + x.Gap) x.Value (by omega) (by omega) (by omega) g4 g5
    have st2 := step_read c hc { s with At := a + x.Gap, Acc := x.Value } (a + x.Gap + 1 + 0) x.Data (by dsimp only; omega) (by omega) (by omega) g4 g5 g3
    refine ⟨_, a + x.Gap + 1 + 0 + 1, _, ⟨rfl, rfl, (show (1 : Int) = x.Aux by omega), rfl, rfl⟩, ?_, by omega, by omega, ?_, fun k => by
      simp only [List.cons_append, List.nil_append, idl, decE, st1, st2]
      rfl⟩
    · dsimp only; omega
    · rfl
/-- Lists that fit, one to one. -/
inductive All2 {α β : Type} (P : α → β → Prop) : List α → List β → Prop
  | nil : All2 P [] []
  | cons {a b l k} : P a b → All2 P l k → All2 P (a :: l) (b :: k)
theorem All2.len {α β : Type} {P : α → β → Prop} {l : List α} {k : List β} (h : All2 P l k) : l.length = k.length := by
  induction h with
  | nil => rfl
  | cons _ _ ih => simp [ih]
theorem trip (c : Eeprom) (hc : OkC c) : ∀ (l : List Item) (s : State) (a : Int), (∀ x, x ∈ l → errI c x = 0) → s.At ≤ a → 0 ≤ a → a + 4000000 * (l.length + 1) < 1099511627776 → All2 Is (decE c s (idl a (l.flatMap (itemsE c)))) l
  | [], s, a, _, _, _, _ => All2.nil
  | x :: l, s, a, he, hs, ha, ha2 => by
    simp only [List.length_cons, Int.natCast_add, Int.natCast_one] at ha2
    obtain ⟨s', b, e, h1, h2, h3, h4, _, h5⟩ := trip_one c hc x (he x (by simp)) s a hs ha (by omega)
    rw [List.flatMap_cons, h5]
    exact All2.cons h1 (trip c hc l s' b (fun y hy => he y (by simp [hy])) h2 (by omega) (by omega))
theorem trips_l10 (l : List Item) (m : List Event) (hl : l.length ≤ 1000) (hlm : m.length = l.length) : ∀ (r : List Item) (q : List Event) (i k : Nat), l.drop i = r → m.drop i = q → All2 Is q r → r.length < k → law31_EepromRoundTrips_l10 100 k (i : Int) l m = some true
  | r, q, i, 0, _, _, _, hk => by omega
  | [], q, i, k + 1, hr, hq, _, hk => by
    have := drop_nil hr
    simp only [law31_EepromRoundTrips_l10, b_law31_EepromRoundTrips_l10, awake_true 100 (by omega), Option.bind_some]
    rw [bif_neg (by omega)]
  | x :: r, q, i, k + 1, hr, hq, ha, hk => by
    cases ha with
    | cons he hrest =>
      rename_i e q
      obtain ⟨h1, h2, h3, h4, h5⟩ := drop_cons hr dflt_Item
      obtain ⟨g1, g2, g3, g4, g5⟩ := drop_cons hq dflt_Event
      obtain ⟨e1, e2, e3, e4, e5⟩ := he
      simp only [List.length_cons] at hk
      simp only [law31_EepromRoundTrips_l10, b_law31_EepromRoundTrips_l10, h1, g1, e1, e2, e3, e4, e5, beq_self_eq_true, bytes_beq_self, Bool.and_self, Bool.not_true, Bool.cond_false]
      simp only [bif_pos (show (0 : Int) ≤ (i : Int) by omega), bif_pos (show (i : Int) < (l.length : Int) by omega), bif_pos (show (i : Int) < (m.length : Int) by omega), next_i i (by omega)]
      exact trips_l10 l m hl hlm r q (i + 1) k h3 g3 hrest (by omega)
theorem EepromRoundTrips_true (c : Eeprom) (l : List Item) (hc : wf_Eeprom c) (hl : (∀ x, x ∈ l → wf_Item x) ∧ l.length * Try.prog.bytesOf 45 ≤ 140737488351232) : ∃ M, law31_EepromRoundTrips M c l = some true := by
  refine ⟨100, ?_⟩
  obtain ⟨b, hb, hb2⟩ := tiny_is 100 l (by omega)
  simp only [law31_EepromRoundTrips, b_law31_EepromRoundTrips, hb, Option.bind_some, awake_true 100 (by omega)]
  cases b with
  | false => rfl
  | true =>
    have hl20 := hb2 rfl
    simp only [encode_is 100 c l (by omega), Option.bind_some, Bool.not_true, Bool.cond_false, bne_if]
    by_cases he : (encodeE c l).2 = 0
    · rw [if_pos he]
      obtain ⟨k1, k2, k3⟩ := encodeE_ok c l he
      have hlen : (encodeE c l).1.length ≤ 40 := by
        have := encE_len c l []
        unfold encodeE
        rw [if_pos k1, if_neg (by omega)]
        simp at this; omega
      rw [k3] at hlen ⊢
      have ht := trip c k1 l s0 0 k2 (by decide) (by omega) (by omega)
      have hlt := ht.len
      rw [ideal_is 100 _ (by omega) (by omega) (gaps_ok c l k2), Option.bind_some, decode_is 100 (by omega) c _ (by rw [idl_len]; omega) (by rw [idl_len]; omega), Option.bind_some, if_pos (by omega)]
      exact trips_l10 l _ (by omega) hlt l _ 0 100 rfl rfl ht (by omega)
    · rw [if_neg he, encodeE_bad c l he]
      rfl

/-! ### Reads -/
def rd (c : Eeprom) (d : ByteArray) : Item := Item.mk 0 (2 * c.Address + 1) 1 d 0
def IsRd (n : Int) (a : Int) : List Event → List ByteArray → Prop
  | [], [] => True
  | e :: l, d :: k => e.Value = a % n ∧ e.Aux = 1 ∧ e.Data = d ∧ IsRd n (a + d.size) l k
  | _, _ => False
theorem IsRd_len (n : Int) : ∀ (l : List Event) (k : List ByteArray) (a : Int), IsRd n a l k → l.length = k.length
  | [], [], _, _ => rfl
  | e :: l, d :: k, a, h => by simp [IsRd_len n l k _ h.2.2.2]
  | [], d :: k, _, h => h.elim
  | e :: l, [], _, h => h.elim
theorem reads_dec (c : Eeprom) (hc : OkC c) : ∀ (k : List ByteArray) (s : State) (t a : Int), (∀ d, d ∈ k → (d.size : Int) ≤ 40) → s.At ≤ t → 0 ≤ t → t + (k.length : Int) < 1000000000 → s.Acc = a % md c → IsRd (md c) a (decE c s (idl t (k.map (rd c)))) k
  | [], s, t, a, _, _, _, _, _ => trivial
  | d :: k, s, t, a, hk, hs, ht, ht2, hA => by
    have hmd := md_pos c
    simp only [List.length_cons, Int.natCast_add, Int.natCast_one] at ht2
    have r0 := Int.emod_nonneg a (show md c ≠ 0 by omega)
    have r1 := Int.emod_lt_of_pos a hmd.1
    have st := step_read c hc s (t + 0) d (by omega) (by omega) (by omega) (by omega) (by omega) (by have := hk d (by simp); omega)
    simp only [List.map_cons, rd, idl, decE, st]
    refine ⟨by simpa using hA, rfl, rfl, ?_⟩
    refine reads_dec c hc k _ _ _ (fun y hy => hk y (by simp [hy])) (by dsimp only; omega) (by omega) (by omega) ?_
    dsimp only
    rw [hA, Int.emod_add_emod]
theorem reads_l20 (c : Eeprom) (n : Int) (hn : 0 < n ∧ n ≤ 65536) (k : List ByteArray) (m : List Event) (hk : k.length ≤ 20) (hm : m.length = 1 + k.length) (hsz : ∀ d, d ∈ k → (d.size : Int) ≤ 40) : ∀ (r : List ByteArray) (q : List Event) (i f : Nat) (a : Int), k.drop i = r → m.drop (i + 1) = q → IsRd n a q r → r.length < f → 0 ≤ a → a ≤ 100000 + 40 * i → law31_EepromReads_l20 100 f n a (i : Int) k m = some true
  | r, q, i, 0, a, _, _, _, hf, _, _ => by omega
  | [], q, i, f + 1, a, hr, hq, _, hf, h0, ha => by
    have := drop_nil hr
    simp only [law31_EepromReads_l20, b_law31_EepromReads_l20, awake_true 100 (by omega), Option.bind_some]
    rw [bif_neg (by omega)]
  | d :: r, [], i, f + 1, a, hr, hq, h, hf, h0, ha => h.elim
  | d :: r, e :: q, i, f + 1, a, hr, hq, h, hf, h0, ha => by
    obtain ⟨h1, h2, h3, h4, h5⟩ := drop_cons hr (bs [])
    obtain ⟨g1, g2, g3, g4, g5⟩ := drop_cons hq dflt_Event
    obtain ⟨e1, e2, e3, e4⟩ := h
    have hd := hsz d h5
    simp only [List.length_cons] at hf
    simp only [law31_EepromReads_l20, b_law31_EepromReads_l20, h1, next_i i (by omega), g1, e1, e2, e3, IntWalk.rem_in _ _ h0, bne_self_eq_false, beq_self_eq_true, Bool.not_true, Bool.cond_false]
    simp only [bif_pos (show (0 : Int) ≤ (i : Int) by omega), bif_pos (show (0 : Int) ≤ ((i + 1 : Nat) : Int) by omega), bif_pos (show (i : Int) < (k.length : Int) by omega), bif_pos (show ((i + 1 : Nat) : Int) < (m.length : Int) by omega)]
    rw [bif_neg (by omega), i64_ok (by omega)]
    exact reads_l20 c n hn k m hk hm hsz r q (i + 1) f _ h3 g3 e4 (by omega) (by omega) (by omega)
theorem reads_l10 (c : Eeprom) (hc : OkC c) (x : Item) (he : errI c x = 0) (hx : (x.Data.size : Int) ≤ 200) (n : Int) (hn : n = md c) (k : List ByteArray) (hk : k.length ≤ 20) : ∀ (r : List ByteArray) (i f : Nat) (out : List Item), k.drop i = r → r.length < f → out.length + r.length ≤ 30 → (∀ d, d ∈ k.take i → (d.size : Int) ≤ 40) → out = itemsE c x ++ (k.take i).map (rd c) → law31_EepromReads_l10 100 f n (i : Int) k c x out = some true
  | r, i, 0, out, _, hf, _, _, _ => by omega
  | [], i, f + 1, out, hr, hf, ho, hd, hout => by
    have hi := drop_nil hr
    have htake : k.take i = k := List.take_of_length_le hi
    rw [htake] at hd hout
    have hg : ∀ y, y ∈ out → 0 ≤ y.Gap ∧ y.Gap ≤ 1048576 := by
      intro y hy
      rw [hout] at hy
      rcases List.mem_append.1 hy with hy | hy
      · exact gaps_ok c [x] (by simpa using he) y (by simpa using hy)
      · obtain ⟨d, _, rfl⟩ := List.mem_map.1 hy
        exact ⟨Int.le_refl 0, show (0 : Int) ≤ 1048576 by omega⟩
    have hmd := md_pos c
    obtain ⟨s', b, e, h1, h2, h3, h4, h5, h6⟩ := trip_one c hc x he s0 0 (by decide) (by omega) (by omega)
    have hr' := reads_dec c hc k s' b (x.Value + x.Data.size) hd h2 (by omega) (by omega) h5
    have hdec : decE c s0 (idl 0 out) = e :: decE c s' (idl b (k.map (rd c))) := by rw [hout, h6]
    have hlen := IsRd_len _ _ _ _ hr'
    obtain ⟨g1, g2, g3, g4, g5, g6, g7, g8⟩ := err_ok he
    simp only [law31_EepromReads_l10, b_law31_EepromReads_l10]
    simp only [List.length_nil] at ho
    rw [bif_neg (by omega), ideal_is 100 out (by omega) (by omega) hg, Option.bind_some, decode_is 100 (by omega) c _ (by rw [idl_len]; omega) (by rw [idl_len]; omega), Option.bind_some, hdec, bne_if, if_pos (by rw [i64_ok (by omega), List.length_cons]; omega), i64_ok (by omega)]
    rw [hn]
    exact reads_l20 c (md c) hmd k _ hk (by rw [List.length_cons]; omega) hd k _ 0 100 _ rfl rfl hr' (by omega) (by omega) (by omega)
  | d :: r, i, f + 1, out, hr, hf, ho, hd, hout => by
    obtain ⟨h1, h2, h3, h4, h5⟩ := drop_cons hr (bs [])
    have hc' := hc
    unfold OkC at hc'
    simp only [List.length_cons] at hf ho
    simp only [law31_EepromReads_l10, b_law31_EepromReads_l10, h1, awake_true 100 (by omega), Option.bind_some]
    simp only [bif_pos (show (0 : Int) ≤ (i : Int) by omega), bif_pos (show (i : Int) < (k.length : Int) by omega)]
    by_cases hdd : (d.size : Int) > 40
    · rw [bif_pos hdd]
    · rw [bif_neg hdd, bif_pos (by omega), next_i i (by omega), i64_ok (n := 2 * c.Address) (by omega), i64_ok (by omega)]
      have htk : k.take (i + 1) = k.take i ++ [d] := by
        rw [List.take_add_one]
        congr 1
        have : (k.drop i)[0]? = some d := by rw [hr]; rfl
        rw [List.getElem?_drop, Nat.add_zero] at this
        rw [this]; rfl
      refine reads_l10 c hc x he hx n hn k hk r (i + 1) f _ h3 (by omega) (by simp; omega) ?_ ?_
      · intro y hy
        rw [htk] at hy
        rcases List.mem_append.1 hy with hy | hy
        · exact hd y hy
        · simp at hy; subst hy; omega
      · rw [htk, hout, List.map_append, List.append_assoc]; rfl
theorem EepromReads_true (c : Eeprom) (x : Item) (k : List ByteArray) (hc : wf_Eeprom c) (hx : wf_Item x) (hk : (∀ x, x ∈ k → x.size ≤ 140737488351232) ∧ k.length * Try.prog.bytesOf 9 ≤ 140737488351232) : ∃ M, law31_EepromReads M c x k = some true := by
  refine ⟨100, ?_⟩
  simp only [law31_EepromReads, b_law31_EepromReads, awake_true 100 (by omega), Option.bind_some]
  by_cases h1 : (k.length : Int) > 20
  · rw [bif_pos h1]
  rw [bif_neg h1]
  by_cases h2 : (x.Data.size : Int) > 200
  · rw [bif_pos h2]
  rw [bif_neg h2, bne_if]
  by_cases h3 : x.Gap = 0
  · rw [if_pos h3, encode_is 100 c [x] (by simp), Option.bind_some, bne_if, beq_if, beq_if]
    by_cases he : (encodeE c [x]).2 = 0
    · rw [if_pos he]
      obtain ⟨k1, k2, k3⟩ := encodeE_ok c [x] he
      have hi := itemsE_len c x
      have e : [x].flatMap (itemsE c) = itemsE c x := by simp
      rw [e] at k3
      rw [k3]
      have go := fun n hn => reads_l10 c k1 x (k2 x (by simp)) (by omega) n hn k (by omega) k 0 100 (itemsE c x) rfl (by omega) (by omega) (by simp) (by simp)
      unfold OkC at k1
      by_cases hp : c.Pointer = 2
      · rw [if_pos hp]
        exact go 65536 (by unfold md; rw [if_neg (by omega)])
      · rw [if_neg hp]
        exact go 256 (by unfold md; rw [if_pos (by omega)])
    · rw [if_neg he, encodeE_bad c [x] he]
      rfl
  · rw [if_neg h3]
end Go.Abs.K
