/- SLIP: what is sent; that it is read back. -/
import Derived.Test.YtafkldlnijbchaaP3
set_option linter.unusedVariables false
set_option linter.unusedSimpArgs false
namespace Go.Abs.K
open Go Go.Abs Go.Proofs

def errI (c : Slip) (x : Item) : Int :=
  if x.Gap < 0 ∨ x.Gap > 1048576 then 1
  else if (x.Data.size : Int) > 4096 then 6
  else if (x.Data.size : Int) < 1 ∨ (x.Data.size : Int) > c.Most then 2
  else if (x.Fault ≠ 0 ∧ x.Fault ≠ 5) ∨ x.Value ≠ 0 ∨ x.Aux ≠ 0 then 1
  else 0
theorem empty_if (d : ByteArray) {α : Type} (x y : α) : (bif d.toList == (bs []).toList then x else y) = if (d.size : Int) < 1 then x else y := by
  have : (d.toList == (bs []).toList) = decide ((d.size : Int) < 1) := by
    rw [str_beq, decide_eq_decide, ofBytes_bs, ← ofBytes_length]
    constructor
    · intro h; rw [h]; simp
    · intro h; exact List.length_eq_zero_iff.1 (by omega)
  rw [this, bif_if]
theorem errs {a1 a2 a3 a4 a5 a6 a7 a8 a9 : Prop} [Decidable a1] [Decidable a2] [Decidable a3] [Decidable a4] [Decidable a5] [Decidable a6] [Decidable a7] [Decidable a8] [Decidable a9] :
    (if a1 then some (1 : Int) else if a2 then some 1 else if a3 then some 6 else if a4 then some 2 else if a5 then some 2 else if a6 then (if a8 then (if a9 then some 0 else some 1) else some 1) else (if a7 then (if a8 then (if a9 then some 0 else some 1) else some 1) else some 1)) =
    some (if a1 ∨ a2 then 1 else if a3 then 6 else if a4 ∨ a5 then 2 else if (¬ a6 ∧ ¬ a7) ∨ ¬ a8 ∨ ¬ a9 then 1 else 0) := by
  by_cases h1 : a1 <;> by_cases h2 : a2 <;> by_cases h3 : a3 <;> by_cases h4 : a4 <;> by_cases h5 : a5 <;> by_cases h6 : a6 <;> by_cases h7 : a7 <;> by_cases h8 : a8 <;> by_cases h9 : a9 <;> simp [h1, h2, h3, h4, h5, h6, h7, h8, h9]
theorem item_is (M : Nat) (c : Slip) (x : Item) : slip_check M c x = some (errI c x) := by
  simp only [slip_check, b_slip_check, empty_if, bif_if, bne_if]
  exact errs
theorem ref_item_is (M : Nat) (c : Slip) (x : Item) : ref29_right M c x = some (errI c x) := by
  simp only [ref29_right, b_ref29_right, bif_if, bne_if]
  exact errs
theorem err_ok {c : Slip} {x : Item} (h : errI c x = 0) : 0 ≤ x.Gap ∧ x.Gap ≤ 1048576 ∧ (x.Data.size : Int) ≤ 4096 ∧ 1 ≤ (x.Data.size : Int) ∧ (x.Data.size : Int) ≤ c.Most ∧ (x.Fault = 0 ∨ x.Fault = 5) ∧ x.Value = 0 ∧ x.Aux = 0 := by
  unfold errI at h
  split at h
  · omega
  split at h
  · omega
  split at h
  · omega
  split at h
  · omega
  omega
def esc1 (b : Int) : List Int := if b = 192 then [219, 220] else if b = 219 then [219, 221] else [b]
def tl (x : Item) : List Int := (if x.Fault = 5 then [219, 0] else []) ++ ((ofBytes x.Data).flatMap esc1 ++ [192])
def wr (x : Item) : List Int := 192 :: tl x
theorem esc_a {b : Int} (h : b = 192) : esc1 b = [219, 220] := by unfold esc1; rw [if_pos h]
theorem esc_b {b : Int} (h : ¬ b = 192) (h2 : b = 219) : esc1 b = [219, 221] := by unfold esc1; rw [if_neg h, if_pos h2]
theorem esc_c {b : Int} (h : ¬ b = 192) (h2 : ¬ b = 219) : esc1 b = [b] := by unfold esc1; rw [if_neg h, if_neg h2]
theorem esc1_len (b : Int) : 1 ≤ (esc1 b).length ∧ (esc1 b).length ≤ 2 := by
  by_cases h : b = 192
  · rw [esc_a h]; simp
  · by_cases h2 : b = 219
    · rw [esc_b h h2]; simp
    · rw [esc_c h h2]; simp
theorem body_len : ∀ (l : List Int), (l.flatMap esc1).length ≤ 2 * l.length
  | [] => by simp
  | b :: l => by
    have := body_len l
    have := esc1_len b
    simp only [List.flatMap_cons, List.length_append, List.length_cons]; omega
theorem wr_len (x : Item) : 2 ≤ (wr x).length ∧ (wr x).length ≤ 2 * x.Data.size + 4 := by
  have := body_len (ofBytes x.Data)
  rw [ofBytes_length] at this
  unfold wr tl
  split <;> simp only [List.length_append, List.length_cons, List.length_nil] <;> omega
theorem written_l5 (M : Nat) (L : List Int) (hL : L.length ≤ 4096) : ∀ (r : List Int) (i m : Nat) (out : List Int), L.drop i = r → r.length < m → out.length + 2 * r.length ≤ 100000 → slip_written_l5 M m (L.length : Int) (i : Int) out L = some (out ++ (r.flatMap esc1 ++ [192]))
  | r, i, 0, out, _, hm, _ => by omega
  | [], i, m + 1, out, hr, hm, ho => by
    have := drop_nil hr
    simp only [List.length_nil] at ho
    simp only [slip_written_l5, b_slip_written_l5]
    rw [bif_neg (by omega), bif_pos (by omega)]; simp
  | b :: r, i, m + 1, out, hr, hm, ho => by
    obtain ⟨h1, h2, h3, h4, h5⟩ := drop_cons hr 0
    simp only [List.length_cons] at hm ho
    simp only [slip_written_l5, b_slip_written_l5, h1, beq_if]
    rw [bif_pos (by omega), bif_pos (by omega), bif_pos (by omega), next_i i (by omega), List.flatMap_cons]
    by_cases c1 : b = 192
    · rw [if_pos c1, esc_a c1, bif_pos (by omega), written_l5 M L hL r (i + 1) m _ h3 (by omega) (by simp; omega)]; simp
    · rw [if_neg c1]
      by_cases c2 : b = 219
      · rw [if_pos c2, esc_b c1 c2, bif_pos (by omega), written_l5 M L hL r (i + 1) m _ h3 (by omega) (by simp; omega)]; simp
      · rw [if_neg c2, esc_c c1 c2, bif_pos (by omega), written_l5 M L hL r (i + 1) m _ h3 (by omega) (by simp; omega)]; simp
theorem written_is (M : Nat) (hM : 5000 ≤ M) (x : Item) (hx : x.Data.size ≤ 4096) : slip_written M x = some (wr x) := by
  have hlen := ofBytes_length x.Data
  simp only [slip_written, b_slip_written, beq_if, wr, tl]
  have e : ((0 : Nat) : Int) = 0 := rfl
  by_cases h : x.Fault = 5
  · rw [if_pos h, if_pos h, bif_pos (by omega), ← e, written_l5 M (ofBytes x.Data) (by omega) (ofBytes x.Data) 0 M _ rfl (by omega) (by simp; omega)]; simp
  · rw [if_neg h, if_neg h, bif_pos (by omega), ← e, written_l5 M (ofBytes x.Data) (by omega) (ofBytes x.Data) 0 M _ rfl (by omega) (by simp; omega)]; simp
theorem send_l5 (M : Nat) (x : Item) (hL : x.Data.size ≤ 4096) : ∀ (r : List Int) (i m : Nat) (out : List Int), (ofBytes x.Data).drop i = r → r.length < m → out.length + 2 * r.length ≤ 100000 → ref29_send_l5 M m (i : Int) x out = some (out ++ (r.flatMap esc1 ++ [192]))
  | r, i, 0, out, _, hm, _ => by omega
  | [], i, m + 1, out, hr, hm, ho => by
    have := drop_nil hr
    rw [ofBytes_length] at this
    simp only [List.length_nil] at ho
    simp only [ref29_send_l5, b_ref29_send_l5]
    rw [bif_neg (by omega), bif_pos (by omega)]; simp
  | b :: r, i, m + 1, out, hr, hm, ho => by
    obtain ⟨h1, h2, h3, h4, h5⟩ := drop_cons hr 0
    have hb : byteAt x.Data (i : Int) = b := by rw [byteAt_eq]; exact h1
    rw [ofBytes_length] at h2 h4
    simp only [List.length_cons] at hm ho
    simp only [ref29_send_l5, b_ref29_send_l5, hb, beq_if]
    rw [bif_pos (by omega), bif_pos (by omega), bif_pos (by omega), next_i i (by omega), List.flatMap_cons]
    by_cases c1 : b = 192
    · rw [if_pos c1, esc_a c1, bif_pos (by omega), send_l5 M x hL r (i + 1) m _ h3 (by omega) (by simp; omega)]; simp
    · rw [if_neg c1]
      by_cases c2 : b = 219
      · rw [if_pos c2, esc_b c1 c2, bif_pos (by omega), send_l5 M x hL r (i + 1) m _ h3 (by omega) (by simp; omega)]; simp
      · rw [if_neg c2, esc_c c1 c2, bif_pos (by omega), send_l5 M x hL r (i + 1) m _ h3 (by omega) (by simp; omega)]; simp
theorem send_is (M : Nat) (hM : 5000 ≤ M) (x : Item) (hx : x.Data.size ≤ 4096) : ref29_send M x = some (wr x) := by
  have hlen := ofBytes_length x.Data
  simp only [ref29_send, b_ref29_send, beq_if, wr, tl]
  have e : ((0 : Nat) : Int) = 0 := rfl
  by_cases h : x.Fault = 5
  · rw [if_pos h, if_pos h, ← e, send_l5 M x hx (ofBytes x.Data) 0 M _ rfl (by omega) (by simp; omega)]; simp
  · rw [if_neg h, if_neg h, ← e, send_l5 M x hx (ofBytes x.Data) 0 M _ rfl (by omega) (by simp; omega)]; simp
/-- The items of bytes: the first one bears the gap. -/
abbrev it (g v : Int) : Item := Item.mk g v 0 (bs []) 0
def itsAt (k : Nat) (g : Int) : List Int → List Item
  | [] => []
  | v :: l => it (if k = 0 then g else 0) v :: itsAt (k + 1) g l
theorem itsAt_len : ∀ (l : List Int) (k : Nat) (g : Int), (itsAt k g l).length = l.length
  | [], k, g => rfl
  | v :: l, k, g => by simp [itsAt, itsAt_len l]
theorem itsAt_vals : ∀ (l : List Int) (k : Nat) (g : Int), (itsAt k g l).map (·.Value) = l
  | [], k, g => rfl
  | v :: l, k, g => by simp [itsAt, itsAt_vals l]
def its (x : Item) : List Item := itsAt 0 x.Gap (wr x)
def firstE (c : Slip) : List Item → Int
  | [] => 0
  | x :: l => if errI c x = 0 then firstE c l else errI c x
def sendAll (l : List Item) : List Item := l.flatMap its
def encS (c : Slip) (l : List Item) : List Item × Int :=
  if OkC c then (if (l.length : Int) > 1024 then ([], 6) else if firstE c l = 0 then (if ((sendAll l).length : Int) > 262144 then ([], 6) else (sendAll l, 0)) else ([], firstE c l)) else ([], 2)
theorem firstE_ok (c : Slip) : ∀ (l : List Item), firstE c l = 0 → ∀ x, x ∈ l → errI c x = 0
  | [], _, x, hx => by cases hx
  | y :: l, h, x, hx => by
    unfold firstE at h
    by_cases he : errI c y = 0
    · rw [if_pos he] at h
      rcases List.mem_cons.1 hx with rfl | hx
      · exact he
      · exact firstE_ok c l h x hx
    · rw [if_neg he] at h; exact absurd h he
theorem wr_bytes (x : Item) : Bytes (wr x) := by
  intro b hb
  have hB := bytes_ofBytes x.Data
  unfold wr tl at hb
  simp only [List.mem_cons, List.mem_append, List.mem_flatMap] at hb
  rcases hb with rfl | hb | ⟨y, hy, hb⟩ | hb
  · omega
  · split at hb
    · simp at hb; omega
    · simp at hb
  · have := hB y hy
    unfold esc1 at hb
    split at hb
    · simp at hb; omega
    · split at hb
      · simp at hb; omega
      · simp at hb; omega
  · simp at hb; omega
theorem enc_l21 (M : Nat) (q : Int → Int → List Item → List Item → Option (List Item × Int)) (a : Int) (j : Nat) (hj : j < 100000) (x : Item) (t38 : List Item) (B : List Int) (hB : Bytes B) (hl : B.length ≤ 10000) : ∀ (r : List Int) (k m : Nat) (out : List Item), B.drop k = r → r.length < m → out.length + r.length ≤ 1000000 → slip_Encode_l21 M q m a (j : Int) (B.length : Int) (k : Int) out x t38 B = q a ((j + 1 : Nat) : Int) (out ++ itsAt k x.Gap r) t38
  | r, k, 0, out, _, hm, _ => by omega
  | [], k, m + 1, out, hr, hm, ho => by
    have := drop_nil hr
    simp only [slip_Encode_l21, b_slip_Encode_l21]
    rw [bif_neg (by omega), next_i j (by omega)]; simp [itsAt]
  | v :: r, k, m + 1, out, hr, hm, ho => by
    obtain ⟨h1, h2, h3, h4, h5⟩ := drop_cons hr 0
    have hv := hB v h5
    simp only [List.length_cons] at hm ho
    simp only [slip_Encode_l21, b_slip_Encode_l21, h1, beq_if]
    rw [bif_pos (by omega), bif_pos (by omega), bif_pos (by omega), next_i k (by omega), i64_ok (n := v) (by omega)]
    unfold itsAt
    by_cases hk : k = 0
    · rw [if_pos (by omega), bif_pos (by omega), if_pos hk, enc_l21 M q a j hj x t38 B hB hl r (k + 1) m _ h3 (by omega) (by simp; omega)]; simp
    · rw [if_neg (by omega), bif_pos (by omega), if_neg hk, enc_l21 M q a j hj x t38 B hB hl r (k + 1) m _ h3 (by omega) (by simp; omega)]; simp
theorem sendAll_cons (x : Item) (l : List Item) : sendAll (x :: l) = its x ++ sendAll l := by simp [sendAll]
theorem its_len (x : Item) : (its x).length = (wr x).length := itsAt_len _ _ _
theorem enc_l15 (M : Nat) (hM : 20000 ≤ M) (c : Slip) (l : List Item) (hl : l.length ≤ 1024) (he : ∀ x, x ∈ l → errI c x = 0) : ∀ (r : List Item) (i m : Nat) (out : List Item), l.drop i = r → r.length < m → out.length ≤ 262144 → slip_Encode_l15 M m (l.length : Int) (i : Int) out l = some (if ((out ++ sendAll r).length : Int) > 262144 then ([], 6) else (out ++ sendAll r, 0))
  | r, i, 0, out, _, hm, _ => by omega
  | [], i, m + 1, out, hr, hm, ho => by
    have := drop_nil hr
    simp only [slip_Encode_l15, b_slip_Encode_l15]
    rw [bif_neg (by omega), if_neg (by simp [sendAll]; omega)]; simp [sendAll]
  | x :: r, i, m + 1, out, hr, hm, ho => by
    obtain ⟨h1, h2, h3, h4, h5⟩ := drop_cons hr dflt_Item
    obtain ⟨g1, g2, g3, g4, g5, g6, g7, g8⟩ := err_ok (he x h5)
    have hw := wr_len x
    have hil := its_len x
    simp only [List.length_cons] at hm
    simp only [slip_Encode_l15, b_slip_Encode_l15, h1, written_is M (by omega) x (by omega), Option.bind_some]
    rw [bif_pos (by omega), bif_pos (by omega), bif_pos (by omega), i64_ok (by omega), sendAll_cons]
    by_cases hb : (out.length : Int) + (wr x).length > 262144
    · rw [bif_pos hb, if_pos (by simp only [List.length_append]; omega)]
    · rw [bif_neg hb, show (0 : Int) = ((0 : Nat) : Int) from rfl, enc_l21 M _ _ i (by omega) x l (wr x) (wr_bytes x) (by omega) (wr x) 0 M out rfl (by omega) (by omega)]
      rw [enc_l15 M hM c l hl he r (i + 1) m _ h3 (by omega) (by rw [List.length_append, itsAt_len]; omega)]
      rw [List.append_assoc]
      rfl
theorem enc_l7 (M : Nat) (hM : 20000 ≤ M) (c : Slip) (l : List Item) (hl : l.length ≤ 1024) : ∀ (r : List Item) (i m : Nat), l.drop i = r → r.length < m → (∀ x, x ∈ l.take i → errI c x = 0) → slip_Encode_l7 M m (l.length : Int) (i : Int) l c = some (if firstE c r = 0 then (if ((sendAll l).length : Int) > 262144 then ([], 6) else (sendAll l, 0)) else ([], firstE c r))
  | r, i, 0, _, hm, _ => by omega
  | [], i, m + 1, hr, hm, hno => by
    have h := drop_nil hr
    have htk : l.take i = l := List.take_of_length_le h
    rw [htk] at hno
    simp only [slip_Encode_l7, b_slip_Encode_l7, firstE]
    rw [bif_neg (by omega), if_pos trivial, show (0 : Int) = ((0 : Nat) : Int) from rfl, enc_l15 M hM c l hl hno l 0 M [] rfl (by omega) (by simp)]
    simp
  | x :: r, i, m + 1, hr, hm, hno => by
    obtain ⟨h1, h2, h3, h4, h5⟩ := drop_cons hr dflt_Item
    simp only [List.length_cons] at hm
    simp only [slip_Encode_l7, b_slip_Encode_l7, h1, item_is, Option.bind_some, bne_if]
    rw [bif_pos (by omega), bif_pos (by omega), bif_pos (by omega), next_i i (by omega)]
    by_cases he : errI c x = 0
    · have hf : firstE c (x :: r) = firstE c r := by simp [firstE, he]
      rw [if_pos he]
      simp only [hf]
      refine enc_l7 M hM c l hl r (i + 1) m h3 (by omega) ?_
      intro y hy
      rw [List.take_add_one, show l[i]? = some x by
        have : (l.drop i)[0]? = some x := by rw [hr]; rfl
        rwa [List.getElem?_drop, Nat.add_zero] at this] at hy
      rcases List.mem_append.1 hy with hy | hy
      · exact hno y hy
      · simp at hy; subst hy; exact he
    · have hf : firstE c (x :: r) = errI c x := by simp [firstE, he]
      rw [if_neg he]
      simp only [hf, if_neg he]
theorem encode_is (M : Nat) (hM : 20000 ≤ M) (c : Slip) (l : List Item) : slip_Encode M c l = some (encS c l) := by
  simp only [slip_Encode, b_slip_Encode, check_is, Option.bind_some, bne_if, encS]
  by_cases hc : OkC c
  · simp only [if_pos hc, if_true]
    by_cases h : (l.length : Int) > 1024
    · rw [bif_pos h, if_pos h]
    · rw [bif_neg h, if_neg h, show (0 : Int) = ((0 : Nat) : Int) from rfl, enc_l7 M hM c l (by omega) l 0 M rfl (by omega) (by simp)]
      rfl
  · simp only [if_neg hc]; rfl
/-! ### The document's sender -/
theorem renc_l18 (M : Nat) (q : Int → List Item → List Item → Option (List Item × Int)) (l : List Item) (j : Nat) (hj : j < l.length) (hl : l.length ≤ 1024) (x : Item) (hx : l.getD ((j : Nat) : Int).toNat dflt_Item = x) (B : List Int) (hB : Bytes B) (hlB : B.length ≤ 10000) : ∀ (r : List Int) (k m : Nat) (out : List Item), B.drop k = r → r.length < m → out.length + r.length ≤ 100000000 → ref29_Encode_l18 M q m (j : Int) (k : Int) l out B = q ((j + 1 : Nat) : Int) l (out ++ itsAt k x.Gap r)
  | r, k, 0, out, _, hm, _ => by omega
  | [], k, m + 1, out, hr, hm, ho => by
    have := drop_nil hr
    simp only [ref29_Encode_l18, b_ref29_Encode_l18]
    rw [bif_neg (by omega), next_i j (by omega)]; simp [itsAt]
  | v :: r, k, m + 1, out, hr, hm, ho => by
    obtain ⟨h1, h2, h3, h4, h5⟩ := drop_cons hr 0
    have hv := hB v h5
    simp only [List.length_cons] at hm ho
    simp only [ref29_Encode_l18, b_ref29_Encode_l18, h1, beq_if, hx]
    rw [bif_pos (by omega), bif_pos (by omega), bif_pos (by omega), next_i k (by omega), i64_ok (n := v) (by omega)]
    unfold itsAt
    by_cases hk : k = 0
    · rw [if_pos (by omega), bif_pos (by omega), bif_pos (by omega), bif_pos (by omega), if_pos hk, renc_l18 M q l j hj hl x hx B hB hlB r (k + 1) m _ h3 (by omega) (by simp; omega)]; simp
    · rw [if_neg (by omega), bif_pos (by omega), if_neg hk, renc_l18 M q l j hj hl x hx B hB hlB r (k + 1) m _ h3 (by omega) (by simp; omega)]; simp
theorem renc_l14 (M : Nat) (hM : 20000 ≤ M) (c : Slip) (l : List Item) (hl : l.length ≤ 1024) (he : ∀ x, x ∈ l → errI c x = 0) : ∀ (r : List Item) (i m : Nat) (out : List Item), l.drop i = r → r.length < m → out.length + 10000 * r.length ≤ 50000000 → ref29_Encode_l14 M m (i : Int) l out = some (if ((out ++ sendAll r).length : Int) > 262144 then ([], 6) else (out ++ sendAll r, 0))
  | r, i, 0, out, _, hm, _ => by omega
  | [], i, m + 1, out, hr, hm, ho => by
    have := drop_nil hr
    simp only [ref29_Encode_l14, b_ref29_Encode_l14]
    rw [bif_neg (by omega), bif_if]; simp [sendAll]
    split <;> rfl
  | x :: r, i, m + 1, out, hr, hm, ho => by
    obtain ⟨h1, h2, h3, h4, h5⟩ := drop_cons hr dflt_Item
    obtain ⟨g1, g2, g3, g4, g5, g6, g7, g8⟩ := err_ok (he x h5)
    have hw := wr_len x
    simp only [List.length_cons] at hm ho
    have hsd := send_is M (Nat.le_trans (by decide) hM) x (by clear ho; omega)
    simp only [ref29_Encode_l14, b_ref29_Encode_l14, h1, hsd, Option.bind_some]
    rw [bif_pos (by omega), bif_pos (by omega), bif_pos (by omega), sendAll_cons]
    rw [show (0 : Int) = ((0 : Nat) : Int) from rfl, renc_l18 M _ l i h2 hl x h1 (wr x) (wr_bytes x) (by omega) (wr x) 0 M out rfl (by omega) (by omega)]
    rw [renc_l14 M hM c l hl he r (i + 1) m _ h3 (by omega) (by rw [List.length_append, itsAt_len]; omega), List.append_assoc]
    rfl
theorem renc_l7 (M : Nat) (hM : 20000 ≤ M) (c : Slip) (l : List Item) (hl : l.length ≤ 1024) : ∀ (r : List Item) (i m : Nat), l.drop i = r → r.length < m → (∀ x, x ∈ l.take i → errI c x = 0) → ref29_Encode_l7 M m (i : Int) l c = some (if firstE c r = 0 then (if ((sendAll l).length : Int) > 262144 then ([], 6) else (sendAll l, 0)) else ([], firstE c r))
  | r, i, 0, _, hm, _ => by omega
  | [], i, m + 1, hr, hm, hno => by
    have h := drop_nil hr
    have htk : l.take i = l := List.take_of_length_le h
    rw [htk] at hno
    simp only [ref29_Encode_l7, b_ref29_Encode_l7, firstE]
    rw [bif_neg (by omega), if_pos trivial, show (0 : Int) = ((0 : Nat) : Int) from rfl, renc_l14 M hM c l hl hno l 0 M [] rfl (by omega) (by simp; omega)]
    simp
  | x :: r, i, m + 1, hr, hm, hno => by
    obtain ⟨h1, h2, h3, h4, h5⟩ := drop_cons hr dflt_Item
    simp only [List.length_cons] at hm
    simp only [ref29_Encode_l7, b_ref29_Encode_l7, h1, ref_item_is, Option.bind_some, bne_if]
    rw [bif_pos (by omega), bif_pos (by omega), bif_pos (by omega), next_i i (by omega)]
    by_cases he : errI c x = 0
    · have hf : firstE c (x :: r) = firstE c r := by simp [firstE, he]
      rw [if_pos he]
      simp only [hf]
      refine renc_l7 M hM c l hl r (i + 1) m h3 (by omega) ?_
      intro y hy
      rw [List.take_add_one, show l[i]? = some x by
        have : (l.drop i)[0]? = some x := by rw [hr]; rfl
        rwa [List.getElem?_drop, Nat.add_zero] at this] at hy
      rcases List.mem_append.1 hy with hy | hy
      · exact hno y hy
      · simp at hy; subst hy; exact he
    · have hf : firstE c (x :: r) = errI c x := by simp [firstE, he]
      rw [if_neg he]
      simp only [hf, if_neg he]
theorem ref_encode_is (M : Nat) (hM : 20000 ≤ M) (c : Slip) (l : List Item) : ref29_Encode M c l = some (encS c l) := by
  simp only [ref29_Encode, b_ref29_Encode, ref_check_is, Option.bind_some, bne_if, encS]
  by_cases hc : OkC c
  · simp only [if_pos hc, if_true]
    by_cases h : (l.length : Int) > 1024
    · rw [bif_pos h, if_pos h]
    · rw [bif_neg h, if_neg h, show (0 : Int) = ((0 : Nat) : Int) from rfl, renc_l7 M hM c l (by omega) l 0 M rfl (by omega) (by simp)]
      rfl
  · simp only [if_neg hc]; rfl
theorem encS_len (c : Slip) (l : List Item) : ((encS c l).1.length : Int) ≤ 262144 := by
  unfold encS
  repeat' split
  all_goals first | (simp; done) | (dsimp only; omega)
theorem same_items (M : Nat) (a : List Item) (ha : a.length < 9223372036854775807) : ∀ (k i m : Nat), i + k = a.length → k < m → ref29_Same_l4 M m (i : Int) a a = some true
  | k, i, 0, _, hm => by omega
  | 0, i, m + 1, hi, hm => by
    simp only [ref29_Same_l4, b_ref29_Same_l4]
    rw [bif_neg (by omega)]
  | k + 1, i, m + 1, hi, hm => by
    simp only [ref29_Same_l4, b_ref29_Same_l4, beq_self_eq_true, bytes_beq_self, Bool.and_self, Bool.not_true, Bool.cond_false]
    simp only [bif_pos (show (0 : Int) ≤ (i : Int) by omega), bif_pos (show (i : Int) < (a.length : Int) by omega), next_i i (by omega)]
    exact same_items M a ha k (i + 1) m (by omega) (by omega)
theorem SlipEncodes_true (c : Slip) (l : List Item) (hc : wf_Slip c) (hl : (∀ x, x ∈ l → wf_Item x) ∧ l.length * Try.prog.bytesOf 46 ≤ 140737488351232) : ∃ M, law29_SlipEncodes M c l = some true := by
  refine ⟨300000, ?_⟩
  have hlen := encS_len c l
  have hs : ref29_Same 300000 (encS c l).1 (encS c l).1 = some true := by
    simp only [ref29_Same, b_ref29_Same, bne_self_eq_false, Bool.cond_false]
    exact same_items 300000 _ (by omega) _ 0 300000 (Nat.zero_add _) (by omega)
  simp only [law29_SlipEncodes, b_law29_SlipEncodes, encode_is 300000 (by omega), ref_encode_is 300000 (by omega), Option.bind_some, beq_self_eq_true, Bool.cond_true, hs, awake_true 300000 (by omega)]
end Go.Abs.K
