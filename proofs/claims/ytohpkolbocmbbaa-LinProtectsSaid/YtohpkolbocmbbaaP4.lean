/- LIN: what is sent. -/
import Derived.Test.YtohpkolbocmbbaaP3
import Derived.Test.YtohpkolbocmbbaaF2
set_option linter.unusedVariables false
set_option linter.unusedSimpArgs false
namespace Go.Abs.K
open Go Go.Abs Go.Proofs

noncomputable def xor64 (y : Int) : Int := IntKind.i64.wrap (((BitVec.ofInt 64 y ^^^ BitVec.ofInt 64 64).toNat : Int))
noncomputable def xor1 (y : Int) : Int := IntKind.i64.wrap (((BitVec.ofInt 64 y ^^^ BitVec.ofInt 64 1).toNat : Int))
abbrev itm (v : Int) : Item := Item.mk 0 v 0 (bs []) 0
noncomputable def pidA (x : Item) : Int := if x.Fault = 2 then xor64 (protA x.Value) else protA x.Value
noncomputable def csA (c : Lin) (x : Item) : Int := if x.Fault = 3 then xor1 (sumA c (pidA x) x.Data) else sumA c (pidA x) x.Data
noncomputable def bytesA (c : Lin) (x : Item) : List Int := (if x.Fault = 1 then 84 else 85) :: pidA x :: (ofBytes x.Data ++ [csA c x])
noncomputable def sendA (c : Lin) (x : Item) : List Item := Item.mk x.Gap 0 1 (bs []) 0 :: (bytesA c x).map itm
theorem send_len (c : Lin) (x : Item) : (sendA c x).length = x.Data.size + 4 := by
  simp [sendA, bytesA, ofBytes_length]
theorem send_l11 (M : Nat) (sum : Int) (x : Item) (hx : x.Data.size ≤ 1000) : ∀ (r : List Int) (i m : Nat) (out : List Item), (ofBytes x.Data).drop i = r → r.length < m → out.length + r.length ≤ 100000 → lin_send_l11 M m sum (x.Data.size : Int) (i : Int) x out = some (out ++ r.map itm ++ [itm sum])
  | r, i, 0, out, _, hm, _ => by omega
  | [], i, m + 1, out, hr, hm, ho => by
    have := drop_nil hr
    rw [ofBytes_length] at this
    simp only [List.length_nil] at ho
    simp only [lin_send_l11, b_lin_send_l11]
    rw [bif_neg (by omega), bif_pos (by omega)]; simp
  | v :: r, i, m + 1, out, hr, hm, ho => by
    obtain ⟨h1, h2, h3, h4, h5⟩ := drop_cons hr 0
    rw [ofBytes_length] at h2 h4
    have hb := byteAt_range x.Data i
    simp only [List.length_cons] at hm ho
    simp only [lin_send_l11, b_lin_send_l11]
    rw [bif_pos (by omega), bif_pos (by omega), bif_pos (by omega), bif_pos (by omega), next_i i (by omega), i64_ok (n := byteAt x.Data i) (by omega), byteAt_eq, h1, send_l11 M sum x hx r (i + 1) m _ h3 (by omega) (by simp; omega)]
    simp
noncomputable def sendQ (M : Nat) (c : Lin) (x : Item) (first pid : Int) : Option (List Item) :=
  (lin_checksum M c pid x.Data).bind fun r0 =>
  bif x.Fault == 3 then lin_send_l11 M M (xor1 r0) (x.Data.size : Int) 0 x [Item.mk x.Gap 0 1 (bs []) 0, Item.mk 0 first 0 (bs []) 0, Item.mk 0 pid 0 (bs []) 0]
  else lin_send_l11 M M r0 (x.Data.size : Int) 0 x [Item.mk x.Gap 0 1 (bs []) 0, Item.mk 0 first 0 (bs []) 0, Item.mk 0 pid 0 (bs []) 0]
theorem send_eq (M : Nat) (c : Lin) (x : Item) : lin_send M c x =
  bif x.Fault == 1 then (bif x.Fault == 2 then sendQ M c x 84 (xor64 (protA x.Value)) else sendQ M c x 84 (protA x.Value))
  else bif x.Fault == 2 then sendQ M c x 85 (xor64 (protA x.Value)) else sendQ M c x 85 (protA x.Value) := rfl
theorem sendQ_is (M : Nat) (hM : 100 < M) (c : Lin) (x : Item) (hx : x.Data.size ≤ 8) (first pid : Int) : sendQ M c x first pid = some (Item.mk x.Gap 0 1 (bs []) 0 :: (first :: pid :: (ofBytes x.Data ++ [if x.Fault = 3 then xor1 (sumA c pid x.Data) else sumA c pid x.Data])).map itm) := by
  unfold sendQ
  have hl : (ofBytes x.Data).length ≤ 8 := by rw [ofBytes_length]; exact hx
  have h := fun s => send_l11 M s x (by omega) (ofBytes x.Data) 0 M [Item.mk x.Gap 0 1 (bs []) 0, Item.mk 0 first 0 (bs []) 0, Item.mk 0 pid 0 (bs []) 0] rfl (by omega) (by simp; omega)
  rw [checksum_is M c pid _ (by omega) (by omega), Option.bind_some, beq_if]
  by_cases h3 : x.Fault = 3
  · rw [if_pos h3, if_pos h3]; refine (h _).trans ?_; simp
  · rw [if_neg h3, if_neg h3]; refine (h _).trans ?_; simp
theorem send_is (M : Nat) (hM : 100 < M) (c : Lin) (x : Item) (hx : x.Data.size ≤ 8) : lin_send M c x = some (sendA c x) := by
  rw [send_eq]
  simp only [sendQ_is M hM c x hx, beq_if]
  unfold sendA bytesA csA pidA
  by_cases h1 : x.Fault = 1 <;> by_cases h2 : x.Fault = 2 <;> simp only [h1, h2, if_true, if_false]
  · omega
  · simp
  · simp
def OkI (x : Item) : Prop := 0 ≤ x.Gap ∧ x.Gap ≤ 1048576 ∧ 0 ≤ x.Value ∧ x.Value ≤ 63 ∧ 1 ≤ x.Data.size ∧ x.Data.size ≤ 8 ∧ 0 ≤ x.Fault ∧ x.Fault ≤ 3 ∧ x.Aux = 0
instance (x : Item) : Decidable (OkI x) := by unfold OkI; infer_instance
noncomputable def chkA (x : Item) : Int := (lin_checkItem 0 x).getD 0
theorem check_some (M : Nat) (x : Item) : ∃ v, lin_checkItem M x = some v ∧ (v = 0 ↔ OkI x) := by
  simp only [lin_checkItem, b_lin_checkItem, bif_if, bne_if]
  unfold OkI
  by_cases h : 0 ≤ x.Gap ∧ x.Gap ≤ 1048576 ∧ 0 ≤ x.Value ∧ x.Value ≤ 63 ∧ 1 ≤ x.Data.size ∧ x.Data.size ≤ 8 ∧ 0 ≤ x.Fault ∧ x.Fault ≤ 3 ∧ x.Aux = 0
  · repeat rw [if_neg (by omega)]
    rw [if_pos (by omega)]
    exact ⟨0, rfl, by simp [h]⟩
  · repeat' split
    all_goals first | (refine ⟨_, rfl, ?_⟩; simp [h]; done) | (exfalso; omega)
theorem check_is (M : Nat) (x : Item) : lin_checkItem M x = some (chkA x) := by
  obtain ⟨v, hv, _⟩ := check_some 0 x
  have : lin_checkItem M x = lin_checkItem 0 x := rfl
  rw [this, chkA, hv]; rfl
theorem chk_ok (x : Item) : chkA x = 0 ↔ OkI x := by
  obtain ⟨v, hv, h⟩ := check_some 0 x
  rw [chkA, hv]; exact h
theorem item_is (M : Nat) (x : Item) : ref27_item M x = some (chkA x) := by
  rw [← check_is M x]
  simp only [lin_checkItem, b_lin_checkItem, ref27_item, b_ref27_item, bif_if, bne_if]
  by_cases h1 : x.Gap < 0
  · rw [if_pos h1, if_pos h1]
  rw [if_neg h1, if_neg h1]
  by_cases h2 : x.Gap > 1048576
  · rw [if_pos h2, if_pos h2]
  rw [if_neg h2, if_neg h2]
  by_cases h3 : (x.Data.size : Int) > 4096
  · rw [if_pos h3, if_pos h3]
  rw [if_neg h3, if_neg h3]
  by_cases h4 : x.Value < 0
  · rw [if_pos h4, if_pos h4]
  rw [if_neg h4, if_neg h4]
  by_cases h5 : x.Value > 63
  · rw [if_pos h5, if_pos h5]
  rw [if_neg h5, if_neg h5]
  by_cases h6 : (x.Data.size : Int) < 1
  · rw [if_pos h6, if_pos h6]
  rw [if_neg h6, if_neg h6]
  by_cases h7 : (x.Data.size : Int) > 8
  · rw [if_pos h7, if_pos h7]
  rw [if_neg h7, if_neg h7]
  repeat' split
  all_goals first | rfl | (exfalso; omega)
noncomputable def errA : List Item → Int
  | [] => 0
  | x :: r => if OkI x then errA r else chkA x
def AllOk : List Item → Prop
  | [] => True
  | x :: r => OkI x ∧ AllOk r
instance allDec : (l : List Item) → Decidable (AllOk l)
  | [] => isTrue trivial
  | x :: r => by have := allDec r; unfold AllOk; infer_instance
theorem all_mem : ∀ (l : List Item), AllOk l → ∀ x, x ∈ l → OkI x
  | [], _, x, hx => by cases hx
  | y :: l, h, x, hx => by
    rcases List.mem_cons.1 hx with rfl | hx
    · exact h.1
    · exact all_mem l h.2 x hx
theorem flat_len (c : Lin) : ∀ (l : List Item), AllOk l → (l.flatMap (sendA c)).length ≤ 12 * l.length
  | [], _ => by simp
  | x :: l, h => by
    have := flat_len c l h.2
    have hx := h.1.2.2.2.2.2.1
    rw [List.flatMap_cons, List.length_append, send_len, List.length_cons]; omega
theorem enc_l12 (M : Nat) (hM : 100 < M) (c : Lin) (l : List Item) (hl : l.length ≤ 1024) : ∀ (r : List Item) (i m : Nat) (out : List Item), l.drop i = r → r.length < m → AllOk r → out.length + 12 * r.length ≤ 100000 → lin_Encode_l12 M m (l.length : Int) (i : Int) c out l = some (out ++ r.flatMap (sendA c), 0)
  | r, i, 0, out, _, hm, _, _ => by omega
  | [], i, m + 1, out, hr, hm, _, ho => by
    have := drop_nil hr
    simp only [lin_Encode_l12, b_lin_Encode_l12]
    rw [bif_neg (by omega)]; simp
  | x :: r, i, m + 1, out, hr, hm, ha, ho => by
    obtain ⟨h1, h2, h3, h4, h5⟩ := drop_cons hr dflt_Item
    have hx := ha.1.2.2.2.2.2.1
    have hs := send_len c x
    simp only [List.length_cons] at hm ho
    simp only [lin_Encode_l12, b_lin_Encode_l12, h1, send_is M hM c x hx, Option.bind_some]
    rw [bif_pos (by omega), bif_pos (by omega), bif_pos (by omega), bif_pos (by omega), next_i i (by omega), enc_l12 M hM c l hl r (i + 1) m _ h3 (by omega) ha.2 (by rw [List.length_append]; omega)]
    simp
theorem enc_l4 (M : Nat) (c : Lin) (l : List Item) (hl : l.length ≤ 1024) : ∀ (r : List Item) (i m : Nat), l.drop i = r → r.length < m → lin_Encode_l4 M m (l.length : Int) (i : Int) l c = if AllOk r then lin_Encode_l12 M M (l.length : Int) 0 c [] l else some ([], errA r)
  | r, i, 0, _, hm => by omega
  | [], i, m + 1, hr, hm => by
    have := drop_nil hr
    simp only [lin_Encode_l4, b_lin_Encode_l4]
    rw [bif_neg (by omega), if_pos (show AllOk [] from trivial)]
  | x :: r, i, m + 1, hr, hm => by
    obtain ⟨h1, h2, h3, h4, h5⟩ := drop_cons hr dflt_Item
    simp only [List.length_cons] at hm
    simp only [lin_Encode_l4, b_lin_Encode_l4, h1, check_is, Option.bind_some, bne_if]
    rw [bif_pos (by omega), bif_pos (by omega), bif_pos (by omega), next_i i (by omega), enc_l4 M c l hl r (i + 1) m h3 (by omega)]
    by_cases hk : OkI x
    · rw [if_pos ((chk_ok x).2 hk)]
      have he : errA (x :: r) = if OkI x then errA r else chkA x := rfl
      rw [he, if_pos hk]
      by_cases hr : AllOk r
      · rw [if_pos hr, if_pos (show AllOk (x :: r) from ⟨hk, hr⟩)]
      · rw [if_neg hr, if_neg (show ¬ AllOk (x :: r) from fun h => hr h.2)]
    · rw [if_neg (fun h => hk ((chk_ok x).1 h)), if_neg (show ¬ AllOk (x :: r) from fun h => hk h.1)]
      have he : errA (x :: r) = if OkI x then errA r else chkA x := rfl
      rw [he, if_neg hk]
noncomputable def encA (c : Lin) (l : List Item) : List Item × Int := if l.length > 1024 then ([], 6) else if AllOk l then (l.flatMap (sendA c), 0) else ([], errA l)
theorem encode_is (M : Nat) (hM : 2000 < M) (c : Lin) (l : List Item) : lin_Encode M c l = some (encA c l) := by
  simp only [lin_Encode, b_lin_Encode, bif_if]
  unfold encA
  by_cases h : l.length > 1024
  · rw [if_pos (show (l.length : Int) > 1024 by omega), if_pos h]
  · rw [if_neg (show ¬ (l.length : Int) > 1024 by omega), if_neg h]
    refine (enc_l4 M c l (by omega) l 0 M rfl (by omega)).trans ?_
    by_cases ha : AllOk l
    · rw [if_pos ha, if_pos ha]
      refine (enc_l12 M (by omega) c l (by omega) l 0 M [] rfl (by omega) ha (by simp; omega)).trans ?_
      rfl
    · rw [if_neg ha, if_neg ha]
/-! ### The reference -/
theorem renc_l21 (M : Nat) (q : Int → List Item → Lin → List Item → Option (List Item × Int)) (c : Lin) (l : List Item) (j : Int) (x : Item) (sum : Int) (hx : x.Data.size ≤ 1000) : ∀ (r : List Int) (i m : Nat) (out : List Item), (ofBytes x.Data).drop i = r → r.length < m → out.length + r.length ≤ 100000 → ref27_Encode_l21 M q m j sum (i : Int) l c out x = q (IntKind.i64.wrap (j + 1)) l c (out ++ r.map itm ++ [itm sum])
  | r, i, 0, out, _, hm, _ => by omega
  | [], i, m + 1, out, hr, hm, ho => by
    have := drop_nil hr
    rw [ofBytes_length] at this
    simp only [List.length_nil] at ho
    simp only [ref27_Encode_l21, b_ref27_Encode_l21]
    rw [bif_neg (by omega), bif_pos (by omega)]; simp
  | v :: r, i, m + 1, out, hr, hm, ho => by
    obtain ⟨h1, h2, h3, h4, h5⟩ := drop_cons hr 0
    rw [ofBytes_length] at h2 h4
    have hb := byteAt_range x.Data i
    simp only [List.length_cons] at hm ho
    simp only [ref27_Encode_l21, b_ref27_Encode_l21]
    rw [bif_pos (by omega), bif_pos (by omega), bif_pos (by omega), bif_pos (by omega), next_i i (by omega), i64_ok (n := byteAt x.Data i) (by omega), byteAt_eq, h1, renc_l21 M q c l j x sum hx r (i + 1) m _ h3 (by omega) (by simp; omega)]
    simp
noncomputable def rQ (M m : Nat) (c : Lin) (l : List Item) (j : Int) (x : Item) (out : List Item) (first pid : Int) : Option (List Item × Int) :=
  (ref27_sum M c pid x.Data).bind fun r0 =>
  bif x.Fault == 3 then (bif decide ((out.length + 3) * 48 ≤ 140737488355328) then ref27_Encode_l21 M (fun a b c d => ref27_Encode_l5 M m a b c d) M j (xor1 r0) 0 l c (out ++ [Item.mk x.Gap 0 1 (bs []) 0, Item.mk 0 first 0 (bs []) 0, Item.mk 0 pid 0 (bs []) 0]) x else none)
  else (bif decide ((out.length + 3) * 48 ≤ 140737488355328) then ref27_Encode_l21 M (fun a b c d => ref27_Encode_l5 M m a b c d) M j r0 0 l c (out ++ [Item.mk x.Gap 0 1 (bs []) 0, Item.mk 0 first 0 (bs []) 0, Item.mk 0 pid 0 (bs []) 0]) x else none)
theorem renc_eq (M m : Nat) (i : Int) (l : List Item) (c : Lin) (out : List Item) : ref27_Encode_l5 M (m + 1) i l c out =
  bif decide (i < (l.length : Int)) then (bif decide (0 ≤ i) then (bif decide (i < (l.length : Int)) then
    ((ref27_item M (l.getD i.toNat dflt_Item)).bind fun r0 =>
      bif r0 != 0 then some ([], r0) else
      bif (l.getD i.toNat dflt_Item).Fault == 1 then
        (bif (l.getD i.toNat dflt_Item).Fault == 2 then rQ M m c l i (l.getD i.toNat dflt_Item) out 84 (xor64 (protR (l.getD i.toNat dflt_Item).Value)) else rQ M m c l i (l.getD i.toNat dflt_Item) out 84 (protR (l.getD i.toNat dflt_Item).Value))
      else bif (l.getD i.toNat dflt_Item).Fault == 2 then rQ M m c l i (l.getD i.toNat dflt_Item) out 85 (xor64 (protR (l.getD i.toNat dflt_Item).Value)) else rQ M m c l i (l.getD i.toNat dflt_Item) out 85 (protR (l.getD i.toNat dflt_Item).Value))
    else none) else none) else some (out, 0) := rfl
theorem rQ_is (M m : Nat) (hM : 100 < M) (c : Lin) (l : List Item) (j : Int) (x : Item) (hx : x.Data.size ≤ 8) (out : List Item) (ho : out.length ≤ 50000) (first pid : Int) : rQ M m c l j x out first pid = ref27_Encode_l5 M m (IntKind.i64.wrap (j + 1)) l c (out ++ Item.mk x.Gap 0 1 (bs []) 0 :: (first :: pid :: (ofBytes x.Data ++ [if x.Fault = 3 then xor1 (sumA c pid x.Data) else sumA c pid x.Data])).map itm) := by
  unfold rQ
  have hl : (ofBytes x.Data).length ≤ 8 := by rw [ofBytes_length]; exact hx
  have h := fun s => renc_l21 M (fun a b c d => ref27_Encode_l5 M m a b c d) c l j x s (by omega) (ofBytes x.Data) 0 M (out ++ [Item.mk x.Gap 0 1 (bs []) 0, Item.mk 0 first 0 (bs []) 0, Item.mk 0 pid 0 (bs []) 0]) rfl (by omega) (by simp; omega)
  rw [rsum_is M c pid _ (by omega) (by omega), Option.bind_some, beq_if, bif_pos (show (out.length + 3) * 48 ≤ 140737488355328 by omega), bif_pos (show (out.length + 3) * 48 ≤ 140737488355328 by omega)]
  by_cases h3 : x.Fault = 3
  · rw [if_pos h3, if_pos h3]; refine (h _).trans ?_; simp
  · rw [if_neg h3, if_neg h3]; refine (h _).trans ?_; simp
theorem renc_l5 (M : Nat) (hM : 100 < M) (c : Lin) (l : List Item) (hl : l.length ≤ 1024) : ∀ (r : List Item) (i m : Nat) (out : List Item), l.drop i = r → r.length < m → out.length + 12 * r.length ≤ 40000 → ref27_Encode_l5 M m (i : Int) l c out = some (if AllOk r then (out ++ r.flatMap (sendA c), 0) else ([], errA r))
  | r, i, 0, out, _, hm, _ => by omega
  | [], i, m + 1, out, hr, hm, ho => by
    have := drop_nil hr
    rw [renc_eq, bif_neg (by omega), if_pos (show AllOk [] from trivial)]; simp
  | x :: r, i, m + 1, out, hr, hm, ho => by
    obtain ⟨h1, h2, h3, h4, h5⟩ := drop_cons hr dflt_Item
    simp only [List.length_cons] at hm ho
    have he : errA (x :: r) = if OkI x then errA r else chkA x := rfl
    rw [renc_eq, h1, bif_pos (by omega), bif_pos (by omega), bif_pos (by omega), item_is, Option.bind_some, bne_if, he]
    by_cases hk : OkI x
    · have hx := hk.2.2.2.2.2.1
      have hs := send_len c x
      rw [if_pos ((chk_ok x).2 hk), if_pos hk]
      have ih := renc_l5 M hM c l hl r (i + 1) m (out ++ sendA c x) h3 (by omega) (by rw [List.length_append]; omega)
      have key : (if x.Fault = 1 then (if x.Fault = 2 then rQ M m c l i x out 84 (xor64 (protR x.Value)) else rQ M m c l i x out 84 (protR x.Value))
        else if x.Fault = 2 then rQ M m c l i x out 85 (xor64 (protR x.Value)) else rQ M m c l i x out 85 (protR x.Value)) = ref27_Encode_l5 M m ((i + 1 : Nat) : Int) l c (out ++ sendA c x) := by
        have hp := prot_facts x.Value ⟨hk.2.2.1, by have := hk.2.2.2.1; omega⟩
        simp only [rQ_is M m hM c l i x hx out (by omega), next_i i (by omega), ← hp.1]
        unfold sendA bytesA csA pidA
        by_cases h1 : x.Fault = 1 <;> by_cases h2 : x.Fault = 2 <;> simp only [h1, h2, if_true, if_false]
        · omega
        · simp
        · simp
      simp only [beq_if]
      rw [key, ih]
      by_cases hr : AllOk r
      · rw [if_pos hr, if_pos (show AllOk (x :: r) from ⟨hk, hr⟩)]; simp
      · rw [if_neg hr, if_neg (show ¬ AllOk (x :: r) from fun h => hr h.2)]
    · rw [if_neg (fun h => hk ((chk_ok x).1 h)), if_neg hk, if_neg (show ¬ AllOk (x :: r) from fun h => hk h.1)]
theorem rencode_is (M : Nat) (hM : 2000 < M) (c : Lin) (l : List Item) : ref27_Encode M c l = some (encA c l) := by
  simp only [ref27_Encode, b_ref27_Encode, bif_if]
  unfold encA
  by_cases h : l.length > 1024
  · rw [if_pos (show (l.length : Int) > 1024 by omega), if_pos h]
  · rw [if_neg (show ¬ (l.length : Int) > 1024 by omega), if_neg h]
    refine (renc_l5 M (by omega) c l (by omega) l 0 M [] rfl (by omega) (by simp; omega)).trans ?_
    simp
theorem samei_l4 (M : Nat) (a : List Item) (ha : a.length < 9223372036854775807) : ∀ (k i m : Nat), i + k = a.length → k < m → law27_sameItems_l4 M m (i : Int) a a = some true
  | k, i, 0, _, hm => by omega
  | 0, i, m + 1, hi, hm => by
    simp only [law27_sameItems_l4, b_law27_sameItems_l4]
    rw [bif_neg (by omega)]
  | k + 1, i, m + 1, hi, hm => by
    simp only [law27_sameItems_l4, b_law27_sameItems_l4, beq_self_eq_true, bytes_beq_self, Bool.and_self, Bool.not_true, Bool.cond_false]
    rw [bif_pos (by omega), bif_pos (by omega), bif_pos (by omega), next_i i (by omega)]
    simp only [bif_pos (show (0 : Int) ≤ (i : Int) by omega), bif_pos (show (i : Int) < (a.length : Int) by omega)]
    exact samei_l4 M a ha k (i + 1) m (by omega) (by omega)
theorem samei_self (M : Nat) (a : List Item) (ha : a.length < 9223372036854775807) (hM : a.length < M) : law27_sameItems M a a = some true := by
  simp only [law27_sameItems, b_law27_sameItems, bne_self_eq_false, Bool.cond_false]
  exact samei_l4 M a ha a.length 0 M (by omega) hM
theorem few_l5 (M : Nat) (l : List Item) (hl : l.length ≤ 1100) : ∀ (r : List Item) (i m : Nat) (n : Int), l.drop i = r → r.length < m → ∃ b, law27_few_l5 M m n (i : Int) l = some b
  | r, i, 0, n, _, hm => by omega
  | [], i, m + 1, n, hr, hm => by
    have := drop_nil hr
    simp only [law27_few_l5, b_law27_few_l5]
    rw [bif_neg (by omega)]; exact ⟨_, rfl⟩
  | x :: r, i, m + 1, n, hr, hm => by
    obtain ⟨h1, h2, h3, h4, h5⟩ := drop_cons hr dflt_Item
    simp only [List.length_cons] at hm
    simp only [law27_few_l5, b_law27_few_l5, h1]
    obtain ⟨b, hb⟩ := few_l5 M l hl r (i + 1) m (IntKind.i64.wrap (n + (x.Data.size : Int))) h3 (by omega)
    rw [bif_pos (by omega), bif_pos (by omega), bif_pos (by omega), next_i i (by omega), hb, bif_if]
    split <;> exact ⟨_, rfl⟩
theorem few_is (M : Nat) (l : List Item) (hM : 1100 < M) : ∃ b, law27_few M l = some b ∧ (b = true → l.length ≤ 1100) := by
  simp only [law27_few, b_law27_few]
  by_cases h : (l.length : Int) > 1100
  · rw [bif_pos h]; exact ⟨false, rfl, by simp⟩
  · rw [bif_neg h]
    obtain ⟨b, hb⟩ := few_l5 M l (by omega) l 0 M 0 rfl (by omega)
    exact ⟨b, hb, fun _ => by omega⟩
theorem enc_len (c : Lin) (l : List Item) : (encA c l).1.length ≤ 12288 := by
  unfold encA
  split
  · simp
  · split
    · rename_i h1 h2
      have := flat_len c l h2
      dsimp only; omega
    · simp
theorem LinEncodes_true (c : Lin) (l : List Item) (hc : wf_Lin c) (hl : (∀ x, x ∈ l → wf_Item x) ∧ l.length * Try.prog.bytesOf 45 ≤ 140737488351232) : ∃ M, law27_LinEncodes M c l = some true := by
  refine ⟨20000, ?_⟩
  obtain ⟨b, hb, hb2⟩ := few_is 20000 l (by omega)
  have hlen := enc_len c l
  simp only [law27_LinEncodes, b_law27_LinEncodes, lives_true 20000 (by omega), hb, Option.bind_some, Bool.not_true, Bool.cond_false, encode_is 20000 (by omega) c l, rencode_is 20000 (by omega) c l, beq_self_eq_true, Bool.cond_true, samei_self 20000 (encA c l).1 (by omega) (by omega)]
  cases b <;> rfl
end Go.Abs.K
