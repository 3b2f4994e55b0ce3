/- SLIP: what was sent is read back; the laws of round trips and of resuming. -/
import Derived.Test.YtafkldlnijbchaaP4
set_option linter.unusedVariables false
set_option linter.unusedSimpArgs false
namespace Go.Abs.K
open Go Go.Abs Go.Proofs

abbrev frS (t p : Int) : State := State.mk 0 t 0 0 0 0 p (bs [])
abbrev inS (a f x p : Int) (d : ByteArray) : State := State.mk 1 a f 0 0 x p d
abbrev beS (a f x p : Int) (d : ByteArray) : State := State.mk 2 a f 0 0 x p d
theorem put1 (c : Slip) (a f x p : Int) (d : ByteArray) (b : Int) (hd : (d.size : Int) < c.Most) : putS c (inS a f x p d) b = inS a f x p (d ++ toBytes [b]) := by
  unfold putS
  dsimp only
  rw [if_pos hd]
theorem st_plain (c : Slip) (hc : OkC c) (a f x p t b : Int) (d : ByteArray) (hb : 0 ≤ b ∧ b ≤ 255) (h0 : 0 ≤ t) (h1 : t < 1000000000) (hp : p ≤ t) (n1 : b ≠ 192) (n2 : b ≠ 219) (hd : (d.size : Int) < c.Most) :
    stepS c (inS a f x p d) (ev t b) = (inS (t + 1) f x t (d ++ toBytes [b]), []) := by
  rw [step_ev c hc _ t b hb h0 h1 hp n1]
  have e : open1 { inS a f x p d with At := t + 1, Prev := t } t = inS (t + 1) f x t d := rfl
  rw [e]
  unfold takeS
  rw [if_neg (show ¬ (1 : Int) = 2 by omega), if_neg n2]
  rw [show ({ inS (t + 1) f x t d with Phase := 1 } : State) = inS (t + 1) f x t d from rfl, put1 c _ _ _ _ _ _ hd]
theorem st_esc (c : Slip) (hc : OkC c) (a f x p t : Int) (d : ByteArray) (h0 : 0 ≤ t) (h1 : t < 1000000000) (hp : p ≤ t) : stepS c (inS a f x p d) (ev t 219) = (beS (t + 1) f x t d, []) := by
  rw [step_ev c hc _ t 219 (by omega) h0 h1 hp (by omega)]
  rfl
theorem st_two (c : Slip) (hc : OkC c) (a f x p t b v : Int) (d : ByteArray) (hb : (b = 220 ∧ v = 192) ∨ (b = 221 ∧ v = 219)) (h0 : 0 ≤ t) (h1 : t < 1000000000) (hp : p ≤ t) (hd : (d.size : Int) < c.Most) :
    stepS c (beS a f x p d) (ev t b) = (inS (t + 1) f x t (d ++ toBytes [v]), []) := by
  rw [step_ev c hc _ t b (by omega) h0 h1 hp (by omega)]
  have e : open1 { beS a f x p d with At := t + 1, Prev := t } t = beS (t + 1) f x t d := rfl
  rw [e]
  unfold takeS
  rw [if_pos rfl]
  rw [show ({ beS (t + 1) f x t d with Phase := 1 } : State) = inS (t + 1) f x t d from rfl]
  rcases hb with ⟨rfl, rfl⟩ | ⟨rfl, rfl⟩
  · rw [if_pos rfl, put1 c _ _ _ _ _ _ hd]
  · rw [if_neg (by omega), if_pos rfl, put1 c _ _ _ _ _ _ hd]
theorem st_bad (c : Slip) (hc : OkC c) (a f x p t : Int) (d : ByteArray) (h0 : 0 ≤ t) (h1 : t < 1000000000) (hp : p ≤ t) : stepS c (beS a f x p d) (ev t 0) = (inS (t + 1) f 1 t d, []) := by
  rw [step_ev c hc _ t 0 (by omega) h0 h1 hp (by omega)]
  rfl
theorem st_end (c : Slip) (hc : OkC c) (a f x p t : Int) (d : ByteArray) (h0 : 0 ≤ t) (h1 : t < 1000000000) (hp : p ≤ t) (hx : x = 0 ∨ x = 1) : stepS c (inS a f x p d) (ev t 192) = (frS (t + 1) t, [Event.mk 6 f (t + 1) 0 0 d (if x = 1 then 5 else 0)]) := by
  unfold stepS
  rw [if_pos (in_ev c hc _ t 192 (by omega) h0 h1 hp)]
  rcases hx with rfl | rfl <;> rfl
theorem cat_bytes (d : ByteArray) (b : Int) (l : List Int) : d ++ toBytes [b] ++ toBytes l = d ++ toBytes (b :: l) := by
  have h : ∀ a b : ByteArray, a.data = b.data → a = b := fun a b h => by cases a; cases b; simp at h; rw [h]
  apply h
  simp [ByteArray.data_append, toBytes]
theorem run_body (c : Slip) (hc : OkC c) (f x : Int) : ∀ (l : List Int) (a p t : Int) (d : ByteArray), Bytes l → 0 ≤ t → t + (l.flatMap esc1).length < 1000000000 → p ≤ t → (d.size : Int) + l.length ≤ c.Most → ∃ a' p', p' ≤ t + (l.flatMap esc1).length ∧ runS c (inS a f x p d) (evs t (l.flatMap esc1)) = (inS a' f x p' (d ++ toBytes l), [])
  | [], a, p, t, d, hB, h0, h1, hp, hd => by
    refine ⟨a, p, by simpa using hp, ?_⟩
    have : d ++ toBytes [] = d := by
      apply ofBytes_inj; rw [ofBytes_append]; simp [toBytes, ofBytes]
    rw [this]; rfl
  | b :: l, a, p, t, d, hB, h0, h1, hp, hd => by
    have hb := hB b (by simp)
    have hBl : Bytes l := fun y hy => hB y (by simp [hy])
    simp only [List.length_cons, Int.natCast_add, Int.natCast_one] at hd
    have hz : ∀ v : Int, ((d ++ toBytes [v]).size : Int) = d.size + 1 := fun v => by rw [size_append, toBytes_size]; simp
    simp only [List.flatMap_cons, List.length_append, Int.natCast_add] at h1 ⊢
    by_cases c1 : b = 192
    · rw [esc_a c1] at h1 ⊢
      simp only [List.length_cons, List.length_nil] at h1 ⊢
      obtain ⟨a', p', k1, k2⟩ := run_body c hc f x l (t + 1 + 1) (t + 1) (t + 1 + 1) (d ++ toBytes [192]) hBl (by omega) (by omega) (by omega) (by rw [hz]; omega)
      refine ⟨a', p', by omega, ?_⟩
      simp only [List.cons_append, List.nil_append, evs, runS, st_esc c hc a f x p t d h0 (by omega) hp, st_two c hc (t + 1) f x t (t + 1) 220 192 d (.inl ⟨rfl, rfl⟩) (by omega) (by omega) (by omega) (by omega), k2]
      rw [cat_bytes, ← c1]
    · by_cases c2 : b = 219
      · rw [esc_b c1 c2] at h1 ⊢
        simp only [List.length_cons, List.length_nil] at h1 ⊢
        obtain ⟨a', p', k1, k2⟩ := run_body c hc f x l (t + 1 + 1) (t + 1) (t + 1 + 1) (d ++ toBytes [219]) hBl (by omega) (by omega) (by omega) (by rw [hz]; omega)
        refine ⟨a', p', by omega, ?_⟩
        simp only [List.cons_append, List.nil_append, evs, runS, st_esc c hc a f x p t d h0 (by omega) hp, st_two c hc (t + 1) f x t (t + 1) 221 219 d (.inr ⟨rfl, rfl⟩) (by omega) (by omega) (by omega) (by omega), k2]
        rw [cat_bytes, ← c2]
      · rw [esc_c c1 c2] at h1 ⊢
        simp only [List.length_cons, List.length_nil] at h1 ⊢
        obtain ⟨a', p', k1, k2⟩ := run_body c hc f x l (t + 1) t (t + 1) (d ++ toBytes [b]) hBl (by omega) (by omega) (by omega) (by rw [hz]; omega)
        refine ⟨a', p', by omega, ?_⟩
        simp only [List.cons_append, List.nil_append, evs, runS, st_plain c hc a f x p t b d hb h0 (by omega) hp c1 c2 (by omega), k2]
        rw [cat_bytes]
theorem open_run (c : Slip) (hc : OkC c) (a p t b : Int) (l : List Int) (hb : 0 ≤ b ∧ b ≤ 255) (h0 : 0 ≤ t) (h1 : t < 1000000000) (hp : p ≤ t) (hn : b ≠ 192) : runS c (frS a p) (evs t (b :: l)) = runS c (inS a t 0 p (bs [])) (evs t (b :: l)) := by
  have e : stepS c (frS a p) (ev t b) = stepS c (inS a t 0 p (bs [])) (ev t b) := by
    rw [step_ev c hc _ t b hb h0 h1 hp hn, step_ev c hc _ t b hb h0 h1 hp hn]
    rfl
  simp only [evs, runS, e]
theorem nil_cat (d : ByteArray) : bs [] ++ toBytes (ofBytes d) = d := by
  apply ofBytes_inj
  rw [ofBytes_append, toBytes_ofBytes]
  simp [ofBytes_bs]
/-- What follows the END ahead of a packet. -/
theorem tail_run (c : Slip) (hc : OkC c) (x : Item) (he : errI c x = 0) (a p t : Int) (h0 : 0 ≤ t) (h1 : t + (tl x).length < 1000000000) (hp : p ≤ t) : runS c (frS a p) (evs t (tl x)) = (frS (t + (tl x).length) (t + (tl x).length - 1), [Event.mk 6 t (t + (tl x).length) 0 0 x.Data x.Fault]) := by
  obtain ⟨g1, g2, g3, g4, g5, g6, g7, g8⟩ := err_ok he
  have hB := bytes_ofBytes x.Data
  have hl := ofBytes_length x.Data
  rcases g6 with g6 | g6
  · have htl : tl x = (ofBytes x.Data).flatMap esc1 ++ [192] := by unfold tl; rw [if_neg (by omega)]; rfl
    rw [htl] at h1 ⊢
    simp only [List.length_append, List.length_cons, List.length_nil, Int.natCast_add] at h1 ⊢
    have hop : runS c (frS a p) (evs t ((ofBytes x.Data).flatMap esc1 ++ [192])) = runS c (inS a t 0 p (bs [])) (evs t ((ofBytes x.Data).flatMap esc1 ++ [192])) := by
      cases hd : ofBytes x.Data with
      | nil => rw [hd] at hl; simp at hl; omega
      | cons b l =>
        have hb := hB b (by rw [hd]; simp)
        rw [List.flatMap_cons]
        by_cases c1 : b = 192
        · rw [esc_a c1]; exact open_run c hc a p t 219 _ (by omega) h0 (by omega) hp (by omega)
        · by_cases c2 : b = 219
          · rw [esc_b c1 c2]; exact open_run c hc a p t 219 _ (by omega) h0 (by omega) hp (by omega)
          · rw [esc_c c1 c2]; exact open_run c hc a p t b _ hb h0 (by omega) hp c1
    obtain ⟨a', p', k1, k2⟩ := run_body c hc t 0 (ofBytes x.Data) a p t (bs []) hB h0 (by omega) hp (by rw [hl]; show (0 : Int) + _ ≤ _; omega)
    rw [hop, evs_append, runS_append, k2]
    simp only [evs, runS, st_end c hc a' t 0 p' _ _ (by omega) (by omega) k1 (.inl rfl), nil_cat, List.nil_append, List.append_nil, g6]
    have e1 : t + (((ofBytes x.Data).flatMap esc1).length + (((0 : Nat) : Int) + ((1 : Nat) : Int))) = t + ((ofBytes x.Data).flatMap esc1).length + 1 := by omega
    rw [e1, show t + (((ofBytes x.Data).flatMap esc1).length : Int) + 1 - 1 = t + ((ofBytes x.Data).flatMap esc1).length by omega]
    rfl
  · have htl : tl x = 219 :: 0 :: ((ofBytes x.Data).flatMap esc1 ++ [192]) := by unfold tl; rw [if_pos g6]; rfl
    rw [htl] at h1 ⊢
    simp only [List.length_append, List.length_cons, List.length_nil, Int.natCast_add, Int.natCast_one] at h1 ⊢
    obtain ⟨a', p', k1, k2⟩ := run_body c hc t 1 (ofBytes x.Data) (t + 1 + 1) (t + 1) (t + 1 + 1) (bs []) hB (by omega) (by omega) (by omega) (by rw [hl]; show (0 : Int) + _ ≤ _; omega)
    rw [open_run c hc a p t 219 _ (by omega) h0 (by omega) hp (by omega)]
    simp only [evs, runS, st_esc c hc a t 0 p t (bs []) h0 (by omega) hp, st_bad c hc (t + 1) t 0 t (t + 1) (bs []) (by omega) (by omega) (by omega)]
    rw [evs_append, runS_append, k2]
    simp only [evs, runS, st_end c hc a' t 1 p' _ _ (show 0 ≤ t + 1 + 1 + (((ofBytes x.Data).flatMap esc1).length : Int) by omega) (by omega) k1 (.inr rfl), nil_cat, List.nil_append, List.append_nil, g6]
    have e1 : t + (((ofBytes x.Data).flatMap esc1).length + (((0 : Nat) : Int) + 1) + 1 + 1) = t + 1 + 1 + ((ofBytes x.Data).flatMap esc1).length + 1 := by omega
    rw [e1, show t + 1 + 1 + (((ofBytes x.Data).flatMap esc1).length : Int) + 1 - 1 = t + 1 + 1 + ((ofBytes x.Data).flatMap esc1).length by omega]
    rfl
/-- An END: what was collected is over. -/
theorem st_close (c : Slip) (hc : OkC c) (s : State) (t : Int) (hp : Ph s) (h0 : 0 ≤ t) (h1 : t < 1000000000) (hs : s.Prev ≤ t) : ∃ o, stepS c s (ev t 192) = (frS (t + 1) t, o) ∧ (s.Phase = 0 → o = []) := by
  unfold stepS
  rw [if_pos (in_ev c hc s t 192 (by omega) h0 h1 hs)]
  dsimp only
  rw [if_neg (by simp), if_neg (by simp)]
  by_cases hz : s.Phase = 0
  · obtain ⟨k1, k2, k3, k4⟩ := hp.2.2.2.2 hz
    rw [if_pos hz]
    refine ⟨[], ?_, fun _ => rfl⟩
    have := hp.2.2.2.1
    cases s
    simp only at hz k1 k2 k3 k4 this ⊢
    subst hz k1 k2 k3 k4 this
    rfl
  · rw [if_neg hz]
    exact ⟨_, rfl, fun h => absurd h hz⟩
theorem fr_ph (t p : Int) : Ph (frS t p) := ⟨.inl rfl, .inl rfl, .inl rfl, rfl, fun _ => ⟨rfl, rfl, rfl, rfl⟩⟩
/-- A packet, from a state without one on. -/
theorem wr_run (c : Slip) (hc : OkC c) (x : Item) (he : errI c x = 0) (a p t : Int) (h0 : 0 ≤ t) (h1 : t + (wr x).length < 1000000000) (hp : p ≤ t) : runS c (frS a p) (evs t (wr x)) = (frS (t + (wr x).length) (t + (wr x).length - 1), [Event.mk 6 (t + 1) (t + (wr x).length) 0 0 x.Data x.Fault]) := by
  have hl : ((wr x).length : Int) = (tl x).length + 1 := by simp [wr]
  obtain ⟨o, k1, k2⟩ := st_close c hc (frS a p) t (fr_ph a p) h0 (by omega) hp
  have := k2 rfl
  subst this
  have ht := tail_run c hc x he (t + 1) t (t + 1) (by omega) (by omega) (by omega)
  rw [hl]
  show runS c (frS a p) (evs t (192 :: tl x)) = _
  simp only [evs, runS, k1, ht, List.nil_append]
  rw [show t + (((tl x).length : Int) + 1) = t + 1 + (tl x).length by omega]
/-- What is told of the packets. -/
def Pk (e : Event) (x : Item) : Prop := e.Kind = 6 ∧ e.Value = 0 ∧ e.Aux = 0 ∧ e.Data = x.Data ∧ e.Fault = x.Fault ∧ e.From < e.To
inductive All2 {α β : Type} (P : α → β → Prop) : List α → List β → Prop
  | nil : All2 P [] []
  | cons {a b l k} : P a b → All2 P l k → All2 P (a :: l) (b :: k)
theorem All2.len {α β : Type} {P : α → β → Prop} {l : List α} {k : List β} (h : All2 P l k) : l.length = k.length := by
  induction h with
  | nil => rfl
  | cons _ _ ih => simp [ih]
theorem all_run (c : Slip) (hc : OkC c) : ∀ (l : List Item) (a p t : Int), (∀ x, x ∈ l → errI c x = 0) → 0 ≤ t → t + (l.flatMap wr).length < 1000000000 → p ≤ t → ∃ a' p', (runS c (frS a p) (evs t (l.flatMap wr))).1 = frS a' p' ∧ All2 Pk (runS c (frS a p) (evs t (l.flatMap wr))).2 l
  | [], a, p, t, he, h0, h1, hp => ⟨a, p, rfl, All2.nil⟩
  | x :: l, a, p, t, he, h0, h1, hp => by
    simp only [List.flatMap_cons, List.length_append, Int.natCast_add] at h1 ⊢
    have hw := wr_len x
    rw [evs_append, runS_append, wr_run c hc x (he x (by simp)) a p t h0 (by omega) hp]
    obtain ⟨a', p', k1, k2⟩ := all_run c hc l (t + (wr x).length) (t + (wr x).length - 1) (t + (wr x).length) (fun y hy => he y (by simp [hy])) (by omega) (by omega) (by omega)
    exact ⟨a', p', k1, All2.cons ⟨rfl, rfl, rfl, rfl, rfl, (by dsimp only; omega)⟩ k2⟩
theorem sendAll_vals : ∀ (l : List Item), (sendAll l).map (·.Value) = l.flatMap wr
  | [] => rfl
  | x :: l => by rw [sendAll_cons, List.map_append, sendAll_vals l, List.flatMap_cons]; congr 1; exact itsAt_vals _ _ _
theorem flat_bytes (l : List Item) : Bytes (l.flatMap wr) := fun b hb => by
  obtain ⟨x, _, hb⟩ := List.mem_flatMap.1 hb
  exact wr_bytes x b hb
theorem sent_l3 (M : Nat) (L : List Item) (hB : Bytes (L.map (·.Value))) (hL : L.length ≤ 300000) : ∀ (r : List Item) (i m : Nat) (out : List Int), L.drop i = r → r.length < m → out.length + r.length ≤ 300000 → law29_sent_l3 M m (i : Int) L out = some (toBytes (out ++ r.map (·.Value)))
  | r, i, 0, out, _, hm, _ => by omega
  | [], i, m + 1, out, hr, hm, ho => by
    have := drop_nil hr
    simp only [law29_sent_l3, b_law29_sent_l3]
    rw [bif_neg (by omega)]; simp
  | x :: r, i, m + 1, out, hr, hm, ho => by
    obtain ⟨h1, h2, h3, h4, h5⟩ := drop_cons hr dflt_Item
    have hx := hB x.Value (List.mem_map.2 ⟨x, h5, rfl⟩)
    simp only [List.length_cons] at hm ho
    simp only [law29_sent_l3, b_law29_sent_l3, h1, u8_ok hx]
    rw [bif_pos (by omega), bif_pos (by omega), bif_pos (by omega), bif_pos (by omega), next_i i (by omega), sent_l3 M L hB hL r (i + 1) m _ h3 (by omega) (by simp; omega)]
    simp
theorem sent_is (M : Nat) (L : List Item) (hB : Bytes (L.map (·.Value))) (hL : L.length ≤ 300000) (hM : L.length < M) : law29_sent M L = some (toBytes (L.map (·.Value))) := by
  simp only [law29_sent, b_law29_sent]
  rw [bif_pos (by omega), show (0 : Int) = ((0 : Nat) : Int) from rfl, sent_l3 M L hB hL L 0 M _ rfl hM (by simp; omega)]
  simp
/-! ### Resuming -/
theorem SlipResumes_true (c : Slip) (b : ByteArray) (x : Item) (hc : wf_Slip c) (hb : b.size ≤ 140737488351232) (hx : wf_Item x) : ∃ M, law29_SlipResumes M c b x = some true := by
  refine ⟨300000, ?_⟩
  simp only [law29_SlipResumes, b_law29_SlipResumes, encode_is 300000 (by omega), Option.bind_some, bne_if, awake_true 300000 (by omega)]
  by_cases he : (encS c [x]).2 = 0
  · rw [if_pos he]
    by_cases h1 : (b.size : Int) > 2000
    · rw [bif_pos h1]
    rw [bif_neg h1]
    have hs : OkC c ∧ errI c x = 0 ∧ (encS c [x]).1 = its x := by
      unfold encS at he ⊢
      by_cases q1 : OkC c
      · rw [if_pos q1] at he ⊢
        rw [if_neg (by simp)] at he ⊢
        by_cases q2 : firstE c [x] = 0
        · rw [if_pos q2] at he ⊢
          have q3 := firstE_ok c [x] q2 x (by simp)
          have hsa : sendAll [x] = its x := by simp [sendAll]
          rw [hsa] at he ⊢
          by_cases q4 : ((its x).length : Int) > 262144
          · rw [if_pos q4] at he; simp at he
          · rw [if_neg q4]; exact ⟨q1, q3, rfl⟩
        · rw [if_neg q2] at he; exact absurd he q2
      · rw [if_neg q1] at he; simp at he
    obtain ⟨k1, k2, k3⟩ := hs
    obtain ⟨g1, g2, g3, g4, g5, g6, g7, g8⟩ := err_ok k2
    have hw := wr_len x
    have hil := its_len x
    have hv : (its x).map (·.Value) = wr x := itsAt_vals _ _ _
    have hlb := ofBytes_length b
    rw [k3, sent_is 300000 (its x) (by rw [hv]; exact wr_bytes x) (by omega) (by omega), Option.bind_some, hv]
    have hz : (toBytes (wr x)).size = (wr x).length := toBytes_size _
    have hz2 := size_append b (toBytes (wr x))
    rw [bif_neg (by omega), bytes_is 300000 _ 0 (by omega) (by omega) (by omega) (by omega), Option.bind_some, ofBytes_append, ofBytes_toBytes (wr_bytes x)]
    have hev := evs_len (ofBytes b ++ wr x) 0
    rw [List.length_append] at hev
    rw [decode_is 300000 c _ (by omega) (by omega), Option.bind_some]
    have hr := run_at c k1 (ofBytes b) s0 0 s0_ph (by decide) (by omega) (by omega) (bytes_ofBytes b) (.inr fun hh => absurd rfl hh)
    rw [Int.zero_add, hlb] at hr
    have hph := runS_ph c (evs 0 (ofBytes b)) s0 s0_ph
    have hdec : ∃ o : List Event, decS c (evs 0 (ofBytes b ++ wr x)) = o ++ [Event.mk 6 ((b.size : Int) + 1) ((b.size : Int) + (wr x).length) 0 0 x.Data x.Fault] := by
      unfold decS
      rw [evs_append, hlb, Int.zero_add, runS_append]
      generalize runS c s0 (evs 0 (ofBytes b)) = q at *
      obtain ⟨o, m1, m2⟩ := st_close c k1 q.1 (b.size : Int) hph (by omega) (by omega) hr.1
      have hlw : ((wr x).length : Int) = (tl x).length + 1 := by simp [wr]
      have ht := tail_run c k1 x k2 ((b.size : Int) + 1) (b.size : Int) ((b.size : Int) + 1) (by omega) (by omega) (by omega)
      have hwx : wr x = 192 :: tl x := rfl
      rw [hlw, hwx]
      simp only [evs, runS, m1, ht]
      refine ⟨q.2 ++ o, ?_⟩
      rw [show (b.size : Int) + (((tl x).length : Int) + 1) = (b.size : Int) + 1 + (tl x).length by omega]
      unfold endS givenS
      simp
    obtain ⟨o, ho⟩ := hdec
    have holen : o.length ≤ 20000 := by
      have := dec_len c (evs 0 (ofBytes b ++ wr x))
      rw [ho, List.length_append] at this
      simp at this; omega
    rw [ho]
    have e1 : ((o ++ [Event.mk 6 ((b.size : Int) + 1) ((b.size : Int) + (wr x).length) 0 0 x.Data x.Fault]).length : Int) = o.length + 1 := by simp
    have e2 : (o ++ [Event.mk 6 ((b.size : Int) + 1) ((b.size : Int) + (wr x).length) 0 0 x.Data x.Fault]).getD ((o.length : Int)).toNat dflt_Event = Event.mk 6 ((b.size : Int) + 1) ((b.size : Int) + (wr x).length) 0 0 x.Data x.Fault := by
      rw [List.getD_eq_getElem?_getD]; simp
    simp only [e1, beq_if]
    rw [if_neg (by omega), show IntKind.i64.wrap ((o.length : Int) + 1 - 1) = (o.length : Int) by rw [i64_ok (by omega)]; omega, bif_pos (by omega), bif_pos (by omega), e2]
    rw [if_pos rfl, if_pos rfl, if_pos (by rw [i64_ok (by omega), its_len])]
    simp
  · rw [if_neg he]
/-! ### Round trips -/
def sumG : List Item → Int
  | [] => 0
  | x :: l => x.Gap + sumG l
theorem sumG_append : ∀ (l k : List Item), sumG (l ++ k) = sumG l + sumG k
  | [], k => by simp [sumG]
  | x :: l, k => by simp [sumG, sumG_append l k]; omega
theorem sumG_rest : ∀ (l : List Int) (k : Nat) (g : Int), sumG (itsAt (k + 1) g l) = 0
  | [], k, g => rfl
  | v :: l, k, g => by simp [itsAt, sumG, sumG_rest l]
theorem sumG_its (x : Item) : sumG (its x) = x.Gap := by
  show sumG (itsAt 0 x.Gap (192 :: tl x)) = x.Gap
  simp [itsAt, sumG, sumG_rest]
theorem sumG_all : ∀ (l : List Item), sumG (sendAll l) = sumG l
  | [] => rfl
  | x :: l => by rw [sendAll_cons, sumG_append, sumG_its, sumG_all l]; rfl
theorem sumG_bound : ∀ (l : List Item), (∀ x, x ∈ l → 0 ≤ x.Gap ∧ x.Gap ≤ 1048576) → 0 ≤ sumG l ∧ sumG l ≤ 1048576 * (l.length : Int)
  | [], _ => by simp [sumG]
  | x :: l, h => by
    have := sumG_bound l fun y hy => h y (by simp [hy])
    have := h x (by simp)
    simp only [sumG, List.length_cons, Int.natCast_add, Int.natCast_one]
    omega
theorem trips_l16 (l : List Item) (got : List Event) (g : Int) (hl : l.length ≤ 1024) (hgl : got.length = l.length) (hg : ∀ x, x ∈ l → 0 ≤ x.Gap ∧ x.Gap ≤ 1048576) : ∀ (r : List Item) (q : List Event) (i k : Nat) (w : Int), l.drop i = r → got.drop i = q → All2 Pk q r → r.length < k → 0 ≤ w → w ≤ 1048576 * (i : Int) → w + sumG r = g → law29_SlipRoundTrips_l16 300000 k g w (i : Int) l got = some true
  | r, q, i, 0, w, _, _, _, hk, _, _, _ => by omega
  | [], q, i, k + 1, w, hr, hq, _, hk, h0, hw, hs => by
    have := drop_nil hr
    simp only [sumG, Int.add_zero] at hs
    simp only [law29_SlipRoundTrips_l16, b_law29_SlipRoundTrips_l16, awake_true 300000 (by omega), Option.bind_some, beq_if]
    rw [bif_neg (by omega), if_pos hs.symm]
  | x :: r, q, i, k + 1, w, hr, hq, ha, hk, h0, hw, hs => by
    cases ha with
    | cons he hrest =>
      rename_i e q
      obtain ⟨h1, h2, h3, h4, h5⟩ := drop_cons hr dflt_Item
      obtain ⟨g1, g2, g3, g4, g5⟩ := drop_cons hq dflt_Event
      obtain ⟨e1, e2, e3, e4, e5, e6⟩ := he
      have hx := hg x h5
      simp only [List.length_cons] at hk
      simp only [sumG] at hs
      simp only [law29_SlipRoundTrips_l16, b_law29_SlipRoundTrips_l16, h1, g1, e1, e2, e3, e4, e5, beq_self_eq_true, bne_self_eq_false, Bool.not_true, Bool.cond_false]
      simp only [bif_pos (show (0 : Int) ≤ (i : Int) by omega), bif_pos (show (i : Int) < (l.length : Int) by omega), bif_pos (show (i : Int) < (got.length : Int) by omega), next_i i (by omega)]
      rw [bif_neg (by omega), i64_ok (by omega)]
      exact trips_l16 l got g hl hgl hg r q (i + 1) k _ h3 g3 hrest (by omega) (by omega) (by omega) (by omega)
theorem trips_l7 (c : Slip) (hc : OkC c) (l : List Item) (hl : l.length ≤ 1024) (he : ∀ x, x ∈ l → errI c x = 0) (hsz : ((sendAll l).length : Int) ≤ 262144) (hG : ∀ y, y ∈ sendAll l → 0 ≤ y.Gap ∧ y.Gap ≤ 1048576 ∧ 0 ≤ y.Value ∧ y.Value ≤ 255 ∧ y.Aux = 0 ∧ y.Data = bs [] ∧ y.Fault = 0) : ∀ (r : List Item) (i k : Nat) (g : Int), (sendAll l).drop i = r → r.length < k → 0 ≤ g → g ≤ 1048576 * (i : Int) → g + sumG r = sumG l → law29_SlipRoundTrips_l7 300000 k g 0 (i : Int) l c (sendAll l) = some true
  | r, i, 0, g, _, hk, _, _, _ => by omega
  | [], i, k + 1, g, hr, hk, h0, hg, hs => by
    have := drop_nil hr
    simp only [sumG, Int.add_zero] at hs
    have hv := sendAll_vals l
    have hvl : (l.flatMap wr).length = (sendAll l).length := by rw [← hv, List.length_map]
    have hB := flat_bytes l
    have hz := toBytes_size (l.flatMap wr)
    obtain ⟨a', p', k1, k2⟩ := all_run c hc l 0 0 0 he (by omega) (by omega) (by omega)
    have hdec : decS c (evs 0 (l.flatMap wr)) = (runS c s0 (evs 0 (l.flatMap wr))).2 := by
      unfold decS
      have : (runS c s0 (evs 0 (l.flatMap wr))).1 = frS a' p' := k1
      rw [this]
      unfold endS givenS
      simp
    have k2' : All2 Pk (runS c s0 (evs 0 (l.flatMap wr))).2 l := k2
    have hel := evs_len (l.flatMap wr) 0
    have hgb : ∀ x, x ∈ l → 0 ≤ x.Gap ∧ x.Gap ≤ 1048576 := fun x hx => by have := err_ok (he x hx); exact ⟨this.1, this.2.1⟩
    simp only [law29_SlipRoundTrips_l7, b_law29_SlipRoundTrips_l7]
    rw [bif_neg (by omega), sent_is 300000 (sendAll l) (by rw [hv]; exact hB) (by omega) (by omega), Option.bind_some, hv, bytes_is 300000 _ 0 (by omega) (by omega) (by omega) (by omega), Option.bind_some, ofBytes_toBytes hB, decode_is 300000 c _ (by omega) (by omega), Option.bind_some, hdec, bne_if, if_pos (by rw [k2'.len])]
    exact trips_l16 l _ g hl k2'.len hgb l _ 0 300000 0 rfl rfl k2' (by omega) (by omega) (by omega) (by omega)
  | y :: r, i, k + 1, g, hr, hk, h0, hg, hs => by
    obtain ⟨h1, h2, h3, h4, h5⟩ := drop_cons hr dflt_Item
    obtain ⟨y1, y2, y3, y4, y5, y6, y7⟩ := hG y h5
    simp only [List.length_cons] at hk
    simp only [sumG] at hs
    have hi : (i : Int) < ((sendAll l).length : Int) := by omega
    simp only [law29_SlipRoundTrips_l7, b_law29_SlipRoundTrips_l7, h1, y5, y6, y7, beq_self_eq_true, bne_self_eq_false, Bool.not_true, Bool.cond_false]
    simp only [bif_pos (show (0 : Int) ≤ (i : Int) by omega), bif_pos hi, next_i i (by omega)]
    rw [bif_neg (by omega), bif_neg (by omega), i64_ok (by omega)]
    exact trips_l7 c hc l hl he hsz hG r (i + 1) k _ h3 (by omega) (by omega) (by omega) (by omega)
theorem its_shape (g : Int) (hg : 0 ≤ g ∧ g ≤ 1048576) : ∀ (l : List Int) (k : Nat), Bytes l → ∀ y, y ∈ itsAt k g l → 0 ≤ y.Gap ∧ y.Gap ≤ 1048576 ∧ 0 ≤ y.Value ∧ y.Value ≤ 255 ∧ y.Aux = 0 ∧ y.Data = bs [] ∧ y.Fault = 0
  | [], k, _, y, hy => by cases hy
  | v :: l, k, hB, y, hy => by
    have hv := hB v (by simp)
    rcases List.mem_cons.1 hy with rfl | hy
    · refine ⟨?_, ?_, hv.1, hv.2, rfl, rfl, rfl⟩
      · dsimp only; split <;> omega
      · dsimp only; split <;> omega
    · exact its_shape g hg l (k + 1) (fun z hz => hB z (by simp [hz])) y hy
theorem SlipRoundTrips_true (c : Slip) (l : List Item) (hc : wf_Slip c) (hl : (∀ x, x ∈ l → wf_Item x) ∧ l.length * Try.prog.bytesOf 46 ≤ 140737488351232) : ∃ M, law29_SlipRoundTrips M c l = some true := by
  refine ⟨300000, ?_⟩
  simp only [law29_SlipRoundTrips, b_law29_SlipRoundTrips, encode_is 300000 (by omega), Option.bind_some, bne_if, awake_true 300000 (by omega)]
  by_cases he : (encS c l).2 = 0
  · rw [if_pos he]
    have hs : OkC c ∧ l.length ≤ 1024 ∧ firstE c l = 0 ∧ ((sendAll l).length : Int) ≤ 262144 ∧ (encS c l).1 = sendAll l := by
      unfold encS at he ⊢
      by_cases q1 : OkC c
      · rw [if_pos q1] at he ⊢
        by_cases q0 : (l.length : Int) > 1024
        · rw [if_pos q0] at he; simp at he
        rw [if_neg q0] at he ⊢
        by_cases q2 : firstE c l = 0
        · rw [if_pos q2] at he ⊢
          by_cases q4 : ((sendAll l).length : Int) > 262144
          · rw [if_pos q4] at he; simp at he
          · rw [if_neg q4]; exact ⟨q1, by omega, q2, by omega, rfl⟩
        · rw [if_neg q2] at he; exact absurd he q2
      · rw [if_neg q1] at he; simp at he
    obtain ⟨k1, k2, k3, k4, k5⟩ := hs
    rw [k5]
    have hok := firstE_ok c l k3
    refine trips_l7 c k1 l k2 hok k4 ?_ (sendAll l) 0 300000 0 rfl (by omega) (by omega) (by omega) (by rw [sumG_all]; omega)
    intro y hy
    obtain ⟨x, hx, hy⟩ := List.mem_flatMap.1 hy
    have := err_ok (hok x hx)
    exact its_shape x.Gap ⟨this.1, this.2.1⟩ (wr x) 0 (wr_bytes x) y hy
  · rw [if_neg he]
    have : (encS c l).1 = [] := by
      unfold encS at he ⊢
      repeat' split
      all_goals first | rfl | skip
      rename_i q1 q2 q3 q4
      rw [if_pos q1, if_neg q2, if_pos q3, if_neg q4] at he
      exact absurd rfl he
    rw [this]
    rfl
end Go.Abs.K
