/- PAIR: what is encoded is decoded; PairRoundTrips. -/
import Derived.Test.YtcagcnlddcloiaaP8
set_option linter.unusedVariables false
set_option linter.unusedSimpArgs false
namespace Go.Abs.K
open Go Go.Abs Go.Proofs

def pkts (tk : Int) : Int → List Item → List Event
  | _, [] => []
  | a, x :: r => Event.mk 6 (a + x.Gap) (a + x.Gap + tk) 0 0 x.Data 0 :: pkts tk (a + x.Gap + tk) r
structure Room (a : Int) (n : Nat) : Prop where
  h : a + 1050000 * (n : Int) ≤ 1099511627776
theorem packets_l (M : Nat) (tk : Int) (t0 : 1 ≤ tk) (t1 : tk ≤ 1000) (t : List Item) (ht : t.length ≤ 10000) (hg : ∀ x, x ∈ t → 0 ≤ x.Gap ∧ x.Gap ≤ 1048576) : ∀ (r : List Item) (i m : Nat) (a : Int) (out : List Event), t.drop i = r → r.length < m → 0 ≤ a → Room a r.length → out.length + r.length ≤ 100000 →
    law33_packets_l4 M m tk a (i : Int) t out = some (out ++ pkts tk a r)
  | r, i, 0, a, out, _, hm, _, _, _ => by omega
  | [], i, m + 1, a, out, h, hm, h0, hr, hb => by
    have := drop_nil h
    simp only [law33_packets_l4, b_law33_packets_l4]
    rw [bif_neg (by omega)]
    simp [pkts]
  | x :: r, i, m + 1, a, out, h, hm, h0, hr, hb => by
    obtain ⟨h1, h2, h3, h4, h5⟩ := drop_cons h dflt_Item
    obtain ⟨g0, g1⟩ := hg x h5
    have hr := hr.h
    simp only [List.length_cons] at hm hb hr
    simp only [law33_packets_l4, b_law33_packets_l4, h1]
    rw [bif_pos (by omega), bif_pos (by omega), bif_pos (by omega), bif_pos (by omega), bif_pos (by omega), bif_pos (by omega), next_i i (by omega), i64_ok (n := a + x.Gap) (by omega), i64_ok (n := a + x.Gap + tk) (by omega)]
    rw [packets_l M tk t0 t1 t ht hg r (i + 1) m _ _ h3 (by omega) (by omega) ⟨by omega⟩ (by simp only [List.length_append, List.length_cons, List.length_nil]; omega)]
    simp [pkts]
def blk : List Item → List Item
  | [] => []
  | x :: r => one x ++ blk r
theorem encl_ok : ∀ {l : List Item}, (encl l).1 = 0 → (∀ x, x ∈ l → Okx x) ∧ (encl l).2 = blk l
  | [], _ => ⟨(fun x hx => nomatch hx), rfl⟩
  | x :: r, h => by
    rw [encl] at h ⊢
    by_cases hc : chk x = 0
    · rw [if_pos hc] at h ⊢
      by_cases he : (encl r).1 = 0
      · rw [if_pos he]
        obtain ⟨h1, h2⟩ := encl_ok he
        refine ⟨fun y hy => ?_, by rw [h2]; rfl⟩
        rcases List.mem_cons.1 hy with rfl | hy
        · exact chk_ok hc
        · exact h1 y hy
      · rw [if_neg he] at h
        exact absurd h he
    · rw [if_neg hc] at h
      exact absurd h hc
theorem blk_gaps : ∀ {l : List Item}, (∀ x, x ∈ l → Okx x) → ∀ y, y ∈ blk l → 0 ≤ y.Gap ∧ y.Gap ≤ 1048576
  | x :: r, h, y, hy => by
    rcases List.mem_append.1 hy with hy | hy
    · obtain ⟨g0, g1, _⟩ := h x (.head _)
      unfold one at hy
      split at hy
      · simp only [List.mem_singleton] at hy; subst hy; exact ⟨g0, g1⟩
      · split at hy
        · simp only [List.mem_cons, List.not_mem_nil, or_false] at hy
          rcases hy with rfl | rfl | rfl
          · exact ⟨g0, g1⟩
          · exact ⟨by simp [askI], by simp [askI]⟩
          · exact ⟨by simp [ansI], by simp [ansI]⟩
        · simp only [List.mem_cons, List.not_mem_nil, or_false] at hy
          rcases hy with rfl | rfl
          · exact ⟨g0, g1⟩
          · exact ⟨by simp [ansI], by simp [ansI]⟩
    · exact blk_gaps (fun z hz => h z (.tail _ hz)) y hy
abbrev TT : Int := 1099511627776
def askE (a tk v : Int) : Event := Event.mk 6 a (a + tk) 0 0 (toBytes [v]) 0
def ansE (a tk v : Int) (d : ByteArray) : Event := Event.mk 6 a (a + tk) 0 0 (toBytes [128 + v] ++ d) 0
section
variable {a tk v f t p q : Int} {d : ByteArray}
theorem ask_bytes (v0 : 0 ≤ v) (v1 : v ≤ 127) : ofBytes (askE a tk v).Data = v :: [] := ofBytes_toBytes (fun x hx => by simp only [List.mem_singleton] at hx; omega)
theorem ans_bytes (v0 : 0 ≤ v) (v1 : v ≤ 127) : ofBytes (ansE a tk v d).Data = (128 + v) :: ofBytes d := by
  show ofBytes (toBytes [128 + v] ++ d) = _
  rw [ofBytes_append, ofBytes_toBytes (fun x hx => by simp only [List.mem_singleton] at hx; omega)]
  rfl
theorem ans_body (v0 : 0 ≤ v) (v1 : v ≤ 127) : body (ansE a tk v d) = d := ofBytes_inj (body_of (ans_bytes v0 v1))
theorem ask_vld (a0 : 0 ≤ a) (t0 : 0 ≤ tk) (h : a + tk ≤ TT) : Vld (askE a tk v) := by
  unfold Vld askE
  rw [toBytes_size]
  unfold TT at h
  simp only [List.length_cons, List.length_nil]
  omega
theorem ans_vld (a0 : 0 ≤ a) (t0 : 0 ≤ tk) (h : a + tk ≤ TT) (hd : d.size ≤ 4095) : Vld (ansE a tk v d) := by
  unfold Vld ansE
  rw [size_append, toBytes_size]
  unfold TT at h
  simp only [List.length_cons, List.length_nil]
  omega
theorem kp_one (h : a - q ≤ TT) : kp TT a [⟨v, p, q⟩] = [⟨v, p, q⟩] ∧ exp TT a [⟨v, p, q⟩] = [] := by
  constructor
  · rw [kp, if_neg (by dsimp only; omega)]; rfl
  · rw [exp, if_neg (by dsimp only; omega)]; rfl
theorem find_one : find v [⟨v, p, q⟩] = some ⟨v, p, q⟩ ∧ rest v [⟨v, p, q⟩] = [] := ⟨by rw [find, if_pos rfl], by rw [rest, if_pos rfl]; rfl⟩
theorem L1 (a0 : 0 ≤ a) (t0 : 0 ≤ tk) (h : a + tk ≤ TT) (v0 : 0 ≤ v) (v1 : v ≤ 127) (hf : f ≤ a) : stp TT ⟨f, t, []⟩ (askE a tk v) = (⟨a, a + tk, [⟨v, a, a + tk⟩]⟩, []) := by
  rw [stp_packet rfl (ask_vld a0 t0 h) hf rfl]
  have : kp TT (askE a tk v).From (S33.mk f t []).l = [] := rfl
  rw [this, pk_req (ask_bytes v0 v1) v0 (by omega)]
  rfl
theorem L2 (a0 : 0 ≤ a) (t0 : 0 ≤ tk) (h : a + tk ≤ TT) (v0 : 0 ≤ v) (v1 : v ≤ 127) (hf : f ≤ a) (hq : a - q ≤ TT) : stp TT ⟨f, t, [⟨v, p, q⟩]⟩ (askE a tk v) = (⟨a, a + tk, [⟨v, a, a + tk⟩]⟩, [gv ⟨v, p, q⟩ a 7]) := by
  rw [stp_packet rfl (ask_vld a0 t0 h) hf rfl]
  have h1 := kp_one (v := v) (p := p) hq
  have e1 : (askE a tk v).From = a := rfl
  have e2 : (askE a tk v).To = a + tk := rfl
  dsimp only
  rw [e1, h1.1, h1.2, pk_req (ask_bytes v0 v1) v0 (by omega), find_one.1]
  dsimp only
  rw [find_one.2, e1, e2]
  rfl
theorem L3 (a0 : 0 ≤ a) (t0 : 0 ≤ tk) (h : a + tk ≤ TT) (v0 : 0 ≤ v) (v1 : v ≤ 127) (hf : f ≤ a) (hq : a - q ≤ TT) (hd : d.size ≤ 4095) : ∃ u w, stp TT ⟨f, t, [⟨v, p, q⟩]⟩ (ansE a tk v d) = (⟨a, a + tk, []⟩, [Event.mk 8 p u v w d 0]) := by
  rw [stp_packet rfl (ans_vld a0 t0 h hd) hf rfl]
  have h1 := kp_one (v := v) (p := p) hq
  have e1 : (ansE a tk v d).From = a := rfl
  have e2 : (ansE a tk v d).To = a + tk := rfl
  dsimp only
  rw [e1, h1.1, h1.2, pk_ans (ans_bytes v0 v1) v0 (by omega), find_one.1]
  dsimp only
  rw [find_one.2, ans_body v0 v1, e1, e2]
  exact ⟨_, _, rfl⟩
theorem L4 (a0 : 0 ≤ a) (t0 : 0 ≤ tk) (h : a + tk ≤ TT) (v0 : 0 ≤ v) (v1 : v ≤ 127) (hf : f ≤ a) (hd : d.size ≤ 4095) : stp TT ⟨f, t, []⟩ (ansE a tk v d) = (⟨a, a + tk, []⟩, [Event.mk 8 a (a + tk) v 0 d 12]) := by
  rw [stp_packet rfl (ans_vld a0 t0 h hd) hf rfl]
  have : kp TT (ansE a tk v d).From (S33.mk f t []).l = [] := rfl
  rw [this, pk_ans (ans_bytes v0 v1) v0 (by omega), ans_body v0 v1]
  rfl
end
structure Is (e : Event) (f v : Int) (d : ByteArray) : Prop where
  f : e.Fault = f
  v : e.Value = v
  d : e.Data = d
def Good : List Item → List Event → Prop
  | [], evs => evs = []
  | x :: r, evs => if x.Fault = 7 then ∃ e1 e2 z, evs = e1 :: e2 :: z ∧ Is e1 7 x.Value (bs []) ∧ Is e2 0 x.Value x.Data ∧ Good r z else ∃ e z, evs = e :: z ∧ Is e x.Fault x.Value x.Data ∧ Good r z
theorem good7 {x : Item} {r : List Item} {e1 e2 : Event} {z : List Event} (h : x.Fault = 7) (h1 : Is e1 7 x.Value (bs [])) (h2 : Is e2 0 x.Value x.Data) (h3 : Good r z) : Good (x :: r) (e1 :: e2 :: z) := by
  rw [Good, if_pos h]
  exact ⟨e1, e2, z, rfl, h1, h2, h3⟩
theorem goodn {x : Item} {r : List Item} {e : Event} {z : List Event} (h : ¬ x.Fault = 7) (h1 : Is e x.Fault x.Value x.Data) (h3 : Good r z) : Good (x :: r) (e :: z) := by
  rw [Good, if_neg h]
  exact ⟨e, z, rfl, h1, h3⟩
theorem pkts_app (tk : Int) : ∀ (l r : List Item) (a : Int), ∃ b, pkts tk a (l ++ r) = pkts tk a l ++ pkts tk b r
  | [], r, a => ⟨a, rfl⟩
  | x :: l, r, a => by
    obtain ⟨b, h⟩ := pkts_app tk l r (a + x.Gap + tk)
    exact ⟨b, by rw [List.cons_append, pkts, h]; rfl⟩
theorem run_cons (T : Int) (s : S33) (e : Event) (r : List Event) : run T s (e :: r) = ((run T (stp T s e).1 r).1, (stp T s e).2 ++ (run T (stp T s e).1 r).2) := rfl
theorem trip (tk : Int) (t0 : 1 ≤ tk) (t1 : tk ≤ 1000) : ∀ (l : List Item) (f t a : Int), (∀ x, x ∈ l → Okx x) → f ≤ a → 0 ≤ a → Room a (3 * l.length) → ∃ s evs, run TT ⟨f, t, []⟩ (pkts tk a (blk l)) = (s, evs) ∧ s.l = [] ∧ Good l evs
  | [], f, t, a, _, _, _, _ => ⟨_, _, rfl, rfl, rfl⟩
  | x :: r, f, t, a, hx, hf, ha, hR => by
    obtain ⟨g0, g1, hd, v0, v1, fl, ax⟩ := hx x (.head _)
    have hR := hR.h
    simp only [List.length_cons] at hR
    have ih := fun f t a => trip tk t0 t1 r f t a (fun y hy => hx y (.tail _ hy))
    have hT : TT = 1099511627776 := rfl
    rw [blk]
    unfold one
    rcases fl with fl | fl | fl
    · rw [if_neg (by omega), if_neg (by omega)]
      simp only [List.cons_append, List.nil_append, pkts, askI, ansI, Int.add_zero]
      have e1 : Event.mk 6 (a + x.Gap) (a + x.Gap + tk) 0 0 (toBytes [x.Value]) 0 = askE (a + x.Gap) tk x.Value := rfl
      have e2 : Event.mk 6 (a + x.Gap + tk) (a + x.Gap + tk + tk) 0 0 (toBytes [128 + x.Value] ++ x.Data) 0 = ansE (a + x.Gap + tk) tk x.Value x.Data := rfl
      rw [e1, e2, run_cons, L1 (by omega) (by omega) (by omega) v0 v1 (by omega)]
      dsimp only
      obtain ⟨u, w, hu⟩ := L3 (a := a + x.Gap + tk) (tk := tk) (v := x.Value) (f := a + x.Gap) (t := a + x.Gap + tk) (p := a + x.Gap) (q := a + x.Gap + tk) (d := x.Data) (by omega) (by omega) (by omega) v0 v1 (by omega) (by omega) hd
      rw [run_cons, hu]
      dsimp only
      obtain ⟨s, evs, h1, h2, h3⟩ := ih (a + x.Gap + tk) (a + x.Gap + tk + tk) (a + x.Gap + tk + tk) (by omega) (by omega) ⟨by omega⟩
      rw [h1]
      exact ⟨s, _, rfl, h2, goodn (by omega) ⟨fl.symm, rfl, rfl⟩ h3⟩
    · rw [if_pos fl]
      simp only [List.cons_append, List.nil_append, pkts, askI, ansI, Int.add_zero]
      have e2 : Event.mk 6 (a + x.Gap) (a + x.Gap + tk) 0 0 (toBytes [128 + x.Value] ++ x.Data) 0 = ansE (a + x.Gap) tk x.Value x.Data := rfl
      rw [e2, run_cons, L4 (by omega) (by omega) (by omega) v0 v1 (by omega) hd]
      dsimp only
      obtain ⟨s, evs, h1, h2, h3⟩ := ih (a + x.Gap) (a + x.Gap + tk) (a + x.Gap + tk) (by omega) (by omega) ⟨by omega⟩
      rw [h1]
      exact ⟨s, _, rfl, h2, goodn (by omega) ⟨fl.symm, rfl, rfl⟩ h3⟩
    · rw [if_neg (by omega), if_pos fl]
      simp only [List.cons_append, List.nil_append, pkts, askI, ansI, Int.add_zero]
      have e1 : Event.mk 6 (a + x.Gap) (a + x.Gap + tk) 0 0 (toBytes [x.Value]) 0 = askE (a + x.Gap) tk x.Value := rfl
      have e1' : Event.mk 6 (a + x.Gap + tk) (a + x.Gap + tk + tk) 0 0 (toBytes [x.Value]) 0 = askE (a + x.Gap + tk) tk x.Value := rfl
      have e2 : Event.mk 6 (a + x.Gap + tk + tk) (a + x.Gap + tk + tk + tk) 0 0 (toBytes [128 + x.Value] ++ x.Data) 0 = ansE (a + x.Gap + tk + tk) tk x.Value x.Data := rfl
      rw [e1, e1', e2, run_cons, L1 (by omega) (by omega) (by omega) v0 v1 (by omega)]
      dsimp only
      rw [run_cons, L2 (by omega) (by omega) (by omega) v0 v1 (by omega) (by omega)]
      dsimp only
      obtain ⟨u, w, hu⟩ := L3 (a := a + x.Gap + tk + tk) (tk := tk) (v := x.Value) (f := a + x.Gap + tk) (t := a + x.Gap + tk + tk) (p := a + x.Gap + tk) (q := a + x.Gap + tk + tk) (d := x.Data) (by omega) (by omega) (by omega) v0 v1 (by omega) (by omega) hd
      rw [run_cons, hu]
      dsimp only
      obtain ⟨s, evs, h1, h2, h3⟩ := ih (a + x.Gap + tk + tk) (a + x.Gap + tk + tk + tk) (a + x.Gap + tk + tk + tk) (by omega) (by omega) ⟨by omega⟩
      rw [h1]
      exact ⟨s, _, rfl, h2, good7 fl ⟨rfl, rfl, rfl⟩ ⟨rfl, rfl, rfl⟩ h3⟩
end Go.Abs.K
