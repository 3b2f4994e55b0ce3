/- LIN: two frames one after the other; a changed bit is noticed. -/
import Derived.Test.YtohpkolbocmbbaaP5
set_option linter.unusedVariables false
set_option linter.unusedSimpArgs false
namespace Go.Abs.K
open Go Go.Abs Go.Proofs

abbrev brk : Item := Item.mk 0 0 1 (bs []) 0
theorem run_one (c : Lin) (s : State) (a : ByteArray) (at_ : Int) (hs : s.At ≤ at_) (h0 : 0 ≤ at_) (ha : a.size ≤ 4096) (hb : at_ + 1 + (a.size : Int) ≤ 1099511627776) :
    ∃ a', runA c s (evsA 1 at_ (brk :: (ofBytes a).map itm)) = (State.mk 1 a' at_ a.size 0 (at_ + 1 + (a.size : Int)) 0 a, compA c s) ∧ a' ≤ at_ + 1 + (a.size : Int) := by
  have hl := ofBytes_length a
  obtain ⟨a', D, e1, e2, e3⟩ := run_frame c 1 (by omega) s (ofBytes a) at_ 0 (fun v hv => bytes_ofBytes a v hv) (by omega) (by omega) h0 (by omega) (by omega)
  have hD : D = a := ofBytes_inj e2
  subst hD
  rw [hl, Int.one_mul, Int.add_zero] at e1 e3
  exact ⟨a', e1, e3⟩
theorem dec_one (c : Lin) (a : ByteArray) (ha : a.size ≤ 4096) : decA c (evsA 1 0 (brk :: (ofBytes a).map itm)) = [frameA c 0 (0 + 1 + (a.size : Int)) a] := by
  obtain ⟨a', e1, e2⟩ := run_one c s0 a 0 (by decide) (by omega) ha (by omega)
  unfold decA
  rw [e1]
  rfl
theorem dec_two (c : Lin) (a b : ByteArray) (ha : a.size ≤ 4096) (hb : b.size ≤ 4096) : decA c (evsA 1 0 ((brk :: (ofBytes a).map itm) ++ (brk :: (ofBytes b).map itm))) = [frameA c 0 (0 + 1 + (a.size : Int)) a, frameA c (0 + 1 + (a.size : Int)) (0 + 1 + (a.size : Int) + 1 + (b.size : Int)) b] := by
  have hto : toA 1 0 (brk :: (ofBytes a).map itm) = 0 + 1 + (a.size : Int) := by
    rw [toA, to_bytes, ofBytes_length, Int.one_mul]
    simp
  rw [evsA_append, hto]
  unfold decA
  rw [runA_append]
  obtain ⟨a', e1, e2⟩ := run_one c s0 a 0 (by decide) (by omega) ha (by omega)
  rw [e1]
  obtain ⟨b', f1, f2⟩ := run_one c (State.mk 1 a' 0 a.size 0 (0 + 1 + (a.size : Int)) 0 a) b (0 + 1 + (a.size : Int)) e2 (by omega) hb (by omega)
  rw [f1]
  rfl
theorem frame_fields (c : Lin) (f t f' t' : Int) (d : ByteArray) : frameA c f t d = { frameA c f' t' d with From := f, To := t } := by
  unfold frameA
  split <;> rfl
theorem frame_from (c : Lin) (f t : Int) (d : ByteArray) : (frameA c f t d).From = f ∧ (frameA c f t d).To = t := by
  unfold frameA
  split <;> exact ⟨rfl, rfl⟩
theorem brk_gaps (vs : List Int) : ∀ x, x ∈ brk :: vs.map itm → 0 ≤ x.Gap ∧ x.Gap ≤ 1048576 := by
  intro x hx
  rcases List.mem_cons.1 hx with rfl | hx
  · exact ⟨Int.le_refl 0, show (0 : Int) ≤ 1048576 by omega⟩
  · obtain ⟨v, _, rfl⟩ := List.mem_map.1 hx
    exact ⟨Int.le_refl 0, show (0 : Int) ≤ 1048576 by omega⟩
theorem sep_l11 (c : Lin) (a b : ByteArray) (ha : a.size ≤ 2000) (hb : b.size ≤ 2000) : ∀ (r : List Int) (i m : Nat) (y : List Item), (ofBytes b).drop i = r → r.length < m → y.length + r.length ≤ 5000 → y ++ r.map itm = brk :: (ofBytes b).map itm → law27_LinSeparates_l11 20000 m b (i : Int) c (brk :: (ofBytes a).map itm) y = some true
  | r, i, 0, y, _, hm, _, _ => by omega
  | [], i, m + 1, y, hr, hm, ho, hy => by
    have h0 := drop_nil hr
    have la := ofBytes_length a
    have lb := ofBytes_length b
    rw [lb] at h0
    simp only [List.map_nil, List.append_nil] at hy
    subst hy
    have g1 := brk_gaps (ofBytes a)
    have g2 := brk_gaps (ofBytes b)
    have e1 := events_is 20000 1 (by omega) (brk :: (ofBytes a).map itm) (by simp; omega) (by simp; omega) g1
    have e2 := events_is 20000 1 (by omega) (brk :: (ofBytes b).map itm) (by simp; omega) (by simp; omega) g2
    have e3 := events_is 20000 1 (by omega) ([] ++ (brk :: (ofBytes a).map itm) ++ (brk :: (ofBytes b).map itm)) (by simp; omega) (by simp; omega) (fun x hx => by
      rw [List.nil_append] at hx
      rcases List.mem_append.1 hx with hx | hx
      · exact g1 x hx
      · exact g2 x hx)
    have l1 := evsA_len 1 (brk :: (ofBytes a).map itm) 0
    have l2 := evsA_len 1 (brk :: (ofBytes b).map itm) 0
    have l3 := evsA_len 1 ([] ++ (brk :: (ofBytes a).map itm) ++ (brk :: (ofBytes b).map itm)) 0
    have k1 : (brk :: (ofBytes a).map itm).length = a.size + 1 := by simp [la]
    have k2 : (brk :: (ofBytes b).map itm).length = b.size + 1 := by simp [lb]
    have k3 : ([] ++ (brk :: (ofBytes a).map itm) ++ (brk :: (ofBytes b).map itm)).length = a.size + 1 + (b.size + 1) := by rw [List.nil_append, List.length_append, k1, k2]
    have k4 : ([] ++ (brk :: (ofBytes a).map itm)).length = a.size + 1 := by rw [List.nil_append, k1]
    have d1 := decode_is 20000 (by omega) c (evsA 1 0 (brk :: (ofBytes a).map itm)) (by omega) (by omega)
    have d2 := decode_is 20000 (by omega) c (evsA 1 0 (brk :: (ofBytes b).map itm)) (by omega) (by omega)
    have d3 := decode_is 20000 (by omega) c (evsA 1 0 ([] ++ (brk :: (ofBytes a).map itm) ++ (brk :: (ofBytes b).map itm))) (by omega) (by omega)
    rw [dec_one c a (by omega)] at d1
    rw [dec_one c b (by omega)] at d2
    rw [show decA c (evsA 1 0 ([] ++ (brk :: (ofBytes a).map itm) ++ (brk :: (ofBytes b).map itm))) = _ from dec_two c a b (by omega) (by omega)] at d3
    simp only [law27_LinSeparates_l11, b_law27_LinSeparates_l11]
    rw [bif_neg (by omega), e1, Option.bind_some, d1, Option.bind_some, e2, Option.bind_some, d2, Option.bind_some, bif_pos (by rw [k1]; omega), bif_pos (by rw [k4, k2]; omega), e3, Option.bind_some, d3, Option.bind_some, k1]
    have ff := frame_fields c (0 + 1 + (a.size : Int)) (0 + 1 + (a.size : Int) + 1 + (b.size : Int)) 0 (0 + 1 + (b.size : Int)) b
    have ft := frame_from c 0 (0 + 1 + (b.size : Int)) b
    rw [ff]
    generalize frameA c 0 (0 + 1 + (b.size : Int)) b = q at *
    generalize frameA c 0 (0 + 1 + (a.size : Int)) a = p at *
    have w1 : IntKind.i64.wrap (q.From + ((a.size + 1 : Nat) : Int)) = 0 + 1 + (a.size : Int) := by rw [ft.1, i64_ok (by omega)]; omega
    have w2 : IntKind.i64.wrap (q.To + ((a.size + 1 : Nat) : Int)) = 0 + 1 + (a.size : Int) + 1 + (b.size : Int) := by rw [ft.2, i64_ok (by omega)]; omega
    simp only [List.getD_cons_zero, List.getD_cons_succ, List.length_cons, List.length_nil, w1, w2, beq_self_eq_true, bytes_beq_self, Bool.and_self, Bool.not_true, Bool.cond_false]
    rfl
  | v :: r, i, m + 1, y, hr, hm, ho, hy => by
    obtain ⟨h1, h2, h3, h4, h5⟩ := drop_cons hr 0
    rw [ofBytes_length] at h2 h4
    have hb' := byteAt_range b i
    simp only [List.length_cons] at hm ho
    simp only [law27_LinSeparates_l11, b_law27_LinSeparates_l11]
    rw [bif_pos (by omega), bif_pos (by omega), bif_pos (by omega), bif_pos (by omega), next_i i (by omega), i64_ok (n := byteAt b i) (by omega), byteAt_eq, h1]
    exact sep_l11 c a b ha hb r (i + 1) m _ h3 (by omega) (by simp; omega) (by rw [← hy]; simp)
theorem sep_l7 (c : Lin) (a b : ByteArray) (ha : a.size ≤ 2000) (hb : b.size ≤ 2000) : ∀ (r : List Int) (i m : Nat) (x : List Item), (ofBytes a).drop i = r → r.length < m → x.length + r.length ≤ 5000 → x ++ r.map itm = brk :: (ofBytes a).map itm → law27_LinSeparates_l7 20000 m a b (i : Int) c x [brk] = some true
  | r, i, 0, x, _, hm, _, _ => by omega
  | [], i, m + 1, x, hr, hm, ho, hx => by
    have h0 := drop_nil hr
    have lb := ofBytes_length b
    rw [ofBytes_length] at h0
    simp only [List.map_nil, List.append_nil] at hx
    subst hx
    simp only [law27_LinSeparates_l7, b_law27_LinSeparates_l7]
    rw [bif_neg (by omega)]
    exact sep_l11 c a b ha hb (ofBytes b) 0 20000 [brk] rfl (by omega) (by simp; omega) rfl
  | v :: r, i, m + 1, x, hr, hm, ho, hx => by
    obtain ⟨h1, h2, h3, h4, h5⟩ := drop_cons hr 0
    rw [ofBytes_length] at h2 h4
    have hb' := byteAt_range a i
    simp only [List.length_cons] at hm ho
    simp only [law27_LinSeparates_l7, b_law27_LinSeparates_l7]
    rw [bif_pos (by omega), bif_pos (by omega), bif_pos (by omega), bif_pos (by omega), next_i i (by omega), i64_ok (n := byteAt a i) (by omega), byteAt_eq, h1]
    exact sep_l7 c a b ha hb r (i + 1) m _ h3 (by omega) (by simp; omega) (by rw [← hx]; simp)
theorem LinSeparates_true (c : Lin) (a b : ByteArray) (hc : wf_Lin c) (ha : a.size ≤ 140737488351232) (hb : b.size ≤ 140737488351232) : ∃ M, law27_LinSeparates M c a b = some true := by
  refine ⟨20000, ?_⟩
  simp only [law27_LinSeparates, b_law27_LinSeparates, lives_true 20000 (by omega), Option.bind_some, Bool.not_true, Bool.cond_false, bif_if]
  by_cases h1 : (a.size : Int) > 2000
  · rw [if_pos h1]
  rw [if_neg h1]
  by_cases h2 : (b.size : Int) > 2000
  · rw [if_pos h2]
  rw [if_neg h2]
  have la := ofBytes_length a
  exact sep_l7 c a b (by omega) (by omega) (ofBytes a) 0 20000 [brk] rfl (by omega) (by simp; omega) rfl
end Go.Abs.K
