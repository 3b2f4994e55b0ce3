/- LIN: a changed bit is noticed. -/
import Derived.Test.YtohpkolbocmbbaaP6
set_option linter.unusedVariables false
set_option linter.unusedSimpArgs false
namespace Go.Abs.K
open Go Go.Abs Go.Proofs

noncomputable def xorb (v : Int) (k : Int) : Int := IntKind.i64.wrap (((BitVec.ofInt 64 v ^^^ BitVec.ofInt 64 (IntKind.i64.wrap (1 * 2 ^ min k.toNat 64))).toNat : Int))
theorem xorb_all : (List.range 256).all (fun n => (List.range 8).all (fun k => decide (0 ≤ xorb (n : Int) (k : Int)) && (decide (xorb (n : Int) (k : Int) ≤ 255) && decide (xorb (n : Int) (k : Int) = (n : Int) + 2 ^ k ∨ xorb (n : Int) (k : Int) = (n : Int) - 2 ^ k)))) = true := by kernel_rfl
theorem xorb_prot : (List.range 64).all (fun n => (List.range 8).all (fun k => decide (xorb (protA (n : Int)) (k : Int) ≠ protA (xorb (protA (n : Int)) (k : Int) % 64)))) = true := by kernel_rfl
theorem xorb_facts (v k : Int) (hv : 0 ≤ v ∧ v ≤ 255) (hk : 0 ≤ k ∧ k ≤ 7) : 0 ≤ xorb v k ∧ xorb v k ≤ 255 ∧ ∃ p : Int, 1 ≤ p ∧ p ≤ 128 ∧ (xorb v k = v + p ∨ xorb v k = v - p) := by
  obtain ⟨n, rfl⟩ := Int.eq_ofNat_of_zero_le hv.1
  obtain ⟨j, rfl⟩ := Int.eq_ofNat_of_zero_le hk.1
  have := List.all_eq_true.1 (List.all_eq_true.1 xorb_all n (List.mem_range.2 (by omega))) j (List.mem_range.2 (by omega))
  simp only [Bool.and_eq_true, decide_eq_true_eq] at this
  have hj : j = 0 ∨ j = 1 ∨ j = 2 ∨ j = 3 ∨ j = 4 ∨ j = 5 ∨ j = 6 ∨ j = 7 := by omega
  have hp : (1 : Int) ≤ 2 ^ j ∧ (2 : Int) ^ j ≤ 128 := by
    rcases hj with rfl | rfl | rfl | rfl | rfl | rfl | rfl | rfl <;> decide
  exact ⟨this.1, this.2.1, 2 ^ j, hp.1, hp.2, this.2.2⟩
theorem xorb_pid (x k : Int) (h : 0 ≤ x ∧ x < 64) (hk : 0 ≤ k ∧ k ≤ 7) : xorb (protA x) k ≠ protA (xorb (protA x) k % 64) := by
  obtain ⟨n, rfl⟩ := Int.eq_ofNat_of_zero_le h.1
  obtain ⟨j, rfl⟩ := Int.eq_ofNat_of_zero_le hk.1
  have := List.all_eq_true.1 (List.all_eq_true.1 xorb_prot n (List.mem_range.2 (by omega))) j (List.mem_range.2 (by omega))
  exact of_decide_eq_true this
/-! ### The checksum of a changed byte -/
def sumL : List Int → Int
  | [] => 0
  | v :: r => v + sumL r
theorem sumL_append : ∀ (a b : List Int), sumL (a ++ b) = sumL a + sumL b
  | [], b => by simp [sumL]
  | v :: a, b => by simp only [List.cons_append, sumL, sumL_append a b]; omega
theorem sumL_set : ∀ (l : List Int) (i : Nat) (v : Int), i < l.length → sumL (l.set i v) = sumL l + v - l.getD i 0
  | [], i, v, h => by simp at h
  | w :: l, 0, v, h => by simp [sumL]; omega
  | w :: l, i + 1, v, h => by
    simp only [List.length_cons] at h
    have := sumL_set l i v (by omega)
    simp only [List.set_cons_succ, sumL, this, List.getD_cons_succ]; omega
theorem red_sum (b : ByteArray) : ∀ (r : List Int) (i : Nat) (n : Int), (ofBytes b).drop i = r → ∃ q : Int, redA b r.length i n = n + sumL r - 255 * q
  | [], i, n, _ => ⟨0, by simp [redA, sumL]⟩
  | v :: r, i, n, hr => by
    obtain ⟨h1, h2, h3, h4, h5⟩ := drop_cons hr 0
    have hb : byteAt b i = v := by rw [byteAt_eq, h1]
    simp only [List.length_cons, redA, hb, sumL]
    by_cases h : n + v > 255
    · rw [if_pos h]
      obtain ⟨q, e⟩ := red_sum b r (i + 1) (n + v - 255) h3
      exact ⟨q + 1, by rw [e]; omega⟩
    · rw [if_neg h]
      obtain ⟨q, e⟩ := red_sum b r (i + 1) (n + v) h3
      exact ⟨q, by rw [e]; omega⟩
theorem car_sum (b : ByteArray) : ∃ q : Int, carA b = 255 - sumL (ofBytes b) + 255 * q := by
  obtain ⟨q, e⟩ := red_sum b (ofBytes b) 0 0 rfl
  rw [ofBytes_length] at e
  exact ⟨q, by unfold carA; rw [e]; omega⟩
theorem car_ne (b d : ByteArray) (p : Int) (hp : 1 ≤ p ∧ p ≤ 128) (h : sumL (ofBytes d) = sumL (ofBytes b) + p ∨ sumL (ofBytes d) = sumL (ofBytes b) - p) : carA b ≠ carA d := by
  obtain ⟨q, e⟩ := car_sum b
  obtain ⟨r, f⟩ := car_sum d
  omega
theorem sum_ne (c : Lin) (pid : Int) (b d : ByteArray) (p : Int) (hp : 1 ≤ p ∧ p ≤ 128) (h : sumL (ofBytes d) = sumL (ofBytes b) + p ∨ sumL (ofBytes d) = sumL (ofBytes b) - p) : sumA c pid b ≠ sumA c pid d := by
  unfold sumA
  split
  · exact car_ne b d p hp h
  · split
    · exact car_ne b d p hp h
    · refine car_ne _ _ p hp ?_
      rw [ofBytes_append, ofBytes_append, sumL_append, sumL_append]
      omega
/-! ### An event that is changed -/
theorem evsA_set (t : Int) : ∀ (l : List Item) (at_ : Int) (k : Nat) (y : Item), k < l.length → y.Gap = (l.getD k dflt_Item).Gap → ∃ a, (evsA t at_ l).getD k dflt_Event = evA t a (l.getD k dflt_Item) ∧ (evsA t at_ l).set k (evA t a y) = evsA t at_ (l.set k y)
  | [], at_, k, y, h, _ => by simp at h
  | x :: l, at_, 0, y, h, hy => ⟨at_, rfl, by
    simp only [List.getD_cons_zero] at hy
    simp only [evsA, List.set_cons_zero, hy]⟩
  | x :: l, at_, k + 1, y, h, hy => by
    simp only [List.length_cons] at h
    simp only [List.getD_cons_succ] at hy
    obtain ⟨a, e1, e2⟩ := evsA_set t l (at_ + x.Gap + t) k y (by omega) hy
    refine ⟨a, ?_, ?_⟩
    · simp only [evsA, List.getD_cons_succ]; exact e1
    · simp only [evsA, List.set_cons_succ]; rw [e2]
theorem getD_append_last (l : List Int) (w d : Int) : (l ++ [w]).getD l.length d = w := by simp
/-- The fault of a frame of which one bit was changed. -/
theorem flt_changed (c : Lin) (id : Int) (hid : 0 ≤ id ∧ id ≤ 63) (d : ByteArray) (hd : 1 ≤ d.size ∧ d.size ≤ 8) (j : Nat) (k : Int) (hk : 0 ≤ k ∧ k ≤ 7) (hj : j < d.size + 2) (D : ByteArray)
    (h : ofBytes D = 85 :: ((protA id :: (ofBytes d ++ [sumA c (protA id) d])).set j (xorb ((protA id :: (ofBytes d ++ [sumA c (protA id) d])).getD j 0) k))) : D.size = d.size + 3 ∧ (fltA c D = 2 ∨ fltA c D = 3) := by
  have hpr := prot_facts id (by omega)
  have hsr := sumA_range c (protA id) d
  have hl := ofBytes_length d
  match j, hj, h with
  | 0, _, h =>
    simp only [List.getD_cons_zero, List.set_cons_zero] at h
    obtain ⟨p1, p2, p3, p4, p5⟩ := parts D _ _ _ _ h hd
    refine ⟨p1, .inl ?_⟩
    unfold fltA
    rw [p2, p3, if_pos rfl, if_neg (xorb_pid id k (by omega) hk)]
  | j + 1, hj, h =>
    simp only [List.getD_cons_succ, List.set_cons_succ] at h
    by_cases hlast : j = d.size
    · subst hlast
      have e1 : (ofBytes d ++ [sumA c (protA id) d]).getD d.size 0 = sumA c (protA id) d := by rw [← hl]; exact getD_append_last _ _ _
      have e2 : ∀ w : Int, (ofBytes d ++ [sumA c (protA id) d]).set d.size w = ofBytes d ++ [w] := fun w => by rw [← hl]; simp
      rw [e1, e2] at h
      obtain ⟨p1, p2, p3, p4, p5⟩ := parts D _ _ _ _ h hd
      refine ⟨p1, .inr ?_⟩
      obtain ⟨x1, x2, p, hp1, hp2, hp3⟩ := xorb_facts (sumA c (protA id) d) k hsr hk
      unfold fltA
      rw [p2, p3, p4, p5, if_pos rfl, hpr.2.2.2, if_pos rfl, if_neg (by omega)]
    · have hjd : j < (ofBytes d).length := by omega
      have e1 : (ofBytes d ++ [sumA c (protA id) d]).getD j 0 = (ofBytes d).getD j 0 := by
        rw [List.getD_eq_getElem?_getD, List.getD_eq_getElem?_getD, List.getElem?_append_left hjd]
      have e2 : ∀ w : Int, (ofBytes d ++ [sumA c (protA id) d]).set j w = (ofBytes d).set j w ++ [sumA c (protA id) d] := fun w => by rw [List.set_append_left _ _ hjd]
      rw [e1, e2] at h
      have hv : 0 ≤ (ofBytes d).getD j 0 ∧ (ofBytes d).getD j 0 ≤ 255 := by
        have := byteAt_range d (j : Int)
        rw [byteAt_eq, Int.toNat_natCast] at this
        exact this
      obtain ⟨x1, x2, p, hp1, hp2, hp3⟩ := xorb_facts ((ofBytes d).getD j 0) k hv hk
      have hB : Bytes ((ofBytes d).set j (xorb ((ofBytes d).getD j 0) k)) := by
        intro v hv
        rcases List.mem_or_eq_of_mem_set hv with hv | rfl
        · exact bytes_ofBytes d v hv
        · exact ⟨x1, x2⟩
      have hd' : ofBytes (toBytes ((ofBytes d).set j (xorb ((ofBytes d).getD j 0) k))) = (ofBytes d).set j (xorb ((ofBytes d).getD j 0) k) := ofBytes_toBytes hB
      have hs' : (toBytes ((ofBytes d).set j (xorb ((ofBytes d).getD j 0) k))).size = d.size := by rw [toBytes_size, List.length_set, hl]
      rw [← hd'] at h
      obtain ⟨p1, p2, p3, p4, p5⟩ := parts D _ _ _ _ h (by rw [hs']; exact hd)
      refine ⟨by rw [p1, hs'], .inr ?_⟩
      unfold fltA
      rw [p2, p3, p4, p5, if_pos rfl, hpr.2.2.2, if_pos rfl, if_neg]
      refine sum_ne c (protA id) d _ p ⟨hp1, hp2⟩ ?_
      rw [hd', sumL_set _ _ _ hjd]
      omega
theorem dec_frame (c : Lin) (L : List Event) (a' f n t : Int) (D : ByteArray) (g1 : runA c s0 L = (State.mk 1 a' f n 0 t 0 D, compA c s0)) : decA c L = [frameA c f t D] := by
  unfold decA; rw [g1]; rfl
theorem frame_form (c : Lin) (D : ByteArray) (h : 4 ≤ D.size ∧ D.size ≤ 11) (f t : Int) : ∃ v x, frameA c f t D = Event.mk 5 f t v 0 x (fltA c D) := by
  unfold frameA; rw [if_pos h]; exact ⟨_, _, rfl⟩
theorem LinProtects_true (c : Lin) (id : Int) (d : ByteArray) (at_ k : Int) (hc : wf_Lin c) (hid : IntKind.i64.min ≤ id ∧ id ≤ IntKind.i64.max) (hd : d.size ≤ 140737488351232) (hat : IntKind.i64.min ≤ at_ ∧ at_ ≤ IntKind.i64.max) (hk : IntKind.i64.min ≤ k ∧ k ≤ IntKind.i64.max) : ∃ M, law27_LinProtects M c id d at_ k = some true := by
  refine ⟨20000, ?_⟩
  simp only [law27_LinProtects, b_law27_LinProtects, lives_true 20000 (by omega), Option.bind_some, Bool.not_true, Bool.cond_false, encode_is 20000 (by omega) c _]
  by_cases h1 : id < 0
  · rw [bif_pos h1]
  rw [bif_neg h1]
  by_cases h2 : id > 63
  · rw [bif_pos h2]
  rw [bif_neg h2]
  by_cases h3 : (d.size : Int) < 1
  · rw [bif_pos h3]
  rw [bif_neg h3]
  by_cases h4 : (d.size : Int) > 8
  · rw [bif_pos h4]
  rw [bif_neg h4]
  by_cases h5 : at_ < 2
  · rw [bif_pos h5]
  rw [bif_neg h5, i64_ok (n := (d.size : Int) + 3) (by omega)]
  by_cases h6 : at_ > (d.size : Int) + 3
  · rw [bif_pos h6]
  rw [bif_neg h6]
  by_cases h7 : k < 0
  · rw [bif_pos h7]
  rw [bif_neg h7]
  by_cases h8 : k > 7
  · rw [bif_pos h8]
  rw [bif_neg h8]
  have hx : OkI (Item.mk 0 id 0 d 0) := by unfold OkI; dsimp only; omega
  have hall : AllOk [Item.mk 0 id 0 d 0] := ⟨hx, trivial⟩
  have henc : encA c [Item.mk 0 id 0 d 0] = (sendA c (Item.mk 0 id 0 d 0), 0) := by
    unfold encA
    rw [if_neg (by simp), if_pos hall]; simp
  have hsend : sendA c (Item.mk 0 id 0 d 0) = brk :: (85 :: protA id :: (ofBytes d ++ [sumA c (protA id) d])).map itm := rfl
  have hlen := send_len c (Item.mk 0 id 0 d 0)
  dsimp only at hlen
  have hgl := brk_gaps (85 :: protA id :: (ofBytes d ++ [sumA c (protA id) d]))
  rw [henc]
  rw [hsend] at hlen ⊢
  have hW : (85 :: protA id :: (ofBytes d ++ [sumA c (protA id) d])).length = d.size + 3 := by simp [ofBytes_length]
  have hBW : ∀ v, v ∈ (85 :: protA id :: (ofBytes d ++ [sumA c (protA id) d])) → 0 ≤ v ∧ v ≤ 255 := bytesA_ok c _ hx
  have e1 : law27_gaps 20000 (brk :: (85 :: protA id :: (ofBytes d ++ [sumA c (protA id) d])).map itm) 12 = some true := by
    simp only [law27_gaps, b_law27_gaps]
    rw [bif_neg (by rw [hlen]; omega)]
    exact gaps_l4 20000 _ (by omega) (brk :: (85 :: protA id :: (ofBytes d ++ [sumA c (protA id) d])).map itm) 0 20000 rfl (by omega) hgl
  have e2 := events_is 20000 1 (by omega) (brk :: (85 :: protA id :: (ofBytes d ++ [sumA c (protA id) d])).map itm) (by omega) (by omega) hgl
  have e3 := evsA_len 1 (brk :: (85 :: protA id :: (ofBytes d ++ [sumA c (protA id) d])).map itm) 0
  -- the event that is changed
  obtain ⟨n, rfl⟩ : ∃ n : Nat, at_ = ((n + 2 : Nat) : Int) := ⟨(at_ - 2).toNat, by omega⟩
  have hget : (brk :: (85 :: protA id :: (ofBytes d ++ [sumA c (protA id) d])).map itm).getD (n + 2) dflt_Item = itm ((protA id :: (ofBytes d ++ [sumA c (protA id) d])).getD n 0) := by
    rw [List.getD_cons_succ, List.map_cons, List.getD_cons_succ]
    have hn : n < (protA id :: (ofBytes d ++ [sumA c (protA id) d])).length := by simp [ofBytes_length]; omega
    generalize (protA id :: (ofBytes d ++ [sumA c (protA id) d])) = w at *
    rw [List.getD_eq_getElem?_getD, List.getD_eq_getElem?_getD, List.getElem?_map, List.getElem?_eq_getElem hn]
    rfl
  obtain ⟨a, f1, f2⟩ := evsA_set 1 (brk :: (85 :: protA id :: (ofBytes d ++ [sumA c (protA id) d])).map itm) 0 (n + 2) (itm (xorb ((protA id :: (ofBytes d ++ [sumA c (protA id) d])).getD n 0) k)) (by rw [hlen]; omega) (by rw [hget])
  rw [hget] at f1
  have hnv : 0 ≤ (protA id :: (ofBytes d ++ [sumA c (protA id) d])).getD n 0 ∧ (protA id :: (ofBytes d ++ [sumA c (protA id) d])).getD n 0 ≤ 255 := by
    have hn : n < (protA id :: (ofBytes d ++ [sumA c (protA id) d])).length := by simp [ofBytes_length]; omega
    apply hBW
    rw [List.getD_eq_getElem?_getD, List.getElem?_eq_getElem hn]
    exact List.mem_cons_of_mem _ (List.getElem_mem hn)
  obtain ⟨x1, x2, _⟩ := xorb_facts _ k hnv (by omega)
  have hset : (brk :: (85 :: protA id :: (ofBytes d ++ [sumA c (protA id) d])).map itm).set (n + 2) (itm (xorb ((protA id :: (ofBytes d ++ [sumA c (protA id) d])).getD n 0) k)) = brk :: (85 :: (protA id :: (ofBytes d ++ [sumA c (protA id) d])).set n (xorb ((protA id :: (ofBytes d ++ [sumA c (protA id) d])).getD n 0) k)).map itm := by
    simp only [List.set_cons_succ, List.map_cons, List.map_set]
  rw [hset] at f2
  have hBD : ∀ v, v ∈ (85 :: (protA id :: (ofBytes d ++ [sumA c (protA id) d])).set n (xorb ((protA id :: (ofBytes d ++ [sumA c (protA id) d])).getD n 0) k)) → 0 ≤ v ∧ v ≤ 255 := by
    intro v hv
    rcases List.mem_cons.1 hv with rfl | hv
    · omega
    · rcases List.mem_or_eq_of_mem_set hv with hv | rfl
      · exact hBW v (List.mem_cons_of_mem _ hv)
      · exact ⟨x1, x2⟩
  have hlD : (85 :: (protA id :: (ofBytes d ++ [sumA c (protA id) d])).set n (xorb ((protA id :: (ofBytes d ++ [sumA c (protA id) d])).getD n 0) k)).length = d.size + 3 := by simp [ofBytes_length]
  obtain ⟨a', D, g1, g2, g3⟩ := run_frame c 1 (by omega) s0 _ 0 0 hBD (by omega) (by decide) (by omega) (by omega) (by rw [hlD]; omega)
  have hflt := flt_changed c id (by omega) d (by omega) n k (by omega) (by omega) D g2
  have e4 : ∃ f t v x, decA c (evsA 1 0 (brk :: (85 :: (protA id :: (ofBytes d ++ [sumA c (protA id) d])).set n (xorb ((protA id :: (ofBytes d ++ [sumA c (protA id) d])).getD n 0) k)).map itm)) = [Event.mk 5 f t v 0 x (fltA c D)] := by
    have hd := dec_frame c _ _ _ _ _ _ g1
    obtain ⟨v, x, hfa⟩ := frame_form c D (by omega) _ _
    exact ⟨_, _, v, x, hd.trans (congrArg (fun y => [y]) hfa)⟩
  obtain ⟨f, t, v, x, e4⟩ := e4
  have e5 := evsA_len 1 (brk :: (85 :: (protA id :: (ofBytes d ++ [sumA c (protA id) d])).set n (xorb ((protA id :: (ofBytes d ++ [sumA c (protA id) d])).getD n 0) k)).map itm) 0
  have hl5 : (brk :: (85 :: (protA id :: (ofBytes d ++ [sumA c (protA id) d])).set n (xorb ((protA id :: (ofBytes d ++ [sumA c (protA id) d])).getD n 0) k)).map itm).length = d.size + 4 := by simp [ofBytes_length]
  simp only [bne_self_eq_false, Bool.cond_false, e1, Option.bind_some, Bool.not_true, hlen, i64_ok (n := (d.size : Int) + 4) (by omega), e2, e3, Int.toNat_natCast, f1]
  rw [show ((d.size + 4 : Nat) : Int) = (d.size : Int) + 4 by omega]
  simp only [bne_self_eq_false, Bool.cond_false]
  simp only [bif_pos (show (0 : Int) ≤ ((n + 2 : Nat) : Int) by omega), bif_pos (show ((n + 2 : Nat) : Int) < (d.size : Int) + 4 by omega), bif_neg h7]
  have hev : evA 1 a (itm ((protA id :: (ofBytes d ++ [sumA c (protA id) d])).getD n 0)) = Event.mk 3 (a + 0) (a + 0 + 1) ((protA id :: (ofBytes d ++ [sumA c (protA id) d])).getD n 0) 0 (bs []) 0 := rfl
  have hev2 : evA 1 a (itm (xorb ((protA id :: (ofBytes d ++ [sumA c (protA id) d])).getD n 0) k)) = Event.mk 3 (a + 0) (a + 0 + 1) (xorb ((protA id :: (ofBytes d ++ [sumA c (protA id) d])).getD n 0) k) 0 (bs []) 0 := rfl
  rw [hev2] at f2
  simp only [hev]
  rw [bif_neg (by omega), bif_neg (by omega)]
  have f3 := f2
  unfold xorb at f3
  rw [f3]
  have hdec := decode_is 20000 (by omega) c (evsA 1 0 (brk :: (85 :: (protA id :: (ofBytes d ++ [sumA c (protA id) d])).set n (xorb ((protA id :: (ofBytes d ++ [sumA c (protA id) d])).getD n 0) k)).map itm)) (by omega) (by omega)
  rw [e4] at hdec
  unfold xorb at hdec
  rw [hdec, Option.bind_some]
  simp only [List.length_cons, List.length_nil, List.getD_cons_zero]
  rcases hflt.2 with hf | hf <;> rw [hf] <;> rfl
end Go.Abs.K
