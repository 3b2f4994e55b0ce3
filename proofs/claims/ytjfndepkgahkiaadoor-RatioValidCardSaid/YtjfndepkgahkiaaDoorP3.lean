/- RATIO: bounds; the laws of a field; RatioBounds, RatioField. -/
import Derived.Test.YtjfndepkgahkiaaDoorP2
set_option linter.unusedVariables false
set_option linter.unusedSimpArgs false
namespace Go.Abs.K
open Go Go.Abs Go.Proofs

theorem RatioBounds_true (r : Ratio) (n : Int) (q0 : wf_Ratio r) (q1 : IntKind.i64.min ≤ n ∧ n ≤ IntKind.i64.max) : ∃ M, law01_RatioBounds M r n = some true := by
  refine ⟨9223372036854775901, ?_⟩
  have hfl := floorR_is 9223372036854775901 big0 r
  have hrd := roundR_is 9223372036854775901 big0 r
  have hsc := scale_is 9223372036854775901 big0 r n
  have haw := awake_true 9223372036854775901 big0
  unfold law01_RatioBounds b_law01_RatioBounds
  rw [rvalid_is _ big0, haw]
  by_cases h : VR r
  · rw [decide_eq_true h]
    simp only [Option.bind_some, Bool.not_true, Bool.cond_false]
    by_cases c1 : n < -4294967296
    · rw [bif_pos c1]
    rw [bif_neg c1]
    by_cases c2 : n > 4294967296
    · rw [bif_pos c2]
    rw [bif_neg c2, hfl.1, Option.bind_some, hrd.1, Option.bind_some, hsc.1, Option.bind_some]
    unfold scaleR
    rw [if_pos h, if_pos h, if_pos h, if_neg (by omega)]
    have n0 := h.n0
    have n1 := h.n1
    have d0 := h.d0
    have d1 := h.d1
    -- the floor
    have f1 := Int.mul_ediv_add_emod r.Num r.Den
    have f2 := Int.emod_nonneg r.Num (show r.Den ≠ 0 by omega)
    have f3 := Int.emod_lt_of_pos r.Num (show 0 < r.Den by omega)
    have f4 := ediv_bound (a := r.Num) d0
    have f5 : r.Num / r.Den * r.Den = r.Den * (r.Num / r.Den) := Int.mul_comm _ _
    -- the rounded value
    have g1 := Int.mul_ediv_add_emod (2 * r.Num + r.Den) (2 * r.Den)
    have g2 := Int.emod_nonneg (2 * r.Num + r.Den) (show 2 * r.Den ≠ 0 by omega)
    have g3 := Int.emod_lt_of_pos (2 * r.Num + r.Den) (show 0 < 2 * r.Den by omega)
    have g4 : (2 * r.Num + r.Den) / (2 * r.Den) = (2 * r.Num + r.Den) / 2 / r.Den := by
      rw [Int.ediv_ediv, if_neg (by omega)]
      omega
    have g5 := ediv_bound (a := (2 * r.Num + r.Den) / 2) d0
    rw [← g4] at g5
    have g6 : 2 * ((2 * r.Num + r.Den) / (2 * r.Den)) * r.Den = 2 * r.Den * ((2 * r.Num + r.Den) / (2 * r.Den)) := by
      rw [Int.mul_right_comm]
    -- the product
    have hp := mul_bound (x := r.Num) (y := n) (a := 1073741824) (b := 4294967296) (by omega) (by omega)
    have s1 := Int.mul_ediv_add_emod (r.Num * n) r.Den
    have s2 := Int.emod_nonneg (r.Num * n) (show r.Den ≠ 0 by omega)
    have s3 := Int.emod_lt_of_pos (r.Num * n) (show 0 < r.Den by omega)
    have s5 : r.Num * n / r.Den * r.Den = r.Den * (r.Num * n / r.Den) := Int.mul_comm _ _
    dsimp only
    rw [f5, s5]
    generalize r.Num / r.Den = F at *
    generalize (2 * r.Num + r.Den) / (2 * r.Den) = Hh at *
    generalize r.Num * n / r.Den = Q at *
    generalize r.Den * F = DF at *
    generalize 2 * r.Den * Hh = DH at *
    generalize r.Den * Q = DQ at *
    generalize r.Num * n = NN at *
    generalize r.Num % r.Den = e1 at *
    generalize (2 * r.Num + r.Den) % (2 * r.Den) = e2 at *
    generalize NN % r.Den = e3 at *
    rw [i64_ok (n := 2 * Hh) (by omega)]
    rw [bif_neg (by omega), bif_neg (by omega), bif_neg (by omega), bif_neg (by omega)]
    have w1 : IntKind.i64.wrap DF = DF := i64_ok (by omega)
    have w2 : IntKind.i64.wrap (r.Num - DF) = r.Num - DF := i64_ok (by omega)
    have w3 : IntKind.i64.wrap (2 * r.Num) = 2 * r.Num := i64_ok (by omega)
    have w4 : IntKind.i64.wrap (2 * r.Num + r.Den) = 2 * r.Num + r.Den := i64_ok (by omega)
    have w5 : IntKind.i64.wrap (2 * r.Den) = 2 * r.Den := i64_ok (by omega)
    have w6 : IntKind.i64.wrap DQ = DQ := i64_ok (by omega)
    have w7 : IntKind.i64.wrap NN = NN := i64_ok (by omega)
    have w8 : IntKind.i64.wrap (NN - DQ) = NN - DQ := i64_ok (by omega)
    have w9 : IntKind.i64.wrap DH = DH := i64_ok (by omega)
    have w10 : IntKind.i64.wrap (2 * r.Num + r.Den - DH) = 2 * r.Num + r.Den - DH := i64_ok (by omega)
    simp only [w1, w2, w3, w4, w5, w6, w7, w8, w9, w10, g6, beq_self_eq_true, Bool.cond_true]
    rw [bif_neg (by omega), bif_neg (by omega), bif_neg (by omega), bif_neg (by omega), bif_pos (by omega), bif_pos (by omega)]
  · rw [decide_eq_false h]
    rfl

/-! ### Equal fractions -/
theorem sgn_mul {x y : Int} (hx : x ≠ 0) (hy : y ≠ 0) : decide (x * y < 0) = (decide (x < 0) != decide (y < 0)) := by
  rcases Int.lt_or_lt_of_ne hx with h1 | h1 <;> rcases Int.lt_or_lt_of_ne hy with h2 | h2
  · have := Int.mul_pos_of_neg_of_neg h1 h2
    rw [decide_eq_true h1, decide_eq_true h2, decide_eq_false (by omega)]; rfl
  · have := Int.mul_neg_of_neg_of_pos h1 h2
    rw [decide_eq_true h1, decide_eq_false (by omega : ¬ y < 0), decide_eq_true this]; rfl
  · have := Int.mul_neg_of_pos_of_neg h1 h2
    rw [decide_eq_false (by omega : ¬ x < 0), decide_eq_true h2, decide_eq_true this]; rfl
  · have := Int.mul_pos h1 h2
    rw [decide_eq_false (by omega : ¬ x < 0), decide_eq_false (by omega : ¬ y < 0), decide_eq_false (by omega)]; rfl
theorem parts_of (n d : Int) (hd : d ≠ 0) : 0 < Nat.gcd n.natAbs d.natAbs ∧ n.natAbs = an n d * Nat.gcd n.natAbs d.natAbs ∧ d.natAbs = ad n d * Nat.gcd n.natAbs d.natAbs ∧ Nat.gcd (an n d) (ad n d) = 1 ∧ 0 < ad n d := by
  have hg : 0 < Nat.gcd n.natAbs d.natAbs := Nat.gcd_pos_of_pos_right _ (by omega)
  have h1 : n.natAbs = an n d * Nat.gcd n.natAbs d.natAbs := (Nat.div_mul_cancel (Nat.gcd_dvd_left _ _)).symm
  have h2 : d.natAbs = ad n d * Nat.gcd n.natAbs d.natAbs := (Nat.div_mul_cancel (Nat.gcd_dvd_right _ _)).symm
  refine ⟨hg, h1, h2, Nat.coprime_div_gcd_div_gcd hg, ?_⟩
  rcases Nat.eq_zero_or_pos (ad n d) with h | h
  · rw [h, Nat.zero_mul] at h2; omega
  · exact h
theorem mk_congr {n1 d1 n2 d2 : Int} (h1 : d1 ≠ 0) (h2 : d2 ≠ 0) (h : n1 * d2 = n2 * d1) : mk n1 d1 = mk n2 d2 := by
  obtain ⟨g1, a1, b1, c1, p1⟩ := parts_of n1 d1 h1
  obtain ⟨g2, a2, b2, c2, p2⟩ := parts_of n2 d2 h2
  have hn : n1.natAbs * d2.natAbs = n2.natAbs * d1.natAbs := by rw [← Int.natAbs_mul, ← Int.natAbs_mul, h]
  have hx : an n1 d1 * ad n2 d2 = an n2 d2 * ad n1 d1 := by
    generalize Nat.gcd n1.natAbs d1.natAbs = G1 at *
    generalize Nat.gcd n2.natAbs d2.natAbs = G2 at *
    rw [a1, b2, a2, b1] at hn
    have : (an n1 d1 * ad n2 d2) * (G1 * G2) = (an n2 d2 * ad n1 d1) * (G1 * G2) := by
      have e1 : an n1 d1 * G1 * (ad n2 d2 * G2) = (an n1 d1 * ad n2 d2) * (G1 * G2) := by ac_rfl
      have e2 : an n2 d2 * G2 * (ad n1 d1 * G1) = (an n2 d2 * ad n1 d1) * (G1 * G2) := by ac_rfl
      rw [← e1, ← e2, hn]
    exact Nat.eq_of_mul_eq_mul_right (Nat.mul_pos g1 g2) this
  obtain ⟨e1, e2⟩ := lowest_nat c1 c2 hx p1 p2
  unfold mk
  rw [if_neg h1, if_neg h2, e1, e2]
  by_cases c : 1073741824 < an n2 d2 ∨ 1073741824 < ad n2 d2
  · rw [if_pos c, if_pos c]
  · rw [if_neg c, if_neg c]
    by_cases z : an n2 d2 = 0
    · rw [z]
      cases neg n1 d1 <;> cases neg n2 d2 <;> rfl
    · have z2 : n2 ≠ 0 := fun hz => z (by unfold an; rw [hz]; simp)
      have z1 : n1 ≠ 0 := fun hz => z (by rw [← e1]; unfold an; rw [hz]; simp)
      have s1 := sgn_mul z1 h2
      have s2 := sgn_mul z2 h1
      rw [h] at s1
      rw [s1] at s2
      have : neg n1 d1 = neg n2 d2 := by
        unfold neg
        revert s2
        cases decide (n1 < 0) <;> cases decide (d1 < 0) <;> cases decide (n2 < 0) <;> cases decide (d2 < 0) <;> simp
      rw [this]
theorem mk_self {a : Ratio} (h : VR a) : mk a.Num a.Den = (a, 0) := by
  have d0 := h.d0
  have d1 := h.d1
  have n0 := h.n0
  have n1 := h.n1
  have e1 : an a.Num a.Den = a.Num.natAbs := by unfold an; rw [h.g, Nat.div_one]
  have e2 : ad a.Num a.Den = a.Den.natAbs := by unfold ad; rw [h.g, Nat.div_one]
  unfold mk
  rw [if_neg (by omega), e1, e2, if_neg (by omega)]
  unfold neg
  rw [decide_eq_false (show ¬ a.Den < 0 by omega)]
  have e3 : ((a.Den.natAbs : Nat) : Int) = a.Den := by omega
  by_cases c : a.Num < 0
  · rw [decide_eq_true c, e3]
    have e4 : -((a.Num.natAbs : Nat) : Int) = a.Num := by omega
    simp [e4]
  · rw [decide_eq_false c, e3]
    have e4 : ((a.Num.natAbs : Nat) : Int) = a.Num := by omega
    simp [e4]
theorem mk_ok {n d : Int} (hd : d ≠ 0) (h : (mk n d).2 = 0) : VR (mk n d).1 ∧ (mk n d).1.Num * d = n * (mk n d).1.Den := by
  obtain ⟨g, a, b, c, p⟩ := parts_of n d hd
  unfold mk at h ⊢
  rw [if_neg hd] at h ⊢
  by_cases c1 : 1073741824 < an n d ∨ 1073741824 < ad n d
  · rw [if_pos c1] at h
    exact absurd h (by decide)
  · rw [if_neg c1]
    dsimp only
    refine ⟨⟨by dsimp only; omega, by dsimp only; omega, by dsimp only; split <;> omega, by dsimp only; split <;> omega, ?_⟩, ?_⟩
    · dsimp only
      have e1 : (if neg n d = true then -((an n d : Nat) : Int) else (an n d : Nat)).natAbs = an n d := by split <;> omega
      rw [e1]
      exact c
    · generalize Nat.gcd n.natAbs d.natAbs = G at *
      have k1 : ((n.natAbs : Nat) : Int) = (an n d : Int) * (G : Int) := by rw [a]; exact Int.natCast_mul _ _
      have k2 : ((d.natAbs : Nat) : Int) = (ad n d : Int) * (G : Int) := by rw [b]; exact Int.natCast_mul _ _
      have key : (an n d : Int) * ((ad n d : Int) * (G : Int)) = (an n d : Int) * (G : Int) * (ad n d : Int) := by ac_rfl
      unfold neg
      generalize (an n d : Int) = A at *
      generalize (ad n d : Int) = B at *
      by_cases s1 : n < 0
      · have m1 : n = -(A * G) := by omega
        by_cases s2 : d < 0
        · have m2 : d = -(B * G) := by omega
          rw [decide_eq_true s1, decide_eq_true s2]
          simp only [bne_self_eq_false, Bool.false_eq_true, if_false]
          rw [m1, m2, Int.mul_neg, Int.neg_mul, key]
        · have m2 : d = B * G := by omega
          rw [decide_eq_true s1, decide_eq_false s2]
          simp only [Bool.bne_false, if_true]
          rw [m1, m2, Int.neg_mul, Int.neg_mul, key]
      · have m1 : n = A * G := by omega
        by_cases s2 : d < 0
        · have m2 : d = -(B * G) := by omega
          rw [decide_eq_false s1, decide_eq_true s2]
          simp only [Bool.bne_true, Bool.not_false, if_true]
          rw [m1, m2, Int.neg_mul_neg, key]
        · have m2 : d = B * G := by omega
          rw [decide_eq_false s1, decide_eq_false s2]
          simp only [bne_self_eq_false, Bool.false_eq_true, if_false]
          rw [m1, m2, key]
theorem VR.dn {a : Ratio} (h : VR a) : a.Den ≠ 0 := by have := h.d0; omega
theorem mul_ne {x y : Int} (hx : x ≠ 0) (hy : y ≠ 0) : x * y ≠ 0 := Int.mul_ne_zero hx hy
section
variable {a b c : Ratio}
theorem add_comm' : addR a b = addR b a := by
  unfold addR
  rw [Int.add_comm (a.Num * b.Den), Int.mul_comm a.Den]
  by_cases h1 : VR a <;> by_cases h2 : VR b <;> simp [h1, h2]
theorem mul_comm' : mulR a b = mulR b a := by
  unfold mulR
  rw [Int.mul_comm a.Num, Int.mul_comm a.Den]
  by_cases h1 : VR a <;> by_cases h2 : VR b <;> simp [h1, h2]
theorem vr_zero : VR ⟨0, 1⟩ := ⟨by decide, by decide, by decide, by decide, by decide⟩
theorem vr_one : VR ⟨1, 1⟩ := ⟨by decide, by decide, by decide, by decide, by decide⟩
theorem add_zero' (h : VR a) : addR a ⟨0, 1⟩ = (a, 0) := by
  unfold addR
  rw [if_pos ⟨h, vr_zero⟩]
  dsimp only
  rw [Int.mul_one, Int.mul_one, Int.zero_mul, Int.add_zero, mk_self h]
theorem mul_one' (h : VR a) : mulR a ⟨1, 1⟩ = (a, 0) := by
  unfold mulR
  rw [if_pos ⟨h, vr_one⟩]
  dsimp only
  rw [Int.mul_one, Int.mul_one, mk_self h]
theorem sub_add (ha : VR a) (hb : VR b) (h : (addR a b).2 = 0) : VR (addR a b).1 ∧ subR (addR a b).1 b = (a, 0) := by
  unfold addR at h ⊢
  rw [if_pos ⟨ha, hb⟩] at h ⊢
  obtain ⟨h1, h2⟩ := mk_ok (mul_ne ha.dn hb.dn) h
  generalize (mk (a.Num * b.Den + b.Num * a.Den) (a.Den * b.Den)).1 = s at *
  refine ⟨h1, ?_⟩
  unfold subR
  rw [if_pos ⟨h1, hb⟩, ← mk_self ha]
  refine mk_congr (mul_ne h1.dn hb.dn) ha.dn ?_
  simp only [Int.mul_add, Int.add_mul, Int.mul_sub, Int.sub_mul, Int.mul_assoc, Int.mul_comm, Int.mul_left_comm] at h2 ⊢
  omega
theorem div_mul (ha : VR a) (hb : VR b) (h0 : b.Num ≠ 0) (h : (mulR a b).2 = 0) : VR (mulR a b).1 ∧ divR (mulR a b).1 b = (a, 0) := by
  unfold mulR at h ⊢
  rw [if_pos ⟨ha, hb⟩] at h ⊢
  obtain ⟨h1, h2⟩ := mk_ok (mul_ne ha.dn hb.dn) h
  generalize (mk (a.Num * b.Num) (a.Den * b.Den)).1 = s at *
  refine ⟨h1, ?_⟩
  unfold divR
  rw [if_pos ⟨h1, hb, h0⟩, ← mk_self ha]
  refine mk_congr (mul_ne h1.dn h0) ha.dn ?_
  simp only [Int.mul_assoc, Int.mul_comm, Int.mul_left_comm] at h2 ⊢
  omega
theorem spread' (ha : VR a) (hb : VR b) (hc : VR c) (h1 : (addR b c).2 = 0) (h2 : (mulR a b).2 = 0) (h3 : (mulR a c).2 = 0) : mulR a (addR b c).1 = addR (mulR a b).1 (mulR a c).1 := by
  unfold addR at h1
  unfold mulR at h2 h3
  rw [if_pos ⟨hb, hc⟩] at h1
  rw [if_pos ⟨ha, hb⟩] at h2
  rw [if_pos ⟨ha, hc⟩] at h3
  obtain ⟨s1, s2⟩ := mk_ok (mul_ne hb.dn hc.dn) h1
  obtain ⟨x1, x2⟩ := mk_ok (mul_ne ha.dn hb.dn) h2
  obtain ⟨y1, y2⟩ := mk_ok (mul_ne ha.dn hc.dn) h3
  have e1 : addR b c = mk (b.Num * c.Den + c.Num * b.Den) (b.Den * c.Den) := by unfold addR; rw [if_pos ⟨hb, hc⟩]
  have e2 : mulR a b = mk (a.Num * b.Num) (a.Den * b.Den) := by unfold mulR; rw [if_pos ⟨ha, hb⟩]
  have e3 : mulR a c = mk (a.Num * c.Num) (a.Den * c.Den) := by unfold mulR; rw [if_pos ⟨ha, hc⟩]
  rw [e1, e2, e3]
  generalize (mk (b.Num * c.Den + c.Num * b.Den) (b.Den * c.Den)).1 = s at *
  generalize (mk (a.Num * b.Num) (a.Den * b.Den)).1 = x at *
  generalize (mk (a.Num * c.Num) (a.Den * c.Den)).1 = y at *
  unfold mulR addR
  rw [if_pos ⟨ha, s1⟩, if_pos ⟨x1, y1⟩]
  refine mk_congr (mul_ne ha.dn s1.dn) (mul_ne x1.dn y1.dn) ?_
  have hK : b.Den * c.Den * a.Den ≠ 0 := mul_ne (mul_ne hb.dn hc.dn) ha.dn
  apply Int.eq_of_mul_eq_mul_left hK
  have k1 := congrArg (fun t => a.Num * a.Den * x.Den * y.Den * t) s2
  have k2 := congrArg (fun t => y.Den * a.Den * c.Den * s.Den * t) x2
  have k3 := congrArg (fun t => x.Den * a.Den * b.Den * s.Den * t) y2
  try dsimp only at k1 k2 k3
  simp only [Int.mul_add, Int.add_mul, Int.mul_assoc, Int.mul_comm, Int.mul_left_comm] at k1 k2 k3 ⊢
  omega
end
theorem spread_true (M : Nat) (hM : Big M) (a b c : Ratio) (ha : VR a) (hb : VR b) (hc : VR c) : law01_spread M a b c = some true := by
  unfold law01_spread b_law01_spread
  rw [(add_is M hM b c).1, Option.bind_some, (mul_is M hM a b).1, Option.bind_some, (mul_is M hM a c).1, Option.bind_some]
  simp only [bne_if]
  by_cases h1 : (addR b c).2 = 0
  · rw [if_pos h1]
    by_cases h2 : (mulR a b).2 = 0
    · rw [if_pos h2]
      by_cases h3 : (mulR a c).2 = 0
      · rw [if_pos h3, (mul_is M hM a (addR b c).1).1, Option.bind_some, (add_is M hM (mulR a b).1 (mulR a c).1).1, Option.bind_some, spread' ha hb hc h1 h2 h3]
        simp only [beq_self_eq_true, Bool.cond_true]
        unfold law01_agree b_law01_agree
        simp only [beq_self_eq_true, Bool.and_true, bne_if]
        split
        · rfl
        · rfl
      · rw [if_neg h3]
    · rw [if_neg h2]
  · rw [if_neg h1]
theorem undone_true (M : Nat) (hM : Big M) (a b : Ratio) (ha : VR a) (hb : VR b) : law01_undone M a b = some true := by
  have hmul : (bif (mulR a b).2 == 0 then (bif b.Num != 0 then ((ratio_Div M (mulR a b).1 b).bind fun r3 => bif r3.snd != 0 then some false else bif !(r3.fst.Num == a.Num && (r3.fst.Den == a.Den && true)) then some false else some true) else some true) else some true) = some true := by
    rw [beq_if]
    by_cases h2 : (mulR a b).2 = 0
    · rw [if_pos h2, bne_if]
      by_cases h3 : b.Num = 0
      · rw [if_pos h3]
      · rw [if_neg h3, (div_is M hM (mulR a b).1 b).1, (div_mul ha hb h3 h2).2]
        simp
    · rw [if_neg h2]
  unfold law01_undone b_law01_undone
  rw [(add_is M hM a b).1, Option.bind_some, (mul_is M hM a b).1, beq_if]
  by_cases h1 : (addR a b).2 = 0
  · rw [if_pos h1, (sub_is M hM (addR a b).1 b).1, (sub_add ha hb h1).2]
    simp only [Option.bind_some, bne_self_eq_false, Bool.cond_false, beq_self_eq_true, Bool.and_true, Bool.not_true]
    simpa using hmul
  · rw [if_neg h1, Option.bind_some]
    exact hmul
theorem RatioField_true (a b c : Ratio) (q0 : wf_Ratio a) (q1 : wf_Ratio b) (q2 : wf_Ratio c) : ∃ M, law01_RatioField M a b c = some true := by
  refine ⟨9223372036854775901, ?_⟩
  have haw := awake_true 9223372036854775901 big0
  unfold law01_RatioField b_law01_RatioField
  rw [rvalid_is _ big0, rvalid_is _ big0, rvalid_is _ big0, haw]
  by_cases ha : VR a
  · rw [decide_eq_true ha]
    simp only [Option.bind_some, Bool.not_true, Bool.cond_false]
    by_cases hb : VR b
    · rw [decide_eq_true hb]
      simp only [Option.bind_some, Bool.not_true, Bool.cond_false]
      by_cases hc : VR c
      · rw [decide_eq_true hc]
        simp only [Option.bind_some, Bool.not_true, Bool.cond_false]
        rw [(add_is _ big0 a b).1, (add_is _ big0 b a).1, (mul_is _ big0 a b).1, (mul_is _ big0 b a).1, (add_is _ big0 a ⟨0, 1⟩).1, (mul_is _ big0 a ⟨1, 1⟩).1, add_comm' (a := b), mul_comm' (a := b), add_zero' ha, mul_one' ha, spread_true _ big0 a b c ha hb hc, undone_true _ big0 a b ha hb]
        simp only [Option.bind_some, bne_self_eq_false, Bool.cond_false, beq_self_eq_true, Bool.and_true, Bool.cond_true, Bool.not_true]
      · rw [decide_eq_false hc]
        rfl
    · rw [decide_eq_false hb]
      rfl
  · rw [decide_eq_false ha]
    rfl
end Go.Abs.K
