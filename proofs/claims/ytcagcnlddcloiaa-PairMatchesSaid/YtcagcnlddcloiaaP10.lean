/- PAIR: PairRoundTrips. -/
import Derived.Test.YtcagcnlddcloiaaP9
set_option linter.unusedVariables false
set_option linter.unusedSimpArgs false
namespace Go.Abs.K
open Go Go.Abs Go.Proofs

theorem str_same (s : ByteArray) : (s.toList == s.toList) = true := by simp
theorem trip_l19 (M : Nat) (l : List Item) (out : List Event) (hl : l.length ≤ 100000) (ho : out.length ≤ 1000000) (hx : ∀ x, x ∈ l → Okx x) : ∀ (r : List Item) (i m k : Nat) (z : List Event), l.drop i = r → out.drop k = z → Good r z → r.length < m → k ≤ out.length →
    law33_PairRoundTrips_l19 M m (k : Int) (i : Int) l out = some true
  | r, i, 0, k, z, _, _, _, hm, _ => by omega
  | [], i, m + 1, k, z, h, hz, hg, hm, hk => by
    have h1 := drop_nil h
    have hz2 : z = [] := hg
    subst hz2
    have h2 := drop_nil hz
    simp only [law33_PairRoundTrips_l19, b_law33_PairRoundTrips_l19]
    rw [bif_neg (by omega)]
    have : (k : Int) = (out.length : Int) := by omega
    rw [this]
    simp
  | x :: r, i, m + 1, k, z, h, hz, hg, hm, hk => by
    obtain ⟨h1, h2, h3, h4, h5⟩ := drop_cons h dflt_Item
    obtain ⟨g0, g1, hd, v0, v1, fl, ax⟩ := hx x h5
    simp only [List.length_cons] at hm
    rw [Good] at hg
    by_cases f7 : x.Fault = 7
    · rw [if_pos f7] at hg
      obtain ⟨e1, e2, z', rfl, i1, i2, hg⟩ := hg
      obtain ⟨q1, q2, q3, q4, q5⟩ := drop_cons hz dflt_Event
      obtain ⟨p1, p2, p3, p4, p5⟩ := drop_cons q3 dflt_Event
      have ih := trip_l19 M l out hl ho hx r (i + 1) m (k + 2) z' h3 p3 hg (by omega) (by omega)
      have n1 : IntKind.i64.wrap ((k : Int) + 1) = ((k + 1 : Nat) : Int) := next_i k (by omega)
      have n2 : IntKind.i64.wrap (((k + 1 : Nat) : Int) + 1) = ((k + 2 : Nat) : Int) := next_i (k + 1) (by omega)
      have n3 : IntKind.i64.wrap ((i : Int) + 1) = ((i + 1 : Nat) : Int) := next_i i (by omega)
      have c1 : ¬ (k : Int) ≥ (out.length : Int) := by omega
      have c2 : ¬ ((k + 1 : Nat) : Int) ≥ (out.length : Int) := by omega
      simp only [law33_PairRoundTrips_l19, b_law33_PairRoundTrips_l19, h1, q1, n1, p1, n2, n3, i1.f, i1.v, i1.d, i2.f, i2.v, i2.d, f7, beq_if, bne_if, str_same, Bool.not_true, Bool.cond_false, if_true, Int.reduceEq, if_false]
      simp only [bif_pos (show (i : Int) < (l.length : Int) by omega), bif_pos (show 0 ≤ (i : Int) by omega), bif_neg c1, bif_neg c2, bif_pos (show 0 ≤ (k : Int) by omega), bif_pos (show (k : Int) < (out.length : Int) by omega), bif_pos (show 0 ≤ ((k + 1 : Nat) : Int) by omega), bif_pos (show ((k + 1 : Nat) : Int) < (out.length : Int) by omega)]
      exact ih
    · rw [if_neg f7] at hg
      obtain ⟨e1, z', rfl, i1, hg⟩ := hg
      obtain ⟨q1, q2, q3, q4, q5⟩ := drop_cons hz dflt_Event
      have ih := trip_l19 M l out hl ho hx r (i + 1) m (k + 1) z' h3 q3 hg (by omega) (by omega)
      have n1 : IntKind.i64.wrap ((k : Int) + 1) = ((k + 1 : Nat) : Int) := next_i k (by omega)
      have n3 : IntKind.i64.wrap ((i : Int) + 1) = ((i + 1 : Nat) : Int) := next_i i (by omega)
      have c1 : ¬ (k : Int) ≥ (out.length : Int) := by omega
      have i1f := i1.f
      simp only [law33_PairRoundTrips_l19, b_law33_PairRoundTrips_l19, h1, q1, n1, n3, i1f, i1.v, i1.d, beq_if, bne_if, str_same, Bool.not_true, Bool.cond_false, if_true]
      simp only [bif_pos (show (i : Int) < (l.length : Int) by omega), bif_pos (show 0 ≤ (i : Int) by omega), bif_neg c1, bif_pos (show 0 ≤ (k : Int) by omega), bif_pos (show (k : Int) < (out.length : Int) by omega)]
      rw [if_neg f7]
      by_cases f12 : x.Fault = 12
      · simp only [f12, if_true]
        exact ih
      · have f0 : x.Fault = 0 := by omega
        simp only [f0, if_true, Int.reduceEq, if_false]
        exact ih
theorem trip_l12 (M : Nat) (tk : Int) (l : List Item) (c1 : Pair) (t : List Item) (ht : t.length ≤ 100000) (hg : ∀ x, x ∈ t → 0 ≤ x.Gap ∧ x.Gap ≤ 1048576) : ∀ (r : List Item) (i m : Nat), t.drop i = r → r.length < m →
    law33_PairRoundTrips_l12 M m tk (i : Int) l c1 t = ((law33_packets M t tk).bind fun r0 => (pair_Decode M c1 r0).bind fun r1 => law33_PairRoundTrips_l19 M M 0 0 l r1)
  | r, i, 0, _, hm => by omega
  | [], i, m + 1, h, hm => by
    have := drop_nil h
    simp only [law33_PairRoundTrips_l12, b_law33_PairRoundTrips_l12]
    rw [bif_neg (by omega)]
  | x :: r, i, m + 1, h, hm => by
    obtain ⟨h1, h2, h3, h4, h5⟩ := drop_cons h dflt_Item
    obtain ⟨g0, g1⟩ := hg x h5
    simp only [List.length_cons] at hm
    conv => lhs; rw [law33_PairRoundTrips_l12]
    simp only [b_law33_PairRoundTrips_l12, h1]
    rw [bif_pos (by omega), bif_pos (by omega), bif_pos (by omega), bif_neg (by omega), bif_pos (by omega), bif_pos (by omega), bif_neg (by omega), next_i i (by omega)]
    exact trip_l12 M tk l c1 t ht hg r (i + 1) m h3 (by omega)
theorem good_len : ∀ {l : List Item} {z : List Event}, Good l z → z.length ≤ 2 * l.length
  | [], z, h => by
    have : z = [] := h
    subst this
    simp
  | x :: r, z, h => by
    rw [Good] at h
    split at h
    · obtain ⟨e1, e2, z', rfl, _, _, h3⟩ := h
      have := good_len h3
      simp only [List.length_cons]; omega
    · obtain ⟨e1, z', rfl, _, h3⟩ := h
      have := good_len h3
      simp only [List.length_cons]; omega
theorem PairRoundTrips_true (l : List Item) (tk : Int) (q0 : (∀ x, x ∈ l → wf_Item x) ∧ l.length * Try.prog.bytesOf 48 ≤ 140737488351232) (q1 : IntKind.i64.min ≤ tk ∧ tk ≤ IntKind.i64.max) : ∃ M, law33_PairRoundTrips M l tk = some true := by
  refine ⟨6000000, ?_⟩
  unfold law33_PairRoundTrips b_law33_PairRoundTrips
  obtain ⟨b, hb, hb2⟩ := few_is 6000000 (by omega) l fun x hx => (q0.1 x hx).2.2.2.1
  rw [lives_true 6000000 (by omega), hb]
  simp only [Option.bind_some, Bool.not_true, Bool.cond_false]
  cases b with
  | false => rfl
  | true =>
    have hl := hb2 rfl
    have hen := encl_len l
    simp only [Bool.not_true, Bool.cond_false]
    by_cases h1 : tk < 1
    · rw [bif_pos h1]
    rw [bif_neg h1]
    by_cases h2 : tk > 1000
    · rw [bif_pos h2]
    rw [bif_neg h2]
    rw [(encode_is 6000000 (by omega) (Pair.mk 1099511627776) l).1]
    have hcv : CV (Pair.mk 1099511627776) := by unfold CV; dsimp only; omega
    simp only [Option.bind_some, bne_if]
    unfold encd
    rw [if_pos hcv]
    by_cases h3 : l.length > 1024
    · rw [if_pos h3]; rfl
    rw [if_neg h3]
    by_cases h4 : (encl l).1 = 0
    · rw [if_pos h4]
      obtain ⟨hx, hbk⟩ := encl_ok h4
      rw [hbk] at hen ⊢
      dsimp only
      rw [if_pos rfl, i64_ok (n := 3 * (l.length : Int)) (by omega), bif_neg (by omega)]
      have hgap := blk_gaps hx
      have h12 := trip_l12 6000000 tk l (Pair.mk 1099511627776) (blk l) (by omega) hgap (blk l) 0 6000000 rfl (by omega)
      have e0 : ((0 : Nat) : Int) = 0 := rfl
      rw [e0] at h12
      rw [h12]
      have hp := packets_l 6000000 tk (by omega) (by omega) (blk l) (by omega) hgap (blk l) 0 6000000 0 [] rfl (by omega) (by omega) ⟨by omega⟩ (by simp only [List.length_nil]; omega)
      rw [e0] at hp
      have hp2 : law33_packets 6000000 (blk l) tk = some (pkts tk 0 (blk l)) := hp
      rw [hp2, Option.bind_some]
      have hpl : ∀ (t : List Item) (a : Int), (pkts tk a t).length = t.length := by
        intro t
        induction t with
        | nil => intro a; rfl
        | cons x t ih => intro a; simp [pkts, ih]
      rw [(decode_is 6000000 (by omega) (Pair.mk 1099511627776) hcv (pkts tk 0 (blk l)) (by rw [hpl]; omega)).1, Option.bind_some]
      obtain ⟨s, evs, r1, r2, r3⟩ := trip tk (by omega) (by omega) l 0 0 0 hx (by omega) (by omega) ⟨by omega⟩
      have hgl := good_len r3
      have hdec : decd (Pair.mk 1099511627776).Timeout (pkts tk 0 (blk l)) = evs := by
        unfold decd
        have : run (Pair.mk 1099511627776).Timeout s00 (pkts tk 0 (blk l)) = (s, evs) := r1
        rw [this]
        simp [fin, r2]
      rw [hdec]
      have := trip_l19 6000000 l evs (by omega) (by omega) hx l 0 6000000 0 evs rfl rfl r3 (by omega) (by omega)
      rw [e0] at this
      exact this
    · rw [if_neg h4]
      dsimp only
      rw [if_neg h4]
      rfl
end Go.Abs.K
