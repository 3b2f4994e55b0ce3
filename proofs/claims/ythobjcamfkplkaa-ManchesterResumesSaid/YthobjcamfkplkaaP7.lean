/- MANCHESTER: what is sent is decoded, also behind other levels. -/
import Derived.Test.YthobjcamfkplkaaP6
set_option linter.unusedVariables false
set_option linter.unusedSimpArgs false
namespace Go.Abs.K
open Go Go.Abs Go.Proofs

theorem flat_fine (n d : Int) (h : OkR n d) : ∀ (r : List Item), (∀ x, x ∈ r → ItemOk x) → FineP (r.flatMap (itemP n d))
  | [], _ => fun p hp => by cases hp
  | x :: r, hr => by
    rw [List.flatMap_cons, fineP_append]
    exact ⟨(item_fine n d h x (hr x List.mem_cons_self)).1, flat_fine n d h r fun y hy => hr y (List.mem_cons_of_mem _ hy)⟩
theorem all_fine (n d : Int) (h : OkR n d) (l : List Item) (hl : ∀ x, x ∈ l → ItemOk x) : FineP (allP n d l) := by
  have h4 := tm4 n d h
  unfold allP
  rw [fineP_cons]
  exact ⟨⟨h4.1, by omega, by omega⟩, flat_fine n d h l hl⟩
/-- What is told of a state that was reached. -/
structure Rch (s : State) : Prop where
  wf : Wf s
  cnt : s.Count = 0
  acc : s.Acc = 0
  dat : s.Data = bs []
theorem rch_st0 : Rch st0 := ⟨wf_st0, rfl, rfl, rfl⟩
theorem edge_keep (n d : Int) (s : State) (t : Int) : (edgeA n d s t).1.Count = s.Count ∧ (edgeA n d s t).1.Acc = s.Acc ∧ (edgeA n d s t).1.Data = s.Data := by
  unfold edgeA
  repeat' split
  all_goals exact ⟨rfl, rfl, rfl⟩
theorem step_keep (v : Int) (c : Manchester) (s : State) (e : Event) : (stepV v c s e).1.Count = s.Count ∧ (stepV v c s e).1.Acc = s.Acc ∧ (stepV v c s e).1.Data = s.Data := by
  unfold stepV stepA
  repeat' split
  all_goals first | exact ⟨rfl, rfl, rfl⟩ | exact edge_keep ..
theorem rch_run (v : Int) (c : Manchester) : ∀ (l : List Event) (s : State), Rch s → Rch (runA v c s l).1
  | [], s, h => h
  | e :: l, s, h => by
    obtain ⟨k1, k2, k3⟩ := step_keep v c s e
    exact rch_run v c l _ ⟨stepV_wf v c s e h.wf, by rw [k1]; exact h.cnt, by rw [k2]; exact h.acc, by rw [k3]; exact h.dat⟩
/-- The runs of items, decoded from any state that was reached. -/
theorem runs_run (c : Manchester) (h : OkR c.T_Num c.T_Den) (l : List Item) (hl : ∀ x, x ∈ l → ItemOk x) (s : State) (B : Int) (hs : Rch s) (ha : Acc s B) (h0 : 0 ≤ B) (hB : s.From ≤ B) (ht : B + total (runsA c.T_Num c.T_Den l) ≤ 1099511627776) :
    ∃ out, (runA 0 c s (evs B (line c (runsA c.T_Num c.T_Den l)))).2 = out ++ allE c.T_Num c.T_Den (B + tm c.T_Num c.T_Den 4) l ∧ out.length ≤ 1 ∧ (s.Prev = 0 → out = []) := by
  have hp := all_fine _ _ h l hl
  have hn : 0 < c.T_Num := by unfold OkR at h; omega
  have htot : total (runsA c.T_Num c.T_Den l) = sumP (allP c.T_Num c.T_Den l) := by
    unfold runsA; rw [puts_total, total_nil]; omega
  have h4 := tm4 _ _ h
  have t4 := tm_diff c.T_Num c.T_Den 0 4 h (by omega) (by omega)
  rw [tm_zero] at t4
  simp only [Int.sub_zero] at t4
  have hd4 : 4 * c.T_Den ≤ c.T_Num := h.2.2.1
  have hd1 : 1 ≤ c.T_Den := h.1
  have e1 : runA 0 c s (evs B (line c (runsA c.T_Num c.T_Den l))) = runP c.T_Num c.T_Den s B (allP c.T_Num c.T_Den l) := by
    have := join_all c s B ha h0 (allP c.T_Num c.T_Den l) [] (fun r hr => by cases hr) hp (by rw [total_nil]; omega)
    have e0 : evs B (line c []) = [] := rfl
    rw [e0, total_nil, Int.add_zero, List.nil_append] at this
    rw [← runP_is c _ s B ha hp h0 (by omega), ← this]
    rfl
  have hne : ¬ tm c.T_Num c.T_Den 4 = 0 := fun e => by rw [e] at t4; omega
  have hrest : ∃ out, runP c.T_Num c.T_Den s B [(0, tm c.T_Num c.T_Den 4)] = ((sigA c.T_Num c.T_Den s B (tm c.T_Num c.T_Den 4) 0).1, out) ∧ Rest c.T_Num c.T_Den (sigA c.T_Num c.T_Den s B (tm c.T_Num c.T_Den 4) 0).1 (B + tm c.T_Num c.T_Den 4) ∧ out.length ≤ 1 ∧ (s.Prev = 0 → out = []) := by
    refine ⟨(sigA c.T_Num c.T_Den s B (tm c.T_Num c.T_Den 4) 0).2, ?_, ?_, ?_, ?_⟩
    · simp only [runP]
      rw [if_neg hne]
      simp
    · have base : ∀ ph fr, (ph = 0 ∨ ph = 1) → fr ≤ B → Rest c.T_Num c.T_Den (mkS ph (B + tm c.T_Num c.T_Den 4) fr 0) (B + tm c.T_Num c.T_Den 4) := fun ph fr hph hfr => by
        refine ⟨ph, fr, rfl, ?_⟩
        rcases hph with hph | hph
        · exact .inl hph
        · refine .inr ⟨hph, ?_⟩
          have e : (B + tm c.T_Num c.T_Den 4 - fr) * c.T_Den = (B - fr) * c.T_Den + tm c.T_Num c.T_Den 4 * c.T_Den := by rw [← Int.add_mul]; congr 1; omega
          have : 0 ≤ (B - fr) * c.T_Den := Int.mul_nonneg (by omega) (by omega)
          rw [e]; omega
      have hst : ∀ pv ph at_ fr, ({ s with Phase := ph, At := at_, From := fr, Aux := 1, Prev := pv } : State) = mkS ph at_ fr pv := fun pv ph at_ fr => by
        unfold mkS
        rw [hs.cnt, hs.acc, hs.dat]
      unfold sigA
      by_cases hpv : (0 : Int) = s.Prev
      · rw [if_pos hpv]
        have := hst s.Prev s.Phase (B + tm c.T_Num c.T_Den 4) s.From
        have e : ({ s with Aux := 1, At := B + tm c.T_Num c.T_Den 4 } : State) = mkS s.Phase (B + tm c.T_Num c.T_Den 4) s.From 0 := by rw [hpv]; exact this
        dsimp only
        rw [e]
        exact base _ _ hs.wf.ph hB
      · rw [if_neg hpv]
        have e : ({ s with Aux := 1, At := B + tm c.T_Num c.T_Den 4, Prev := 0 } : State) = mkS s.Phase (B + tm c.T_Num c.T_Den 4) s.From 0 := hst 0 s.Phase _ s.From
        rw [e]
        unfold edgeA
        have f1 : ({ mkS s.Phase (B + tm c.T_Num c.T_Den 4) s.From 0 with Phase := 0 } : State) = mkS 0 (B + tm c.T_Num c.T_Den 4) s.From 0 := rfl
        have f2 : ({ mkS s.Phase (B + tm c.T_Num c.T_Den 4) s.From 0 with From := B } : State) = mkS s.Phase (B + tm c.T_Num c.T_Den 4) B 0 := rfl
        have f3 : ¬ (mkS s.Phase (B + tm c.T_Num c.T_Den 4) s.From 0).Prev = 1 := by show ¬ (0 : Int) = 1; omega
        split
        · first
            | exact base 0 s.From (.inl rfl) hB
            | (rw [if_neg f3]; exact base 0 s.From (.inl rfl) hB)
        · split
          · exact base s.Phase s.From hs.wf.ph hB
          · exact base s.Phase B hs.wf.ph (Int.le_refl B)
    · unfold sigA
      split
      · simp
      · exact edge_len ..
    · intro hz
      unfold sigA
      rw [if_pos hz.symm]
  obtain ⟨out, r1, r2, r3, r4⟩ := hrest
  refine ⟨out, ?_, r3, r4⟩
  rw [e1]
  unfold allP
  rw [show ((0 : Int), tm c.T_Num c.T_Den 4) :: l.flatMap (itemP c.T_Num c.T_Den) = [(0, tm c.T_Num c.T_Den 4)] ++ l.flatMap (itemP c.T_Num c.T_Den) from rfl, runP_append, r1]
  have : sumP [((0 : Int), tm c.T_Num c.T_Den 4)] = tm c.T_Num c.T_Den 4 := by simp [sumP]
  rw [this]
  dsimp only
  rw [items_run _ _ h l _ _ hl r2]
theorem exp_is_all {M : Nat} (hM : 65536 < M) {c : Manchester} {v : Int} (H : Cf M c v) (l : List Item) (h0 : (encA M v c l).2 = 0) : (expA M v c l).1 = allE c.T_Num c.T_Den (tm c.T_Num c.T_Den 4) l ∧ (expA M v c l).2 = 0 := by
  obtain ⟨g1, g2, g3, g4, g5, g6, g7⟩ := enc_ok M hM H l h0
  subst g1
  have h := H.ok rfl
  obtain ⟨out, r1, r2, r3⟩ := runs_run c h l (err_ok M hM l g2) st0 0 rch_st0 (.inl rfl) (by omega) (by decide) (by omega)
  have ho := r3 rfl
  subst ho
  unfold expA
  rw [if_pos h0, g3]
  refine ⟨?_, rfl⟩
  show (runA 0 c st0 (evs 0 (line c (runsA c.T_Num c.T_Den l)))).2 = _
  rw [r1, List.nil_append, Int.zero_add]

/-! ### Round trips -/
theorem bit_order (n d : Int) (h : OkR n d) (T k : Int) (hk : 0 ≤ k) : T + tm n d (2 * k + 1) + n / (2 * d) < T + tm n d (2 * (k + 1) + 1) := by
  have d2 := tm_diff n d (2 * k + 1) (2 * (k + 1) + 1) h (by omega) (by omega)
  rw [show 2 * (k + 1) + 1 - (2 * k + 1) = 2 by omega] at d2
  obtain ⟨h1, h2, h3, h4, h5⟩ := h
  have e1 := Int.mul_ediv_add_emod n (2 * d)
  have e2 := Int.emod_nonneg n (show (2 * d) ≠ 0 by omega)
  have e3 : 2 * d * (n / (2 * d)) = 2 * (n / (2 * d) * d) := by rw [Int.mul_assoc, Int.mul_comm d]
  generalize tm n d (2 * (k + 1) + 1) = a at *
  generalize tm n d (2 * k + 1) = b at *
  generalize n / (2 * d) = q at *
  by_cases c : a - b ≤ q
  · exfalso
    have : (a - b) * d ≤ q * d := Int.mul_le_mul_of_nonneg_right c (by omega)
    omega
  · omega
theorem bitsE_len (n d T : Int) : ∀ (r : List Int) (k : Int), (bitsE n d T r k).length = r.length
  | [], k => rfl
  | x :: r, k => by simp [bitsE, bitsE_len n d T r]
theorem found_l5 (M : Nat) {n d : Int} (h : OkR n d) (l : List Event) (hl : l.length ≤ 1000000) (x : Item) (hx : ItemOk x) (at_ N : Nat) (hN : N ≤ x.Data.size) (T : Int) (z : List Event)
    (hz : x.Fault = 5 → ∃ f t z', z = Event.mk 2 f t 0 0 (bs []) 5 :: z') : ∀ (r : List Int) (k m : Nat), (((ofBytes x.Data).map (· - 48)).take N).drop k = r → r.length < m → k ≤ N → l.drop (at_ + k) = bitsE n d T r k ++ z →
    law17_found_l5 M m (at_ : Int) (N : Int) (k : Int) l x = some (((if x.Fault = 5 then N + 1 else N : Nat)) : Int)
  | r, k, 0, _, hm, _, _ => by omega
  | [], k, m + 1, hr, hm, hk, hd => by
    have hs := hx.size
    have hkN := drop_nil hr
    rw [List.length_take, List.length_map, ofBytes_length] at hkN
    have hk' : k = N := by omega
    subst hk'
    simp only [law17_found_l5, b_law17_found_l5, beq_if]
    rw [bif_neg (by omega)]
    simp only [bitsE, List.nil_append] at hd
    by_cases hf : x.Fault = 5
    · obtain ⟨f, t, z', rfl⟩ := hz hf
      obtain ⟨h1, h2, h3, h4, h5⟩ := drop_cons hd dflt_Event
      have ha : IntKind.i64.wrap ((at_ : Int) + (k : Int)) = ((at_ + k : Nat) : Int) := by rw [i64_ok (by omega)]; omega
      rw [if_neg (by omega), ha, h1, if_pos hf]
      simp only [bif_neg (show ¬ ((at_ + k : Nat) : Int) ≥ (l.length : Int) by omega), bif_pos (show (0 : Int) ≤ ((at_ + k : Nat) : Int) by omega), bif_pos (show ((at_ + k : Nat) : Int) < (l.length : Int) by omega), bne_self_eq_false, Bool.cond_false]
      rw [i64_ok (by omega)]; rfl
    · have hf0 : x.Fault = 0 := by have := hx.fault; omega
      rw [if_pos hf0, if_neg hf]
  | v :: r, k, m + 1, hr, hm, hk, hd => by
    have hs := hx.size
    obtain ⟨b1, b2, b3, b4⟩ := byteAt_bit hr
    simp only [bitsE, List.cons_append] at hd
    obtain ⟨h1, h2, h3, h4, h5⟩ := drop_cons hd dflt_Event
    simp only [List.length_cons] at hm
    have ho := bit_order n d h T k (by omega)
    have hv : v = 0 ∨ v = 1 := by
      have hmem : v ∈ ((ofBytes x.Data).map (· - 48)) := List.mem_of_mem_take (List.mem_of_mem_drop (i := k) (by rw [hr]; simp))
      simp only [List.mem_map] at hmem
      obtain ⟨b, hb, rfl⟩ := hmem
      have := hx.bits b hb
      omega
    have ha : IntKind.i64.wrap ((at_ : Int) + (k : Int)) = ((at_ + k : Nat) : Int) := by rw [i64_ok (by omega)]; omega
    have ih := found_l5 M h l hl x hx at_ N hN T z hz r (k + 1) m b4 (by omega) (by omega) (by rw [← Nat.add_assoc]; simpa using h3)
    simp only [law17_found_l5, b_law17_found_l5, ha, h1, b1, next_i k (by omega)]
    rw [bif_pos (by omega)]
    simp only [bif_neg (show ¬ ((at_ + k : Nat) : Int) ≥ (l.length : Int) by omega), bif_pos (show (0 : Int) ≤ ((at_ + k : Nat) : Int) by omega), bif_pos (show ((at_ + k : Nat) : Int) < (l.length : Int) by omega), bne_self_eq_false, Bool.cond_false,
      bif_pos (show (0 : Int) ≤ (k : Int) by omega), bif_pos (show (k : Int) < (x.Data.size : Int) by omega), i64_ok (n := v + 48) (by omega), show v + 48 - 48 = v by omega, i64_ok (n := v) (by omega), bif_neg (show ¬ (T + tm n d (2 * k + 1) + n / (2 * d) ≥ T + tm n d (2 * (k + 1) + 1)) by omega)]
    exact ih
theorem bits_tail (x : Item) (hx : ItemOk x) : (bitsI x).tail = ((ofBytes x.Data).map (· - 48)).take (if x.Fault = 5 then x.Aux.toNat else x.Data.size) := by
  unfold bitsI
  split
  · have : 0 ≤ x.Aux ∧ x.Aux < x.Data.size := by have := hx.fault; omega
    rw [show (x.Aux + 1).toNat = x.Aux.toNat + 1 by omega]; rfl
  · have e : ((ofBytes x.Data).map (· - 48)).length = x.Data.size := by rw [List.length_map, ofBytes_length]
    rw [← e, List.take_length]; rfl
theorem itemE_len (n d T : Int) (x : Item) (hx : ItemOk x) : (itemE n d T x).length = (if x.Fault = 5 then x.Aux.toNat + 1 else x.Data.size) := by
  have hs : ((ofBytes x.Data).map (· - 48)).length = x.Data.size := by rw [List.length_map, ofBytes_length]
  unfold itemE
  rw [List.length_append, bitsE_len, bits_tail x hx, List.length_take, hs]
  split
  · have : 0 ≤ x.Aux ∧ x.Aux < x.Data.size := by have := hx.fault; omega
    simp; omega
  · simp
theorem found_is (M : Nat) (hM : 5000 < M) {n d : Int} (h : OkR n d) (l : List Event) (hl : l.length ≤ 1000000) (x : Item) (hx : ItemOk x) (at_ : Nat) (T : Int) (z : List Event) (hd : l.drop at_ = itemE n d T x ++ z) :
    law17_found M l (at_ : Int) x = some ((itemE n d T x).length : Int) := by
  have hs := hx.size
  have hsl : ((ofBytes x.Data).map (· - 48)).length = x.Data.size := by rw [List.length_map, ofBytes_length]
  have hbt := bits_tail x hx
  rw [itemE_len n d T x hx]
  simp only [law17_found, b_law17_found, beq_if]
  unfold itemE at hd
  rw [hbt, List.append_assoc] at hd
  by_cases hf : x.Fault = 5
  · have hfa : 0 ≤ x.Aux ∧ x.Aux < x.Data.size := by have := hx.fault; omega
    simp only [if_pos hf] at hd ⊢
    obtain ⟨j, hj⟩ := Int.eq_ofNat_of_zero_le hfa.1
    rw [hj] at hd hfa ⊢
    simp only [Int.toNat_natCast] at hd ⊢
    have := found_l5 M h l hl x hx at_ j (by omega) T _ (fun _ => ⟨_, _, _, rfl⟩) (((ofBytes x.Data).map (· - 48)).take j) 0 M rfl (by rw [List.length_take]; omega) (by omega) (by simpa using hd)
    rw [if_pos hf] at this
    exact this
  · simp only [if_neg hf] at hd ⊢
    have := found_l5 M h l hl x hx at_ x.Data.size (Nat.le_refl _) T _ (fun h => absurd h hf) (((ofBytes x.Data).map (· - 48)).take x.Data.size) 0 M rfl (by rw [List.length_take]; omega) (by omega) (by simpa using hd)
    rw [if_neg hf] at this
    exact this
theorem rt_l9 {M : Nat} (hM : 10000000 < M) {n d : Int} (h : OkR n d) (items : List Item) (hi : items.length ≤ 1024) (hok : ∀ x, x ∈ items → ItemOk x) (l : List Event) (hl : l.length ≤ 1000000) : ∀ (r : List Item) (i at_ m : Nat) (T : Int), items.drop i = r → r.length < m → at_ ≤ l.length → l.drop at_ = allE n d T r →
    law17_ManchesterRoundTrips_l9 M m (at_ : Int) (i : Int) items l = some true
  | r, i, at_, 0, T, _, hm, _, _ => by omega
  | [], i, at_, m + 1, T, hr, hm, ha, hd => by
    have := drop_nil hr
    have h2 := drop_nil (show l.drop at_ = [] from hd)
    have : at_ = l.length := by omega
    subst this
    simp only [law17_ManchesterRoundTrips_l9, b_law17_ManchesterRoundTrips_l9, beq_self_eq_true, Bool.cond_true, awake_true M (show 200 < M by omega), Option.bind_some]
    rw [bif_neg (by omega)]
  | x :: r, i, at_, m + 1, T, hr, hm, ha, hd => by
    obtain ⟨h1, h2, h3, h4, h5⟩ := drop_cons hr dflt_Item
    have hx := hok x h5
    simp only [List.length_cons] at hm
    simp only [allE] at hd
    have hf := found_is M (by omega) h l hl x hx at_ (T + x.Gap) _ hd
    have hlen : at_ + (itemE n d (T + x.Gap) x).length ≤ l.length := by
      have := congrArg List.length hd
      rw [List.length_drop, List.length_append] at this
      by_cases c : at_ ≤ l.length <;> omega
    have hd2 : l.drop (at_ + (itemE n d (T + x.Gap) x).length) = allE n d (T + sumP (itemP n d x)) r := by
      rw [← List.drop_drop, hd, List.drop_left']; rfl
    have ih := rt_l9 hM h items hi hok l hl r (i + 1) (at_ + (itemE n d (T + x.Gap) x).length) m _ h3 (by omega) hlen hd2
    simp only [law17_ManchesterRoundTrips_l9, b_law17_ManchesterRoundTrips_l9, h1, hf, Option.bind_some]
    rw [bif_pos (by omega), bif_pos (by omega), bif_pos (by omega), bif_neg (by omega), next_i i (by omega), i64_ok (by omega)]
    exact ih
theorem ManchesterRoundTrips_true (c : Manchester) (l : List Item) (hc : wf_Manchester c) (hl : (∀ x, x ∈ l → wf_Item x) ∧ l.length * Try.prog.bytesOf 52 ≤ 140737488351232) : ∃ M, law17_ManchesterRoundTrips M c l = some true := by
  obtain ⟨M, hM⟩ := big
  obtain ⟨v, H⟩ := cf_some M (by omega) c
  refine ⟨M, ?_⟩
  have he := exp_len M (by omega) H l
  simp only [law17_ManchesterRoundTrips, b_law17_ManchesterRoundTrips, encode_is (show 10000000 < M by omega) H l, expect_is (show 10000000 < M by omega) H l, Option.bind_some, bne_if]
  by_cases h0 : (encA M v c l).2 = 0
  · obtain ⟨g1, g2, g3, g4, g5, g6, g7⟩ := enc_ok M (by omega) H l h0
    obtain ⟨k1, k2⟩ := exp_is_all (by omega) H l h0
    rw [k2, if_pos h0.symm, if_pos rfl]
    exact rt_l9 (by omega) (H.ok g1) l g7 (err_ok M (by omega) l g2) (expA M v c l).1 (by omega) l 0 0 M _ rfl (by omega) (by omega) k1
  · have e2 : expA M v c l = ([], (encA M v c l).2) := by unfold expA; rw [if_neg h0]
    rw [e2]
    simp only [if_true, if_neg h0, awake_true M (show 200 < M by omega), Option.bind_some]
    rfl
end Go.Abs.K
