/- MANCHESTER: what is sent is decoded behind other levels. -/
import Derived.Test.YthobjcamfkplkaaP7
set_option linter.unusedVariables false
set_option linter.unusedSimpArgs false
namespace Go.Abs.K
open Go Go.Abs Go.Proofs

def shE (B : Int) (e : Event) : Event := { e with From := e.From + B, To := e.To + B }
theorem bitsE_shift (n d B T : Int) : ∀ (r : List Int) (k : Int), bitsE n d (B + T) r k = (bitsE n d T r k).map (shE B)
  | [], k => rfl
  | x :: r, k => by
    simp only [bitsE, List.map_cons, bitsE_shift n d B T r, shE]
    congr 2 <;> omega
theorem itemE_shift (n d B T : Int) (x : Item) : itemE n d (B + T) x = (itemE n d T x).map (shE B) := by
  unfold itemE
  rw [List.map_append, bitsE_shift]
  congr 1
  split
  · simp only [List.map_cons, List.map_nil, shE]
    congr 2 <;> omega
  · rfl
theorem allE_shift (n d B : Int) : ∀ (l : List Item) (T : Int), allE n d (B + T) l = (allE n d T l).map (shE B)
  | [], T => rfl
  | x :: l, T => by
    simp only [allE, List.map_append]
    rw [← itemE_shift, ← allE_shift n d B l, Int.add_assoc, Int.add_assoc]
/-- Times of what is decoded. -/
theorem edge_bd (n d : Int) (h : OkR n d) (s : State) (t : Int) (hs : 0 ≤ s.From ∧ s.From ≤ 1099511627776) (ht : 0 ≤ t ∧ t ≤ 1099511627776) : ∀ x, x ∈ (edgeA n d s t).2 → 0 ≤ x.From ∧ x.From ≤ 4000000000000 ∧ 0 ≤ x.To ∧ x.To ≤ 4000000000000 := by
  have hq := half_le n d h
  have h5 := h.2.2.2.2
  unfold edgeA
  intro x hx
  repeat' split at hx
  all_goals first | (cases hx; done) | skip
  all_goals
    simp only [List.mem_singleton] at hx
    subst hx
    dsimp only
    omega
theorem run_bd (c : Manchester) (h : OkR c.T_Num c.T_Den) : ∀ (l : List Event) (s : State), Wf s → ∀ x, x ∈ (runA 0 c s l).2 → 0 ≤ x.From ∧ x.From ≤ 4000000000000 ∧ 0 ≤ x.To ∧ x.To ≤ 4000000000000
  | [], s, hs, x, hx => by cases hx
  | e :: l, s, hs, x, hx => by
    simp only [runA, List.mem_append] at hx
    rcases hx with hx | hx
    · unfold stepV stepA at hx
      rw [if_pos rfl] at hx
      by_cases hi : In s e
      · rw [if_pos hi] at hx
        have hf := in_from hs hi
        split at hx
        · cases hx
        · exact edge_bd _ _ h { s with Aux := 1, At := e.To, Prev := sg c e.Value } e.From ⟨hs.from_.1, by have := hs.from_; dsimp only; omega⟩ ⟨hf.2.1, hf.2.2.1⟩ x hx
      · rw [if_neg hi] at hx; cases hx
    · exact run_bd c h l _ (stepV_wf 0 c s e hs) x hx
theorem long_l5 (M : Nat) (l : List Run) (hf : Fine l) (hl : l.length ≤ 262144) (ht : total l ≤ 1099511627776) : ∀ (r : List Run) (i m : Nat), l.drop i = r → r.length < m → ref08_Long_l5 M m (total (l.take i)) (i : Int) l = some (total l)
  | r, i, 0, _, hm => by omega
  | [], i, m + 1, hr, hm => by
    have := drop_nil hr
    simp only [ref08_Long_l5, b_ref08_Long_l5]
    rw [bif_neg (by omega), List.take_of_length_le this]
  | x :: r, i, m + 1, hr, hm => by
    obtain ⟨h1, h2, h3, h4, h5⟩ := drop_cons hr dflt_Run
    have hx := hf x h5
    have ht0 := fine_take hf i
    have ht1 := fine_take hf (i + 1)
    have he := total_drop hr
    simp only [List.length_cons] at hm
    simp only [ref08_Long_l5, b_ref08_Long_l5, h1]
    rw [bif_pos (by omega), bif_pos (by omega), bif_pos (by omega), next_i i (by omega), ← he, i64_ok (by omega)]
    exact long_l5 M l hf hl ht r (i + 1) m h3 (by omega)
theorem long_is (M : Nat) (l : List Run) (hf : Fine l) (hl : l.length ≤ 262144) (ht : total l ≤ 1099511627776) (hM : 262144 < M) : ref08_Long M l = some (total l) := by
  simp only [ref08_Long, b_ref08_Long, valid_is M l hf hl ht hM, Option.bind_some, Bool.not_true, Bool.cond_false]
  exact long_l5 M l hf hl ht l 0 M rfl (by omega)
theorem res_l24 {M : Nat} (hM : 10000000 < M) (B : Int) (hB : 0 ≤ B ∧ B ≤ 1000000000000) (pre want : List Event) (hp : pre.length + want.length ≤ 1000000) (hw : ∀ x, x ∈ want → 0 ≤ x.From ∧ x.From ≤ 4000000000000 ∧ 0 ≤ x.To ∧ x.To ≤ 4000000000000) :
    ∀ (r : List Event) (i m : Nat), want.drop i = r → r.length < m → law17_ManchesterResumes_l24 M m B (i : Int) (pre ++ want.map (shE B)) want = some true
  | r, i, 0, _, hm => by omega
  | [], i, m + 1, hr, hm => by
    have := drop_nil hr
    simp only [law17_ManchesterResumes_l24, b_law17_ManchesterResumes_l24, awake_true M (show 200 < M by omega), Option.bind_some]
    rw [bif_neg (by omega)]
  | x :: r, i, m + 1, hr, hm => by
    obtain ⟨h1, h2, h3, h4, h5⟩ := drop_cons hr dflt_Event
    have hx := hw x h5
    have hlen : ((pre ++ want.map (shE B)).length : Int) = pre.length + want.length := by simp
    simp only [List.length_cons] at hm
    have hidx : IntKind.i64.wrap (IntKind.i64.wrap (((pre ++ want.map (shE B)).length : Int) - (want.length : Int)) + (i : Int)) = ((pre.length + i : Nat) : Int) := by
      rw [hlen, i64_ok (n := (pre.length : Int) + want.length - want.length) (by omega), i64_ok (by omega)]; omega
    have hget : (pre ++ want.map (shE B)).getD ((pre.length + i : Nat) : Int).toNat dflt_Event = shE B x := by
      rw [Int.toNat_natCast, List.getD_eq_getElem?_getD, List.getElem?_append_right (by omega), Nat.add_sub_cancel_left, List.getElem?_map]
      rw [Int.toNat_natCast, List.getD_eq_getElem?_getD] at h1
      rw [List.getElem?_eq_getElem h2] at h1 ⊢
      simp only [Option.getD_some, Option.map_some] at h1 ⊢
      rw [h1]
    have ih := res_l24 hM B hB pre want hp hw r (i + 1) m h3 (by omega)
    simp only [law17_ManchesterResumes_l24, b_law17_ManchesterResumes_l24, hidx, hget, h1]
    have e1 : IntKind.i64.wrap ((shE B x).From - B) = x.From := by unfold shE; dsimp only; rw [i64_ok (by omega)]; omega
    have e2 : IntKind.i64.wrap ((shE B x).To - B) = x.To := by unfold shE; dsimp only; rw [i64_ok (by omega)]; omega
    rw [e1, e2]
    simp only [shE, beq_self_eq_true, bytes_beq_self, Bool.and_self, Bool.not_true, Bool.cond_false]
    have hl' : ((pre ++ want.map fun e => ({ e with From := e.From + B, To := e.To + B } : Event)).length : Int) = pre.length + want.length := by simp
    rw [bif_pos (by omega), bif_pos (by omega), bif_pos (by omega), bif_pos (by omega), bif_pos (by omega), next_i i (by omega)]
    exact ih
theorem res_l15 {M : Nat} (hM : 10000000 < M) {c : Manchester} (H : Cf M c 0) (items : List Item) (h0 : (encA M 0 c items).2 = 0) (ahead : List Run) (hf : Fine ahead) (ha : ahead.length ≤ 200) (hB : total ahead ≤ 300000000) (hlong : total (line c (runsA c.T_Num c.T_Den items)) ≤ 549755813888) :
    ∀ (r : List Run) (i m : Nat) (acc : List Event), (line c (runsA c.T_Num c.T_Den items)).drop i = r → r.length < m → acc = evs 0 ahead ++ evs (total ahead) ((line c (runsA c.T_Num c.T_Den items)).take i) →
    law17_ManchesterResumes_l15 M m (total ahead) (total ahead + total ((line c (runsA c.T_Num c.T_Den items)).take i)) (i : Int) items c (line c (runsA c.T_Num c.T_Den items)) acc = some true
  | r, i, 0, acc, _, hm, _ => by omega
  | [], i, m + 1, acc, hr, hm, hacc => by
    have hi := drop_nil hr
    obtain ⟨g1, g2, g3, g4, g5, g6, g7⟩ := enc_ok M (by omega) H items h0
    have h := H.ok rfl
    have hok := err_ok M (show 65536 < M by omega) items g2
    rw [List.take_of_length_le hi] at hacc
    subst hacc
    obtain ⟨k1, k2⟩ := exp_is_all (show 65536 < M by omega) H items h0
    have hel := exp_len M (show 65536 < M by omega) H items
    have hat := (fine_total hf).1
    -- what the other levels leave behind
    have hacc1 := run_at c ahead st0 0 (.inl rfl) hf (by omega) (by omega)
    have hrch := rch_run 0 c (evs 0 ahead) st0 rch_st0
    rw [Int.zero_add] at hacc1
    have hfrom : (runA 0 c st0 (evs 0 ahead)).1.From ≤ total ahead := by
      have hw := hrch.wf
      rcases hacc1 with ha1 | ha1
      · have := hw.ax; have := hw.from_; omega
      · have := hw.from_; omega
    rw [line_total] at hlong
    obtain ⟨out, r1, r2, r3⟩ := runs_run c h items hok (runA 0 c st0 (evs 0 ahead)).1 (total ahead) hrch hacc1 hat hfrom (by omega)
    have hdec : decA 0 c (evs 0 ahead ++ evs (total ahead) (line c (runsA c.T_Num c.T_Den items))) = ((runA 0 c st0 (evs 0 ahead)).2 ++ out) ++ (expA M 0 c items).1.map (shE (total ahead)) := by
      unfold decA
      rw [run_append]
      dsimp only
      rw [r1, k1, allE_shift, List.append_assoc]
    have hlen1 := run_len 0 c (evs 0 ahead) st0
    rw [evs_len] at hlen1
    have hbd : ∀ x, x ∈ (expA M 0 c items).1 → 0 ≤ x.From ∧ x.From ≤ 4000000000000 ∧ 0 ≤ x.To ∧ x.To ≤ 4000000000000 := by
      unfold expA
      rw [if_pos h0]
      exact run_bd c h _ st0 wf_st0
    simp only [law17_ManchesterResumes_l15, b_law17_ManchesterResumes_l15]
    rw [bif_neg (by omega), decode_is H _ (by rw [List.length_append, evs_len, evs_len, line_len]; omega) (by rw [List.length_append, evs_len, evs_len, line_len]; omega), expect_is hM H items]
    simp only [Option.bind_some, k2, bne_self_eq_false, Bool.cond_false]
    rw [hdec, bif_neg (by simp only [List.length_append, List.length_map]; omega)]
    exact res_l24 hM (total ahead) ⟨hat, by omega⟩ _ (expA M 0 c items).1 (by rw [List.length_append]; omega) hbd (expA M 0 c items).1 0 M rfl (by omega)
  | x :: r, i, m + 1, acc, hr, hm, hacc => by
    obtain ⟨h1, h2, h3, h4, h5⟩ := drop_cons hr dflt_Run
    obtain ⟨g1, g2, g3, g4, g5, g6, g7⟩ := enc_ok M (by omega) H items h0
    have hfl := line_fine c g4
    have hx := hfl x h5
    have ht0 := fine_take hfl i
    have ht1 := fine_take hfl (i + 1)
    have he := total_drop hr
    have hat := (fine_total hf).1
    have hll := line_len c (runsA c.T_Num c.T_Den items)
    simp only [List.length_cons] at hm
    have hal : acc.length ≤ 300000 := by
      rw [hacc, List.length_append, evs_len, evs_len, List.length_take, line_len]; omega
    have hnext : evs 0 ahead ++ evs (total ahead) ((line c (runsA c.T_Num c.T_Den items)).take (i + 1)) = acc ++ [Event.mk 1 (total ahead + total ((line c (runsA c.T_Num c.T_Den items)).take i)) (total ahead + total ((line c (runsA c.T_Num c.T_Den items)).take i) + x.Ticks) x.Level 0 (bs []) 0] := by
      have hxe : (line c (runsA c.T_Num c.T_Den items))[i] = x := by
        rw [Int.toNat_natCast, List.getD_eq_getElem?_getD, List.getElem?_eq_getElem h2] at h1
        exact h1
      rw [List.take_succ_eq_append_getElem h2, evs_append, hacc, List.append_assoc, hxe]; rfl
    have ih := res_l15 hM H items h0 ahead hf ha hB hlong r (i + 1) m _ h3 (by omega) hnext.symm
    simp only [law17_ManchesterResumes_l15, b_law17_ManchesterResumes_l15, h1]
    rw [bif_pos (by omega), bif_pos (by omega), bif_pos (by omega), bif_pos (by omega), bif_pos (by omega), bif_pos (by omega), bif_pos (by omega), bif_pos (by omega), next_i i (by omega), i64_ok (n := total ahead + total ((line c (runsA c.T_Num c.T_Den items)).take i) + x.Ticks) (by omega)]
    rw [he, ← Int.add_assoc] at ih
    exact ih
theorem res_l7 {M : Nat} (hM : 10000000 < M) {c : Manchester} (H : Cf M c 0) (items : List Item) (h0 : (encA M 0 c items).2 = 0) (ahead : List Run) (ha : ahead.length ≤ 200) (hw : ∀ r, r ∈ ahead → -9223372036854775808 ≤ r.Ticks ∧ r.Ticks ≤ 9223372036854775807) (hlong : total (line c (runsA c.T_Num c.T_Den items)) ≤ 549755813888) :
    ∀ (r : List Run) (i m : Nat) (acc : List Event), ahead.drop i = r → r.length < m → i ≤ ahead.length → Fine (ahead.take i) → total (ahead.take i) ≤ 1048576 * i → acc = evs 0 (ahead.take i) →
    law17_ManchesterResumes_l7 M m (total (ahead.take i)) (i : Int) ahead items c (line c (runsA c.T_Num c.T_Den items)) acc = some true
  | r, i, 0, acc, _, hm, _, _, _, _ => by omega
  | [], i, m + 1, acc, hr, hm, hi, hf, hb, hacc => by
    have hi2 := drop_nil hr
    have hii : i = ahead.length := by omega
    subst hii
    rw [List.take_length] at hf hb hacc ⊢
    have hll := line_len c (runsA c.T_Num c.T_Den items)
    obtain ⟨g1, g2, g3, g4, g5, g6, g7⟩ := enc_ok M (by omega) H items h0
    simp only [law17_ManchesterResumes_l7, b_law17_ManchesterResumes_l7]
    rw [bif_neg (by omega)]
    have := res_l15 hM H items h0 ahead hf ha (by omega) hlong (line c (runsA c.T_Num c.T_Den items)) 0 M acc rfl (by omega) (by rw [hacc]; simp [evs])
    simpa [total] using this
  | x :: r, i, m + 1, acc, hr, hm, hi, hf, hb, hacc => by
    obtain ⟨h1, h2, h3, h4, h5⟩ := drop_cons hr dflt_Run
    simp only [List.length_cons] at hm
    have hal : acc.length ≤ 200 := by rw [hacc, evs_len, List.length_take]; omega
    have aw := awake_true M (show 200 < M by omega)
    have ht0 := (fine_total hf).1
    simp only [law17_ManchesterResumes_l7, b_law17_ManchesterResumes_l7, h1, aw, Option.bind_some]
    simp only [bif_pos (show (i : Int) < (ahead.length : Int) by omega), bif_pos (show (0 : Int) ≤ (i : Int) by omega)]
    rw [bif_if]
    by_cases c1 : x.Level < 0
    · rw [if_pos c1]
    rw [if_neg c1, bif_if]
    by_cases c2 : x.Level > 1
    · rw [if_pos c2]
    rw [if_neg c2, bif_if]
    by_cases c3 : x.Ticks < 1
    · rw [if_pos c3]
    rw [if_neg c3, bif_if]
    by_cases c4 : x.Ticks > 1048576
    · rw [if_pos c4]
    rw [if_neg c4, bif_pos (by omega), next_i i (by omega)]
    have he := total_drop hr
    have hxe : ahead[i] = x := by
      rw [Int.toNat_natCast, List.getD_eq_getElem?_getD, List.getElem?_eq_getElem h2] at h1
      exact h1
    have htk : ahead.take (i + 1) = ahead.take i ++ [x] := by rw [List.take_succ_eq_append_getElem h2, hxe]
    have hf' : Fine (ahead.take (i + 1)) := by
      rw [htk]
      intro y hy
      rcases List.mem_append.1 hy with hy | hy
      · exact hf y hy
      · simp only [List.mem_singleton] at hy; subst hy; exact ⟨by omega, by omega, by omega⟩
    rw [i64_ok (n := total (ahead.take i) + x.Ticks) (by omega), ← he]
    have hnext : acc ++ [Event.mk 1 (total (ahead.take i)) (total (ahead.take (i + 1))) x.Level 0 (bs []) 0] = evs 0 (ahead.take (i + 1)) := by
      have he' := he
      rw [htk] at he'
      rw [htk, evs_append, hacc, he', Int.zero_add]; rfl
    exact res_l7 hM H items h0 ahead ha hw hlong r (i + 1) m _ h3 (by omega) (by omega) hf' (by rw [he]; omega) hnext
theorem ManchesterResumes_true (c : Manchester) (ahead : List Run) (l : List Item) (hc : wf_Manchester c) (ha : (∀ x, x ∈ ahead → wf_Run x) ∧ ahead.length * Try.prog.bytesOf 59 ≤ 140737488351232) (hl : (∀ x, x ∈ l → wf_Item x) ∧ l.length * Try.prog.bytesOf 52 ≤ 140737488351232) : ∃ M, law17_ManchesterResumes M c ahead l = some true := by
  obtain ⟨M, hM⟩ := big
  obtain ⟨v, H⟩ := cf_some M (by omega) c
  refine ⟨M, ?_⟩
  have aw := awake_true M (show 200 < M by omega)
  simp only [law17_ManchesterResumes, b_law17_ManchesterResumes, encode_is (show 10000000 < M by omega) H l, Option.bind_some, bne_if, aw, bif_if]
  by_cases h0 : (encA M v c l).2 = 0
  · obtain ⟨g1, g2, g3, g4, g5, g6, g7⟩ := enc_ok M (by omega) H l h0
    subst g1
    have hll := line_len c (runsA c.T_Num c.T_Den l)
    have hlt := line_total c (runsA c.T_Num c.T_Den l)
    rw [if_pos h0]
    by_cases c1 : (ahead.length : Int) > 200
    · rw [if_pos c1]
    rw [if_neg c1, g3, long_is M _ (line_fine c g4) (by omega) (by omega) (by omega), Option.bind_some]
    by_cases c2 : total (line c (runsA c.T_Num c.T_Den l)) > 549755813888
    · rw [if_pos c2]
    rw [if_neg c2]
    refine res_l7 (show 10000000 < M by omega) H l h0 ahead (by omega) (fun r hr => ?_) (by omega) ahead 0 M [] rfl (by omega) (by omega) (fun r hr => by cases hr) (by simp [total]) rfl
    have := ha.1 r hr
    unfold wf_Run at this
    rw [i64_min, i64_max] at this
    omega
  · rw [if_neg h0]
end Go.Abs.K
