/- MANCHESTER: the two conventions. -/
import Derived.Test.YthobjcamfkplkaaP4
set_option linter.unusedVariables false
set_option linter.unusedSimpArgs false
namespace Go.Abs.K
open Go Go.Abs Go.Proofs

def oth (c : Manchester) : Manchester := { c with Ieee := !c.Ieee }
theorem cf_oth {M : Nat} {c : Manchester} {v : Int} (H : Cf M c v) : Cf M (oth c) v :=
  ⟨Eq.trans (show manchester_Check M (oth c) = manchester_Check M c from rfl) H.p, Eq.trans (show ref17_Check M (oth c) = ref17_Check M c from rfl) H.r, H.ok⟩
theorem sg_oth (c : Manchester) (v : Int) : sg (oth c) v = 1 - sg c v := by
  unfold sg oth
  cases c.Ieee <;> simp <;> omega
def ivE (e : Event) : Event := if e.Kind = 1 ∧ (e.Value = 0 ∨ e.Value = 1) then { e with Value := 1 - e.Value } else e
theorem vld_iv (e : Event) (h : e.Value = 0 ∨ e.Value = 1) : Vld { e with Value := 1 - e.Value } ↔ Vld e := by
  unfold Vld
  dsimp only
  omega
theorem step_oth (v : Int) (c : Manchester) (s : State) (e : Event) : stepV v (oth c) s (ivE e) = stepV v c s e := by
  unfold stepV
  by_cases hv : v = 0
  · rw [if_pos hv, if_pos hv]
    unfold stepA ivE
    by_cases hc : e.Kind = 1 ∧ (e.Value = 0 ∨ e.Value = 1)
    · rw [if_pos hc]
      have hin : In s { e with Value := 1 - e.Value } ↔ In s e := by
        unfold In
        rw [vld_iv e hc.2]
        dsimp only
        have := hc.2
        constructor
        · rintro ⟨a, b, c, d, e', f, g⟩; exact ⟨a, b, c, d, by omega, by omega, g⟩
        · rintro ⟨a, b, c, d, e', f, g⟩; exact ⟨a, b, c, d, by omega, by omega, g⟩
      by_cases hi : In s e
      · have hs : sg (oth c) (1 - e.Value) = sg c e.Value := by
          unfold sg oth
          cases c.Ieee <;> simp <;> omega
        rw [if_pos (hin.2 hi), if_pos hi]
        simp only [hs]
        rfl
      · rw [if_neg (fun h => hi (hin.1 h)), if_neg hi]
    · rw [if_neg hc]
      by_cases hi : In s e
      · exfalso
        obtain ⟨a, b, c, d, e', f, g⟩ := hi
        exact hc ⟨b, by omega⟩
      · rw [if_neg hi, if_neg hi]
  · rw [if_neg hv, if_neg hv]
theorem run_oth (v : Int) (c : Manchester) : ∀ (l : List Event) (s : State), runA v (oth c) s (l.map ivE) = runA v c s l
  | [], s => rfl
  | e :: l, s => by simp only [List.map_cons, runA, step_oth, run_oth v c l]
theorem line_oth (c : Manchester) (l : List Run) : line (oth c) l = inv (line c l) := by
  simp only [line, inv, List.map_map]
  apply List.map_congr_left
  intro r _
  simp [sg_oth]
theorem inv_l7 {M : Nat} (hM : 10000000 < M) {c : Manchester} {v : Int} (H : Cf M c v) (items : List Item) (l : List Event) (hl : l.length ≤ 2000) (fin : Bool)
    (hfin : ∀ m, 0 < m → law17_ManchesterInverts_l7 M m (l.length : Int) l items c (oth c) (l.map ivE) = some fin) : ∀ (r : List Event) (i m : Nat) (acc : List Event), l.drop i = r → r.length < m → acc = (l.take i).map ivE → i ≤ l.length →
    law17_ManchesterInverts_l7 M m (i : Int) l items c (oth c) acc = some fin
  | r, i, 0, acc, _, hm, _, _ => by omega
  | [], i, m + 1, acc, hr, hm, ha, hi => by
    have := drop_nil hr
    have hi' : i = l.length := by omega
    subst hi'
    rw [List.take_length] at ha
    subst ha
    exact hfin (m + 1) (by omega)
  | x :: r, i, m + 1, acc, hr, hm, ha, hi => by
    obtain ⟨h1, h2, h3, h4, h5⟩ := drop_cons hr dflt_Event
    simp only [List.length_cons] at hm
    have hal : acc.length ≤ 2000 := by rw [ha]; simp; omega
    have hnext : (l.take (i + 1)).map ivE = acc ++ [ivE x] := by
      rw [List.take_succ_eq_append_getElem h2, List.map_append, ha]
      have : l[i] = x := by
        rw [Int.toNat_natCast, List.getD_eq_getElem?_getD, List.getElem?_eq_getElem h2] at h1
        exact h1
      rw [this]; rfl
    have ih := inv_l7 hM H items l hl fin hfin r (i + 1) m (acc ++ [ivE x]) h3 (by omega) hnext.symm (by omega)
    simp only [law17_ManchesterInverts_l7, b_law17_ManchesterInverts_l7, h1, beq_if]
    rw [bif_pos (by omega), bif_pos (by omega), bif_pos (by omega), next_i i (by omega)]
    simp only [bif_pos (show (acc.length + 1) * 64 ≤ 140737488355328 by omega)]
    unfold ivE at ih
    by_cases c1 : x.Kind = 1
    · by_cases c2 : x.Value = 0
      · rw [if_pos ⟨c1, .inl c2⟩] at ih
        rw [if_pos c1, if_pos c2, i64_ok (by omega)]
        exact ih
      · by_cases c3 : x.Value = 1
        · rw [if_pos ⟨c1, .inr c3⟩] at ih
          rw [if_pos c1, if_neg c2, if_pos c3, i64_ok (by omega)]
          exact ih
        · rw [if_neg (by omega)] at ih
          rw [if_pos c1, if_neg c2, if_neg c3]
          exact ih
    · rw [if_neg (fun h => c1 h.1)] at ih
      rw [if_neg c1]
      exact ih
theorem ManchesterInverts_true (c : Manchester) (l : List Event) (items : List Item) (hc : wf_Manchester c) (hl : (∀ x, x ∈ l → wf_Event x) ∧ l.length * Try.prog.bytesOf 29 ≤ 140737488351232) (hi : (∀ x, x ∈ items → wf_Item x) ∧ items.length * Try.prog.bytesOf 52 ≤ 140737488351232) : ∃ M, law17_ManchesterInverts M c l items = some true := by
  obtain ⟨M, hM⟩ := big
  obtain ⟨v, H⟩ := cf_some M (by omega) c
  have H' := cf_oth H
  refine ⟨M, ?_⟩
  simp only [law17_ManchesterInverts, b_law17_ManchesterInverts, bif_if]
  by_cases c1 : (l.length : Int) > 2000
  · rw [if_pos c1, awake_true M (by omega)]; rfl
  rw [if_neg c1, if_pos (by omega)]
  refine inv_l7 (show 10000000 < M by omega) H items l (by omega) true (fun m hm => ?_) l 0 M [] rfl (by omega) rfl (by omega)
  obtain ⟨m, rfl⟩ : ∃ k, m = k + 1 := ⟨m - 1, by omega⟩
  have hd : decA v (oth c) (l.map ivE) = decA v c l := by unfold decA; rw [run_oth]
  have hdl := decA_len v c l
  simp only [law17_ManchesterInverts_l7, b_law17_ManchesterInverts_l7]
  rw [bif_neg (by omega), encode_is (show 10000000 < M by omega) H items, encode_is (show 10000000 < M by omega) H' items, decode_is H l (by omega) (by omega), decode_is H' (l.map ivE) (by simp; omega) (by simp; omega), hd]
  simp only [Option.bind_some, same_self M (decA v c l) (by omega) (by omega), Bool.cond_true]
  have e2 : (encA M v (oth c) items).2 = (encA M v c items).2 := by
    unfold encA
    simp only [apply_ite Prod.snd]
    rfl
  rw [e2]
  simp only [beq_self_eq_true, Bool.cond_true]
  by_cases h0 : (encA M v c items).2 = 0
  · obtain ⟨g1, g2, g3, g4, g5, g6, g7⟩ := enc_ok M (by omega) H items h0
    obtain ⟨k1, k2, k3, k4, k5, k6, k7⟩ := enc_ok M (by omega) H' items (e2.trans h0)
    have e3 : (encA M v (oth c) items).1 = inv (line c (runsA c.T_Num c.T_Den items)) := k3.trans (line_oth c _)
    rw [g3, e3, invert_is M _ (line_fine c g4) (by rw [line_len]; exact g5) (by rw [line_total]; exact g6) (by omega)]
    have hlen : (inv (line c (runsA c.T_Num c.T_Den items))).length ≤ 262144 := by simp [inv, line_len]; exact g5
    simp only [Option.bind_some, rsame_self M _ (show (inv (line c (runsA c.T_Num c.T_Den items))).length < 9223372036854775807 by omega) (by omega), Bool.cond_true, awake_true M (by omega)]
  · rw [enc_bad M v c items h0, enc_bad M v (oth c) items (by rw [e2]; exact h0), invert_is M [] (fun r hr => by cases hr) (by simp) (by simp [total]) (by omega)]
    simp only [Option.bind_some, inv, List.map_nil, rsame_self M [] (by simp) (by simp; omega), Bool.cond_true, awake_true M (by omega)]
end Go.Abs.K
