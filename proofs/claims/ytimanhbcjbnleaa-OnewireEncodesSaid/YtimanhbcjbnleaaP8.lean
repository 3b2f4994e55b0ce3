/- ONEWIRE: the round trip. -/
import Derived.Test.YtimanhbcjbnleaaP7
set_option linter.unusedVariables false
set_option linter.unusedSimpArgs false
namespace Go.Abs.K
open Go Go.Abs Go.Proofs

theorem enc7_is (M : Nat) (l : List Item) (hl : l.length ≤ 12) (c : Onewire) : ∀ (r : List Item) (i m : Nat), l.drop i = r → r.length < m → (∃ e, e ≠ 0 ∧ onewire_Encode_l7 M m (l.length : Int) (i : Int) l c = some ([], e)) ∨ ((∀ x, x ∈ r → OkW x) ∧ onewire_Encode_l7 M m (l.length : Int) (i : Int) l c = onewire_Encode_l15 M M (l.length : Int) 0 l c [Run.mk 1 (IntKind.i64.wrap (8 * c.T))])
  | r, i, 0, _, hm => by omega
  | [], i, m + 1, hr, hm => by
    have := drop_nil hr
    right
    refine ⟨(fun x hx => by cases hx), ?_⟩
    simp only [onewire_Encode_l7, b_onewire_Encode_l7]
    rw [bif_neg (by omega)]
  | x :: r, i, m + 1, hr, hm => by
    obtain ⟨h1, h2, h3, h4, h5⟩ := drop_cons hr dflt_Item
    obtain ⟨v, hv⟩ := refused_some M x
    simp only [List.length_cons] at hm
    simp only [onewire_Encode_l7, b_onewire_Encode_l7, h1, hv, Option.bind_some, next_i i (by omega)]
    rw [bif_pos (by omega), bif_pos (by omega), bif_pos (by omega), bne_if]
    by_cases h0 : v = 0
    · rw [if_pos h0]
      have hx := refused_ok M x (by rw [hv, h0])
      rcases enc7_is M l hl c r (i + 1) m h3 (by omega) with he | ⟨hk, he⟩
      · exact .inl he
      · right
        refine ⟨fun y hy => ?_, he⟩
        rcases List.mem_cons.1 hy with rfl | hy
        · exact hx
        · exact hk y hy
    · rw [if_neg h0]
      exact .inl ⟨v, h0, rfl⟩
theorem enc_trip (M : Nat) (hM : 200000 < M) (l : List Item) (hl : l.length ≤ 12) (c : Onewire) : (∃ e, e ≠ 0 ∧ onewire_Encode M c l = some ([], e)) ∨ (OkC c ∧ (∀ x, x ∈ l → OkW x) ∧ Good c (wantA c.T (8 * c.T) l) (onewire_Encode M c l)) := by
  simp only [onewire_Encode, b_onewire_Encode, check_is, Option.bind_some, bne_if]
  by_cases hc : OkC c
  · have hc' := hc
    unfold OkC at hc'
    rw [if_pos hc, if_pos rfl, bif_neg (by omega)]
    rcases enc7_is M l hl c l 0 M rfl (by omega) with he | ⟨hk, he⟩
    · exact .inl he
    · right
      refine ⟨hc, hk, ?_⟩
      have h15 := enc15_is M hM l hl c hc l 0 M [] (8 * c.T) [] rfl (by omega) hk (inv_base c hc) (by omega) (by simp) (by simp only [sumR]; omega) (fun _ => ⟨rfl, rfl⟩)
      simp only [sumR, List.nil_append, Int.zero_add] at h15
      rw [i64_ok (n := 8 * c.T) (by omega)] at he
      exact Eq.mpr (congrArg (Good c _) he) h15
  · rw [if_neg hc, if_neg (show ¬ (2 : Int) = 0 by omega)]
    exact .inl ⟨2, by omega, rfl⟩
theorem sent_is (M : Nat) (T : Int) (hT : 1 ≤ T ∧ T ≤ 1048576) (x : Item) (t : Int) (ht : 0 ≤ t ∧ t ≤ 1099511627776) : law25_sent M T x t = some (sentA T x t, t + durA T x) := by
  simp only [law25_sent, b_law25_sent, beq_if, bif_if]
  rw [i64_ok (n := 32 * T) (by omega), i64_ok (n := 64 * T) (by omega), i64_ok (n := 42 * T) (by omega), i64_ok (n := 38 * T) (by omega), i64_ok (n := 43 * T) (by omega), i64_ok (n := 46 * T) (by omega), i64_ok (n := 48 * T) (by omega), i64_ok (n := t + 32 * T) (by omega), i64_ok (n := t + 64 * T) (by omega), i64_ok (n := t + 42 * T) (by omega), i64_ok (n := t + 38 * T) (by omega), i64_ok (n := t + 43 * T) (by omega), i64_ok (n := t + 46 * T) (by omega), i64_ok (n := t + 48 * T) (by omega)]
  unfold sentA durA
  by_cases h1 : x.Aux = 1
  · simp only [if_pos h1]
  by_cases h2 : x.Aux = 2
  · simp only [if_neg h1, if_pos h2]
  by_cases h6 : x.Fault = 6
  · simp only [if_neg h1, if_neg h2, if_pos h6]
  by_cases h7 : x.Value ≥ 128
  · simp only [if_neg h1, if_neg h2, if_neg h6, if_pos h7]
  · simp only [if_neg h1, if_neg h2, if_neg h6, if_neg h7]
theorem trip_l8 (M : Nat) (hM : 200000 < M) (l : List Item) (hl : l.length ≤ 12) (c : Onewire) (hc : OkC c) (runs : List Run) (hrl : runs.length ≤ 100000) : ∀ (r : List Item) (i m : Nat) (t : Int) (want : List Event), l.drop i = r → r.length < m → (∀ x, x ∈ r → OkW x) → 0 ≤ t → t ≤ 100000000 * (i : Int) + 10000000 → i ≤ 12 → want.length + r.length ≤ 100 → decA c (levA 0 runs) = want ++ wantA c.T t r → law25_OnewireRoundTrips_l8 M m t (i : Int) l c runs want = some true
  | r, i, 0, t, want, _, hm, _, _, _, _, _, _ => by omega
  | [], i, m + 1, t, want, hr, hm, _, h0, hb, hi, hw, hd => by
    have := drop_nil hr
    simp only [List.length_nil] at hw
    simp only [wantA, List.append_nil] at hd
    have hev : law25_events M runs = some (levA 0 runs) := by
      simp only [law25_events, b_law25_events]
      exact events_l3 M runs hrl runs 0 M 0 [] rfl (by omega) (by simp; omega)
    have hlen := levA_len runs 0
    simp only [law25_OnewireRoundTrips_l8, b_law25_OnewireRoundTrips_l8, hev, Option.bind_some, decode_is M c (levA 0 runs) (by omega) (by omega), hd, same_self M want (by omega) (by omega), Bool.cond_true, awake_true M (by omega)]
    rw [bif_neg (by omega)]
  | x :: r, i, m + 1, t, want, hr, hm, hok, h0, hb, hi, hw, hd => by
    obtain ⟨h1, h2, h3, h4, h5⟩ := drop_cons hr dflt_Item
    have hc' := hc
    unfold OkC at hc'
    have hx := hok x (by simp)
    unfold OkW at hx
    have hdu := dur_b c.T hc' x
    simp only [List.length_cons] at hm hw
    simp only [law25_OnewireRoundTrips_l8, b_law25_OnewireRoundTrips_l8, h1, i64_ok (n := t + x.Gap) (by omega), sent_is M c.T hc' x (t + x.Gap) (by omega), Option.bind_some, next_i i (by omega)]
    rw [bif_pos (by omega), bif_pos (by omega), bif_pos (by omega), bif_pos (by omega), bif_pos (by omega), bif_pos (by omega)]
    exact trip_l8 M hM l hl c hc runs hrl r (i + 1) m _ _ h3 (by omega) (fun y hy => hok y (by simp [hy])) (by omega) (by omega) (by omega) (by simp; omega) (by rw [hd, wantA]; simp)
theorem OnewireRoundTrips_true (c : Onewire) (l : List Item) (hc : wf_Onewire c) (hl : (∀ x, x ∈ l → wf_Item x) ∧ l.length * Try.prog.bytesOf 53 ≤ 140737488351232) : ∃ M, law25_OnewireRoundTrips M c l = some true := by
  refine ⟨500000, ?_⟩
  obtain ⟨b, hb, hb2⟩ := tiny_is 500000 l (by omega)
  simp only [law25_OnewireRoundTrips, b_law25_OnewireRoundTrips, hb, Option.bind_some, awake_true 500000 (by omega)]
  cases b with
  | false => rfl
  | true =>
    have hl12 := hb2 rfl
    simp only [Bool.not_true, Bool.cond_false]
    rcases enc_trip 500000 (by omega) l hl12 c with ⟨e, he, hx⟩ | ⟨hok, hit, r, hx, hrl, hdec⟩
    · simp only [hx, Option.bind_some, bne_if]
      rw [if_neg he]
      rfl
    · have hok' := hok
      unfold OkC at hok'
      simp only [hx, Option.bind_some, bne_if]
      rw [if_pos trivial, i64_ok (n := 8 * c.T) (by omega)]
      exact trip_l8 500000 (by omega) l hl12 c hok r hrl l 0 500000 (8 * c.T) [] rfl (by omega) hit (by omega) (by omega) (by omega) (by simp; omega) hdec
end Go.Abs.K
