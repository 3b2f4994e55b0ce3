/- LIN: steps, the program's and the reference's. -/
import Derived.Test.YtohpkolbocmbbaaP1
set_option linter.unusedVariables false
set_option linter.unusedSimpArgs false
namespace Go.Abs.K
open Go Go.Abs Go.Proofs

noncomputable def restR (M : Nat) (c : Lin) (s : State) : Option Event :=
  (bif byteAt s.Data 0 != 85 then
 some (Event.mk 5 s.From s.Acc (IntKind.i64.wrap (((BitVec.ofInt 64 (IntKind.i64.wrap (byteAt s.Data 1)) &&& BitVec.ofInt 64 63).toNat : Int))) 0 (s.Data.extract 2 (IntKind.i64.wrap ((s.Data.size : Int) - 1)).toNat) 1)
 else
 bif protR (IntKind.i64.wrap (((BitVec.ofInt 64 (IntKind.i64.wrap (byteAt s.Data 1)) &&& BitVec.ofInt 64 63).toNat : Int))) != IntKind.i64.wrap (byteAt s.Data 1) then
 some (Event.mk 5 s.From s.Acc (IntKind.i64.wrap (((BitVec.ofInt 64 (IntKind.i64.wrap (byteAt s.Data 1)) &&& BitVec.ofInt 64 63).toNat : Int))) 0 (s.Data.extract 2 (IntKind.i64.wrap ((s.Data.size : Int) - 1)).toNat) 2)
 else
 bif decide (0 ≤ IntKind.i64.wrap ((s.Data.size : Int) - 1)) then
 (bif decide (IntKind.i64.wrap ((s.Data.size : Int) - 1) < (s.Data.size : Int)) then
 ((ref27_sum M c (IntKind.i64.wrap (byteAt s.Data 1)) (s.Data.extract 2 (IntKind.i64.wrap ((s.Data.size : Int) - 1)).toNat)).bind fun r0 =>
 bif IntKind.i64.wrap (byteAt s.Data (IntKind.i64.wrap ((s.Data.size : Int) - 1))) != r0 then
 some (Event.mk 5 s.From s.Acc (IntKind.i64.wrap (((BitVec.ofInt 64 (IntKind.i64.wrap (byteAt s.Data 1)) &&& BitVec.ofInt 64 63).toNat : Int))) 0 (s.Data.extract 2 (IntKind.i64.wrap ((s.Data.size : Int) - 1)).toNat) 3)
 else
 some (Event.mk 5 s.From s.Acc (IntKind.i64.wrap (((BitVec.ofInt 64 (IntKind.i64.wrap (byteAt s.Data 1)) &&& BitVec.ofInt 64 63).toNat : Int))) 0 (s.Data.extract 2 (IntKind.i64.wrap ((s.Data.size : Int) - 1)).toNat) 0))
 else none)
 else none)
theorem frame_eq (M : Nat) (c : Lin) (s : State) : ref27_frame M c s =
  bif decide ((s.Data.size : Int) < 4) then some (Event.mk 5 s.From s.Acc 0 0 s.Data 8) else
  bif decide ((s.Data.size : Int) > 11) then some (Event.mk 5 s.From s.Acc 0 0 s.Data 8) else
  bif decide (1 < (s.Data.size : Int)) then
  (bif decide (0 ≤ IntKind.i64.wrap ((s.Data.size : Int) - 1)) then
  (bif decide (IntKind.i64.wrap ((s.Data.size : Int) - 1) ≤ (s.Data.size : Int)) then
  (bif decide (2 ≤ IntKind.i64.wrap ((s.Data.size : Int) - 1)) then
  (bif decide (0 < (s.Data.size : Int)) then restR M c s else none) else none) else none) else none) else none := rfl
theorem ref_frame_is (M : Nat) (hM : 100 < M) (c : Lin) (s : State) (h : s.Data.size ≤ 4096) : ref27_frame M c s = some (frameA c s.From s.Acc s.Data) := by
  rw [frame_eq]
  simp only [bif_if]
  unfold frameA
  by_cases c1 : (s.Data.size : Int) < 4
  · rw [if_pos c1, if_neg (by omega)]
  by_cases c2 : (s.Data.size : Int) > 11
  · rw [if_neg c1, if_pos c2, if_neg (by omega)]
  have hr := byteAt_range s.Data 1
  have hrl := byteAt_range s.Data ((s.Data.size : Int) - 1)
  have hcnt : ((s.Data.size : Int) - 1).toNat = s.Data.size - 1 := by omega
  have hes : (s.Data.extract 2 (s.Data.size - 1)).size = s.Data.size - 1 - 2 := extract_size _ _ _ (by omega)
  have hp := prot_facts (byteAt s.Data 1 % 64) (by omega)
  rw [if_neg c1, if_neg c2, i64_ok (n := (s.Data.size : Int) - 1) (by omega), if_pos (by omega), if_pos (by omega), if_pos (by omega), if_pos (by omega), if_pos (by omega), if_pos (by omega)]
  unfold restR fltA
  simp only [and63, bne_if, bif_if]
  rw [i64_ok (n := byteAt s.Data 1) (by omega), i64_ok (n := (s.Data.size : Int) - 1) (by omega), hcnt, rsum_is M c _ _ (by omega) (by omega), Option.bind_some, i64_ok (n := byteAt s.Data ((s.Data.size : Int) - 1)) (by omega), if_pos (show (0 : Int) ≤ (s.Data.size : Int) - 1 by omega), if_pos (show (s.Data.size : Int) - 1 < (s.Data.size : Int) by omega), hp.1]
  by_cases d1 : byteAt s.Data 0 = 85
  · rw [if_pos d1, if_pos d1]
    by_cases d2 : byteAt s.Data 1 = protR (byteAt s.Data 1 % 64)
    · rw [if_pos d2, if_pos d2.symm]
      split <;> rfl
    · rw [if_neg d2, if_neg (fun h => d2 h.symm)]
  · rw [if_neg d1, if_neg d1]
/-! ### Which events are accepted -/
theorem andnot (x : BitVec 64) : (x &&& ~~~255#64).toNat = x.toNat / 256 * 256 := by
  have e : x.toNat / 256 * 256 = (x.toNat >>> 8) <<< 8 := by rw [Nat.shiftLeft_eq, Nat.shiftRight_eq_div_pow]
  rw [e]
  apply Nat.eq_of_testBit_eq
  intro i
  rw [BitVec.toNat_and, Nat.testBit_and, Nat.testBit_shiftLeft, Nat.testBit_shiftRight]
  by_cases hi : i < 8
  · have : i = 0 ∨ i = 1 ∨ i = 2 ∨ i = 3 ∨ i = 4 ∨ i = 5 ∨ i = 6 ∨ i = 7 := by omega
    rcases this with rfl | rfl | rfl | rfl | rfl | rfl | rfl | rfl <;> simp <;> intros <;> decide
  · rw [show 8 + (i - 8) = i by omega]
    by_cases h64 : i < 64
    · have hb : (~~~255#64).toNat.testBit i = true := by
        have := BitVec.getLsbD_not (x := 255#64) (i := i)
        rw [BitVec.testBit_toNat, this, ← BitVec.testBit_toNat]
        rw [show (255#64).toNat = 2 ^ 8 - 1 from rfl, Nat.testBit_two_pow_sub_one]
        simp; omega
      rw [hb]; simp; omega
    · have : x.toNat.testBit i = false := by
        apply Nat.testBit_lt_two_pow
        have := x.isLt
        have : 2 ^ 64 ≤ 2 ^ i := Nat.pow_le_pow_right (by omega) (by omega)
        omega
      rw [this]; simp
theorem byte_ok (v : Int) (h : -9007199254740992 ≤ v ∧ v ≤ 9007199254740992) : (IntKind.i64.wrap (((BitVec.ofInt 64 v &&& ~~~BitVec.ofInt 64 255).toNat : Int)) = 0) ↔ (0 ≤ v ∧ v ≤ 255) := by
  rw [show BitVec.ofInt 64 255 = 255#64 from rfl, andnot]
  have hn : ((BitVec.ofInt 64 v).toNat : Int) = v % 18446744073709551616 := by
    rw [BitVec.toNat_ofInt]
    have : 0 ≤ v % ((2 ^ 64 : Nat) : Int) := Int.emod_nonneg _ (by decide)
    rw [Int.toNat_of_nonneg this]; rfl
  generalize (BitVec.ofInt 64 v).toNat = n at *
  have hw : IntKind.i64.wrap ((n / 256 * 256 : Nat) : Int) = ((n / 256 * 256 : Nat) : Int) ∨ (IntKind.i64.wrap ((n / 256 * 256 : Nat) : Int) = ((n / 256 * 256 : Nat) : Int) - 18446744073709551616 ∧ ((n / 256 * 256 : Nat) : Int) > 9223372036854775807) := by
    have hlt : ((n / 256 * 256 : Nat) : Int) < 18446744073709551616 := by omega
    by_cases hh : ((n / 256 * 256 : Nat) : Int) ≤ 9223372036854775807
    · exact .inl (i64_ok (by omega))
    · right
      refine ⟨?_, by omega⟩
      simp [IntKind.wrap, IntKind.bits, IntKind.signed]
      omega
  rcases hw with hw | ⟨hw, hw2⟩ <;> rw [hw] <;> omega
def In (s : State) (e : Event) : Prop := Vld e ∧ s.At ≤ e.From ∧ (e.Kind = 4 ∨ (e.Kind = 3 ∧ 0 ≤ e.Value ∧ e.Value ≤ 255))
instance (s : State) (e : Event) : Decidable (In s e) := by unfold In; infer_instance
theorem accepts_is (M : Nat) (s : State) (e : Event) : lin_accepts M s e = some (decide (In s e)) := by
  simp only [lin_accepts, b_lin_accepts, event_valid, Option.bind_some, bif_if, beq_if]
  by_cases h1 : Vld e
  · have hv := h1
    unfold Vld at hv
    have hb := byte_ok e.Value (by omega)
    rw [decide_eq_true h1]
    simp only [Bool.not_true, Bool.cond_false]
    unfold In
    by_cases h2 : e.From < s.At
    · rw [if_pos h2]; simp [h1]; omega
    rw [if_neg h2]
    by_cases h3 : e.Kind = 4
    · rw [if_pos h3]; simp [h1, h3]; omega
    rw [if_neg h3]
    by_cases h4 : e.Kind = 3
    · rw [if_pos h4]
      by_cases h5 : 0 ≤ e.Value ∧ e.Value ≤ 255
      · rw [hb.2 h5]; simp [h1, h4, h5]; omega
      · have : ¬ IntKind.i64.wrap (((BitVec.ofInt 64 e.Value &&& ~~~BitVec.ofInt 64 255).toNat : Int)) = 0 := fun h => h5 (hb.1 h)
        rw [show (IntKind.i64.wrap (((BitVec.ofInt 64 e.Value &&& ~~~BitVec.ofInt 64 255).toNat : Int)) == 0) = false by simpa using this]
        congr 1; symm; exact decide_eq_false (by omega)
    · rw [if_neg h4]; congr 1; symm; exact decide_eq_false (by omega)
  · rw [decide_eq_false h1]
    simp [In, h1]
theorem ref_accepts_is (M : Nat) (s r : State) (e : Event) (hr : r.Prev = s.At) : ref27_accepted M r e = some (decide (In s e)) := by
  simp only [ref27_accepted, b_ref27_accepted, ref_valid, Option.bind_some, bif_if, beq_if, hr]
  by_cases h1 : Vld e
  · rw [decide_eq_true h1]
    simp only [Bool.not_true, Bool.cond_false]
    unfold In
    by_cases h2 : e.From < s.At
    · rw [if_pos h2]; simp [h1]; omega
    rw [if_neg h2]
    by_cases h3 : e.Kind = 4
    · rw [if_pos h3]; simp [h1, h3]; omega
    rw [if_neg h3]
    by_cases h4 : e.Kind = 3
    · rw [if_pos h4]
      by_cases h5 : e.Value ≥ 0
      · rw [if_pos h5]; congr 1; exact decide_eq_decide.2 ⟨fun h => ⟨h1, by omega, .inr ⟨h4, by omega, h⟩⟩, fun h => by have := h.2.2; omega⟩
      · rw [if_neg h5]; congr 1; symm; exact decide_eq_false (by omega)
    · rw [if_neg h4]; congr 1; symm; exact decide_eq_false (by omega)
  · rw [decide_eq_false h1]
    simp [In, h1]
/-! ### A step -/
noncomputable def addB (d : ByteArray) (v : Int) : ByteArray := if d.size < 4096 then d ++ toBytes [IntKind.u8.wrap v] else d
noncomputable def compA (c : Lin) (s : State) : List Event := if s.Phase = 1 then [frameA c s.From s.Aux s.Data] else []
noncomputable def stepA (c : Lin) (s : State) (e : Event) : State × List Event :=
  if In s e then
    if e.Fault ≠ 0 then (State.mk 0 e.From 0 0 0 0 0 (bs []), if s.Phase = 1 then [Event.mk 5 s.From e.From 0 0 (bs []) 7] else [])
    else if e.Kind = 4 ∧ e.Value = 1 then (State.mk 1 e.From e.From 0 0 e.To 0 (bs []), compA c s)
    else if e.Kind = 3 ∧ s.Phase = 1 then (State.mk s.Phase e.From s.From (s.Count + 1) s.Acc e.To s.Prev (addB s.Data e.Value), [])
    else ({ s with At := e.From }, [])
  else (s, [])
def WfN (n : Nat) (s : State) : Prop := WfS s ∧ (s.Phase = 1 → s.Count ≤ n)
theorem addB_size (d : ByteArray) (v : Int) : (addB d v).size = if d.size < 4096 then d.size + 1 else d.size := by
  unfold addB
  split
  · rw [size_append, toBytes_size]; rfl
  · rfl
theorem step_is (M : Nat) (hM : 100 < M) (c : Lin) (s : State) (e : Event) (n : Nat) (hn : n < 900000000) (h : WfN n s) : lin_Step M c s e = some (stepA c s e) ∧ WfN (n + 1) (stepA c s e).1 := by
  obtain ⟨h0, hcn⟩ := h
  have hw := h0
  obtain ⟨h1, h2, h3, h4⟩ := h0
  simp only [lin_Step, b_lin_Step, accepts_is, Option.bind_some, bif_if, bne_if, beq_if, complete_is M hM c s hw]
  unfold stepA
  by_cases hin : In s e
  · rw [decide_eq_true hin, if_pos hin]
    simp only [Bool.not_true, Bool.cond_false]
    obtain ⟨g1, g2, g3⟩ := hin
    unfold Vld at g1
    have hsz : (toBytes [IntKind.u8.wrap e.Value]).size = 1 := by rw [toBytes_size]; rfl
    by_cases hf : e.Fault = 0
    · rw [if_pos hf, if_neg (show ¬ e.Fault ≠ 0 by omega)]
      by_cases hb : e.Kind = 4 ∧ e.Value = 1
      · rw [if_pos hb, if_pos hb.1, if_pos hb.2]
        refine ⟨rfl, ⟨.inr rfl, by dsimp only; omega, by dsimp only; omega, fun _ => ⟨by dsimp only; omega, by dsimp only; omega, by dsimp only; omega, by dsimp only; omega, fun _ => rfl, fun hh => absurd hh (by dsimp only; omega)⟩⟩, fun _ => by dsimp only; omega⟩
      · rw [if_neg hb]
        have key : (if e.Kind = 3 then
            if s.Phase = 1 then
              if (s.Data.size : Int) < 4096 then
                if ((s.Data.size + (toBytes [IntKind.u8.wrap e.Value]).size) : Int) > 9223372036854775807 then none
                else some (State.mk s.Phase e.From s.From (IntKind.i64.wrap (s.Count + 1)) s.Acc e.To s.Prev (s.Data ++ toBytes [IntKind.u8.wrap e.Value]), ([] : List Event))
              else some (State.mk s.Phase e.From s.From (IntKind.i64.wrap (s.Count + 1)) s.Acc e.To s.Prev s.Data, [])
            else some ({ s with At := e.From }, [])
          else some ({ s with At := e.From }, [])) = some (if e.Kind = 3 ∧ s.Phase = 1 then (State.mk s.Phase e.From s.From (s.Count + 1) s.Acc e.To s.Prev (addB s.Data e.Value), []) else ({ s with At := e.From }, [])) := by
          by_cases hk : e.Kind = 3
          · by_cases hp : s.Phase = 1
            · obtain ⟨q1, q2, q3, q4, q5, q6⟩ := h4 hp
              have hy : e.Kind = 3 ∧ s.Phase = 1 := ⟨hk, hp⟩
              rw [if_pos hk, if_pos hp, if_pos hy, i64_ok (by omega), hsz]
              unfold addB
              by_cases hl : s.Data.size < 4096
              · rw [if_pos (by omega), if_neg (by omega), if_pos hl]
              · rw [if_neg (by omega), if_neg hl]
            · rw [if_pos hk, if_neg hp, if_neg (fun h => hp h.2)]
          · rw [if_neg hk, if_neg (fun h => hk h.1)]
        have keyW : WfN (n + 1) (if e.Kind = 3 ∧ s.Phase = 1 then (State.mk s.Phase e.From s.From (s.Count + 1) s.Acc e.To s.Prev (addB s.Data e.Value), ([] : List Event)) else ({ s with At := e.From }, [])).1 := by
          by_cases hk : e.Kind = 3 ∧ s.Phase = 1
          · rw [if_pos hk]
            obtain ⟨q1, q2, q3, q4, q5, q6⟩ := h4 hk.2
            have hc := hcn hk.2
            have hs := addB_size s.Data e.Value
            refine ⟨⟨.inr hk.2, by dsimp only; omega, by dsimp only; omega, fun _ => ⟨q1, by dsimp only; omega, by dsimp only; omega, by dsimp only; omega, fun hh => ?_, fun hh => ?_⟩⟩, fun _ => by dsimp only; omega⟩
            · dsimp only at hh ⊢
              have := q5 (by omega)
              rw [hs, if_pos (by omega)]; omega
            · dsimp only at hh ⊢
              rw [hs]
              by_cases hcc : s.Count > 4096
              · have := q6 hcc; rw [if_neg (by omega)]; omega
              · have := q5 (by omega); rw [if_neg (by omega)]; omega
          · rw [if_neg hk]
            refine ⟨⟨h1, by dsimp only; omega, by dsimp only; omega, fun hp => ?_⟩, fun hp => ?_⟩
            · obtain ⟨q1, q2, q3, q4, q5, q6⟩ := h4 hp
              exact ⟨q1, by dsimp only; omega, q3, q4, q5, q6⟩
            · have := hcn hp; dsimp only; omega
        refine ⟨?_, keyW⟩
        by_cases hk4 : e.Kind = 4
        · rw [if_pos hk4, if_neg (fun h => hb ⟨hk4, h⟩)]
          exact key
        · rw [if_neg hk4]
          exact key
    · rw [if_neg hf, if_pos (show e.Fault ≠ 0 from hf)]
      refine ⟨?_, ⟨.inl rfl, by dsimp only; omega, by dsimp only; omega, fun hp => by cases hp⟩, fun hp => by cases hp⟩
      by_cases hp : s.Phase = 1
      · obtain ⟨q1, q2, q3, q4, q5, q6⟩ := h4 hp
        rw [if_pos hp, if_pos hp]
        by_cases hlt : s.From < e.From
        · rw [if_pos hlt]
        · rw [if_neg hlt, show s.From = e.From by omega]
      · rw [if_neg hp, if_neg hp]
  · rw [decide_eq_false hin, if_neg hin]
    exact ⟨rfl, hw, fun hp => by have := hcn hp; dsimp only; omega⟩
/-! ### The reference -/
def RR (s r : State) : Prop := r.Prev = s.At ∧ r.Phase = s.Phase ∧ (s.Phase = 1 → r.From = s.From ∧ r.Acc = s.Aux ∧ r.Data = s.Data)
theorem wf_size (s : State) (h : WfS s) (hp : s.Phase = 1) : s.Data.size ≤ 4096 := by
  obtain ⟨q1, q2, q3, q4, q5, q6⟩ := h.2.2.2 hp
  by_cases hc : s.Count > 4096
  · have := q6 hc; omega
  · have := q5 (by omega); omega
theorem ref_step_is (M : Nat) (hM : 100 < M) (c : Lin) (s r : State) (e : Event) (h : WfS s) (hr : RR s r) : ∃ r', ref27_Step M c r e = some (r', (stepA c s e).2) ∧ RR (stepA c s e).1 r' := by
  obtain ⟨r1, r2, r3⟩ := hr
  have h1 := h.1
  simp only [ref27_Step, b_ref27_Step, ref_accepts_is M s r e r1, Option.bind_some, bif_if, bne_if, beq_if, r2]
  unfold stepA
  by_cases hin : In s e
  · rw [decide_eq_true hin, if_pos hin]
    simp only [Bool.not_true, Bool.cond_false]
    obtain ⟨g1, g2, g3⟩ := hin
    have hsz : (toBytes [IntKind.u8.wrap e.Value]).size = 1 := by rw [toBytes_size]; rfl
    by_cases hf : e.Fault = 0
    · rw [if_pos hf, if_neg (show ¬ e.Fault ≠ 0 by omega)]
      by_cases hk : e.Kind = 3
      · rw [if_pos hk, if_neg (show ¬ (e.Kind = 4 ∧ e.Value = 1) by omega)]
        by_cases hp : s.Phase = 1
        · obtain ⟨k1, k2, k3⟩ := r3 hp
          have hs := wf_size s h hp
          have hy : e.Kind = 3 ∧ s.Phase = 1 := ⟨hk, hp⟩
          rw [if_pos hp, if_pos hy, k3, hsz]
          by_cases hl : s.Data.size < 4096
          · rw [if_pos (by omega), if_neg (by omega)]
            exact ⟨_, rfl, rfl, (by first | rfl | exact r2), fun _ => ⟨k1, rfl, by dsimp only; unfold addB; rw [if_pos hl]⟩⟩
          · rw [if_neg (by omega)]
            exact ⟨_, rfl, rfl, (by first | rfl | exact r2), fun _ => ⟨k1, rfl, by dsimp only; unfold addB; rw [if_neg hl]⟩⟩
        · rw [if_neg hp, if_neg (show ¬ (e.Kind = 3 ∧ s.Phase = 1) from fun h => hp h.2)]
          exact ⟨_, rfl, rfl, (by first | rfl | exact r2), fun hh => absurd hh hp⟩
      · have h4 : e.Kind = 4 := by omega
        rw [if_neg hk]
        by_cases hv : e.Value = 1
        · rw [if_pos hv, if_pos (show e.Kind = 4 ∧ e.Value = 1 from ⟨h4, hv⟩)]
          unfold compA
          by_cases hp : s.Phase = 1
          · obtain ⟨k1, k2, k3⟩ := r3 hp
            have hs := wf_size s h hp
            rw [if_neg (show ¬ s.Phase = 0 by omega), if_pos hp, ref_frame_is M hM c _ (by dsimp only; rw [k3]; exact hs), Option.bind_some]
            dsimp only
            rw [k1, k2, k3]
            exact ⟨_, rfl, rfl, rfl, fun _ => ⟨rfl, rfl, rfl⟩⟩
          · rw [if_pos (show s.Phase = 0 by omega), if_neg hp]
            exact ⟨_, rfl, rfl, rfl, fun _ => ⟨rfl, rfl, rfl⟩⟩
        · rw [if_neg hv, if_neg (show ¬ (e.Kind = 4 ∧ e.Value = 1) from fun h => hv h.2), if_neg (show ¬ (e.Kind = 3 ∧ s.Phase = 1) from fun h => hk h.1)]
          exact ⟨_, rfl, rfl, (by first | rfl | exact r2), fun hh => by obtain ⟨k1, k2, k3⟩ := r3 hh; exact ⟨k1, k2, k3⟩⟩
    · rw [if_neg hf, if_pos (show e.Fault ≠ 0 from hf)]
      by_cases hp : s.Phase = 1
      · obtain ⟨k1, k2, k3⟩ := r3 hp
        rw [if_neg (show ¬ s.Phase = 0 by omega), if_pos hp, k1]
        exact ⟨_, rfl, rfl, rfl, fun hh => by cases hh⟩
      · rw [if_pos (show s.Phase = 0 by omega), if_neg hp]
        exact ⟨_, rfl, rfl, rfl, fun hh => by cases hh⟩
  · rw [decide_eq_false hin, if_neg hin]
    exact ⟨r, rfl, r1, r2, r3⟩
end Go.Abs.K
