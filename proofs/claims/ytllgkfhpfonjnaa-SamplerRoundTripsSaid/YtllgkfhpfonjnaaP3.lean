/- SAMPLER: steps and decoding. -/
import Derived.Test.YtllgkfhpfonjnaaP2
set_option linter.unusedVariables false
set_option linter.unusedSimpArgs false
namespace Go.Abs.K
open Go Go.Abs Go.Proofs

/-- Bit k behind an anchor. -/
def evB (n d F v k a : Int) : Event := Event.mk 2 (F + bd n d k) (if 1099511627776 < F + bd n d (k + 1) then 1099511627776 else F + bd n d (k + 1)) v 0 (bs []) (if a = 1 then 6 else 0)
/-- The bits whose samples lie before T; the next bit; the mark. -/
def emit (n d F v T : Int) : Nat → Int → Int → List Event × Int × Int
  | 0, k, a => ([], k, a)
  | N + 1, k, a => if F + sm n d k < T then (evB n d F v k a :: (emit n d F v T N (k + 1) 0).1, (emit n d F v T N (k + 1) 0).2) else ([], k, a)
theorem emit_spec (n d F v T : Int) (h : OkR n d) : ∀ (N : Nat) (k a : Int), 0 ≤ k → T - (F + sm n d k) ≤ N → (emit n d F v T N k a).2.1 = k + (emit n d F v T N k a).1.length ∧ T ≤ F + sm n d (emit n d F v T N k a).2.1 ∧ ((emit n d F v T N k a).1 = [] ∨ ((emit n d F v T N k a).1.length : Int) ≤ T - (F + sm n d k)) ∧ (a = 0 ∨ a = 1 → (emit n d F v T N k a).2.2 = 0 ∨ (emit n d F v T N k a).2.2 = 1)
  | 0, k, a, hk, hN => ⟨by simp [emit], by simp only [emit]; omega, .inl rfl, fun h => h⟩
  | N + 1, k, a, hk, hN => by
    have hs := sm_step n d k h hk
    unfold emit
    split
    · rename_i hlt
      obtain ⟨i1, i2, i3, i4⟩ := emit_spec n d F v T h N (k + 1) 0 (by omega) (by omega)
      refine ⟨?_, i2, .inr ?_, fun _ => i4 (.inl rfl)⟩
      · dsimp only; rw [i1]; simp only [List.length_cons]; omega
      · simp only [List.length_cons]
        rcases i3 with i3 | i3
        · rw [i3]; simp; omega
        · omega
    · exact ⟨by simp, by dsimp only; omega, .inl rfl, fun h => h⟩
theorem emit_fuel (n d F v T : Int) (h : OkR n d) : ∀ (N N' : Nat) (k a : Int), 0 ≤ k → T - (F + sm n d k) ≤ N → T - (F + sm n d k) ≤ N' → emit n d F v T N k a = emit n d F v T N' k a
  | 0, 0, k, a, _, _, _ => rfl
  | 0, N' + 1, k, a, hk, h1, h2 => by unfold emit; rw [if_neg (by omega)]
  | N + 1, 0, k, a, hk, h1, h2 => by unfold emit; rw [if_neg (by omega)]
  | N + 1, N' + 1, k, a, hk, h1, h2 => by
    have hs := sm_step n d k h hk
    unfold emit
    by_cases c : F + sm n d k < T
    · rw [if_pos c, if_pos c, emit_fuel n d F v T h N N' (k + 1) 0 (by omega) (by omega) (by omega)]
    · rw [if_neg c, if_neg c]
/-- The fuel that is always enough. -/
def emitT (n d F v T k a : Int) : List Event × Int × Int := emit n d F v T (T - (F + sm n d k)).toNat k a
theorem emitT_eq (n d F v T : Int) (h : OkR n d) (N : Nat) (k a : Int) (hk : 0 ≤ k) (hN : T - (F + sm n d k) ≤ N) : emit n d F v T N k a = emitT n d F v T k a :=
  emit_fuel n d F v T h _ _ k a hk hN (by omega)
theorem emitT_stop (n d F v T k a : Int) (h : ¬ F + sm n d k < T) : emitT n d F v T k a = ([], k, a) := by
  unfold emitT
  rw [show (T - (F + sm n d k)).toNat = 0 by omega]; rfl
theorem emitT_go (n d F v T k a : Int) (h : OkR n d) (hk : 0 ≤ k) (hlt : F + sm n d k < T) : emitT n d F v T k a = (evB n d F v k a :: (emitT n d F v T (k + 1) 0).1, (emitT n d F v T (k + 1) 0).2) := by
  have hs := sm_step n d k h hk
  obtain ⟨N, hN⟩ : ∃ N, (T - (F + sm n d k)).toNat = N + 1 := ⟨(T - (F + sm n d k)).toNat - 1, by omega⟩
  have e : emitT n d F v T k a = emit n d F v T (N + 1) k a := by unfold emitT; rw [hN]
  rw [e]
  show (if F + sm n d k < T then _ else _) = _
  rw [if_pos hlt, emitT_eq n d F v T h N (k + 1) 0 (by omega) (by omega)]
/-- Where T is reached in two parts. -/
theorem emitT_two (n d F v T1 T2 : Int) (h : OkR n d) (hT : T1 ≤ T2) : ∀ (N : Nat) (k a : Int), 0 ≤ k → T1 - (F + sm n d k) ≤ N →
    emitT n d F v T2 k a = ((emitT n d F v T1 k a).1 ++ (emitT n d F v T2 (emitT n d F v T1 k a).2.1 (emitT n d F v T1 k a).2.2).1, (emitT n d F v T2 (emitT n d F v T1 k a).2.1 (emitT n d F v T1 k a).2.2).2)
  | 0, k, a, hk, hN => by rw [emitT_stop n d F v T1 k a (by omega)]; rfl
  | N + 1, k, a, hk, hN => by
    have hs := sm_step n d k h hk
    by_cases c : F + sm n d k < T1
    · have ih := emitT_two n d F v T1 T2 h hT N (k + 1) 0 (by omega) (by omega)
      rw [emitT_go n d F v T1 k a h hk c, emitT_go n d F v T2 k a h hk (by omega), ih]
      rfl
    · rw [emitT_stop n d F v T1 k a c]; rfl
/-- Is an event accepted? -/
def In (s : State) (e : Event) : Prop := Vld e ∧ e.Kind = 1 ∧ e.Fault = 0 ∧ e.From < e.To ∧ 0 ≤ e.Value ∧ e.Value ≤ 1 ∧ (s.Phase = 0 ∨ e.From = s.At)
instance (s : State) (e : Event) : Decidable (In s e) := by unfold In; infer_instance
theorem andnot1 (x : Int) (h : -9007199254740992 ≤ x ∧ x ≤ 9007199254740992) : (IntKind.i64.wrap (((BitVec.ofInt 64 x &&& ~~~BitVec.ofInt 64 1).toNat : Int)) = 0) ↔ (0 ≤ x ∧ x ≤ 1) := by
  have key : ((BitVec.ofInt 64 x &&& ~~~BitVec.ofInt 64 1).toNat : Int) = (x % 18446744073709551616) - (x % 2) := by
    have h1 : (BitVec.ofInt 64 x).toNat = (x % 18446744073709551616).toNat := by simp [BitVec.toNat_ofInt]
    have h2 : ∀ a : BitVec 64, (a &&& ~~~BitVec.ofInt 64 1).toNat + a.toNat % 2 = a.toNat := by
      intro a
      have e1 : a.toNat % 2 = (a &&& BitVec.ofInt 64 1).toNat := by
        rw [BitVec.toNat_and]
        have : (BitVec.ofInt 64 1).toNat = 2 ^ 1 - 1 := by decide
        rw [this, Nat.and_two_pow_sub_one_eq_mod]
      rw [e1]
      have hd : (a &&& ~~~BitVec.ofInt 64 1) &&& (a &&& BitVec.ofInt 64 1) = 0#64 := by
        apply BitVec.eq_of_getLsbD_eq
        intro i hi
        simp only [BitVec.getLsbD_and, BitVec.getLsbD_not, BitVec.getLsbD_zero]
        cases a.getLsbD i <;> cases (BitVec.ofInt 64 1).getLsbD i <;> simp
      have hor : (a &&& ~~~BitVec.ofInt 64 1) ||| (a &&& BitVec.ofInt 64 1) = a := by
        apply BitVec.eq_of_getLsbD_eq
        intro i hi
        simp only [BitVec.getLsbD_and, BitVec.getLsbD_not, BitVec.getLsbD_or]
        cases a.getLsbD i <;> cases (BitVec.ofInt 64 1).getLsbD i <;> simp [hi]
      rw [← BitVec.toNat_add_of_and_eq_zero hd, BitVec.add_eq_or_of_and_eq_zero _ _ hd, hor]
    have h3 := h2 (BitVec.ofInt 64 x)
    rw [h1] at h3
    have h4 : 0 ≤ x % 18446744073709551616 := Int.emod_nonneg _ (by decide)
    omega
  rw [key]
  by_cases c : 0 ≤ x
  · rw [i64_ok (by omega)]; omega
  · rw [IntKind.wrap_i64]; omega
end Go.Abs.K
