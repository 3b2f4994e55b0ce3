/- strconv.Itoa, KNOWN BY ITS PROVED CONTRACT (the library's; the table that it reads is what the codec's 'inv' says). -/
import Derived.Test.YtjfndepkgahkiaaDoorB
import Derived.Test.YtjfndepkgahkiaaDoorS1
import Derived.Lib.AppendIntMem
set_option linter.unusedVariables false
set_option linter.unusedSimpArgs false
namespace Go.Abs.K
open Go Go.Abs Go.Proofs

def w_strconv_Itoa (b : ByteArray) : List (RV C) := [dStr.e b]
noncomputable def strconv_Itoa (m : Nat) (i : Int) : Option ByteArray := cond (decide (-9223372036854775808 ≤ i)) (cond (decide (i ≤ 9223372036854775807)) (some ⟨(Lib.itoa i).toArray⟩) none) none
noncomputable def K_strconv_Itoa (m : Nat) : KnownF C := mkK (dCons (dInt .i64) dNil) (fun a => strconv_Itoa m a.1) w_strconv_Itoa
theorem K_strconv_Itoa_ok (m : Nat) : KnownAt C Tryd.prog 43 fun l => (K_strconv_Itoa m).run _ l some := by
  intro l rs w vs hinv hk hl
  simp only [K_strconv_Itoa, mkK] at hk
  split at hk
  · rename_i a ha
    have he := (dCons (C := C) (dInt .i64) dNil).ok _ _ ha
    have he : l = [.fl (.one (.int .i64 a.1))] := he
    subst he
    obtain ⟨v, vs', rfl, hv, hvs⟩ := hl.cons_inv
    have := hvs.nil_inv; subst this
    have hv' : v = .int .i64 a.1 := fr_int hv.2
    subst hv'
    unfold strconv_Itoa at hk
    by_cases h0 : -9223372036854775808 ≤ a.1
    · rw [decide_eq_true h0] at hk
      by_cases h1 : a.1 ≤ 9223372036854775807
      · rw [decide_eq_true h1] at hk
        simp only [Bool.cond_true, Option.bind_some, Option.some.injEq] at hk
        subst hk
        refine (Tryd.strconv_Itoa a.1 h0 h1 w hinv).mono fun e w' hx => ?_
        obtain ⟨rfl, k, os, rfl⟩ := hx
        refine ⟨[.string ⟨(Lib.itoa a.1).toArray⟩], rfl, Lib.below_grow _ w (Nat.le_refl _) k os, R2.cons ⟨rfl, str_fr _⟩ R2.nil, ?_⟩
        intro i j u u' g hi hj hij hg
        rcases i with _ | i
        · simp only [List.getElem?_cons_zero, Option.some.injEq] at hi
          subst hi
          simp [blkOf] at hg
        · simp at hi
      · rw [decide_eq_false h1] at hk; simp at hk
    · rw [decide_eq_false h0] at hk; simp at hk
  · cases hk
end Go.Abs.K
