/- RATIO: texts; RatioValid. -/
import Derived.Test.YtjfndepkgahkiaaDoorP3
set_option linter.unusedVariables false
set_option linter.unusedSimpArgs false
namespace Go.Abs.K
open Go Go.Abs Go.Proofs

/-- The decimal digits of a number. -/
def dgs (u : Nat) : List Int := (Lib.decDigits u).map fun b => (b.toNat : Int)
theorem dgs_small {u : Nat} (h : u < 10) : dgs u = [48 + (u : Int)] := by
  unfold dgs
  rw [Lib.decDigits, dif_pos h]
  have : (UInt8.ofNat (48 + u)).toNat = 48 + u := by
    rw [UInt8.toNat_ofNat']
    omega
  simp only [List.map_cons, List.map_nil, this]
  congr 1
theorem dgs_big {u : Nat} (h : ¬ u < 10) : dgs u = dgs (u / 10) ++ [48 + ((u % 10 : Nat) : Int)] := by
  unfold dgs
  conv => lhs; rw [Lib.decDigits, dif_neg h]
  have : (UInt8.ofNat (48 + u % 10)).toNat = 48 + u % 10 := by
    rw [UInt8.toNat_ofNat']
    omega
  simp only [List.map_append, List.map_cons, List.map_nil, this]
  congr 1
theorem dgs_len (u : Nat) : 1 ≤ (dgs u).length ∧ (dgs u).length ≤ u + 1 := by
  induction u using Nat.strongRecOn with
  | _ u ih =>
    by_cases h : u < 10
    · rw [dgs_small h]; simp
    · rw [dgs_big h]
      have := ih (u / 10) (by omega)
      simp only [List.length_append, List.length_cons, List.length_nil]
      omega
def digB (u : Nat) : ByteArray := ⟨(Lib.decDigits u).toArray⟩
theorem digB_bytes (u : Nat) : ofBytes (digB u) = dgs u := rfl
theorem digB_size (u : Nat) : (digB u).size = (dgs u).length := by rw [← ofBytes_length, digB_bytes]
def itoaB (n : Int) : ByteArray := ⟨(Lib.itoa n).toArray⟩
theorem itoaB_neg {n : Int} (h : n < 0) : ofBytes (itoaB n) = 45 :: dgs n.natAbs := by
  show (Lib.itoa n).map (fun b => (b.toNat : Int)) = _
  unfold Lib.itoa
  rw [if_pos h]
  rfl
theorem itoaB_pos {n : Int} (h : ¬ n < 0) : ofBytes (itoaB n) = dgs n.natAbs := by
  show (Lib.itoa n).map (fun b => (b.toNat : Int)) = _
  unfold Lib.itoa
  rw [if_neg h, show n.toNat = n.natAbs by omega]
  rfl
theorem itoa_is (M : Nat) {n : Int} (h : I64 n) : strconv_Itoa M n = some (itoaB n) := by
  unfold I64 at h
  unfold strconv_Itoa
  rw [decide_eq_true h.1, decide_eq_true h.2]
  rfl
theorem ten_tab : ∀ k : Fin 10, ((ofBytes (bs [48, 49, 50, 51, 52, 53, 54, 55, 56, 57])).take (k.val + 1)).drop k.val = [48 + (k.val : Int)] := by decide +kernel
theorem ten_piece {k : Nat} (h : k < 10) : (bs [48, 49, 50, 51, 52, 53, 54, 55, 56, 57]).extract k (k + 1) = toBytes [48 + (k : Int)] := by
  apply ofBytes_inj
  rw [ofBytes_extract, ten_tab ⟨k, h⟩, ofBytes_toBytes (fun x hx => by simp only [List.mem_singleton] at hx; omega)]
theorem digits_l (M : Nat) : ∀ (m u : Nat), u < m → u ≤ 4611686018427387904 → ref01_digits_at M m (u : Int) = some (digB u)
  | 0, u, h, _ => by omega
  | m + 1, u, h, hb => by
    simp only [ref01_digits_at, b_ref01_digits]
    by_cases c : u < 10
    · rw [bif_pos (by omega), i64_ok (n := (u : Int) + 1) (by omega), bif_pos (by omega), bif_pos (by omega), bif_pos (by omega), bif_pos (by omega)]
      rw [Int.toNat_natCast, show ((u : Int) + 1).toNat = u + 1 by omega, ten_piece c]
      congr 1
      apply ofBytes_inj
      rw [digB_bytes, dgs_small c, ofBytes_toBytes (fun x hx => by simp only [List.mem_singleton] at hx; omega)]
    · have e1 : (u : Int).tdiv 10 = ((u / 10 : Nat) : Int) := by rw [Int.tdiv_eq_ediv_of_nonneg (by omega)]; omega
      have e2 : (u : Int).tmod 10 = ((u % 10 : Nat) : Int) := by rw [Int.tmod_eq_emod_of_nonneg (by omega)]; omega
      have hl := dgs_len (u / 10)
      have hlt : u % 10 < 10 := Nat.mod_lt _ (by omega)
      rw [bif_neg (by omega), e1, e2]
      have e3 : IntKind.i64.wrap ((u / 10 : Nat) : Int) = ((u / 10 : Nat) : Int) := i64_ok (by omega)
      rw [e3, digits_l M m (u / 10) (by omega) (by omega), Option.bind_some]
      have e4 : IntKind.i64.wrap (((u % 10 : Nat) : Int) + 1) = ((u % 10 + 1 : Nat) : Int) := by rw [i64_ok (by omega)]; omega
      rw [e4, Int.toNat_natCast, Int.toNat_natCast, ten_piece hlt, toBytes_size, digB_size]
      simp only [List.length_cons, List.length_nil]
      generalize hr : u % 10 = r at *
      rw [bif_pos (by omega), bif_pos (by omega), bif_pos (by omega), bif_pos (by omega), bif_neg (by omega)]
      congr 1
      apply ofBytes_inj
      rw [ofBytes_append, digB_bytes, digB_bytes, dgs_big c, hr, ofBytes_toBytes (fun x hx => by simp only [List.mem_singleton] at hx; omega)]
theorem digits_is (M : Nat) (hM : Big M) (u : Nat) (h : u ≤ 4611686018427387904) : ref01_digits M (u : Int) = some (digB u) := digits_l M M u (by have := hM.h; omega) h
/-- The text of a ratio. -/
def tx (r : Ratio) : ByteArray := if VR r then (if r.Den = 1 then itoaB r.Num else itoaB r.Num ++ (bs [47] ++ itoaB r.Den)) else bs []
theorem itoaB_size {n : Int} : (itoaB n).size ≤ n.natAbs + 2 := by
  have h := dgs_len n.natAbs
  rw [← ofBytes_length]
  by_cases c : n < 0
  · rw [itoaB_neg c, List.length_cons]; omega
  · rw [itoaB_pos c]; omega
theorem text_is (M : Nat) (hM : Big M) (r : Ratio) : ratio_Text M r = some (tx r) := by
  unfold ratio_Text b_ratio_Text tx
  rw [valid_is M hM]
  by_cases h : VR r
  · have n0 := h.n0
    have n1 := h.n1
    have d0 := h.d0
    have d1 := h.d1
    rw [decide_eq_true h, if_pos h]
    simp only [Option.bind_some, Bool.not_true, Bool.cond_false]
    rw [itoa_is M (show I64 r.Num by unfold I64; omega), Option.bind_some, bne_if]
    by_cases c : r.Den = 1
    · rw [if_pos c, if_pos c]
    · rw [if_neg c, if_neg c, itoa_is M (show I64 r.Den by unfold I64; omega), Option.bind_some]
      have s1 := itoaB_size (n := r.Num)
      have s2 := itoaB_size (n := r.Den)
      have s3 : (bs [47] : ByteArray).size = 1 := rfl
      rw [bif_neg (by omega), bif_neg (by rw [size_append, s3]; omega)]
  · rw [decide_eq_false h, if_neg h]
    rfl
theorem bs47 : ofBytes (bs [47]) = [47] := rfl
theorem bs45 : ofBytes (bs [45]) = [45] := rfl
theorem rtext_is (M : Nat) (hM : Big M) (r : Ratio) : ref01_Text M r = some (tx r) := by
  unfold ref01_Text b_ref01_Text tx
  rw [rvalid_is M hM]
  by_cases h : VR r
  · have n0 := h.n0
    have n1 := h.n1
    have d0 := h.d0
    have d1 := h.d1
    have l1 := dgs_len r.Num.natAbs
    have l2 := dgs_len r.Den.natAbs
    have eD : r.Den = ((r.Den.natAbs : Nat) : Int) := by omega
    have hDd : ref01_digits M r.Den = some (digB r.Den.natAbs) := by
      have := digits_is M hM r.Den.natAbs (by omega)
      rw [← eD] at this
      exact this
    have hiD : itoaB r.Den = digB r.Den.natAbs := ofBytes_inj (by rw [itoaB_pos (by omega), digB_bytes])
    have z1 : (bs [45] : ByteArray).size = 1 := rfl
    have z2 : (bs [47] : ByteArray).size = 1 := rfl
    rw [decide_eq_true h, if_pos h]
    simp only [Option.bind_some, Bool.not_true, Bool.cond_false]
    rw [rsize_is M _ (show I64 r.Num by unfold I64; omega), Option.bind_some, i64_ok (n := ((r.Num.natAbs : Nat) : Int)) (by omega), digits_is M hM _ (by omega), Option.bind_some]
    by_cases c : r.Num < 0
    · have hiN : itoaB r.Num = bs [45] ++ digB r.Num.natAbs := ofBytes_inj (by rw [itoaB_neg c, ofBytes_append, digB_bytes, bs45]; rfl)
      rw [bif_pos c, bif_neg (by rw [digB_size]; omega), bne_if]
      by_cases c2 : r.Den = 1
      · rw [if_pos c2, if_pos c2, hiN]
      · rw [if_neg c2, if_neg c2, bif_neg (by rw [size_append, digB_size, z1]; omega), hDd, Option.bind_some, bif_neg (by rw [size_append, size_append, digB_size, digB_size, z1, z2]; omega), hiN, hiD]
        congr 1
        apply ofBytes_inj
        simp only [ofBytes_append, List.append_assoc]
    · have hiN : itoaB r.Num = digB r.Num.natAbs := ofBytes_inj (by rw [itoaB_pos c, digB_bytes])
      rw [bif_neg c, bne_if]
      by_cases c2 : r.Den = 1
      · rw [if_pos c2, if_pos c2, hiN]
      · rw [if_neg c2, if_neg c2, bif_neg (by rw [digB_size]; omega), hDd, Option.bind_some, bif_neg (by rw [size_append, digB_size, digB_size, z2]; omega), hiN, hiD]
        congr 1
        apply ofBytes_inj
        simp only [ofBytes_append, List.append_assoc]
  · rw [decide_eq_false h, if_neg h]
    rfl
theorem RatioValid_true (r : Ratio) (q0 : wf_Ratio r) : ∃ M, law01_RatioValid M r = some true := by
  refine ⟨9223372036854775901, ?_⟩
  unfold law01_RatioValid b_law01_RatioValid
  rw [valid_is _ big0, rvalid_is _ big0, text_is _ big0, rtext_is _ big0, awake_true _ big0]
  simp only [Option.bind_some, beq_self_eq_true, Bool.cond_true]
end Go.Abs.K
