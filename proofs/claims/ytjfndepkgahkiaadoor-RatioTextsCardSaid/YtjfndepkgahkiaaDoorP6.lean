/- RATIO: what is read of a string, whole; RatioParses. -/
import Derived.Test.YtjfndepkgahkiaaDoorP5
set_option linter.unusedVariables false
set_option linter.unusedSimpArgs false
namespace Go.Abs.K
open Go Go.Abs Go.Proofs

def sg (mn : Bool) (a : Int) : Int := if mn = true then -a else a
def fin2 (mn : Bool) (a b : Int) : Ratio × Int := if a > 1073741824 ∨ b > 1073741824 then (⟨0, 0⟩, 3) else if b < 2 ∨ Nat.gcd a.natAbs b.natAbs ≠ 1 then (⟨0, 0⟩, 4) else (⟨sg mn a, b⟩, 0)
def fin1 (mn : Bool) (a : Int) : Ratio × Int := if a > 1073741824 then (⟨0, 0⟩, 3) else (⟨sg mn a, 1⟩, 0)
def pr3 (mn : Bool) (a : Int) (l : List Int) : Ratio × Int := if sl l < l.length then (match num? (l.drop (sl l + 1)) with | none => (⟨0, 0⟩, 4) | some b => fin2 mn a b) else fin1 mn a
def pr2 (mn : Bool) (l : List Int) : Ratio × Int := match num? (l.take (sl l)) with
  | none => (⟨0, 0⟩, 4)
  | some a => if mn = true ∧ a = 0 then (⟨0, 0⟩, 4) else pr3 mn a l
/-- What is read. -/
def prs (l : List Int) : Ratio × Int := if l.headD 0 = 45 then pr2 true (l.drop 1) else pr2 false l
noncomputable def pend (mn : Bool) (a b : Int) : Option (Ratio × Int) := bif mn then some (⟨IntKind.i64.wrap (0 - a), b⟩, 0) else some (⟨a, b⟩, 0)
theorem pend_is (mn : Bool) {a b : Int} (h0 : 0 ≤ a) (h1 : a ≤ 1073741825) : pend mn a b = some (⟨sg mn a, b⟩, 0) := by
  unfold pend sg
  cases mn with
  | true => rw [Bool.cond_true, i64_ok (by omega), if_pos rfl, Int.zero_sub]
  | false => rfl
theorem num_range {l : List Int} {a : Int} (h : num? l = some a) : 0 ≤ a ∧ a ≤ 1073741825 := by
  rw [num_all] at h
  split at h
  · injection h with h; subst h
    exact val_range _ 0 (lead_digits l) (by omega) (by omega)
  · cases h
/-! ### The document -/
noncomputable def rin (M : Nat) (mn : Bool) (t : ByteArray) (r0 : Int) (r1 : Int × Bool) : Option (Ratio × Int) :=
  bif decide (r0 < (t.size : Int)) then
    (bif decide ((t.size : Int) ≤ (t.size : Int)) then
      (bif decide (0 ≤ IntKind.i64.wrap (r0 + 1)) then
        (bif decide (IntKind.i64.wrap (r0 + 1) ≤ (t.size : Int)) then
          ((ref01_number M (t.extract (IntKind.i64.wrap (r0 + 1)).toNat ((t.size : Int)).toNat)).bind fun r2 =>
            bif !r2.snd then some (⟨0, 0⟩, 4)
            else bif decide (r1.fst > 1073741824) then some (⟨0, 0⟩, 3)
            else bif decide (r2.fst > 1073741824) then some (⟨0, 0⟩, 3)
            else bif decide (r0 < (t.size : Int)) then
              (bif decide (r2.fst < 2) then some (⟨0, 0⟩, 4)
              else (ref01_gcd M (IntKind.u64.wrap r1.fst) (IntKind.u64.wrap r2.fst)).bind fun r3 =>
                bif r3 != 1 then some (⟨0, 0⟩, 4) else pend mn r1.fst r2.fst)
            else pend mn r1.fst r2.fst)
        else none)
      else none)
    else none)
  else bif decide (r1.fst > 1073741824) then some (⟨0, 0⟩, 3)
  else bif decide (r0 < (t.size : Int)) then some (⟨0, 0⟩, 4)
  else pend mn r1.fst 1
noncomputable def rmain (M : Nat) (mn : Bool) (t : ByteArray) : Option (Ratio × Int) :=
  (ref01_slash M t).bind fun r0 =>
    bif decide (0 ≤ r0) then
      (bif decide (r0 ≤ (t.size : Int)) then
        (bif decide (0 ≤ r0) then
          ((ref01_number M (t.extract 0 r0.toNat)).bind fun r1 =>
            bif !r1.snd then some (⟨0, 0⟩, 4)
            else bif mn then (bif r1.fst == 0 then some (⟨0, 0⟩, 4) else rin M mn t r0 r1) else rin M mn t r0 r1)
        else none)
      else none)
    else none
theorem size_drop (s : ByteArray) (k : Nat) : ofBytes (s.extract k s.size) = (ofBytes s).drop k := by
  rw [ofBytes_extract, ← ofBytes_length, List.take_length]
theorem size_take (s : ByteArray) (k : Nat) : ofBytes (s.extract 0 k) = (ofBytes s).take k := by
  rw [ofBytes_extract, List.drop_zero]
theorem rin_is (M : Nat) (hM : Big M) (mn : Bool) (t : ByteArray) (ht : t.size ≤ 1000) (a : Int) (h0 : 0 ≤ a) (h1 : a ≤ 1073741825) : rin M mn t ((sl (ofBytes t) : Nat) : Int) (a, true) = some (pr3 mn a (ofBytes t)) := by
  have hMh := hM.h
  have hsl := sl_le (ofBytes t)
  have hlen := ofBytes_length t
  have hw : IntKind.i64.wrap (((sl (ofBytes t) : Nat) : Int) + 1) = ((sl (ofBytes t) + 1 : Nat) : Int) := by rw [i64_ok (by omega)]; omega
  unfold rin pr3
  rw [hw]
  dsimp only
  by_cases c : sl (ofBytes t) < (ofBytes t).length
  · rw [if_pos c, bif_pos (by omega), bif_pos (by omega), bif_pos (by omega), bif_pos (by omega), Int.toNat_natCast, Int.toNat_natCast]
    have hsz : (t.extract (sl (ofBytes t) + 1) t.size).size ≤ 1000 := by rw [← ofBytes_length, size_drop, List.length_drop]; omega
    rw [number_is M hM _ hsz, size_drop, Option.bind_some]
    cases hn : num? ((ofBytes t).drop (sl (ofBytes t) + 1)) with
    | none => rfl
    | some b =>
      obtain ⟨b0, b1⟩ := num_range hn
      dsimp only
      unfold fin2
      simp only [Bool.not_true, Bool.cond_false]
      by_cases c1 : a > 1073741824
      · rw [bif_pos c1, if_pos (.inl c1)]
      rw [bif_neg c1]
      by_cases c2 : b > 1073741824
      · rw [bif_pos c2, if_pos (.inr c2)]
      rw [bif_neg c2, if_neg (by omega), bif_pos (by omega)]
      by_cases c3 : b < 2
      · rw [bif_pos c3, if_pos (.inl c3)]
      have ea : a = ((a.natAbs : Nat) : Int) := by omega
      have eb : b = ((b.natAbs : Nat) : Int) := by omega
      have hg : ref01_gcd M a b = some ((Nat.gcd a.natAbs b.natAbs : Nat) : Int) := by
        have := gcd_is M a.natAbs b.natAbs (by omega)
        rw [← ea, ← eb] at this
        exact this
      rw [bif_neg c3, u64_ok (n := a) (by omega), u64_ok (n := b) (by omega), hg, Option.bind_some, bne_if, pend_is mn h0 h1]
      by_cases c4 : Nat.gcd a.natAbs b.natAbs = 1
      · rw [if_pos (by omega), if_neg (by omega)]
      · rw [if_neg (by omega), if_pos (.inr c4)]
  · rw [if_neg c, bif_neg (by omega)]
    unfold fin1
    by_cases c1 : a > 1073741824
    · rw [bif_pos c1, if_pos c1]
    · rw [bif_neg c1, bif_neg (by omega), if_neg c1, pend_is mn h0 h1]
theorem rmain_is (M : Nat) (hM : Big M) (mn : Bool) (t : ByteArray) (ht : t.size ≤ 1000) : rmain M mn t = some (pr2 mn (ofBytes t)) := by
  have hsl := sl_le (ofBytes t)
  have hlen := ofBytes_length t
  unfold rmain pr2
  rw [slash_is M hM t ht, Option.bind_some, bif_pos (by omega), bif_pos (by omega), bif_pos (by omega), Int.toNat_natCast]
  have hsz : (t.extract 0 (sl (ofBytes t))).size ≤ 1000 := by rw [← ofBytes_length, size_take, List.length_take]; omega
  rw [number_is M hM _ hsz, size_take, Option.bind_some]
  cases hn : num? ((ofBytes t).take (sl (ofBytes t))) with
  | none => rfl
  | some a =>
    obtain ⟨a0, a1⟩ := num_range hn
    dsimp only
    simp only [Bool.not_true, Bool.cond_false]
    rw [rin_is M hM mn t ht a a0 a1, beq_if]
    cases mn with
    | true =>
      rw [Bool.cond_true]
      by_cases c : a = 0
      · rw [if_pos c, if_pos ⟨rfl, c⟩]
      · rw [if_neg c, if_neg (fun h => c h.2)]
    | false =>
      rw [Bool.cond_false, if_neg (fun h => by cases h.1)]
theorem rparse_is (M : Nat) (hM : Big M) (s : ByteArray) (hs : s.size ≤ 200) : ref01_Parse M s = some (prs (ofBytes s)) := by
  have hlen := ofBytes_length s
  unfold prs
  by_cases h0 : ofBytes s = []
  · have e : ref01_Parse M s = rmain M false s := by
      unfold ref01_Parse b_ref01_Parse
      rw [empty_iff, decide_eq_true h0]
      simp only [Bool.not_true, Bool.cond_false]
      have hb : (byteAt s 0 == 45) = false := by rw [at0, h0]; rfl
      try simp only [hb, Bool.cond_false]
      rfl
    rw [e, rmain_is M hM false s (by omega), h0]
    rfl
  · have hp : 0 < (ofBytes s).length := List.length_pos_iff.2 h0
    by_cases hb : (ofBytes s).headD 0 = 45
    · have hb' : (byteAt s 0 == 45) = true := by rw [at0, hb]; rfl
      have e : ref01_Parse M s = rmain M true (s.extract 1 ((s.size : Int)).toNat) := by
        unfold ref01_Parse b_ref01_Parse
        rw [empty_iff, decide_eq_false h0]
        simp only [Bool.not_false, Bool.cond_true, hb', bif_pos (show (0 : Int) < (s.size : Int) by omega), bif_pos (show ((s.size : Int)) ≤ (s.size : Int) by omega), bif_pos (show (1 : Int) ≤ (s.size : Int) by omega)]
        rfl
      rw [e, Int.toNat_natCast, if_pos hb, rmain_is M hM true _ (by rw [← ofBytes_length, size_drop, List.length_drop]; omega), size_drop]
    · have hb' : (byteAt s 0 == 45) = false := by rw [at0]; simpa using hb
      have e : ref01_Parse M s = rmain M false s := by
        unfold ref01_Parse b_ref01_Parse
        rw [empty_iff, decide_eq_false h0]
        simp only [Bool.not_false, Bool.cond_true, hb', Bool.cond_false, bif_pos (show (0 : Int) < (s.size : Int) by omega)]
        rfl
      rw [e, if_neg hb, rmain_is M hM false s (by omega)]
/-! ### The program -/
noncomputable def pmain (M : Nat) (mn : Bool) (r0 : Int × ByteArray × Bool) : Option (Ratio × Int) :=
  bif !(r0.snd.fst.toList == (bs []).toList) then
    (bif decide (0 < (r0.snd.fst.size : Int)) then
      (bif byteAt r0.snd.fst 0 != 47 then some (⟨0, 0⟩, 4)
      else bif decide ((r0.snd.fst.size : Int) ≤ (r0.snd.fst.size : Int)) then
        (bif decide (1 ≤ (r0.snd.fst.size : Int)) then
          ((ratio_digits M (r0.snd.fst.extract 1 ((r0.snd.fst.size : Int)).toNat)).bind fun r1 =>
            bif !r1.snd.snd then some (⟨0, 0⟩, 4)
            else bif !(r1.snd.fst.toList == (bs []).toList) then some (⟨0, 0⟩, 4)
            else bif decide (r0.fst > 1073741824) then some (⟨0, 0⟩, 3)
            else bif decide (r1.fst > 1073741824) then some (⟨0, 0⟩, 3)
            else bif !(r0.snd.fst.toList == (bs []).toList) then
              (bif decide (r1.fst < 2) then some (⟨0, 0⟩, 4)
              else (ratio_size M r0.fst).bind fun r2 => (ratio_size M r1.fst).bind fun r3 => (ratio_common M r2 r3).bind fun r4 =>
                bif decide (r4 > 1) then some (⟨0, 0⟩, 4) else pend mn r0.fst r1.fst)
            else pend mn r0.fst r1.fst)
        else none)
      else none)
    else none)
  else bif decide (r0.fst > 1073741824) then some (⟨0, 0⟩, 3)
  else bif !(r0.snd.fst.toList == (bs []).toList) then some (⟨0, 0⟩, 4)
  else pend mn r0.fst 1
noncomputable def phead (M : Nat) (mn : Bool) (t : ByteArray) : Option (Ratio × Int) :=
  (ratio_digits M t).bind fun r0 =>
    bif !r0.snd.snd then some (⟨0, 0⟩, 4)
    else bif mn then (bif r0.fst == 0 then some (⟨0, 0⟩, 4) else pmain M mn r0) else pmain M mn r0
theorem pmain_is (M : Nat) (hM : Big M) (mn : Bool) (t : ByteArray) (ht : t.size ≤ 1000) (hk : okl (lead (ofBytes t)) (ofBytes t) = true) :
    pmain M mn (val 0 ((ofBytes t).take (lead (ofBytes t))), t.extract (lead (ofBytes t)) t.size, true) = some (if lead (ofBytes t) = sl (ofBytes t) then pr3 mn (val 0 ((ofBytes t).take (lead (ofBytes t)))) (ofBytes t) else (⟨0, 0⟩, 4)) := by
  have hMh := hM.h
  have hsl := sl_le (ofBytes t)
  have hls := lead_sl (ofBytes t)
  have hlen := ofBytes_length t
  obtain ⟨a0, a1⟩ := val_range _ 0 (lead_digits (ofBytes t)) (by omega) (by omega)
  generalize val 0 ((ofBytes t).take (lead (ofBytes t))) = a at *
  unfold pmain
  dsimp only
  rw [empty_iff, size_drop, at0, size_drop]
  have hsz : (t.extract (lead (ofBytes t)) t.size).size = t.size - lead (ofBytes t) := by rw [← ofBytes_length, size_drop, List.length_drop, ofBytes_length]
  by_cases c : lead (ofBytes t) = sl (ofBytes t)
  · rw [if_pos c]
    unfold pr3
    by_cases c2 : sl (ofBytes t) < (ofBytes t).length
    · have hd := at_sl (ofBytes t) c2
      rw [← c] at hd c2
      rw [if_pos (by rw [← c]; exact c2), hd, decide_eq_false (by simp)]
      simp only [Bool.not_false, Bool.cond_true]
      rw [bif_pos (by rw [hsz]; omega), List.headD_cons, bne_if, if_pos rfl, bif_pos (by omega), bif_pos (by rw [hsz]; omega), Int.toNat_natCast]
      have hx : ofBytes ((t.extract (lead (ofBytes t)) t.size).extract 1 (t.extract (lead (ofBytes t)) t.size).size) = (ofBytes t).drop (sl (ofBytes t) + 1) := by
        rw [size_drop, size_drop, List.drop_drop, c]
      have hsz2 : ((t.extract (lead (ofBytes t)) t.size).extract 1 (t.extract (lead (ofBytes t)) t.size).size).size ≤ 1000 := by
        rw [← ofBytes_length, hx, List.length_drop]; omega
      rw [digitsP_is M hM _ hsz2, hx, Option.bind_some]
      dsimp only
      rw [num_all]
      generalize hl2 : (ofBytes t).drop (sl (ofBytes t) + 1) = l2 at *
      have hll := lead_le l2
      cases ho : okl (lead l2) l2 with
      | false => rw [if_neg (by simp)]; rfl
      | true =>
        simp only [Bool.not_true, Bool.cond_false]
        rw [empty_iff, size_drop, hx]
        by_cases c3 : lead l2 = l2.length
        · rw [if_pos ⟨c3, trivial⟩, decide_eq_true (by rw [c3, List.drop_length])]
          obtain ⟨b0, b1⟩ := val_range _ 0 (lead_digits l2) (by omega) (by omega)
          generalize val 0 (l2.take (lead l2)) = b at *
          dsimp only
          unfold fin2
          simp only [Bool.not_true, Bool.cond_false]
          by_cases d1 : a > 1073741824
          · rw [bif_pos d1, if_pos (.inl d1)]
          rw [bif_neg d1]
          by_cases d2 : b > 1073741824
          · rw [bif_pos d2, if_pos (.inr d2)]
          rw [bif_neg d2, if_neg (by omega)]
          by_cases d3 : b < 2
          · rw [bif_pos d3, if_pos (.inl d3)]
          rw [bif_neg d3, size_is M _ (show I64 a by unfold I64; omega), Option.bind_some, size_is M _ (show I64 b by unfold I64; omega), Option.bind_some, common_is M _ _ (by omega), Option.bind_some, pend_is mn a0 a1]
          have hgp : 0 < Nat.gcd a.natAbs b.natAbs := Nat.gcd_pos_of_pos_right _ (by omega)
          by_cases d4 : Nat.gcd a.natAbs b.natAbs = 1
          · rw [bif_neg (by omega), if_neg (by omega)]
          · rw [bif_pos (by omega), if_pos (.inr d4)]
        · rw [if_neg (fun h => c3 h.1), decide_eq_false (fun h => by have := drop_nil h; omega)]
          rfl
    · rw [if_neg c2, decide_eq_true (by rw [c]; exact List.drop_eq_nil_iff.2 (by omega))]
      simp only [Bool.not_true, Bool.cond_false]
      unfold fin1
      by_cases d1 : a > 1073741824
      · rw [bif_pos d1, if_pos d1]
      · rw [bif_neg d1, if_neg d1, pend_is mn a0 a1]
  · rw [if_neg c]
    obtain ⟨y, z, hd, hy⟩ := before_sl (ofBytes t) (lead (ofBytes t)) (by omega)
    rw [hd, decide_eq_false (by simp)]
    simp only [Bool.not_false, Bool.cond_true]
    rw [bif_pos (by rw [hsz]; omega), List.headD_cons, bne_if, if_neg hy]
theorem phead_is (M : Nat) (hM : Big M) (mn : Bool) (t : ByteArray) (ht : t.size ≤ 1000) : phead M mn t = some (pr2 mn (ofBytes t)) := by
  unfold phead pr2
  rw [digitsP_is M hM t ht, Option.bind_some, num_at]
  dsimp only
  by_cases ho : okl (lead (ofBytes t)) (ofBytes t) = true
  · have hmn := pmain_is M hM mn t ht ho
    rw [ho, hmn, Bool.not_true, Bool.cond_false, beq_if]
    by_cases c : lead (ofBytes t) = sl (ofBytes t)
    · rw [if_pos (show lead (ofBytes t) = sl (ofBytes t) ∧ true = true from ⟨c, rfl⟩), if_pos c]
      dsimp only
      cases mn with
      | true =>
        rw [Bool.cond_true]
        by_cases c2 : val 0 ((ofBytes t).take (lead (ofBytes t))) = 0
        · rw [if_pos c2, if_pos (show true = true ∧ val 0 ((ofBytes t).take (lead (ofBytes t))) = 0 from ⟨rfl, c2⟩)]
        · rw [if_neg c2, if_neg (show ¬ (true = true ∧ val 0 ((ofBytes t).take (lead (ofBytes t))) = 0) from fun h => c2 h.2)]
      | false =>
        rw [Bool.cond_false, if_neg (show ¬ (false = true ∧ val 0 ((ofBytes t).take (lead (ofBytes t))) = 0) from fun h => by cases h.1)]
    · rw [if_neg (show ¬ (lead (ofBytes t) = sl (ofBytes t) ∧ true = true) from fun h => c h.1), if_neg c]
      cases mn with
      | true => rw [Bool.cond_true]; split <;> rfl
      | false => rfl
  · rw [if_neg (fun h => ho h.2)]
    have hf : okl (lead (ofBytes t)) (ofBytes t) = false := by simpa using ho
    rw [hf]
    rfl
theorem parse_is (M : Nat) (hM : Big M) (s : ByteArray) (hs : s.size ≤ 200) : ratio_Parse M s = some (prs (ofBytes s)) := by
  have hlen := ofBytes_length s
  unfold prs
  by_cases h0 : ofBytes s = []
  · have e : ratio_Parse M s = phead M false s := by
      unfold ratio_Parse b_ratio_Parse
      rw [empty_iff, decide_eq_true h0]
      simp only [Bool.not_true, Bool.cond_false]
      have hb : (byteAt s 0 == 45) = false := by rw [at0, h0]; rfl
      try simp only [hb, Bool.cond_false]
      rfl
    rw [e, phead_is M hM false s (by omega), h0]
    rfl
  · have hp : 0 < (ofBytes s).length := List.length_pos_iff.2 h0
    by_cases hb : (ofBytes s).headD 0 = 45
    · have hb' : (byteAt s 0 == 45) = true := by rw [at0, hb]; rfl
      have e : ratio_Parse M s = phead M true (s.extract 1 ((s.size : Int)).toNat) := by
        unfold ratio_Parse b_ratio_Parse
        rw [empty_iff, decide_eq_false h0]
        simp only [Bool.not_false, Bool.cond_true, hb', bif_pos (show (0 : Int) < (s.size : Int) by omega), bif_pos (show ((s.size : Int)) ≤ (s.size : Int) by omega), bif_pos (show (1 : Int) ≤ (s.size : Int) by omega)]
        rfl
      rw [e, Int.toNat_natCast, if_pos hb, phead_is M hM true _ (by rw [← ofBytes_length, size_drop, List.length_drop]; omega), size_drop]
    · have hb' : (byteAt s 0 == 45) = false := by rw [at0]; simpa using hb
      have e : ratio_Parse M s = phead M false s := by
        unfold ratio_Parse b_ratio_Parse
        rw [empty_iff, decide_eq_false h0]
        simp only [Bool.not_false, Bool.cond_true, hb', Bool.cond_false, bif_pos (show (0 : Int) < (s.size : Int) by omega)]
        rfl
      rw [e, if_neg hb, phead_is M hM false s (by omega)]
theorem RatioParses_true (s : ByteArray) (q0 : s.size ≤ 140737488351232) : ∃ M, law01_RatioParses M s = some true := by
  refine ⟨9223372036854775901, ?_⟩
  unfold law01_RatioParses b_law01_RatioParses
  rw [awake_true _ big0]
  by_cases c : (s.size : Int) > 200
  · rw [bif_pos c]; rfl
  · rw [bif_neg c, parse_is _ big0 s (by omega), rparse_is _ big0 s (by omega)]
    simp only [Option.bind_some, beq_self_eq_true, Bool.and_true, Bool.cond_true]
end Go.Abs.K
