/- PLAIN AIDS: a law's arguments, opened; numbers that a kind holds; bits; bytes. -/
import Derived.Test.YtjfndepkgahkiaaDoorA32
import Derived.IntWalk
set_option linter.unusedVariables false
set_option linter.unusedSimpArgs false
namespace Go.Abs
section
variable {C : Codec} {P : Program}
theorem ToldAll.uncons {K : ArgK} {Ks : List ArgK} {rvs : List (RV C)} (h : ToldAll C P (K :: Ks) rvs) : ∃ r rs, rvs = r :: rs ∧ Told C P K r ∧ ToldAll C P Ks rs := by
  cases rvs with
  | nil => exact h.elim
  | cons r rs => exact ⟨r, rs, rfl, h.1, h.2⟩
theorem ToldAll.unnil {rvs : List (RV C)} (h : ToldAll C P [] rvs) : rvs = [] := by
  cases rvs with
  | nil => rfl
  | cons r rs => exact h.elim
theorem told_one {T : TypeDesc} {r : RV C} (h : Told C P (.one T) r) : ∃ s, r = .fl (.one s) ∧ Suits T s := by
  cases r with
  | fl x =>
    cases x with
    | one s => exact ⟨s, rfl, h⟩
    | agg cs => exact h.elim
  | row e xs => exact h.elim
theorem told_int {k : IntKind} {r : RV C} (h : Told C P (.one (.int k)) r) : ∃ n, r = .fl (.one (.int k n)) ∧ k.min ≤ n ∧ n ≤ k.max := by
  obtain ⟨s, rfl, h⟩ := told_one h
  cases s with
  | int k' n => obtain ⟨rfl, h2⟩ := h; exact ⟨n, rfl, h2⟩
  | _ => exact h.elim
theorem told_bool {r : RV C} (h : Told C P (.one .bool) r) : ∃ b, r = .fl (.one (.bool b)) := by
  obtain ⟨s, rfl, h⟩ := told_one h
  cases s <;> first | exact h.elim | skip
  exact ⟨_, rfl⟩
theorem told_str {r : RV C} (h : Told C P (.one .string) r) : ∃ s, r = .fl (.one (.str s)) ∧ s.size ≤ 140737488351232 := by
  obtain ⟨s, rfl, h⟩ := told_one h
  cases s <;> first | exact h.elim | skip
  exact ⟨_, rfl, h⟩
theorem told_row {e : TypeId} {ls : List TypeDesc} {r : RV C} (h : Told C P (.row e ls) r) : ∃ xs : List (C.Elt e), r = .row e xs ∧ (∀ x, x ∈ xs → SuitAll ls (C.enc e x)) ∧ xs.length * P.bytesOf e ≤ 140737488351232 := by
  cases r with
  | fl x => cases x <;> exact h.elim
  | row e' xs =>
    have h1 := h.1
    subst h1
    exact ⟨xs, rfl, h.2.1, h.2.2⟩
theorem told_agg {ls : List TypeDesc} {r : RV C} (h : Told C P (.agg ls) r) : ∃ cs, r = .fl (.agg cs) ∧ SuitAll ls cs := by
  cases r with
  | fl x =>
    cases x with
    | one s => exact h.elim
    | agg cs => exact ⟨cs, rfl, h⟩
  | row e xs => exact h.elim
theorem mkK_true {A B : Type} {D : DecL C A} {F : A → Option B} {wrap : B → List (RV C)} (a : A) {b : B} {l : List (RV C)} {rs : List (RV C)} (hl : D.d l = some a) (hF : F a = some b) (hw : wrap b = rs) : (mkK D F wrap).run _ l some = some rs := by
  simp only [mkK, hl, hF, Option.bind_some, hw]
end

/-! ### Numbers -/
theorem i64_ok {n : Int} (h : -9223372036854775808 ≤ n ∧ n ≤ 9223372036854775807) : IntKind.i64.wrap n = n := IntWalk.i64_in n h
theorem u64_ok {n : Int} (h : 0 ≤ n ∧ n ≤ 18446744073709551615) : IntKind.u64.wrap n = n := IntWalk.u64_in n h
theorem u8_ok {n : Int} (h : 0 ≤ n ∧ n ≤ 255) : IntKind.u8.wrap n = n := IntWalk.u8_in n h
theorem u8_eq (n : Int) : IntKind.u8.wrap n = n % 256 := by rw [IntKind.wrap_u8]
theorem u64_eq (n : Int) : IntKind.u64.wrap n = n % 18446744073709551616 := by simp [IntKind.wrap, IntKind.bits, IntKind.signed]
theorem i64_min : IntKind.i64.min = -9223372036854775808 := by decide
theorem i64_max : IntKind.i64.max = 9223372036854775807 := by decide
theorem u8_min : IntKind.u8.min = 0 := by decide
theorem u8_max : IntKind.u8.max = 255 := by decide
theorem u64_min : IntKind.u64.min = 0 := by decide
theorem u64_max : IntKind.u64.max = 18446744073709551615 := by decide
/-- Bits of a number that is not negative. -/
theorem ofInt_nat (w n : Nat) : BitVec.ofInt w (n : Int) = BitVec.ofNat w n := by
  apply BitVec.eq_of_toNat_eq; simp [BitVec.toNat_ofInt]
theorem and_nat (w a b : Nat) (ha : a < 2 ^ w) (hb : b < 2 ^ w) : (BitVec.ofInt w (a : Int) &&& BitVec.ofInt w (b : Int)).toNat = a &&& b := by
  rw [ofInt_nat, ofInt_nat, BitVec.toNat_and, BitVec.toNat_ofNat, BitVec.toNat_ofNat, Nat.mod_eq_of_lt ha, Nat.mod_eq_of_lt hb]
theorem or_nat (w a b : Nat) (ha : a < 2 ^ w) (hb : b < 2 ^ w) : (BitVec.ofInt w (a : Int) ||| BitVec.ofInt w (b : Int)).toNat = a ||| b := by
  rw [ofInt_nat, ofInt_nat, BitVec.toNat_or, BitVec.toNat_ofNat, BitVec.toNat_ofNat, Nat.mod_eq_of_lt ha, Nat.mod_eq_of_lt hb]
/-- The low k bits. -/
theorem and_low (w k : Nat) (n : Int) (hk : k ≤ w) : (((BitVec.ofInt w n &&& BitVec.ofInt w ((2 ^ k - 1 : Nat) : Int)).toNat : Nat) : Int) = n % 2 ^ k := by
  have h1 : (BitVec.ofInt w n).toNat = (n % 2 ^ w).toNat := by simp [BitVec.toNat_ofInt]
  have h0 : 0 ≤ n % 2 ^ w := Int.emod_nonneg _ (by have := Int.pow_pos (n := 2) (m := w) (by omega); omega)
  have hlt : (2 ^ k - 1 : Nat) < 2 ^ w := by
    have := Nat.pow_le_pow_right (n := 2) (by omega) hk
    have := Nat.two_pow_pos k
    omega
  rw [ofInt_nat, BitVec.toNat_and, h1, BitVec.toNat_ofNat, Nat.mod_eq_of_lt hlt, Nat.and_two_pow_sub_one_eq_mod]
  rw [Int.natCast_emod, Int.toNat_of_nonneg h0]
  have hd : ((2 : Int) ^ k) ∣ 2 ^ w := ⟨2 ^ (w - k), by rw [← Int.pow_add]; congr 1; omega⟩
  rw [show ((2 ^ k : Nat) : Int) = (2 : Int) ^ k by simp]
  exact Int.emod_emod_of_dvd n hd

/-! ### Bytes -/
theorem size_toList (s : ByteArray) : s.data.toList.length = s.size := by rw [Array.length_toList]; rfl
theorem ofBytes_length (s : ByteArray) : (ofBytes s).length = s.size := by simp [ofBytes, size_toList]
theorem toBytes_size (l : List Int) : (toBytes l).size = l.length := by simp [toBytes, ByteArray.size]
def Bytes (l : List Int) : Prop := ∀ x, x ∈ l → 0 ≤ x ∧ x ≤ 255
theorem bytes_ofBytes (s : ByteArray) : Bytes (ofBytes s) := by
  intro x hx
  simp only [ofBytes, List.mem_map] at hx
  obtain ⟨b, _, rfl⟩ := hx
  have := b.toNat_lt
  omega
theorem ofBytes_toBytes {l : List Int} (h : Bytes l) : ofBytes (toBytes l) = l := by
  simp only [ofBytes, toBytes, List.map_map]
  rw [List.map_congr_left (g := id)]
  · simp
  · intro x hx
    have := h x hx
    simp only [Function.comp, id]
    rw [UInt8.toNat_ofNat']
    omega
theorem toBytes_ofBytes (s : ByteArray) : toBytes (ofBytes s) = s := by
  simp only [ofBytes, toBytes, List.map_map]
  have : (s.data.toList.map ((fun n : Int => UInt8.ofNat n.toNat) ∘ fun b : UInt8 => (b.toNat : Int))) = s.data.toList := by
    rw [List.map_congr_left (g := id)]
    · simp
    · intro x _; simp
  rw [this]
theorem ofBytes_inj {s t : ByteArray} (h : ofBytes s = ofBytes t) : s = t := by rw [← toBytes_ofBytes s, h, toBytes_ofBytes]
theorem byteAt_eq (s : ByteArray) (i : Int) : byteAt s i = (ofBytes s).getD i.toNat 0 := by
  simp only [byteAt, ofBytes, List.getD_eq_getElem?_getD, List.getElem?_map]
  cases s.data.toList[i.toNat]? <;> simp
theorem byteAt_range (s : ByteArray) (i : Int) : 0 ≤ byteAt s i ∧ byteAt s i ≤ 255 := by
  unfold byteAt
  have := (s.data.toList.getD i.toNat 0).toNat_lt
  omega
theorem ofBytes_append (s t : ByteArray) : ofBytes (s ++ t) = ofBytes s ++ ofBytes t := by
  simp [ofBytes, ByteArray.data_append]
theorem ofBytes_extract (s : ByteArray) (a b : Nat) : ofBytes (s.extract a b) = ((ofBytes s).take b).drop a := by
  simp only [ofBytes, ByteArray.data_extract, Array.toList_extract, List.extract_eq_take_drop, List.map_take, List.map_drop]
  rw [List.drop_take]
theorem ofBytes_bs (l : List Nat) : ofBytes (bs l) = l.map fun n => ((n % 256 : Nat) : Int) := by
  simp only [ofBytes, bs, List.map_map]
  apply List.map_congr_left
  intro x _
  simp [UInt8.toNat_ofNat']
theorem ofBytes_empty : ofBytes ByteArray.empty = [] := rfl
theorem toList_eq_data (s : ByteArray) : s.toList = s.data.toList := by
  have key : ∀ (n i : Nat) (r : List UInt8), n = s.size - i → ByteArray.toList.loop s i r = r.reverse ++ s.data.toList.drop i := by
    intro n
    induction n with
    | zero =>
      intro i r h
      unfold ByteArray.toList.loop
      rw [if_neg (by omega), List.drop_of_length_le (by rw [size_toList]; omega), List.append_nil]
    | succ n ih =>
      intro i r h
      unfold ByteArray.toList.loop
      rw [if_pos (by omega), ih (i + 1) _ (by omega)]
      have hi : i < s.data.toList.length := by rw [size_toList]; omega
      rw [List.drop_eq_getElem_cons hi]
      have : s.get! i = s.data.toList[i] := by
        simp [ByteArray.get!, Array.getElem!_eq_getD]
        rw [Array.getElem?_eq_getElem (by simpa using hi)]; rfl
      simp [this]
  unfold ByteArray.toList
  simpa using key _ 0 [] rfl
theorem str_beq (s t : ByteArray) : (s.toList == t.toList) = decide (ofBytes s = ofBytes t) := by
  rw [Bool.eq_iff_iff, beq_iff_eq, decide_eq_true_eq, toList_eq_data, toList_eq_data]
  constructor
  · intro h; simp [ofBytes, h]
  · intro h; have := ofBytes_inj h; rw [this]
theorem str_beq' (s t : ByteArray) : (s.toList == t.toList) = decide (s = t) := by
  rw [str_beq, decide_eq_decide]
  exact ⟨ofBytes_inj, fun h => by rw [h]⟩
theorem size_append (s t : ByteArray) : (s ++ t).size = s.size + t.size := by
  rw [← ofBytes_length, ofBytes_append, List.length_append, ofBytes_length, ofBytes_length]
end Go.Abs
