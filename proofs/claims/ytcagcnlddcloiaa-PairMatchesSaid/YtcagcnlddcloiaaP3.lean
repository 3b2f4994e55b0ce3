/- PAIR: the document's state as bytes; its list of requests. -/
import Derived.Test.YtcagcnlddcloiaaP2
set_option linter.unusedVariables false
set_option linter.unusedSimpArgs false
namespace Go.Abs.K
open Go Go.Abs Go.Proofs

abbrev rr (x : Pair_request) : Signalbenchref33_request := ⟨x.tag_, x.from_, x.to_⟩
theorem toBytes_app (a b : List Int) : toBytes a ++ toBytes b = toBytes (a ++ b) := by
  apply ofBytes_inj
  rw [ofBytes_append]
  simp [ofBytes, toBytes]
/-- The six bytes of a time. -/
def by6 (n : Int) : List Int := [n / 1099511627776 % 256, n / 4294967296 % 256, n / 16777216 % 256, n / 65536 % 256, n / 256 % 256, n % 256]
def encR : List Pair_request → List Int
  | [] => []
  | x :: r => x.tag_ :: (by6 x.from_ ++ by6 x.to_) ++ encR r
theorem by6_bytes (n : Int) : Bytes (by6 n) := fun x hx => by
  simp only [by6, List.mem_cons, List.not_mem_nil, or_false] at hx
  omega
theorem encR_bytes : ∀ (l : List Pair_request), Rqs l → Bytes (encR l)
  | [], _ => fun x hx => by cases hx
  | x :: r, h => by
    obtain ⟨h1, h2, h3, h4, h5⟩ := h x (.head _)
    intro y hy
    simp only [encR, List.cons_append, List.append_assoc, List.mem_cons, List.mem_append] at hy
    rcases hy with rfl | hy | hy | hy
    · omega
    · exact by6_bytes _ y hy
    · exact by6_bytes _ y hy
    · exact encR_bytes r (fun z hz => h z (.tail _ hz)) y hy
theorem encR_len : ∀ (l : List Pair_request), (encR l).length = 13 * l.length
  | [] => rfl
  | x :: r => by
    have := encR_len r
    simp only [encR, by6, List.length_append, List.length_cons, List.length_nil]
    omega
theorem bytes_is (M : Nat) (hM : 10 < M) (n : Int) : ref33_bytes M n = some (toBytes (by6 n)) := by
  obtain ⟨k, rfl⟩ : ∃ k, M = k + 7 := ⟨M - 7, by omega⟩
  have s5 : min (IntKind.i64.wrap (8 * 5)).toNat 64 = 40 := by decide
  have s4 : min (IntKind.i64.wrap (8 * 4)).toNat 64 = 32 := by decide
  have s3 : min (IntKind.i64.wrap (8 * 3)).toNat 64 = 24 := by decide
  have s2 : min (IntKind.i64.wrap (8 * 2)).toNat 64 = 16 := by decide
  have s1 : min (IntKind.i64.wrap (8 * 1)).toNat 64 = 8 := by decide
  have s0 : min (IntKind.i64.wrap (8 * 0)).toNat 64 = 0 := by decide
  have w5 : IntKind.i64.wrap (5 - 1) = 4 := by decide
  have w4 : IntKind.i64.wrap (4 - 1) = 3 := by decide
  have w3 : IntKind.i64.wrap (3 - 1) = 2 := by decide
  have w2 : IntKind.i64.wrap (2 - 1) = 1 := by decide
  have w1 : IntKind.i64.wrap (1 - 1) = 0 := by decide
  have w0 : IntKind.i64.wrap (0 - 1) = -1 := by decide
  have step : ∀ (j : Nat) (i : Int) (b : List Int), 0 ≤ i → i ≤ 5 → b.length ≤ 10 → ref33_bytes_l3 (k + 7) (j + 1) n i b = ref33_bytes_l3 (k + 7) j n (IntKind.i64.wrap (i - 1)) (b ++ [IntKind.u8.wrap (n.fdiv (2 ^ min (IntKind.i64.wrap (8 * i)).toNat 64))]) := fun j i b h0 h1 hb => by
    simp only [ref33_bytes_l3, b_ref33_bytes_l3]
    rw [bif_pos (by omega), i64_ok (n := 8 * i) (by omega), bif_neg (by omega), bif_pos (by omega)]
  have last : ∀ (j : Nat) (b : List Int), ref33_bytes_l3 (k + 7) (j + 1) n (-1) b = some (toBytes b) := fun j b => by
    simp only [ref33_bytes_l3, b_ref33_bytes_l3]
    rw [bif_neg (by omega)]
  have e : ref33_bytes (k + 7) n = ref33_bytes_l3 (k + 7) (k + 6 + 1) n 5 [] := rfl
  rw [e, step _ _ _ (by omega) (by omega) (by simp), s5, w5, step (k + 5) _ _ (by omega) (by omega) (by simp), s4, w4, step (k + 4) _ _ (by omega) (by omega) (by simp), s3, w3, step (k + 3) _ _ (by omega) (by omega) (by simp), s2, w2,
    step (k + 2) _ _ (by omega) (by omega) (by simp), s1, w1, step (k + 1) _ _ (by omega) (by omega) (by simp), s0, w0, last]
  have f : ∀ d : Int, 0 ≤ d → n.fdiv d = n / d := fun d hd => Int.fdiv_eq_ediv_of_nonneg _ hd
  simp only [u8_eq, List.nil_append, List.cons_append, f _ (show (0 : Int) ≤ 2 ^ 40 by omega), f _ (show (0 : Int) ≤ 2 ^ 32 by omega), f _ (show (0 : Int) ≤ 2 ^ 24 by omega), f _ (show (0 : Int) ≤ 2 ^ 16 by omega), f _ (show (0 : Int) ≤ 2 ^ 8 by omega), f _ (show (0 : Int) ≤ 2 ^ 0 by omega)]
  have e0 : n / 2 ^ 0 = n := by omega
  rw [e0]
  rfl
theorem number_is (M : Nat) (hM : 10 < M) (s : ByteArray) (n : Int) (h0 : 0 ≤ n) (h1 : n ≤ 1099511627776) (hs : ofBytes s = by6 n) : ref33_number M s = some n := by
  obtain ⟨k, rfl⟩ : ∃ k, M = k + 7 := ⟨M - 7, by omega⟩
  have hz : s.size = 6 := by rw [← ofBytes_length, hs]; rfl
  have b0 : byteAt s 0 = n / 1099511627776 % 256 := by rw [byteAt_eq, hs]; rfl
  have b1 : byteAt s 1 = n / 4294967296 % 256 := by rw [byteAt_eq, hs]; rfl
  have b2 : byteAt s 2 = n / 16777216 % 256 := by rw [byteAt_eq, hs]; rfl
  have b3 : byteAt s 3 = n / 65536 % 256 := by rw [byteAt_eq, hs]; rfl
  have b4 : byteAt s 4 = n / 256 % 256 := by rw [byteAt_eq, hs]; rfl
  have b5 : byteAt s 5 = n % 256 := by rw [byteAt_eq, hs]; rfl
  have step : ∀ (j : Nat) (a i b i' : Int), i' = i + 1 → 0 ≤ i → i < 6 → byteAt s i = b → 0 ≤ b → b ≤ 255 → 0 ≤ a → a ≤ 1099511627776 → ref33_number_l3 (k + 7) (j + 1) s a i = ref33_number_l3 (k + 7) j s (256 * a + b) i' := fun j a i b i' q0 q1 q2 q3 q4 q5 q6 q7 => by
    subst q0
    simp only [ref33_number_l3, b_ref33_number_l3, q3]
    rw [bif_pos (by omega), bif_pos (by omega), bif_pos (by omega), i64_ok (n := 256 * a) (by omega), i64_ok (n := b) (by omega), i64_ok (n := 256 * a + b) (by omega), i64_ok (n := i + 1) (by omega)]
  have e : ref33_number (k + 7) s = ref33_number_l3 (k + 7) (k + 6 + 1) s 0 0 := rfl
  rw [e, step _ 0 0 _ 1 (by omega) (by omega) (by omega) b0 (by omega) (by omega) (by omega) (by omega)]
  rw [step (k + 5) _ 1 _ 2 (by omega) (by omega) (by omega) b1 (by omega) (by omega) (by omega) (by omega)]
  rw [step (k + 4) _ 2 _ 3 (by omega) (by omega) (by omega) b2 (by omega) (by omega) (by omega) (by omega)]
  rw [step (k + 3) _ 3 _ 4 (by omega) (by omega) (by omega) b3 (by omega) (by omega) (by omega) (by omega)]
  rw [step (k + 2) _ 4 _ 5 (by omega) (by omega) (by omega) b4 (by omega) (by omega) (by omega) (by omega)]
  rw [step (k + 1) _ 5 _ 6 (by omega) (by omega) (by omega) b5 (by omega) (by omega) (by omega) (by omega)]
  have hn : 256 * (256 * (256 * (256 * (256 * (256 * 0 + n / 1099511627776 % 256) + n / 4294967296 % 256) + n / 16777216 % 256) + n / 65536 % 256) + n / 256 % 256) + n % 256 = n := by omega
  rw [hn]
  simp only [ref33_number_l3, b_ref33_number_l3]
  rw [bif_neg (by omega)]
theorem unpack_l (M : Nat) (hM : 10 < M) (c0 : State) (hs : c0.Data.size ≤ 10000000) : ∀ (r : List Pair_request) (pre : List Int) (out : List Signalbenchref33_request) (m : Nat), ofBytes c0.Data = pre ++ encR r → Rqs r → out.length + r.length ≤ 100000 → r.length < m →
    ref33_unpack_l3 M m (pre.length : Int) c0 out = some (out ++ r.map rr)
  | r, pre, out, 0, _, _, _, hm => by omega
  | [], pre, out, m + 1, hb, hq, ho, hm => by
    have hlen : c0.Data.size = pre.length := by rw [← ofBytes_length, hb]; simp [encR]
    simp only [ref33_unpack_l3, b_ref33_unpack_l3]
    rw [i64_ok (n := (pre.length : Int) + 13) (by omega), bif_neg (by omega)]
    simp
  | x :: r, pre, out, m + 1, hb, hq, ho, hm => by
    obtain ⟨q1, q2, q3, q4, q5⟩ := hq x (.head _)
    have el := encR_len r
    have hb2 : ofBytes c0.Data = pre ++ (x.tag_ :: (by6 x.from_ ++ (by6 x.to_ ++ encR r))) := by rw [hb]; simp only [encR, List.cons_append, List.append_assoc]
    have hlen : c0.Data.size = pre.length + 13 + (encR r).length := by
      rw [← ofBytes_length, hb2]
      simp only [by6, List.length_append, List.length_cons, List.length_nil]
      omega
    simp only [List.length_cons] at hm ho
    have t0 : byteAt c0.Data (pre.length : Int) = x.tag_ := by
      rw [byteAt_eq, hb2, Int.toNat_natCast, List.getD_eq_getElem?_getD, List.getElem?_append_right (Nat.le_refl _), Nat.sub_self]
      rfl
    have x1 : ofBytes (c0.Data.extract (pre.length + 1) (pre.length + 7)) = by6 x.from_ := by
      rw [ofBytes_extract, hb2, List.take_append, List.take_of_length_le (by omega), show pre.length + 7 - pre.length = 7 by omega, List.drop_append, show pre.length + 1 - pre.length = 1 by omega]
      rw [List.drop_of_length_le (by omega), List.nil_append]
      rfl
    have x2 : ofBytes (c0.Data.extract (pre.length + 7) (pre.length + 13)) = by6 x.to_ := by
      rw [ofBytes_extract, hb2, List.take_append, List.take_of_length_le (by omega), show pre.length + 13 - pre.length = 13 by omega, List.drop_append, show pre.length + 7 - pre.length = 7 by omega]
      rw [List.drop_of_length_le (by omega), List.nil_append]
      rfl
    have n1 := number_is M hM _ x.from_ q3 (by omega) x1
    have n2 := number_is M hM _ x.to_ (by omega) q5 x2
    have e1 : ((pre.length : Int) + 1).toNat = pre.length + 1 := by omega
    have e7 : ((pre.length : Int) + 7).toNat = pre.length + 7 := by omega
    have e13 : ((pre.length : Int) + 13).toNat = pre.length + 13 := by omega
    simp only [ref33_unpack_l3, b_ref33_unpack_l3, t0]
    rw [i64_ok (n := (pre.length : Int) + 13) (by omega), i64_ok (n := (pre.length : Int) + 7) (by omega), i64_ok (n := (pre.length : Int) + 1) (by omega), i64_ok (n := x.tag_) (by omega), e1, e7, e13, n1, n2]
    rw [bif_pos (by omega), bif_pos (by omega), bif_pos (by omega), bif_pos (by omega), bif_pos (by omega), bif_pos (by omega), bif_pos (by omega)]
    simp only [Option.bind_some]
    rw [bif_pos (by omega), bif_pos (by omega), bif_pos (by omega), bif_pos (by omega), bif_pos (by omega)]
    have ih := unpack_l M hM c0 hs r (pre ++ (x.tag_ :: (by6 x.from_ ++ by6 x.to_))) (out ++ [rr x]) m (by rw [hb2]; simp) (fun y hy => hq y (.tail _ hy)) (by simp only [List.length_append, List.length_cons, List.length_nil]; omega) (by omega)
    have hpl : ((pre ++ (x.tag_ :: (by6 x.from_ ++ by6 x.to_))).length : Int) = (pre.length : Int) + 13 := by
      simp only [by6, List.length_append, List.length_cons, List.length_nil]; omega
    rw [hpl] at ih
    rw [ih]
    simp
theorem unpack_is (M : Nat) (s : State) (l : List Pair_request) (hq : Rqs l) (hl : l.length ≤ 100000) (hd : s.Data = toBytes (encR l)) (hM : 4000000 < M) : ref33_unpack M s = some (l.map rr) := by
  have hlen := encR_len l
  have hsz : s.Data.size = (encR l).length := by rw [hd, toBytes_size]
  have := unpack_l M (by omega) s (by omega) l [] [] M (by rw [hd, ofBytes_toBytes (encR_bytes l hq)]; rfl) hq (by simp only [List.length_nil]; omega) (by omega)
  simpa [ref33_unpack, b_ref33_unpack] using this
theorem pack_l (M : Nat) (hM : 10 < M) (s c2 : State) (l : List Pair_request) (hq : Rqs l) (hl : l.length ≤ 100000) : ∀ (r : List Pair_request) (i m : Nat) (acc : List Int), l.drop i = r → r.length < m → acc.length + 13 * r.length ≤ 10000000 →
    ref33_pack_l3 M m (i : Int) (l.map rr) { s with Data := toBytes acc } c2 = some { s with Data := toBytes (acc ++ encR r) }
  | r, i, 0, acc, _, hm, _ => by omega
  | [], i, m + 1, acc, h, hm, hb => by
    have := drop_nil h
    simp only [ref33_pack_l3, b_ref33_pack_l3]
    rw [bif_neg (by rw [List.length_map]; omega)]
    simp [encR]
  | x :: r, i, m + 1, acc, h, hm, hb => by
    obtain ⟨h1, h2, h3, h4, h5⟩ := drop_cons h dflt_Pair_request
    have g1 : (l.map rr).getD ((i : Nat) : Int).toNat dflt_Signalbenchref33_request = rr x := by
      rw [List.getD_eq_getElem?_getD, List.getElem?_map, Int.toNat_natCast]
      rw [List.getD_eq_getElem?_getD, Int.toNat_natCast, List.getElem?_eq_getElem h2] at h1
      rw [List.getElem?_eq_getElem h2]
      simp only [Option.getD_some] at h1
      simp [h1]
    obtain ⟨q1, q2, q3, q4, q5⟩ := hq x h5
    simp only [List.length_cons] at hm hb
    have hw : IntKind.u8.wrap x.tag_ = x.tag_ := u8_ok (by omega)
    simp only [ref33_pack_l3, b_ref33_pack_l3, g1, hw, List.length_map, bytes_is M hM, Option.bind_some, toBytes_app, toBytes_size, List.length_append, List.length_cons, List.length_nil, by6]
    rw [bif_pos (by omega), bif_pos (by omega), bif_pos (by omega), bif_neg (by omega), bif_pos (by omega), bif_pos (by omega), bif_neg (by omega), bif_pos (by omega), bif_pos (by omega), bif_neg (by omega), next_i i (by omega)]
    rw [pack_l M hM s c2 l hq hl r (i + 1) m _ h3 (by omega) (by simp only [List.length_append, List.length_cons, List.length_nil]; omega)]
    simp [encR, by6]
theorem pack_is (M : Nat) (hM : 100010 < M) (s : State) (l : List Pair_request) (hq : Rqs l) (hl : l.length ≤ 100000) : ref33_pack M s (l.map rr) = some { s with Data := toBytes (encR l) } := by
  have := pack_l M (by omega) s (State.mk 0 0 0 0 0 0 0 (bs [])) l hq hl l 0 M [] rfl (by omega) (by simp only [List.length_nil]; omega)
  have e : ref33_pack M s (l.map rr) = ref33_pack_l3 M M ((0 : Nat) : Int) (l.map rr) { s with Data := toBytes [] } (State.mk 0 0 0 0 0 0 0 (bs [])) := rfl
  rw [e, this, List.nil_append]

/-! ### The list of requests -/
/-- The place of a tag. -/
def place (tag : Int) : List Pair_request → Nat
  | [] => 0
  | x :: r => if x.tag_ = tag then 0 else place tag r + 1
theorem place_l (M : Nat) (tag : Int) (l : List Pair_request) (hl : l.length ≤ 100000) : ∀ (r : List Pair_request) (i m : Nat), l.drop i = r → r.length < m →
    ref33_place_l2 M m tag (i : Int) (l.map rr) = some (if (find tag r).isSome then ((i + place tag r : Nat) : Int) else -1)
  | r, i, 0, _, hm => by omega
  | [], i, m + 1, h, hm => by
    have := drop_nil h
    simp only [ref33_place_l2, b_ref33_place_l2]
    rw [bif_neg (by rw [List.length_map]; omega)]
    simp [find]
  | x :: r, i, m + 1, h, hm => by
    obtain ⟨h1, h2, h3, h4, h5⟩ := drop_cons h dflt_Pair_request
    have g1 : (l.map rr).getD ((i : Nat) : Int).toNat dflt_Signalbenchref33_request = rr x := by
      rw [List.getD_eq_getElem?_getD, List.getElem?_map, Int.toNat_natCast]
      rw [List.getD_eq_getElem?_getD, Int.toNat_natCast, List.getElem?_eq_getElem h2] at h1
      rw [List.getElem?_eq_getElem h2]
      simp only [Option.getD_some] at h1
      simp [h1]
    simp only [List.length_cons] at hm
    simp only [ref33_place_l2, b_ref33_place_l2, g1, List.length_map, beq_if]
    rw [bif_pos (by omega), bif_pos (by omega), bif_pos (by omega), find, place]
    by_cases c : x.tag_ = tag
    · rw [if_pos c, if_pos c, if_pos c]
      simp
    · rw [if_neg c, if_neg c, if_neg c, next_i i (by omega), place_l M tag l hl r (i + 1) m h3 (by omega)]
      rw [show i + 1 + place tag r = i + (place tag r + 1) by omega]
theorem place_is (M : Nat) (tag : Int) (l : List Pair_request) (hl : l.length ≤ 100000) (hM : 100000 < M) : ref33_place M (l.map rr) tag = some (if (find tag l).isSome then ((place tag l : Nat) : Int) else -1) := by
  have := place_l M tag l hl l 0 M rfl (by omega)
  simpa [ref33_place, b_ref33_place] using this
theorem rest_none {tag : Int} : ∀ {l : List Pair_request}, (∀ y, y ∈ l → y.tag_ ≠ tag) → rest tag l = l
  | [], _ => rfl
  | x :: r, h => by rw [rest, if_neg (h x (.head _)), rest_none fun y hy => h y (.tail _ hy)]
theorem find_none_all {tag : Int} : ∀ {l : List Pair_request}, find tag l = none → ∀ y, y ∈ l → y.tag_ ≠ tag
  | x :: r, h, y, hy => by
    rw [find] at h
    split at h
    · cases h
    · rcases List.mem_cons.1 hy with rfl | hy
      · assumption
      · exact find_none_all h y hy
theorem place_spec {tag : Int} {q : Pair_request} : ∀ {l : List Pair_request}, Dist l → find tag l = some q → place tag l < l.length ∧ l[place tag l]? = some q ∧ l.take (place tag l) ++ l.drop (place tag l + 1) = rest tag l
  | x :: r, hd, h => by
    rw [find] at h
    rw [place, rest]
    by_cases c : x.tag_ = tag
    · rw [if_pos c] at h ⊢
      injection h with h; subst h
      rw [if_pos c]
      refine ⟨by simp, by simp, ?_⟩
      rw [rest_none (fun y hy => by rw [← c]; exact hd.1 y hy)]
      simp
    · rw [if_neg c] at h ⊢
      rw [if_neg c]
      obtain ⟨h1, h2, h3⟩ := place_spec hd.2 h
      refine ⟨by simp; omega, by simpa using h2, ?_⟩
      rw [← h3]
      simp
theorem without_is (M : Nat) (l : List Pair_request) (k : Nat) (hk : k < l.length) (hl : l.length ≤ 100000) : ref33_without M (l.map rr) (k : Int) = some ((l.take k ++ l.drop (k + 1)).map rr) := by
  have e1 : ((k : Int) + 1).toNat = k + 1 := by omega
  simp only [ref33_without, b_ref33_without, List.length_map, List.length_drop, List.length_take, List.nil_append, Int.toNat_natCast, List.drop_zero]
  rw [i64_ok (n := (k : Int) + 1) (by omega), e1]
  rw [bif_pos (by omega), bif_pos (by omega), bif_pos (by omega), bif_pos (by omega), bif_pos (by omega), bif_pos (by omega), bif_pos (by omega), bif_pos (by omega)]
  rw [List.map_append, List.map_take, List.map_drop]
  rw [List.take_of_length_le (i := l.length) (by rw [List.length_map]; exact Nat.le_refl _)]
end Go.Abs.K
