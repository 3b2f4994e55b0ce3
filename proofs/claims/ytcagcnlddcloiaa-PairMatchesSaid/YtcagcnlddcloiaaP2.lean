/- PAIR: open requests as bytes; the request of a tag. -/
import Derived.Test.YtcagcnlddcloiaaP1
set_option linter.unusedVariables false
set_option linter.unusedSimpArgs false
namespace Go.Abs.K
open Go Go.Abs Go.Proofs

/-- A request that may be open. -/
def Rq (x : Pair_request) : Prop := 0 ≤ x.tag_ ∧ x.tag_ ≤ 127 ∧ 0 ≤ x.from_ ∧ x.from_ ≤ x.to_ ∧ x.to_ ≤ 1099511627776
def Rqs (l : List Pair_request) : Prop := ∀ x, x ∈ l → Rq x
def enc1 (x : Pair_request) : List Int := leb 9 (2 * x.tag_) ++ leb 9 (2 * x.from_) ++ leb 9 (2 * x.to_)
def encP : List Pair_request → List Int
  | [] => []
  | x :: r => enc1 x ++ encP r
theorem enc1_len (x : Pair_request) : (enc1 x).length ≤ 30 ∧ 3 ≤ (enc1 x).length := by
  have h1 := leb_length 9 (2 * x.tag_)
  have h2 := leb_length 9 (2 * x.from_)
  have h3 := leb_length 9 (2 * x.to_)
  unfold enc1
  simp only [List.length_append]
  omega
theorem encP_len : ∀ (l : List Pair_request), (encP l).length ≤ 30 * l.length
  | [] => by simp [encP]
  | x :: r => by
    have h1 := enc1_len x
    have h2 := encP_len r
    simp only [encP, List.length_append, List.length_cons]
    omega
theorem leb_of (n : Int) (h0 : 0 ≤ n) (h1 : n ≤ 4611686018427387904) : Bytes (leb 9 (2 * n)) := leb_bytes 9 _ (by omega) (by simp; omega)
theorem bytes_app {a b : List Int} (ha : Bytes a) (hb : Bytes b) : Bytes (a ++ b) := fun x hx => by
  rcases List.mem_append.1 hx with h | h
  · exact ha x h
  · exact hb x h
theorem encP_bytes : ∀ (l : List Pair_request), Rqs l → Bytes (encP l)
  | [], _ => fun x hx => by cases hx
  | x :: r, h => by
    obtain ⟨h1, h2, h3, h4, h5⟩ := h x (.head _)
    exact bytes_app (bytes_app (bytes_app (leb_of _ (by omega) (by omega)) (leb_of _ (by omega) (by omega))) (leb_of _ (by omega) (by omega))) (encP_bytes r fun y hy => h y (.tail _ hy))
theorem store_l (M : Nat) (hM : 10 < M) (c0 c1 : State) (t8 : List Pair_request) (hq : Rqs t8) (hl : t8.length ≤ 100000) : ∀ (r : List Pair_request) (i m : Nat) (b : List Int), t8.drop i = r → r.length < m → b.length + 30 * r.length ≤ 10000000 →
    pair_store_l3 M m (t8.length : Int) (i : Int) c0 c1 b t8 = some { c0 with Data := toBytes (b ++ encP r) }
  | r, i, 0, b, _, hm, _ => by omega
  | [], i, m + 1, b, h, hm, hb => by
    have := drop_nil h
    simp only [pair_store_l3, b_pair_store_l3]
    rw [bif_neg (by omega)]
    simp [encP]
  | x :: r, i, m + 1, b, h, hm, hb => by
    obtain ⟨h1, h2, h3, h4, h5⟩ := drop_cons h dflt_Pair_request
    obtain ⟨q1, q2, q3, q4, q5⟩ := hq x h5
    have e1 := enc1_len x
    have l1 := leb_length 9 (2 * x.tag_)
    have l2 := leb_length 9 (2 * x.from_)
    simp only [List.length_cons] at hm hb
    simp only [pair_store_l3, b_pair_store_l3, h1]
    rw [bif_pos (by omega), bif_pos (by omega), bif_pos (by omega), next_i i (by omega), putInt_of M b _ q1 (by omega) hM (by omega), Option.bind_some, putInt_of M _ _ q3 (by omega) hM (by simp only [List.length_append]; omega), Option.bind_some,
      putInt_of M _ _ (by omega) (by omega) hM (by simp only [List.length_append]; omega), Option.bind_some]
    rw [store_l M hM c0 c1 t8 hq hl r (i + 1) m _ h3 (by omega) (by simp only [List.length_append]; have l3 := leb_length 9 (2 * x.to_); omega)]
    simp only [encP, enc1, List.append_assoc]
theorem store_is (M : Nat) (hM : 100010 < M) (s : State) (l : List Pair_request) (hq : Rqs l) (hl : l.length ≤ 100000) : pair_store M s l = some { s with Data := toBytes (encP l) } := by
  have := store_l M (by omega) s (State.mk 0 0 0 0 0 0 0 (bs [])) l hq hl l 0 M [] rfl (by omega) (by simp only [List.length_nil]; omega)
  simpa [pair_store, b_pair_store] using this
theorem load_l (M : Nat) (hM : 10 < M) (c0 : State) (hs : c0.Data.size ≤ 10000000) (hs2 : c0.Data.size < M) : ∀ (r : List Pair_request) (pre : List Int) (out : List Pair_request) (m : Nat), ofBytes c0.Data = pre ++ encP r → Rqs r → out.length + r.length ≤ 100000 → r.length < m →
    pair_load_l3 M m (pre.length : Int) c0 out = some (out ++ r)
  | r, pre, out, 0, _, _, _, hm => by omega
  | [], pre, out, m + 1, hb, hq, ho, hm => by
    have hlen : c0.Data.size = pre.length := by rw [← ofBytes_length, hb]; simp [encP]
    simp only [pair_load_l3, b_pair_load_l3]
    rw [bif_neg (by omega)]
    simp
  | x :: r, pre, out, m + 1, hb, hq, ho, hm => by
    obtain ⟨q1, q2, q3, q4, q5⟩ := hq x (.head _)
    have e1 := enc1_len x
    have l1 := leb_length 9 (2 * x.tag_)
    have l2 := leb_length 9 (2 * x.from_)
    have l3 := leb_length 9 (2 * x.to_)
    have hlen : c0.Data.size = pre.length + ((enc1 x).length + (encP r).length) := by rw [← ofBytes_length, hb]; simp [encP]
    have elen : (enc1 x).length = (leb 9 (2 * x.tag_)).length + (leb 9 (2 * x.from_)).length + (leb 9 (2 * x.to_)).length := by unfold enc1; simp only [List.length_append]
    simp only [List.length_cons] at hm ho
    obtain ⟨M', hM'⟩ : ∃ M', M = M' + 4 := ⟨M - 4, by omega⟩
    have t1 := takeInt_at M c0.Data pre (leb 9 (2 * x.from_) ++ leb 9 (2 * x.to_) ++ encP r) x.tag_ (by omega) hs2 q1 (by omega) (by rw [hb]; simp only [encP, enc1, List.append_assoc])
    have t2 := takeInt_at M c0.Data (pre ++ leb 9 (2 * x.tag_)) (leb 9 (2 * x.to_) ++ encP r) x.from_ (by omega) hs2 q3 (by omega) (by rw [hb]; simp only [encP, enc1, List.append_assoc])
    have t3 := takeInt_at M c0.Data (pre ++ leb 9 (2 * x.tag_) ++ leb 9 (2 * x.from_)) (encP r) x.to_ (by omega) hs2 (by omega) (by omega) (by rw [hb]; simp only [encP, enc1, List.append_assoc])
    have n1 : (((pre ++ leb 9 (2 * x.tag_)).length : Nat) : Int) = (pre.length : Int) + (leb 9 (2 * x.tag_)).length := by simp only [List.length_append]; omega
    have n2 : (((pre ++ leb 9 (2 * x.tag_) ++ leb 9 (2 * x.from_)).length : Nat) : Int) = (pre.length : Int) + (leb 9 (2 * x.tag_)).length + (leb 9 (2 * x.from_)).length := by simp only [List.length_append]; omega
    have n3 : (pre.length : Int) + (leb 9 (2 * x.tag_)).length + (leb 9 (2 * x.from_)).length + (leb 9 (2 * x.to_)).length = (((pre ++ enc1 x).length : Nat) : Int) := by simp only [enc1, List.length_append]; omega
    rw [n1] at t2
    rw [n2] at t3
    have ih := load_l M hM c0 hs hs2 r (pre ++ enc1 x) (out ++ [x]) m (by rw [hb]; simp [encP]) (fun y hy => hq y (.tail _ hy)) (by simp only [List.length_append, List.length_cons, List.length_nil]; omega) (by omega)
    simp only [pair_load_l3, b_pair_load_l3]
    rw [bif_pos (by omega)]
    generalize hP : pair_load_l3 M m = P at *
    have w1 : IntKind.i64.wrap (0 + 1) = 1 := by decide
    have w2 : IntKind.i64.wrap (1 + 1) = 2 := by decide
    have w3 : IntKind.i64.wrap (2 + 1) = 3 := by decide
    have L : ∀ k, pair_load_l6 M (fun at_4 c0 out_3 => P at_4 c0 out_3) (k + 4) (pre.length : Int) 0 c0 out 0 0 0 = some (out ++ x :: r) := fun k => by
      simp only [pair_load_l6, b_pair_load_l6, t1, t2, t3, Option.bind_some, w1, w2, w3, Int.reduceLT, Int.reduceLE, Int.reduceEq, decide_true, decide_false, Bool.cond_true, Bool.cond_false, bne_self_eq_false, Int.le_refl, decide_eq_true_eq, Bool.false_eq_true]
      rw [bif_pos (by omega), n3]
      rw [show Pair_request.mk x.tag_ x.from_ x.to_ = x from rfl, ih]
      simp
    rw [hM']
    rw [hM'] at L
    exact L M'
theorem load_is (M : Nat) (s : State) (l : List Pair_request) (hq : Rqs l) (hl : l.length ≤ 100000) (hd : s.Data = toBytes (encP l)) (hM : 4000000 < M) : pair_load M s = some l := by
  have hlen := encP_len l
  have hsz : s.Data.size = (encP l).length := by rw [hd, toBytes_size]
  have := load_l M (by omega) s (by omega) (by omega) l [] [] M (by rw [hd, ofBytes_toBytes (encP_bytes l hq)]; rfl) hq (by simp only [List.length_nil]; omega) (by omega)
  simpa [pair_load, b_pair_load] using this

/-! ### The request of a tag -/
def Dist : List Pair_request → Prop
  | [] => True
  | x :: r => (∀ y, y ∈ r → y.tag_ ≠ x.tag_) ∧ Dist r
def rest (tag : Int) : List Pair_request → List Pair_request
  | [] => []
  | x :: r => if x.tag_ = tag then rest tag r else x :: rest tag r
def find (tag : Int) : List Pair_request → Option Pair_request
  | [] => none
  | x :: r => if x.tag_ = tag then some x else find tag r
section
variable {X : Type}
theorem mhas_put (k i : Int) (x : X) : ∀ (o : List (Int × X)), mhas k (mput i x o) = (k == i || mhas k o)
  | [] => by simp only [mput, mhas]; cases k == i <;> rfl
  | p :: r => by
    simp only [mput]
    by_cases h : i = p.1
    · subst h
      simp only [beq_self_eq_true, Bool.cond_true, mhas]
      cases k == p.1 <;> rfl
    · rw [show (i == p.1) = false by simpa using h]
      simp only [Bool.cond_false, mhas, mhas_put k i x r]
      cases k == p.1 <;> cases k == i <;> rfl
theorem mget_put (z : X) (k i : Int) (x : X) : ∀ (o : List (Int × X)), mget z k (mput i x o) = if k = i then x else mget z k o
  | [] => by
    simp only [mput, mget]
    by_cases h : k = i
    · subst h; simp
    · rw [show (k == i) = false by simpa using h]; simp [h]
  | p :: r => by
    simp only [mput]
    by_cases h : i = p.1
    · subst h
      simp only [beq_self_eq_true, Bool.cond_true, mget]
      by_cases h2 : k = p.1
      · subst h2; simp
      · rw [show (k == p.1) = false by simpa using h2]; simp [h2]
    · rw [show (i == p.1) = false by simpa using h]
      simp only [Bool.cond_false, mget, mget_put z k i x r]
      by_cases h2 : k = p.1
      · subst h2
        have : ¬ p.1 = i := fun e => h e.symm
        simp [this]
      · rw [show (k == p.1) = false by simpa using h2]; simp
/-- No key twice. -/
def Keys : List (Int × X) → Prop
  | [] => True
  | p :: r => mhas p.1 r = false ∧ Keys r
theorem keys_put (i : Int) (x : X) : ∀ (o : List (Int × X)), Keys o → Keys (mput i x o)
  | [], _ => ⟨rfl, trivial⟩
  | p :: r, h => by
    simp only [mput]
    by_cases c : i = p.1
    · subst c
      simp only [beq_self_eq_true, Bool.cond_true]
      exact h
    · rw [show (i == p.1) = false by simpa using c]
      simp only [Bool.cond_false]
      refine ⟨?_, keys_put i x r h.2⟩
      rw [mhas_put, h.1, show (p.1 == i) = false by simpa using fun e : p.1 = i => c e.symm]
      rfl
theorem mhas_del (k i : Int) : ∀ (o : List (Int × X)), Keys o → mhas k (mdel i o) = (mhas k o && k != i)
  | [], _ => rfl
  | p :: r, h => by
    simp only [mdel]
    by_cases c : i = p.1
    · subst c
      simp only [beq_self_eq_true, Bool.cond_true, mhas]
      by_cases c2 : k = p.1
      · subst c2; rw [h.1]; simp
      · rw [show (k == p.1) = false by simpa using c2, show (k != p.1) = true by simpa using c2]; simp
    · rw [show (i == p.1) = false by simpa using c]
      simp only [Bool.cond_false, mhas, mhas_del k i r h.2]
      by_cases c2 : k = p.1
      · subst c2
        rw [show (p.1 != i) = true by simpa using fun e : p.1 = i => c e.symm]
        simp
      · rw [show (k == p.1) = false by simpa using c2]; rfl
end
def bld : List (Int × Pair_request) → List Pair_request → List (Int × Pair_request)
  | o, [] => o
  | o, x :: r => bld (mput x.tag_ x o) r
theorem keys_bld : ∀ (l : List Pair_request) (o : List (Int × Pair_request)), Keys o → Keys (bld o l)
  | [], o, h => h
  | x :: r, o, h => keys_bld r _ (keys_put _ _ _ h)
theorem mhas_bld (k : Int) : ∀ (l : List Pair_request) (o : List (Int × Pair_request)), mhas k (bld o l) = ((find k l).isSome || mhas k o)
  | [], o => by simp [bld, find]
  | x :: r, o => by
    rw [bld, mhas_bld k r, mhas_put, find]
    by_cases c : x.tag_ = k
    · subst c; simp
    · rw [if_neg c, show (k == x.tag_) = false by simpa using fun e : k = x.tag_ => c e.symm]; simp
theorem find_none {k : Int} : ∀ {l : List Pair_request}, (∀ y, y ∈ l → y.tag_ ≠ k) → find k l = none
  | [], _ => rfl
  | x :: r, h => by
    rw [find, if_neg (h x (.head _))]
    exact find_none fun y hy => h y (.tail _ hy)
theorem find_mem {k : Int} {q : Pair_request} : ∀ {l : List Pair_request}, find k l = some q → q ∈ l ∧ q.tag_ = k
  | [], h => by cases h
  | x :: r, h => by
    rw [find] at h
    split at h
    · injection h with h; subst h
      exact ⟨.head _, by assumption⟩
    · have := find_mem h
      exact ⟨.tail _ this.1, this.2⟩
theorem mget_bld (z : Pair_request) (k : Int) : ∀ (l : List Pair_request) (o : List (Int × Pair_request)), Dist l → mget z k (bld o l) = (find k l).getD (mget z k o)
  | [], o, _ => rfl
  | x :: r, o, h => by
    rw [bld, mget_bld z k r _ h.2, mget_put, find]
    by_cases c : x.tag_ = k
    · subst c
      rw [find_none h.1]; simp
    · rw [if_neg c, if_neg (fun e => c e.symm)]
theorem find_some_of {k : Int} : ∀ {l : List Pair_request} {x : Pair_request}, x ∈ l → x.tag_ = k → (find k l).isSome = true
  | y :: r, x, hx, hk => by
    rw [find]
    by_cases c : y.tag_ = k
    · rw [if_pos c]; rfl
    · rw [if_neg c]
      rcases List.mem_cons.1 hx with rfl | hx
      · exact absurd hk c
      · exact find_some_of hx hk
theorem drop_l11 (M : Nat) (ok : Bool) (c0 c2 : Pair_request) (o : List (Int × Pair_request)) (tag : Int) (t37 : List Pair_request) (ho : ∀ x, x ∈ t37 → mhas x.tag_ o = decide (x.tag_ ≠ tag)) (hl : t37.length ≤ 100000) :
    ∀ (r : List Pair_request) (i m : Nat) (out : List Pair_request), t37.drop i = r → r.length < m → out.length + r.length ≤ 100000 → pair_drop_l11 M m ok (t37.length : Int) (i : Int) c0 o c2 out t37 = some (out ++ rest tag r, c2, ok)
  | r, i, 0, out, _, hm, _ => by omega
  | [], i, m + 1, out, h, hm, hb => by
    have := drop_nil h
    simp only [pair_drop_l11, b_pair_drop_l11]
    rw [bif_neg (by omega)]
    simp [rest]
  | x :: r, i, m + 1, out, h, hm, hb => by
    obtain ⟨h1, h2, h3, h4, h5⟩ := drop_cons h dflt_Pair_request
    simp only [List.length_cons] at hm hb
    simp only [pair_drop_l11, b_pair_drop_l11, h1, ho x h5]
    rw [bif_pos (by omega), bif_pos (by omega), bif_pos (by omega), next_i i (by omega)]
    by_cases c : x.tag_ = tag
    · rw [bif_neg (by simpa using c), drop_l11 M ok c0 c2 o tag t37 ho hl r (i + 1) m out h3 (by omega) (by omega), rest, if_pos c]
    · rw [bif_pos c, bif_pos (by omega), drop_l11 M ok c0 c2 o tag t37 ho hl r (i + 1) m _ h3 (by omega) (by simp only [List.length_append, List.length_cons, List.length_nil]; omega), rest, if_neg c]
      simp
theorem drop_l3 (M : Nat) (tag : Int) (c1 : Pair_request) (l : List Pair_request) (hl : l.length ≤ 100000) : ∀ (r : List Pair_request) (i m : Nat) (o : List (Int × Pair_request)), l.drop i = r → r.length < m →
    pair_drop_l3 M m tag (l.length : Int) (i : Int) l c1 o = pair_drop_l11 M M (mhas tag (bld o r)) (l.length : Int) 0 c1 (mdel tag (bld o r)) (mget (Pair_request.mk 0 0 0) tag (bld o r)) [] l
  | r, i, 0, o, _, hm => by omega
  | [], i, m + 1, o, h, hm => by
    have := drop_nil h
    simp only [pair_drop_l3, b_pair_drop_l3]
    rw [bif_neg (by omega)]
    rfl
  | x :: r, i, m + 1, o, h, hm => by
    obtain ⟨h1, h2, h3, h4, h5⟩ := drop_cons h dflt_Pair_request
    simp only [List.length_cons] at hm
    simp only [pair_drop_l3, b_pair_drop_l3, h1]
    rw [bif_pos (by omega), bif_pos (by omega), bif_pos (by omega), next_i i (by omega), drop_l3 M tag c1 l hl r (i + 1) m _ h3 (by omega)]
    rfl
theorem drop_is (M : Nat) (l : List Pair_request) (tag : Int) (hd : Dist l) (hl : l.length ≤ 100000) (hM : 100000 < M) : pair_drop M l tag = some (rest tag l, (find tag l).getD (Pair_request.mk 0 0 0), (find tag l).isSome) := by
  have h1 := drop_l3 M tag (Pair_request.mk 0 0 0) l hl l 0 M [] rfl (by omega)
  have hk : Keys (bld [] l) := keys_bld l [] trivial
  have h2 := drop_l11 M (mhas tag (bld [] l)) (Pair_request.mk 0 0 0) (mget (Pair_request.mk 0 0 0) tag (bld [] l)) (mdel tag (bld [] l)) tag l (fun x hx => by
    rw [mhas_del _ _ _ hk, mhas_bld, find_some_of hx rfl]
    by_cases c : x.tag_ = tag <;> simp [c]) hl l 0 M [] rfl (by omega) (by simp only [List.length_nil]; omega)
  have e : pair_drop M l tag = pair_drop_l3 M M tag (l.length : Int) ((0 : Nat) : Int) l (Pair_request.mk 0 0 0) [] := rfl
  rw [e, h1]
  have e2 : ((0 : Nat) : Int) = 0 := rfl
  rw [e2] at h2
  rw [h2, mhas_bld, mget_bld _ _ _ _ hd]
  simp [mhas, mget]
end Go.Abs.K
