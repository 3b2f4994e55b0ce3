/- PAIR: one event, in the program and in the document. -/
import Derived.Test.YtcagcnlddcloiaaP3
import Derived.Test.YtcagcnlddcloiaaE1
set_option linter.unusedVariables false
set_option linter.unusedSimpArgs false
namespace Go.Abs.K
open Go Go.Abs Go.Proofs

def gv (q : Pair_request) (to fault : Int) : Event := Event.mk 8 q.from_ to q.tag_ 0 (bs []) fault
def tg (e : Event) : Int := byteAt e.Data 0 % 128
def body (e : Event) : ByteArray := e.Data.extract 1 e.Data.size
/-- A packet without a fault: the open requests after it, what it brings. -/
def pk (l : List Pair_request) (e : Event) : List Pair_request × List Event :=
  if e.Data = bs [] then (l, [Event.mk 8 e.From e.To 0 0 (bs []) 8])
  else if byteAt e.Data 0 < 128 then
    match find (tg e) l with
    | some q => (rest (tg e) l ++ [⟨tg e, e.From, e.To⟩], [gv q e.From 7])
    | none => (l ++ [⟨tg e, e.From, e.To⟩], [])
  else match find (tg e) l with
    | some q => (rest (tg e) l, [Event.mk 8 q.from_ (if q.to_ < e.To then e.To else q.to_) (tg e) (e.From - q.to_) (body e) 0])
    | none => (l, [Event.mk 8 e.From e.To (tg e) 0 (body e) 12])
theorem size_pos {s : ByteArray} (h : s ≠ bs []) : 0 < s.size := by
  rcases Nat.eq_zero_or_pos s.size with c | c
  · exfalso
    apply h
    apply ofBytes_inj
    have : (ofBytes s).length = 0 := by rw [ofBytes_length]; exact c
    rw [List.eq_nil_of_length_eq_zero this]
    rfl
  · exact c
theorem rest_len (tag : Int) : ∀ (l : List Pair_request), (rest tag l).length ≤ l.length
  | [] => Nat.le_refl _
  | x :: r => by
    have := rest_len tag r
    rw [rest]
    split
    · simp only [List.length_cons]; omega
    · simp only [List.length_cons]; omega
theorem packet_is (M : Nat) (hM : 100010 < M) (l : List Pair_request) (e : Event) (hd : Dist l) (hq : Rqs l) (hl : l.length ≤ 99990) (hv : Vld e) : pair_packet M l e = some (pk l e) := by
  have hb := byteAt_range e.Data 0
  have htag : IntKind.i64.wrap (IntKind.u8.wrap (((BitVec.ofInt 8 (byteAt e.Data 0) &&& BitVec.ofInt 8 127).toNat : Int))) = tg e := by
    rw [and127', u8_ok (n := byteAt e.Data 0 % 128) (by omega), i64_ok (n := byteAt e.Data 0 % 128) (by omega)]; rfl
  unfold pair_packet b_pair_packet pk
  rw [str_beq']
  by_cases h0 : e.Data = bs []
  · rw [bif_pos h0, if_pos h0]
  · have hp := size_pos h0
    rw [bif_neg h0, if_neg h0, bif_pos (by omega)]
    simp only [htag, drop_is M l (tg e) hd (by omega) (by omega), Option.bind_some]
    rw [bif_pos (by omega)]
    have hr := rest_len (tg e) l
    have hbody : e.Data.extract 1 ((e.Data.size : Int)).toNat = body e := by rw [Int.toNat_natCast]; rfl
    by_cases h1 : byteAt e.Data 0 < 128
    · rw [bif_pos h1, if_pos h1]
      cases hf : find (tg e) l with
      | some q =>
        simp only [Option.isSome_some, Bool.cond_true, Option.getD_some]
        rw [bif_pos (by omega)]
        rfl
      | none =>
        simp only [Option.isSome_none, Bool.cond_false]
        rw [bif_pos (by omega), rest_none (find_none_all hf)]
    · rw [bif_neg h1, if_neg h1]
      cases hf : find (tg e) l with
      | some q =>
        obtain ⟨q1, q2⟩ := find_mem hf
        obtain ⟨a1, a2, a3, a4, a5⟩ := hq q q1
        obtain ⟨v1, v2, v3, v4, v5, _⟩ := hv
        simp only [Option.isSome_some, Bool.not_true, Bool.cond_false, Option.getD_some, hbody]
        rw [bif_pos (by omega), bif_pos (by omega), i64_ok (n := e.From - q.to_) (by omega)]
      | none =>
        simp only [Option.isSome_none, Bool.not_false, Bool.cond_true, hbody]
        rw [bif_pos (by omega), bif_pos (by omega)]
theorem getD_rr {l : List Pair_request} {k : Nat} {q : Pair_request} (h : l[k]? = some q) : (l.map rr).getD k dflt_Signalbenchref33_request = rr q := by
  rw [List.getD_eq_getElem?_getD, List.getElem?_map, h]
  rfl
theorem handle_is (M : Nat) (hM : 100010 < M) (l : List Pair_request) (e : Event) (hd : Dist l) (hq : Rqs l) (hl : l.length ≤ 99990) (hv : Vld e) : ref33_handle M (l.map rr) e = some ((pk l e).1.map rr, (pk l e).2) := by
  have hb := byteAt_range e.Data 0
  unfold ref33_handle b_ref33_handle pk
  rw [str_beq']
  by_cases h0 : e.Data = bs []
  · rw [bif_pos h0, if_pos h0]
  · have hp := size_pos h0
    rw [bif_neg h0, if_neg h0, bif_pos (by omega)]
    have hr := rest_len (tg e) l
    have hbody : e.Data.extract 1 ((e.Data.size : Int)).toNat = body e := by rw [Int.toNat_natCast]; rfl
    by_cases h1 : byteAt e.Data 0 < 128
    · have htag : IntKind.i64.wrap (byteAt e.Data 0) = tg e := by rw [i64_ok (by omega)]; unfold tg; omega
      rw [bif_pos h1, if_pos h1]
      simp only [htag, place_is M (tg e) l (by omega) (by omega), Option.bind_some]
      rw [bif_pos (by omega)]
      cases hf : find (tg e) l with
      | some q =>
        obtain ⟨p1, p2, p3⟩ := place_spec hd hf
        simp only [Option.isSome_some, if_true, List.length_map]
        rw [bif_pos (by omega), bif_pos (by omega), bif_pos (by omega), without_is M l _ p1 (by omega), p3]
        simp only [Option.bind_some, List.length_map]
        rw [bif_pos (by omega), Int.toNat_natCast, getD_rr p2]
        simp [gv]
      | none =>
        simp only [Option.isSome_none, Bool.false_eq_true, if_false, List.length_map]
        rw [bif_neg (by omega), bif_pos (by omega)]
        simp
    · have htag : IntKind.i64.wrap (IntKind.i64.wrap (byteAt e.Data 0) - 128) = tg e := by rw [i64_ok (n := byteAt e.Data 0) (by omega), i64_ok (by omega)]; unfold tg; omega
      rw [bif_neg h1, if_neg h1]
      simp only [htag, place_is M (tg e) l (by omega) (by omega), Option.bind_some, hbody]
      rw [bif_pos (by omega), bif_pos (by omega), bif_pos (by omega)]
      cases hf : find (tg e) l with
      | some q =>
        obtain ⟨q1, q2⟩ := find_mem hf
        obtain ⟨a1, a2, a3, a4, a5⟩ := hq q q1
        obtain ⟨v1, v2, v3, v4, v5, _⟩ := hv
        obtain ⟨p1, p2, p3⟩ := place_spec hd hf
        simp only [Option.isSome_some, if_true, List.length_map, Int.toNat_natCast, getD_rr p2, without_is M l _ p1 (show l.length ≤ 100000 by omega), p3, Option.bind_some]
        rw [i64_ok (n := e.From - q.to_) (by omega)]
        rw [bif_neg (by omega), bif_pos (by omega), bif_pos (by omega), bif_pos (by omega), bif_pos (by omega), bif_pos (by omega), bif_pos (by omega)]
        by_cases c : q.to_ > e.To
        · rw [bif_pos c, bif_pos (by omega), bif_pos (by omega), if_neg (by omega)]
        · rw [bif_neg c]
          by_cases c2 : q.to_ < e.To
          · rw [if_pos c2]
          · rw [if_neg c2, show q.to_ = e.To by omega]
      | none =>
        simp only [Option.isSome_none, Bool.false_eq_true, if_false]
        rw [bif_pos (by omega)]

/-! ### A step -/
def exp (T f : Int) : List Pair_request → List Event
  | [] => []
  | x :: r => if f - x.to_ > T then gv x (x.to_ + T) 11 :: exp T f r else exp T f r
def kp (T f : Int) : List Pair_request → List Pair_request
  | [] => []
  | x :: r => if f - x.to_ > T then kp T f r else x :: kp T f r
theorem kp_len (T f : Int) : ∀ (l : List Pair_request), (exp T f l).length + (kp T f l).length = l.length
  | [] => rfl
  | x :: r => by
    have := kp_len T f r
    rw [exp, kp]
    split
    · simp only [List.length_cons]; omega
    · simp only [List.length_cons]; omega
theorem kp_mem {T f : Int} {x : Pair_request} : ∀ {l : List Pair_request}, x ∈ kp T f l → x ∈ l
  | y :: r, h => by
    rw [kp] at h
    split at h
    · exact .tail _ (kp_mem h)
    · rcases List.mem_cons.1 h with rfl | h
      · exact .head _
      · exact .tail _ (kp_mem h)
theorem kp_dist {T f : Int} : ∀ {l : List Pair_request}, Dist l → Dist (kp T f l)
  | [], h => trivial
  | x :: r, h => by
    rw [kp]
    split
    · exact kp_dist h.2
    · exact ⟨fun y hy => h.1 y (kp_mem hy), kp_dist h.2⟩
theorem rest_mem {tag : Int} {x : Pair_request} : ∀ {l : List Pair_request}, x ∈ rest tag l → x ∈ l ∧ x.tag_ ≠ tag
  | y :: r, h => by
    rw [rest] at h
    split at h
    · exact ⟨.tail _ (rest_mem h).1, (rest_mem h).2⟩
    · rcases List.mem_cons.1 h with rfl | h
      · exact ⟨.head _, by assumption⟩
      · exact ⟨.tail _ (rest_mem h).1, (rest_mem h).2⟩
theorem rest_dist {tag : Int} : ∀ {l : List Pair_request}, Dist l → Dist (rest tag l)
  | [], h => trivial
  | x :: r, h => by
    rw [rest]
    split
    · exact rest_dist h.2
    · exact ⟨fun y hy => h.1 y (rest_mem hy).1, rest_dist h.2⟩
theorem rest_find {tag : Int} {q : Pair_request} : ∀ {l : List Pair_request}, find tag l = some q → (rest tag l).length + 1 ≤ l.length
  | x :: r, h => by
    rw [find] at h
    rw [rest]
    by_cases c : x.tag_ = tag
    · rw [if_pos c]
      have := rest_len tag r
      simp only [List.length_cons]; omega
    · rw [if_neg c] at h ⊢
      have := rest_find h
      simp only [List.length_cons]; omega
theorem dist_snoc {x : Pair_request} : ∀ {l : List Pair_request}, Dist l → (∀ y, y ∈ l → y.tag_ ≠ x.tag_) → Dist (l ++ [x])
  | [], _, _ => ⟨(fun y hy => nomatch hy), trivial⟩
  | z :: r, h, hx => ⟨fun y hy => by
      rcases List.mem_append.1 hy with hy | hy
      · exact h.1 y hy
      · simp only [List.mem_singleton] at hy
        subst hy
        exact fun e => hx z (.head _) e.symm, dist_snoc h.2 fun y hy => hx y (.tail _ hy)⟩
structure S33 where
  frm : Int
  to : Int
  l : List Pair_request
def pS (s : S33) : State := State.mk 0 s.frm 0 0 0 0 s.to (toBytes (encP s.l))
def rS (s : S33) : State := State.mk 0 s.to 0 0 0 0 s.frm (toBytes (encR s.l))
structure Ok33 (s : S33) (n : Nat) : Prop where
  rqs : Rqs s.l
  dist : Dist s.l
  len : s.l.length ≤ n
def stp (T : Int) (s : S33) (e : Event) : S33 × List Event :=
  if e.Kind = 6 ∧ Vld e ∧ s.frm ≤ e.From then
    if e.Fault = 0 then (⟨e.From, e.To, (pk (kp T e.From s.l) e).1⟩, exp T e.From s.l ++ (pk (kp T e.From s.l) e).2)
    else (⟨e.From, e.To, []⟩, exp T e.From s.l ++ (kp T e.From s.l).map fun x => gv x e.From 7)
  else (s, [])
theorem pk_ok {l : List Pair_request} {e : Event} (hq : Rqs l) (hd : Dist l) (hv : Vld e) : Rqs (pk l e).1 ∧ Dist (pk l e).1 ∧ (pk l e).1.length + (pk l e).2.length ≤ l.length + 1 := by
  have hb := byteAt_range e.Data 0
  have hnew : Rq ⟨tg e, e.From, e.To⟩ := by
    obtain ⟨v1, v2, v3, v4, v5, _⟩ := hv
    unfold Rq tg
    dsimp only
    omega
  unfold pk
  split
  · exact ⟨hq, hd, by simp⟩
  · split
    · cases hf : find (tg e) l with
      | some q =>
        refine ⟨fun x hx => ?_, dist_snoc (rest_dist hd) (fun y hy => (rest_mem hy).2), ?_⟩
        · rcases List.mem_append.1 hx with hx | hx
          · exact hq x (rest_mem hx).1
          · simp only [List.mem_singleton] at hx; subst hx; exact hnew
        · have := rest_find hf
          simp only [List.length_append, List.length_cons, List.length_nil]; omega
      | none =>
        refine ⟨fun x hx => ?_, dist_snoc hd (find_none_all hf), by simp⟩
        rcases List.mem_append.1 hx with hx | hx
        · exact hq x hx
        · simp only [List.mem_singleton] at hx; subst hx; exact hnew
    · cases hf : find (tg e) l with
      | some q =>
        refine ⟨fun x hx => hq x (rest_mem hx).1, rest_dist hd, ?_⟩
        have := rest_find hf
        simp only [List.length_cons, List.length_nil]; omega
      | none => exact ⟨hq, hd, by simp⟩
theorem stp_ok {T : Int} {s : S33} {e : Event} {n : Nat} (h : Ok33 s n) : Ok33 (stp T s e).1 (n + 1) ∧ (stp T s e).2.length + (stp T s e).1.l.length ≤ s.l.length + 1 := by
  unfold stp
  split
  · rename_i c
    have hk := kp_len T e.From s.l
    have hl := h.len
    split
    · obtain ⟨h1, h2, h3⟩ := pk_ok (l := kp T e.From s.l) (e := e) (fun x hx => h.rqs x (kp_mem hx)) (kp_dist h.dist) c.2.1
      exact ⟨⟨h1, h2, by dsimp only; omega⟩, by simp only [List.length_append]; omega⟩
    · exact ⟨⟨(fun x hx => nomatch hx), trivial, by simp⟩, by simp only [List.length_append, List.length_map, List.length_nil]; omega⟩
  · exact ⟨⟨h.rqs, h.dist, by have := h.len; dsimp only; omega⟩, by simp⟩
end Go.Abs.K
