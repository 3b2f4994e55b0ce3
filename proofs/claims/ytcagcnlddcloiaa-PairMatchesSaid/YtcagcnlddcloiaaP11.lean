/- PAIR: each response is matched; PairMatches. -/
import Derived.Test.YtcagcnlddcloiaaP10
set_option linter.unusedVariables false
set_option linter.unusedSimpArgs false
namespace Go.Abs.K
open Go Go.Abs Go.Proofs

theorem find_app (k : Int) (x : Pair_request) : ∀ (l : List Pair_request), find k (l ++ [x]) = match find k l with
    | some q => some q
    | none => if x.tag_ = k then some x else none
  | [] => rfl
  | y :: r => by
    rw [List.cons_append, find, find]
    by_cases c : y.tag_ = k
    · rw [if_pos c, if_pos c]
    · rw [if_neg c, if_neg c]
      exact find_app k x r
theorem find_rest (k b : Int) : ∀ (l : List Pair_request), find k (rest b l) = if k = b then none else find k l
  | [] => by rw [rest, find]; split <;> rfl
  | y :: r => by
    rw [rest]
    by_cases c : y.tag_ = b
    · rw [if_pos c, find_rest k b r]
      by_cases c2 : k = b
      · rw [if_pos c2, if_pos c2]
      · rw [if_neg c2, if_neg c2, find, if_neg (fun h => c2 (by rw [← h, c]))]
    · rw [if_neg c, find, find_rest k b r]
      by_cases c2 : k = b
      · rw [if_pos c2, if_pos c2, if_neg (fun h => c (by rw [h, c2]))]
      · rw [if_neg c2, if_neg c2]
        rfl
theorem find_of_mem {x : Pair_request} : ∀ {l : List Pair_request}, Dist l → x ∈ l → find x.tag_ l = some x
  | y :: r, hd, hx => by
    rw [find]
    rcases List.mem_cons.1 hx with rfl | hx
    · rw [if_pos rfl]
    · rw [if_neg (fun h => hd.1 x hx h.symm)]
      exact find_of_mem hd.2 hx
def cnt (l : List Pair_request) : Nat → Nat → Nat
  | _, 0 => 0
  | i, k + 1 => (if (find (i : Int) l).isSome then 1 else 0) + cnt l (i + 1) k
theorem cnt_cons (x : Pair_request) (r : List Pair_request) (hd : ∀ y, y ∈ r → y.tag_ ≠ x.tag_) : ∀ (k i : Nat), cnt (x :: r) i k = (if (i : Int) ≤ x.tag_ ∧ x.tag_ < (i + k : Nat) then 1 else 0) + cnt r i k
  | 0, i => by rw [cnt, cnt, if_neg (by omega)]
  | k + 1, i => by
    rw [cnt, cnt, cnt_cons x r hd k (i + 1), find]
    by_cases c : x.tag_ = (i : Int)
    · rw [if_pos c, if_pos (show (i : Int) ≤ x.tag_ ∧ x.tag_ < ((i + (k + 1) : Nat) : Int) by omega), if_neg (show ¬ (((i + 1 : Nat) : Int) ≤ x.tag_ ∧ x.tag_ < ((i + 1 + k : Nat) : Int)) by omega)]
      have : find (i : Int) r = none := find_none (fun y hy => by rw [← c]; exact hd y hy)
      rw [this]
      simp
    · rw [if_neg c]
      by_cases c2 : (i : Int) ≤ x.tag_ ∧ x.tag_ < ((i + (k + 1) : Nat) : Int)
      · rw [if_pos c2, if_pos (show ((i + 1 : Nat) : Int) ≤ x.tag_ ∧ x.tag_ < ((i + 1 + k : Nat) : Int) by omega)]
        omega
      · rw [if_neg c2, if_neg (show ¬ (((i + 1 : Nat) : Int) ≤ x.tag_ ∧ x.tag_ < ((i + 1 + k : Nat) : Int)) by omega)]
        omega
theorem cnt_nil : ∀ (k i : Nat), cnt [] i k = 0
  | 0, i => rfl
  | k + 1, i => by rw [cnt, cnt_nil k (i + 1)]; rfl
theorem cnt_all : ∀ (l : List Pair_request), Dist l → Rqs l → cnt l 0 128 = l.length
  | [], _, _ => cnt_nil 128 0
  | x :: r, hd, hq => by
    obtain ⟨h1, h2, _⟩ := hq x (.head _)
    rw [cnt_cons x r hd.1, if_pos (by omega), cnt_all r hd.2 fun y hy => hq y (.tail _ hy), List.length_cons]
    omega
theorem run_snoc (T : Int) (e : Event) : ∀ (l : List Event) (s : S33), run T s (l ++ [e]) = ((stp T (run T s l).1 e).1, (run T s l).2 ++ (stp T (run T s l).1 e).2)
  | [], s => by simp [run]
  | x :: r, s => by
    rw [List.cons_append, run_cons, run_snoc T e r, run_cons]
    simp
def opv : Option Pair_request → Int
  | some q => q.from_ + 1
  | none => 0
theorem opv_some (q : Pair_request) : opv (some q) = q.from_ + 1 := rfl
theorem opv_none : opv none = 0 := rfl
structure Opn (l : List Pair_request) (op : List Int) (i : Nat) : Prop where
  len : op.length = 128
  get : ∀ t : Int, 0 ≤ t → t < 128 → op.getD t.toNat 0 = opv (find t l)
  to : ∀ q, q ∈ l → q.to_ = q.from_ + 1 ∧ 0 ≤ q.from_ ∧ q.from_ < i
theorem getD_set (op : List Int) (b t : Int) (hb : 0 ≤ b) (h1 : b < op.length) (h2 : 0 ≤ t) (h3 : t < op.length) (v : Int) : (op.set b.toNat v).getD t.toNat 0 = if t = b then v else op.getD t.toNat 0 := by
  rw [List.getD_eq_getElem?_getD, List.getElem?_set, List.getD_eq_getElem?_getD]
  by_cases c : t = b
  · subst c
    rw [if_pos rfl, if_pos rfl, if_pos (by omega)]
    rfl
  · rw [if_neg (by omega), if_neg c]
theorem opn_req {l : List Pair_request} {op : List Int} {i : Nat} (h : Opn l op i) {b : Int} (h0 : 0 ≤ b) (h1 : b < 128) {l' : List Pair_request} (hl : ∀ k, find k l' = if k = b then some ⟨b, (i : Int), (i : Int) + 1⟩ else find k l)
    (hm : ∀ q, q ∈ l' → q ∈ l ∨ q = ⟨b, (i : Int), (i : Int) + 1⟩) : Opn l' (op.set b.toNat ((i + 1 : Nat) : Int)) (i + 1) := by
  have hlen := h.len
  refine ⟨by rw [List.length_set]; exact h.len, fun t t0 t1 => ?_, fun q hq => ?_⟩
  · rw [getD_set op b t h0 (by omega) t0 (by omega), hl]
    by_cases c : t = b
    · rw [if_pos c, if_pos c, opv_some]; rfl
    · rw [if_neg c, if_neg c]; exact h.get t t0 t1
  · rcases hm q hq with hq | rfl
    · have := h.to q hq; omega
    · dsimp only; omega
theorem opn_ans {l : List Pair_request} {op : List Int} {i : Nat} (h : Opn l op i) {b : Int} (h0 : 0 ≤ b) (h1 : b < 128) : Opn (rest b l) (op.set b.toNat 0) (i + 1) := by
  have hlen := h.len
  refine ⟨by rw [List.length_set]; exact h.len, fun t t0 t1 => ?_, fun q hq => ?_⟩
  · rw [getD_set op b t h0 (by omega) t0 (by omega), find_rest]
    by_cases c : t = b
    · rw [if_pos c, if_pos c]; rfl
    · rw [if_neg c, if_neg c]; exact h.get t t0 t1
  · have := h.to q (rest_mem hq).1; omega
theorem opn_same {l : List Pair_request} {op : List Int} {i : Nat} (h : Opn l op i) : Opn l op (i + 1) := ⟨h.len, h.get, fun q hq => by have := h.to q hq; omega⟩
theorem kp_all {T f : Int} : ∀ {l : List Pair_request}, (∀ q, q ∈ l → f - q.to_ ≤ T) → kp T f l = l ∧ exp T f l = []
  | [], _ => ⟨rfl, rfl⟩
  | x :: r, h => by
    obtain ⟨h1, h2⟩ := kp_all (T := T) (f := f) (l := r) fun q hq => h q (.tail _ hq)
    have := h x (.head _)
    rw [kp, exp, if_neg (by omega), if_neg (by omega), h1, h2]
    exact ⟨rfl, rfl⟩
theorem m_l35 (M : Nat) (tags : ByteArray) (op : List Int) (out : List Event) (ho : out.length ≤ 100000) (hg : ∀ e, e ∈ out → True) : ∀ (r : List Event) (i m : Nat), out.drop i = r → r.length < m → (∀ e, e ∈ r → e.Fault = 7 ∧ 0 ≤ e.Value ∧ e.Value ≤ 127 ∧ e.Value < (op.length : Int) ∧ IntKind.i64.wrap (op.getD e.Value.toNat 0 - 1) = e.From ∧ e.To = (tags.size : Int)) →
    law33_PairMatches_l35 M m tags (i : Int) op out = some true
  | r, i, 0, _, hm, _ => by omega
  | [], i, m + 1, h, hm, hr => by
    have := drop_nil h
    simp only [law33_PairMatches_l35, b_law33_PairMatches_l35]
    rw [bif_neg (by omega)]
  | x :: r, i, m + 1, h, hm, hr => by
    obtain ⟨h1, h2, h3, h4, h5⟩ := drop_cons h dflt_Event
    obtain ⟨g1, g2, g3, g4, g5, g6⟩ := hr x (.head _)
    simp only [List.length_cons] at hm
    have ih := m_l35 M tags op out ho hg r (i + 1) m h3 (by omega) fun e he => hr e (.tail _ he)
    simp only [law33_PairMatches_l35, b_law33_PairMatches_l35, h1, g1, g5, g6, bne_self_eq_false, Bool.cond_false, next_i i (show i < 9223372036854775807 by omega)]
    simp only [bif_pos (show (i : Int) < (out.length : Int) by omega), bif_pos (show 0 ≤ (i : Int) by omega), bif_neg (show ¬ x.Value < 0 by omega), bif_neg (show ¬ x.Value > 127 by omega), bif_pos g2, bif_pos g4]
    exact ih
theorem m_l28 (M : Nat) (tags : ByteArray) (op : List Int) (want out : List Event) (l : List Pair_request) (j : Nat) (hop : Opn l op j) : ∀ (k i m left : Nat), i + k = 128 → k < m → left + k ≤ 1000 →
    law33_PairMatches_l28 M m tags (left : Int) (i : Int) op want out = law33_PairMatches_l28 M 1 tags ((left + cnt l i k : Nat) : Int) 128 op want out
  | k, i, 0, left, _, hm, _ => by omega
  | 0, i, m + 1, left, hi, hm, hb => by
    have : i = 128 := by omega
    subst this
    rfl
  | k + 1, i, m + 1, left, hi, hm, hb => by
    have hlen := hop.len
    have hg := hop.get (i : Int) (by omega) (by omega)
    have e0 : law33_PairMatches_l28 M (m + 1) tags (left : Int) (i : Int) op want out = law33_PairMatches_l28 M m tags ((left + (if (find (i : Int) l).isSome then 1 else 0) : Nat) : Int) ((i + 1 : Nat) : Int) op want out := by
      conv => lhs; rw [law33_PairMatches_l28]
      simp only [b_law33_PairMatches_l28, hg]
      rw [bif_pos (by omega), bif_pos (by omega), bif_pos (by omega), next_i i (by omega), next_i left (by omega)]
      cases hf : find (i : Int) l with
      | some q =>
        have := hop.to q (find_mem hf).1
        rw [opv_some, bif_pos (by omega)]
        rfl
      | none =>
        rw [opv_none, bif_neg (by omega)]
        rfl
    rw [e0, m_l28 M tags op want out l j hop k (i + 1) m _ (by omega) (by omega) (by split <;> omega), cnt]
    rw [Nat.add_assoc]
theorem gv_is {q : Pair_request} {a b c t : Int} (h1 : a - 1 = q.from_) (h2 : q.tag_ = t) : Event.mk 8 (a - 1) b t 0 (bs []) c = gv q b c := by
  subst h2; rw [h1]; rfl
theorem m_l10 (M : Nat) (hM : 5000000 < M) (tags : ByteArray) (hs : tags.size ≤ 2000) : ∀ (k i m : Nat) (s : S33) (inn want : List Event) (op : List Int), i + k = tags.size → k < m → run TT s00 inn = (s, want) → inn.length = i → s.to = i → s.frm ≤ i → Ok33 s i → Opn s.l op i →
    law33_PairMatches_l10 M m tags (i : Int) (Pair.mk 1099511627776) inn op want = some true
  | k, i, 0, s, inn, want, op, _, hm, _, _, _, _, _, _ => by omega
  | 0, i, m + 1, s, inn, want, op, hi, hm, hr, hin, hto, hfr, hok, hop => by
    have hcv : CV (Pair.mk 1099511627776) := by unfold CV; dsimp only; omega
    have hrl := (run_ok (T := TT) (l := inn) s00_ok).2
    rw [hr] at hrl
    have hz : s00.l.length = 0 := rfl
    dsimp only at hrl
    simp only [law33_PairMatches_l10, b_law33_PairMatches_l10]
    rw [bif_neg (by omega), (decode_is M hM (Pair.mk 1099511627776) hcv inn (by omega)).1, Option.bind_some]
    have hd : decd (Pair.mk 1099511627776).Timeout inn = want ++ fin s := by
      unfold decd
      have : run (Pair.mk 1099511627776).Timeout s00 inn = (s, want) := hr
      rw [this]
    have hfl : (fin s).length = s.l.length := by simp [fin]
    have hcnt := cnt_all s.l hok.dist hok.rqs
    have h28 := m_l28 M tags op want (want ++ fin s) s.l i hop 128 0 M 0 (by omega) (by omega) (by omega)
    have e0 : ((0 : Nat) : Int) = 0 := rfl
    rw [e0, hcnt] at h28
    rw [hd, h28]
    simp only [law33_PairMatches_l28, b_law33_PairMatches_l28]
    rw [bif_neg (show ¬ (128 : Int) < 128 by omega), i64_ok (n := (want.length : Int) + ((0 + s.l.length : Nat) : Int)) (by omega), bne_if, if_pos (by rw [List.length_append, hfl]; omega), bif_pos (by rw [List.length_append]; omega)]
    rw [Int.toNat_natCast, List.take_left, List.drop_zero, same_self M want (by omega) (by omega)]
    simp only [Option.bind_some, Bool.not_true, Bool.cond_false]
    have hlen := hop.len
    refine m_l35 M tags op (want ++ fin s) (by rw [List.length_append, hfl]; omega) (fun _ _ => trivial) (fin s) want.length M (by rw [List.drop_left]) (by omega) fun e he => ?_
    simp only [fin, List.mem_map] at he
    obtain ⟨x, hx, rfl⟩ := he
    obtain ⟨q1, q2, q3, q4, q5⟩ := hok.rqs x hx
    have hg := hop.get x.tag_ q1 (by omega)
    rw [find_of_mem hok.dist hx, opv_some] at hg
    have hto2 := hop.to x hx
    refine ⟨rfl, q1, q2, by show x.tag_ < _; omega, ?_, by show s.to = _; omega⟩
    show IntKind.i64.wrap (op.getD x.tag_.toNat 0 - 1) = x.from_
    rw [hg, i64_ok (by omega)]
    omega
  | k + 1, i, m + 1, s, inn, want, op, hi, hm, hr, hin, hto, hfr, hok, hop => by
    have hrl := (run_ok (T := TT) (l := inn) s00_ok).2
    rw [hr] at hrl
    have hz : s00.l.length = 0 := rfl
    dsimp only at hrl
    have hb := byteAt_range tags i
    have hlen := hop.len
    have hdata : ofBytes (tags.extract i (i + 1)) = [byteAt tags i] := by
      rw [ofBytes_extract, byteAt_eq, Int.toNat_natCast]
      have hlt : i < (ofBytes tags).length := by rw [ofBytes_length]; omega
      rw [List.take_succ_eq_append_getElem hlt, List.drop_append, List.length_take, Nat.min_eq_left (by omega), Nat.sub_self, List.drop_of_length_le (by rw [List.length_take]; omega)]
      rw [List.getD_eq_getElem?_getD, List.getElem?_eq_getElem hlt]
      rfl
    have hW : ((i + 1 : Nat) : Int).toNat = i + 1 := Int.toNat_natCast _
    have hev : Event.mk 6 (i : Int) ((i + 1 : Nat) : Int) 0 0 (tags.extract i (i + 1)) 0 = ⟨6, (i : Int), ((i + 1 : Nat) : Int), 0, 0, tags.extract i (i + 1), 0⟩ := rfl
    have hsz : (tags.extract i (i + 1)).size = 1 := by rw [← ofBytes_length, hdata]; rfl
    generalize hE : Event.mk 6 (i : Int) ((i + 1 : Nat) : Int) 0 0 (tags.extract i (i + 1)) 0 = E at *
    have hEd : ofBytes E.Data = [byteAt tags i] := by rw [← hE]; exact hdata
    have hEf : E.From = i := by rw [← hE]
    have hEt : E.To = (i : Int) + 1 := by rw [← hE]; dsimp only; omega
    have hv : Vld E := by
      rw [← hE]
      unfold Vld
      dsimp only
      rw [hsz]
      omega
    have hst := stp_packet (T := TT) (s := s) (e := E) (by rw [← hE]) hv (by rw [hEf]; omega) (by rw [← hE])
    have hka := kp_all (T := TT) (f := E.From) (l := s.l) fun q hq => by
      have := hop.to q hq
      have hT : TT = 1099511627776 := rfl
      rw [hEf]; omega
    rw [hka.1, hka.2, List.nil_append] at hst
    have hsn : run TT s00 (inn ++ [E]) = ((stp TT s E).1, want ++ (stp TT s E).2) := by rw [run_snoc, hr]
    rw [hst] at hsn
    have hok2 := (stp_ok (T := TT) (e := E) hok).1
    rw [hst] at hok2
    have hbody : ∀ {a : Int}, ofBytes E.Data = [a] → body E = bs [] := fun h => by
      apply ofBytes_inj
      rw [body_of h]
      rfl
    have ih := fun (op' : List Int) (want' : List Event) (l' : List Pair_request) (ev' : List Event) (hpk : pk s.l E = (l', ev')) (hw : want' = want ++ ev') (ho : Opn l' op' (i + 1)) =>
      m_l10 M hM tags hs k (i + 1) m ⟨E.From, E.To, (pk s.l E).1⟩ (inn ++ [E]) want' op' (by omega) (by omega) (by rw [hsn, hpk, hw]) (by simp [hin]) (by show E.To = _; rw [hEt]; omega) (by show E.From ≤ _; rw [hEf]; omega) hok2 (by rw [hpk]; exact ho)
    generalize hbb : byteAt tags i = b at *
    have wb : IntKind.i64.wrap b = b := i64_ok (by omega)
    have w1 : IntKind.i64.wrap ((i : Int) + 1) = ((i + 1 : Nat) : Int) := next_i i (by omega)
    have wt : IntKind.i64.wrap (b - 128) = b - 128 := i64_ok (by omega)
    simp only [law33_PairMatches_l10, b_law33_PairMatches_l10, hbb, wb, w1, wt, Int.toNat_natCast, hE]
    simp only [bif_pos (show (i : Int) < (tags.size : Int) by omega), bif_pos (show 0 ≤ ((i + 1 : Nat) : Int) by omega), bif_pos (show ((i + 1 : Nat) : Int) ≤ (tags.size : Int) by omega), bif_pos (show 0 ≤ (i : Int) by omega), bif_pos (show (i : Int) ≤ ((i + 1 : Nat) : Int) by omega),
      bif_pos (show (inn.length + 1) * 64 ≤ 140737488355328 by omega), bif_pos (show (want.length + 1) * 64 ≤ 140737488355328 by omega)]
    by_cases hlt : b < 128
    · have hg := hop.get b hb.1 hlt
      simp only [bif_pos hlt, bif_pos hb.1, bif_pos (show b < (op.length : Int) by omega)]
      cases hf : find b s.l with
      | some q =>
        rw [hf, opv_some] at hg
        obtain ⟨q1, q2⟩ := find_mem hf
        have hq := hop.to q q1
        rw [hg, bif_pos (by omega), i64_ok (n := q.from_ + 1 - 1) (by omega)]
        have hpk := pk_req (l := s.l) (e := E) hEd hb.1 hlt
        rw [hf] at hpk
        dsimp only at hpk
        refine ih _ _ _ _ hpk ?_ ?_
        · rw [gv_is (q := q) (by omega) q2, hEf]
        · refine opn_req hop hb.1 hlt (fun k => ?_) (fun q' hq' => ?_)
          · rw [find_app, find_rest, hEf, hEt]
            by_cases c : k = b
            · rw [if_pos c, if_pos c]
              dsimp only
              rw [if_pos c.symm]
            · rw [if_neg c, if_neg c]
              cases find k s.l with
              | some z => rfl
              | none => dsimp only; rw [if_neg (fun h => c h.symm)]
          · rcases List.mem_append.1 hq' with h | h
            · exact .inl (rest_mem h).1
            · simp only [List.mem_singleton] at h
              rw [hEf, hEt] at h
              exact .inr h
      | none =>
        rw [hf, opv_none] at hg
        rw [hg, bif_neg (by omega)]
        have hpk := pk_req (l := s.l) (e := E) hEd hb.1 hlt
        rw [hf] at hpk
        dsimp only at hpk
        refine ih _ _ _ _ hpk (by simp) ?_
        refine opn_req hop hb.1 hlt (fun k => ?_) (fun q' hq' => ?_)
        · rw [find_app, hEf, hEt]
          by_cases c : k = b
          · subst c
            rw [hf, if_pos rfl]
          · rw [if_neg c]
            cases find k s.l with
            | some z => rfl
            | none => dsimp only; rw [if_neg (fun h => c h.symm)]
        · rcases List.mem_append.1 hq' with h | h
          · exact .inl h
          · simp only [List.mem_singleton] at h
            rw [hEf, hEt] at h
            exact .inr h
    · have hg := hop.get (b - 128) (by omega) (by omega)
      have hEd2 : ofBytes E.Data = (128 + (b - 128)) :: [] := by rw [hEd, show 128 + (b - 128) = b by omega]
      have hbd := hbody hEd
      simp only [bif_neg hlt, bif_pos (show 0 ≤ b - 128 by omega), bif_pos (show b - 128 < (op.length : Int) by omega)]
      cases hf : find (b - 128) s.l with
      | some q =>
        rw [hf, opv_some] at hg
        obtain ⟨q1, q2⟩ := find_mem hf
        have hq := hop.to q q1
        rw [hg, bif_pos (by omega), i64_ok (n := q.from_ + 1 - 1) (by omega), i64_ok (n := (i : Int) - (q.from_ + 1)) (by omega)]
        have hpk := pk_ans (l := s.l) (e := E) hEd2 (by omega) (by omega)
        rw [hf] at hpk
        dsimp only at hpk
        refine ih _ _ _ _ hpk ?_ (opn_ans hop (by omega) (by omega))
        rw [hbd, hEf, hEt, if_pos (by omega), show q.from_ + 1 - 1 = q.from_ by omega, hq.1]
        rfl
      | none =>
        rw [hf, opv_none] at hg
        rw [hg, bif_neg (by omega)]
        have hpk := pk_ans (l := s.l) (e := E) hEd2 (by omega) (by omega)
        rw [hf] at hpk
        dsimp only at hpk
        refine ih _ _ _ _ hpk ?_ (opn_same hop)
        rw [hbd, hEf, hEt]
        rfl
theorem PairMatches_true (tags : ByteArray) (q0 : tags.size ≤ 140737488351232) : ∃ M, law33_PairMatches M tags = some true := by
  refine ⟨6000000, ?_⟩
  unfold law33_PairMatches b_law33_PairMatches
  rw [lives_true 6000000 (by omega)]
  simp only [Option.bind_some, Bool.not_true, Bool.cond_false]
  by_cases h : (tags.size : Int) > 2000
  · rw [bif_pos h]
  · rw [bif_neg h]
    refine m_l10 6000000 (by omega) tags (by omega) tags.size 0 6000000 s00 [] [] (List.replicate 128 0) (by omega) (by omega) rfl rfl rfl (by show (0 : Int) ≤ 0; omega) s00_ok ⟨by simp, fun t t0 t1 => ?_, (fun q hq => nomatch hq)⟩
    show _ = 0
    rw [List.getD_eq_getElem?_getD, List.getElem?_replicate]
    split <;> rfl
end Go.Abs.K
