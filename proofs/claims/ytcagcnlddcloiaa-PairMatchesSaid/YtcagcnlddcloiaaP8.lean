/- PAIR: packets by their bytes; PairTimeouts. -/
import Derived.Test.YtcagcnlddcloiaaP7
set_option linter.unusedVariables false
set_option linter.unusedSimpArgs false
namespace Go.Abs.K
open Go Go.Abs Go.Proofs

theorem data_cons {s : ByteArray} {a : Int} {d : List Int} (hs : ofBytes s = a :: d) : s ≠ bs [] ∧ byteAt s 0 = a ∧ ofBytes (s.extract 1 s.size) = d := by
  refine ⟨fun h => ?_, ?_, ?_⟩
  · rw [h] at hs
    have e : ofBytes (bs []) = [] := rfl
    rw [e] at hs
    cases hs
  · rw [byteAt_eq, hs]
    rfl
  · rw [ofBytes_extract, ← ofBytes_length, hs, List.take_length]
    rfl
theorem pk_req {l : List Pair_request} {e : Event} {a : Int} {d : List Int} (hd : ofBytes e.Data = a :: d) (h0 : 0 ≤ a) (ha : a < 128) : pk l e = match find a l with
    | some q => (rest a l ++ [⟨a, e.From, e.To⟩], [gv q e.From 7])
    | none => (l ++ [⟨a, e.From, e.To⟩], []) := by
  obtain ⟨h1, h2, h3⟩ := data_cons hd
  have ht : tg e = a := by unfold tg; rw [h2]; omega
  unfold pk
  rw [if_neg h1, if_pos (by omega), ht]
  cases find a l <;> rfl
theorem pk_ans {l : List Pair_request} {e : Event} {a : Int} {d : List Int} (hd : ofBytes e.Data = (128 + a) :: d) (h0 : 0 ≤ a) (ha : a < 128) : pk l e = match find a l with
    | some q => (rest a l, [Event.mk 8 q.from_ (if q.to_ < e.To then e.To else q.to_) a (e.From - q.to_) (body e) 0])
    | none => (l, [Event.mk 8 e.From e.To a 0 (body e) 12]) := by
  obtain ⟨h1, h2, h3⟩ := data_cons hd
  have ht : tg e = a := by unfold tg; rw [h2]; omega
  unfold pk
  rw [if_neg h1, if_neg (by omega), ht]
  cases find a l <;> rfl
theorem body_of {e : Event} {a : Int} {d : List Int} (hd : ofBytes e.Data = a :: d) : ofBytes (body e) = d := (data_cons hd).2.2
theorem stp_packet {T : Int} {s : S33} {e : Event} (hk : e.Kind = 6) (hv : Vld e) (hf : s.frm ≤ e.From) (h0 : e.Fault = 0) : stp T s e = (⟨e.From, e.To, (pk (kp T e.From s.l) e).1⟩, exp T e.From s.l ++ (pk (kp T e.From s.l) e).2) := by
  unfold stp
  rw [if_pos ⟨hk, hv, hf⟩, if_pos h0]
theorem timeouts_dec (T tag f g w : Int) (T0 : 1 ≤ T) (T1 : T ≤ 274877906944) (t0 : 0 ≤ tag) (t1 : tag ≤ 127) (f0 : 0 ≤ f) (f1 : f ≤ 137438953472) (g0 : 0 ≤ g) (g1 : g ≤ 137438953472) (w0 : 0 ≤ w) (w1 : w ≤ 274877906944) :
    decd T [Event.mk 6 f (f + g) 0 0 (toBytes [tag]) 0, Event.mk 6 (f + g + w) (f + g + w + 1) 0 0 (toBytes [128 + tag, 7]) 0] =
    if w ≤ T then [Event.mk 8 f (f + g + w + 1) tag w (bs [7]) 0] else [Event.mk 8 f (f + g + T) tag 0 (bs []) 11, Event.mk 8 (f + g + w) (f + g + w + 1) tag 0 (bs [7]) 12] := by
  have b1 : ofBytes (toBytes [tag]) = [tag] := ofBytes_toBytes (fun x hx => by simp only [List.mem_singleton] at hx; omega)
  have b2 : ofBytes (toBytes [128 + tag, 7]) = [128 + tag, 7] := ofBytes_toBytes (fun x hx => by simp only [List.mem_cons, List.not_mem_nil, or_false] at hx; omega)
  have s1 : stp T s00 (Event.mk 6 f (f + g) 0 0 (toBytes [tag]) 0) = (⟨f, f + g, [⟨tag, f, f + g⟩]⟩, []) := by
    rw [stp_packet rfl (by unfold Vld; rw [toBytes_size]; simp only [List.length_cons, List.length_nil]; omega) (by show (0 : Int) ≤ f; omega) rfl]
    have : kp T f s00.l = [] := rfl
    dsimp only
    rw [this, pk_req (a := tag) (d := []) b1 t0 (by omega)]
    rfl
  have hbody : body (Event.mk 6 (f + g + w) (f + g + w + 1) 0 0 (toBytes [128 + tag, 7]) 0) = bs [7] := by
    apply ofBytes_inj
    rw [body_of (a := 128 + tag) (d := [7]) b2]
    rfl
  have s2 : stp T ⟨f, f + g, [⟨tag, f, f + g⟩]⟩ (Event.mk 6 (f + g + w) (f + g + w + 1) 0 0 (toBytes [128 + tag, 7]) 0) =
      (⟨f + g + w, f + g + w + 1, []⟩, if w ≤ T then [Event.mk 8 f (f + g + w + 1) tag w (bs [7]) 0] else [Event.mk 8 f (f + g + T) tag 0 (bs []) 11, Event.mk 8 (f + g + w) (f + g + w + 1) tag 0 (bs [7]) 12]) := by
    rw [stp_packet rfl (by unfold Vld; rw [toBytes_size]; simp only [List.length_cons, List.length_nil]; omega) (by show f ≤ f + g + w; omega) rfl]
    dsimp only
    rw [pk_ans (a := tag) (d := [7]) b2 t0 (by omega), hbody]
    by_cases c : w ≤ T
    · rw [if_pos c]
      have k1 : kp T (f + g + w) [⟨tag, f, f + g⟩] = [⟨tag, f, f + g⟩] := by rw [kp, if_neg (by dsimp only; omega)]; rfl
      have k2 : exp T (f + g + w) [⟨tag, f, f + g⟩] = [] := by rw [exp, if_neg (by dsimp only; omega)]; rfl
      have k3 : find tag [⟨tag, f, f + g⟩] = some ⟨tag, f, f + g⟩ := by rw [find, if_pos rfl]
      have k4 : rest tag [⟨tag, f, f + g⟩] = [] := by rw [rest, if_pos rfl]; rfl
      rw [k1, k2, k3, k4]
      dsimp only
      rw [if_pos (by omega), show f + g + w - (f + g) = w by omega]
      rfl
    · rw [if_neg c]
      have k1 : kp T (f + g + w) [⟨tag, f, f + g⟩] = [] := by rw [kp, if_pos (by dsimp only; omega)]; rfl
      have k2 : exp T (f + g + w) [⟨tag, f, f + g⟩] = [gv ⟨tag, f, f + g⟩ (f + g + T) 11] := by rw [exp, if_pos (by dsimp only; omega)]; rfl
      rw [k1, k2]
      rfl
  unfold decd
  rw [run, s1]
  dsimp only
  rw [run, s2]
  dsimp only
  simp [run, fin]
theorem PairTimeouts_true (T tag f g w : Int) (q0 : IntKind.i64.min ≤ T ∧ T ≤ IntKind.i64.max) (q1 : IntKind.i64.min ≤ tag ∧ tag ≤ IntKind.i64.max) (q2 : IntKind.i64.min ≤ f ∧ f ≤ IntKind.i64.max) (q3 : IntKind.i64.min ≤ g ∧ g ≤ IntKind.i64.max) (q4 : IntKind.i64.min ≤ w ∧ w ≤ IntKind.i64.max) :
    ∃ M, law33_PairTimeouts M T tag f g w = some true := by
  refine ⟨6000000, ?_⟩
  unfold law33_PairTimeouts b_law33_PairTimeouts
  rw [lives_true 6000000 (by omega)]
  simp only [Option.bind_some, Bool.not_true, Bool.cond_false, bif_if]
  by_cases h1 : T < 1
  · rw [if_pos h1]
  rw [if_neg h1]
  by_cases h2 : T > 274877906944
  · rw [if_pos h2]
  rw [if_neg h2]
  by_cases h3 : tag < 0
  · rw [if_pos h3]
  rw [if_neg h3]
  by_cases h4 : tag > 127
  · rw [if_pos h4]
  rw [if_neg h4]
  by_cases h5 : f < 0
  · rw [if_pos h5]
  rw [if_neg h5]
  by_cases h6 : f > 137438953472
  · rw [if_pos h6]
  rw [if_neg h6]
  by_cases h7 : g < 0
  · rw [if_pos h7]
  rw [if_neg h7]
  by_cases h8 : g > 137438953472
  · rw [if_pos h8]
  rw [if_neg h8]
  by_cases h9 : w < 0
  · rw [if_pos h9]
  rw [if_neg h9]
  by_cases h10 : w > 274877906944
  · rw [if_pos h10]
  rw [if_neg h10]
  rw [i64_ok (n := f + g) (by omega), i64_ok (n := f + g + w) (by omega), i64_ok (n := f + g + w + 1) (by omega), u8_ok (n := tag) (by omega), i64_ok (n := 128 + tag) (by omega), u8_ok (n := 128 + tag) (by omega), i64_ok (n := f + g + T) (by omega)]
  have hd := (decode_is 6000000 (by omega) (Pair.mk T) (by unfold CV; dsimp only; omega) [Event.mk 6 f (f + g) 0 0 (toBytes [tag]) 0, Event.mk 6 (f + g + w) (f + g + w + 1) 0 0 (toBytes [128 + tag, 7]) 0] (by simp)).1
  dsimp only at hd
  rw [timeouts_dec T tag f g w (by omega) (by omega) (by omega) (by omega) (by omega) (by omega) (by omega) (by omega) (by omega) (by omega)] at hd
  rw [hd]
  simp only [Option.bind_some]
  by_cases c : w ≤ T
  · simp only [if_pos c]
    simp [bytes_beq_self]
  · simp only [if_neg c]
    simp [bytes_beq_self]
end Go.Abs.K
