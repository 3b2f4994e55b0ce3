/- LIN: frames that were sent are decoded. -/
import Derived.Test.YtohpkolbocmbbaaP4
set_option linter.unusedVariables false
set_option linter.unusedSimpArgs false
namespace Go.Abs.K
open Go Go.Abs Go.Proofs

noncomputable def evA (t at_ : Int) (x : Item) : Event := if x.Aux = 1 then Event.mk 4 (at_ + x.Gap) (at_ + x.Gap + t) 1 0 (bs []) 0 else Event.mk 3 (at_ + x.Gap) (at_ + x.Gap + t) x.Value 0 (bs []) 0
noncomputable def evsA (t : Int) : Int → List Item → List Event
  | _, [] => []
  | at_, x :: r => evA t at_ x :: evsA t (at_ + x.Gap + t) r
noncomputable def toA (t : Int) : Int → List Item → Int
  | at_, [] => at_
  | at_, x :: r => toA t (at_ + x.Gap + t) r
theorem evsA_append (t : Int) : ∀ (a b : List Item) (at_ : Int), evsA t at_ (a ++ b) = evsA t at_ a ++ evsA t (toA t at_ a) b
  | [], b, at_ => rfl
  | x :: a, b, at_ => by simp only [List.cons_append, evsA, toA, evsA_append t a b]
theorem evsA_len (t : Int) : ∀ (a : List Item) (at_ : Int), (evsA t at_ a).length = a.length
  | [], at_ => rfl
  | x :: a, at_ => by simp only [evsA, List.length_cons, evsA_len t a]
theorem events_l4 (M : Nat) (t : Int) (ht : 1 ≤ t ∧ t ≤ 1000) (l : List Item) (hl : l.length ≤ 50000) : ∀ (r : List Item) (i m : Nat) (at_ : Int) (out : List Event), l.drop i = r → r.length < m → 0 ≤ at_ → at_ + (r.length : Int) * 1100000 ≤ 1125899906842624 → (∀ x, x ∈ r → 0 ≤ x.Gap ∧ x.Gap ≤ 1048576) → out.length + r.length ≤ 100000 → law27_events_l4 M m t at_ (i : Int) l out = some (out ++ evsA t at_ r)
  | r, i, 0, at_, out, _, hm, _, _, _, _ => by omega
  | [], i, m + 1, at_, out, hr, hm, _, _, _, ho => by
    have := drop_nil hr
    simp only [law27_events_l4, b_law27_events_l4]
    rw [bif_neg (by omega)]; simp [evsA]
  | x :: r, i, m + 1, at_, out, hr, hm, h0, hb, hg, ho => by
    obtain ⟨h1, h2, h3, h4, h5⟩ := drop_cons hr dflt_Item
    have hx := hg x (by simp)
    simp only [List.length_cons] at hm ho hb
    have e1 : IntKind.i64.wrap (at_ + x.Gap) = at_ + x.Gap := i64_ok (by omega)
    have e2 : IntKind.i64.wrap (at_ + x.Gap + t) = at_ + x.Gap + t := i64_ok (by omega)
    have ih := fun ev => events_l4 M t ht l hl r (i + 1) m (at_ + x.Gap + t) (out ++ [ev]) h3 (by omega) (by omega) (by omega) (fun y hy => hg y (by simp [hy])) (by simp; omega)
    simp only [law27_events_l4, b_law27_events_l4, h1, e1, e2, beq_if]
    simp only [bif_pos (show (i : Int) < (l.length : Int) by omega), bif_pos (show (0 : Int) ≤ (i : Int) by omega), bif_pos (show (out.length + 1) * 64 ≤ 140737488355328 by omega), next_i i (by omega), ih]
    have he : evsA t at_ (x :: r) = evA t at_ x :: evsA t (at_ + x.Gap + t) r := rfl
    rw [he]
    unfold evA
    split <;> simp
theorem events_is (M : Nat) (t : Int) (ht : 1 ≤ t ∧ t ≤ 1000) (l : List Item) (hl : l.length ≤ 50000) (hm : l.length < M) (hg : ∀ x, x ∈ l → 0 ≤ x.Gap ∧ x.Gap ≤ 1048576) : law27_events M l t = some (evsA t 0 l) := by
  simp only [law27_events, b_law27_events]
  have := events_l4 M t ht l hl l 0 M 0 [] rfl hm (by omega) (by omega) hg (by simp; omega)
  rw [List.nil_append] at this
  exact this
theorem runA_append (c : Lin) : ∀ (l k : List Event) (s : State), runA c s (l ++ k) = ((runA c (runA c s l).1 k).1, (runA c s l).2 ++ (runA c (runA c s l).1 k).2)
  | [], k, s => by simp [runA]
  | e :: l, k, s => by simp [runA, runA_append c l k]
theorem addB_bytes (d : ByteArray) (v : Int) (hd : d.size < 4096) (hv : 0 ≤ v ∧ v ≤ 255) : ofBytes (addB d v) = ofBytes d ++ [v] := by
  unfold addB
  rw [if_pos hd, ofBytes_append, u8_ok hv, ofBytes_toBytes (fun x hx => by rw [List.mem_singleton] at hx; subst hx; exact hv)]
theorem run_bytes (c : Lin) (t : Int) (ht : 1 ≤ t ∧ t ≤ 1000) (f : Int) : ∀ (vs : List Int) (d : ByteArray) (at_ a n : Int), (∀ v, v ∈ vs → 0 ≤ v ∧ v ≤ 255) → d.size + vs.length ≤ 4096 → a ≤ at_ → 0 ≤ at_ → at_ + t * (vs.length : Int) ≤ 1099511627776 → ∃ a' D, runA c (State.mk 1 a f n 0 at_ 0 d) (evsA t at_ (vs.map itm)) = (State.mk 1 a' f (n + vs.length) 0 (at_ + t * (vs.length : Int)) 0 D, []) ∧ ofBytes D = ofBytes d ++ vs ∧ a' ≤ at_ + t * (vs.length : Int)
  | [], d, at_, a, n, _, _, ha, _, _ => ⟨a, d, by simp [runA, evsA], by simp, by simpa using ha⟩
  | v :: vs, d, at_, a, n, hv, hd, ha, h0, hb => by
    have hv0 := hv v (by simp)
    simp only [List.length_cons] at hd hb
    have hmul : t * ((vs.length + 1 : Nat) : Int) = t + t * (vs.length : Int) := by
      rw [show ((vs.length + 1 : Nat) : Int) = (vs.length : Int) + 1 by omega, Int.mul_add]; omega
    rw [hmul] at hb
    have hnn : 0 ≤ t * (vs.length : Int) := Int.mul_nonneg (by omega) (by omega)
    have hin : In (State.mk 1 a f n 0 at_ 0 d) (Event.mk 3 at_ (at_ + t) v 0 (bs []) 0) := by
      refine ⟨?_, ha, .inr ⟨rfl, hv0⟩⟩
      unfold Vld
      dsimp only
      rw [show (bs []).size = 0 from rfl]
      omega
    have hs : stepA c (State.mk 1 a f n 0 at_ 0 d) (Event.mk 3 at_ (at_ + t) v 0 (bs []) 0) = (State.mk 1 at_ f (n + 1) 0 (at_ + t) 0 (addB d v), []) := by
      unfold stepA
      rw [if_pos hin, if_neg (by simp), if_neg (show ¬ ((3 : Int) = 4 ∧ v = 1) by omega), if_pos (show (3 : Int) = 3 ∧ (1 : Int) = 1 by omega)]
    have hsz := addB_size d v
    rw [if_pos (by omega)] at hsz
    obtain ⟨a', D, e1, e2, e3⟩ := run_bytes c t ht f vs (addB d v) (at_ + t) at_ (n + 1) (fun w hw => hv w (by simp [hw])) (by omega) (by omega) (by omega) (by omega)
    have hev : evsA t at_ ((v :: vs).map itm) = Event.mk 3 at_ (at_ + t) v 0 (bs []) 0 :: evsA t (at_ + t) (vs.map itm) := by
      simp [evsA, evA, itm]
    refine ⟨a', D, ?_, ?_, ?_⟩
    · rw [hev]
      simp only [runA, hs, e1, List.nil_append, List.length_cons]
      rw [hmul, show n + 1 + (vs.length : Int) = n + ((vs.length + 1 : Nat) : Int) by omega, show at_ + t + t * (vs.length : Int) = at_ + (t + t * (vs.length : Int)) by omega]
    · rw [e2, addB_bytes d v (by omega) hv0]; simp
    · simp only [List.length_cons]; rw [hmul]; omega
theorem run_frame (c : Lin) (t : Int) (ht : 1 ≤ t ∧ t ≤ 1000) (s : State) (vs : List Int) (at_ g : Int) (hv : ∀ v, v ∈ vs → 0 ≤ v ∧ v ≤ 255) (hl : vs.length ≤ 4096) (hs : s.At ≤ at_ + g) (h0 : 0 ≤ at_) (hg : 0 ≤ g) (hb : at_ + g + t + t * (vs.length : Int) ≤ 1099511627776) :
    ∃ a' D, runA c s (evsA t at_ (Item.mk g 0 1 (bs []) 0 :: vs.map itm)) = (State.mk 1 a' (at_ + g) vs.length 0 (at_ + g + t + t * (vs.length : Int)) 0 D, compA c s) ∧ ofBytes D = vs ∧ a' ≤ at_ + g + t + t * (vs.length : Int) := by
  have hnn : 0 ≤ t * (vs.length : Int) := Int.mul_nonneg (by omega) (by omega)
  have hin : In s (Event.mk 4 (at_ + g) (at_ + g + t) 1 0 (bs []) 0) := by
    refine ⟨?_, hs, .inl rfl⟩
    unfold Vld
    dsimp only
    rw [show (bs []).size = 0 from rfl]
    omega
  have hst : stepA c s (Event.mk 4 (at_ + g) (at_ + g + t) 1 0 (bs []) 0) = (State.mk 1 (at_ + g) (at_ + g) 0 0 (at_ + g + t) 0 (bs []), compA c s) := by
    unfold stepA
    rw [if_pos hin, if_neg (by simp), if_pos (show (4 : Int) = 4 ∧ (1 : Int) = 1 by omega)]
  obtain ⟨a', D, e1, e2, e3⟩ := run_bytes c t ht (at_ + g) vs (bs []) (at_ + g + t) (at_ + g) 0 hv (by rw [show (bs []).size = 0 from rfl]; omega) (by omega) (by omega) (by omega)
  have hev : evsA t at_ (Item.mk g 0 1 (bs []) 0 :: vs.map itm) = Event.mk 4 (at_ + g) (at_ + g + t) 1 0 (bs []) 0 :: evsA t (at_ + g + t) (vs.map itm) := by
    simp [evsA, evA]
  refine ⟨a', D, ?_, ?_, e3⟩
  · rw [hev]
    simp only [runA, hst, e1, List.append_nil]
    rw [Int.zero_add]
  · rw [e2]; rfl
/-! ### The event of a frame that was sent -/
theorem xor64_all : (List.range 64).all (fun n => decide (0 ≤ xor64 (protA (n : Int))) && (decide (xor64 (protA (n : Int)) ≤ 255) && (decide (xor64 (protA (n : Int)) % 64 = (n : Int)) && decide (xor64 (protA (n : Int)) ≠ protA (n : Int))))) = true := by kernel_rfl
theorem xor1_all : (List.range 256).all (fun n => decide (0 ≤ xor1 (n : Int)) && (decide (xor1 (n : Int) ≤ 255) && decide (xor1 (n : Int) ≠ (n : Int)))) = true := by kernel_rfl
theorem xor64_facts (x : Int) (h : 0 ≤ x ∧ x < 64) : 0 ≤ xor64 (protA x) ∧ xor64 (protA x) ≤ 255 ∧ xor64 (protA x) % 64 = x ∧ xor64 (protA x) ≠ protA x := by
  obtain ⟨n, rfl⟩ := Int.eq_ofNat_of_zero_le h.1
  have := List.all_eq_true.1 xor64_all n (List.mem_range.2 (by omega))
  simp only [Bool.and_eq_true, decide_eq_true_eq] at this
  exact ⟨this.1, this.2.1, this.2.2.1, this.2.2.2⟩
theorem xor1_facts (x : Int) (h : 0 ≤ x ∧ x ≤ 255) : 0 ≤ xor1 x ∧ xor1 x ≤ 255 ∧ xor1 x ≠ x := by
  obtain ⟨n, rfl⟩ := Int.eq_ofNat_of_zero_le h.1
  have := List.all_eq_true.1 xor1_all n (List.mem_range.2 (by omega))
  simp only [Bool.and_eq_true, decide_eq_true_eq] at this
  exact ⟨this.1, this.2.1, this.2.2⟩
theorem pid_facts (x : Item) (h : 0 ≤ x.Value ∧ x.Value ≤ 63) : 0 ≤ pidA x ∧ pidA x ≤ 255 ∧ pidA x % 64 = x.Value ∧ (x.Fault = 2 → pidA x ≠ protA x.Value) ∧ (x.Fault ≠ 2 → pidA x = protA x.Value) := by
  have h1 := prot_facts x.Value (by omega)
  have h2 := xor64_facts x.Value (by omega)
  unfold pidA
  by_cases hf : x.Fault = 2
  · rw [if_pos hf]; exact ⟨h2.1, h2.2.1, h2.2.2.1, fun _ => h2.2.2.2, fun h => absurd hf h⟩
  · rw [if_neg hf]; exact ⟨h1.2.1, h1.2.2.1, h1.2.2.2, fun h => absurd h hf, fun _ => rfl⟩
theorem cs_facts (c : Lin) (x : Item) : 0 ≤ csA c x ∧ csA c x ≤ 255 ∧ (x.Fault = 3 → csA c x ≠ sumA c (pidA x) x.Data) ∧ (x.Fault ≠ 3 → csA c x = sumA c (pidA x) x.Data) := by
  have h1 := sumA_range c (pidA x) x.Data
  have h2 := xor1_facts _ h1
  unfold csA
  by_cases hf : x.Fault = 3
  · rw [if_pos hf]; exact ⟨h2.1, h2.2.1, fun _ => h2.2.2, fun h => absurd hf h⟩
  · rw [if_neg hf]; exact ⟨h1.1, h1.2, fun h => absurd h hf, fun _ => rfl⟩
theorem bytesA_ok (c : Lin) (x : Item) (h : OkI x) : ∀ v, v ∈ bytesA c x → 0 ≤ v ∧ v ≤ 255 := by
  intro v hv
  have hp := pid_facts x ⟨h.2.2.1, h.2.2.2.1⟩
  have hc := cs_facts c x
  unfold bytesA at hv
  simp only [List.mem_cons, List.mem_append, List.not_mem_nil, or_false] at hv
  rcases hv with rfl | rfl | hv | rfl
  · split <;> decide
  · omega
  · exact bytes_ofBytes _ _ hv
  · omega
/-- Four to eleven bytes, as the parts of a frame. -/
theorem parts (D : ByteArray) (p q w : Int) (d : ByteArray) (h : ofBytes D = p :: q :: (ofBytes d ++ [w])) (hd : 1 ≤ d.size ∧ d.size ≤ 8) : D.size = d.size + 3 ∧ byteAt D 0 = p ∧ byteAt D 1 = q ∧ D.extract 2 (D.size - 1) = d ∧ byteAt D ((D.size : Int) - 1) = w := by
  have hs : D.size = d.size + 3 := by rw [← ofBytes_length D, h]; simp [ofBytes_length]
  refine ⟨hs, by rw [byteAt_eq, h]; rfl, by rw [byteAt_eq, h]; rfl, ?_, ?_⟩
  · apply ofBytes_inj
    rw [ofBytes_extract, h, hs, show d.size + 3 - 1 = (ofBytes d).length + 2 by rw [ofBytes_length]; omega]
    simp
  · rw [byteAt_eq, h, hs, show (((d.size + 3 : Nat) : Int) - 1).toNat = (ofBytes d).length + 2 by rw [ofBytes_length]; omega]
    simp
theorem frame_sent (c : Lin) (x : Item) (hx : OkI x) (D : ByteArray) (h : ofBytes D = bytesA c x) (f t : Int) : frameA c f t D = Event.mk 5 f t x.Value 0 x.Data x.Fault := by
  have hp := pid_facts x ⟨hx.2.2.1, hx.2.2.2.1⟩
  have hc := cs_facts c x
  obtain ⟨p1, p2, p3, p4, p5⟩ := parts D _ _ _ _ h ⟨hx.2.2.2.2.1, hx.2.2.2.2.2.1⟩
  have hsz : 4 ≤ D.size ∧ D.size ≤ 11 := by have := hx.2.2.2.2.1; have := hx.2.2.2.2.2.1; omega
  unfold frameA fltA
  rw [if_pos hsz, p4, p5, p2, p3, hp.2.2.1]
  have hf : x.Fault = 0 ∨ x.Fault = 1 ∨ x.Fault = 2 ∨ x.Fault = 3 := by have := hx.2.2.2.2.2.2.1; have := hx.2.2.2.2.2.2.2.1; omega
  rcases hf with hf | hf | hf | hf
  · rw [if_neg (show ¬ x.Fault = 1 by omega), if_pos rfl, if_pos (hp.2.2.2.2 (by omega)), if_pos (hc.2.2.2 (by omega)), hf]
  · rw [if_pos hf, if_neg (by decide), hf]
  · rw [if_neg (show ¬ x.Fault = 1 by omega), if_pos rfl, if_neg (hp.2.2.2.1 hf), hf]
  · rw [if_neg (show ¬ x.Fault = 1 by omega), if_pos rfl, if_pos (hp.2.2.2.2 (by omega)), if_neg (hc.2.2.1 hf), hf]
noncomputable def expA (t : Int) : Int → List Item → List Event
  | _, [] => []
  | at_, x :: r => Event.mk 5 (at_ + x.Gap) (at_ + x.Gap + t * ((x.Data.size : Int) + 4)) x.Value 0 x.Data x.Fault :: expA t (at_ + x.Gap + t * ((x.Data.size : Int) + 4)) r
theorem expA_len (t : Int) : ∀ (a : List Item) (at_ : Int), (expA t at_ a).length = a.length
  | [], at_ => rfl
  | x :: a, at_ => by simp only [expA, List.length_cons, expA_len t a]
theorem to_bytes (t : Int) : ∀ (vs : List Int) (at_ : Int), toA t at_ (vs.map itm) = at_ + t * (vs.length : Int)
  | [], at_ => by simp [toA]
  | v :: vs, at_ => by
    simp only [List.map_cons, toA, itm, Int.add_zero]
    have := to_bytes t vs (at_ + t)
    rw [this, List.length_cons, show ((vs.length + 1 : Nat) : Int) = (vs.length : Int) + 1 by omega, Int.mul_add]; omega
theorem run_frames (c : Lin) (t : Int) (ht : 1 ≤ t ∧ t ≤ 1000) : ∀ (l : List Item) (s : State) (at_ : Int), AllOk l → s.At ≤ at_ → 0 ≤ at_ → at_ + (l.length : Int) * 1100000 ≤ 1099511627776 → (runA c s (evsA t at_ (l.flatMap (sendA c)))).2 ++ compA c (runA c s (evsA t at_ (l.flatMap (sendA c)))).1 = compA c s ++ expA t at_ l
  | [], s, at_, _, _, _, _ => by simp [evsA, runA, expA]
  | x :: l, s, at_, ha, hs, h0, hb => by
    have hx := ha.1
    simp only [List.length_cons] at hb
    have hg := hx.1
    have hg2 := hx.2.1
    have hd := hx.2.2.2.2.2.1
    have hlen : (bytesA c x).length = x.Data.size + 3 := by simp [bytesA, ofBytes_length]
    have hmul : t * ((x.Data.size : Int) + 4) = t + t * (((bytesA c x).length : Nat) : Int) := by
      rw [hlen, show ((x.Data.size : Int) + 4) = ((x.Data.size + 3 : Nat) : Int) + 1 by omega, Int.mul_add]; omega
    have hub : t * ((x.Data.size : Int) + 4) ≤ 1000 * 12 := Int.mul_le_mul ht.2 (by omega) (by omega) (by omega)
    have hlb : 0 ≤ t * ((x.Data.size : Int) + 4) := Int.mul_nonneg (by omega) (by omega)
    obtain ⟨a', D, e1, e2, e3⟩ := run_frame c t ht s (bytesA c x) at_ x.Gap (bytesA_ok c x hx) (by omega) (by omega) h0 hg (by omega)
    have hto : toA t at_ (sendA c x) = at_ + x.Gap + t * ((x.Data.size : Int) + 4) := by
      unfold sendA
      rw [toA, to_bytes, hmul]
      dsimp only; omega
    rw [List.flatMap_cons, evsA_append, runA_append, hto]
    unfold sendA at *
    rw [e1]
    dsimp only
    have ih := run_frames c t ht l (State.mk 1 a' (at_ + x.Gap) (bytesA c x).length 0 (at_ + x.Gap + t + t * (((bytesA c x).length : Nat) : Int)) 0 D) (at_ + x.Gap + t * ((x.Data.size : Int) + 4)) ha.2 (by dsimp only; omega) (by omega) (by omega)
    unfold sendA at ih
    rw [List.append_assoc, ih]
    have hfr := frame_sent c x hx D e2 (at_ + x.Gap) (at_ + x.Gap + t + t * (((bytesA c x).length : Nat) : Int))
    have hex : expA t at_ (x :: l) = Event.mk 5 (at_ + x.Gap) (at_ + x.Gap + t * ((x.Data.size : Int) + 4)) x.Value 0 x.Data x.Fault :: expA t (at_ + x.Gap + t * ((x.Data.size : Int) + 4)) l := rfl
    have hco : compA c (State.mk 1 a' (at_ + x.Gap) (bytesA c x).length 0 (at_ + x.Gap + t + t * (((bytesA c x).length : Nat) : Int)) 0 D) = [frameA c (at_ + x.Gap) (at_ + x.Gap + t + t * (((bytesA c x).length : Nat) : Int)) D] := rfl
    rw [hex, hco, hfr, hmul, show at_ + x.Gap + (t + t * (((bytesA c x).length : Nat) : Int)) = at_ + x.Gap + t + t * (((bytesA c x).length : Nat) : Int) by omega]
    simp
theorem gaps_l4 (M : Nat) (l : List Item) (hl : l.length ≤ 50000) : ∀ (r : List Item) (i m : Nat), l.drop i = r → r.length < m → (∀ x, x ∈ r → 0 ≤ x.Gap ∧ x.Gap ≤ 1048576) → law27_gaps_l4 M m (i : Int) l = some true
  | r, i, 0, _, hm, _ => by omega
  | [], i, m + 1, hr, hm, _ => by
    have := drop_nil hr
    simp only [law27_gaps_l4, b_law27_gaps_l4]
    rw [bif_neg (by omega)]
  | x :: r, i, m + 1, hr, hm, hg => by
    obtain ⟨h1, h2, h3, h4, h5⟩ := drop_cons hr dflt_Item
    have hx := hg x (by simp)
    simp only [List.length_cons] at hm
    simp only [law27_gaps_l4, b_law27_gaps_l4, h1]
    rw [bif_pos (by omega), bif_pos (by omega), bif_pos (by omega), bif_neg (by omega), bif_pos (by omega), bif_pos (by omega), bif_neg (by omega), next_i i (by omega)]
    exact gaps_l4 M l hl r (i + 1) m h3 (by omega) (fun y hy => hg y (by simp [hy]))
theorem send_gaps (c : Lin) (l : List Item) (h : AllOk l) : ∀ y, y ∈ l.flatMap (sendA c) → 0 ≤ y.Gap ∧ y.Gap ≤ 1048576 := by
  intro y hy
  obtain ⟨x, hx, hy⟩ := List.mem_flatMap.1 hy
  have ho := all_mem l h x hx
  unfold sendA at hy
  rcases List.mem_cons.1 hy with rfl | hy
  · exact ⟨ho.1, ho.2.1⟩
  · obtain ⟨v, _, rfl⟩ := List.mem_map.1 hy
    exact ⟨Int.le_refl 0, show (0 : Int) ≤ 1048576 by omega⟩
theorem trips_l15 (M : Nat) (t : Int) (ht : 1 ≤ t ∧ t ≤ 1000) (l : List Item) (hl : l.length ≤ 1100) (out : List Event) (hlen : out.length = l.length) : ∀ (r : List Item) (i m : Nat) (at_ : Int), l.drop i = r → out.drop i = expA t at_ r → r.length < m → AllOk r → 0 ≤ at_ → at_ + (r.length : Int) * 1100000 ≤ 1099511627776 → law27_LinRoundTrips_l15 M m t at_ (i : Int) l out = some true
  | r, i, 0, at_, _, _, hm, _, _, _ => by omega
  | [], i, m + 1, at_, hr, ho, hm, _, _, _ => by
    have := drop_nil hr
    simp only [law27_LinRoundTrips_l15, b_law27_LinRoundTrips_l15]
    rw [bif_neg (by omega)]
  | x :: r, i, m + 1, at_, hr, ho, hm, ha, h0, hb => by
    obtain ⟨h1, h2, h3, h4, h5⟩ := drop_cons hr dflt_Item
    obtain ⟨g1, g2, g3, g4, g5⟩ := drop_cons ho dflt_Event
    have hx := ha.1
    have hg := hx.1
    have hg2 := hx.2.1
    have hd := hx.2.2.2.2.2.1
    simp only [List.length_cons] at hm hb
    have hub : t * ((x.Data.size : Int) + 4) ≤ 1000 * 12 := Int.mul_le_mul ht.2 (by omega) (by omega) (by omega)
    have hlb : 0 ≤ t * ((x.Data.size : Int) + 4) := Int.mul_nonneg (by omega) (by omega)
    simp only [law27_LinRoundTrips_l15, b_law27_LinRoundTrips_l15, h1, g1]
    rw [i64_ok (n := (x.Data.size : Int) + 4) (by omega), i64_ok (n := t * ((x.Data.size : Int) + 4)) (by omega), i64_ok (n := at_ + x.Gap) (by omega), i64_ok (n := at_ + x.Gap + t * ((x.Data.size : Int) + 4)) (by omega)]
    simp only [beq_self_eq_true, bytes_beq_self, Bool.and_self, Bool.not_true, Bool.cond_false, bif_pos (show (i : Int) < (l.length : Int) by omega), bif_pos (show (0 : Int) ≤ (i : Int) by omega), bif_pos (show (i : Int) < (out.length : Int) by omega), next_i i (by omega)]
    exact trips_l15 M t ht l hl out hlen r (i + 1) m _ h3 g3 (by omega) ha.2 (by omega) (by omega)
theorem errA_ne : ∀ (l : List Item), ¬ AllOk l → errA l ≠ 0
  | [], h => absurd trivial h
  | x :: r, h => by
    have he : errA (x :: r) = if OkI x then errA r else chkA x := rfl
    rw [he]
    by_cases hk : OkI x
    · rw [if_pos hk]; exact errA_ne r (fun hr => h ⟨hk, hr⟩)
    · rw [if_neg hk]; exact fun h0 => hk ((chk_ok x).1 h0)
theorem LinRoundTrips_true (c : Lin) (l : List Item) (t : Int) (hc : wf_Lin c) (hl : (∀ x, x ∈ l → wf_Item x) ∧ l.length * Try.prog.bytesOf 45 ≤ 140737488351232) (ht : IntKind.i64.min ≤ t ∧ t ≤ IntKind.i64.max) : ∃ M, law27_LinRoundTrips M c l t = some true := by
  refine ⟨20000, ?_⟩
  obtain ⟨b, hb, hb2⟩ := few_is 20000 l (by omega)
  have hlen := enc_len c l
  simp only [law27_LinRoundTrips, b_law27_LinRoundTrips, lives_true 20000 (by omega), hb, Option.bind_some, Bool.not_true, Bool.cond_false, encode_is 20000 (by omega) c l]
  cases b with
  | false => rfl
  | true =>
    have hl2 := hb2 rfl
    simp only [Bool.not_true, Bool.cond_false, bif_if, bne_if]
    by_cases h1 : t < 1
    · rw [if_pos h1]
    rw [if_neg h1]
    by_cases h2 : t > 1000
    · rw [if_pos h2]
    rw [if_neg h2]
    by_cases he : (encA c l).2 = 0
    · rw [if_pos he]
      unfold encA at he hlen ⊢
      by_cases hl3 : l.length > 1024
      · rw [if_pos hl3] at he; exact absurd he (by decide)
      rw [if_neg hl3] at he hlen ⊢
      by_cases ha : AllOk l
      · rw [if_pos ha] at hlen ⊢
        dsimp only at hlen ⊢
        have hfl := flat_len c l ha
        have hgaps := send_gaps c l ha
        have e1 : law27_gaps 20000 (l.flatMap (sendA c)) (IntKind.i64.wrap (12 * (l.length : Int))) = some true := by
          simp only [law27_gaps, b_law27_gaps]
          rw [i64_ok (by omega), bif_neg (by omega)]
          exact gaps_l4 20000 _ (by omega) (l.flatMap (sendA c)) 0 20000 rfl (by omega) hgaps
        have e2 := events_is 20000 t (by omega) (l.flatMap (sendA c)) (by omega) (by omega) hgaps
        have e3 := evsA_len t (l.flatMap (sendA c)) 0
        have e4 : decA c (evsA t 0 (l.flatMap (sendA c))) = expA t 0 l := by
          unfold decA
          rw [run_frames c t (by omega) l s0 0 ha (by decide) (by omega) (by omega)]
          rfl
        have e5 := expA_len t l 0
        rw [e1, Option.bind_some, e2, Option.bind_some, decode_is 20000 (by omega) c _ (by omega) (by omega), Option.bind_some, e4]
        simp only [Bool.not_true, Bool.cond_false, e5, if_true]
        exact trips_l15 20000 t (by omega) l (by omega) _ e5 l 0 20000 0 rfl rfl (by omega) ha (by omega) (by omega)
      · rw [if_neg ha] at he
        exact absurd he (errA_ne l ha)
    · rw [if_neg he]
      unfold encA at he ⊢
      by_cases hl3 : l.length > 1024
      · rw [if_pos hl3]; rfl
      rw [if_neg hl3] at he ⊢
      by_cases ha : AllOk l
      · rw [if_pos ha] at he; exact absurd rfl he
      · rw [if_neg ha]; rfl
end Go.Abs.K
