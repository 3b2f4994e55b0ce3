/- OCTET: the laws, plainly. -/
import Derived.Test.YtdimnfdmnhiadaaP3
set_option linter.unusedVariables false
set_option linter.unusedSimpArgs false
namespace Go.Abs.K
open Go Go.Abs Go.Proofs

theorem puts_true (b : List Int) (n i : Int) (hb : b.length ≤ 1048576) (n0 : 0 ≤ n) (n1 : n ≤ 18446744073709551615) (i0 : -9223372036854775808 ≤ i) (i1 : i ≤ 9223372036854775807) : ∃ M, law02_OctetPuts M b n i = some true := by
  refine ⟨100, ?_⟩
  have ht := putText 100 b (toBytes b) (by rw [toBytes_size]; omega) (by omega) (by rw [toBytes_size]; omega)
  simp only [law02_OctetPuts, b_law02_OctetPuts, putUint 100 b n n0 n1 (by omega) (by omega), rputUint 100 b n n0 n1 (by omega) (by omega), putInt 100 b i i0 i1 (by omega) (by omega), rputInt 100 b i i0 i1 (by omega) (by omega), ht.1, ht.2, Option.bind_some, beq_self_eq_true, Bool.not_true, Bool.cond_false, Bool.cond_true, awake_true 100 (by omega)]
theorem tkU_range (b : ByteArray) (a : Int) (h : (takeU b a).2.2 = 0) : 0 ≤ a ∧ 0 ≤ (takeU b a).1 ∧ (takeU b a).1 < 18446744073709551616 ∧ a < (takeU b a).2.1 ∧ (takeU b a).2.1 ≤ b.size ∧ (takeU b a).2.1 ≤ a + 10 ∧ leb 9 (takeU b a).1 = ((ofBytes b).drop a.toNat).take ((takeU b a).2.1 - a).toNat := by
  unfold takeU at h ⊢
  by_cases c : a < 0 ∨ a > b.size
  · rw [if_pos c] at h; simp at h
  · rw [if_neg c] at h ⊢
    have hB : Bytes ((ofBytes b).drop a.toNat) := fun x hx => bytes_ofBytes b x (List.mem_of_mem_drop hx)
    have hr := tk_range ((ofBytes b).drop a.toNat) 0 0 hB (by omega) (by omega) (by simp)
    have hlen : ((ofBytes b).drop a.toNat).length = b.size - a.toNat := by rw [List.length_drop, ofBytes_length]
    generalize tk ((ofBytes b).drop a.toNat) 0 0 = r at *
    unfold tkR at h ⊢
    by_cases c2 : r.2.2 = 0
    · rw [if_pos c2] at h ⊢
      obtain ⟨r1, r2, r3, r4, r5, r6, _⟩ := hr c2
      dsimp only
      refine ⟨by omega, r1, r2, by omega, by omega, by omega, ?_⟩
      rw [show (a + (r.2.1 : Int) - a).toNat = r.2.1 by omega]
      simpa using r6
    · rw [if_neg c2] at h; exact absurd h c2
theorem tkU_bad (b : ByteArray) (a : Int) (h : (takeU b a).2.2 ≠ 0) : (takeU b a).1 = 0 ∧ (takeU b a).2.1 = 0 := by
  unfold takeU at h ⊢
  split
  · exact ⟨rfl, rfl⟩
  · rename_i c
    rw [if_neg c] at h
    unfold tkR at h ⊢
    split
    · rename_i c2; rw [if_pos c2] at h; exact absurd rfl h
    · exact ⟨rfl, rfl⟩
theorem shortest_true (b : ByteArray) (a : Int) (hb : b.size ≤ 140737488351232) (a0 : -9223372036854775808 ≤ a) (a1 : a ≤ 9223372036854775807) : ∃ M, law02_OctetShortest M b a = some true := by
  refine ⟨b.size + 100, ?_⟩
  have hr := tkU_range b a
  have hbad := tkU_bad b a
  have ht := takeUint (b.size + 100) b a hb (by omega)
  have hlb : ∀ x, Bytes ((ofBytes b).drop x) := fun x y hy => bytes_ofBytes b y (List.mem_of_mem_drop hy)
  generalize takeU b a = r at *
  simp only [law02_OctetShortest, b_law02_OctetShortest, ht, Option.bind_some, awake_true (b.size + 100) (by omega)]
  by_cases c : r.2.2 = 0
  · obtain ⟨h0, h1, h2, h3, h4, h5, h6⟩ := hr c
    have hp := putUint (b.size + 100) [] r.1 h1 (by omega) (by omega) (by simp)
    have e1 : (r.2.2 != 0) = false := by simp [c]
    have hcut : ofBytes (toBytes ([] ++ leb 9 r.1)) = ofBytes (b.extract a.toNat r.2.1.toNat) := by
      rw [List.nil_append, ofBytes_toBytes (leb_bytes 9 _ h1 (u64_pow (by omega))), h6, ofBytes_extract, List.drop_take]
      congr 1; omega
    rw [i64_ok (n := r.2.1 - a) (by omega)]
    simp only [e1, Bool.cond_false, hp, Option.bind_some, str_beq, hcut, decide_true, Bool.cond_true,
      show ¬ a < 0 by omega, show ¬ r.2.1 ≤ a by omega, show ¬ r.2.1 > (b.size : Int) by omega, show ¬ r.2.1 - a > 10 by omega, decide_false,
      show 0 ≤ r.2.1 by omega, show r.2.1 ≤ (b.size : Int) by omega, h0, show a ≤ r.2.1 by omega]
  · obtain ⟨h1, h2⟩ := hbad c
    have e1 : (r.2.2 != 0) = true := by simp [c]
    simp only [e1, Bool.cond_true, h1, h2, beq_self_eq_true]
theorem takes_true (b : ByteArray) (a : Int) (hb : b.size ≤ 140737488351232) (a0 : -9223372036854775808 ≤ a) (a1 : a ≤ 9223372036854775807) : ∃ M, law02_OctetTakes M b a = some true := by
  refine ⟨b.size + 100, ?_⟩
  have ht := takeUint (b.size + 100) b a hb (by omega)
  have hrt := rtakeUint (b.size + 100) b a hb (by omega)
  have hr := tkU_range b a
  generalize takeU b a = r at *
  have hi : ∃ x : Int × Int × Int, octet_TakeInt (b.size + 100) b a = some x ∧ ref02_TakeInt (b.size + 100) b a = some x := by
    simp only [octet_TakeInt, b_octet_TakeInt, ref02_TakeInt, b_ref02_TakeInt, ht, hrt, Option.bind_some]
    by_cases c : r.2.2 = 0
    · have e1 : (r.2.2 != 0) = false := by simp [c]
      obtain ⟨h0, h1, h2, _⟩ := hr c
      simp only [e1, Bool.cond_false]
      rw [IntWalk.rem_in _ _ h1]
      rcases Int.emod_two_eq r.1 with h | h
      · simp [h]
      · simp [h]
    · have e1 : (r.2.2 != 0) = true := by simp [c]
      simp only [e1, Bool.cond_true]
      exact ⟨_, rfl, rfl⟩
  obtain ⟨x, hx1, hx2⟩ := hi
  simp only [law02_OctetTakes, b_law02_OctetTakes, ht, hrt, hx1, hx2, Option.bind_some, bne_self_eq_false, beq_self_eq_true, Bool.cond_false, Bool.cond_true, awake_true (b.size + 100) (by omega)]
theorem size_eq (M : Nat) (b : ByteArray) (a most : Int) (hb : b.size ≤ 140737488351232) (hM : b.size < M) : octet_size M b a most = ref02_TakeCount M b a most := by
  simp only [octet_size, b_octet_size, ref02_TakeCount, b_ref02_TakeCount, takeUint M b a hb hM, rtakeUint M b a hb hM]
/-- A size that is read lies inside. -/
theorem size_ok (M : Nat) (b : ByteArray) (a most : Int) (hb : b.size ≤ 140737488351232) (hM : b.size < M) : ∃ r : Int × Int × Int, octet_size M b a most = some r ∧ (r.2.2 = 0 → 0 ≤ r.1 ∧ 0 ≤ r.2.1 ∧ r.2.1 + r.1 ≤ b.size) := by
  have ht := takeUint M b a hb hM
  have hr := tkU_range b a
  generalize takeU b a = q at *
  simp only [octet_size, b_octet_size, ht, Option.bind_some]
  by_cases c : q.2.2 = 0
  · obtain ⟨h0, h1, h2, h3, h4, h5, h6⟩ := hr c
    have e1 : (q.2.2 != 0) = false := by simp [c]
    have e2 : IntKind.u64.wrap (IntKind.i64.wrap ((b.size : Int) - q.2.1)) = (b.size : Int) - q.2.1 := by rw [i64_ok (by omega), u64_ok (by omega)]
    simp only [e1, Bool.cond_false, e2]
    by_cases c1 : most < 0
    · simp [c1]
    · by_cases c2 : q.1 > IntKind.u64.wrap most
      · simp [c1, c2]
      · by_cases c3 : q.1 > (b.size : Int) - q.2.1
        · simp [c1, c2, c3]
        · simp only [c1, c2, c3, decide_false, Bool.cond_false]
          refine ⟨_, rfl, fun _ => ?_⟩
          dsimp only
          rw [i64_ok (by omega)]
          omega
  · have e1 : (q.2.2 != 0) = true := by simp [c]
    simp only [e1, Bool.cond_true]
    exact ⟨_, rfl, fun h => absurd h c⟩
theorem takeText_eq (M : Nat) (b : ByteArray) (a most : Int) (hb : b.size ≤ 140737488351232) (hM : b.size < M) : ∃ x, octet_TakeText M b a most = some x ∧ ref02_TakeText M b a most = some x := by
  obtain ⟨r, hr, hok⟩ := size_ok M b a most hb hM
  have hr' : ref02_TakeCount M b a most = some r := by rw [← size_eq M b a most hb hM, hr]
  simp only [octet_TakeText, b_octet_TakeText, ref02_TakeText, b_ref02_TakeText, hr, hr', Option.bind_some]
  by_cases c : r.2.2 = 0
  · obtain ⟨h0, h1, h2⟩ := hok c
    have e1 : (r.2.2 != 0) = false := by simp [c]
    rw [i64_ok (by omega)]
    simp only [e1, Bool.cond_false, h1, h2, show 0 ≤ r.2.1 + r.1 by omega, show r.2.1 ≤ r.2.1 + r.1 by omega, decide_true, Bool.cond_true]
    exact ⟨_, rfl, rfl⟩
  · have e1 : (r.2.2 != 0) = true := by simp [c]
    simp only [e1, Bool.cond_true]
    exact ⟨_, rfl, rfl⟩
theorem limits_true (b : ByteArray) (a most : Int) (hb : b.size ≤ 140737488351232) : ∃ M, law02_OctetLimits M b a most = some true := by
  refine ⟨b.size + 100, ?_⟩
  obtain ⟨x, hx1, hx2⟩ := takeText_eq (b.size + 100) b a most hb (by omega)
  obtain ⟨r, hr, _⟩ := size_ok (b.size + 100) b a most hb (by omega)
  have hr' : ref02_TakeCount (b.size + 100) b a most = some r := by rw [← size_eq _ b a most hb (by omega), hr]
  have hc : octet_TakeCount (b.size + 100) b a most = some r := by
    simp only [octet_TakeCount, b_octet_TakeCount, hr, Option.bind_some]
  simp only [law02_OctetLimits, b_law02_OctetLimits, hx1, hx2, hc, hr', Option.bind_some, bne_self_eq_false, beq_self_eq_true, Bool.not_true, Bool.cond_false, Bool.cond_true, awake_true (b.size + 100) (by omega)]
theorem apart_true (b : List Int) (n : Int) (s : ByteArray) (hB : Bytes b) (n0 : 0 ≤ n) (n1 : n ≤ 18446744073709551615) : ∃ M, law02_OctetApart M b n s = some true := by
  refine ⟨2200000, ?_⟩
  have ha := awake_true 2200000 (by omega)
  simp only [law02_OctetApart, b_law02_OctetApart, ha, Option.bind_some]
  by_cases c1 : (b.length : Int) > 1048576
  · simp [c1]
  · by_cases c2 : (s.size : Int) > 1048576
    · simp [c1, c2]
    · simp only [c1, c2, decide_false, Bool.cond_false]
      rw [IntWalk.u64_quo _ _ (by omega)]
      have hl1 := leb_length 9 n
      have hl2 := leb_length 9 (n / 2)
      have hLB := leb_bytes 9 n n0 (u64_pow n1)
      have hBB : Bytes (b ++ leb 9 n) := fun x hx => by exact (List.mem_append.1 hx).elim (hB x) (hLB x)
      have hs1 : (toBytes (b ++ leb 9 n)).size = b.length + (leb 9 n).length := by rw [toBytes_size, List.length_append]
      have hs2 : (toBytes (b ++ leb 9 n) ++ s).size = b.length + (leb 9 n).length + s.size := by rw [size_append, hs1]
      have t1 := takeUint 2200000 (toBytes (b ++ leb 9 n)) b.length (by omega) (by omega)
      have t2 := takeUint 2200000 (toBytes (b ++ leb 9 n) ++ s) b.length (by omega) (by omega)
      rw [takeU_leb _ b [] n n0 n1 (by rw [ofBytes_toBytes hBB, List.append_nil])] at t1
      rw [takeU_leb _ b (ofBytes s) n n0 n1 (by rw [ofBytes_append, ofBytes_toBytes hBB])] at t2
      have d1 : ¬ ((b ++ leb 9 n).length : Int) ≤ (b.length : Int) := by simp; omega
      have d2 : ¬ ((b ++ leb 9 (n / 2)).length : Int) ≤ (b.length : Int) := by simp; omega
      have d3 : (b.length : Int) < ((b ++ leb 9 (n / 2)).length : Int) := by simp; omega
      have d4 : ¬ ((toBytes (b ++ leb 9 n)).size + s.size : Int) > 9223372036854775807 := by rw [hs1]; omega
      simp only [putUint 2200000 b n n0 n1 (by omega) (by omega), putUint 2200000 b (n / 2) (by omega) (by omega) (by omega) (by omega), Option.bind_some, d1, d2, d3, d4, t1, t2, decide_true, decide_false, Bool.cond_true, Bool.cond_false, beq_self_eq_true, Bool.not_true]
theorem trips_true (b : List Int) (n i : Int) (s t : ByteArray) (hB : Bytes b) (n0 : 0 ≤ n) (n1 : n ≤ 18446744073709551615) (i0 : -9223372036854775808 ≤ i) (i1 : i ≤ 9223372036854775807) : ∃ M, law02_OctetRoundTrips M b n i s t = some true := by
  refine ⟨4000000, ?_⟩
  have ha := awake_true 4000000 (by omega)
  simp only [law02_OctetRoundTrips, b_law02_OctetRoundTrips, ha, Option.bind_some]
  by_cases c1 : (b.length : Int) > 1048576
  · simp [c1]
  by_cases c2 : (s.size : Int) > 1048576
  · simp [c1, c2]
  by_cases c3 : (t.size : Int) > 1048576
  · simp [c1, c2, c3]
  simp only [c1, c2, c3, decide_false, Bool.cond_false]
  have hz := zig_range i i0 i1
  have hl1 := leb_length 9 n
  have hl2 := leb_length 9 (zig i)
  have hl3 := leb_length 9 s.size
  have p1 := putUint 4000000 b n n0 n1 (by omega) (by omega)
  have p2 := putInt 4000000 (b ++ leb 9 n) i i0 i1 (by omega) (by simp; omega)
  have p3 := (putText 4000000 (b ++ leb 9 n ++ leb 9 (zig i)) s (by omega) (by omega) (by simp; omega)).1
  simp only [p1, p2, p3, Option.bind_some]
  have hBB : Bytes (b ++ leb 9 n ++ leb 9 (zig i) ++ leb 9 s.size ++ ofBytes s) := fun x hx => by
    simp only [List.mem_append] at hx
    rcases hx with (((h | h) | h) | h) | h
    · exact hB x h
    · exact leb_bytes 9 n n0 (u64_pow n1) x h
    · exact leb_bytes 9 _ hz.1 (u64_pow hz.2) x h
    · exact leb_bytes 9 _ (by omega) (u64_pow (by omega)) x h
    · exact bytes_ofBytes s x h
  have hall : ofBytes (toBytes (b ++ leb 9 n ++ leb 9 (zig i) ++ leb 9 s.size ++ ofBytes s) ++ t) = b ++ leb 9 n ++ leb 9 (zig i) ++ leb 9 s.size ++ ofBytes s ++ ofBytes t := by
    rw [ofBytes_append, ofBytes_toBytes hBB]
  have hz1 : (toBytes (b ++ leb 9 n ++ leb 9 (zig i) ++ leb 9 s.size ++ ofBytes s)).size = b.length + (leb 9 n).length + (leb 9 (zig i)).length + (leb 9 s.size).length + s.size := by
    rw [toBytes_size]; simp [ofBytes_length]; omega
  have hz2 := size_append (toBytes (b ++ leb 9 n ++ leb 9 (zig i) ++ leb 9 s.size ++ ofBytes s)) t
  rw [hz1] at hz2
  generalize hA : toBytes (b ++ leb 9 n ++ leb 9 (zig i) ++ leb 9 s.size ++ ofBytes s) = A at *
  have d0 : ¬ ((A.size + t.size : Int)) > 9223372036854775807 := by omega
  have d1 : ¬ ((A ++ t).size : Int) < (b.length : Int) := by omega
  have d2 : (b.length : Int) ≤ ((A ++ t).size : Int) := by omega
  have d3 : ofBytes ((A ++ t).extract 0 ((b.length : Int)).toNat) = ofBytes (toBytes b) := by
    rw [ofBytes_extract, hall, ofBytes_toBytes hB, Int.toNat_natCast]
    simp [List.append_assoc]
  have t1 := takeUint 4000000 (A ++ t) b.length (by omega) (by omega)
  rw [takeU_leb _ b (leb 9 (zig i) ++ leb 9 s.size ++ ofBytes s ++ ofBytes t) n n0 n1 (by rw [hall]; simp [List.append_assoc])] at t1
  have t2 := takeUint 4000000 (A ++ t) ((b ++ leb 9 n).length : Nat) (by omega) (by omega)
  rw [takeU_leb _ (b ++ leb 9 n) (leb 9 s.size ++ ofBytes s ++ ofBytes t) (zig i) hz.1 hz.2 (by rw [hall]; simp [List.append_assoc])] at t2
  have t3 := takeUint 4000000 (A ++ t) ((b ++ leb 9 n ++ leb 9 (zig i)).length : Nat) (by omega) (by omega)
  rw [takeU_leb _ (b ++ leb 9 n ++ leb 9 (zig i)) (ofBytes s ++ ofBytes t) (s.size : Int) (by omega) (by omega) (by rw [hall]; simp [List.append_assoc])] at t3
  simp only [List.length_append, Int.natCast_add] at t2 t3
  have i2 : octet_TakeInt 4000000 (A ++ t) ((b.length : Int) + (leb 9 n).length) = some (i, (b.length : Int) + (leb 9 n).length + (leb 9 (zig i)).length, 0) := by
    simp only [octet_TakeInt, b_octet_TakeInt, t2, Option.bind_some, bne_self_eq_false, Bool.cond_false]
    rw [IntWalk.rem_in _ _ hz.1, IntWalk.u64_quo _ _ (by omega)]
    unfold zig at hz ⊢
    by_cases hi : i < 0
    · simp only [hi, if_true] at hz ⊢
      rw [show (2 * -(i + 1) + 1) % 2 = 1 by omega, show (2 * -(i + 1) + 1) / 2 = -(i + 1) by omega]
      simp only [beq_self_eq_true, Bool.cond_true]
      rw [i64_ok (n := -(i + 1)) (by omega), i64_ok (n := 0 - -(i + 1)) (by omega), i64_ok (by omega)]
      simp only [Option.some.injEq, Prod.mk.injEq, and_true]; omega
    · simp only [hi, if_false] at hz ⊢
      rw [show (2 * i) % 2 = 0 by omega, show (2 * i) / 2 = i by omega]
      have : ((0 : Int) == 1) = false := rfl
      simp only [this, Bool.cond_false]
      rw [i64_ok (by omega)]
  have i3 : octet_TakeText 4000000 (A ++ t) ((b.length : Int) + (leb 9 n).length + (leb 9 (zig i)).length) 1048576 = some (s, (b.length : Int) + (leb 9 n).length + (leb 9 (zig i)).length + (leb 9 s.size).length + s.size, 0) := by
    have e1 : IntKind.u64.wrap 1048576 = 1048576 := by decide
    have hsz : octet_size 4000000 (A ++ t) ((b.length : Int) + (leb 9 n).length + (leb 9 (zig i)).length) 1048576 = some ((s.size : Int), (b.length : Int) + (leb 9 n).length + (leb 9 (zig i)).length + (leb 9 s.size).length, 0) := by
      simp only [octet_size, b_octet_size, t3, Option.bind_some, bne_self_eq_false, Bool.cond_false, e1]
      rw [i64_ok (n := ((A ++ t).size : Int) - _) (by omega), u64_ok (by omega), i64_ok (n := (s.size : Int)) (by omega)]
      simp only [show ¬ (1048576 : Int) < 0 by omega, show ¬ (s.size : Int) > 1048576 by omega, decide_false, Bool.cond_false]
      rw [show decide ((s.size : Int) > ((A ++ t).size : Int) - ((b.length : Int) + (leb 9 n).length + (leb 9 (zig i)).length + (leb 9 s.size).length)) = false by simp; omega]
      rfl
    simp only [octet_TakeText, b_octet_TakeText, hsz, Option.bind_some, bne_self_eq_false, Bool.cond_false]
    rw [i64_ok (by omega)]
    have hcut : (A ++ t).extract ((b.length : Int) + (leb 9 n).length + (leb 9 (zig i)).length + (leb 9 s.size).length).toNat ((b.length : Int) + (leb 9 n).length + (leb 9 (zig i)).length + (leb 9 s.size).length + s.size).toNat = s := by
      apply ofBytes_inj
      rw [ofBytes_extract, hall]
      rw [show ((b.length : Int) + (leb 9 n).length + (leb 9 (zig i)).length + (leb 9 s.size).length + s.size).toNat = (b ++ leb 9 n ++ leb 9 (zig i) ++ leb 9 s.size ++ ofBytes s).length by simp [ofBytes_length]; omega]
      rw [List.take_left]
      rw [show ((b.length : Int) + (leb 9 n).length + (leb 9 (zig i)).length + (leb 9 s.size).length).toNat = (b ++ leb 9 n ++ leb 9 (zig i) ++ leb 9 s.size).length by simp; omega]
      rw [List.drop_left]
    rw [hcut]
    simp only [show 0 ≤ (b.length : Int) + (leb 9 n).length + (leb 9 (zig i)).length + (leb 9 s.size).length + s.size by omega, show (b.length : Int) + (leb 9 n).length + (leb 9 (zig i)).length + (leb 9 s.size).length + s.size ≤ ((A ++ t).size : Int) by omega, show 0 ≤ (b.length : Int) + (leb 9 n).length + (leb 9 (zig i)).length + (leb 9 s.size).length by omega, show (b.length : Int) + (leb 9 n).length + (leb 9 (zig i)).length + (leb 9 s.size).length ≤ (b.length : Int) + (leb 9 n).length + (leb 9 (zig i)).length + (leb 9 s.size).length + s.size by omega, decide_true, Bool.cond_true]
  have hend : IntKind.i64.wrap (((A ++ t).size : Int) - (t.size : Int)) = (b.length : Int) + (leb 9 n).length + (leb 9 (zig i)).length + (leb 9 s.size).length + s.size := by
    rw [i64_ok (by omega)]; omega
  simp only [d0, d1, d2, str_beq, d3, t1, i2, i3, hend, Option.bind_some, decide_true, decide_false, Bool.cond_true, Bool.cond_false, Bool.not_true, bne_self_eq_false]
end Go.Abs.K
namespace Go.Abs.K
open Go Go.Abs Go.Proofs
theorem OctetShortest_true (b : ByteArray) (a : Int) (hb : b.size ≤ 140737488351232) (ha : IntKind.i64.min ≤ a ∧ a ≤ IntKind.i64.max) : ∃ M, law02_OctetShortest M b a = some true := by
  rw [i64_min, i64_max] at ha
  exact shortest_true b a hb ha.1 ha.2
theorem OctetTakes_true (b : ByteArray) (a : Int) (hb : b.size ≤ 140737488351232) (ha : IntKind.i64.min ≤ a ∧ a ≤ IntKind.i64.max) : ∃ M, law02_OctetTakes M b a = some true := by
  rw [i64_min, i64_max] at ha
  exact takes_true b a hb ha.1 ha.2
theorem OctetLimits_true (b : ByteArray) (a most : Int) (hb : b.size ≤ 140737488351232) (ha : IntKind.i64.min ≤ a ∧ a ≤ IntKind.i64.max) (hm : IntKind.i64.min ≤ most ∧ most ≤ IntKind.i64.max) : ∃ M, law02_OctetLimits M b a most = some true :=
  limits_true b a most hb
theorem bytes_of (b : List Int) (h : ∀ x, x ∈ b → IntKind.u8.min ≤ x ∧ x ≤ IntKind.u8.max) : Bytes b := fun x hx => by
  have := h x hx
  rwa [u8_min, u8_max] at this
theorem OctetApart_true (b : List Int) (n : Int) (s : ByteArray) (hb : (∀ x, x ∈ b → IntKind.u8.min ≤ x ∧ x ≤ IntKind.u8.max) ∧ b.length * Try.prog.bytesOf 5 ≤ 140737488351232) (hn : IntKind.u64.min ≤ n ∧ n ≤ IntKind.u64.max) (hs : s.size ≤ 140737488351232) : ∃ M, law02_OctetApart M b n s = some true := by
  rw [u64_min, u64_max] at hn
  exact apart_true b n s (bytes_of b hb.1) hn.1 hn.2
theorem OctetRoundTrips_true (b : List Int) (n i : Int) (s t : ByteArray) (hb : (∀ x, x ∈ b → IntKind.u8.min ≤ x ∧ x ≤ IntKind.u8.max) ∧ b.length * Try.prog.bytesOf 5 ≤ 140737488351232) (hn : IntKind.u64.min ≤ n ∧ n ≤ IntKind.u64.max) (hi : IntKind.i64.min ≤ i ∧ i ≤ IntKind.i64.max) (hs : s.size ≤ 140737488351232) (ht : t.size ≤ 140737488351232) : ∃ M, law02_OctetRoundTrips M b n i s t = some true := by
  rw [u64_min, u64_max] at hn
  rw [i64_min, i64_max] at hi
  exact trips_true b n i s t (bytes_of b hb.1) hn.1 hn.2 hi.1 hi.2
end Go.Abs.K
