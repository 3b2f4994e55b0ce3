/- EACH OPERATION OF THE MODEL DOES WHAT IS TOLD OF IT (twelfth part: new rows). -/
import Derived.Test.YtjfndepkgahkiaaDoorA14
set_option linter.unusedVariables false
set_option linter.unusedSimpArgs false
namespace Go.Abs
open Go.RowKit
section
variable {C : Codec} {P : Program} {G : C.Good P} {w0 : Base C} {σ : St C} {as : List Act} {a : Act} {w : World} {pl : Pl} {n : Nat} {H : Nat → Blk C} {o : Oper} {r : Res C}

theorem elem_spec {t e : TypeId} (h : elemOf P t = some e) : P.underlying t = some (.slice e) := by
  unfold elemOf at h
  split at h
  · rename_i e' he
    injection h with h; subst h; exact he
  · cases h
theorem plain_good {x : Fl} (h : x.cells.all scPlain = true) : x.good = true := by
  cases x with
  | one s => cases s <;> first | rfl | simp [Fl.cells, scPlain] at h
  | agg cs => rfl
theorem dec_cells (G : C.Good P) {e : TypeId} {x : Fl} {v : Value} {y : C.Elt e} (hx : FR pl x v) (h : C.dec e x.cells = some y) : C.has e = true ∧ v.cells.toList = (C.enc e y).map Sc.val ∧ v.cells.size = C.sz e := by
  obtain ⟨h1, h2⟩ := G.dec _ _ _ h
  have hp := G.plain e y h1
  rw [h2] at hp
  have h3 := plain_eq (fl_cells hx (plain_good hp)) hp
  refine ⟨h1, by rw [h3, h2], ?_⟩
  rw [← Array.length_toList, h3, List.length_map, ← h2, G.len e y h1]
theorem lit_spec (G : C.Good P) {e : TypeId} : ∀ {l : List (Nat × Fl)} {ps : List (Nat × Value)} {m : Nat} {xs : List (C.Elt e)}, R2 (PR pl) l ps → litElems e m l = some xs →
    ps = ((ps.map (·.2)).zipIdx m).map (fun x => (x.2, x.1)) ∧ (∀ v ∈ ps.map (·.2), v.cells.size = C.sz e) ∧ ((ps.map (·.2)).flatMap fun v => v.cells.toList) = flat C e xs ∧ xs.length = l.length
  | [], ps, m, xs, hp, h => by
    have := hp.nil_inv; subst this
    simp only [litElems, Option.some.injEq] at h; subst h
    exact ⟨rfl, by simp, rfl, rfl⟩
  | (j, x) :: l, ps, m, xs, hp, h => by
    obtain ⟨⟨j', v⟩, ps', rfl, ⟨hj, hx⟩, hp'⟩ := hp.cons_inv
    simp only at hj; subst hj
    simp only [litElems] at h
    obtain ⟨h1, h2⟩ := cond_none h
    have h1 := Nat.eq_of_beq_eq_true h1
    subst h1
    split at h2
    · rename_i y ys hy hys
      injection h2 with h2; subst h2
      obtain ⟨h3, h4, h5, h6⟩ := lit_spec G hp' hys
      obtain ⟨_, h7, h8⟩ := dec_cells G hx hy
      refine ⟨?_, ?_, ?_, by simp [h6]⟩
      · simp only [List.map_cons, List.zipIdx_cons, List.cons.injEq, true_and]
        exact h3
      · intro u hu
        simp only [List.map_cons, List.mem_cons] at hu
        rcases hu with rfl | hu
        · exact h8
        · exact h4 u hu
      · simp only [List.map_cons, List.flatMap_cons]
        rw [h5, h7, flat_cons]
    · cases h2
/-- A row that the call has made. -/
theorem out_newRow (h : Rel G w0 σ as a w pl) (hn : σ.blk n = .gone) (hlen : n < σ.H.length) {e : TypeId} {ow : Bool} {xs : List (C.Elt e)} {v : Value} {w' : World} (hg : w.grownBy w' none)
    (hB : BlkR G 0 (pl.upd n v) w' n (.row e ow xs)) (hf : ∀ g, blkOf v = some g → w.heap.size ≤ g) (hrun : (execOp a.eval o).run P w = .ok (.value v) w') : Out G w0 σ as a w o { v := .fl (.one (.sl n)), up := [(n, .row e ow xs)] } := by
  refine ⟨v, w', _, .inl hrun, rel_new h o.dst (pv := v) hn hlen hg hB hf ?_⟩
  have : ∃ a c, v = .slice a xs.length c := by
    cases ow with
    | true =>
      obtain ⟨_, v', h1, h2⟩ := hB
      simp only [Pl.upd, if_true, Option.some.injEq] at h1
      subst h1
      obtain ⟨a, c, h3, _⟩ := own_reads' h2
      exact ⟨a, c, h3⟩
    | false =>
      obtain ⟨_, a, c, h1, _⟩ := hB
      simp only [Pl.upd, if_true, Option.some.injEq] at h1
      exact ⟨a, c, h1⟩
  obtain ⟨a, c, rfl⟩ := this
  exact ⟨⟨a, xs.length, c, if_pos rfl, rfl⟩, rfl⟩
theorem out_buildSlice (h : Rel G w0 σ as a w pl) (hn : σ.blk n = .gone) (hlen : n < σ.H.length) {t : TypeId} {len : Nat} {ps : Array (Nat × Operand)} (ho : o.op = .buildSlice t len ps) (hk : coreK P n H (.buildSlice t len ps) ((ps.toList.map (·.2)).map σ.ev) some = some r) : Out G w0 σ as a w o r := by
  simp only [coreK] at hk
  split at hk
  · rename_i e l he hl
    split at hk
    · rename_i xs hxs
      obtain ⟨h1, hk2⟩ := cond_none hk
      clear hk
      injection hk2 with hk2; subst hk2
      simp only [Bool.and_eq_true] at h1
      obtain ⟨⟨hhas, h1⟩, h2⟩ := h1
      have h1 := Nat.eq_of_beq_eq_true h1
      have h2 : len * C.sz e ≤ 65536 := Nat.le_of_ble_eq_true h2
      have hps := parts_spec h hl
      obtain ⟨h3, h4, h5, h6⟩ := lit_spec G hps hxs
      obtain ⟨i, z, hi, hz, hzs⟩ := G.zero e hhas
      obtain ⟨hsz, hpos, _⟩ := G.sz _ hhas
      have hcell : i.size = C.sz e := by rw [← hsz]; simp [Program.cellsOf, hi]
      have hu := elem_spec he
      have hlx : len = xs.length := by rw [h6, h1]
      have hbase := base_le h
      have fin : ∀ cells : Array Value, cells.toList = flat C e xs → (Instr.buildSlice t len (ps.map fun (i, x) => (i, a.eval x))).run P w = .ok (.slice (some ⟨w.heap.size, 0, none⟩) len len) (w.alloc (.cells cells e)) →
          Out G w0 σ as a w o { v := .fl (.one (.sl n)), up := [(n, .row e true xs)] } := fun cells hc hrun => by
        refine out_newRow h hn hlen (v := .slice (some ⟨w.heap.size, 0, none⟩) len len) (w' := w.alloc (.cells cells e)) (World.grownBy_alloc w _ none) ⟨hhas, _, if_pos rfl, ?_⟩ (fun g hg => by simp only [blkOf, Option.some.injEq] at hg; omega) ?_
        · have := World.ownsRow_lit (base := 0) (e := e) (size := C.sz e) w cells len hbase (by simp only [maxLen]; have : len ≤ len * C.sz e := Nat.le_mul_of_pos_right _ hpos; omega) (by rw [← Array.length_toList, hc, flat_len G hhas, hlx])
          rw [hc] at this
          rw [← hlx]
          exact this
        · simp only [execOp, ho]
          rw [Sem.run_bind, hrun]
          rfl
      by_cases hlz : len = 0
      · have hl0 : l = [] := List.eq_nil_of_length_eq_zero (by omega)
        have hx0 : xs = [] := List.eq_nil_of_length_eq_zero (by omega)
        subst hl0
        have hp0 : (ps.toList.map fun p => (p.1, a.eval p.2)) = [] := hps.nil_inv
        have hp0' : ps.toList = [] := by simpa using hp0
        have hp1 : ps = #[] := by simpa using hp0'
        refine fin #[] (by rw [hx0]; rfl) ?_
        subst hp1
        simp [Instr.buildSlice, run_underlying hu, run_sizeOf hi, hlz, Instr.fill, newRow, Array.range_zero']
      · have hf := Great.fill_whole (s := i.size) (by omega) ((ps.toList.map fun p => (p.1, a.eval p.2)).map (·.2)) ((Array.range (len * i.size)).map (z.cells[· % z.cells.size]!)) (by rw [hcell]; exact h4)
          (by simp only [List.length_map, Array.size_map, Array.size_range]
              have := hps.1
              simp only [List.length_map] at this
              rw [← this, h1])
        rw [← h3, h5] at hf
        refine fin (flat C e xs).toArray (by simp) (run_buildSlice w t e len _ _ i z hu hi hz (by rw [hcell]; omega) (by rw [hcell]; intro hh; rcases Nat.mul_eq_zero.1 hh with h7 | h7 <;> omega) ?_)
        simpa using hf
    · cases hk
  · cases hk
theorem out_makeSlice (h : Rel G w0 σ as a w pl) (hn : σ.blk n = .gone) (hlen : n < σ.H.length) {t : TypeId} {x y : Operand} (ho : o.op = .makeSlice t x y) (hk : coreK P n H (.makeSlice t x y) [σ.ev x, σ.ev y] some = some r) : Out G w0 σ as a w o r := by
  have hx := ev_avr h x
  have hy := ev_avr h y
  generalize σ.ev x = ax at hk hx
  generalize σ.ev y = ay at hk hy
  rcases ax with (s | _) | _ | _ <;> try (exfalso; simp [coreK] at hk; done)
  cases s <;> try (exfalso; simp [coreK] at hk; done)
  rename_i kl l
  rcases ay with (s | _) | _ | _ <;> try (exfalso; simp [coreK] at hk; done)
  cases s <;> try (exfalso; simp [coreK] at hk; done)
  rename_i kc c
  cases kl <;> try (exfalso; simp [coreK] at hk; done)
  cases kc <;> try (exfalso; simp [coreK] at hk; done)
  simp only [coreK] at hk
  split at hk
  · rename_i e he
    split at hk
    · rename_i z' hz'
      obtain ⟨h1, hk2⟩ := cond_none hk
      obtain ⟨h2, hk3⟩ := cond_none hk2
      obtain ⟨h3, hk4⟩ := cond_none hk3
      clear hk hk2 hk3
      injection hk4 with hk4; subst hk4
      simp only [decide_eq_true_eq] at h1 h2 h3
      cases hzo : zeroOf P e with
      | none => rw [hzo] at hz'; cases hz'
      | some zf =>
        rw [hzo] at hz'
        simp only [Option.bind_some] at hz'
        obtain ⟨i, v, hi, hiz, hg, rfl⟩ := zeroOf_spec hzo
        obtain ⟨hhas, hzc, hzs⟩ := dec_cells G (flOf_fr pl v) hz'
        obtain ⟨hsz, hpos, hby⟩ := G.sz _ hhas
        have hcell : i.size = C.sz e := by rw [← hsz]; simp [Program.cellsOf, hi]
        have hbytes : i.bytes = P.bytesOf e := by simp [Program.bytesOf, hi]
        have hu := elem_spec he
        have hc0 : 0 ≤ c := by omega
        have hcn : ((c.toNat : Nat) : Int) = c := Int.toNat_of_nonneg hc0
        have h4 : c ≤ c * (P.bytesOf e : Int) := by
          have := Int.mul_le_mul_of_nonneg_left (show (1 : Int) ≤ (P.bytesOf e : Int) by omega) hc0
          rwa [Int.mul_one] at this
        have hrun := run_make (P := P) w t e i v hu hi hiz .i64 .i64 l c h1 h2 (by rw [hbytes, Int.mul_comm]; omega) (by omega)
        refine out_newRow h hn hlen (v := .slice (some ⟨w.heap.size, 0, none⟩) l.toNat c.toNat) (w' := w.alloc (.cells (madeCells v.cells (c.toNat * i.size)) e)) (World.grownBy_alloc w _ none) ⟨hhas, _, if_pos rfl, ?_⟩ (fun g hg => by simp only [blkOf, Option.some.injEq] at hg; omega) (by simp only [execOp, ho, fr_int hx, fr_int hy]; rw [Sem.run_bind, hrun]; rfl)
        rw [List.length_replicate]
        refine ⟨by rw [flat_len G hhas, List.length_replicate], .inr ⟨w.heap.size, c.toNat, _, rfl, base_le h, heap_alloc_new w _, by omega, by simp only [maxLen]; omega, by rw [size_madeCells, hcell], ?_⟩⟩
        apply List.ext_getElem?
        intro m
        have hle : l.toNat * C.sz e ≤ c.toNat * C.sz e := Nat.mul_le_mul_right _ (by omega)
        by_cases hm : m < l.toNat * C.sz e
        · rw [List.getElem?_take, if_pos hm, Array.getElem?_toList]
          have hmc : m < c.toNat * i.size := by rw [hcell]; omega
          have hmz : m % v.cells.size < v.cells.size := Nat.mod_lt _ (by omega)
          have e1 : (madeCells v.cells (c.toNat * i.size))[m]? = v.cells[m % v.cells.size]? := by
            simp only [madeCells]
            rw [Array.getElem?_map, Array.getElem?_range, if_pos hmc, Option.map_some]
            rw [Array.getElem?_eq_getElem hmz, getElem!_pos v.cells _ hmz]
          rw [e1]
          have hdm := Nat.div_add_mod m (C.sz e)
          have hk : m / C.sz e < l.toNat := Nat.div_lt_of_lt_mul (by rw [Nat.mul_comm]; exact hm)
          have hj : m % C.sz e < C.sz e := Nat.mod_lt _ hpos
          rw [Nat.mul_comm] at hdm
          rw [hzs]
          generalize m / C.sz e = k at hdm hk
          generalize m % C.sz e = j at hdm hj
          subst hdm
          rw [flat_get G hhas _ k j z' (by rw [List.length_replicate]; exact hk) hj]
          have : (List.replicate l.toNat z').getD k z' = z' := by
            rw [List.getD_eq_getElem?_getD, List.getElem?_replicate, if_pos hk]; rfl
          rw [this, ← hzc, Array.getElem?_toList]
        · rw [List.getElem?_take, if_neg hm, List.getElem?_eq_none (by rw [flat_len G hhas, List.length_replicate]; omega)]
    · cases hk
  · cases hk
theorem out_convert_new (h : Rel G w0 σ as a w pl) (hn : σ.blk n = .gone) (hlen : n < σ.H.length) {s d : TypeId} {x : Operand} (ho : o.op = .convert s d x) {s0 : ByteArray} {e : TypeId} (hs0 : σ.ev x = .fl (.one (.str s0))) (hd : P.underlying d = some (.slice e))
    (hk : coreK P n H (.convert s d x) [σ.ev x] some = some r) : Out G w0 σ as a w o r := by
  have hx := ev_avr h x
  rw [hs0] at hk hx
  simp only [coreK] at hk
  cases hs : P.underlying s with
  | none => rw [hs] at hk; simp at hk
  | some S =>
    rw [hs, hd] at hk
    cases S <;> try (exfalso; simp [rowOf] at hk; done)
    simp only at hk
    split at hk
    · rename_i f he hf
      obtain ⟨h1, hk2⟩ := cond_none hk
      clear hk
      injection hk2 with hk2; subst hk2
      simp only [decide_eq_true_eq] at h1
      obtain ⟨hhas, hs1, hfb⟩ := G.bytes _ f hf
      have hfb := hfb s0
      have hfl : (f s0).length = s0.size := by
        have := congrArg List.length hfb
        simp only [List.length_map, Array.length_toList] at this
        exact this
      have hrun := run_bytes_of_string (P := P) w s d e s0 hs hd he
      have hge : s0.size ≤ grownCap w s0.size 0 e := grownCap_ge w s0.size 0 e
      refine out_newRow h hn hlen (v := .slice (some ⟨w.heap.size, 0, none⟩) s0.size (grownCap w s0.size 0 e)) (w' := w.drew.alloc (.cells (bytesRow s0 (grownCap w s0.size 0 e)) e ((bytesRow s0 (grownCap w s0.size 0 e)).size, (bytesRow s0 (grownCap w s0.size 0 e)).size + 1))) ⟨rfl, rfl, rfl, by simp, fun k hk _ => heap_alloc_old w.drew _ k hk⟩
        ⟨hhas, some ⟨w.heap.size, 0, none⟩, grownCap w s0.size 0 e, by rw [hfl]; exact if_pos rfl, by omega, by omega, (fun hh => by cases hh), (fun ad had => by injection had with had; subst had; simp), .inr ⟨_, rfl, fun j u hu => ?_⟩⟩ (fun g hg => by simp only [blkOf, Option.some.injEq] at hg; omega)
        (by simp only [execOp, ho, fr_str hx]; rw [Sem.run_bind, hrun]; rfl)
      have hflat : flat C e (f s0) = s0.data.toList.map fun b => Value.int .u8 (b.toNat : Int) := by
        have := flat_bytes (e := e) (ns := s0.data.toList.map fun b => (b.toNat : Int)) (l := f s0) (by rw [hfb, List.map_map]; rfl)
        rw [this, List.map_map]; rfl
      rw [hflat] at hu
      rw [Addr.add_mid, Nat.zero_add]
      have hj : j < s0.data.size := by
        have := (List.getElem?_eq_some_iff.1 hu).1
        simpa using this
      have e1 := World.cell?_alloc_mark w.drew (bytesRow s0 (grownCap w s0.size 0 e)) e ((bytesRow s0 (grownCap w s0.size 0 e)).size, (bytesRow s0 (grownCap w s0.size 0 e)).size + 1) j
      refine Eq.trans e1 ?_
      rw [bytesRow_at s0 _ j hj, ← hu, List.getElem?_map, Array.getElem?_toList, Array.getElem?_eq_getElem hj]
      rfl
    · cases hk
theorem out_convert_mark (h : Rel G w0 σ as a w pl) (hS : Seen H σ.blk) {s d : TypeId} {x : Operand} (ho : o.op = .convert s d x) {b : Nat} {e1 e2 : TypeId} (hx0 : σ.ev x = .fl (.one (.sl b))) (hs : P.underlying s = some (.slice e1)) (hd : P.underlying d = some (.slice e2))
    (hk : coreK P n H (.convert s d x) [σ.ev x] some = some r) : Out G w0 σ as a w o r := by
  have hx := ev_avr h x
  rw [hx0] at hk hx
  simp only [coreK, hs, hd] at hk
  split at hk
  · rename_i e' xs he hsd hb
    obtain ⟨h1, hk2⟩ := cond_none hk
    clear hk
    injection hk2 with hk2; subst hk2
    have h1 : 0 < xs.length := by simpa using h1
    have hsd := Nat.eq_of_beq_eq_true hsd
    subst hsd
    rw [hs] at hd
    injection hd with hd; injection hd with hd; subst hd
    have hown : own (σ.blk b) = true := by rw [hS.row hb]; rfl
    have hB := h.mem.blk b
    rw [hS.row hb] at hB
    obtain ⟨hhas, v0, hp, hrow⟩ := hB
    obtain ⟨a0, n0, c0, h5, hv⟩ := fr_sl hx
    rw [hp] at h5
    injection h5 with h5; subst h5
    rcases hrow.2 with ⟨hh, hz⟩ | ⟨g, cap, cur, hh, hb1, hg, hnc, hcm, hcs, htake⟩
    · omega
    · simp only [Value.slice.injEq] at hh
      obtain ⟨rfl, rfl, rfl⟩ := hh
      have hlt := (Array.getElem?_eq_some_iff.1 hg).1
      have hg' : (w.freeze ⟨g, cur.size, none⟩ 1).heap[g]? = some (.cells cur e' (cur.size, cur.size + 1)) := by
        simp [World.freeze, Array.getElem?_modify, hg]
      have hgr : w.grownBy (w.freeze ⟨g, cur.size, none⟩ 1) (some g) := ⟨rfl, rfl, rfl, by simp [World.freeze], fun k hk hne => by
        have : g ≠ k := fun e => hne (by rw [e])
        simp [World.freeze, Array.getElem?_modify, this]⟩
      have hrun : (execOp a.eval o).run P w = .ok (.value (.slice (some ⟨g, 0, none⟩) xs.length c0)) (w.freeze ⟨g, cur.size, none⟩ 1) := by
        simp only [execOp, ho, hv]
        have hsh : w.shape? g = some (e', cur.size) := by simp [World.shape?, hg]
        simp [convert, run_underlying hs, run_underlying he, markStringish, hsh]
      refine ⟨_, _, pl, .inl hrun, rel_turn h o.dst hown (by simpa [plBlk, hp, blkOf] using hgr) ⟨hhas, some ⟨g, 0, none⟩, c0, hp, hnc, by simp only [maxLen] at hcm; omega, (fun hh => by cases hh), (fun ad had => by injection had with had; subst had; exact Nat.lt_of_lt_of_le hlt hgr.size), .inr ⟨_, rfl, fun j u hu => ?_⟩⟩ ⟨⟨some ⟨g, 0, none⟩, xs.length, c0, hp, rfl⟩, rfl⟩⟩
      rw [Addr.add_mid, Nat.zero_add, cell_of_row _ g j cur e' _ hg']
      have hj : j < xs.length * C.sz e' := by rw [← hrow.1]; exact (List.getElem?_eq_some_iff.1 hu).1
      rw [← htake, List.getElem?_take, if_pos hj] at hu
      simpa using hu
  · cases hk
end
end Go.Abs
