/- EACH OPERATION OF THE MODEL DOES WHAT IS TOLD OF IT (ninth part: loads, variables, stores). -/
import Derived.Test.YtjfndepkgahkiaaDoorA11
set_option linter.unusedVariables false
set_option linter.unusedSimpArgs false
namespace Go.Abs
open Go.RowKit
section
variable {C : Codec} {P : Program} {G : C.Good P} {w0 : Base C} {σ : St C} {as : List Act} {a : Act} {w : World} {pl : Pl} {n : Nat} {H : Nat → Blk C} {o : Oper} {r : Res C}

theorem getD_get {α : Type} (xs : List α) (i : Nat) (d : α) (h : i < xs.length) : xs[i]? = some (xs.getD i d) := by
  rw [List.getD_eq_getElem?_getD, List.getElem?_eq_getElem h]; rfl
/-- Where a pointer points to, what lies there. -/
theorem peek_reads (hS : Seen H σ.blk) (hm : Mem G w0 pl σ.blk w) {s : Sc} {v : Value} {cs : List Sc} {off : Nat} (hv : FR pl (.one s) v) (hp : peek H s = some (cs, off)) :
    ∃ g base vs, v = .pointer (some ⟨g, base + off, none⟩) ∧ R2 (CR pl) cs vs ∧ ∀ j u, vs[j]? = some u → w.cell? ⟨g, base + j, none⟩ = some u := by
  unfold peek at hp
  split at hp
  · rename_i b off'
    split at hp
    · rename_i t cs' hb
      injection hp with hp; injection hp with h1 h2; subst h1; subst h2
      have hb' := hm.blk b
      rw [hS.box hb] at hb'
      obtain ⟨g, vs, h1, h2, h3, h4⟩ := hb'
      obtain ⟨g', h5, h6⟩ := fr_ptr hv
      rw [h1] at h5
      injection h5 with h5; injection h5 with h5; injection h5 with h5; injection h5 with h5 _ _; subst h5
      refine ⟨g, 0, vs.toList, by rw [h6, Nat.zero_add], h4, fun j u hu => ?_⟩
      rw [Nat.zero_add, cell_of_row w g j vs t (0, 0) h3]
      simpa using hu
    · cases hp
  · rename_i b sz i off'
    split at hp
    · rename_i e ow xs hb
      obtain ⟨h0, hp2⟩ := cond_none hp
      have h0 := Nat.eq_of_beq_eq_true h0
      subst h0
      injection hp2 with hp2; injection hp2 with h1 h2; subst h1; subst h2
      obtain ⟨hhas, ao, c, h1, h2, h3, h4, h5⟩ := row_info hm (hS.row hb)
      obtain ⟨ad, n', c', h6, h7, h8, h9, h10⟩ := hv.1
      rw [h1] at h6
      injection h6 with h6; injection h6 with h6 h6n h6c
      subst h6; subst h6n
      refine ⟨ad.block, ad.off + i.toNat * C.sz e, (C.enc e (xs.getD i.toNat (C.dflt e))).map Sc.val, h10, plain_cells (G.plain e _ hhas), fun j u hu => ?_⟩
      have hj : j < C.sz e := by
        have := (List.getElem?_eq_some_iff.1 hu).1
        rwa [List.length_map, G.len e _ hhas] at this
      rw [← flat_get G hhas xs i.toNat j (C.dflt e) h9 hj] at hu
      rcases h5 with h5 | ⟨ad', e5, h5⟩
      · rw [h5] at hu; cases hu
      · injection e5 with e5; subst e5
        have := h5 _ u hu
        rw [addr_at h7] at this
        rw [Nat.add_assoc]
        exact this
    · cases hp
  · cases hp
theorem run_loadVal {g o' : Nat} {t : TypeId} {T : TypeDesc} {vs : List Value} (hT : P.underlying t = some T) (hl : o' + P.cellsOf t ≤ vs.length) (h1 : isAggB P t = false → P.cellsOf t = 1) {base : Nat}
    (hc : ∀ j u, vs[j]? = some u → w.cell? ⟨g, base + j, none⟩ = some u) : (Instr.loadAt t (.pointer (some ⟨g, base + o', none⟩))).run P w = .ok (valOf P t ((vs.drop o').take (P.cellsOf t))) w := by
  cases hb : isAggB P t with
  | true =>
    obtain ⟨i, hi, hs, _⟩ := ty_info hT
    have hlen : ((vs.drop o').take (P.cellsOf t)).length = P.cellsOf t := by simp only [List.length_take, List.length_drop, Nat.min_def]; split <;> omega
    have hrow : T.isRow = true := by unfold isAggB at hb; rw [hT] at hb; cases T <;> simp at hb <;> rfl
    have := run_loadAt_mid (P := P) w g (base + o') t ((vs.drop o').take (P.cellsOf t)) T (fun j v hv => by
      have hj : j < P.cellsOf t := by have := (List.getElem?_eq_some_iff.1 hv).1; omega
      rw [List.getElem?_take, if_pos hj, List.getElem?_drop] at hv
      rw [Nat.add_assoc]
      exact hc _ v hv) hT hrow (by rw [hi, hlen, hs]; rfl)
    simpa [valOf, hb] using this
  | false =>
    have h2 := h1 hb
    have h3 : o' < vs.length := by omega
    have h4 : vs[o']? = some vs[o'] := List.getElem?_eq_getElem h3
    have h5 : (vs.drop o').take (P.cellsOf t) = [vs[o']] := by
      rw [h2, List.drop_eq_getElem_cons h3]
      rfl
    rw [h5]
    simp only [valOf, hb, Bool.false_eq_true, if_false, List.headD_cons]
    have h6 := hc o' _ h4
    simp only [Instr.loadAt, Instr.sureAddr, loadVar, Sem.run_bind, Sem.run_pure, Result.andThen_ok, run_isAgg t hT, hb, Bool.false_eq_true, if_false]
    rw [run_load, h6]
theorem out_load (h : Rel G w0 σ as a w pl) (hS : Seen H σ.blk) {t : TypeId} {x : Operand} (ho : o.op = .load t x) (hk : coreK P n H (.load t x) [σ.ev x] some = some r) : Out G w0 σ as a w o r := by
  have hx := ev_avr h x
  generalize σ.ev x = ax at hk hx
  rcases ax with (s | _) | _ | _ <;> try (exfalso; simp [coreK] at hk; done)
  simp only [coreK] at hk
  split at hk
  · rename_i cs off hp
    split at hk
    · rename_i v hc
      injection hk with hk; subst hk
      obtain ⟨g, base, vs, h1, h2, h3⟩ := peek_reads hS h.mem hx hp
      obtain ⟨T, hT, hl, hfr, h4⟩ := cut_sound h2 hc
      refine out_pure h (v := valOf P t ((vs.drop off).take (P.cellsOf t))) ?_ hfr
      simp only [execOp, ho, h1]
      rw [Sem.run_bind, run_loadVal hT hl (fun hb => (h4 hb).1) h3]
      rfl
    · cases hk
  · cases hk

/-! ### Variables -/
theorem base_le (h : Rel G w0 σ as a w pl) : 0 ≤ w.heap.size := Nat.zero_le _
theorem out_newVar (h : Rel G w0 σ as a w pl) (hn : σ.blk n = .gone) (hlen : n < σ.H.length) {t : TypeId} {x : Fl} {v : Value} (hx : FR pl x v) (hg : x.good = true)
    (hrun : (execOp a.eval o).run P w = .ok (.value (.pointer (some ⟨w.heap.size, 0, none⟩))) (w.alloc (.cells v.cells t))) : Out G w0 σ as a w o { v := .fl (.one (.ptr n 0)), up := [(n, .box t x.cells)] } := by
  refine ⟨_, _, _, .inl hrun, rel_new h o.dst (pv := .pointer (some ⟨w.heap.size, 0, none⟩)) hn hlen (World.grownBy_alloc w _ none) ?_ ?_ ?_⟩
  · have hpn : pl n = none := by have := h.mem.blk n; rw [hn] at this; exact this
    refine ⟨w.heap.size, v.cells, by simp [Pl.upd], base_le h, heap_alloc_new w _, ?_⟩
    have h1 := (Turns.fresh hpn (.pointer (some ⟨w.heap.size, 0, none⟩))).cells (fl_cells hx hg)
    simpa using h1
  · intro g hg
    simp only [blkOf, Option.some.injEq] at hg
    omega
  · exact ⟨⟨w.heap.size, by simp [Pl.upd], rfl⟩, rfl⟩
theorem out_alloc (h : Rel G w0 σ as a w pl) (hn : σ.blk n = .gone) (hlen : n < σ.H.length) {t : TypeId} (ho : o.op = .alloc t) (hk : coreK P n H (.alloc t) [] some = some r) : Out G w0 σ as a w o r := by
  simp only [coreK] at hk
  split at hk
  · rename_i z hz
    injection hk with hk; subst hk
    obtain ⟨i, v, hi, hiz, hg, rfl⟩ := zeroOf_spec hz
    refine out_newVar h hn hlen (v := v) (flOf_fr pl v) hg ?_
    simp [execOp, ho, Instr.alloc, zeroValue, typeInfo, hi, hiz, newVar, newRow]
  · cases hk
theorem out_box (h : Rel G w0 σ as a w pl) (hn : σ.blk n = .gone) (hlen : n < σ.H.length) {t : TypeId} {x : Operand} (ho : o.op = .box t x) (hk : coreK P n H (.box t x) [σ.ev x] some = some r) : Out G w0 σ as a w o r := by
  have hx := ev_avr h x
  generalize σ.ev x = ax at hk hx
  rcases ax with f | _ | _ <;> try (exfalso; simp [coreK] at hk; done)
  simp only [coreK] at hk
  obtain ⟨h1, hk2⟩ := cond_none hk
  injection hk2 with hk2; subst hk2
  simp only [Bool.and_eq_true] at h1
  refine out_newVar h hn hlen (v := a.eval x) hx h1.1 ?_
  simp [execOp, ho, Instr.box, newVar, newRow]

/-! ### Stores -/
theorem setCells_row {g : Nat} {t : TypeId} : ∀ (vs : List Value) (o : Nat) (w : World) (cur : Array Value), w.heap[g]? = some (.cells cur t (0, 0)) →
    ∃ cur', (w.setCells g o vs).heap[g]? = some (.cells cur' t (0, 0)) ∧ cur'.size = cur.size ∧ (∀ k, cur'[k]? = if o ≤ k ∧ k < o + vs.length ∧ k < cur.size then vs[k - o]? else cur[k]?) ∧ w.grownBy (w.setCells g o vs) (some g)
  | [], o, w, cur, h => ⟨cur, h, rfl, fun k => by rw [if_neg (by simp only [List.length_nil]; omega)], ⟨rfl, rfl, rfl, Nat.le_refl _, fun _ _ _ => rfl⟩⟩
  | v :: vs, o, w, cur, h => by
    have h1 := heap_setCell_same w g o cur t v h
    obtain ⟨cur', h2, h3, h4, h5⟩ := setCells_row vs (o + 1) (w.setCell ⟨g, o, none⟩ v) _ h1
    refine ⟨cur', h2, by rw [h3]; simp, fun k => ?_, ?_⟩
    · rw [h4 k]
      simp only [Array.size_setIfInBounds, List.length_cons]
      by_cases c1 : k = o
      · subst c1
        rw [if_neg (by omega)]
        by_cases c2 : k < cur.size
        · rw [if_pos ⟨Nat.le_refl _, by omega, c2⟩]
          simp [c2]
        · rw [if_neg (by omega)]
          simp [c2]
      · by_cases c2 : o + 1 ≤ k ∧ k < o + 1 + vs.length ∧ k < cur.size
        · rw [if_pos c2, if_pos (by omega)]
          have : k - o = (k - (o + 1)) + 1 := by omega
          rw [this, List.getElem?_cons_succ]
        · rw [if_neg c2, if_neg (by omega)]
          simp [Array.getElem?_setIfInBounds, Ne.symm c1]
    · refine World.grownBy.trans (b := w.setCell ⟨g, o, none⟩ v) ⟨rfl, rfl, rfl, by simp, fun k _ hk => heap_setCell_other w ⟨g, o, none⟩ k v (fun e => hk (by simp [e]))⟩ h5
theorem run_storeVal {g o' : Nat} {t t' : TypeId} {x : Fl} {v : Value} {cur : Array Value} (hh : w.heap[g]? = some (.cells cur t' (0, 0))) (hx : FR pl x v) (hg : x.good = true) (hl : x.cells.length = P.cellsOf t) (hpos : 0 < P.cellsOf t)
    (hin : o' + x.cells.length ≤ cur.size) : (Instr.storeAt t (.pointer (some ⟨g, o', none⟩)) v).run P w = .ok () (w.setCells g o' v.cells.toList) := by
  have h1 := fl_cells hx hg
  have hlen : v.cells.toList.length = x.cells.length := h1.1.symm
  obtain ⟨i, hi⟩ : ∃ i, P.info? t = some i := by
    cases hi : P.info? t with
    | none => simp [Program.cellsOf, hi] at hpos
    | some i => exact ⟨i, rfl⟩
  have hs : i.size = P.cellsOf t := by simp [Program.cellsOf, hi]
  have := run_storeCells_cells (P := P) g o' v.cells.toList 0 w
    (fun j hj => by
      rw [Nat.add_zero, cell_of_row w g _ cur t' (0, 0) hh, Array.getElem?_eq_getElem (by omega)]
      rfl)
    (fun j hj => frozen_of_row w g _ cur t' hh)
    (cells_fr hx hg)
  have hsz : v.cells.size = i.size := by rw [hs, ← hl, ← hlen]; simp
  rw [Nat.add_zero] at this
  simp only [Instr.storeAt, Instr.sureAddr, storeVar, Sem.run_bind, Sem.run_pure, Result.andThen_ok, run_sizeOf hi, hsz, ne_eq, not_true_eq_false, if_false]
  exact this
end
end Go.Abs
