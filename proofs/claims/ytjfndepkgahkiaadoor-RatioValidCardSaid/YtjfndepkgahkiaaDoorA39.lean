/- EACH OPERATION OF THE MODEL DOES WHAT IS TOLD OF IT: maps that the call itself has made. -/
import Derived.Test.YtjfndepkgahkiaaDoorA17
import Derived.MapKept
set_option linter.unusedVariables false
set_option linter.unusedSimpArgs false
namespace Go.Abs
open Go.RowKit Go.MapKept
section
variable {C : Codec} {P : Program} {G : C.Good P} {w0 : Base C} {σ : St C} {as : List Act} {a : Act} {w : World} {pl : Pl} {n : Nat} {H : Nat → Blk C} {o : Oper} {r : Res C} {e : TypeId}

theorem mapOf_spec {t : TypeId} (h : mapOf P t = some e) : ∃ kt, P.underlying t = some (.map kt e) ∧ P.underlying kt = some (.int .i64) := by
  unfold mapOf at h
  split at h
  · rename_i kt e' h1
    split at h
    · rename_i h2
      injection h with h; subst h
      exact ⟨kt, h1, h2⟩
    · cases h
  · cases h
theorem Seen.tab {H H' : Nat → Blk C} (h : Seen H H') {b : Nat} {l : List (Int × C.Elt e)} (hb : H b = .tab e l) : H' b = .tab e l := by
  rw [← h b (by rw [hb]; intro hh; cases hh)]; exact hb
theorem fr_mp {b : Nat} {v : Value} (h : FR pl (.one (.mp b)) v) : ∃ g, pl b = some (.map (some g)) ∧ v = .map (some g) := h.1
theorem elt_val (G : C.Good P) {x : Fl} {v : Value} {y : C.Elt e} (hx : FR pl x v) (hok : aggOk P e x = true) (hdec : C.dec e x.cells = some y) : v = eltV P e y := by
  obtain ⟨hhas, hcells, hsz⟩ := dec_cells G hx hdec
  unfold eltV
  rw [← hcells]
  cases x with
  | agg cs =>
    obtain ⟨vs, rfl, _⟩ := hx
    have hok : isAggB P e = true := hok
    rw [if_pos hok]
    simp [Value.cells]
  | one s =>
    simp only [aggOk, Bool.and_eq_true, Bool.not_eq_true'] at hok
    have hl : s.live = true := by cases s <;> first | rfl | exact hok.1
    have h1 := (hx.cr hl).2
    rw [if_neg (by rw [hok.2]; simp), cells_one1 h1]
    simp
theorem find_tab (k : Int) (z y : C.Elt e) : ∀ (l : List (Int × C.Elt e)) (es : List MapEntry) (i : Nat), es.map (fun x => (x.key, x.val)) = l.map (fun p => (Value.int .i64 p.1, eltV P e p.2)) →
    (Instr.findNow (.int .i64) (.int .i64 k) es i = some none ∧ mhas k l = false ∧ mget z k l = z ∧ mput k y l = l ++ [(k, y)] ∧ mdel k l = l) ∨
    ∃ j x, Instr.findNow (.int .i64) (.int .i64 k) es i = some (some (i + j, eltV P e (mget z k l))) ∧ es[j]? = some x ∧ x.key = .int .i64 k ∧ mhas k l = true ∧ mput k y l = l.set j (k, y) ∧ mdel k l = l.eraseIdx j
  | [], es, i, h => by
    have : es = [] := by simpa using h
    subst this
    exact .inl ⟨rfl, rfl, rfl, rfl, rfl⟩
  | p :: r, [], i, h => by simp at h
  | p :: r, x :: xs, i, h => by
    simp only [List.map_cons, List.cons.injEq, Prod.mk.injEq] at h
    obtain ⟨⟨h1, h2⟩, h3⟩ := h
    have hs : Instr.sameNow (.int .i64) (.int .i64 k) x.key = some (k == p.1) := by rw [h1]; simp [Instr.sameNow]
    cases hk : k == p.1 with
    | true =>
      rw [hk] at hs
      refine .inr ⟨0, x, ?_, rfl, ?_, ?_, ?_, ?_⟩
      · simp [Instr.findNow, hs, mget, hk, h2]
      · rw [h1, eq_of_beq hk]
      · simp [mhas, hk]
      · simp [mput, hk]
      · simp [mdel, hk]
    | false =>
      rw [hk] at hs
      rcases find_tab k z y r xs (i + 1) h3 with ⟨e1, e2, e3, e4, e5⟩ | ⟨j, x', e1, e2, e3, e4, e5, e6⟩
      · refine .inl ⟨?_, ?_, ?_, ?_, ?_⟩
        · simp [Instr.findNow, hs, e1]
        · simp [mhas, hk, e2]
        · simp [mget, hk, e3]
        · simp [mput, hk, e4]
        · simp [mdel, hk, e5]
      · refine .inr ⟨j + 1, x', ?_, by simpa using e2, e3, ?_, ?_, ?_⟩
        · simp [Instr.findNow, hs, e1, mget, hk]; omega
        · simp [mhas, hk, e4]
        · simp [mput, hk, e5]
        · simp [mdel, hk, e6]
theorem map_erase {α β : Type} (f : α → β) : ∀ (l : List α) (j : Nat), (l.eraseIdx j).map f = (l.map f).eraseIdx j
  | [], j => rfl
  | x :: r, 0 => rfl
  | x :: r, j + 1 => by simp [map_erase f r j]
theorem grown_set {g : Nat} {ob ob' : Obj} (hb : w.heap[g]? = some ob) : w.grownBy { w with heap := w.heap.setIfInBounds g ob' } (some g) :=
  ⟨rfl, rfl, rfl, by simp, fun i _ hi => (heap_set hb).2 i (fun hh => hi (by rw [hh]))⟩

theorem out_makeMap (h : Rel G w0 σ as a w pl) (hn : σ.blk n = .gone) (hlen : n < σ.H.length) {t : TypeId} {vs : List AV} (ho : o.op = .makeMap t none) (hk : coreK P n H (.makeMap t none) vs some = some r) : Out G w0 σ as a w o r := by
  simp only [coreK] at hk
  split at hk
  · rename_i e he
    obtain ⟨hh, hk⟩ := cond_none hk
    injection hk with hk; subst hk
    have hrun : (execOp a.eval o).run P w = .ok (.value (.map (some w.heap.size))) (w.alloc (.map #[] 0)) := by simp [execOp, ho, Instr.makeMap, Result.andThen]
    refine ⟨.map (some w.heap.size), w.alloc (.map #[] 0), _, .inl hrun, rel_new h o.dst (pv := .map (some w.heap.size)) hn hlen (World.grownBy_alloc w _ none) ⟨hh, w.heap.size, #[], 0, if_pos rfl, Nat.zero_le _, (MapKept.heap_alloc w _).1, rfl⟩ (fun g hg => ?_) ⟨⟨w.heap.size, if_pos rfl, rfl⟩, rfl⟩⟩
    simp only [blkOf, Option.some.injEq] at hg
    omega
  · cases hk
theorem out_mapUpdate (h : Rel G w0 σ as a w pl) (hS : Seen H σ.blk) {t : TypeId} {m x y : Operand} (ho : o.op = .mapUpdate t m x y) (hk : coreK P n H (.mapUpdate t m x y) [σ.ev m, σ.ev x, σ.ev y] some = some r) : Out G w0 σ as a w o r := by
  have hm := ev_avr h m
  have hx := ev_avr h x
  have hy := ev_avr h y
  generalize σ.ev m = am at hk hm
  generalize σ.ev x = ax at hk hx
  generalize σ.ev y = ay at hk hy
  rcases am with (s | _) | _ | _ <;> try (exfalso; simp [coreK] at hk; done)
  cases s <;> try (exfalso; simp [coreK] at hk; done)
  rename_i b
  rcases ax with (s | _) | _ | _ <;> try (exfalso; simp [coreK] at hk; done)
  cases s <;> try (exfalso; simp [coreK] at hk; done)
  rename_i kx i
  cases kx <;> try (exfalso; simp [coreK] at hk; done)
  rcases ay with f | _ | _ <;> try (exfalso; simp [coreK] at hk; done)
  simp only [coreK] at hk
  split at hk
  · rename_i e' e l hmo hb
    obtain ⟨h1, hk2⟩ := cond_none hk
    clear hk
    simp only [Bool.and_eq_true] at h1
    have he := Nat.eq_of_beq_eq_true h1.1
    subst he
    split at hk2
    · rename_i yv hdec
      injection hk2 with hk2; subst hk2
      obtain ⟨kt, hmt, hkt⟩ := mapOf_spec hmo
      have hB := h.mem.blk b
      have hown : own (σ.blk b) = true := by rw [hS.tab hb]; rfl
      rw [hS.tab hb] at hB
      obtain ⟨hhas, g, es, clock, h2, h3, h4, h5⟩ := hB
      obtain ⟨g', h6, h7⟩ := fr_mp hm
      rw [h2] at h6
      injection h6 with h6; injection h6 with h6; injection h6 with h6; subst h6
      have h8 := fr_int hx
      have h9 := elt_val G hy h1.2 hdec
      have hkey : IsKey (.int .i64) (.int .i64 i) := rfl
      have fin : ∀ (es' : Array MapEntry) (clock' : Nat), (Instr.mapUpdate t (.map (some g)) (.int .i64 i) (eltV P e yv)).run P w = .ok () { w with heap := w.heap.setIfInBounds g (.map es' clock') } →
          es'.toList.map (fun x => (x.key, x.val)) = (mput i yv l).map (fun p => (Value.int .i64 p.1, eltV P e p.2)) → Out G w0 σ as a w o { v := .dead, up := [(b, .tab e (mput i yv l))] } := by
        intro es' clock' hrun hes
        refine ⟨undef, _, pl, .inr ⟨?_, rfl⟩, rel_turn h o.dst hown (by simpa [plBlk, h2, blkOf] using grown_set (ob' := .map es' clock') h4) ⟨hhas, g, es', clock', h2, h3, (heap_set h4).1, hes⟩ (AVR.dead _)⟩
        simp only [execOp, ho, h7, h8, h9]
        rw [Sem.run_bind, hrun]
        rfl
      rcases find_tab i yv yv l es.toList 0 h5 with ⟨e1, e2, e3, e4, e5⟩ | ⟨j, x', e1, e2, e3, e4, e5, e6⟩
      · refine fin (es.push { key := .int .i64 i, val := eltV P e yv, born := clock }) (clock + 1) ?_ ?_
        · simp [Instr.mapUpdate, run_underlying hmt, MapKept.run_getObj_map h4, run_checkKey hkt hkey, run_findKey hkt e1, MapKept.run_setObj_map _ h4, Result.andThen]
        · rw [e4]
          simp [h5]
      · refine fin (es.modify j fun x => { x with key := .int .i64 i, val := eltV P e yv }) clock ?_ ?_
        · have hj : es[j]? = some x' := by simpa using e2
          simp [Instr.mapUpdate, run_underlying hmt, MapKept.run_getObj_map h4, run_checkKey hkt hkey, run_findKey hkt e1, hj, e3, run_keyThatStays hkey, MapKept.run_setObj_map _ h4, Result.andThen]
        · rw [e5, List.map_set, ← h5]
          apply List.ext_getElem?
          intro q
          rw [List.getElem?_set, List.getElem?_map, List.getElem?_map, Array.getElem?_toList, Array.getElem?_modify]
          have hj : es[j]? = some x' := by simpa using e2
          have hjl : j < es.size := (Array.getElem?_eq_some_iff.1 hj).1
          by_cases c : j = q
          · subst c
            simp [hj, hjl]
          · simp [c]
    · cases hk2
  · cases hk
theorem out_lookup (h : Rel G w0 σ as a w pl) (hS : Seen H σ.blk) {t : TypeId} {m x : Operand} {ok : Bool} (ho : o.op = .lookup t m x ok) (hk : coreK P n H (.lookup t m x ok) [σ.ev m, σ.ev x] some = some r) : Out G w0 σ as a w o r := by
  cases ok with
  | false => exfalso; simp [coreK] at hk
  | true =>
  have hm := ev_avr h m
  have hx := ev_avr h x
  generalize σ.ev m = am at hk hm
  generalize σ.ev x = ax at hk hx
  rcases am with (s | _) | _ | _ <;> try (exfalso; simp [coreK] at hk; done)
  cases s <;> try (exfalso; simp [coreK] at hk; done)
  rename_i b
  rcases ax with (s | _) | _ | _ <;> try (exfalso; simp [coreK] at hk; done)
  cases s <;> try (exfalso; simp [coreK] at hk; done)
  rename_i kx i
  cases kx <;> try (exfalso; simp [coreK] at hk; done)
  simp only [coreK] at hk
  split at hk
  · rename_i e' e l hmo hb
    obtain ⟨h1, hk2⟩ := cond_none hk
    clear hk
    have he := Nat.eq_of_beq_eq_true h1
    subst he
    split at hk2
    · rename_i zy hz
      split at hk2
      · rename_i xf hcut
        injection hk2 with hk2; subst hk2
        obtain ⟨kt, hmt, hkt⟩ := mapOf_spec hmo
        have hB := h.mem.blk b
        rw [hS.tab hb] at hB
        obtain ⟨hhas, g, es, clock, h2, h3, h4, h5⟩ := hB
        obtain ⟨g', h6, h7⟩ := fr_mp hm
        rw [h2] at h6
        injection h6 with h6; injection h6 with h6; injection h6 with h6; subst h6
        have h8 := fr_int hx
        have hkey : IsKey (.int .i64) (.int .i64 i) := rfl
        cases hzo : zeroOf P e with
        | none => rw [hzo] at hz; cases hz
        | some zf =>
          rw [hzo] at hz
          simp only [Option.bind_some] at hz
          obtain ⟨h9, hdec⟩ := cond_none hz
          obtain ⟨inf, zv, hi, hiz, hg, rfl⟩ := zeroOf_spec hzo
          have hzv := elt_val G (flOf_fr pl zv) h9 hdec
          have hrz : (zeroValue e).run P w = .ok (eltV P e zy) w := by simp [zeroValue, typeInfo, hi, hiz, hzv]
          have hxf : FR pl xf (eltV P e (mget zy i l)) := by
            have h10 := cut_fr (plain_cells (pl := pl) (G.plain e (mget zy i l) hhas)) hcut
            have hsz := G.sz e hhas
            have hlen := G.len e (mget zy i l) hhas
            have : (((C.enc e (mget zy i l)).map Sc.val).drop 0).take (P.cellsOf e) = (C.enc e (mget zy i l)).map Sc.val := by
              rw [List.drop_zero, List.take_of_length_le]
              rw [List.length_map, hlen, hsz.1]
              exact Nat.le_refl _
            rw [this] at h10
            exact h10
          have fin : (Instr.lookup t (.map (some g)) (.int .i64 i) true).run P w = .ok (.tuple #[eltV P e (mget zy i l), .bool (mhas i l)]) w → Out G w0 σ as a w o { v := .tup [xf, .one (.bool (mhas i l))] } := fun hrun => by
            refine out_pure h (v := .tuple #[eltV P e (mget zy i l), .bool (mhas i l)]) ?_ ⟨_, rfl, R2.cons hxf (R2.cons (bool_fr _) R2.nil)⟩
            simp only [execOp, ho, h7, h8]
            rw [Sem.run_bind, hrun]
            rfl
          apply fin
          rcases find_tab i zy zy l es.toList 0 h5 with ⟨e1, e2, e3, e4, e5⟩ | ⟨j, x', e1, e2, e3, e4, e5, e6⟩
          · rw [e2, e3]
            simp [Instr.lookup, run_underlying hmt, MapKept.run_getObj_map h4, run_checkKey hkt hkey, run_findKey hkt e1, hrz, Result.andThen]
          · rw [e4]
            simp [Instr.lookup, run_underlying hmt, MapKept.run_getObj_map h4, run_checkKey hkt hkey, run_findKey hkt e1, Result.andThen]
      · cases hk2
    · cases hk2
  · cases hk
theorem out_delete (h : Rel G w0 σ as a w pl) (hS : Seen H σ.blk) {c : Call} {m x : Operand} (ho : o.op = .call c) (hc : c.callee = .builtin .delete) (hargs : c.args = #[m, x]) (hk : coreK P n H (.call c) [σ.ev m, σ.ev x] some = some r) : Out G w0 σ as a w o r := by
  obtain ⟨callee, args, argTypes⟩ := c
  simp only at hc hargs
  subst hc; subst hargs
  have hm := ev_avr h m
  have hx := ev_avr h x
  generalize σ.ev m = am at hk hm
  generalize σ.ev x = ax at hk hx
  rcases am with (s | _) | _ | _ <;> try (exfalso; simp [coreK] at hk; done)
  cases s <;> try (exfalso; simp [coreK] at hk; done)
  rename_i b
  rcases ax with (s | _) | _ | _ <;> try (exfalso; simp [coreK] at hk; done)
  cases s <;> try (exfalso; simp [coreK] at hk; done)
  rename_i kx i
  cases kx <;> try (exfalso; simp [coreK] at hk; done)
  simp only [coreK] at hk
  split at hk
  · rename_i t t' hat
    split at hk
    · rename_i e' e l hmo hb
      obtain ⟨h1, hk2⟩ := cond_none hk
      clear hk
      have he := Nat.eq_of_beq_eq_true h1
      subst he
      injection hk2 with hk2; subst hk2
      have hat : argTypes = #[t, t'] := by apply Array.ext'; simpa using hat
      subst hat
      obtain ⟨kt, hmt, hkt⟩ := mapOf_spec hmo
      have hB := h.mem.blk b
      have hown : own (σ.blk b) = true := by rw [hS.tab hb]; rfl
      rw [hS.tab hb] at hB
      obtain ⟨hhas, g, es, clock, h2, h3, h4, h5⟩ := hB
      obtain ⟨g', h6, h7⟩ := fr_mp hm
      rw [h2] at h6
      injection h6 with h6; injection h6 with h6; injection h6 with h6; subst h6
      have h8 := fr_int hx
      have hkey : IsKey (.int .i64) (.int .i64 i) := rfl
      have fin : ∀ (es' : Array MapEntry) (clock' : Nat), (Builtin.delete_ #[t, t'] o.type #[.map (some g), .int .i64 i]).run P w = .ok (.tuple #[]) { w with heap := w.heap.setIfInBounds g (.map es' clock') } →
          es'.toList.map (fun x => (x.key, x.val)) = (mdel i l).map (fun p => (Value.int .i64 p.1, eltV P e p.2)) → Out G w0 σ as a w o { v := .tup [], up := [(b, .tab e (mdel i l))] } := by
        intro es' clock' hrun hes
        refine ⟨.tuple #[], _, pl, .inl ?_, rel_turn h o.dst hown (by simpa [plBlk, h2, blkOf] using grown_set (ob' := .map es' clock') h4) ⟨hhas, g, es', clock', h2, h3, (heap_set h4).1, hes⟩ ⟨#[], rfl, R2.nil⟩⟩
        simp [execOp, ho, resolve, invoke, builtin, h7, h8, hrun, Result.andThen]
      by_cases hl : l = []
      · subst hl
        have : es = #[] := by simpa using h5
        subst this
        have e1 : Instr.findNow (.int .i64) (.int .i64 i) [] 0 = some none := rfl
        refine fin #[] clock ?_ rfl
        simp [Builtin.delete_, run_underlying hmt, MapKept.run_getObj_map h4, run_checkKey hkt hkey, run_findKey hkt e1, MapKept.run_setObj_map _ h4, Result.andThen]
      · obtain ⟨p, l', rfl⟩ := List.exists_cons_of_ne_nil hl
        rcases find_tab i p.2 p.2 (p :: l') es.toList 0 h5 with ⟨e1, e2, e3, e4, e5⟩ | ⟨j, x', e1, e2, e3, e4, e5, e6⟩
        · refine fin es clock ?_ (by rw [e5]; exact h5)
          simp [Builtin.delete_, run_underlying hmt, MapKept.run_getObj_map h4, run_checkKey hkt hkey, run_findKey hkt e1, MapKept.run_setObj_map _ h4, Result.andThen]
        · have hj : es[j]? = some x' := by simpa using e2
          have hjl : j < es.size := (Array.getElem?_eq_some_iff.1 hj).1
          refine fin (es.eraseIdxIfInBounds j) clock ?_ ?_
          · simp [Builtin.delete_, run_underlying hmt, MapKept.run_getObj_map h4, run_checkKey hkt hkey, run_findKey hkt e1, MapKept.run_setObj_map _ h4, Result.andThen]
          · rw [e6]
            unfold Array.eraseIdxIfInBounds
            rw [dif_pos hjl, Array.toList_eraseIdx, map_erase, map_erase, h5]
    · cases hk
  · cases hk
end
end Go.Abs
