/- EACH OPERATION OF THE MODEL DOES WHAT IS TOLD OF IT (seventh part: struct literals, conversions, closures, len, min, max). -/
import Derived.Test.YtjfndepkgahkiaaDoorA9
import Derived.Laws.BytesString
set_option linter.unusedVariables false
set_option linter.unusedSimpArgs false
namespace Go.Abs
open Go.RowKit
section
variable {C : Codec} {P : Program} {G : C.Good P} {w0 : Base C} {σ : St C} {as : List Act} {a : Act} {w : World} {pl : Pl} {n : Nat} {H : Nat → Blk C} {o : Oper} {r : Res C}

theorem zeroOf_spec {t : TypeId} {z : Fl} (h : zeroOf P t = some z) : ∃ i v, P.info? t = some i ∧ i.zero = some v ∧ z.good = true ∧ z = flOf v := by
  unfold zeroOf at h
  cases hi : P.info? t with
  | none => simp [hi] at h
  | some i =>
    cases hz : i.zero with
    | none => simp [hi, hz] at h
    | some v =>
      simp only [hi, hz, Option.bind_some] at h
      obtain ⟨h1, h2⟩ := cond_none h
      injection h2 with h2
      exact ⟨i, v, rfl, hz, h2 ▸ h1, h2.symm⟩
abbrev PR (pl : Pl) (p : Nat × Fl) (q : Nat × Value) : Prop := p.1 = q.1 ∧ FR pl p.2 q.2
theorem parts_spec (h : Rel G w0 σ as a w pl) : ∀ {ps : List (Nat × Operand)} {l : List (Nat × Fl)}, parts ps ((ps.map (·.2)).map σ.ev) = some l → R2 (PR pl) l (ps.map fun p => (p.1, a.eval p.2))
  | [], l, hp => by simp only [parts, Option.some.injEq] at hp; subst hp; exact R2.nil
  | (j, x) :: ps, l, hp => by
    have hx := ev_avr h x
    simp only [List.map_cons] at hp
    generalize σ.ev x = ax at hp hx
    rcases ax with s | _ | _ <;> try (exfalso; simp [parts] at hp; done)
    simp only [parts] at hp
    split at hp
    · rename_i l' hl'
      injection hp with hp; subst hp
      exact R2.cons ⟨rfl, hx⟩ (parts_spec h hl')
    · cases hp
theorem splice_spec {cs : List Sc} {zs : Array Value} {xs : List Sc} {vs : Array Value} {off : Nat} {out : List Sc} (hz : R2 (CR pl) cs zs.toList) (hv : R2 (CR pl) xs vs.toList) (h : splice cs off xs = some out) :
    off + vs.size ≤ zs.size ∧ R2 (CR pl) out (vs.zipIdx.foldl (fun cs (c, j) => cs.setIfInBounds (off + j) c) zs).toList := by
  unfold splice at h
  obtain ⟨h1, h2⟩ := cond_none h
  injection h2 with h2; subst h2
  have h1 : off + xs.length ≤ cs.length := Nat.le_of_ble_eq_true h1
  have e1 : cs.length = zs.size := by simpa using hz.1
  have e2 : xs.length = vs.size := by simpa using hv.1
  refine ⟨by omega, ?_⟩
  have hf := Great.foldl_set off vs.toList 0 zs
  have e3 : vs.zipIdx.foldl (fun cs (c, j) => cs.setIfInBounds (off + j) c) zs = (vs.toList.zipIdx 0).foldl (fun cs (x : Value × Nat) => cs.setIfInBounds (off + x.2) x.1) zs := by
    rw [← Array.foldl_toList, Array.toList_zipIdx]
  rw [e3]
  refine ⟨by simp only [List.length_append, List.length_take, List.length_drop, Array.length_toList, hf.1, Nat.min_def]; split <;> omega, fun i x y hx hy => ?_⟩
  have hy' : ((vs.toList.zipIdx 0).foldl (fun cs (x : Value × Nat) => cs.setIfInBounds (off + x.2) x.1) zs)[i]? = some y := by simpa using hy
  rw [hf.2 i] at hy'
  simp only [Nat.add_zero, Array.length_toList] at hy'
  by_cases c1 : i < off
  · rw [if_neg (by omega)] at hy'
    rw [List.append_assoc, List.getElem?_append_left (by simp only [List.length_take, Nat.min_def]; split <;> omega), List.getElem?_take, if_pos c1] at hx
    exact hz.2 i x y hx (by simpa using hy')
  · by_cases c2 : i < off + vs.size
    · rw [if_pos ⟨by omega, c2, by omega⟩] at hy'
      rw [List.append_assoc, List.getElem?_append_right (by simp only [List.length_take, Nat.min_def]; split <;> omega)] at hx
      have e4 : (cs.take off).length = off := by simp only [List.length_take, Nat.min_def]; split <;> omega
      rw [e4, List.getElem?_append_left (by omega)] at hx
      exact hv.2 _ x y hx hy'
    · rw [if_neg (by omega)] at hy'
      have e4 : (cs.take off ++ xs).length = off + xs.length := by simp only [List.length_append, List.length_take, Nat.min_def]; split <;> omega
      rw [List.getElem?_append_right (by omega), e4, List.getElem?_drop] at hx
      have e5 : off + xs.length + (i - (off + xs.length)) = i := by omega
      rw [e5] at hx
      exact hz.2 i x y hx (by simpa using hy')
theorem fill_sound {t : TypeId} {place : Nat → Option (Nat × Nat)} (hpl : ∀ j o ft, fieldOf P t j = some (o, ft) → place j = some (o, P.cellsOf ft)) :
    ∀ {l : List (Nat × Fl)} {vs : List (Nat × Value)} {cs out : List Sc} {zs : Array Value}, R2 (PR pl) l vs → R2 (CR pl) cs zs.toList → buildCells P t cs l = some out → ∃ r, Instr.fill place zs vs = some r ∧ R2 (CR pl) out r.toList
  | [], vs, cs, out, zs, hl, hz, hb => by
    have := hl.nil_inv; subst this
    simp only [buildCells, Option.some.injEq] at hb; subst hb
    exact ⟨zs, rfl, hz⟩
  | (j, x) :: l, vs, cs, out, zs, hl, hz, hb => by
    obtain ⟨⟨j', v⟩, vs', rfl, ⟨hj, hx⟩, hl'⟩ := hl.cons_inv
    simp only at hj; subst hj
    simp only [buildCells] at hb
    split at hb
    · rename_i off ft hf
      obtain ⟨h1, hb2⟩ := cond_none hb
      simp only [Bool.and_eq_true] at h1
      have h2 := fl_cells hx h1.1
      have h3 : x.cells.length = P.cellsOf ft := Nat.eq_of_beq_eq_true h1.2
      split at hb2
      · rename_i cs' hs
        obtain ⟨h4, h5⟩ := splice_spec hz h2 hs
        obtain ⟨r, h6, h7⟩ := fill_sound hpl hl' h5 hb2
        refine ⟨r, ?_, h7⟩
        have e : v.cells.size = P.cellsOf ft := by rw [← h3, h2.1]; simp
        simp only [Instr.fill, hpl j off ft hf]
        have h4 : off + v.cells.size ≤ zs.size := h4
        rw [if_neg (by simp; omega)]
        exact h6
      · cases hb2
    · cases hb
theorem places_all : ∀ (fs : List Field), fs.all (fun f => (P.info? f.type).isSome) = true → fs.mapM (fun f => (P.info? f.type).map fun i => (f.offset, i.size)) = some (fs.map fun f => (f.offset, P.cellsOf f.type))
  | [], _ => rfl
  | f :: fs, h => by
    simp only [List.all_cons, Bool.and_eq_true] at h
    obtain ⟨i, hi⟩ := Option.isSome_iff_exists.1 h.1
    simp [List.mapM_cons, hi, places_all fs h.2, Program.cellsOf]
theorem out_build (h : Rel G w0 σ as a w pl) {t : TypeId} {ps : Array (Nat × Operand)} (ho : o.op = .build t ps) (hk : coreK P n H (.build t ps) ((ps.toList.map (·.2)).map σ.ev) some = some r) : Out G w0 σ as a w o r := by
  simp only [coreK] at hk
  split at hk
  · rename_i z l fs hz hl hu
    obtain ⟨h1, hk2⟩ := cond_none hk
    clear hk
    split at hk2
    · rename_i cs hb
      injection hk2 with hk2; subst hk2
      obtain ⟨i, v, hi, hiz, hg, hv⟩ := zeroOf_spec hz
      have hzv : FR pl (.agg z) v := hv ▸ flOf_fr pl v
      have hps := parts_spec h hl
      obtain ⟨r, hr, hcs⟩ := fill_sound (P := P) (t := t) (place := fun j => (fs.toList.map fun f => (f.offset, P.cellsOf f.type)).toArray[j]?) (zs := v.cells)
        (fun j o' ft hf => by
          obtain ⟨fs', f, h2, h3, rfl, rfl⟩ := fieldOf_spec hf
          rw [hu] at h2
          injection h2 with h2; injection h2 with h2; subst h2
          simp [h3]) hps (fl_cells hzv hg) hb
      refine out_pure h (v := .agg r) ?_ ⟨r, rfl, hcs⟩
      have hbuilt : P.built t (ps.map fun (i, x) => (i, a.eval x)).toList = some r := by
        unfold Program.built
        simp only [hi, hu, hiz, places_all _ h1]
        simpa using hr
      simp only [execOp, ho]
      rw [Sem.run_bind, run_build w t _ r hbuilt]
      rfl
    · cases hk2
  · cases hk
theorem asFl_spec (h : Rel G w0 σ as a w pl) : ∀ {xs : List Operand} {l : List Fl}, (xs.map σ.ev).mapM asFl = some l → R2 (FR pl) l (xs.map a.eval)
  | [], l, hp => by simp at hp; subst hp; exact R2.nil
  | x :: xs, l, hp => by
    have hx := ev_avr h x
    simp only [List.map_cons, List.mapM_cons, Option.bind_eq_bind, Option.pure_def] at hp
    generalize σ.ev x = ax at hp hx
    rcases ax with s | _ | _ <;> try (exfalso; simp [asFl] at hp; done)
    simp only [asFl, Option.bind_some] at hp
    cases hl : (xs.map σ.ev).mapM asFl with
    | none => rw [hl] at hp; cases hp
    | some l' =>
      rw [hl] at hp
      injection hp with hp; subst hp
      exact R2.cons hx (asFl_spec h hl)
theorem out_makeFunc (h : Rel G w0 σ as a w pl) {f : Fn} {b c : Array Operand} (ho : o.op = .makeFunc f b c) (hk : coreK P n H (.makeFunc f b c) (((b ++ c).toList).map σ.ev) some = some r) : Out G w0 σ as a w o r := by
  cases f <;> try (simp [coreK] at hk; done)
  rename_i f
  simp only [coreK] at hk
  split at hk
  · rename_i l hl
    injection hk with hk; subst hk
    have h1 := asFl_spec h hl
    refine out_pure h (v := .func (.func f) (b.map a.eval) (c.map a.eval)) (by simp [execOp, ho, Instr.makeFunc]) ⟨_, _, rfl, ?_, ?_⟩
    · have h2 := h1.take b.size
      simp only [Array.toList_append, List.map_append] at h2
      rw [List.take_append_of_le_length (by simp)] at h2
      rw [List.take_of_length_le (l := b.toList.map a.eval) (by simp)] at h2
      simpa using h2
    · have h2 := h1.drop b.size
      simp only [Array.toList_append, List.map_append] at h2
      rw [List.drop_append_of_le_length (by simp)] at h2
      rw [List.drop_of_length_le (l := b.toList.map a.eval) (by simp)] at h2
      simpa using h2
  · cases hk
end
end Go.Abs
