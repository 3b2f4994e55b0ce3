/- EACH OPERATION OF THE MODEL DOES WHAT IS TOLD OF IT (tenth part: stores). -/
import Derived.Test.YtjfndepkgahkiaaDoorA12
set_option linter.unusedVariables false
set_option linter.unusedSimpArgs false
namespace Go.Abs
open Go.RowKit
section
variable {C : Codec} {P : Program} {G : C.Good P} {w0 : Base C} {σ : St C} {as : List Act} {a : Act} {w : World} {pl : Pl} {n : Nat} {H : Nat → Blk C} {o : Oper} {r : Res C}

theorem splice_len {cs xs out : List Sc} {off : Nat} (h : splice cs off xs = some out) : off + xs.length ≤ cs.length ∧ out.length = cs.length := by
  unfold splice at h
  obtain ⟨h1, h2⟩ := cond_none h
  injection h2 with h2; subst h2
  have h1 : off + xs.length ≤ cs.length := Nat.le_of_ble_eq_true h1
  refine ⟨h1, ?_⟩
  simp only [List.length_append, List.length_take, List.length_drop, Nat.min_def]; split <;> omega
theorem splice_at {cs xs out : List Sc} {off : Nat} {zs vs ws : List Value} (hz : R2 (CR pl) cs zs) (hv : R2 (CR pl) xs vs) (h : splice cs off xs = some out)
    (hl : ws.length = zs.length) (hw : ∀ k, k < zs.length → ws[k]? = if off ≤ k ∧ k < off + vs.length then vs[k - off]? else zs[k]?) : R2 (CR pl) out ws := by
  have hlen := splice_len h
  unfold splice at h
  obtain ⟨h1, h2⟩ := cond_none h
  injection h2 with h2; subst h2
  have h1 : off + xs.length ≤ cs.length := Nat.le_of_ble_eq_true h1
  have e1 := hz.1
  have e2 := hv.1
  refine ⟨by rw [hlen.2, e1, hl], fun i x y hx hy => ?_⟩
  have hi : i < zs.length := by rw [← hl]; exact (List.getElem?_eq_some_iff.1 hy).1
  rw [hw i hi] at hy
  by_cases c1 : i < off
  · rw [if_neg (by omega)] at hy
    rw [List.append_assoc, List.getElem?_append_left (by simp only [List.length_take, Nat.min_def]; split <;> omega), List.getElem?_take, if_pos c1] at hx
    exact hz.2 i x y hx hy
  · have e4 : (cs.take off).length = off := by simp only [List.length_take, Nat.min_def]; split <;> omega
    by_cases c2 : i < off + vs.length
    · rw [if_pos ⟨by omega, c2⟩] at hy
      rw [List.append_assoc, List.getElem?_append_right (by omega)] at hx
      rw [e4, List.getElem?_append_left (by omega)] at hx
      exact hv.2 _ x y hx hy
    · rw [if_neg (by omega)] at hy
      have e5 : (cs.take off ++ xs).length = off + xs.length := by rw [List.length_append, e4]
      rw [List.getElem?_append_right (by omega), e5, List.getElem?_drop] at hx
      have e6 : off + xs.length + (i - (off + xs.length)) = i := by omega
      rw [e6] at hx
      exact hz.2 i x y hx hy
theorem plain_eq {cs : List Sc} {vs : List Value} (h : R2 (CR pl) cs vs) (hp : cs.all scPlain = true) : vs = cs.map Sc.val := by
  apply List.ext_getElem?
  intro i
  rw [List.getElem?_map]
  by_cases hi : i < cs.length
  · have hj : i < vs.length := h.1 ▸ hi
    rw [List.getElem?_eq_getElem hi, List.getElem?_eq_getElem hj]
    have h1 := h.2 i _ _ (List.getElem?_eq_getElem hi) (List.getElem?_eq_getElem hj)
    have h2 := List.all_eq_true.1 hp _ (List.getElem_mem hi)
    revert h1 h2
    generalize cs[i] = s
    generalize vs[i] = v
    intro h1 h2
    cases s <;> simp [scPlain] at h2 <;> (have := h1.1; simp only [SR] at this; subst this; rfl)
  · have := h.1
    rw [List.getElem?_eq_none (by omega), List.getElem?_eq_none (by omega)]
    rfl
theorem out_store (h : Rel G w0 σ as a w pl) (hS : Seen H σ.blk) {t : TypeId} {x y : Operand} (ho : o.op = .store t x y) (hk : coreK P n H (.store t x y) [σ.ev x, σ.ev y] some = some r) : Out G w0 σ as a w o r := by
  have hx := ev_avr h x
  have hy := ev_avr h y
  generalize σ.ev x = ax at hk hx
  generalize σ.ev y = ay at hk hy
  rcases ax with (s | _) | _ | _ <;> try (exfalso; simp [coreK] at hk; done)
  rcases ay with f | _ | _ <;> try (exfalso; cases s <;> simp [coreK] at hk; done)
  have hy : FR pl f (a.eval y) := hy
  cases s <;> try (exfalso; simp [coreK] at hk; done)
  case ptr b off =>
    simp only [coreK] at hk
    split at hk
    · rename_i t' cs hb
      obtain ⟨h1, hk2⟩ := cond_none hk
      clear hk
      simp only [Bool.and_eq_true] at h1
      obtain ⟨⟨h1, h2⟩, h3⟩ := h1
      have h2 : f.cells.length = P.cellsOf t := Nat.eq_of_beq_eq_true h2
      have h3 : 1 ≤ P.cellsOf t := Nat.le_of_ble_eq_true h3
      split at hk2
      · rename_i cs' hsp
        injection hk2 with hk2; subst hk2
        have hb' := h.mem.blk b
        have hown : own (σ.blk b) = true := by rw [hS.box hb]; rfl
        rw [hS.box hb] at hb'
        obtain ⟨g, vs, h4, h5, h6, h7⟩ := hb'
        obtain ⟨g', h8, h9⟩ := fr_ptr hx
        rw [h4] at h8
        injection h8 with h8; injection h8 with h8; injection h8 with h8; injection h8 with h8 _ _; subst h8
        have hlen := splice_len hsp
        have hvl : cs.length = vs.size := by simpa using h7.1
        have hrun := run_storeVal (P := P) (o' := off) h6 hy h1 h2 h3 (by omega)
        obtain ⟨cur', e1, e2, e3, e4⟩ := setCells_row (a.eval y).cells.toList off w vs h6
        have hcell := fl_cells hy h1
        have hvlen : f.cells.length = (a.eval y).cells.toList.length := hcell.1
        refine ⟨undef, _, pl, .inr ⟨?_, rfl⟩, rel_turn h o.dst hown (by simpa [plBlk, h4, blkOf] using e4) ⟨g, cur', h4, h5, e1, ?_⟩ (AVR.dead _)⟩
        · simp only [execOp, ho, h9]
          rw [Sem.run_bind, hrun]
          rfl
        · exact splice_at h7 hcell hsp (by simp [e2]) (fun k hk => by
            have hk' : k < vs.size := by simpa using hk
            have := e3 k
            rw [Array.getElem?_toList, this]
            by_cases c : off ≤ k ∧ k < off + (a.eval y).cells.toList.length
            · rw [if_pos c, if_pos ⟨c.1, c.2, hk'⟩]
            · rw [if_neg c, if_neg (fun h => c ⟨h.1, h.2.1⟩), Array.getElem?_toList])
      · cases hk2
    · cases hk
  case eptr b sz i off =>
    simp only [coreK] at hk
    split at hk
    · rename_i e xs hb
      obtain ⟨h1, hk2⟩ := cond_none hk
      clear hk
      simp only [Bool.and_eq_true] at h1
      obtain ⟨⟨⟨h1, h2⟩, h3⟩, h0⟩ := h1
      have h2 : f.cells.length = P.cellsOf t := Nat.eq_of_beq_eq_true h2
      have h3 : 1 ≤ P.cellsOf t := Nat.le_of_ble_eq_true h3
      have h0 := Nat.eq_of_beq_eq_true h0
      subst h0
      split at hk2
      · rename_i cs' hsp
        split at hk2
        · rename_i y' hdec
          injection hk2 with hk2; subst hk2
          have hb' := h.mem.blk b
          have hown : own (σ.blk b) = true := by rw [hS.row hb]; rfl
          rw [hS.row hb] at hb'
          obtain ⟨hhas, v, hp, hrow⟩ := hb'
          obtain ⟨ad, n', c', h4, h5, h6, h7, h8⟩ := hx.1
          rw [hp] at h4
          injection h4 with h4
          subst h4
          rcases hrow.2 with ⟨hh, hz⟩ | ⟨g, cap, cur, hh, hb1, hg, hnc, hcm, hcs, htake⟩
          · simp at hh
          · simp only [Value.slice.injEq, Option.some.injEq] at hh
            obtain ⟨rfl, rfl, rfl⟩ := hh
            obtain ⟨-, henc⟩ := G.dec _ _ _ hdec
            obtain ⟨hsz, hpos, _⟩ := G.sz _ hhas
            have hlen := splice_len hsp
            rw [G.len e _ hhas] at hlen
            have hcell := fl_cells hy h1
            have hvlen : f.cells.length = (a.eval y).cells.toList.length := hcell.1
            have hnm : i.toNat * C.sz e + C.sz e ≤ xs.length * C.sz e := by
              have : (i.toNat + 1) * C.sz e ≤ xs.length * C.sz e := Nat.mul_le_mul_right _ h7
              rwa [Nat.add_mul, Nat.one_mul] at this
            have hcap : xs.length * C.sz e ≤ cur.size := by rw [hcs]; exact Nat.mul_le_mul_right _ hnc
            have hrun := run_storeVal (P := P) (o' := i.toNat * C.sz e + off) hg hy h1 h2 h3 (by omega)
            obtain ⟨cur', e1, e2, e3, e4⟩ := setCells_row (a.eval y).cells.toList (i.toNat * C.sz e + off) w cur hg
            -- the element's cells before and behind
            have hold : ∀ m, m < xs.length * C.sz e → cur[m]? = (flat C e xs)[m]? := fun m hm => by
              rw [← htake, List.getElem?_take, if_pos hm]
              simp
            have hget := fun (k j : Nat) (hk : k < xs.length) (hj : j < C.sz e) => flat_get G hhas xs k j (C.dflt e) hk hj
            have hi : i.toNat < xs.length := h7
            have hnew : R2 (CR pl) cs' ((cur'.toList.drop (i.toNat * C.sz e)).take (C.sz e)) := by
              refine splice_at (plain_cells (G.plain e _ hhas)) hcell hsp ?_ (fun k hk => ?_)
              · simp only [List.length_take, List.length_drop, Array.length_toList, List.length_map, G.len e _ hhas, e2, Nat.min_def]; split <;> omega
              · rw [List.length_map, G.len e _ hhas] at hk
                rw [List.getElem?_take, if_pos hk, List.getElem?_drop, Array.getElem?_toList, e3]
                by_cases c : off ≤ k ∧ k < off + (a.eval y).cells.toList.length
                · rw [if_pos c, if_pos ⟨by omega, by omega, by omega⟩]
                  congr 1
                  omega
                · rw [if_neg c, if_neg (by omega), hold _ (by omega), hget _ _ hi hk]
            have hval := plain_eq hnew (by rw [← henc]; exact G.plain e _ hhas)
            have hrow' : (w.setCells g (i.toNat * C.sz e + off) (a.eval y).cells.toList).ownsRow 0 e (C.sz e) (.slice (some ⟨g, 0, none⟩) xs.length c') (xs.set i.toNat y').length (flat C e (xs.set i.toNat y')) := by
              rw [List.length_set]
              refine ⟨by rw [flat_len G hhas, List.length_set], .inr ⟨g, c', cur', rfl, hb1, e1, hnc, hcm, by rw [e2, hcs], ?_⟩⟩
              apply List.ext_getElem?
              intro m
              by_cases hm : m < xs.length * C.sz e
              · rw [List.getElem?_take, if_pos hm, Array.getElem?_toList]
                have hdm := Nat.div_add_mod m (C.sz e)
                have hk : m / C.sz e < xs.length := Nat.div_lt_of_lt_mul (by rw [Nat.mul_comm]; exact hm)
                have hj : m % C.sz e < C.sz e := Nat.mod_lt _ hpos
                rw [Nat.mul_comm] at hdm
                generalize m / C.sz e = k at hdm hk
                generalize m % C.sz e = j at hdm hj
                subst hdm
                rw [flat_get G hhas _ k j (C.dflt e) (by rw [List.length_set]; exact hk) hj]
                by_cases hki : k = i.toNat
                · subst hki
                  have : (xs.set i.toNat y').getD i.toNat (C.dflt e) = y' := by
                    rw [List.getD_eq_getElem?_getD, List.getElem?_set_self hi]; rfl
                  rw [this, henc, ← hval, List.getElem?_take, if_pos hj, List.getElem?_drop, Array.getElem?_toList]
                · have : (xs.set i.toNat y').getD k (C.dflt e) = xs.getD k (C.dflt e) := by
                    rw [List.getD_eq_getElem?_getD, List.getElem?_set_ne (Ne.symm hki), ← List.getD_eq_getElem?_getD]
                  rw [this, e3, if_neg, hold _ hm, hget _ _ hk hj]
                  intro hc
                  rcases Nat.lt_or_gt_of_ne hki with h9 | h9
                  · have : (k + 1) * C.sz e ≤ i.toNat * C.sz e := Nat.mul_le_mul_right _ h9
                    rw [Nat.add_mul, Nat.one_mul] at this
                    omega
                  · have : (i.toNat + 1) * C.sz e ≤ k * C.sz e := Nat.mul_le_mul_right _ h9
                    rw [Nat.add_mul, Nat.one_mul] at this
                    omega
              · rw [List.getElem?_take, if_neg hm, List.getElem?_eq_none (by rw [flat_len G hhas, List.length_set]; omega)]
            refine ⟨undef, _, pl, .inr ⟨?_, rfl⟩, rel_turn h o.dst hown (by simpa [plBlk, hp, blkOf] using e4) ⟨hhas, _, hp, hrow'⟩ (AVR.dead _)⟩
            simp only [execOp, ho, h8, Nat.zero_add]
            rw [Sem.run_bind, hrun]
            rfl
        · cases hk2
      · cases hk2
    · cases hk
end
end Go.Abs
