/- EACH OPERATION OF THE MODEL DOES WHAT IS TOLD OF IT (eleventh part: slices of slices, new rows). -/
import Derived.Test.YtjfndepkgahkiaaDoorA13
import Derived.Great.BuildSlice
import Derived.Laws.IdiomStrings
set_option linter.unusedVariables false
set_option linter.unusedSimpArgs false
namespace Go.Abs
open Go.RowKit
section
variable {C : Codec} {P : Program} {G : C.Good P} {w0 : Base C} {σ : St C} {as : List Act} {a : Act} {w : World} {pl : Pl} {n : Nat} {H : Nat → Blk C} {o : Oper} {r : Res C}

theorem blk_ro {base b : Nat} {e : TypeId} {ow : Bool} {xs : List (C.Elt e)} (h : BlkR G base pl w b (.row e ow xs)) : BlkR G base pl w b (.row e false xs) := by
  cases ow with
  | false => exact h
  | true =>
    obtain ⟨he, v, h1, h2⟩ := h
    obtain ⟨a, c, rfl, h3, h4, h5, h6, h7⟩ := own_reads' h2
    exact ⟨he, a, c, h1, h3, h4, h5, fun ad had => (h6 ad had).1, h7⟩
theorem rel_view (h : Rel G w0 σ as a w pl) (d : Option Tmp) {b : Nat} {x : AV} {e : TypeId} {ow : Bool} {xs ys : List (C.Elt e)} {v pv : Value}
    (hn : σ.blk n = .gone) (hlen : n < σ.H.length) (hb : σ.blk b = .row e ow xs) (hB : BlkR G 0 (pl.upd n pv) w n (.row e false ys))
    (hf : ∀ g, blkOf pv = some g → plBlk pl b = some g) (hx : AVR (pl.upd n pv) x v) :
    Rel G w0 (σ.apply d { v := x, up := [(n, .row e false ys), (b, .row e false xs)] }) as (a.put d v) w (pl.upd n pv) := by
  have hpn : pl n = none := by have := h.mem.blk n; rw [hn] at this; exact this
  have hbn : b ≠ n := by rintro rfl; rw [hn] at hb; cases hb
  have hbl : b < σ.H.length := by
    rcases Nat.lt_or_ge b σ.H.length with h1 | h1
    · exact h1
    · rw [St.blk, List.getD_eq_getElem?_getD, List.getElem?_eq_none h1] at hb; cases hb
  have ht := Turns.fresh hpn pv
  have hH : ∀ c, (σ.apply d { v := x, up := [(n, .row e false ys), (b, .row e false xs)] }).blk c = if c = b then .row e false xs else if c = n then .row e false ys else σ.blk c := fun c => by
    simp only [St.apply, upd, St.blk, put_H]
    rw [getD_set _ _ _ _ _ (by simpa using hbl), getD_set _ _ _ _ _ hlen]
  have e1 : ∀ c, c ≠ n → plBlk (pl.upd n pv) c = plBlk pl c := fun c hc => by simp [plBlk, Pl.upd, hc]
  have e2 : plBlk (pl.upd n pv) n = blkOf pv := by simp [plBlk, Pl.upd]
  refine ⟨⟨h.mem.below, fun c => ?_, fun c c' g hne hoc hc hc' => ?_, fun c g hoc hc => ?_⟩, ?_, ?_⟩
  · rw [hH]
    have keep : c ≠ n → BlkR G 0 (pl.upd n pv) w c (σ.blk c) := fun hc => by
      have := (h.mem.blk c).turn ht (by simp [Pl.upd, hc])
      have hm : (σ.blk c).map (fun s => s) = σ.blk c := by cases σ.blk c <;> simp [Blk.map]
      rwa [hm] at this
    by_cases c1 : c = b
    · subst c1
      rw [if_pos rfl]
      have := keep hbn
      rw [hb] at this
      exact blk_ro this
    · rw [if_neg c1]
      by_cases c2 : c = n
      · subst c2; rw [if_pos rfl]; exact hB
      · rw [if_neg c2]; exact keep c2
  · rw [hH] at hoc
    by_cases c1 : c = b
    · rw [if_pos c1] at hoc; cases hoc
    · rw [if_neg c1] at hoc
      by_cases c2 : c = n
      · rw [if_pos c2] at hoc; cases hoc
      · rw [if_neg c2] at hoc
        rw [e1 c c2] at hc
        by_cases c3 : c' = n
        · subst c3
          rw [e2] at hc'
          exact h.mem.apart c b g c1 hoc hc (hf g hc')
        · rw [e1 c' c3] at hc'
          exact h.mem.apart c c' g hne hoc hc hc'
  · rw [hH] at hoc
    by_cases c1 : c = b
    · rw [if_pos c1] at hoc; cases hoc
    · rw [if_neg c1] at hoc
      by_cases c2 : c = n
      · rw [if_pos c2] at hoc; cases hoc
      · rw [if_neg c2] at hoc
        rw [e1 c c2] at hc
        exact h.mem.may c g hoc hc
  · have := ht.avs h.tmps
    simp only [AV.map_id, List.map_id'] at this
    exact put_tmps this d hx σ rfl
  · show R2 _ (σ.put d x).F as
    rw [put_F]
    have := ht.outer h.outer
    simp only [AV.map_id, List.map_id'] at this
    exact this
theorem row_of {H : Nat → Blk C} {s : Sc} {b : Nat} {e : TypeId} {xs : List (C.Elt e)} (h : rowOf H s = some (b, ⟨e, xs⟩)) : ∃ ow, H b = .row e ow xs := by
  cases s <;> simp only [rowOf] at h <;> try (cases h; done)
  all_goals
    split at h
    · rename_i e' ow xs' hb
      simp only [Option.some.injEq, Prod.mk.injEq, Sigma.mk.injEq] at h
      obtain ⟨rfl, rfl, h⟩ := h
      have h := eq_of_heq h
      subst h
      exact ⟨ow, hb⟩
    · cases h
theorem rel_view' (h : Rel G w0 σ as a w pl) (hS : Seen H σ.blk) (d : Option Tmp) {b : Nat} {s : Sc} {x : AV} {e : TypeId} {xs ys : List (C.Elt e)} {v pv : Value}
    (hn : σ.blk n = .gone) (hlen : n < σ.H.length) (hrow : rowOf H s = some (b, ⟨e, xs⟩)) (hB : BlkR G 0 (pl.upd n pv) w n (.row e false ys))
    (hf : ∀ g, blkOf pv = some g → plBlk pl b = some g) (hx : AVR (pl.upd n pv) x v) :
    Rel G w0 (σ.apply d { v := x, up := (n, .row e false ys) :: disUp H b }) as (a.put d v) w (pl.upd n pv) := by
  obtain ⟨ow, hb⟩ := row_of hrow
  have hb' := hS.row hb
  have h1 := rel_view h d hn hlen hb' hB hf hx
  cases ow with
  | true =>
    have : disUp H b = [(b, .row e false xs)] := by unfold disUp; rw [hb]
    rw [this]; exact h1
  | false =>
    have e1 : disUp H b = [] := by unfold disUp; rw [hb]
    have hbn : b ≠ n := by rintro rfl; rw [hn] at hb'; cases hb'
    have hbl : b < σ.H.length := by
      rcases Nat.lt_or_ge b σ.H.length with h1 | h1
      · exact h1
      · rw [St.blk, List.getD_eq_getElem?_getD, List.getElem?_eq_none h1] at hb'; cases hb'
    rw [e1]
    have hblk : (σ.apply d { v := x, up := [(n, .row e false ys)] }).blk = (σ.apply d { v := x, up := [(n, .row e false ys), (b, .row e false xs)] }).blk := by
      funext c
      simp only [St.apply, upd, St.blk, put_H]
      rw [getD_set _ _ _ _ _ hlen, getD_set _ _ _ _ _ (by simpa using hbl), getD_set _ _ _ _ _ hlen]
      by_cases c1 : c = b
      · subst c1
        rw [if_neg hbn, if_pos rfl]
        exact hb'
      · rw [if_neg c1]
    exact ⟨by rw [hblk]; exact h1.mem, h1.tmps, h1.outer⟩
theorem flat_take_drop (G : C.Good P) {e : TypeId} (he : C.has e = true) (xs : List (C.Elt e)) (l u : Nat) (hu : u ≤ xs.length) (hl : l ≤ u) {k : Nat} {v : Value} (h : (flat C e ((xs.take u).drop l))[k]? = some v) :
    (flat C e xs)[l * C.sz e + k]? = some v := by
  have h1 : xs = xs.take l ++ ((xs.take u).drop l ++ xs.drop u) := by
    have e1 : (xs.take u).take l ++ (xs.take u).drop l = xs.take u := List.take_append_drop l _
    rw [List.take_take, Nat.min_eq_left hl] at e1
    rw [← List.append_assoc, e1, List.take_append_drop]
  have h2 : (flat C e (xs.take l)).length = l * C.sz e := by
    rw [flat_len G he, List.length_take, Nat.min_eq_left (by omega)]
  rw [h1, flat_append, flat_append, List.getElem?_append_right (by omega), h2]
  have h3 : l * C.sz e + k - l * C.sz e = k := by omega
  rw [h3, List.getElem?_append_left (List.getElem?_eq_some_iff.1 h).1]
  exact h
theorem out_slice (h : Rel G w0 σ as a w pl) (hS : Seen H σ.blk) (hn : σ.blk n = .gone) (hlen : n < σ.H.length) {x : Operand} {lo hi mx : Option Operand} {t : TypeId} (ho : o.op = .slice t x lo hi mx)
    (hns : ∀ s0, σ.ev x ≠ .fl (.one (.str s0)))
    (hk : coreK P n H (.slice t x lo hi mx) (σ.ev x :: (lo.toList.map σ.ev ++ (hi.toList.map σ.ev ++ mx.toList.map σ.ev))) some = some r) : Out G w0 σ as a w o r := by
  have hx := ev_avr h x
  generalize σ.ev x = ax at hk hx hns
  rcases ax with (s | _) | _ | _ <;> try (exfalso; simp [coreK] at hk; done)
  simp only [coreK] at hk
  split at hk
  · rename_i s' ht
    exact absurd rfl (hns s')
  · rename_i s' e' ht
    split at hk
    · rename_i b e xs hrow
      obtain ⟨he, hk0⟩ := cond_none hk
      have he := Nat.eq_of_beq_eq_true he
      subst he
      obtain ⟨-, ⟨ow, hb⟩, hhas, ao, c, c0, hv, hp, hc, hmax, hnone, hr⟩ := rowOf_info hS h.mem hx hrow
      obtain ⟨hsz, hpos, _⟩ := G.sz _ hhas
      obtain ⟨q, hq⟩ : ∃ q, P.info? e = some q := by
        cases hq : P.info? e with
        | none => simp [Program.cellsOf, hq] at hsz; omega
        | some q => exact ⟨q, rfl⟩
      have hcell : q.size = C.sz e := by rw [← hsz]; simp [Program.cellsOf, hq]
      rw [← List.map_append] at hk0
      obtain ⟨l, hk1, hl⟩ := opt_slice h hk0
      rw [List.map_append] at hk1
      obtain ⟨u, hk2, hu⟩ := opt_slice h hk1
      obtain ⟨h1, hk3⟩ := cond_none hk2
      obtain ⟨h2, hk4⟩ := cond_none hk3
      obtain ⟨h3, hk5⟩ := cond_none hk4
      obtain ⟨h4, hk6⟩ := cond_none hk5
      clear hk hk0 hk1 hk2 hk3 hk4 hk5
      simp only [decide_eq_true_eq] at h1 h2 h3 h4
      have hylen : ((xs.take u.toNat).drop l.toNat).length = u.toNat - l.toNat := by
        rw [List.length_drop, List.length_take, Nat.min_eq_left (by omega)]
      -- the value, whatever room it is left
      have key : ∀ (m : Nat) (x' : Sc), u.toNat ≤ m → m ≤ c → (Instr.sliceAt t (a.eval x) (lo.map a.eval) (hi.map a.eval) (mx.map a.eval)).run P w = .ok (.slice (if m = l.toNat then ao else ao.map (·.add (l.toNat * q.size))) (u.toNat - l.toNat) (m - l.toNat)) w →
          (x' = .sl n ∨ (x' = .tsl n ∧ m = u.toNat)) → Out G w0 σ as a w o { v := .fl (.one x'), up := (n, .row e false ((xs.take u.toNat).drop l.toNat)) :: disUp H b } := by
        intro m x' hm1 hm2 hrun hx'
        refine ⟨.slice (if m = l.toNat then ao else ao.map (·.add (l.toNat * q.size))) (u.toNat - l.toNat) (m - l.toNat), w, pl.upd n (.slice (if m = l.toNat then ao else ao.map (·.add (l.toNat * q.size))) (u.toNat - l.toNat) (m - l.toNat)), .inl ?_, rel_view' h hS o.dst hn hlen hrow ?_ ?_ ?_⟩
        · simp only [execOp, ho]
          rw [Sem.run_bind, hrun]
          rfl
        · refine ⟨hhas, (if m = l.toNat then ao else ao.map (·.add (l.toNat * q.size))), m - l.toNat, by simp [Pl.upd, hylen], by omega, by omega, fun ha => ?_, fun ad had => ?_, ?_⟩
          · have : ao = none := by
              split at ha
              · exact ha
              · simpa using ha
            have := hnone this
            omega
          · have hro := blk_ro (hb ▸ h.mem.blk b)
            obtain ⟨_, a1, c1, e1, _, _, _, e5, _⟩ := hro
            rw [hp] at e1
            injection e1 with e1; injection e1 with e1 _ _; subst e1
            split at had
            · exact e5 ad had
            · cases ao with
              | none => cases had
              | some ad0 =>
                injection had with had; subst had
                rw [add_block]
                exact e5 ad0 rfl
          · by_cases hml : m = l.toNat
            · refine .inl ?_
              have : (xs.take u.toNat).drop l.toNat = [] := List.eq_nil_of_length_eq_zero (by omega)
              rw [this]; rfl
            · rw [if_neg hml]
              rcases hr with hr | ⟨ad, rfl, hr⟩
              · refine .inl ?_
                have h5 := flat_len G hhas xs
                rw [hr] at h5
                have h6 : xs.length = 0 := by
                  rcases Nat.mul_eq_zero.1 h5.symm with h7 | h7 <;> omega
                have : (xs.take u.toNat).drop l.toNat = [] := List.eq_nil_of_length_eq_zero (by omega)
                rw [this]; rfl
              · by_cases hne : flat C e xs = []
                · refine .inl ?_
                  have h5 := flat_len G hhas xs
                  rw [hne] at h5
                  have h6 : xs.length = 0 := by
                    rcases Nat.mul_eq_zero.1 h5.symm with h7 | h7 <;> omega
                  have : (xs.take u.toNat).drop l.toNat = [] := List.eq_nil_of_length_eq_zero (by omega)
                  rw [this]; rfl
                · have hsp : ad.spot = none := reads_spot (.inr ⟨ad, rfl, hr⟩) hne
                  refine .inr ⟨_, rfl, fun j v hj => ?_⟩
                  have h6 := hr _ _ (flat_take_drop G hhas xs l.toNat u.toNat (by omega) (by omega) hj)
                  show w.cell? ((ad.add (l.toNat * q.size)).add j) = some v
                  rw [hcell, addr_at hsp, Addr.add_mid]
                  rw [addr_at hsp, ← Nat.add_assoc] at h6
                  exact h6
        · intro g hg
          have : ∃ ad, ao = some ad ∧ ad.block = g := by
            cases ao with
            | none => split at hg <;> simp [blkOf] at hg
            | some ad =>
              refine ⟨ad, rfl, ?_⟩
              split at hg
              · simpa [blkOf] using hg
              · simpa [blkOf, add_block] using hg
          obtain ⟨ad, rfl, rfl⟩ := this
          simp [plBlk, hp, blkOf]
        · rcases hx' with rfl | ⟨rfl, rfl⟩
          · exact ⟨⟨_, _, _, if_pos rfl, rfl⟩, rfl⟩
          · exact ⟨⟨_, _, _, if_pos rfl, rfl⟩, rfl⟩
      have hlo : (lo = none ∧ l.toNat = 0) ∨ ∃ y ki i, lo = some y ∧ a.eval y = .int ki i ∧ 0 ≤ i ∧ l.toNat = i.toNat := by
        rcases hl with ⟨e, rfl⟩ | ⟨y, ki, e1, e2⟩
        · exact .inl ⟨e, rfl⟩
        · exact .inr ⟨y, ki, l, e1, e2, h3, rfl⟩
      have hrun : ∀ (m : Nat), (Instr.sliceBounds true xs.length c (lo.map a.eval) (hi.map a.eval) (mx.map a.eval)).run P w = .ok (l.toNat, u.toNat, m) w →
          (Instr.sliceAt t (a.eval x) (lo.map a.eval) (hi.map a.eval) (mx.map a.eval)).run P w = .ok (.slice (if m = l.toNat then ao else ao.map (·.add (l.toNat * q.size))) (u.toNat - l.toNat) (m - l.toNat)) w := fun m hb => by
        rw [hv]
        simp [Instr.sliceAt, Instr.slice, run_underlying ht, hb, run_sizeOf hq]
      cases mx with
      | none =>
        simp only [Option.toList_none, List.map_nil] at hk6
        injection hk6 with hk6; subst hk6
        refine key c (.sl n) (by omega) (Nat.le_refl _) (hrun c ?_) (.inl rfl)
        exact run_bounds (P := P) (a := a) (w := w) (mx := none) (code := .sliceAcap) hlo
          (by rcases hu with ⟨e, rfl⟩ | ⟨y, ki, e1, e2⟩
              · exact .inl ⟨e, rfl, by simp⟩
              · exact .inr ⟨y, ki, u, e1, e2, h1, rfl, by omega⟩)
          (.inl ⟨rfl, rfl⟩) (by omega) (Nat.le_refl _)
      | some ym =>
        have hym := ev_avr h ym
        simp only [Option.toList_some, List.map_cons, List.map_nil] at hk6
        generalize σ.ev ym = am at hk6 hym
        cases hi with
        | none => exfalso; simp at hk6
        | some yh =>
        rcases am with (sm | _) | _ | _ <;> try (exfalso; simp at hk6; done)
        cases sm <;> try (exfalso; simp at hk6; done)
        rename_i km m
        simp only at hk6
        obtain ⟨h5, hk7⟩ := cond_none hk6
        injection hk7 with hk7; subst hk7
        have h5 : m = u := by simpa using h5
        subst h5
        rcases hu with ⟨e, rfl⟩ | ⟨y, ki, e1, e2⟩
        · cases e
        · refine key m.toNat (.tsl n) (Nat.le_refl _) (by omega) (hrun m.toNat ?_) (.inr ⟨rfl, rfl⟩)
          exact run_bounds (P := P) (a := a) (w := w) (code := .sliceAcap) hlo
            (.inr ⟨y, ki, m, e1, e2, h1, rfl, Nat.le_refl _⟩)
            (.inr ⟨km, m, by rw [Option.map_some, fr_int hym], h1, rfl⟩) (by omega) (by omega)
    · cases hk
  · cases hk
end
end Go.Abs
