/- A CALL OF A FUNCTION THAT IS KNOWN BY ITS ANSWERS. -/
import Derived.Test.YtjfndepkgahkiaaDoorA19
set_option linter.unusedVariables false
set_option linter.unusedSimpArgs false
namespace Go.Abs
open Go.RowKit
section
variable {C : Codec} {P : Program} {G : C.Good P} {w0 : Base C} {σ : St C} {as : List Act} {a : Act} {w w' : World} {pl : Pl} {n : Nat} {H : Nat → Blk C} {o : Oper} {r : Res C}

/-- What is handed in: plain values, rows that can be read. -/
def RVA (w : World) : RV C → Value → Prop
  | .fl x, v => x.cells.all scPlain = true ∧ FR (fun _ => none) x v
  | .row e xs, v => C.has e = true ∧ ∃ a c, v = .slice a xs.length c ∧ xs.length ≤ c ∧ xs.length ≤ 9223372036854775807 ∧ (a = none → c = 0) ∧ (∀ ad, a = some ad → ad.block < w.heap.size) ∧ Reads w a (flat C e xs)
/-- What comes back: plain values, new rows. -/
def RVO (w : World) (base : Nat) : RV C → Value → Prop
  | .fl x, v => x.cells.all scPlain = true ∧ FR (fun _ => none) x v
  | .row e xs, v => C.has e = true ∧ w.ownsRow base e (C.sz e) v xs.length (flat C e xs)
def Distinct (us : List Value) : Prop := ∀ (i j : Nat) (u u' : Value) (g : Nat), us[i]? = some u → us[j]? = some u' → i ≠ j → blkOf u = some g → blkOf u' ≠ some g
def tupVal : List Value → Value
  | [v] => v
  | l => .tuple l.toArray
def KnownAt (C : Codec) (P : Program) (f : FuncId) (φ : List (RV C) → Option (List (RV C))) : Prop :=
  ∀ l rs w vs, C.inv w → φ l = some rs → R2 (RVA w) l vs → Calls P f vs.toArray w fun e w' => ∃ us, e = .returned (tupVal us) ∧ Below w.heap.size w w' ∧ R2 (RVO w' w.heap.size) rs us ∧ Distinct us

/-- A plain value is told the same wherever rows lie. -/
theorem plain_sr {s : Sc} {v : Value} {pl pl' : Pl} (hp : scPlain s = true) (h : CR pl s v) : CR pl' s v := by
  cases s <;> simp [scPlain] at hp <;> exact h
theorem plain_fr {x : Fl} {v : Value} {pl pl' : Pl} (hp : x.cells.all scPlain = true) (h : FR pl x v) : FR pl' x v := by
  cases x with
  | one s =>
    have hs : scPlain s = true := by simpa [Fl.cells] using hp
    have hl : s.live = true := by cases s <;> simp [scPlain] at hs <;> rfl
    exact FR.one (plain_sr hs (h.cr hl))
  | agg cs =>
    obtain ⟨vs, rfl, h1⟩ := h
    exact ⟨vs, rfl, h1.mono fun s v hs hc => plain_sr (List.all_eq_true.1 hp s hs) hc⟩
theorem plain_blk {x : Fl} {v : Value} {pl : Pl} (hp : x.cells.all scPlain = true) (h : FR pl x v) : blkOf v = none := by
  cases x with
  | one s =>
    have hs : scPlain s = true := by simpa [Fl.cells] using hp
    cases s <;> simp [scPlain] at hs <;> (have := h.1; simp only [SR] at this; subst this; rfl)
  | agg cs =>
    obtain ⟨vs, rfl, h1⟩ := h
    rfl
theorem toRV_sound (hS : Seen H σ.blk) (hm : Mem G w0 pl σ.blk w) {t : TypeId} {x : AV} {v : Value} {rv : RV C} (hx : AVR pl x v) (h : toRV P H t x = some rv) : RVA w rv v := by
  unfold toRV at h
  split at h
  · split at h
    · rename_i e he
      obtain ⟨hhas, h2⟩ := cond_none h
      injection h2 with h2; subst h2
      have := fr_nsl hx; subst this
      exact ⟨hhas, none, 0, rfl, Nat.le_refl _, by simp, fun _ => rfl, (fun ad hd => by cases hd), .inl rfl⟩
    · cases h
  · rename_i x' _
    cases hp : x'.cells.all scPlain with
    | true =>
      rw [hp] at h
      injection h with h; subst h
      exact ⟨hp, plain_fr hp hx⟩
    | false =>
      rw [hp] at h
      simp only [Bool.cond_false] at h
      split at h
      · rename_i s
        split at h
        · rename_i b e xs e' hrow he
          obtain ⟨h1, h2⟩ := cond_none h
          injection h2 with h2; subst h2
          obtain ⟨hs, ⟨ow, hb⟩, hhas, ao, c, c0, hv, hpl, hc, hmax, hnone, hr⟩ := rowOf_info hS hm hx hrow
          refine ⟨hhas, ao, c, hv, hc, hmax, hnone, fun ad had => ?_, hr⟩
          have := (hm.blk b).lt (g := ad.block) (by simp [plBlk, hpl, had, blkOf])
          exact this
        · cases h
      · cases h
  · cases h
theorem toRVs_sound (hS : Seen H σ.blk) (hm : Mem G w0 pl σ.blk w) : ∀ {ts : List TypeId} {xs : List AV} {vs : List Value} {l : List (RV C)}, R2 (AVR pl) xs vs → toRVs P H ts xs = some l → R2 (RVA w) l vs
  | [], [], vs, l, hx, h => by
    have := hx.nil_inv; subst this
    simp only [toRVs, Option.some.injEq] at h; subst h
    exact R2.nil
  | t :: ts, x :: xs, vs, l, hx, h => by
    obtain ⟨v, vs', rfl, hv, hx'⟩ := hx.cons_inv
    simp only [toRVs] at h
    split at h
    · rename_i y l' hy hl'
      injection h with h; subst h
      exact R2.cons (toRV_sound hS hm hv hy) (toRVs_sound hS hm hx' hl')
    · cases h
  | [], _ :: _, _, _, _, h => by simp [toRVs] at h
  | _ :: _, [], _, _, _, h => by simp [toRVs] at h

/-- A block more, where nothing is told of. -/
theorem Mem.add {pl : Pl} {H H' : Nat → Blk C} {w : World} {n : Nat} {x : Blk C} {v : Value} (h : Mem G w0 pl H w) (hn : H n = .gone)
    (hx : BlkR G 0 (pl.upd n v) w n x) (hf : ∀ b g, plBlk pl b = some g → blkOf v ≠ some g) (hy : ∀ g, blkOf v = some g → w0.may g) (hH : ∀ b, H' b = if b = n then x else H b) : Mem G w0 (pl.upd n v) H' w := by
  have hpn : pl n = none := by have := h.blk n; rw [hn] at this; exact this
  refine ⟨h.below, fun b => ?_, fun b b' g hne ho hb hb' => ?_, fun b g ho hb => ?_⟩
  · rw [hH]
    by_cases e : b = n
    · subst e; rw [if_pos rfl]; exact hx
    · rw [if_neg e]
      have := (h.blk b).turn (Turns.fresh hpn v) (by simp [Pl.upd, e])
      have hm : (H b).map (fun s => s) = H b := by cases H b <;> simp [Blk.map]
      rw [hm] at this
      exact this
  · have e1 : ∀ c, c ≠ n → plBlk (pl.upd n v) c = plBlk pl c := fun c hc => by simp [plBlk, Pl.upd, hc]
    have e2 : plBlk (pl.upd n v) n = blkOf v := by simp [plBlk, Pl.upd]
    by_cases c : b = n
    · subst c
      rw [e2] at hb
      rw [e1 _ (Ne.symm hne)] at hb'
      exact hf b' g hb' hb
    · rw [e1 _ c] at hb
      rw [hH, if_neg c] at ho
      by_cases c' : b' = n
      · subst c'
        rw [e2] at hb'
        exact hf b g hb hb'
      · rw [e1 _ c'] at hb'
        exact h.apart b b' g hne ho hb hb'
  · rw [hH] at ho
    by_cases c : b = n
    · subst c
      have e2 : plBlk (pl.upd b v) b = blkOf v := by simp [plBlk, Pl.upd]
      rw [e2] at hb
      exact hy g hb
    · have e1 : plBlk (pl.upd n v) b = plBlk pl b := by simp [plBlk, Pl.upd, c]
      rw [if_neg c] at ho
      rw [e1] at hb
      exact h.may b g ho hb
theorem Turns.idTrans {p1 p2 p3 : Pl} (h : Turns (fun s => s) p1 p2) (k : Turns (fun s => s) p2 p3) : Turns (fun s => s) p1 p3 := ⟨rfl, fun s v hs => k.sc s v (h.sc s v hs)⟩
theorem Turns.idRefl (p : Pl) : Turns (fun s => s) p p := ⟨rfl, fun _ _ h => h⟩
theorem Turns.idFl {p p' : Pl} (h : Turns (fun s => s) p p') {x : Fl} {v : Value} (hx : FR p x v) : FR p' x v := by
  have := h.fl hx
  rwa [Fl.map_id] at this
/-- What came back lies in new blocks. -/
theorem news {base : Nat} : ∀ {rs : List (RV C)} {us : List Value} {n : Nat} {H : List (Blk C)} {pl : Pl}, (∀ i, i < rowsIn rs → H.getD (n + i) .gone = .gone ∧ n + i < H.length) → Mem G w0 pl (fun b => H.getD b .gone) w →
    R2 (RVO w base) rs us → (∀ u, u ∈ us → ∀ b g, plBlk pl b = some g → blkOf u ≠ some g) → (∀ u, u ∈ us → ∀ g, blkOf u = some g → w0.may g) → Distinct us →
    ∃ pl', Mem G w0 pl' (fun b => (upd H (ofRVs n rs).2).getD b .gone) w ∧ Turns (fun s => s) pl pl' ∧ R2 (FR pl') (ofRVs n rs).1 us
  | [], us, n, H, pl, hn, hm, hr, hf, hy, hd => by
    have := hr.nil_inv; subst this
    exact ⟨pl, hm, Turns.idRefl pl, R2.nil⟩
  | .fl x :: rs, us, n, H, pl, hn, hm, hr, hf, hy, hd => by
    obtain ⟨u, us', rfl, hu, hr'⟩ := hr.cons_inv
    obtain ⟨pl', h1, h2, h3⟩ := news (rs := rs) (us := us') (n := n) (H := H) (pl := pl) hn hm hr' (fun u hu => hf u (List.mem_cons_of_mem _ hu)) (fun u hu => hy u (List.mem_cons_of_mem _ hu))
      (fun i j u u' g h1 h2 hne => hd (i + 1) (j + 1) u u' g (by simpa using h1) (by simpa using h2) (by omega))
    exact ⟨pl', h1, h2, R2.cons (plain_fr hu.1 hu.2) h3⟩
  | .row e xs :: rs, us, n, H, pl, hn, hm, hr, hf, hy, hd => by
    obtain ⟨u, us', rfl, ⟨hhas, hu⟩, hr'⟩ := hr.cons_inv
    have hn0 := hn 0 (by simp [rowsIn])
    rw [Nat.add_zero] at hn0
    have hpn : pl n = none := by
      have := hm.blk n
      simp only [hn0.1] at this
      exact this
    obtain ⟨a', c', hu'⟩ := ownsRow_slice hu
    have hm' : Mem G w0 (pl.upd n u) (fun b => (H.set n (.row e true xs)).getD b .gone) w := by
      refine hm.add (n := n) (x := .row e true xs) hn0.1 ⟨hhas, u, if_pos rfl, ?_⟩ (hf u List.mem_cons_self) (hy u List.mem_cons_self) (fun b => getD_set _ _ _ _ _ hn0.2)
      -- the row is new for the elder world, too
      refine ⟨hu.1, ?_⟩
      rcases hu.2 with h1 | ⟨g, cap, cur, h1, h2, h3⟩
      · exact .inl h1
      · exact .inr ⟨g, cap, cur, h1, Nat.zero_le _, h3⟩
    obtain ⟨pl', h1, h2, h3⟩ := news (rs := rs) (us := us') (n := n + 1) (H := H.set n (.row e true xs)) (pl := pl.upd n u)
      (fun i hi => by
        have := hn (i + 1) (by simp only [rowsIn]; omega)
        have e1 : n + 1 + i = n + (i + 1) := by omega
        rw [e1]
        refine ⟨?_, by rw [List.length_set]; exact this.2⟩
        rw [getD_set _ _ _ _ _ hn0.2, if_neg (by omega)]
        exact this.1) hm' hr'
      (fun u' hu' b g hg => by
        by_cases c : b = n
        · subst c
          have e2 : blkOf u = some g := by simpa [plBlk, Pl.upd] using hg
          obtain ⟨i, hi⟩ := List.getElem?_of_mem hu'
          exact hd 0 (i + 1) u u' g rfl (by simpa using hi) (by omega) e2
        · have e2 : plBlk pl b = some g := by simpa [plBlk, Pl.upd, c] using hg
          exact hf u' (List.mem_cons_of_mem _ hu') b g e2) (fun u' hu' => hy u' (List.mem_cons_of_mem _ hu'))
      (fun i j u u' g h1 h2 hne => hd (i + 1) (j + 1) u u' g (by simpa using h1) (by simpa using h2) (by omega))
    refine ⟨pl', h1, Turns.idTrans (Turns.fresh hpn u) h2, R2.cons ?_ h3⟩
    exact h2.idFl (x := .one (.sl n)) ⟨⟨a', _, c', by rw [← hu']; exact if_pos rfl, hu'⟩, by rw [hu']; rfl⟩
theorem below_grown (h : Below w.heap.size w w') : w.grownBy w' none := ⟨h.os, h.tape, h.output, h.size, fun k hk _ => h.block k hk⟩
theorem tupVal_av {xs : List Fl} {us : List Value} (h : R2 (FR pl) xs us) : AVR pl (tupOf xs) (tupVal us) := by
  match xs, us, h with
  | [], us, h => have := h.nil_inv; subst this; exact ⟨#[], rfl, R2.nil⟩
  | [x], us, h =>
    obtain ⟨u, us', rfl, hu, h'⟩ := h.cons_inv
    have := h'.nil_inv; subst this
    exact hu
  | x :: y :: l, us, h =>
    obtain ⟨u, us', rfl, hu, h'⟩ := h.cons_inv
    obtain ⟨u', us'', rfl, hu', h''⟩ := h'.cons_inv
    exact ⟨_, rfl, by simpa using h⟩
/-- What is left behind by a known call. -/
theorem rel_known (h : Rel G w0 σ as a w pl) (d : Option Tmp) {rs : List (RV C)} {us : List Value} (hn : ∀ i, i < rowsIn rs → σ.blk (n + i) = .gone ∧ n + i < σ.H.length) (hb : Below w.heap.size w w') (hr : R2 (RVO w' w.heap.size) rs us) (hd : Distinct us) :
    ∃ pl', Rel G w0 (σ.apply d { v := tupOf (ofRVs n rs).1, up := (ofRVs n rs).2 }) as (a.put d (tupVal us)) w' pl' := by
  have hm := h.mem.grown (below_grown hb)
  obtain ⟨pl', h1, h2, h3⟩ := news (base := w.heap.size) hn hm hr (fun u hu b g hg hgu => by
      have hlt := (h.mem.blk b).lt hg
      obtain ⟨i, hi⟩ := List.getElem?_of_mem hu
      have hil : i < rs.length := by rw [hr.1]; exact (List.getElem?_eq_some_iff.1 hi).1
      have hrv := hr.2 i _ u (List.getElem?_eq_getElem hil) hi
      revert hrv
      cases rs[i] with
      | fl x => intro hrv; have := plain_blk hrv.1 hrv.2; rw [this] at hgu; cases hgu
      | row e xs =>
        intro hrv
        rcases hrv.2.2 with ⟨h1, _⟩ | ⟨g', cap, cur, h1, h2, h3⟩
        · subst h1; simp [blkOf] at hgu
        · subst h1; simp only [blkOf, Option.some.injEq] at hgu; omega) (fun u hu g hgu => by
      obtain ⟨i, hi⟩ := List.getElem?_of_mem hu
      have hil : i < rs.length := by rw [hr.1]; exact (List.getElem?_eq_some_iff.1 hi).1
      have hrv := hr.2 i _ u (List.getElem?_eq_getElem hil) hi
      revert hrv
      cases rs[i] with
      | fl x => intro hrv; have := plain_blk hrv.1 hrv.2; rw [this] at hgu; cases hgu
      | row e xs =>
        intro hrv
        rcases hrv.2.2 with ⟨h1, _⟩ | ⟨g', cap, cur, h1, h2, h3⟩
        · subst h1; simp [blkOf] at hgu
        · subst h1; simp only [blkOf, Option.some.injEq] at hgu; subst hgu; exact h.mem.below.fresh h2) hd
  refine ⟨pl', ?_, ?_, ?_⟩
  · have : (σ.apply d { v := tupOf (ofRVs n rs).1, up := (ofRVs n rs).2 }).blk = fun b => (upd σ.H (ofRVs n rs).2).getD b .gone := by
      funext b; simp [St.apply, St.blk]
    rw [this]; exact h1
  · have := h2.avs h.tmps
    simp only [AV.map_id, List.map_id'] at this
    exact put_tmps this d (tupVal_av h3) σ rfl
  · show R2 _ (σ.put d _).F as
    rw [put_F]
    have := h2.outer h.outer
    simp only [AV.map_id, List.map_id'] at this
    exact this
end
end Go.Abs
