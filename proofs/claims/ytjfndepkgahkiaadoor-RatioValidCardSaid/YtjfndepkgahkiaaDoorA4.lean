/- EACH OPERATION OF THE MODEL DOES WHAT IS TOLD OF IT (first part: what an operation leaves behind; values without memory). -/
import Derived.Test.YtjfndepkgahkiaaDoorA3
import Derived.Tactics
import Derived.Deep.MidRow
import Derived.Maps.AppendAt
import Derived.Laws.MakeOwn
import Derived.Laws.StructEq
import Derived.Laws.Slices
import Derived.Laws.Strings
import Derived.WideLaws
set_option linter.unusedVariables false
set_option linter.unusedSimpArgs false
namespace Go.Abs
open Go.RowKit
section
variable {C : Codec} {P : Program} {G : C.Good P} {w0 : Base C}

/-- The operation yields v (or nothing: undef), the world w' is left. -/
def Does (P : Program) (o : Oper) (a : Act) (w : World) (v : Value) (w' : World) : Prop :=
  (execOp a.eval o).run P w = .ok (.value v) w' ∨ ((execOp a.eval o).run P w = .ok .skip w' ∧ v = undef)

theorem oneC_eq (v : Value) : oneC v = v.oneCell' := by cases v <;> rfl
theorem scOf_cr (pl : Pl) (v : Value) (h : oneC v = true) : CR pl (scOf v) v := by
  rw [oneC_eq] at h
  refine ⟨?_, h⟩
  cases v <;> simp [scOf, SR]
  case slice a n c =>
    cases a <;> cases n <;> cases c <;> simp [scOf, SR]
theorem flOf_fr (pl : Pl) (v : Value) : FR pl (flOf v) v := by
  cases v with
  | agg cs =>
    simp only [flOf]
    cases h : cs.toList.all oneC with
    | false => trivial
    | true =>
      refine ⟨cs, rfl, by simp, fun i x y hx hy => ?_⟩
      rw [List.getElem?_map, hy] at hx
      injection hx with hx
      subst hx
      exact scOf_cr pl y (List.all_eq_true.1 h y (List.mem_of_getElem? hy))
  | tuple vs => simp [flOf, scOf, FR]
  | _ => exact FR.one (scOf_cr pl _ rfl)
theorem ev_avr {σ : St C} {as : List Act} {a : Act} {w : World} {pl : Pl} (h : Rel G w0 σ as a w pl) (x : Operand) : AVR pl (σ.ev x) (a.eval x) := by
  cases x with
  | tmp t =>
    simp only [St.ev, Act.eval]
    by_cases ht : t < σ.T.length
    · have hx : σ.T[t]? = some σ.T[t] := List.getElem?_eq_getElem ht
      obtain ⟨y, hy, hr⟩ := h.tmps.get hx
      rw [List.getD_eq_getElem?_getD, hx]
      have : a.tmps[t]? = some y := by simpa using hy
      rw [Array.getD_eq_getD_getElem?, this]
      exact hr
    · rw [List.getD_eq_getElem?_getD, List.getElem?_eq_none (Nat.le_of_not_lt ht)]
      exact AVR.dead _
  | const v => exact flOf_fr pl v
  | global g => exact AVR.dead _
  | func f => exact ⟨#[], #[], rfl, R2.nil, R2.nil⟩
theorem vals_avr {σ : St C} {as : List Act} {a : Act} {w : World} {pl : Pl} (h : Rel G w0 σ as a w pl) (l : List Operand) : R2 (AVR pl) (l.map σ.ev) (l.map a.eval) :=
  ⟨by simp, fun i x y hx hy => by
    rw [List.getElem?_map] at hx hy
    cases e : l[i]? with
    | none => rw [e] at hx; cases hx
    | some o => rw [e] at hx hy; injection hx with hx; injection hy with hy; subst hx; subst hy; exact ev_avr h o⟩

/-! ### What is left behind -/
theorem put_tmps {T : List AV} {a : Act} {pl : Pl} (h : R2 (AVR pl) T a.tmps.toList) (d : Option Tmp) {x : AV} {v : Value} (hx : AVR pl x v) (σ : St C) (hσ : σ.T = T) : R2 (AVR pl) (σ.put d x).T (a.put d v).tmps.toList := by
  subst hσ
  cases d with
  | none => exact h
  | some d =>
    simp only [St.put, Act.put, Array.toList_setIfInBounds]
    exact h.set d hx
theorem getD_set {α : Type} (l : List α) (n : Nat) (x d : α) (b : Nat) (hn : n < l.length) : (l.set n x).getD b d = if b = n then x else l.getD b d := by
  rw [List.getD_eq_getElem?_getD, List.getElem?_set, List.getD_eq_getElem?_getD]
  by_cases h : n = b
  · subst h; simp [hn]
  · rw [if_neg h, if_neg (Ne.symm h)]
theorem getD_map (f : Sc → Sc) (l : List (Blk C)) (b : Nat) : (l.map (·.map f)).getD b .gone = (l.getD b .gone).map f := by
  rw [List.getD_eq_getElem?_getD, List.getElem?_map, List.getD_eq_getElem?_getD]
  cases l[b]? <;> rfl
theorem put_H (σ : St C) (d : Option Tmp) (x : AV) : (σ.put d x).H = σ.H := by cases d <;> rfl
theorem put_F (σ : St C) (d : Option Tmp) (x : AV) : (σ.put d x).F = σ.F := by cases d <;> rfl

theorem rel_pure {σ : St C} {as : List Act} {a : Act} {w : World} {pl : Pl} (h : Rel G w0 σ as a w pl) (d : Option Tmp) {x : AV} {v : Value} (hx : AVR pl x v) :
    Rel G w0 (σ.apply d { v := x }) as (a.put d v) w pl := by
  refine ⟨?_, ?_, ?_⟩
  · have : (σ.apply d { v := x }).blk = σ.blk := by funext b; simp [St.apply, upd, St.blk, put_H]
    rw [this]; exact h.mem
  · exact put_tmps h.tmps d hx σ rfl
  · show R2 _ (σ.put d x).F as; rw [put_F]; exact h.outer
theorem rel_new {σ : St C} {as : List Act} {a : Act} {w w' : World} {pl : Pl} (h : Rel G w0 σ as a w pl) (d : Option Tmp) {n : Nat} {x : AV} {B : Blk C} {v pv : Value}
    (hn : σ.blk n = .gone) (hlen : n < σ.H.length) (hg : w.grownBy w' none) (hB : BlkR G 0 (pl.upd n pv) w' n B) (hf : ∀ g, blkOf pv = some g → w.heap.size ≤ g) (hx : AVR (pl.upd n pv) x v) :
    Rel G w0 (σ.apply d { v := x, up := [(n, B)] }) as (a.put d v) w' (pl.upd n pv) := by
  have hpn : pl n = none := by have := h.mem.blk n; rw [hn] at this; exact this
  have ht := Turns.fresh hpn pv
  refine ⟨h.mem.new hn hg hB hf (fun b => ?_), ?_, ?_⟩
  · simp only [St.apply, upd, St.blk, put_H]
    exact getD_set _ _ _ _ _ hlen
  · have := ht.avs h.tmps
    simp only [AV.map_id, List.map_id'] at this
    exact put_tmps this d hx σ rfl
  · show R2 _ (σ.put d x).F as
    rw [put_F]
    have := ht.outer h.outer
    simp only [AV.map_id, List.map_id'] at this
    exact this
theorem rel_turn {σ : St C} {as : List Act} {a : Act} {w w' : World} {pl : Pl} (h : Rel G w0 σ as a w pl) (d : Option Tmp) {b : Nat} {x : AV} {B : Blk C} {v : Value}
    (ho : own (σ.blk b) = true) (hg : w.grownBy w' (plBlk pl b)) (hB : BlkR G 0 pl w' b B) (hx : AVR pl x v) :
    Rel G w0 (σ.apply d { v := x, up := [(b, B)] }) as (a.put d v) w' pl := by
  have hlen : b < σ.H.length := by
    rcases Nat.lt_or_ge b σ.H.length with h1 | h1
    · exact h1
    · rw [St.blk, List.getD_eq_getElem?_getD, List.getElem?_eq_none h1] at ho; cases ho
  refine ⟨h.mem.turn ho hg hB (fun c => ?_), put_tmps h.tmps d hx σ rfl, ?_⟩
  · simp only [St.apply, upd, St.blk, put_H]
    exact getD_set _ _ _ _ _ hlen
  · show R2 _ (σ.put d x).F as; rw [put_F]; exact h.outer
/-- A row that was appended to: it lies where it lay, or elsewhere. -/
theorem rel_moved {σ : St C} {as : List Act} {a : Act} {w w' : World} {pl : Pl} (h : Rel G w0 σ as a w pl) (d : Option Tmp) {b : Nat} {B : Blk C} {v v1 : Value} {ao : Option Addr} {n c : Nat}
    (ho : own (σ.blk b) = true) (hpb : pl b = some (.slice ao n c)) (hg : w.grownBy w' (plBlk pl b)) (hB : BlkR G 0 (pl.upd b v1) w' b B) (hoB : own B = true)
    (hf : blkOf v1 = plBlk pl b ∨ ∀ g, blkOf v1 = some g → w.heap.size ≤ g) (hx : AVR (pl.upd b v1) (.fl (.one (.sl b))) v) :
    Rel G w0 (σ.apply d { v := .fl (.one (.sl b)), up := [(b, B)], kill := some b }) as (a.put d v) w' (pl.upd b v1) := by
  have hlen : b < σ.H.length := by
    rcases Nat.lt_or_ge b σ.H.length with h1 | h1
    · exact h1
    · rw [St.blk, List.getD_eq_getElem?_getD, List.getElem?_eq_none h1] at ho; cases ho
  have ht := Turns.die hpb v1
  have e1 : ∀ c, c ≠ b → plBlk (pl.upd b v1) c = plBlk pl c := fun c hc => by simp [plBlk, Pl.upd, hc]
  have e2 : plBlk (pl.upd b v1) b = blkOf v1 := by simp [plBlk, Pl.upd]
  have hH : ∀ c, (σ.apply d { v := .fl (.one (.sl b)), up := [(b, B)], kill := some b }).blk c = if c = b then B else (σ.blk c).map (Sc.die b) := fun c => by
    simp only [St.apply, upd, St.blk, St.map, put_H]
    rw [getD_set _ _ _ _ _ (by simpa using hlen), getD_map]
  refine ⟨⟨?_, fun c => ?_, fun c c' g hne hoc hc hc' => ?_, fun c g hoc hc => ?_⟩, ?_, ?_⟩
  · exact h.mem.below.grown hg (fun k hk => h.mem.may b k ho hk)
  · rw [hH]
    by_cases e : c = b
    · subst e; rw [if_pos rfl]; exact hB
    · rw [if_neg e]
      have h1 : BlkR G 0 pl w' c (σ.blk c) := (h.mem.blk c).step hg.size (fun g hp => hg.block g ((h.mem.blk c).lt hp) (fun hk => h.mem.apart b c g (Ne.symm e) ho hk.symm hp))
      exact h1.turn ht (by simp [Pl.upd, e])
  · rw [hH] at hoc
    have hmap : ∀ (x : Blk C), own (x.map (Sc.die b)) = own x := fun x => by cases x <;> rfl
    by_cases c1 : c = b
    · subst c1
      have c2 : c' ≠ c := Ne.symm hne
      rw [e2] at hc
      rw [e1 _ c2] at hc'
      rcases hf with hf | hf
      · exact h.mem.apart c c' g hne ho (hf ▸ hc) hc'
      · have := (h.mem.blk c').lt hc'; have := hf g hc; omega
    · rw [if_neg c1, hmap] at hoc
      rw [e1 _ c1] at hc
      by_cases c2 : c' = b
      · subst c2
        rw [e2] at hc'
        rcases hf with hf | hf
        · exact h.mem.apart c c' g hne hoc hc (hf ▸ hc')
        · have := (h.mem.blk c).lt hc; have := hf g hc'; omega
      · rw [e1 _ c2] at hc'
        exact h.mem.apart c c' g hne hoc hc hc'
  · rw [hH] at hoc
    by_cases c1 : c = b
    · subst c1
      rw [e2] at hc
      rcases hf with hf | hf
      · exact h.mem.may c g ho (hf ▸ hc)
      · exact h.mem.below.fresh (hf g hc)
    · rw [e1 _ c1] at hc
      have hmap : ∀ (x : Blk C), own (x.map (Sc.die b)) = own x := fun x => by cases x <;> rfl
      rw [if_neg c1, hmap] at hoc
      exact h.mem.may c g hoc hc
  · have := ht.avs h.tmps
    exact put_tmps this d hx (σ.map (Sc.die b)) rfl
  · show R2 _ ((σ.map (Sc.die b)).put d _).F as
    rw [put_F]
    exact ht.outer h.outer
end
end Go.Abs
