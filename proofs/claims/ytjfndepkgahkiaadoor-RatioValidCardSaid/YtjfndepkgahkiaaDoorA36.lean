/- A CALL OF A FUNCTION THAT TAKES OVER A ROW, OR WHAT A VARIABLE HOLDS. -/
import Derived.Test.YtjfndepkgahkiaaDoorA20
import Derived.OwnWalk
set_option linter.unusedVariables false
set_option linter.unusedSimpArgs false
namespace Go.Abs
open Go.RowKit
section
variable {C : Codec} {P : Program} {G : C.Good P} {w0 : Base C} {σ : St C} {as : List Act} {a : Act} {w w' : World} {pl pl' : Pl} {n : Nat} {H H' : Nat → Blk C} {o : Oper} {r : Res C}

/-- What is known of a function that takes something over: it may change that, and new blocks. -/
def KnownAtE (C : Codec) (P : Program) (f : FuncId) (E : List Eat) (φ : List (RV C) → Option (List (RV C))) : Prop :=
  ∀ l rs, φ l = some rs → ∃ xs bl fn, inE 0 E l = some (xs, bl) ∧ P.funcs[f]? = some fn ∧
    ∀ (G : C.Good P) (w0 : Base C) (w : World) (pl : Pl) (vals : List Value), Mem G w0 pl (fun b => bl.getD b .gone) w → R2 (AVR pl) xs vals →
      Calls P f vals.toArray w fun e w' => ∃ v, e = .returned v ∧ ∃ x σ' pl', Mem G w0 pl' σ'.blk w' ∧ AVR pl' x v ∧ R2 (AVR pl') σ'.T vals ∧ finE P E fn.resultTypes.toList x σ' = some rs

/-! ### What comes out -/
theorem memN_of_mem {b : Nat} : ∀ {l : List Nat}, b ∈ l → memN b l = true
  | [], h => by cases h
  | c :: r, h => by
    rcases List.mem_cons.1 h with rfl | h
    · simp [memN]
    · simp [memN, memN_of_mem h]
theorem outRV_sound (hm : Mem G w0 pl σ.blk w) : ∀ {ts : List TypeId} {xs : List Fl} {seen : List Nat} {rs : List (RV C)} {us : List Value}, outRV P σ.blk seen ts xs = some rs → R2 (FR pl) xs us →
    R2 (RVO w 0) rs us ∧ (∀ u, u ∈ us → ∀ g, blkOf u = some g → ∃ b e xs, b ∉ seen ∧ σ.blk b = .row e true xs ∧ plBlk pl b = some g) ∧ Distinct us
  | [], [], seen, rs, us, h, hx => by
    have := hx.nil_inv; subst this
    simp only [outRV, Option.some.injEq] at h; subst h
    exact ⟨R2.nil, (fun u hu => by cases hu), fun i j u u' g h1 => by simp at h1⟩
  | t :: ts, x :: xs, seen, rs, us, h, hx => by
    obtain ⟨u, us', rfl, hu, hx'⟩ := hx.cons_inv
    have plainTail : ∀ rv l, blkOf u = none → RVO w 0 rv u → outRV P σ.blk seen ts xs = some l → R2 (RVO w 0) (rv :: l) (u :: us') ∧ (∀ u', u' ∈ u :: us' → ∀ g, blkOf u' = some g → ∃ b e xs, b ∉ seen ∧ σ.blk b = .row e true xs ∧ plBlk pl b = some g) ∧ Distinct (u :: us') := fun rv l hn hrv hl => by
      obtain ⟨h1, h2, h3⟩ := outRV_sound hm hl hx'
      refine ⟨R2.cons hrv h1, fun u' hu' g hg => ?_, fun i j v v' g h4 h5 hne hg => ?_⟩
      · rcases List.mem_cons.1 hu' with rfl | hu'
        · rw [hn] at hg; cases hg
        · exact h2 u' hu' g hg
      · cases i with
        | zero => simp only [List.getElem?_cons_zero, Option.some.injEq] at h4; subst h4; rw [hn] at hg; cases hg
        | succ i =>
          cases j with
          | zero => simp only [List.getElem?_cons_zero, Option.some.injEq] at h5; subst h5; rw [hn]; simp
          | succ j => exact h3 i j v v' g (by simpa using h4) (by simpa using h5) (by omega) hg
    unfold outRV at h
    split at h
    · split at h
      · rename_i e he
        obtain ⟨hhas, h2⟩ := cond_none h
        split at h2
        · rename_i l hl
          injection h2 with h2; subst h2
          have := fr_nsl hu; subst this
          exact plainTail _ l rfl ⟨hhas, World.ownsRow_nil w _ e _⟩ hl
        · cases h2
      · cases h
    · rename_i b
      split at h
      · rename_i e xs0 hb hseen
        split at h
        · rename_i l hl
          injection h with h; subst h
          have hB := hm.blk b
          rw [hb] at hB
          obtain ⟨hhas, v0, hp, hrow⟩ := hB
          obtain ⟨a0, n0, c0, h5, rfl⟩ := fr_sl hu
          rw [hp] at h5
          injection h5 with h5; subst h5
          have hown : own (σ.blk b) = true := by rw [hb]; rfl
          have hns : b ∉ seen := fun hh => by
            have : memN b seen = true := memN_of_mem hh
            rw [this] at hseen; cases hseen
          obtain ⟨h1, h2, h3⟩ := outRV_sound hm hl hx'
          refine ⟨R2.cons ⟨hhas, hrow⟩ h1, fun u' hu' g hg => ?_, fun i j v v' g h4 h5 hne hg => ?_⟩
          · rcases List.mem_cons.1 hu' with rfl | hu'
            · exact ⟨b, e, xs0, hns, hb, by simp only [plBlk, hp]; exact hg⟩
            · obtain ⟨b', e', xs', h6, h7⟩ := h2 u' hu' g hg
              exact ⟨b', e', xs', fun hh => h6 (List.mem_cons_of_mem _ hh), h7⟩
          · cases i with
            | zero =>
              simp only [List.getElem?_cons_zero, Option.some.injEq] at h4; subst h4
              cases j with
              | zero => exact absurd rfl hne
              | succ j =>
                intro hg'
                obtain ⟨b', e', xs', h6, h7, h8⟩ := h2 v' (List.mem_of_getElem? (by simpa using h5)) g hg'
                have hbb : b ≠ b' := fun e => h6 (e ▸ List.mem_cons_self)
                exact hm.apart b b' g hbb hown (by simp only [plBlk, hp]; exact hg) h8
            | succ i =>
              cases j with
              | zero =>
                simp only [List.getElem?_cons_zero, Option.some.injEq] at h5; subst h5
                intro hg'
                obtain ⟨b', e', xs', h6, h7, h8⟩ := h2 v (List.mem_of_getElem? (by simpa using h4)) g hg
                have hbb : b ≠ b' := fun e => h6 (e ▸ List.mem_cons_self)
                exact hm.apart b b' g hbb hown (by simp only [plBlk, hp]; exact hg') h8
              | succ j => exact h3 i j v v' g (by simpa using h4) (by simpa using h5) (by omega) hg
        · cases h
      · cases h
    · obtain ⟨hp, h2⟩ := cond_none h
      split at h2
      · rename_i l hl
        injection h2 with h2; subst h2
        exact plainTail _ l (plain_blk hp hu) ⟨hp, plain_fr hp hu⟩ hl
      · cases h2
  | [], _ :: _, _, _, _, h, _ => by simp [outRV] at h
  | _ :: _, [], _, _, _, h, _ => by simp [outRV] at h
theorem flsOf_spec {x : AV} {xs : List Fl} {v : Value} (h : flsOf x = some xs) (hx : AVR pl x v) : ∃ us, v = tupVal us ∧ R2 (FR pl) xs us := by
  unfold flsOf at h
  split at h
  · injection h with h; subst h; exact ⟨[v], rfl, R2.cons hx R2.nil⟩
  · injection h with h; subst h
    obtain ⟨us, rfl, hu⟩ := hx
    have : us.toList = [] := hu.nil_inv
    have : us = #[] := by simpa using this
    subst this
    exact ⟨[], rfl, R2.nil⟩
  · injection h with h; subst h
    obtain ⟨us, rfl, hu⟩ := hx
    refine ⟨us.toList, ?_, hu⟩
    obtain ⟨u, us', e1, _, hu'⟩ := hu.cons_inv
    obtain ⟨u2, us2, e2, _, _⟩ := hu'.cons_inv
    rw [e1, e2]
    simp only [tupVal]
    rw [← e2, ← e1]
  · cases h

/-! ### What goes in -/
structure StdOne (pl : Pl) (H : Nat → Blk C) (b? : Option Nat) (k : Nat) (x : Blk C) (v : Value) : Prop where
  own : own x = true → k ≠ 0
  src : ∀ g, blkOf v = some g → ∃ b, b? = some b ∧ plBlk pl b = some g ∧ (k ≠ 0 → Go.Abs.own (H b) = true)
def Std (pl : Pl) (H : Nat → Blk C) : List (Option Nat × Nat) → List (Blk C) → List Value → Prop
  | [], [], [] => True
  | (b, k) :: q, x :: bl, v :: rows => StdOne pl H b k x v ∧ Std pl H q bl rows
  | _, _, _ => False
theorem Std.append : ∀ {q1 q2 : List (Option Nat × Nat)} {b1 b2 : List (Blk C)} {r1 r2 : List Value}, Std pl H q1 b1 r1 → Std pl H q2 b2 r2 → Std pl H (q1 ++ q2) (b1 ++ b2) (r1 ++ r2)
  | [], q2, [], b2, [], r2, _, h => h
  | (b, k) :: q, q2, x :: bl, b2, v :: rows, r2, h1, h2 => ⟨h1.1, h1.2.append h2⟩
  | [], _, _ :: _, _, _, _, h, _ => h.elim
  | [], _, [], _, _ :: _, _, h, _ => h.elim
  | _ :: _, _, [], _, _, _, h, _ => h.elim
  | _ :: _, _, _ :: _, _, [], _, h, _ => h.elim
theorem Std.len : ∀ {q : List (Option Nat × Nat)} {bl : List (Blk C)} {rows : List Value}, Std pl H q bl rows → bl.length = q.length ∧ rows.length = q.length
  | [], [], [], _ => ⟨rfl, rfl⟩
  | (b, k) :: q, x :: bl, v :: rows, h => by
    have := h.2.len
    simp [this.1, this.2]
  | [], _ :: _, _, h => h.elim
  | [], [], _ :: _, h => h.elim
  | _ :: _, [], _, h => h.elim
  | _ :: _, _ :: _, [], h => h.elim
theorem Std.at : ∀ {q : List (Option Nat × Nat)} {bl : List (Blk C)} {rows : List Value}, Std pl H q bl rows → ∀ {i : Nat} {v : Value}, rows[i]? = some v → ∃ b k x, q[i]? = some (b, k) ∧ bl[i]? = some x ∧ StdOne pl H b k x v
  | [], [], [], _, i, v, hv => by simp at hv
  | (b, k) :: q, x :: bl, u :: rows, h, 0, v, hv => by
    simp only [List.getElem?_cons_zero, Option.some.injEq] at hv
    subst hv
    exact ⟨b, k, x, rfl, rfl, h.1⟩
  | (b, k) :: q, x :: bl, u :: rows, h, i + 1, v, hv => by
    obtain ⟨b', k', x', h1, h2, h3⟩ := h.2.at (i := i) (by simpa using hv)
    exact ⟨b', k', x', by simpa using h1, by simpa using h2, h3⟩
  | [], _ :: _, _, h, _, _, _ => h.elim
  | [], [], _ :: _, h, _, _, _ => h.elim
  | _ :: _, [], _, h, _, _, _ => h.elim
  | _ :: _, _ :: _, [], h, _, _, _ => h.elim
/-- What the function finds, told by the numbers it knows. -/
def InTold (G : C.Good P) (w : World) (pl : Pl) (H : Nat → Blk C) (n : Nat) (q : List (Option Nat × Nat)) (bl : List (Blk C)) (K : Pl → Prop) : Prop :=
  ∃ rows : List Value, Std pl H q bl rows ∧ ∀ pl' : Pl, (∀ i v, rows[i]? = some v → pl' (n + i) = some v) → K pl' ∧ ∀ i x, bl[i]? = some x → BlkR G 0 pl' w (n + i) x
theorem InTold.cons {q : List (Option Nat × Nat)} {bl : List (Blk C)} {K : Pl → Prop} (h : InTold G w pl H (n + 1) q bl K) {b : Option Nat} {k : Nat} {x : Blk C} {v : Value} (h1 : StdOne pl H b k x v)
    (h2 : ∀ pl' : Pl, pl' n = some v → K pl' → BlkR G 0 pl' w n x) : InTold G w pl H n ((b, k) :: q) (x :: bl) fun pl' => pl' n = some v ∧ K pl' := by
  obtain ⟨rows, g1, g2⟩ := h
  refine ⟨v :: rows, ⟨h1, g1⟩, fun pl' hpl => ?_⟩
  have hp0 := hpl 0 v rfl
  rw [Nat.add_zero] at hp0
  obtain ⟨g3, g4⟩ := g2 pl' (fun i u hu => by
    have := hpl (i + 1) u (by simpa using hu)
    rwa [show n + 1 + i = n + (i + 1) by omega])
  refine ⟨⟨hp0, g3⟩, fun i y hy => ?_⟩
  cases i with
  | zero =>
    simp only [List.getElem?_cons_zero, Option.some.injEq] at hy
    subst hy
    rw [Nat.add_zero]
    exact h2 pl' hp0 g3
  | succ i =>
    have := g4 i y (by simpa using hy)
    rwa [show n + (i + 1) = n + 1 + i by omega]
theorem InTold.mono {q : List (Option Nat × Nat)} {bl : List (Blk C)} {K K' : Pl → Prop} (h : InTold G w pl H n q bl K) (hK : ∀ p, K p → K' p) : InTold G w pl H n q bl K' := by
  obtain ⟨rows, g1, g2⟩ := h
  exact ⟨rows, g1, fun p hp => ⟨hK p (g2 p hp).1, (g2 p hp).2⟩⟩
theorem InTold.append {q1 q2 : List (Option Nat × Nat)} {b1 b2 : List (Blk C)} {K1 K2 : Pl → Prop} (h1 : InTold G w pl H n q1 b1 K1) (h2 : InTold G w pl H (n + b1.length) q2 b2 K2) : InTold G w pl H n (q1 ++ q2) (b1 ++ b2) fun p => K1 p ∧ K2 p := by
  obtain ⟨r1, g1, g2⟩ := h1
  obtain ⟨r2, g3, g4⟩ := h2
  have hl : r1.length = b1.length := by have := g1.len; omega
  refine ⟨r1 ++ r2, g1.append g3, fun p hp => ?_⟩
  obtain ⟨k1, k2⟩ := g2 p (fun i v hv => hp i v (by
    rw [List.getElem?_append_left (List.getElem?_eq_some_iff.1 hv).1]; exact hv))
  obtain ⟨k3, k4⟩ := g4 p (fun i v hv => by
    have := hp (r1.length + i) v (by rw [List.getElem?_append_right (by omega)]; simpa using hv)
    rwa [hl, ← Nat.add_assoc] at this)
  refine ⟨⟨k1, k3⟩, fun i x hx => ?_⟩
  by_cases c : i < b1.length
  · rw [List.getElem?_append_left c] at hx
    exact k2 i x hx
  · rw [List.getElem?_append_right (by omega)] at hx
    have := k4 _ x hx
    rwa [show n + b1.length + (i - b1.length) = n + i by omega] at this
theorem InTold.nil {K : Pl → Prop} (h : ∀ p, K p) : InTold G w pl H n [] [] K := ⟨[], trivial, fun p _ => ⟨h p, fun i x hx => by simp at hx⟩⟩

theorem toCells_sound (hS : Seen H σ.blk) (hm : Mem G w0 pl σ.blk w) : ∀ {ts : List TypeId} {cs : List Sc} {vs : List Value} {l : List (RV C)} {q : List (Option Nat × Nat)}, toCells P H ts cs = some (l, q) → R2 (CR pl) cs vs →
    ∀ {n : Nat} {l2 : List (RV C)} {cs' : List Sc} {bl : List (Blk C)} {rr : List (RV C)}, inCells n ts.length (l ++ l2) = some (cs', bl, rr) → rr = l2 ∧ InTold G w pl σ.blk n q bl fun p => R2 (CR p) cs' vs
  | [], [], vs, l, q, h, hv, n, l2, cs', bl, rr, hi => by
    have := hv.nil_inv; subst this
    simp only [toCells, Option.some.injEq, Prod.mk.injEq] at h
    obtain ⟨rfl, rfl⟩ := h
    simp only [List.length_nil, List.nil_append, inCells, Option.some.injEq, Prod.mk.injEq] at hi
    obtain ⟨rfl, rfl, rfl⟩ := hi
    exact ⟨rfl, InTold.nil fun p => R2.nil⟩
  | t :: ts, s :: cs, vs, l, q, h, hv, n, l2, cs', bl, rr, hi => by
    obtain ⟨v, vs', rfl, hv0, hv'⟩ := hv.cons_inv
    simp only [toCells] at h
    split at h
    · rename_i l' q' hl'
      split at h
      · rename_i e he
        obtain ⟨hhas, h2⟩ := cond_none h
        simp only [Option.some.injEq, Prod.mk.injEq] at h2
        obtain ⟨rfl, rfl⟩ := h2
        simp only [List.length_cons, List.cons_append, inCells] at hi
        split at hi
        · rename_i cs1 bl1 r1 hi1
          simp only [Option.some.injEq, Prod.mk.injEq] at hi
          obtain ⟨rfl, rfl, rfl⟩ := hi
          obtain ⟨e1, e2⟩ := toCells_sound hS hm hl' hv' hi1
          have hvn : v = .slice none 0 0 := hv0.1
          subst hvn
          refine ⟨e1, (e2.cons (b := none) (k := 1) (x := .row e true []) (v := .slice none 0 0) ⟨fun _ => by decide, fun g hg => by simp [blkOf] at hg⟩ (fun p hp _ => ⟨hhas, _, hp, World.ownsRow_nil w _ e _⟩)).mono fun p hp => R2.cons ⟨⟨none, 0, 0, hp.1, rfl⟩, rfl⟩ hp.2⟩
        · cases hi
      · rename_i e b he
        split at h
        · rename_i e' xs hb
          obtain ⟨he2, h2⟩ := cond_none h
          have := Nat.eq_of_beq_eq_true he2
          subst this
          simp only [Option.some.injEq, Prod.mk.injEq] at h2
          obtain ⟨rfl, rfl⟩ := h2
          simp only [List.length_cons, List.cons_append, inCells] at hi
          split at hi
          · rename_i cs1 bl1 r1 hi1
            simp only [Option.some.injEq, Prod.mk.injEq] at hi
            obtain ⟨rfl, rfl, rfl⟩ := hi
            obtain ⟨e1, e2⟩ := toCells_sound hS hm hl' hv' hi1
            have hb' := hS.row hb
            have hB := hm.blk b
            rw [hb'] at hB
            obtain ⟨hhas, v0, hp0, hrow⟩ := hB
            obtain ⟨a1, n1, c1, h5, h6⟩ := hv0.1
            rw [hp0] at h5
            injection h5 with h5
            rw [← h6] at h5
            subst h5
            refine ⟨e1, (e2.cons (b := some b) (k := 1) (x := .row e' true xs) (v := v0) ⟨fun _ => by decide, fun g hg => ⟨b, rfl, by simp only [plBlk, hp0]; exact hg, fun _ => by rw [hb']; rfl⟩⟩ (fun p hp _ => ⟨hhas, _, hp, hrow⟩)).mono fun p hp => R2.cons ⟨⟨a1, n1, c1, by rw [hp.1, h6], h6⟩, by rw [h6]; rfl⟩ hp.2⟩
          · cases hi
        · cases h
      · obtain ⟨hp, h2⟩ := cond_none h
        simp only [Option.some.injEq, Prod.mk.injEq] at h2
        obtain ⟨rfl, rfl⟩ := h2
        simp only [List.length_cons, List.cons_append, inCells, hp, Bool.cond_true] at hi
        split at hi
        · rename_i cs1 bl1 r1 hi1
          simp only [Option.some.injEq, Prod.mk.injEq] at hi
          obtain ⟨rfl, rfl, rfl⟩ := hi
          obtain ⟨e1, e2⟩ := toCells_sound hS hm hl' hv' hi1
          exact ⟨e1, e2.mono fun p h1 => R2.cons (plain_sr hp hv0) h1⟩
        · cases hi
      · cases h
    · cases h
  | [], _ :: _, _, _, _, h, _, _, _, _, _, _, _ => by simp [toCells] at h
  | _ :: _, [], _, _, _, h, _, _, _, _, _, _, _ => by simp [toCells] at h
theorem toRV_src (hS : Seen H σ.blk) (hm : Mem G w0 pl σ.blk w) {t : TypeId} {x : AV} {v : Value} {e : TypeId} {xs : List (C.Elt e)} (hx : AVR pl x v) (h : toRV P H t x = some (.row e xs)) : ∀ g, blkOf v = some g → ∃ b, srcOf x = some b ∧ plBlk pl b = some g := by
  intro g hg
  unfold toRV at h
  split at h
  · split at h
    · have := fr_nsl hx; subst this; simp [blkOf] at hg
    · cases h
  · rename_i x' _
    cases hp : x'.cells.all scPlain with
    | true => rw [hp] at h; cases h
    | false =>
      rw [hp] at h
      simp only [Bool.cond_false] at h
      split at h
      · rename_i s
        split at h
        · rename_i b e xs e' hrow he
          obtain ⟨hs, ⟨ow, hb⟩, hhas, ao, c, c0, hv, hpl, hc, hmax, hnone, hr⟩ := rowOf_info hS hm hx hrow
          have : blkOf v = plBlk pl b := by rw [hv]; simp only [plBlk, hpl]; cases ao <;> rfl
          rw [this] at hg
          rcases hs with rfl | rfl <;> exact ⟨b, rfl, hg⟩
        · cases h
      · cases h
  · cases h
theorem toE_sound (hS : Seen H σ.blk) (hm : Mem G w0 pl σ.blk w) : ∀ {E : List Eat} {ts : List TypeId} {vs : List AV} {vals : List Value} {l : List (RV C)} {q : List (Option Nat × Nat)}, toE P H E ts vs = some (l, q) → R2 (AVR pl) vs vals →
    ∀ {n : Nat} {xs : List AV} {bl : List (Blk C)}, inE n E l = some (xs, bl) → InTold G w pl σ.blk n q bl fun p => R2 (AVR p) xs vals
  | [], [], [], vals, l, q, h, hv, n, xs, bl, hi => by
    have := hv.nil_inv; subst this
    simp only [toE, Option.some.injEq, Prod.mk.injEq] at h
    obtain ⟨rfl, rfl⟩ := h
    simp only [inE, Option.some.injEq, Prod.mk.injEq] at hi
    obtain ⟨rfl, rfl⟩ := hi
    exact InTold.nil fun p => R2.nil
  | .no :: E, t :: ts, v :: vs, vals, l, q, h, hv, n, xs, bl, hi => by
    obtain ⟨u, vals', rfl, hu, hv'⟩ := hv.cons_inv
    simp only [toE] at h
    split at h
    · rename_i x l' q' hx hl'
      simp only [Option.some.injEq, Prod.mk.injEq] at h
      obtain ⟨rfl, rfl⟩ := h
      simp only [inE] at hi
      split at hi
      · rename_i as1 bl1 hi1
        simp only [Option.some.injEq, Prod.mk.injEq] at hi
        obtain ⟨rfl, rfl⟩ := hi
        have h1 := toRV_sound hS hm hu hx
        exact (toE_sound hS hm hl' hv' hi1).mono fun p hp => R2.cons (show AVR p (.fl x) u from plain_fr h1.1 h1.2) hp
      · cases hi
    · rename_i e ys l' q' hx hl'
      simp only [Option.some.injEq, Prod.mk.injEq] at h
      obtain ⟨rfl, rfl⟩ := h
      simp only [inE] at hi
      split at hi
      · rename_i as1 bl1 hi1
        simp only [Option.some.injEq, Prod.mk.injEq] at hi
        obtain ⟨rfl, rfl⟩ := hi
        obtain ⟨hhas, a1, c1, hu1, hc1, hmax, hnone, hblk, hr⟩ := toRV_sound hS hm hu hx
        have hsrc := toRV_src hS hm hu hx
        refine ((toE_sound hS hm hl' hv' hi1).cons (b := srcOf v) (k := 0) (x := .row e false ys) (v := u) ⟨(fun ho => by cases ho), fun g hg => ?_⟩ (fun p hp _ => ?_)).mono fun p hp => R2.cons (show AVR p (.fl (.one (.sl n))) u from ⟨⟨a1, _, c1, by rw [hp.1, hu1], hu1⟩, by rw [hu1]; rfl⟩) hp.2
        · obtain ⟨b, h1, h2⟩ := hsrc g hg
          exact ⟨b, h1, h2, fun hk => absurd rfl hk⟩
        · exact ⟨hhas, a1, c1, by rw [hp, hu1], hc1, hmax, hnone, hblk, hr⟩
      · cases hi
    · cases h
  | .row :: E, t :: ts, .fl (.one s) :: vs, vals, l, q, h, hv, n, xs, bl, hi => by
    obtain ⟨u, vals', rfl, hu, hv'⟩ := hv.cons_inv
    simp only [toE] at h
    split at h
    · rename_i l1 q1 l' q' h1 hl'
      simp only [Option.some.injEq, Prod.mk.injEq] at h
      obtain ⟨rfl, rfl⟩ := h
      have hlive : s.live = true := by
        cases s <;> first | rfl | (exfalso; simp [toCells, scPlain] at h1; split at h1 <;> simp_all)
      have hcr : R2 (CR pl) [s] [u] := R2.cons (FR.cr hu hlive) R2.nil
      -- one cell, one row
      have key : ∃ e ys, l1 = [.row e ys] ∨ ∃ x, l1 = [.fl x] := by
        simp only [toCells] at h1
        split at h1
        · obtain ⟨_, h2⟩ := cond_none h1
          simp only [Option.some.injEq, Prod.mk.injEq] at h2
          exact ⟨_, _, .inl h2.1.symm⟩
        · split at h1
          · obtain ⟨_, h2⟩ := cond_none h1
            simp only [Option.some.injEq, Prod.mk.injEq] at h2
            exact ⟨_, _, .inl h2.1.symm⟩
          · cases h1
        · obtain ⟨_, h2⟩ := cond_none h1
          simp only [Option.some.injEq, Prod.mk.injEq] at h2
          have hi' := hi
          rw [← h2.1] at hi'
          simp [inE] at hi'
        · cases h1
      obtain ⟨e, ys, rfl | ⟨x, rfl⟩⟩ := key
      · simp only [List.cons_append, List.nil_append, inE] at hi
        split at hi
        · rename_i as1 bl1 hi1
          simp only [Option.some.injEq, Prod.mk.injEq] at hi
          obtain ⟨rfl, rfl⟩ := hi
          have hi2 : inCells n [t].length ([.row e ys] ++ l') = some ([.sl n], [.row e true ys], l') := rfl
          obtain ⟨-, g1⟩ := toCells_sound hS hm h1 hcr hi2
          have g2 := toE_sound hS hm hl' hv' hi1
          have := g1.append (n := n) (b1 := [.row e true ys]) g2
          exact this.mono fun p hp => R2.cons (show AVR p (.fl (.one (.sl n))) u from FR.one hp.1.head) hp.2
        · cases hi
      · simp [inE] at hi
    · cases h
  | .box t us :: E, _ :: ts, .fl (.one (.ptr b off)) :: vs, vals, l, q, h, hv, n, xs, bl, hi => by
    obtain ⟨u, vals', rfl, hu, hv'⟩ := hv.cons_inv
    simp only [toE] at h
    split at h
    · rename_i t' cs hb
      obtain ⟨hc, h2⟩ := cond_none h
      simp only [Bool.and_eq_true] at hc
      have hoff := Nat.eq_of_beq_eq_true hc.1
      have htt := Nat.eq_of_beq_eq_true hc.2
      subst hoff; subst htt
      split at h2
      · rename_i l1 q1 l' q' h1 hl'
        simp only [Option.some.injEq, Prod.mk.injEq] at h2
        obtain ⟨rfl, rfl⟩ := h2
        have hb' := hS.box hb
        have hB := hm.blk b
        rw [hb'] at hB
        obtain ⟨g, cv, hpg, _, hh, hcr⟩ := hB
        obtain ⟨g', h3, h4⟩ := fr_ptr hu
        rw [hpg] at h3
        simp only [Option.some.injEq, Value.pointer.injEq, Addr.mk.injEq, and_true] at h3
        subst h3
        simp only [inE] at hi
        split at hi
        · rename_i cs1 bl1 r1 hi1
          split at hi
          · rename_i as1 bl2 hi2
            simp only [Option.some.injEq, Prod.mk.injEq] at hi
            obtain ⟨rfl, rfl⟩ := hi
            obtain ⟨rfl, g1⟩ := toCells_sound hS hm h1 hcr hi1
            have g2 := toE_sound hS hm hl' hv' hi2
            have g3 := g1.append g2
            refine (g3.cons (b := some b) (k := 2) (x := .box t' cs1) (v := u) ⟨fun _ => by decide, fun g2 hg2 => ⟨b, rfl, ?_, fun _ => by rw [hb']; rfl⟩⟩ (fun p hp hK => ⟨g, cv, by rw [hp, h4], Nat.zero_le _, hh, hK.1⟩)).mono fun p hp => R2.cons (show AVR p (.fl (.one (.ptr n 0))) u from ⟨⟨g, by rw [hp.1, h4], h4⟩, by rw [h4]; rfl⟩) hp.2.2
            rw [h4] at hg2
            simp only [plBlk, hpg]
            exact hg2
          · cases hi
        · cases hi
      · cases h2
    · cases h
  | [], _ :: _, _, _, _, _, h, _, _, _, _, _ => by simp [toE] at h
  | [], [], _ :: _, _, _, _, h, _, _, _, _, _ => by simp [toE] at h
  | .no :: _, [], _, _, _, _, h, _, _, _, _, _ => by simp [toE] at h
  | .no :: _, _ :: _, [], _, _, _, h, _, _, _, _, _ => by simp [toE] at h
  | .row :: _, [], _, _, _, _, h, _, _, _, _, _ => by simp [toE] at h
  | .row :: _, _ :: _, [], _, _, _, h, _, _, _, _, _ => by simp [toE] at h
  | .row :: _, _ :: _, .fl (.agg _) :: _, _, _, _, h, _, _, _, _, _ => by simp [toE] at h
  | .row :: _, _ :: _, .tup _ :: _, _, _, _, h, _, _, _, _, _ => by simp [toE] at h
  | .row :: _, _ :: _, .clo _ _ _ :: _, _, _, _, h, _, _, _, _, _ => by simp [toE] at h
  | .box _ _ :: _, [], _, _, _, _, h, _, _, _, _, _ => by simp [toE] at h
  | .box _ _ :: _, _ :: _, [], _, _, _, h, _, _, _, _, _ => by simp [toE] at h
  | .box _ _ :: _, _ :: _, .fl (.agg _) :: _, _, _, _, h, _, _, _, _, _ => by simp [toE] at h
  | .box _ _ :: _, _ :: _, .tup _ :: _, _, _, _, h, _, _, _, _, _ => by simp [toE] at h
  | .box _ _ :: _, _ :: _, .clo _ _ _ :: _, _, _, _, h, _, _, _, _, _ => by simp [toE] at h
  | .box _ _ :: _, _ :: _, .fl (.one .dead) :: _, _, _, _, h, _, _, _, _, _ => by simp [toE] at h
  | .box _ _ :: _, _ :: _, .fl (.one .nsl) :: _, _, _, _, h, _, _, _, _, _ => by simp [toE] at h
  | .box _ _ :: _, _ :: _, .fl (.one (.int _ _)) :: _, _, _, _, h, _, _, _, _, _ => by simp [toE] at h
  | .box _ _ :: _, _ :: _, .fl (.one (.bool _)) :: _, _, _, _, h, _, _, _, _, _ => by simp [toE] at h
  | .box _ _ :: _, _ :: _, .fl (.one (.str _)) :: _, _, _, _, h, _, _, _, _, _ => by simp [toE] at h
  | .box _ _ :: _, _ :: _, .fl (.one (.eptr _ _ _ _)) :: _, _, _, _, h, _, _, _, _, _ => by simp [toE] at h
  | .box _ _ :: _, _ :: _, .fl (.one (.sl _)) :: _, _, _, _, h, _, _, _, _, _ => by simp [toE] at h
  | .box _ _ :: _, _ :: _, .fl (.one (.tsl _)) :: _, _, _, _, h, _, _, _, _, _ => by simp [toE] at h
  | .box _ _ :: _, _ :: _, .fl (.one (.mp _)) :: _, _, _, _, h, _, _, _, _, _ => by simp [toE] at h
end
end Go.Abs
