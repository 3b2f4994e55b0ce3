/- WHAT IS TOLD AGAINST WHAT IS: when a told state speaks truly of temporaries and memory. Plain definitions and small laws. -/
import Derived.Test.YtjfndepkgahkiaaDoorA2
import Derived.Below
import Derived.Laws.OwnMore
set_option linter.unusedVariables false
namespace Go.Abs
open Go.RowKit

def R2 {α β : Type} (r : α → β → Prop) (xs : List α) (ys : List β) : Prop := xs.length = ys.length ∧ ∀ (i : Nat) (x : α) (y : β), xs[i]? = some x → ys[i]? = some y → r x y
theorem R2.nil {α β : Type} {r : α → β → Prop} : R2 r [] [] := ⟨rfl, fun i x y h => by simp at h⟩
theorem R2.cons {α β : Type} {r : α → β → Prop} {x : α} {y : β} {xs : List α} {ys : List β} (h : r x y) (t : R2 r xs ys) : R2 r (x :: xs) (y :: ys) :=
  ⟨by simp [t.1], fun i a b ha hb => by
    cases i with
    | zero => simp at ha hb; subst ha; subst hb; exact h
    | succ i => exact t.2 i a b (by simpa using ha) (by simpa using hb)⟩
theorem R2.head {α β : Type} {r : α → β → Prop} {x : α} {y : β} {xs : List α} {ys : List β} (h : R2 r (x :: xs) (y :: ys)) : r x y := h.2 0 x y rfl rfl
theorem R2.tail {α β : Type} {r : α → β → Prop} {x : α} {y : β} {xs : List α} {ys : List β} (h : R2 r (x :: xs) (y :: ys)) : R2 r xs ys :=
  ⟨by have := h.1; simpa using this, fun i a b ha hb => h.2 (i + 1) a b (by simpa using ha) (by simpa using hb)⟩
theorem R2.cons_inv {α β : Type} {r : α → β → Prop} {x : α} {xs : List α} {l : List β} (h : R2 r (x :: xs) l) : ∃ y ys, l = y :: ys ∧ r x y ∧ R2 r xs ys := by
  cases l with
  | nil => have := h.1; simp at this
  | cons y ys => exact ⟨y, ys, rfl, h.head, h.tail⟩
theorem R2.nil_inv {α β : Type} {r : α → β → Prop} {l : List β} (h : R2 r [] l) : l = [] := List.eq_nil_of_length_eq_zero h.1.symm
theorem R2.mono {α β : Type} {r r' : α → β → Prop} {xs : List α} {ys : List β} (h : R2 r xs ys) (hr : ∀ x y, x ∈ xs → r x y → r' x y) : R2 r' xs ys :=
  ⟨h.1, fun i x y hx hy => hr x y (List.mem_of_getElem? hx) (h.2 i x y hx hy)⟩
theorem R2.get {α β : Type} {r : α → β → Prop} {xs : List α} {ys : List β} (h : R2 r xs ys) {i : Nat} {x : α} (hx : xs[i]? = some x) : ∃ y, ys[i]? = some y ∧ r x y := by
  have hi : i < xs.length := (List.getElem?_eq_some_iff.1 hx).1
  have hj : i < ys.length := h.1 ▸ hi
  exact ⟨ys[i], List.getElem?_eq_getElem hj, h.2 i x _ hx (List.getElem?_eq_getElem hj)⟩
theorem R2.set {α β : Type} {r : α → β → Prop} {xs : List α} {ys : List β} (h : R2 r xs ys) (n : Nat) {x : α} {y : β} (hr : r x y) : R2 r (xs.set n x) (ys.set n y) := by
  refine ⟨by simp [h.1], fun i a b ha hb => ?_⟩
  rw [List.getElem?_set] at ha hb
  by_cases e : n = i
  · subst e
    rw [if_pos rfl] at ha hb
    split at ha
    · split at hb
      · injection ha with ha; injection hb with hb; subst ha; subst hb; exact hr
      · cases hb
    · cases ha
  · rw [if_neg e] at ha hb
    exact h.2 i a b ha hb
theorem R2.append {α β : Type} {r : α → β → Prop} {xs xs' : List α} {ys ys' : List β} (h : R2 r xs ys) (h' : R2 r xs' ys') : R2 r (xs ++ xs') (ys ++ ys') := by
  refine ⟨by simp [h.1, h'.1], fun i a b ha hb => ?_⟩
  by_cases e : i < xs.length
  · rw [List.getElem?_append_left e] at ha
    rw [List.getElem?_append_left (h.1 ▸ e)] at hb
    exact h.2 i a b ha hb
  · rw [List.getElem?_append_right (by omega)] at ha
    rw [List.getElem?_append_right (by have := h.1; omega)] at hb
    rw [← h.1] at hb
    exact h'.2 _ a b ha hb
theorem R2.drop {α β : Type} {r : α → β → Prop} {xs : List α} {ys : List β} (h : R2 r xs ys) (n : Nat) : R2 r (xs.drop n) (ys.drop n) :=
  ⟨by simp [h.1], fun i a b ha hb => by rw [List.getElem?_drop] at ha hb; exact h.2 _ a b ha hb⟩
theorem R2.take {α β : Type} {r : α → β → Prop} {xs : List α} {ys : List β} (h : R2 r xs ys) (n : Nat) : R2 r (xs.take n) (ys.take n) :=
  ⟨by simp [h.1], fun i a b ha hb => by
    rw [List.getElem?_take] at ha hb
    split at ha
    · rename_i hi; rw [if_pos hi] at hb; exact h.2 _ a b ha hb
    · cases ha⟩
theorem R2.map_left {α β γ : Type} {r : α → β → Prop} {r' : γ → β → Prop} {f : α → γ} {xs : List α} {ys : List β} (h : R2 r xs ys) (hr : ∀ x y, x ∈ xs → r x y → r' (f x) y) : R2 r' (xs.map f) ys :=
  ⟨by simp [h.1], fun i a b ha hb => by
    rw [List.getElem?_map] at ha
    cases hx : xs[i]? with
    | none => rw [hx] at ha; cases ha
    | some x =>
      rw [hx] at ha
      injection ha with ha
      subst ha
      exact hr x b (List.mem_of_getElem? hx) (h.2 i x b hx hb)⟩

/-- A plain cell's value. -/
def Sc.val : Sc → Value
  | .int k n => .int k n
  | .bool b => .bool b
  | .str s => .string s
  | _ => .bool false

structure Codec.Good (C : Codec) (P : Program) : Prop where
  sz : ∀ e, C.has e = true → P.cellsOf e = C.sz e ∧ 0 < C.sz e ∧ 0 < P.bytesOf e
  zero : ∀ e, C.has e = true → ∃ i z, P.info? e = some i ∧ i.zero = some z ∧ z.cells.size = C.sz e
  len : ∀ e x, C.has e = true → (C.enc e x).length = C.sz e
  plain : ∀ e x, C.has e = true → (C.enc e x).all scPlain = true
  dec : ∀ e cs x, C.dec e cs = some x → C.has e = true ∧ C.enc e x = cs
  bytes : ∀ e f, C.bytes e = some f → C.has e = true ∧ C.sz e = 1 ∧ ∀ s, (f s).map (C.enc e) = s.data.toList.map fun b => [Sc.int .u8 b.toNat]
  str : ∀ e f, C.str e = some f → C.sz e = 1 ∧ ∀ (l : List (C.Elt e)), ∃ ns : List Int, l.map (C.enc e) = ns.map (fun n => [Sc.int .u8 n]) ∧ f l = ⟨(ns.map fun n => UInt8.ofNat n.toNat).toArray⟩
  low : ∀ w, C.inv w → C.low ≤ w.heap.size := by exact fun w h => Nat.zero_le _
  inv : ∀ w w' : World, C.inv w → (∀ k, k < C.low → w'.heap[k]? = w.heap[k]?) → C.inv w' := by exact fun w w' h _ => h

section
variable {C : Codec} {P : Program}

/-- Where the told blocks lie: a variable: its address; a row: the slice. -/
abbrev Pl := Nat → Option Value
def Pl.upd (pl : Pl) (n : Nat) (v : Value) : Pl := fun b => if b = n then some v else pl b
/-- A told cell against a value. -/
def SR (pl : Pl) : Sc → Value → Prop
  | .dead, _ => True
  | .int k n, v => v = .int k n
  | .bool b, v => v = .bool b
  | .str s, v => v = .string s
  | .ptr b o, v => ∃ g, pl b = some (.pointer (some ⟨g, 0, none⟩)) ∧ v = .pointer (some ⟨g, o, none⟩)
  | .eptr b sz i o, v => ∃ ad n c, pl b = some (.slice (some ad) n c) ∧ ad.spot = none ∧ 0 ≤ i ∧ i.toNat < n ∧ v = .pointer (some ⟨ad.block, ad.off + i.toNat * sz + o, none⟩)
  | .nsl, v => v = .slice none 0 0
  | .sl b, v => ∃ a n c, pl b = some (.slice a n c) ∧ v = .slice a n c
  | .tsl b, v => ∃ a n c, pl b = some (.slice a n c) ∧ v = .slice a n n
  | .mp b, v => ∃ g, pl b = some (.map (some g)) ∧ v = .map (some g)
def CR (pl : Pl) (s : Sc) (v : Value) : Prop := SR pl s v ∧ v.oneCell' = true
def FR (pl : Pl) : Fl → Value → Prop
  | .one .dead, _ => True
  | .one s, v => CR pl s v
  | .agg cs, v => ∃ vs, v = .agg vs ∧ R2 (CR pl) cs vs.toList
def AVR (pl : Pl) : AV → Value → Prop
  | .fl x, v => FR pl x v
  | .tup xs, v => ∃ vs, v = .tuple vs ∧ R2 (FR pl) xs vs.toList
  | .clo f a b, v => ∃ as bs, v = .func (.func f) as bs ∧ R2 (FR pl) a as.toList ∧ R2 (FR pl) b bs.toList

def flat (C : Codec) (e : TypeId) (xs : List (C.Elt e)) : List Value := xs.flatMap fun x => (C.enc e x).map Sc.val
/-- Cells that are read. -/
def Reads (w : World) (a : Option Addr) (cs : List Value) : Prop := cs = [] ∨ ∃ ad, a = some ad ∧ ∀ j u, cs[j]? = some u → w.cell? (ad.add j) = some u
/-- An element, as a value. -/
def eltV (P : Program) (e : TypeId) (x : C.Elt e) : Value := if isAggB P e then .agg ((C.enc e x).map Sc.val).toArray else ((C.enc e x).map Sc.val).headD undef
def BlkR (G : C.Good P) (base : Nat) (pl : Pl) (w : World) (b : Nat) : Blk C → Prop
  | .gone => pl b = none
  | .box t cs => ∃ g vs, pl b = some (.pointer (some ⟨g, 0, none⟩)) ∧ base ≤ g ∧ w.heap[g]? = some (.cells vs t (0, 0)) ∧ R2 (CR pl) cs vs.toList
  | .row e true xs => C.has e = true ∧ ∃ v, pl b = some v ∧ w.ownsRow base e (C.sz e) v xs.length (flat C e xs)
  | .row e false xs => C.has e = true ∧ ∃ a c, pl b = some (.slice a xs.length c) ∧ xs.length ≤ c ∧ xs.length ≤ 9223372036854775807 ∧ (a = none → c = 0) ∧ (∀ ad, a = some ad → ad.block < w.heap.size) ∧ Reads w a (flat C e xs)
  | .tab e l => C.has e = true ∧ ∃ g es clock, pl b = some (.map (some g)) ∧ base ≤ g ∧ w.heap[g]? = some (.map es clock) ∧ es.toList.map (fun x => (x.key, x.val)) = l.map fun p => (Value.int .i64 p.1, eltV P e p.2)
def own : Blk C → Bool
  | .box _ _ => true
  | .tab _ _ => true
  | .row _ o _ => o
  | .gone => false
def blkOf : Value → Option Nat
  | .pointer (some a) => some a.block
  | .slice (some a) _ _ => some a.block
  | .map (some g) => some g
  | _ => none
def plBlk (pl : Pl) (b : Nat) : Option Nat := (pl b).bind blkOf
/-- What the call owns shares no block with anything that is told. -/
def Apart (pl : Pl) (σ : Nat → Blk C) : Prop :=
  ∀ b b' g, b ≠ b' → own (σ b) = true → plBlk pl b = some g → plBlk pl b' ≠ some g

/-- What was there at the beginning, and which blocks may be changed: new ones, and those that are given up to the call. -/
structure Base (C : Codec) where
  w : World
  may : Nat → Prop
  new : ∀ g, w.heap.size ≤ g → may g
  fix : C.inv w ∧ ∀ k, k < C.low → ¬ may k
def Base.of (G : C.Good P) (w : World) (h : C.inv w) : Base C := ⟨w, fun g => w.heap.size ≤ g, fun _ h => h, h, fun _ hk => Nat.not_le_of_lt (Nat.lt_of_lt_of_le hk (G.low w h))⟩
structure Held (w0 : Base C) (w : World) : Prop where
  os : w.os = w0.w.os
  tape : w.tape = w0.w.tape
  output : w.output = w0.w.output
  size : w0.w.heap.size ≤ w.heap.size
  block : ∀ k, ¬ w0.may k → w.heap[k]? = w0.w.heap[k]?
theorem Held.grown {w0 : Base C} {w w' : World} {row : Option Nat} (h : Held w0 w) (hg : w.grownBy w' row) (hr : ∀ k, row = some k → w0.may k) : Held w0 w' :=
  ⟨hg.os.trans h.os, hg.tape.trans h.tape, hg.output.trans h.output, Nat.le_trans h.size hg.size, fun k hk => by
    have h1 : k < w.heap.size := by
      rcases Nat.lt_or_ge k w0.w.heap.size with h2 | h2
      · exact Nat.lt_of_lt_of_le h2 h.size
      · exact absurd (w0.new k h2) hk
    exact (hg.block k h1 (fun e => hk (hr k e.symm))).trans (h.block k hk)⟩
theorem Held.drew {w0 : Base C} {w : World} (h : Held w0 w) : Held w0 w.drew := ⟨h.os, h.tape, h.output, h.size, h.block⟩
theorem Held.fresh {w0 : Base C} {w : World} (h : Held w0 w) {g : Nat} (hg : w.heap.size ≤ g) : w0.may g := w0.new g (Nat.le_trans h.size hg)
theorem Held.inv (G : C.Good P) {w0 : Base C} {w : World} (h : Held w0 w) : C.inv w := G.inv w0.w w w0.fix.1 fun k hk => h.block k (w0.fix.2 k hk)
theorem Held.refl (w : World) (may : Nat → Prop) (new : ∀ g, w.heap.size ≤ g → may g) (fix : C.inv w ∧ ∀ k, k < C.low → ¬ may k) : Held ⟨w, may, new, fix⟩ w := ⟨rfl, rfl, rfl, Nat.le_refl _, fun _ _ => rfl⟩
theorem Held.below {G : C.Good P} {w w' : World} {hi : C.inv w} (h : Held (Base.of G w hi) w') : Below w.heap.size w w' := ⟨h.os, h.tape, h.output, h.size, fun k hk => h.block k (Nat.not_le_of_lt hk)⟩

structure Mem (G : C.Good P) (w0 : Base C) (pl : Pl) (H : Nat → Blk C) (w : World) : Prop where
  below : Held w0 w
  blk : ∀ b, BlkR G 0 pl w b (H b)
  apart : Apart pl H
  may : ∀ b g, own (H b) = true → plBlk pl b = some g → w0.may g
structure Rel (G : C.Good P) (w0 : Base C) (σ : St C) (as : List Act) (a : Act) (w : World) (pl : Pl) : Prop where
  mem : Mem G w0 pl σ.blk w
  tmps : R2 (AVR pl) σ.T a.tmps.toList
  outer : R2 (fun T (a : Act) => R2 (AVR pl) T a.tmps.toList) σ.F as

/-! ### Small laws -/
theorem CR.live {pl : Pl} {s : Sc} {v : Value} (h : SR pl s v) (hl : s.live = true) : v.oneCell' = true := by
  cases s <;> simp [SR, Sc.live] at h hl ⊢
  all_goals first | (subst h; rfl) | (obtain ⟨_, _, rfl⟩ := h; rfl) | (obtain ⟨_, _, _, _, _, _, rfl⟩ := h; rfl) | (obtain ⟨_, _, ⟨_, _⟩, rfl⟩ := h; rfl) | skip
theorem FR.one {pl : Pl} {s : Sc} {v : Value} (h : CR pl s v) : FR pl (.one s) v := by cases s <;> first | trivial | exact h
theorem FR.cr {pl : Pl} {s : Sc} {v : Value} (h : FR pl (.one s) v) (hl : s.live = true) : CR pl s v := by cases s <;> first | exact h | simp [Sc.live] at hl
theorem AVR.dead {pl : Pl} (v : Value) : AVR pl .dead v := trivial

/-- From one telling to another. -/
structure Turns (f : Sc → Sc) (pl pl' : Pl) : Prop where
  dead : f .dead = .dead
  sc : ∀ s v, SR pl s v → SR pl' (f s) v
theorem Turns.cr {f : Sc → Sc} {pl pl' : Pl} (h : Turns f pl pl') {s : Sc} {v : Value} (hr : CR pl s v) : CR pl' (f s) v := ⟨h.sc s v hr.1, hr.2⟩
theorem Turns.cells {f : Sc → Sc} {pl pl' : Pl} (h : Turns f pl pl') {cs : List Sc} {vs : List Value} (hr : R2 (CR pl) cs vs) : R2 (CR pl') (cs.map f) vs := hr.map_left fun x y _ hxy => h.cr hxy
theorem Turns.fl {f : Sc → Sc} {pl pl' : Pl} (h : Turns f pl pl') {x : Fl} {v : Value} (hr : FR pl x v) : FR pl' (x.map f) v := by
  cases x with
  | one s =>
    by_cases hl : s.live = true
    · exact FR.one (h.cr (hr.cr hl))
    · cases s <;> first | (simp [Fl.map, h.dead]; trivial) | simp [Sc.live] at hl
  | agg cs =>
    obtain ⟨vs, rfl, hr⟩ := hr
    exact ⟨vs, rfl, h.cells hr⟩
theorem Turns.fls {f : Sc → Sc} {pl pl' : Pl} (h : Turns f pl pl') {xs : List Fl} {vs : List Value} (hr : R2 (FR pl) xs vs) : R2 (FR pl') (xs.map (·.map f)) vs := hr.map_left fun x y _ hxy => h.fl hxy
theorem Turns.av {f : Sc → Sc} {pl pl' : Pl} (h : Turns f pl pl') {x : AV} {v : Value} (hr : AVR pl x v) : AVR pl' (x.map f) v := by
  cases x with
  | fl x => exact h.fl hr
  | tup xs =>
    obtain ⟨vs, rfl, hr⟩ := hr
    exact ⟨vs, rfl, h.fls hr⟩
  | clo f a b =>
    obtain ⟨as, bs, rfl, h1, h2⟩ := hr
    exact ⟨as, bs, rfl, h.fls h1, h.fls h2⟩
theorem Turns.avs {f : Sc → Sc} {pl pl' : Pl} (h : Turns f pl pl') {T : List AV} {vs : List Value} (hr : R2 (AVR pl) T vs) : R2 (AVR pl') (T.map (·.map f)) vs := hr.map_left fun x y _ hxy => h.av hxy
theorem Turns.outer {f : Sc → Sc} {pl pl' : Pl} (h : Turns f pl pl') {F : List (List AV)} {as : List Act} (hr : R2 (fun T (a : Act) => R2 (AVR pl) T a.tmps.toList) F as) :
    R2 (fun T (a : Act) => R2 (AVR pl') T a.tmps.toList) (F.map (·.map (·.map f))) as := hr.map_left fun x y _ hxy => h.avs hxy
theorem map_id_sc (cs : List Sc) : cs.map (fun s => s) = cs := by simp
theorem Fl.map_id (x : Fl) : x.map (fun s => s) = x := by cases x <;> simp [Fl.map]
theorem AV.map_id (x : AV) : x.map (fun s => s) = x := by cases x <;> simp [AV.map, Fl.map_id]

/-- A new block at a number that nothing is told of. -/
theorem Turns.fresh {pl : Pl} {n : Nat} (hn : pl n = none) (v : Value) : Turns (fun s => s) pl (pl.upd n v) := by
  refine ⟨rfl, fun s u h => ?_⟩
  cases s <;> simp only [SR, Pl.upd] at h ⊢ <;> try exact h
  all_goals
    split
    · rename_i e; subst e; simp [hn] at h
    · exact h
/-- A row lies elsewhere from now on: what spoke of it is dead. -/
theorem Turns.die {pl : Pl} {b : Nat} {a : Option Addr} {n c : Nat} (hb : pl b = some (.slice a n c)) (v : Value) : Turns (Sc.die b) pl (pl.upd b v) := by
  refine ⟨rfl, fun s u h => ?_⟩
  cases s with
  | ptr b' o =>
    obtain ⟨g, h1, h2⟩ := h
    have : b' ≠ b := by rintro rfl; rw [hb] at h1; simp at h1
    exact ⟨g, by simp only [Pl.upd, if_neg this]; exact h1, h2⟩
  | eptr b' sz i o =>
    simp only [Sc.die]
    cases e : Nat.beq b' b with
    | true => simp [SR]
    | false => have : b' ≠ b := Nat.ne_of_beq_eq_false e; simpa [SR, Pl.upd, this] using h
  | sl b' =>
    simp only [Sc.die]
    cases e : Nat.beq b' b with
    | true => simp [SR]
    | false => have : b' ≠ b := Nat.ne_of_beq_eq_false e; simpa [SR, Pl.upd, this] using h
  | tsl b' =>
    simp only [Sc.die]
    cases e : Nat.beq b' b with
    | true => simp [SR]
    | false => have : b' ≠ b := Nat.ne_of_beq_eq_false e; simpa [SR, Pl.upd, this] using h
  | mp b' =>
    obtain ⟨g, h1, h2⟩ := h
    have : b' ≠ b := by rintro rfl; rw [hb] at h1; simp at h1
    exact ⟨g, by simp only [Pl.upd, if_neg this]; exact h1, h2⟩
  | _ => exact h

/-! ### Memory steps -/
variable {G : C.Good P} {w0 : Base C}
theorem add_block (a : Addr) (n : Nat) : (a.add n).block = a.block := by unfold Addr.add; split <;> rfl
theorem BlkR.step {base : Nat} {pl : Pl} {w w' : World} {b : Nat} {x : Blk C} (h : BlkR G base pl w b x) (hs : w.heap.size ≤ w'.heap.size) (hg : ∀ g, plBlk pl b = some g → w'.heap[g]? = w.heap[g]?) : BlkR G base pl w' b x := by
  cases x with
  | gone => exact h
  | box t cs =>
    obtain ⟨g, vs, h1, h2, h3, h4⟩ := h
    exact ⟨g, vs, h1, h2, (hg g (by simp [plBlk, h1, blkOf])).trans h3, h4⟩
  | row e o xs =>
    cases o with
    | true =>
      obtain ⟨hh, v, h1, h2, h3⟩ := h
      refine ⟨hh, v, h1, h2, ?_⟩
      rcases h3 with h3 | ⟨g, cap, cur, rfl, hb, hh, r⟩
      · exact .inl h3
      · exact .inr ⟨g, cap, cur, rfl, hb, (hg g (by simp [plBlk, h1, blkOf])).trans hh, r⟩
    | false =>
      obtain ⟨hh, a, c, h1, h2, h3, h4, h5, h6⟩ := h
      refine ⟨hh, a, c, h1, h2, h3, h4, fun ad had => Nat.lt_of_lt_of_le (h5 ad had) hs, ?_⟩
      rcases h6 with h6 | ⟨ad, rfl, h6⟩
      · exact .inl h6
      · refine .inr ⟨ad, rfl, fun j u hu => ?_⟩
        rw [← h6 j u hu]
        exact World.cell?_of_block (by rw [add_block]; exact hg _ (by simp [plBlk, h1, blkOf]))
  | tab e l =>
    obtain ⟨hh, g, es, clock, h1, h2, h3, h4⟩ := h
    exact ⟨hh, g, es, clock, h1, h2, (hg g (by simp [plBlk, h1, blkOf])).trans h3, h4⟩
theorem BlkR.turn {base : Nat} {pl pl' : Pl} {f : Sc → Sc} {w : World} {b : Nat} {x : Blk C} (h : BlkR G base pl w b x) (ht : Turns f pl pl') (hb : pl' b = pl b) : BlkR G base pl' w b (x.map f) := by
  cases x with
  | gone => exact hb.trans h
  | box t cs =>
    obtain ⟨g, vs, h1, h2, h3, h4⟩ := h
    exact ⟨g, vs, hb.trans h1, h2, h3, ht.cells h4⟩
  | row e o xs =>
    cases o with
    | true => obtain ⟨hh, v, h1, h2⟩ := h; exact ⟨hh, v, hb.trans h1, h2⟩
    | false => obtain ⟨hh, a, c, h1, h2⟩ := h; exact ⟨hh, a, c, hb.trans h1, h2⟩
  | tab e l => obtain ⟨hh, g, es, clock, h1, h2⟩ := h; exact ⟨hh, g, es, clock, hb.trans h1, h2⟩
theorem BlkR.lt {base : Nat} {pl : Pl} {w : World} {b g : Nat} {x : Blk C} (h : BlkR G base pl w b x) (hg : plBlk pl b = some g) : g < w.heap.size := by
  cases x with
  | gone => have : pl b = none := h; simp [plBlk, this] at hg
  | box t cs =>
    obtain ⟨g', vs, h1, h2, h3, h4⟩ := h
    have : g' = g := by simpa [plBlk, h1, blkOf] using hg
    subst this
    exact (Array.getElem?_eq_some_iff.1 h3).1
  | row e o xs =>
    cases o with
    | true =>
      obtain ⟨hh, v, h1, h2, h3⟩ := h
      rcases h3 with ⟨rfl, _⟩ | ⟨g', cap, cur, rfl, hb, hh, r⟩
      · simp [plBlk, h1, blkOf] at hg
      · have : g' = g := by simpa [plBlk, h1, blkOf] using hg
        subst this
        exact (Array.getElem?_eq_some_iff.1 hh).1
    | false =>
      obtain ⟨hh, a, c, h1, h2, h3, h4, h5, h6⟩ := h
      cases a with
      | none => simp [plBlk, h1, blkOf] at hg
      | some ad =>
        have : ad.block = g := by simpa [plBlk, h1, blkOf] using hg
        subst this
        exact h5 ad rfl
  | tab e l =>
    obtain ⟨hh, g', es, clock, h1, h2, h3, h4⟩ := h
    have : g' = g := by simpa [plBlk, h1, blkOf] using hg
    subst this
    exact (Array.getElem?_eq_some_iff.1 h3).1
theorem BlkR.base {base : Nat} {pl : Pl} {w : World} {b g : Nat} {x : Blk C} (h : BlkR G base pl w b x) (ho : own x = true) (hg : plBlk pl b = some g) : base ≤ g := by
  cases x with
  | gone => cases ho
  | box t cs =>
    obtain ⟨g', vs, h1, h2, h3, h4⟩ := h
    have : g' = g := by simpa [plBlk, h1, blkOf] using hg
    omega
  | row e o xs =>
    cases o with
    | false => cases ho
    | true =>
      obtain ⟨hh, v, h1, h2, h3⟩ := h
      rcases h3 with ⟨rfl, _⟩ | ⟨g', cap, cur, rfl, hb, hh, r⟩
      · simp [plBlk, h1, blkOf] at hg
      · have : g' = g := by simpa [plBlk, h1, blkOf] using hg
        omega
  | tab e l =>
    obtain ⟨hh, g', es, clock, h1, h2, h3, h4⟩ := h
    have : g' = g := by simpa [plBlk, h1, blkOf] using hg
    omega

/-- Nothing that is told of was touched. -/
theorem Mem.grown {pl : Pl} {H : Nat → Blk C} {w w' : World} (h : Mem G w0 pl H w) (hg : w.grownBy w' none) : Mem G w0 pl H w' :=
  ⟨h.below.grown hg (by simp), fun b => (h.blk b).step hg.size (fun g hp => hg.block g ((h.blk b).lt hp) (by simp)), h.apart, h.may⟩
theorem Mem.drew {pl : Pl} {H : Nat → Blk C} {w : World} (h : Mem G w0 pl H w) : Mem G w0 pl H w.drew :=
  ⟨h.below.drew, fun b => (h.blk b).step (Nat.le_refl _) (fun g hp => rfl), h.apart, h.may⟩
/-- A new block that the call owns. -/
theorem Mem.new {pl : Pl} {H H' : Nat → Blk C} {w w' : World} {n : Nat} {x : Blk C} {v : Value} (h : Mem G w0 pl H w) (hn : H n = .gone) (hg : w.grownBy w' none)
    (hx : BlkR G 0 (pl.upd n v) w' n x) (hf : ∀ g, blkOf v = some g → w.heap.size ≤ g) (hH : ∀ b, H' b = if b = n then x else H b) : Mem G w0 (pl.upd n v) H' w' := by
  have hpn : pl n = none := by have := h.blk n; rw [hn] at this; exact this
  refine ⟨(h.grown hg).below, fun b => ?_, fun b b' g hne ho hb hb' => ?_, fun b g ho hb => ?_⟩
  · rw [hH]
    by_cases e : b = n
    · subst e; rw [if_pos rfl]; exact hx
    · rw [if_neg e]
      have := ((h.grown hg).blk b).turn (Turns.fresh hpn v) (by simp [Pl.upd, e])
      have hm : (H b).map (fun s => s) = H b := by cases H b <;> simp [Blk.map]
      rw [hm] at this
      exact this
  · have e1 : ∀ c, c ≠ n → plBlk (pl.upd n v) c = plBlk pl c := fun c hc => by simp [plBlk, Pl.upd, hc]
    have e2 : plBlk (pl.upd n v) n = blkOf v := by simp [plBlk, Pl.upd]
    by_cases c : b = n
    · subst c
      have hb'n : b' ≠ b := Ne.symm hne
      rw [e2] at hb
      rw [e1 _ hb'n] at hb'
      have := (h.blk b').lt hb'
      have := hf g hb
      omega
    · rw [e1 _ c] at hb
      rw [hH, if_neg c] at ho
      by_cases c' : b' = n
      · subst c'
        rw [e2] at hb'
        have := (h.blk b).lt hb
        have := hf g hb'
        omega
      · rw [e1 _ c'] at hb'
        exact h.apart b b' g hne ho hb hb'
  · rw [hH] at ho
    by_cases c : b = n
    · subst c
      have e2 : plBlk (pl.upd b v) b = blkOf v := by simp [plBlk, Pl.upd]
      rw [e2] at hb
      exact h.below.fresh (hf g hb)
    · have e1 : plBlk (pl.upd n v) b = plBlk pl b := by simp [plBlk, Pl.upd, c]
      rw [if_neg c] at ho
      rw [e1] at hb
      exact h.may b g ho hb
/-- A block that the call owns holds something else. -/
theorem Mem.turn {pl : Pl} {H H' : Nat → Blk C} {w w' : World} {b0 : Nat} {x : Blk C} (h : Mem G w0 pl H w) (ho : own (H b0) = true) (hg : w.grownBy w' (plBlk pl b0))
    (hx : BlkR G 0 pl w' b0 x) (hH : ∀ b, H' b = if b = b0 then x else H b) : Mem G w0 pl H' w' := by
  refine ⟨h.below.grown hg (fun k hk => h.may b0 k ho hk), fun b => ?_, fun b b' g hne ho' hb hb' => ?_, fun b g ho' hb => ?_⟩
  · rw [hH]
    by_cases e : b = b0
    · subst e; rw [if_pos rfl]; exact hx
    · rw [if_neg e]
      refine (h.blk b).step hg.size (fun g hp => hg.block g ((h.blk b).lt hp) (fun hk => ?_))
      exact h.apart b0 b g (Ne.symm e) ho hk.symm hp
  · rw [hH] at ho'
    by_cases e : b = b0
    · subst e; exact h.apart b b' g hne ho hb hb'
    · rw [if_neg e] at ho'; exact h.apart b b' g hne ho' hb hb'
  · rw [hH] at ho'
    by_cases e : b = b0
    · subst e; exact h.may b g ho hb
    · rw [if_neg e] at ho'; exact h.may b g ho' hb
end
end Go.Abs
