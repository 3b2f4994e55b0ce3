/- A REGION WHOSE ORDER IS LEFT OPEN, first part: two operations that don't disturb one another may be carried out in either order. Plain laws of what is told. -/
import Derived.Test.YtjfndepkgahkiaaDoorA22
set_option linter.unusedVariables false
set_option linter.unusedSimpArgs false
namespace Go.Abs
open Go.RowKit
section
variable {C : Codec} {P : Program} {Ψ : Known C} {σ : St C} {n : Nat} {o : Oper} {ops : Array Oper}

theorem memN_iff {b : Nat} : ∀ {l : List Nat}, memN b l = true ↔ b ∈ l
  | [] => by simp [memN]
  | c :: r => by
    simp only [memN, Bool.or_eq_true, List.mem_cons, memN_iff (l := r)]
    exact or_congr ⟨Nat.eq_of_beq_eq_true, fun h => h ▸ Nat.beq_refl b⟩ Iff.rfl
theorem memN_false {b : Nat} {l : List Nat} (h : (!memN b l) = true) : b ∉ l := fun hb => by rw [memN_iff.2 hb] at h; cases h
theorem disj_iff {a b : List Nat} (h : disj a b = true) : ∀ x, x ∈ a → x ∉ b := fun x hx => memN_false (List.all_eq_true.1 h x hx)

/-! ### What is dead from now on -/
def fOf (r : Res C) : Sc → Sc := match r.kill with
  | some b => Sc.die b
  | none => fun s => s
def Free (f : Sc → Sc) (l : List Nat) : Prop := ∀ s : Sc, (∀ b, b ∈ s.ment → b ∈ l) → f s = s
theorem die_free {b : Nat} {l : List Nat} (h : b ∉ l) : Free (Sc.die b) l := fun s hs => by
  have key : ∀ c, c ∈ l → Nat.beq c b = false := fun c hc => by
    cases e : Nat.beq c b with
    | false => rfl
    | true => have := Nat.eq_of_beq_eq_true e; subst this; exact absurd hc h
  cases s <;> simp only [Sc.die] <;> try rfl
  all_goals (rw [key _ (hs _ (by simp [Sc.ment]))]; rfl)
theorem Free.mono {f : Sc → Sc} {l l' : List Nat} (h : Free f l) (hl : ∀ b, b ∈ l' → b ∈ l) : Free f l' := fun s hs => h s fun b hb => hl b (hs b hb)
theorem Free.cells {f : Sc → Sc} {cs : List Sc} {l : List Nat} (h : Free f l) (hm : ∀ b, b ∈ cs.flatMap Sc.ment → b ∈ l) : cs.map f = cs := by
  conv => rhs; rw [← List.map_id cs]
  exact List.map_congr_left fun s hs => h s fun b hb => hm b (List.mem_flatMap.2 ⟨s, hs, hb⟩)
theorem Free.fl {f : Sc → Sc} {x : Fl} {l : List Nat} (h : Free f l) (hm : ∀ b, b ∈ x.ment → b ∈ l) : x.map f = x := by
  cases x with
  | one s => simp only [Fl.map]; rw [h s fun b hb => hm b (by simpa [Fl.ment, Fl.cells] using hb)]
  | agg cs => have := h.cells (cs := cs) hm; simp only [Fl.map]; rw [this]
theorem Free.fls {f : Sc → Sc} {xs : List Fl} {l : List Nat} (h : Free f l) (hm : ∀ b, b ∈ xs.flatMap Fl.ment → b ∈ l) : xs.map (·.map f) = xs := by
  conv => rhs; rw [← List.map_id xs]
  exact List.map_congr_left fun x hx => h.fl fun b hb => hm b (List.mem_flatMap.2 ⟨x, hx, hb⟩)
theorem Free.av {f : Sc → Sc} {x : AV} {l : List Nat} (h : Free f l) (hm : ∀ b, b ∈ x.ment → b ∈ l) : x.map f = x := by
  cases x with
  | fl x => simp only [AV.map]; rw [h.fl hm]
  | tup vs => simp only [AV.map]; rw [h.fls hm]
  | clo g a b => simp only [AV.map]; rw [h.fls fun b hb => hm b (List.mem_append_left _ hb), h.fls fun b hb => hm b (List.mem_append_right _ hb)]
theorem Free.avs {f : Sc → Sc} {xs : List AV} {l : List Nat} (h : Free f l) (hm : ∀ b, b ∈ xs.flatMap AV.ment → b ∈ l) : xs.map (·.map f) = xs := by
  conv => rhs; rw [← List.map_id xs]
  exact List.map_congr_left fun x hx => h.av fun b hb => hm b (List.mem_flatMap.2 ⟨x, hx, hb⟩)
theorem Free.blk {f : Sc → Sc} {x : Blk C} {l : List Nat} (h : Free f l) (hm : ∀ b, b ∈ x.ment → b ∈ l) : x.map f = x := by
  cases x with
  | box t cs => simp only [Blk.map]; rw [h.cells hm]
  | _ => rfl
theorem id_free (l : List Nat) : Free (fun s => s) l := fun _ _ => rfl

/-- What still lives was not struck. -/
def Kept (f : Sc → Sc) : Prop := ∀ s : Sc, (f s).live = true → f s = s
theorem die_kept (b : Nat) : Kept (Sc.die b) := fun s h => by
  have key : ∀ (b' : Nat) (s : Sc), (cond (Nat.beq b' b) Sc.dead s).live = true → cond (Nat.beq b' b) Sc.dead s = s := fun b' s h => by
    cases e : Nat.beq b' b with
    | true => rw [e] at h; cases h
    | false => rfl
  cases s <;> simp only [Sc.die] at h ⊢
  all_goals exact key _ _ h
theorem id_kept : Kept (fun s => s) := fun _ _ => rfl
theorem Kept.cells {f : Sc → Sc} (h : Kept f) : ∀ {cs : List Sc}, (cs.map f).all Sc.live = true → cs.map f = cs
  | [], _ => rfl
  | s :: cs, hl => by
    simp only [List.map_cons, List.all_cons, Bool.and_eq_true] at hl ⊢
    rw [h s hl.1, h.cells hl.2]
theorem Kept.fl {f : Sc → Sc} (h : Kept f) {x : Fl} (hl : (x.map f).cells.all Sc.live = true) : x.map f = x := by
  cases x with
  | one s =>
    simp only [Fl.map, Fl.cells, List.all_cons, Bool.and_eq_true] at hl ⊢
    rw [h s hl.1]
  | agg cs => have := h.cells (cs := cs) hl; simp only [Fl.map]; rw [this]
theorem Kept.fls {f : Sc → Sc} (h : Kept f) : ∀ {xs : List Fl}, ((xs.map (·.map f)).all fun x => x.cells.all Sc.live) = true → xs.map (·.map f) = xs
  | [], _ => rfl
  | x :: xs, hl => by
    simp only [List.map_cons, List.all_cons, Bool.and_eq_true] at hl ⊢
    rw [h.fl hl.1, h.fls hl.2]
theorem Kept.av {f : Sc → Sc} (h : Kept f) {x : AV} (hl : (x.map f).live = true) : x.map f = x := by
  cases x with
  | fl x => have := h.fl (x := x) hl; simp only [AV.map]; rw [this]
  | tup vs => have := h.fls (xs := vs) hl; simp only [AV.map]; rw [this]
  | clo g a b =>
    simp only [AV.map, AV.live, Bool.and_eq_true] at hl ⊢
    rw [h.fls (xs := a) hl.1, h.fls (xs := b) hl.2]
theorem Kept.avs {f : Sc → Sc} (h : Kept f) : ∀ {xs : List AV}, (xs.map (·.map f)).all AV.live = true → xs.map (·.map f) = xs
  | [], _ => rfl
  | x :: xs, hl => by
    simp only [List.map_cons, List.all_cons, Bool.and_eq_true] at hl ⊢
    rw [h.av hl.1, h.avs hl.2]
theorem Kept.blk {f : Sc → Sc} (h : Kept f) {x : Blk C} (hl : (x.map f).live = true) : x.map f = x := by
  cases x with
  | box t cs => have := h.cells (cs := cs) hl; simp only [Blk.map]; rw [this]
  | _ => rfl
theorem fOf_kept (r : Res C) : Kept (fOf r) := by
  unfold fOf
  split
  · exact die_kept _
  · exact id_kept
theorem fOf_dead (r : Res C) : fOf r .dead = .dead := by
  unfold fOf
  cases r.kill <;> rfl
theorem fOf_free (r : Res C) {l : List Nat} (h : ∀ b, r.kill = some b → b ∉ l) : Free (fOf r) l := by
  unfold fOf
  split
  · rename_i b hb; exact die_free (h b hb)
  · exact id_free l
theorem die_comm (b c : Nat) (s : Sc) : Sc.die b (Sc.die c s) = Sc.die c (Sc.die b s) := by
  have key : ∀ (b' : Nat) (s : Sc) , (∀ d, Sc.die d s = cond (Nat.beq b' d) .dead s) → Sc.die b (Sc.die c s) = Sc.die c (Sc.die b s) := fun b' s hs => by
    rw [hs c, hs b]
    cases e1 : Nat.beq b' b <;> cases e2 : Nat.beq b' c <;> simp only [Bool.cond_true, Bool.cond_false, hs, e1, e2] <;> rfl
  cases s <;> first | rfl | exact key _ _ (fun d => rfl)
theorem fOf_comm (x y : Res C) (s : Sc) : fOf x (fOf y s) = fOf y (fOf x s) := by
  unfold fOf
  cases x.kill <;> cases y.kill <;> first | rfl | exact die_comm _ _ _
theorem Fl.map_map (f g : Sc → Sc) (x : Fl) : (x.map f).map g = x.map (fun s => g (f s)) := by cases x <;> simp [Fl.map]
theorem AV.map_map (f g : Sc → Sc) (x : AV) : (x.map f).map g = x.map (fun s => g (f s)) := by
  cases x <;> simp [AV.map, Fl.map_map]
theorem Blk.map_map (f g : Sc → Sc) (x : Blk C) : (x.map f).map g = x.map (fun s => g (f s)) := by
  cases x <;> simp [Blk.map]

/-! ### The state behind an operation -/
def putT (d : Option Tmp) (v : AV) (T : List AV) : List AV := match d with
  | some d => T.set d v
  | none => T
theorem apply_eq (σ : St C) (d : Option Tmp) (r : Res C) : σ.apply d r =
    { T := putT d r.v (σ.T.map (·.map (fOf r))), F := σ.F.map (·.map (·.map (fOf r))), H := upd (σ.H.map (·.map (fOf r))) r.up } := by
  obtain ⟨v, up, kill⟩ := r
  cases kill with
  | none =>
    have h1 : σ.T.map (·.map (fun s => s)) = σ.T := by simp [AV.map_id]
    have h2 : σ.F.map (·.map (·.map (fun s => s))) = σ.F := by simp [AV.map_id]
    have h3 : σ.H.map (·.map (fun s => s)) = σ.H := by
      conv => rhs; rw [← List.map_id σ.H]
      exact List.map_congr_left fun x _ => by cases x <;> simp [Blk.map]
    simp only [St.apply, fOf, h1, h2, h3]
    cases d <;> rfl
  | some b =>
    simp only [St.apply, fOf]
    cases d <;> rfl
theorem upd_getD : ∀ (ups : List (Nat × Blk C)) (H : List (Blk C)) (b : Nat), b ∉ ups.map (·.1) → (upd H ups).getD b .gone = H.getD b .gone
  | [], H, b, _ => rfl
  | (c, x) :: r, H, b, h => by
    simp only [List.map_cons, List.mem_cons, not_or] at h
    simp only [upd]
    rw [upd_getD r _ b h.2, List.getD_eq_getElem?_getD, List.getElem?_set_ne (Ne.symm h.1), ← List.getD_eq_getElem?_getD]
theorem upd_length : ∀ (ups : List (Nat × Blk C)) (H : List (Blk C)), (upd H ups).length = H.length
  | [], H => rfl
  | (c, x) :: r, H => by simp only [upd]; rw [upd_length r]; simp
theorem upd_map (f : Sc → Sc) : ∀ (ups : List (Nat × Blk C)) (H : List (Blk C)), (upd H ups).map (·.map f) = upd (H.map (·.map f)) (ups.map fun p => (p.1, p.2.map f))
  | [], H => rfl
  | (c, x) :: r, H => by simp only [upd, List.map_cons]; rw [upd_map f r, List.map_set]
theorem upd_set {ups : List (Nat × Blk C)} : ∀ {H : List (Blk C)} {c : Nat} {x : Blk C}, c ∉ ups.map (·.1) → upd (H.set c x) ups = (upd H ups).set c x := by
  induction ups with
  | nil => intro H c x h; rfl
  | cons p r ih =>
    intro H c x h
    obtain ⟨d, y⟩ := p
    simp only [List.map_cons, List.mem_cons, not_or] at h
    simp only [upd]
    rw [List.set_comm _ _ h.1, ih h.2]
theorem upd_comm : ∀ {u1 u2 : List (Nat × Blk C)} {H : List (Blk C)}, (∀ b, b ∈ u1.map (·.1) → b ∉ u2.map (·.1)) → upd (upd H u1) u2 = upd (upd H u2) u1
  | [], u2, H, h => rfl
  | (c, x) :: r, u2, H, h => by
    simp only [upd]
    rw [upd_comm (u1 := r) (fun b hb => h b (List.mem_cons_of_mem _ hb)), upd_set (h c (by simp))]
/-- The end is the same. -/
theorem apply_comm {dx dy : Option Tmp} {x y : Res C} (hd : ∀ d, dx = some d → dy ≠ some d) (hw : ∀ b, b ∈ x.up.map (·.1) → b ∉ y.up.map (·.1))
    (hx : Free (fOf y) (x.v.ment ++ x.up.flatMap (·.2.ment))) (hy : Free (fOf x) (y.v.ment ++ y.up.flatMap (·.2.ment))) :
    (σ.apply dx x).apply dy y = (σ.apply dy y).apply dx x := by
  have hups : ∀ {f : Sc → Sc} {r : Res C}, Free f (r.v.ment ++ r.up.flatMap (·.2.ment)) → (r.up.map fun p => (p.1, p.2.map f)) = r.up := fun {f r} h => by
    conv => rhs; rw [← List.map_id r.up]
    refine List.map_congr_left fun p hp => ?_
    rw [h.blk fun b hb => List.mem_append_right _ (List.mem_flatMap.2 ⟨p, hp, hb⟩)]
    rfl
  have hput : ∀ {f : Sc → Sc} {r : Res C} {d : Option Tmp} {T : List AV}, Free f (r.v.ment ++ r.up.flatMap (·.2.ment)) → (putT d r.v T).map (·.map f) = putT d r.v (T.map (·.map f)) := fun {f r d T} h => by
    cases d with
    | none => rfl
    | some d => simp only [putT, List.map_set]; rw [h.av fun b hb => List.mem_append_left _ hb]
  rw [apply_eq (σ.apply dx x), apply_eq (σ.apply dy y), apply_eq σ dx x, apply_eq σ dy y]
  simp only [hput hx, hput hy, upd_map, hups hx, hups hy]
  have hcomp : ∀ (T : List AV), (T.map (·.map (fOf x))).map (·.map (fOf y)) = (T.map (·.map (fOf y))).map (·.map (fOf x)) := fun T => by
    simp only [List.map_map]
    refine List.map_congr_left fun v _ => ?_
    simp only [Function.comp, AV.map_map, fOf_comm]
  congr 1
  · rw [hcomp]
    cases dx with
    | none => rfl
    | some d1 =>
      cases dy with
      | none => rfl
      | some d2 =>
        have : d1 ≠ d2 := fun e => hd d1 rfl (e ▸ rfl)
        simp only [putT]
        rw [List.set_comm _ _ this]
  · simp only [List.map_map]
    refine List.map_congr_left fun T _ => ?_
    simp only [Function.comp]
    exact hcomp T
  · rw [upd_comm hw]
    congr 2
    simp only [List.map_map]
    refine List.map_congr_left fun v _ => ?_
    simp only [Function.comp, Blk.map_map, fOf_comm]
end
end Go.Abs
