/- A CALL OF A FUNCTION THAT TAKES SOMETHING OVER, second part: what is left behind. -/
import Derived.Test.YtjfndepkgahkiaaDoorA36
set_option linter.unusedVariables false
set_option linter.unusedSimpArgs false
namespace Go.Abs
open Go.RowKit
section
variable {C : Codec} {P : Program} {G : C.Good P} {w0 : Base C} {σ : St C} {as : List Act} {a : Act} {w w' : World} {pl pl' : Pl} {n : Nat} {H H' : Nat → Blk C} {o : Oper} {r : Res C}

theorem updA_append : ∀ (l1 l2 : List (Nat × Blk C)) (H : List (Blk C)), upd H (l1 ++ l2) = upd (upd H l1) l2
  | [], l2, H => rfl
  | (b, x) :: l1, l2, H => updA_append l1 l2 (H.set b x)
theorem updA_len : ∀ (l : List (Nat × Blk C)) (H : List (Blk C)), (upd H l).length = H.length
  | [], H => rfl
  | (b, x) :: l, H => (updA_len l (H.set b x)).trans (by simp)
theorem updA_not : ∀ (l : List (Nat × Blk C)) (H : List (Blk C)) (c : Nat), (∀ p, p ∈ l → p.1 ≠ c) → (upd H l).getD c .gone = H.getD c .gone
  | [], H, c, _ => rfl
  | (b, x) :: l, H, c, h => by
    have h1 : b ≠ c := h (b, x) List.mem_cons_self
    refine (updA_not l (H.set b x) c fun p hp => h p (List.mem_cons_of_mem _ hp)).trans ?_
    rw [List.getD_eq_getElem?_getD, List.getElem?_set_ne h1, ← List.getD_eq_getElem?_getD]
theorem updA_mem : ∀ (l : List (Nat × Blk C)) (H : List (Blk C)) (c : Nat), c < H.length → (∃ p, p ∈ l ∧ p.1 = c) → ∃ x, (c, x) ∈ l ∧ (upd H l).getD c .gone = x
  | [], H, c, _, h => by obtain ⟨p, hp, _⟩ := h; cases hp
  | (b, x) :: l, H, c, hc, h => by
    by_cases k : ∃ p, p ∈ l ∧ p.1 = c
    · obtain ⟨y, h1, h2⟩ := updA_mem l (H.set b x) c (by simpa using hc) k
      exact ⟨y, List.mem_cons_of_mem _ h1, h2⟩
    · obtain ⟨p, hp, hpc⟩ := h
      rcases List.mem_cons.1 hp with rfl | hp
      · simp only at hpc
        subst hpc
        refine ⟨x, List.mem_cons_self, ?_⟩
        have : (upd (H.set b x) l).getD b .gone = (H.set b x).getD b .gone := updA_not l _ _ fun p hp e => k ⟨p, hp, e⟩
        refine this.trans ?_
        rw [List.getD_eq_getElem?_getD, List.getElem?_set_self hc]; rfl
      · exact absurd ⟨p, hp, hpc⟩ k
theorem blk_lt {σ : St C} {b : Nat} (h : σ.blk b ≠ .gone) : b < σ.H.length := by
  rcases Nat.lt_or_ge b σ.H.length with h1 | h1
  · exact h1
  · exact absurd (by rw [St.blk, List.getD_eq_getElem?_getD, List.getElem?_eq_none h1]; rfl) h

/-! ### Steps of what is told -/
theorem Turns.kill {b : Nat} {a : Option Addr} {n c : Nat} (hb : pl b = some (.slice a n c)) : Turns (Sc.die b) pl (fun x => if x = b then none else pl x) := by
  refine ⟨rfl, fun s u h => ?_⟩
  cases s with
  | ptr b' o =>
    obtain ⟨g, h1, h2⟩ := h
    have : b' ≠ b := by rintro rfl; rw [hb] at h1; simp at h1
    exact ⟨g, by simp only [if_neg this]; exact h1, h2⟩
  | eptr b' sz i o =>
    simp only [Sc.die]
    cases e : Nat.beq b' b with
    | true => simp [SR]
    | false => have : b' ≠ b := Nat.ne_of_beq_eq_false e; simpa [SR, this] using h
  | sl b' =>
    simp only [Sc.die]
    cases e : Nat.beq b' b with
    | true => simp [SR]
    | false => have : b' ≠ b := Nat.ne_of_beq_eq_false e; simpa [SR, this] using h
  | tsl b' =>
    simp only [Sc.die]
    cases e : Nat.beq b' b with
    | true => simp [SR]
    | false => have : b' ≠ b := Nat.ne_of_beq_eq_false e; simpa [SR, this] using h
  | mp b' =>
    obtain ⟨g, h1, h2⟩ := h
    have : b' ≠ b := by rintro rfl; rw [hb] at h1; simp at h1
    exact ⟨g, by simp only [if_neg this]; exact h1, h2⟩
  | _ => exact h
def St.kill (σ : St C) (b : Nat) : St C := { T := (σ.map (Sc.die b)).T, F := (σ.map (Sc.die b)).F, H := (σ.map (Sc.die b)).H.set b .gone }
theorem rel_kill (h : Rel G w0 σ as a w pl) {b : Nat} {e : TypeId} {xs : List (C.Elt e)} (hb : σ.blk b = .row e true xs) : Rel G w0 (σ.kill b) as a w (fun x => if x = b then none else pl x) := by
  have hlen : b < σ.H.length := blk_lt (by rw [hb]; intro hh; cases hh)
  have hB := h.mem.blk b
  rw [hb] at hB
  obtain ⟨hhas, v0, hp0, hrow⟩ := hB
  obtain ⟨a1, c1, rfl⟩ := ownsRow_slice hrow
  have ht := Turns.kill hp0
  have e1 : ∀ c, c ≠ b → plBlk (fun x => if x = b then none else pl x) c = plBlk pl c := fun c hc => by simp [plBlk, hc]
  have e2 : plBlk (fun x => if x = b then none else pl x) b = none := by simp [plBlk]
  have hH : ∀ c, (σ.kill b).blk c = if c = b then .gone else (σ.blk c).map (Sc.die b) := fun c => by
    simp only [St.kill, St.blk, St.map]
    rw [getD_set _ _ _ _ _ (by simpa using hlen), getD_map]
  have hmap : ∀ (x : Blk C), own (x.map (Sc.die b)) = own x := fun x => by cases x <;> rfl
  refine ⟨⟨h.mem.below, fun c => ?_, fun c c' g hne hoc hc hc' => ?_, fun c g hoc hc => ?_⟩, ht.avs h.tmps, ht.outer h.outer⟩
  · rw [hH]
    by_cases e : c = b
    · subst e; rw [if_pos rfl]; show (if c = c then none else pl c) = none; rw [if_pos rfl]
    · rw [if_neg e]
      exact (h.mem.blk c).turn ht (by simp [e])
  · rw [hH] at hoc
    by_cases c1 : c = b
    · rw [if_pos c1] at hoc; cases hoc
    · rw [if_neg c1, hmap] at hoc
      rw [e1 _ c1] at hc
      by_cases c2 : c' = b
      · subst c2; rw [e2] at hc'; cases hc'
      · rw [e1 _ c2] at hc'
        exact h.mem.apart c c' g hne hoc hc hc'
  · rw [hH] at hoc
    by_cases c1 : c = b
    · rw [if_pos c1] at hoc; cases hoc
    · rw [if_neg c1, hmap] at hoc
      rw [e1 _ c1] at hc
      exact h.mem.may c g hoc hc
theorem rel_retell : ∀ (L : List (Nat × Blk C)) {σ : St C}, (∀ p, p ∈ L → own (σ.blk p.1) = true ∧ own p.2 = true ∧ BlkR G 0 pl w p.1 p.2) → Rel G w0 σ as a w pl → Rel G w0 { T := σ.T, F := σ.F, H := upd σ.H L } as a w pl
  | [], σ, _, h => h
  | (b, x) :: L, σ, hL, h => by
    obtain ⟨h1, h2, h3⟩ := hL (b, x) List.mem_cons_self
    have hlen : b < σ.H.length := blk_lt (fun e => by simp only [e] at h1; cases h1)
    have hst : Rel G w0 ({ T := σ.T, F := σ.F, H := σ.H.set b x } : St C) as a w pl := by
      refine ⟨h.mem.turn h1 (World.grownBy.refl w _) h3 (fun c => ?_), h.tmps, h.outer⟩
      exact getD_set _ _ _ _ _ hlen
    refine rel_retell L (fun p hp => ?_) hst
    obtain ⟨g1, g2, g3⟩ := hL p (List.mem_cons_of_mem _ hp)
    refine ⟨?_, g2, g3⟩
    show own ((σ.H.set b x).getD p.1 .gone) = true
    rw [getD_set _ _ _ _ _ hlen]
    split
    · exact h2
    · exact g1
theorem rel_world (h : Rel G w0 σ as a w pl) (hw : Held w0 w') (hb : ∀ c, BlkR G 0 pl w' c (σ.blk c)) : Rel G w0 σ as a w' pl :=
  ⟨⟨hw, hb, h.mem.apart, h.mem.may⟩, h.tmps, h.outer⟩
theorem rel_news (h : Rel G w0 σ as a w pl) {base : Nat} {rs : List (RV C)} {us : List Value} (hn : ∀ i, i < rowsIn rs → σ.blk (n + i) = .gone ∧ n + i < σ.H.length) (hr : R2 (RVO w base) rs us)
    (hf : ∀ u, u ∈ us → ∀ b g, plBlk pl b = some g → blkOf u ≠ some g) (hy : ∀ u, u ∈ us → ∀ g, blkOf u = some g → w0.may g) (hd : Distinct us) :
    ∃ pl', Rel G w0 { T := σ.T, F := σ.F, H := upd σ.H (ofRVs n rs).2 } as a w pl' ∧ Turns (fun s => s) pl pl' ∧ R2 (FR pl') (ofRVs n rs).1 us := by
  obtain ⟨pl', h1, h2, h3⟩ := news (base := base) hn h.mem hr hf hy hd
  refine ⟨pl', ⟨h1, ?_, ?_⟩, h2, h3⟩
  · have := h2.avs h.tmps
    simpa only [AV.map_id, List.map_id'] using this
  · have := h2.outer h.outer
    simpa only [AV.map_id, List.map_id'] using this
theorem rel_put (h : Rel G w0 σ as a w pl) (d : Option Tmp) {x : AV} {v : Value} (hx : AVR pl x v) : Rel G w0 (σ.put d x) as (a.put d v) w pl := by
  have := rel_pure h d hx
  have e : σ.apply d { v := x } = σ.put d x := by cases d <;> rfl
  rwa [e] at this

/-! ### What was handed in -/
theorem clash_spec {b : Nat} {k : Nat} : ∀ {q : List (Option Nat × Nat)}, clash (some b) k q = false → ∀ k', (some b, k') ∈ q → k = 0 ∧ k' = 0
  | [], _, k', h => by cases h
  | (b', k1) :: q, hc, k', h => by
    simp only [clash, Bool.or_eq_false_iff] at hc
    rcases List.mem_cons.1 h with h | h
    · injection h with h1 h2
      subst h1; subst h2
      have := hc.1
      simp only [Nat.beq_refl, Bool.true_and, Bool.not_eq_false', Bool.and_eq_true] at this
      exact ⟨Nat.eq_of_beq_eq_true this.1, Nat.eq_of_beq_eq_true this.2⟩
    · exact clash_spec hc.2 k' h
theorem apart_spec' : ∀ {q : List (Option Nat × Nat)}, apartS q = true → ∀ {i j b k k' : Nat}, i < j → q[i]? = some (some b, k) → q[j]? = some (some b, k') → k = 0 ∧ k' = 0
  | [], _, i, j, b, k, k', _, h, _ => by simp at h
  | (b0, k0) :: q, h, i, j, b, k, k', hij, hi, hj => by
    simp only [apartS, Bool.and_eq_true, Bool.not_eq_true'] at h
    cases j with
    | zero => omega
    | succ j =>
      have hj : q[j]? = some (some b, k') := by simpa using hj
      cases i with
      | zero =>
        simp only [List.getElem?_cons_zero, Option.some.injEq, Prod.mk.injEq] at hi
        obtain ⟨rfl, rfl⟩ := hi
        exact clash_spec h.1 k' (List.mem_of_getElem? hj)
      | succ i =>
        have hij' : i < j := by omega
        exact apart_spec' h.2 hij' (by simpa using hi) hj
theorem apart_ne {q : List (Option Nat × Nat)} (h : apartS q = true) {i j b k k' : Nat} (hij : i ≠ j) (hi : q[i]? = some (some b, k)) (hj : q[j]? = some (some b, k')) : k = 0 ∧ k' = 0 := by
  rcases Nat.lt_or_gt_of_ne hij with h1 | h1
  · exact apart_spec' h h1 hi hj
  · exact (apart_spec' h h1 hj hi).symm
theorem toCells_len : ∀ {ts : List TypeId} {cs : List Sc} {l : List (RV C)} {q : List (Option Nat × Nat)}, toCells P H ts cs = some (l, q) → ts.length = cs.length ∧ ∀ b k, (some b, k) ∈ q → k = 1 ∧ ∃ e xs, H b = .row e true xs
  | [], [], l, q, h => by
    simp only [toCells, Option.some.injEq, Prod.mk.injEq] at h
    obtain ⟨rfl, rfl⟩ := h
    exact ⟨rfl, fun b k hb => by cases hb⟩
  | t :: ts, s :: cs, l, q, h => by
    simp only [toCells] at h
    split at h
    · rename_i l' q' hl'
      obtain ⟨i1, i2⟩ := toCells_len hl'
      refine ⟨by simp [i1], ?_⟩
      split at h
      · obtain ⟨_, h2⟩ := cond_none h
        simp only [Option.some.injEq, Prod.mk.injEq] at h2
        obtain ⟨rfl, rfl⟩ := h2
        intro b k hb
        rcases List.mem_cons.1 hb with hb | hb
        · cases hb
        · exact i2 b k hb
      · rename_i e b0 he
        split at h
        · rename_i e' xs hb0
          obtain ⟨_, h2⟩ := cond_none h
          simp only [Option.some.injEq, Prod.mk.injEq] at h2
          obtain ⟨rfl, rfl⟩ := h2
          intro b k hb
          rcases List.mem_cons.1 hb with hb | hb
          · injection hb with h3 h4
            injection h3 with h3
            subst h3; subst h4
            exact ⟨rfl, _, _, hb0⟩
          · exact i2 b k hb
        · cases h
      · obtain ⟨_, h2⟩ := cond_none h
        simp only [Option.some.injEq, Prod.mk.injEq] at h2
        obtain ⟨rfl, rfl⟩ := h2
        exact i2
      · cases h
    · cases h
  | [], _ :: _, _, _, h => by simp [toCells] at h
  | _ :: _, [], _, _, h => by simp [toCells] at h
theorem dead_no {E : List Eat} {v : AV} {vs : List AV} : deadBoxes (C := C) (.no :: E) (v :: vs) = deadBoxes E vs := by cases v <;> rfl
theorem dead_row {E : List Eat} {v : AV} {vs : List AV} : deadBoxes (C := C) (.row :: E) (v :: vs) = deadBoxes E vs := by cases v <;> rfl
/-- The sources, one by one. -/
theorem toE_src : ∀ {E : List Eat} {ts : List TypeId} {vs : List AV} {l : List (RV C)} {q : List (Option Nat × Nat)}, toE P H E ts vs = some (l, q) →
    (∀ b k, (some b, k) ∈ q → k = 0 ∨ (k = 1 ∧ ∃ e xs, H b = .row e true xs) ∨ (k = 2 ∧ ∃ x, (b, x) ∈ deadBoxes (C := C) E vs)) ∧
    (∀ p, p ∈ deadBoxes (C := C) E vs → (some p.1, 2) ∈ q ∧ ∃ t cs, H p.1 = .box t cs ∧ p.2 = .box t (List.replicate cs.length .dead))
  | [], [], [], l, q, h => by
    simp only [toE, Option.some.injEq, Prod.mk.injEq] at h
    obtain ⟨rfl, rfl⟩ := h
    exact ⟨(fun b k hb => by cases hb), (fun p hp => by simp [deadBoxes] at hp)⟩
  | .no :: E, t :: ts, v :: vs, l, q, h => by
    rw [dead_no]
    simp only [toE] at h
    split at h
    · rename_i x l' q' hx hl'
      simp only [Option.some.injEq, Prod.mk.injEq] at h
      obtain ⟨rfl, rfl⟩ := h
      exact toE_src hl'
    · rename_i e ys l' q' hx hl'
      simp only [Option.some.injEq, Prod.mk.injEq] at h
      obtain ⟨rfl, rfl⟩ := h
      obtain ⟨i1, i2⟩ := toE_src hl'
      refine ⟨fun b k hb => ?_, fun p hp => ⟨List.mem_cons_of_mem _ (i2 p hp).1, (i2 p hp).2⟩⟩
      rcases List.mem_cons.1 hb with hb | hb
      · injection hb with h3 h4; exact .inl h4
      · exact i1 b k hb
    · cases h
  | .row :: E, t :: ts, .fl (.one s) :: vs, l, q, h => by
    rw [dead_row]
    simp only [toE] at h
    split at h
    · rename_i l1 q1 l' q' h1 hl'
      simp only [Option.some.injEq, Prod.mk.injEq] at h
      obtain ⟨rfl, rfl⟩ := h
      obtain ⟨i1, i2⟩ := toE_src hl'
      refine ⟨fun b k hb => ?_, fun p hp => ⟨List.mem_append_right _ (i2 p hp).1, (i2 p hp).2⟩⟩
      rcases List.mem_append.1 hb with hb | hb
      · exact .inr (.inl ((toCells_len h1).2 b k hb))
      · exact i1 b k hb
    · cases h
  | .box t us :: E, _ :: ts, .fl (.one (.ptr b0 off)) :: vs, l, q, h => by
    simp only [toE] at h
    split at h
    · rename_i t' cs hb0
      obtain ⟨hc, h2⟩ := cond_none h
      simp only [Bool.and_eq_true] at hc
      have htt := Nat.eq_of_beq_eq_true hc.2
      subst htt
      split at h2
      · rename_i l1 q1 l' q' h1 hl'
        simp only [Option.some.injEq, Prod.mk.injEq] at h2
        obtain ⟨rfl, rfl⟩ := h2
        obtain ⟨i1, i2⟩ := toE_src hl'
        obtain ⟨j1, j2⟩ := toCells_len h1
        refine ⟨fun b k hb => ?_, fun p hp => ?_⟩
        · rcases List.mem_cons.1 hb with hb | hb
          · injection hb with h3 h4
            injection h3 with h3
            subst h3; subst h4
            exact .inr (.inr ⟨rfl, _, List.mem_cons_self⟩)
          · rcases List.mem_append.1 hb with hb | hb
            · exact .inr (.inl (j2 b k hb))
            · rcases i1 b k hb with h3 | h3 | ⟨h3, x, h4⟩
              · exact .inl h3
              · exact .inr (.inl h3)
              · exact .inr (.inr ⟨h3, x, List.mem_cons_of_mem _ h4⟩)
        · rcases List.mem_cons.1 hp with rfl | hp
          · exact ⟨List.mem_cons_self, t', cs, hb0, by rw [j1]⟩
          · exact ⟨List.mem_cons_of_mem _ (List.mem_append_right _ (i2 p hp).1), (i2 p hp).2⟩
      · cases h2
    · cases h
  | [], _ :: _, _, _, _, h => by simp [toE] at h
  | [], [], _ :: _, _, _, h => by simp [toE] at h
  | .no :: _, [], _, _, _, h => by simp [toE] at h
  | .no :: _, _ :: _, [], _, _, h => by simp [toE] at h
  | .row :: _, [], _, _, _, h => by simp [toE] at h
  | .row :: _, _ :: _, [], _, _, h => by simp [toE] at h
  | .row :: _, _ :: _, .fl (.agg _) :: _, _, _, h => by simp [toE] at h
  | .row :: _, _ :: _, .tup _ :: _, _, _, h => by simp [toE] at h
  | .row :: _, _ :: _, .clo _ _ _ :: _, _, _, h => by simp [toE] at h
  | .box _ _ :: _, [], _, _, _, h => by simp [toE] at h
  | .box _ _ :: _, _ :: _, [], _, _, h => by simp [toE] at h
  | .box _ _ :: _, _ :: _, .fl (.agg _) :: _, _, _, h => by simp [toE] at h
  | .box _ _ :: _, _ :: _, .tup _ :: _, _, _, h => by simp [toE] at h
  | .box _ _ :: _, _ :: _, .clo _ _ _ :: _, _, _, h => by simp [toE] at h
  | .box _ _ :: _, _ :: _, .fl (.one .dead) :: _, _, _, h => by simp [toE] at h
  | .box _ _ :: _, _ :: _, .fl (.one .nsl) :: _, _, _, h => by simp [toE] at h
  | .box _ _ :: _, _ :: _, .fl (.one (.int _ _)) :: _, _, _, h => by simp [toE] at h
  | .box _ _ :: _, _ :: _, .fl (.one (.bool _)) :: _, _, _, h => by simp [toE] at h
  | .box _ _ :: _, _ :: _, .fl (.one (.str _)) :: _, _, _, h => by simp [toE] at h
  | .box _ _ :: _, _ :: _, .fl (.one (.eptr _ _ _ _)) :: _, _, _, h => by simp [toE] at h
  | .box _ _ :: _, _ :: _, .fl (.one (.sl _)) :: _, _, _, h => by simp [toE] at h
  | .box _ _ :: _, _ :: _, .fl (.one (.tsl _)) :: _, _, _, h => by simp [toE] at h
  | .box _ _ :: _, _ :: _, .fl (.one (.mp _)) :: _, _, _, h => by simp [toE] at h
theorem killsOf_mem : ∀ {q : List (Option Nat × Nat)} {b : Nat}, b ∈ killsOf q ↔ (some b, 1) ∈ q
  | [], b => by simp [killsOf]
  | (none, k) :: q, b => by
    simp only [killsOf, killsOf_mem (q := q), List.mem_cons]
    constructor
    · exact .inr
    · rintro (h | h)
      · cases h
      · exact h
  | (some b', 0) :: q, b => by
    simp only [killsOf, killsOf_mem (q := q), List.mem_cons]
    constructor
    · exact .inr
    · rintro (h | h)
      · cases h
      · exact h
  | (some b', 1) :: q, b => by
    simp only [killsOf, killsOf_mem (q := q), List.mem_cons]
    constructor
    · rintro (h | h)
      · exact .inl (by rw [h])
      · exact .inr h
    · rintro (h | h)
      · injection h with h _; injection h with h; exact .inl h
      · exact .inr h
  | (some b', k + 2) :: q, b => by
    simp only [killsOf, killsOf_mem (q := q), List.mem_cons]
    constructor
    · exact .inr
    · rintro (h | h)
      · cases h
      · exact h

/-! ### What variables hold behind the call -/
def BoxHas (w : World) : List Eat → List Value → List Value → Prop
  | .box t ts :: E, v :: vals, us => (∃ g cs, v = .pointer (some ⟨g, 0, none⟩) ∧ w.heap[g]? = some (.cells cs t (0, 0)) ∧ cs.size = ts.length ∧ us.take ts.length = cs.toList ∧ ∀ c, c ∈ cs.toList → c.oneCell' = true) ∧ BoxHas w E vals (us.drop ts.length)
  | .box _ _ :: _, [], _ => False
  | _ :: E, _ :: vals, us => BoxHas w E vals us
  | _ :: _, [], _ => False
  | [], _, _ => True
def boxBlks : List Eat → List Value → List Nat
  | .box _ _ :: E, v :: vals => (blkOf v).toList ++ boxBlks E vals
  | _ :: E, _ :: vals => boxBlks E vals
  | _, _ => []
theorem cr_fr {cs : List Sc} {vs : List Value} (h : R2 (CR pl) cs vs) : R2 (FR pl) (cs.map .one) vs := h.map_left fun s v _ hs => FR.one hs
theorem outCells_sound {σ' : St C} (hm : Mem G w0 pl' σ'.blk w') : ∀ {E : List Eat} {T : List AV} {vals : List Value} {tl : List TypeId} {xl : List Fl}, outCells σ'.blk E T = some (tl, xl) → R2 (AVR pl') T vals →
    ∃ us, R2 (FR pl') xl us ∧ us.length = boxLen E ∧ BoxHas w' E vals us ∧ ∀ g, g ∈ boxBlks E vals → ∃ b t cs, σ'.blk b = .box t cs ∧ plBlk pl' b = some g
  | [], T, vals, tl, xl, h, hT => by
    simp only [outCells, Option.some.injEq, Prod.mk.injEq] at h
    obtain ⟨rfl, rfl⟩ := h
    exact ⟨[], R2.nil, rfl, trivial, fun g hg => by simp [boxBlks] at hg⟩
  | .no :: E, v :: T, vals, tl, xl, h, hT => by
    obtain ⟨u, vals', rfl, hu, hT'⟩ := hT.cons_inv
    obtain ⟨us, h1, h2, h3, h4⟩ := outCells_sound hm (E := E) (by simpa only [outCells] using h) hT'
    exact ⟨us, h1, h2, h3, h4⟩
  | .row :: E, v :: T, vals, tl, xl, h, hT => by
    obtain ⟨u, vals', rfl, hu, hT'⟩ := hT.cons_inv
    obtain ⟨us, h1, h2, h3, h4⟩ := outCells_sound hm (E := E) (by simpa only [outCells] using h) hT'
    exact ⟨us, h1, h2, h3, h4⟩
  | .box t ts :: E, .fl (.one (.ptr b off)) :: T, vals, tl, xl, h, hT => by
    obtain ⟨u, vals', rfl, hu, hT'⟩ := hT.cons_inv
    simp only [outCells] at h
    split at h
    · rename_i t' cs tl' xl' hb hrec
      obtain ⟨hc, h2⟩ := cond_none h
      simp only [Bool.and_eq_true] at hc
      have hoff := Nat.eq_of_beq_eq_true hc.1.1
      have htt := Nat.eq_of_beq_eq_true hc.1.2
      have hlen := Nat.eq_of_beq_eq_true hc.2
      subst hoff; subst htt
      simp only [Option.some.injEq, Prod.mk.injEq] at h2
      obtain ⟨rfl, rfl⟩ := h2
      obtain ⟨us, h1, h2, h3, h4⟩ := outCells_sound hm hrec hT'
      have hB := hm.blk b
      rw [hb] at hB
      obtain ⟨g, cv, hpg, _, hh, hcr⟩ := hB
      obtain ⟨g', h5, h6⟩ := fr_ptr hu
      rw [hpg] at h5
      simp only [Option.some.injEq, Value.pointer.injEq, Addr.mk.injEq, and_true] at h5
      subst h5
      have hcl : cv.toList.length = ts.length := by rw [← hcr.1]; exact hlen
      refine ⟨cv.toList ++ us, (cr_fr hcr).append h1, by simp only [List.length_append, boxLen, h2, hcl], ⟨⟨g, cv, h6, hh, by simpa using hcl, by rw [← hcl, List.take_left'] ; rfl, fun c hcm => ?_⟩, by rw [← hcl, List.drop_left'] ; exact h3; rfl⟩, fun g2 hg2 => ?_⟩
      · obtain ⟨i, hi⟩ := List.getElem?_of_mem hcm
        have hil : i < cs.length := by rw [hcr.1]; exact (List.getElem?_eq_some_iff.1 hi).1
        exact (hcr.2 i _ c (List.getElem?_eq_getElem hil) hi).2
      · simp only [boxBlks, List.mem_append] at hg2
        rcases hg2 with hg2 | hg2
        · rw [h6] at hg2
          simp only [blkOf, Option.toList_some, List.mem_singleton] at hg2
          subst hg2
          exact ⟨b, t', cs, hb, by simp [plBlk, hpg, blkOf]⟩
        · exact h4 g2 hg2
    · cases h
  | .box _ _ :: _, [], _, _, _, h, _ => by simp [outCells] at h
  | .box _ _ :: _, .fl (.agg _) :: _, _, _, _, h, _ => by simp [outCells] at h
  | .box _ _ :: _, .tup _ :: _, _, _, _, h, _ => by simp [outCells] at h
  | .box _ _ :: _, .clo _ _ _ :: _, _, _, _, h, _ => by simp [outCells] at h
  | .box _ _ :: _, .fl (.one .dead) :: _, _, _, _, h, _ => by simp [outCells] at h
  | .box _ _ :: _, .fl (.one .nsl) :: _, _, _, _, h, _ => by simp [outCells] at h
  | .box _ _ :: _, .fl (.one (.int _ _)) :: _, _, _, _, h, _ => by simp [outCells] at h
  | .box _ _ :: _, .fl (.one (.bool _)) :: _, _, _, _, h, _ => by simp [outCells] at h
  | .box _ _ :: _, .fl (.one (.str _)) :: _, _, _, _, h, _ => by simp [outCells] at h
  | .box _ _ :: _, .fl (.one (.eptr _ _ _ _)) :: _, _, _, _, h, _ => by simp [outCells] at h
  | .box _ _ :: _, .fl (.one (.sl _)) :: _, _, _, _, h, _ => by simp [outCells] at h
  | .box _ _ :: _, .fl (.one (.tsl _)) :: _, _, _, _, h, _ => by simp [outCells] at h
  | .box _ _ :: _, .fl (.one (.mp _)) :: _, _, _, _, h, _ => by simp [outCells] at h
  | .no :: _, [], _, _, _, h, _ => by simp [outCells] at h
  | .row :: _, [], _, _, _, h, _ => by simp [outCells] at h
end
end Go.Abs
