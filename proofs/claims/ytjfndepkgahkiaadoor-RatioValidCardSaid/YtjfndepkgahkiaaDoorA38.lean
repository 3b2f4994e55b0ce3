/- A CALL OF A FUNCTION THAT TAKES SOMETHING OVER, third part: the call. -/
import Derived.Test.YtjfndepkgahkiaaDoorA37
set_option linter.unusedVariables false
set_option linter.unusedSimpArgs false
namespace Go.Abs
open Go.RowKit
section
variable {C : Codec} {P : Program} {G : C.Good P} {w0 : Base C} {σ : St C} {as : List Act} {a : Act} {w w' : World} {pl pl' : Pl} {n : Nat} {H H' : Nat → Blk C} {o : Oper} {r : Res C}

theorem ups_no {E : List Eat} {v : AV} {vs : List AV} {xs : List Fl} : boxUps (C := C) (.no :: E) (v :: vs) xs = boxUps E vs xs := by cases v <;> rfl
theorem ups_row {E : List Eat} {v : AV} {vs : List AV} {xs : List Fl} : boxUps (C := C) (.row :: E) (v :: vs) xs = boxUps E vs xs := by cases v <;> rfl
def PtrTurn (pl pl2 : Pl) : Prop := ∀ b o v, SR pl (.ptr b o) v → SR pl2 (.ptr b o) v
theorem onesOf_spec : ∀ {xs : List Fl} {cs : List Sc} {us : List Value}, onesOf xs = some cs → R2 (FR pl) xs us → R2 (CR pl) cs us
  | [], cs, us, h, hx => by
    have := hx.nil_inv; subst this
    simp only [onesOf, Option.some.injEq] at h; subst h
    exact R2.nil
  | .one s :: xs, cs, us, h, hx => by
    obtain ⟨u, us', rfl, hu, hx'⟩ := hx.cons_inv
    simp only [onesOf] at h
    obtain ⟨hl, h2⟩ := cond_none h
    split at h2
    · rename_i l hl'
      injection h2 with h2; subst h2
      exact R2.cons (FR.cr hu hl) (onesOf_spec hl' hx')
    · cases h2
  | .agg _ :: _, cs, us, h, hx => by simp [onesOf] at h
theorem box_after {pl2 : Pl} (hp : PtrTurn pl pl2) : ∀ {E : List Eat} {ts : List TypeId} {vs : List AV} {vals : List Value} {l : List (RV C)} {q : List (Option Nat × Nat)} {us : List Value}, toE P H E ts vs = some (l, q) → R2 (AVR pl) vs vals → BoxHas w' E vals us →
    ∀ p, p ∈ deadBoxes (C := C) E vs → own p.2 = true ∧ BlkR G 0 pl2 w' p.1 p.2
  | [], [], [], vals, l, q, us, h, hv, hb, p, hpm => by simp [deadBoxes] at hpm
  | .no :: E, t :: ts, v :: vs, vals, l, q, us, h, hv, hb, p, hpm => by
    obtain ⟨u, vals', rfl, hu, hv'⟩ := hv.cons_inv
    rw [dead_no] at hpm
    simp only [toE] at h
    split at h
    · rename_i x l' q' hx hl'
      exact box_after hp hl' hv' hb p hpm
    · rename_i e ys l' q' hx hl'
      exact box_after hp hl' hv' hb p hpm
    · cases h
  | .row :: E, t :: ts, .fl (.one s) :: vs, vals, l, q, us, h, hv, hb, p, hpm => by
    obtain ⟨u, vals', rfl, hu, hv'⟩ := hv.cons_inv
    rw [dead_row] at hpm
    simp only [toE] at h
    split at h
    · rename_i l1 q1 l' q' h1 hl'
      exact box_after hp hl' hv' hb p hpm
    · cases h
  | .box t uts :: E, _ :: ts, .fl (.one (.ptr b0 off)) :: vs, vals, l, q, us, h, hv, hb, p, hpm => by
    obtain ⟨u, vals', rfl, hu, hv'⟩ := hv.cons_inv
    simp only [toE] at h
    split at h
    · rename_i t' cs hb0
      obtain ⟨hc, h2⟩ := cond_none h
      simp only [Bool.and_eq_true] at hc
      have hoff := Nat.eq_of_beq_eq_true hc.1
      subst hoff
      split at h2
      · rename_i l1 q1 l' q' h1 hl'
        obtain ⟨⟨g, cv, h3, h4, h5, h6, h7⟩, h8⟩ := hb
        rcases List.mem_cons.1 hpm with rfl | hpm
        · refine ⟨rfl, ?_⟩
          obtain ⟨g', h9, h10⟩ := hp b0 0 u (fr_ptr hu)
          rw [h3] at h10
          simp only [Value.pointer.injEq, Option.some.injEq, Addr.mk.injEq, and_true] at h10
          subst h10
          refine ⟨g, cv, h9, Nat.zero_le _, h4, by simp [h5], fun i x y hx hy => ?_⟩
          rw [List.getElem?_replicate] at hx
          split at hx
          · injection hx with hx; subst hx
            exact ⟨trivial, h7 y (List.mem_of_getElem? hy)⟩
          · cases hx
        · exact box_after hp hl' hv' h8 p hpm
      · cases h2
    · cases h
  | [], _ :: _, _, _, _, _, _, h, _, _, _, _ => by simp [toE] at h
  | [], [], _ :: _, _, _, _, _, h, _, _, _, _ => by simp [toE] at h
  | .no :: _, [], _, _, _, _, _, h, _, _, _, _ => by simp [toE] at h
  | .no :: _, _ :: _, [], _, _, _, _, h, _, _, _, _ => by simp [toE] at h
  | .row :: _, [], _, _, _, _, _, h, _, _, _, _ => by simp [toE] at h
  | .row :: _, _ :: _, [], _, _, _, _, h, _, _, _, _ => by simp [toE] at h
  | .row :: _, _ :: _, .fl (.agg _) :: _, _, _, _, _, h, _, _, _, _ => by simp [toE] at h
  | .row :: _, _ :: _, .tup _ :: _, _, _, _, _, h, _, _, _, _ => by simp [toE] at h
  | .row :: _, _ :: _, .clo _ _ _ :: _, _, _, _, _, h, _, _, _, _ => by simp [toE] at h
  | .box _ _ :: _, [], _, _, _, _, _, h, _, _, _, _ => by simp [toE] at h
  | .box _ _ :: _, _ :: _, [], _, _, _, _, h, _, _, _, _ => by simp [toE] at h
  | .box _ _ :: _, _ :: _, .fl (.agg _) :: _, _, _, _, _, h, _, _, _, _ => by simp [toE] at h
  | .box _ _ :: _, _ :: _, .tup _ :: _, _, _, _, _, h, _, _, _, _ => by simp [toE] at h
  | .box _ _ :: _, _ :: _, .clo _ _ _ :: _, _, _, _, _, h, _, _, _, _ => by simp [toE] at h
  | .box _ _ :: _, _ :: _, .fl (.one .dead) :: _, _, _, _, _, h, _, _, _, _ => by simp [toE] at h
  | .box _ _ :: _, _ :: _, .fl (.one .nsl) :: _, _, _, _, _, h, _, _, _, _ => by simp [toE] at h
  | .box _ _ :: _, _ :: _, .fl (.one (.int _ _)) :: _, _, _, _, _, h, _, _, _, _ => by simp [toE] at h
  | .box _ _ :: _, _ :: _, .fl (.one (.bool _)) :: _, _, _, _, _, h, _, _, _, _ => by simp [toE] at h
  | .box _ _ :: _, _ :: _, .fl (.one (.str _)) :: _, _, _, _, _, h, _, _, _, _ => by simp [toE] at h
  | .box _ _ :: _, _ :: _, .fl (.one (.eptr _ _ _ _)) :: _, _, _, _, _, h, _, _, _, _ => by simp [toE] at h
  | .box _ _ :: _, _ :: _, .fl (.one (.sl _)) :: _, _, _, _, _, h, _, _, _, _ => by simp [toE] at h
  | .box _ _ :: _, _ :: _, .fl (.one (.tsl _)) :: _, _, _, _, _, h, _, _, _, _ => by simp [toE] at h
  | .box _ _ :: _, _ :: _, .fl (.one (.mp _)) :: _, _, _, _, _, h, _, _, _, _ => by simp [toE] at h
theorem boxUps_told {pl2 : Pl} (hp : PtrTurn pl pl2) : ∀ {E : List Eat} {ts : List TypeId} {vs : List AV} {vals : List Value} {l : List (RV C)} {q : List (Option Nat × Nat)} {xs : List Fl} {us : List Value} {bu : List (Nat × Blk C)}, toE P H E ts vs = some (l, q) → R2 (AVR pl) vs vals →
    boxUps E vs xs = some bu → R2 (FR pl2) xs us → BoxHas w' E vals us → ∀ p, p ∈ bu → own p.2 = true ∧ BlkR G 0 pl2 w' p.1 p.2 ∧ ∃ x, (p.1, x) ∈ deadBoxes (C := C) E vs
  | [], [], [], vals, l, q, xs, us, bu, h, hv, hbu, hx, hb, p, hpm => by
    simp only [boxUps, Option.some.injEq] at hbu
    subst hbu; cases hpm
  | .no :: E, t :: ts, v :: vs, vals, l, q, xs, us, bu, h, hv, hbu, hx, hb, p, hpm => by
    obtain ⟨u, vals', rfl, hu, hv'⟩ := hv.cons_inv
    rw [dead_no]
    rw [ups_no] at hbu
    simp only [toE] at h
    split at h
    · rename_i x l' q' hx0 hl'
      exact boxUps_told hp hl' hv' hbu hx hb p hpm
    · rename_i e ys l' q' hx0 hl'
      exact boxUps_told hp hl' hv' hbu hx hb p hpm
    · cases h
  | .row :: E, t :: ts, .fl (.one s) :: vs, vals, l, q, xs, us, bu, h, hv, hbu, hx, hb, p, hpm => by
    obtain ⟨u, vals', rfl, hu, hv'⟩ := hv.cons_inv
    rw [dead_row]
    rw [ups_row] at hbu
    simp only [toE] at h
    split at h
    · rename_i l1 q1 l' q' h1 hl'
      exact boxUps_told hp hl' hv' hbu hx hb p hpm
    · cases h
  | .box t uts :: E, _ :: ts, .fl (.one (.ptr b0 off)) :: vs, vals, l, q, xs, us, bu, h, hv, hbu, hx, hb, p, hpm => by
    obtain ⟨u, vals', rfl, hu, hv'⟩ := hv.cons_inv
    simp only [toE] at h
    split at h
    · rename_i t' cs hb0
      obtain ⟨hc, h2⟩ := cond_none h
      simp only [Bool.and_eq_true] at hc
      have hoff := Nat.eq_of_beq_eq_true hc.1
      subst hoff
      split at h2
      · rename_i l1 q1 l' q' h1 hl'
        obtain ⟨⟨g, cv, h3, h4, h5, h6, h7⟩, h8⟩ := hb
        simp only [boxUps] at hbu
        split at hbu
        · rename_i cs1 u1 hcs hu1
          obtain ⟨hlen, h9⟩ := cond_none hbu
          injection h9 with h9; subst h9
          rcases List.mem_cons.1 hpm with rfl | hpm
          · refine ⟨rfl, ?_, _, List.mem_cons_self⟩
            obtain ⟨g', h9, h10⟩ := hp b0 0 u (fr_ptr hu)
            rw [h3] at h10
            simp only [Value.pointer.injEq, Option.some.injEq, Addr.mk.injEq, and_true] at h10
            subst h10
            have h11 := onesOf_spec hcs (hx.take uts.length)
            rw [h6] at h11
            exact ⟨g, cv, h9, Nat.zero_le _, h4, h11⟩
          · obtain ⟨i1, i2, x, i3⟩ := boxUps_told hp hl' hv' hu1 (hx.drop uts.length) h8 p hpm
            exact ⟨i1, i2, x, List.mem_cons_of_mem _ i3⟩
        · cases hbu
      · cases h2
    · cases h
  | [], _ :: _, _, _, _, _, _, _, _, h, _, _, _, _, _, _ => by simp [toE] at h
  | [], [], _ :: _, _, _, _, _, _, _, h, _, _, _, _, _, _ => by simp [toE] at h
  | .no :: _, [], _, _, _, _, _, _, _, h, _, _, _, _, _, _ => by simp [toE] at h
  | .no :: _, _ :: _, [], _, _, _, _, _, _, h, _, _, _, _, _, _ => by simp [toE] at h
  | .row :: _, [], _, _, _, _, _, _, _, h, _, _, _, _, _, _ => by simp [toE] at h
  | .row :: _, _ :: _, [], _, _, _, _, _, _, h, _, _, _, _, _, _ => by simp [toE] at h
  | .row :: _, _ :: _, .fl (.agg _) :: _, _, _, _, _, _, _, h, _, _, _, _, _, _ => by simp [toE] at h
  | .row :: _, _ :: _, .tup _ :: _, _, _, _, _, _, _, h, _, _, _, _, _, _ => by simp [toE] at h
  | .row :: _, _ :: _, .clo _ _ _ :: _, _, _, _, _, _, _, h, _, _, _, _, _, _ => by simp [toE] at h
  | .box _ _ :: _, [], _, _, _, _, _, _, _, h, _, _, _, _, _, _ => by simp [toE] at h
  | .box _ _ :: _, _ :: _, [], _, _, _, _, _, _, h, _, _, _, _, _, _ => by simp [toE] at h
  | .box _ _ :: _, _ :: _, .fl (.agg _) :: _, _, _, _, _, _, _, h, _, _, _, _, _, _ => by simp [toE] at h
  | .box _ _ :: _, _ :: _, .tup _ :: _, _, _, _, _, _, _, h, _, _, _, _, _, _ => by simp [toE] at h
  | .box _ _ :: _, _ :: _, .clo _ _ _ :: _, _, _, _, _, _, _, h, _, _, _, _, _, _ => by simp [toE] at h
  | .box _ _ :: _, _ :: _, .fl (.one .dead) :: _, _, _, _, _, _, _, h, _, _, _, _, _, _ => by simp [toE] at h
  | .box _ _ :: _, _ :: _, .fl (.one .nsl) :: _, _, _, _, _, _, _, h, _, _, _, _, _, _ => by simp [toE] at h
  | .box _ _ :: _, _ :: _, .fl (.one (.int _ _)) :: _, _, _, _, _, _, _, h, _, _, _, _, _, _ => by simp [toE] at h
  | .box _ _ :: _, _ :: _, .fl (.one (.bool _)) :: _, _, _, _, _, _, _, h, _, _, _, _, _, _ => by simp [toE] at h
  | .box _ _ :: _, _ :: _, .fl (.one (.str _)) :: _, _, _, _, _, _, _, h, _, _, _, _, _, _ => by simp [toE] at h
  | .box _ _ :: _, _ :: _, .fl (.one (.eptr _ _ _ _)) :: _, _, _, _, _, _, _, h, _, _, _, _, _, _ => by simp [toE] at h
  | .box _ _ :: _, _ :: _, .fl (.one (.sl _)) :: _, _, _, _, _, _, _, h, _, _, _, _, _, _ => by simp [toE] at h
  | .box _ _ :: _, _ :: _, .fl (.one (.tsl _)) :: _, _, _, _, _, _, _, h, _, _, _, _, _, _ => by simp [toE] at h
  | .box _ _ :: _, _ :: _, .fl (.one (.mp _)) :: _, _, _, _, _, _, _, h, _, _, _, _, _, _ => by simp [toE] at h
/-- A box that was handed in is one of those that are left dead: its block. -/
theorem dead_blk : ∀ {E : List Eat} {ts : List TypeId} {vs : List AV} {vals : List Value} {l : List (RV C)} {q : List (Option Nat × Nat)} {us : List Value}, toE P H E ts vs = some (l, q) → R2 (AVR pl) vs vals → BoxHas w' E vals us →
    ∀ p g, p ∈ deadBoxes (C := C) E vs → plBlk pl p.1 = some g → g ∈ boxBlks E vals
  | [], [], [], vals, l, q, us, h, hv, hb, p, g, hpm, hg => by simp [deadBoxes] at hpm
  | .no :: E, t :: ts, v :: vs, vals, l, q, us, h, hv, hb, p, g, hpm, hg => by
    obtain ⟨u, vals', rfl, hu, hv'⟩ := hv.cons_inv
    rw [dead_no] at hpm
    simp only [toE] at h
    split at h
    · rename_i x l' q' hx hl'
      exact dead_blk (E := E) hl' hv' hb p g hpm hg
    · rename_i e ys l' q' hx hl'
      exact dead_blk (E := E) hl' hv' hb p g hpm hg
    · cases h
  | .row :: E, t :: ts, .fl (.one s) :: vs, vals, l, q, us, h, hv, hb, p, g, hpm, hg => by
    obtain ⟨u, vals', rfl, hu, hv'⟩ := hv.cons_inv
    rw [dead_row] at hpm
    simp only [toE] at h
    split at h
    · rename_i l1 q1 l' q' h1 hl'
      exact dead_blk (E := E) hl' hv' hb p g hpm hg
    · cases h
  | .box t uts :: E, _ :: ts, .fl (.one (.ptr b0 off)) :: vs, vals, l, q, us, h, hv, hb, p, g, hpm, hg => by
    obtain ⟨u, vals', rfl, hu, hv'⟩ := hv.cons_inv
    simp only [toE] at h
    split at h
    · rename_i t' cs hb0
      obtain ⟨hc, h2⟩ := cond_none h
      simp only [Bool.and_eq_true] at hc
      have hoff := Nat.eq_of_beq_eq_true hc.1
      subst hoff
      split at h2
      · rename_i l1 q1 l' q' h1 hl'
        simp only [boxBlks, List.mem_append]
        rcases List.mem_cons.1 hpm with rfl | hpm
        · obtain ⟨g', h9, h10⟩ := fr_ptr hu
          simp only [plBlk, h9, Option.bind_some, blkOf, Option.some.injEq] at hg
          subst hg
          exact .inl (by rw [h10]; simp [blkOf])
        · exact .inr (dead_blk hl' hv' hb.2 p g hpm hg)
      · cases h2
    · cases h
  | [], _ :: _, _, _, _, _, _, h, _, _, _, _, _, _ => by simp [toE] at h
  | [], [], _ :: _, _, _, _, _, h, _, _, _, _, _, _ => by simp [toE] at h
  | .no :: _, [], _, _, _, _, _, h, _, _, _, _, _, _ => by simp [toE] at h
  | .no :: _, _ :: _, [], _, _, _, _, h, _, _, _, _, _, _ => by simp [toE] at h
  | .row :: _, [], _, _, _, _, _, h, _, _, _, _, _, _ => by simp [toE] at h
  | .row :: _, _ :: _, [], _, _, _, _, h, _, _, _, _, _, _ => by simp [toE] at h
  | .row :: _, _ :: _, .fl (.agg _) :: _, _, _, _, _, h, _, _, _, _, _, _ => by simp [toE] at h
  | .row :: _, _ :: _, .tup _ :: _, _, _, _, _, h, _, _, _, _, _, _ => by simp [toE] at h
  | .row :: _, _ :: _, .clo _ _ _ :: _, _, _, _, _, h, _, _, _, _, _, _ => by simp [toE] at h
  | .box _ _ :: _, [], _, _, _, _, _, h, _, _, _, _, _, _ => by simp [toE] at h
  | .box _ _ :: _, _ :: _, [], _, _, _, _, h, _, _, _, _, _, _ => by simp [toE] at h
  | .box _ _ :: _, _ :: _, .fl (.agg _) :: _, _, _, _, _, h, _, _, _, _, _, _ => by simp [toE] at h
  | .box _ _ :: _, _ :: _, .tup _ :: _, _, _, _, _, h, _, _, _, _, _, _ => by simp [toE] at h
  | .box _ _ :: _, _ :: _, .clo _ _ _ :: _, _, _, _, _, h, _, _, _, _, _, _ => by simp [toE] at h
  | .box _ _ :: _, _ :: _, .fl (.one .dead) :: _, _, _, _, _, h, _, _, _, _, _, _ => by simp [toE] at h
  | .box _ _ :: _, _ :: _, .fl (.one .nsl) :: _, _, _, _, _, h, _, _, _, _, _, _ => by simp [toE] at h
  | .box _ _ :: _, _ :: _, .fl (.one (.int _ _)) :: _, _, _, _, _, h, _, _, _, _, _, _ => by simp [toE] at h
  | .box _ _ :: _, _ :: _, .fl (.one (.bool _)) :: _, _, _, _, _, h, _, _, _, _, _, _ => by simp [toE] at h
  | .box _ _ :: _, _ :: _, .fl (.one (.str _)) :: _, _, _, _, _, h, _, _, _, _, _, _ => by simp [toE] at h
  | .box _ _ :: _, _ :: _, .fl (.one (.eptr _ _ _ _)) :: _, _, _, _, _, h, _, _, _, _, _, _ => by simp [toE] at h
  | .box _ _ :: _, _ :: _, .fl (.one (.sl _)) :: _, _, _, _, _, h, _, _, _, _, _, _ => by simp [toE] at h
  | .box _ _ :: _, _ :: _, .fl (.one (.tsl _)) :: _, _, _, _, _, h, _, _, _, _, _, _ => by simp [toE] at h
  | .box _ _ :: _, _ :: _, .fl (.one (.mp _)) :: _, _, _, _, _, h, _, _, _, _, _, _ => by simp [toE] at h

/-- What is taken over. -/
def Eaten (pl : Pl) (q : List (Option Nat × Nat)) (g : Nat) : Prop := ∃ b k, (some b, k) ∈ q ∧ k ≠ 0 ∧ plBlk pl b = some g
theorem put_up (T : List AV) (F : List (List AV)) (H : List (Blk C)) (d : Option Tmp) (x : AV) (σ1 : St C) (hT : σ1.T = T) (hF : σ1.F = F) : ({ (σ1.put d x) with H := H } : St C) = ({ T, F, H } : St C).put d x := by
  subst hT; subst hF
  cases d <;> rfl
/-- The rows that are taken over are not told any more. -/
theorem rel_kills (h : Rel G w0 σ as a w pl) : ∀ (ks : List Nat), ks.length ≤ 1 → (∀ b, b ∈ ks → ∃ e xs, σ.blk b = .row e true xs) → ∃ (σK : St C) (plK : Pl), Rel G w0 σK as a w plK ∧
    (∀ d v up, σ.apply d { v, up := ks.map (fun b => (b, .gone)) ++ up, kill := ks.head? } = ({ T := σK.T, F := σK.F, H := upd σK.H up } : St C).put d v) ∧ PtrTurn pl plK ∧ (∀ c g, plBlk plK c = some g → plBlk pl c = some g ∧ c ∉ ks) ∧
    (∀ c, c ∉ ks → ∃ f, σK.blk c = (σ.blk c).map f) ∧ σK.H.length = σ.H.length ∧ (∀ x v, AVR pl x v → ∃ f, AVR plK (x.map f) v)
  | [], _, _ => ⟨σ, pl, h, fun d v up => by
      simp only [List.map_nil, List.nil_append, List.head?_nil, St.apply]
      exact put_up _ _ _ d v σ rfl rfl, fun b o v hv => hv, fun c g hg => ⟨hg, by simp⟩, fun c _ => ⟨fun s => s, by cases σ.blk c <;> simp [Blk.map]⟩, rfl, fun x v hx => ⟨fun s => s, by rw [AV.map_id]; exact hx⟩⟩
  | [b], _, hb => by
    obtain ⟨e, xs, hb⟩ := hb b List.mem_cons_self
    have hp : ∃ a n c, pl b = some (.slice a n c) := by
      have hB := h.mem.blk b
      rw [hb] at hB
      obtain ⟨hhas, v0, hp0, hrow⟩ := hB
      obtain ⟨a1, c1, rfl⟩ := ownsRow_slice hrow
      exact ⟨_, _, _, hp0⟩
    obtain ⟨a1, n1, c1, hp⟩ := hp
    have hlen : b < σ.H.length := blk_lt (by rw [hb]; intro hh; cases hh)
    refine ⟨σ.kill b, _, rel_kill h hb, fun d v up => ?_, fun b' o' v hv => (Turns.kill hp).sc _ _ hv, fun c g hg => ?_, fun c hc => ⟨Sc.die b, ?_⟩, by simp [St.kill, St.map], fun x v hx => ⟨_, (Turns.kill hp).av hx⟩⟩
    · simp only [List.map_cons, List.map_nil, List.cons_append, List.nil_append, List.head?_cons, St.apply]
      exact put_up _ _ _ d v (σ.map (Sc.die b)) rfl rfl
    · by_cases e : c = b
      · subst e; simp [plBlk] at hg
      · simp only [plBlk, if_neg e] at hg
        exact ⟨hg, by simpa using e⟩
    · have e : c ≠ b := by simpa using hc
      simp only [St.kill, St.blk, St.map]
      rw [getD_set _ _ _ _ _ (by simpa using hlen), getD_map, if_neg e]
  | _ :: _ :: _, hl, _ => by simp at hl
theorem blk_map_box {f : Sc → Sc} {x : Blk C} {t : TypeId} {cs : List Sc} (h : x = .box t cs) : x.map f = .box t (cs.map f) := by rw [h]; rfl
theorem blk_gone_map {f : Sc → Sc} {x : Blk C} (h : x = .gone) : x.map f = .gone := by rw [h]; rfl
theorem FR.take {xs : List Fl} {us : List Value} (h : R2 (FR pl) xs us) (n : Nat) : R2 (FR pl) (xs.take n) (us.take n) := R2.take h n

theorem eat_rel (h : Rel G w0 σ as a w pl) (hS : Seen H σ.blk) {E : List Eat} {ts rts : List TypeId} {vs : List AV} {vals : List Value} {l : List (RV C)} {q : List (Option Nat × Nat)} (hE : toE P H E ts vs = some (l, q)) (hv : R2 (AVR pl) vs vals)
    (hap : apartS q = true) (hk1 : (killsOf q).length ≤ 1) {xs : List AV} {bl : List (Blk C)} (hin : inE 0 E l = some (xs, bl)) (hn : ∀ i, i < 2 → σ.blk (n + i) = .gone ∧ n + i < σ.H.length) :
    ∃ (w1 : Base C) (pl1 : Pl), Mem G w1 pl1 (fun b => bl.getD b .gone) w ∧ R2 (AVR pl1) xs vals ∧
      ∀ (w' : World) (v : Value) (x : AV) (σ' : St C) (pl' : Pl) (rs : List (RV C)) (bu : List (Nat × Blk C)) (d : Option Tmp), Mem G w1 pl' σ'.blk w' → AVR pl' x v → R2 (AVR pl') σ'.T vals → finE P E rts x σ' = some rs → rowsIn rs ≤ 2 →
        boxUps E vs ((ofRVs n rs).1.drop ((ofRVs n rs).1.length - boxLen E)) = some bu →
        ∃ pl2, Rel G w0 (σ.apply d { v := tupOf ((ofRVs n rs).1.take ((ofRVs n rs).1.length - boxLen E)), up := (killsOf q).map (fun b => (b, .gone)) ++ (deadBoxes E vs ++ ((ofRVs n rs).2 ++ bu)), kill := (killsOf q).head? }) as (a.put d v) w' pl2 := by
  obtain ⟨rows, hstd, hrows⟩ := toE_sound hS h.mem hE hv hin
  obtain ⟨hav, hblk⟩ := hrows (fun i => rows[i]?) (fun i v hv => by rw [Nat.zero_add]; exact hv)
  obtain ⟨src1, src2⟩ := toE_src hE
  have hlens := hstd.len
  -- whoever is taken over is owned
  have eat_own : ∀ g, Eaten pl q g → ∃ b k, (some b, k) ∈ q ∧ k ≠ 0 ∧ plBlk pl b = some g ∧ own (σ.blk b) = true := fun g hg => by
    obtain ⟨b, k, h1, h2, h3⟩ := hg
    refine ⟨b, k, h1, h2, h3, ?_⟩
    rcases src1 b k h1 with h4 | ⟨_, e, xs', h4⟩ | ⟨_, x', h4⟩
    · exact absurd h4 h2
    · rw [hS.row h4]; rfl
    · obtain ⟨_, t, cs, h5, _⟩ := src2 _ h4
      rw [hS.box h5]; rfl
  refine ⟨⟨w, fun g => w.heap.size ≤ g ∨ Eaten pl q g, fun g hg => .inl hg, h.mem.below.inv G, fun k hk hm => hm.elim (fun h1 => Nat.not_le_of_lt (Nat.lt_of_lt_of_le hk (G.low w (h.mem.below.inv G))) h1) (fun h1 => by
      obtain ⟨b, k', _, _, h3, h4⟩ := eat_own k h1
      exact w0.fix.2 k hk (h.mem.may b k h4 h3))⟩, fun i => rows[i]?, ⟨Held.refl _ _ _ _, fun b => ?_, fun b b' g hne ho hb hb' => ?_, fun b g ho hb => ?_⟩, hav, ?_⟩
  · show BlkR G 0 (fun i => rows[i]?) w b (bl.getD b .gone)
    rw [List.getD_eq_getElem?_getD]
    cases hb : bl[b]? with
    | none =>
      show rows[b]? = none
      rw [List.getElem?_eq_none_iff] at hb ⊢
      omega
    | some x =>
      have := hblk b x hb
      rwa [Nat.zero_add] at this
  · -- apart
    simp only [plBlk] at hb hb'
    cases hr : rows[b]? with
    | none => rw [hr] at hb; cases hb
    | some v1 =>
      cases hr' : rows[b']? with
      | none => rw [hr'] at hb'; cases hb'
      | some v2 =>
        rw [hr] at hb; rw [hr'] at hb'
        simp only [Option.bind_some] at hb hb'
        obtain ⟨s1, k1, x1, i1, i2, i3⟩ := hstd.at hr
        obtain ⟨s2, k2, x2, j1, j2, j3⟩ := hstd.at hr'
        have ho1 : own x1 = true := by
          have ho : own (bl.getD b .gone) = true := ho
          rw [List.getD_eq_getElem?_getD, i2] at ho
          exact ho
        have hk0 := i3.own ho1
        obtain ⟨b1, rfl, i4, i5⟩ := i3.src g hb
        obtain ⟨b2, rfl, j4, j5⟩ := j3.src g hb'
        by_cases c : b1 = b2
        · subst c
          exact hk0 (apart_ne hap hne i1 j1).1
        · exact h.mem.apart b1 b2 g c (i5 hk0) i4 j4
  · simp only [plBlk] at hb
    cases hr : rows[b]? with
    | none => rw [hr] at hb; cases hb
    | some v1 =>
      rw [hr] at hb
      simp only [Option.bind_some] at hb
      obtain ⟨s1, k1, x1, i1, i2, i3⟩ := hstd.at hr
      have ho1 : own x1 = true := by
        have ho : own (bl.getD b .gone) = true := ho
        rw [List.getD_eq_getElem?_getD, i2] at ho
        exact ho
      have hk0 := i3.own ho1
      obtain ⟨b1, rfl, i4, i5⟩ := i3.src g hb
      exact .inr ⟨b1, k1, List.mem_of_getElem? i1, hk0, i4⟩
  · intro w' v x σ' pl' rs bu d hm' hx hT hfin hrows2 hbu
    -- what came back
    unfold finE at hfin
    split at hfin
    · rename_i tl xl xs0 hoc hfl
      obtain ⟨us, rfl, hus⟩ := flsOf_spec hfl hx
      obtain ⟨uc, huc, hucl, hbox, hbb⟩ := outCells_sound hm' hoc hT
      obtain ⟨g1, g2, g3⟩ := outRV_sound hm' hfin (hus.append huc)
      -- first: rows that are taken over
      obtain ⟨σK, plK, hK, hKa, hKp, hKg, hKb, hKl, hKv⟩ := rel_kills h (killsOf q) hk1 (fun b hb => by
        rcases src1 b 1 (killsOf_mem.1 hb) with h4 | ⟨_, e, xs', h4⟩ | ⟨h4, _⟩
        · cases h4
        · exact ⟨e, xs', hS.row h4⟩
        · cases h4)
      have notkill : ∀ p, p ∈ deadBoxes (C := C) E vs → p.1 ∉ killsOf q := fun p hp hk => by
        obtain ⟨_, t, cs, h5, _⟩ := src2 p hp
        rcases src1 p.1 1 (killsOf_mem.1 hk) with h4 | ⟨_, e, xs', h4⟩ | ⟨h4, _⟩
        · cases h4
        · rw [h5] at h4; cases h4
        · cases h4
      have boxK : ∀ p, p ∈ deadBoxes (C := C) E vs → ∃ t cs, σK.blk p.1 = .box t cs ∧ p.2 = .box t (List.replicate cs.length .dead) := fun p hp => by
        obtain ⟨_, t, cs, h5, h6⟩ := src2 p hp
        obtain ⟨f, hf⟩ := hKb p.1 (notkill p hp)
        refine ⟨t, cs.map f, by rw [hf, hS.box h5]; rfl, by simpa using h6⟩
      -- the variables' cells are not told any more
      have h2 := rel_retell (deadBoxes E vs) (fun p hp => by
        obtain ⟨t, cs, h5, h6⟩ := boxK p hp
        refine ⟨by rw [h5]; rfl, by rw [h6]; rfl, ?_⟩
        have hB := hK.mem.blk p.1
        rw [h5] at hB
        obtain ⟨g, cv, e1, e2, e3, e4⟩ := hB
        rw [h6]
        refine ⟨g, cv, e1, e2, e3, by simp [e4.1], fun i s u hs hu => ?_⟩
        rw [List.getElem?_replicate] at hs
        split at hs
        · injection hs with hs; subst hs
          rename_i hil
          exact ⟨trivial, (e4.2 i _ u (List.getElem?_eq_getElem hil) hu).2⟩
        · cases hs) hK
      -- the world moves on
      have held : Held w0 w' := by
        refine ⟨hm'.below.os.trans h.mem.below.os, hm'.below.tape.trans h.mem.below.tape, hm'.below.output.trans h.mem.below.output, Nat.le_trans h.mem.below.size hm'.below.size, fun k hk => ?_⟩
        refine (hm'.below.block k (fun hh => ?_)).trans (h.mem.below.block k hk)
        rcases hh with hh | hh
        · exact hk (h.mem.below.fresh hh)
        · obtain ⟨b, k', e1, e2, e3, e4⟩ := eat_own k hh
          exact hk (h.mem.may b k e4 e3)
      have isBox : ∀ c g, plBlk plK c = some g → (w.heap.size ≤ g ∨ Eaten pl q g) → ∃ x, (c, x) ∈ deadBoxes (C := C) E vs := fun c g hc hg => by
        obtain ⟨hc1, hc2⟩ := hKg c g hc
        rcases hg with hg | hg
        · have := (h.mem.blk c).lt hc1; omega
        · obtain ⟨b, k, e1, e2, e3, e4⟩ := eat_own g hg
          by_cases e : b = c
          · subst e
            rcases src1 b k e1 with h4 | ⟨rfl, _⟩ | ⟨_, x', h4⟩
            · exact absurd h4 e2
            · exact absurd (killsOf_mem.2 e1) hc2
            · exact ⟨x', h4⟩
          · exact absurd hc1 (h.mem.apart b c g e e4 e3)
      have h3 := rel_world (w' := w') h2 held (fun c => by
        show BlkR G 0 plK w' c ((upd σK.H (deadBoxes E vs)).getD c .gone)
        by_cases hc : ∃ p, p ∈ deadBoxes (C := C) E vs ∧ p.1 = c
        · have hlt : c < σK.H.length := by
            obtain ⟨p, hp, rfl⟩ := hc
            obtain ⟨t, cs, h5, _⟩ := boxK p hp
            exact blk_lt (by rw [h5]; intro hh; cases hh)
          obtain ⟨y, hy1, hy2⟩ := updA_mem _ _ c hlt hc
          rw [hy2]
          exact (box_after hKp hE hv hbox (c, y) hy1).2
        · rw [updA_not _ _ _ (fun p hp e => hc ⟨p, hp, e⟩)]
          refine (hK.mem.blk c).step hm'.below.size fun g hg => hm'.below.block g fun hh => ?_
          obtain ⟨y, hy⟩ := isBox c g hg hh
          exact hc ⟨(c, y), hy, rfl⟩)
      -- what came back
      have fresh : ∀ i, i < rowsIn rs → (upd σK.H (deadBoxes E vs)).getD (n + i) .gone = .gone ∧ n + i < (upd σK.H (deadBoxes E vs)).length := fun i hi => by
        obtain ⟨f1, f2⟩ := hn i (by omega)
        have hnk : n + i ∉ killsOf q := fun hk => by
          rcases src1 (n + i) 1 (killsOf_mem.1 hk) with h4 | ⟨_, e, xs', h4⟩ | ⟨h4, _⟩
          · cases h4
          · rw [hS.row h4] at f1; cases f1
          · cases h4
        refine ⟨?_, by rw [updA_len, hKl]; exact f2⟩
        rw [updA_not _ _ _ (fun p hp e => ?_)]
        · obtain ⟨f, hf⟩ := hKb (n + i) hnk
          show σK.blk (n + i) = .gone
          rw [hf]; exact blk_gone_map f1
        · obtain ⟨_, t, cs, h5, _⟩ := src2 p hp
          rw [e] at h5
          rw [hS.box h5] at f1; cases f1
      obtain ⟨pl4, h4, t4, hfr⟩ := rel_news (n := n) (base := 0) h3 fresh g1 (fun u hu c g hg hgu => by
        obtain ⟨b, e, ys, _, hb, hbg⟩ := g2 u hu g hgu
        have hob : own (σ'.blk b) = true := by rw [hb]; rfl
        obtain ⟨y, hy⟩ := isBox c g hg (hm'.may b g hob hbg)
        obtain ⟨hc1, _⟩ := hKg c g hg
        have hgb := dead_blk hE hv hbox (c, y) g hy hc1
        obtain ⟨bb, t, cs, q1, q2⟩ := hbb g hgb
        have hne : b ≠ bb := by rintro rfl; rw [hb] at q1; cases q1
        exact hm'.apart b bb g hne hob hbg q2) (fun u hu g hgu => by
        obtain ⟨b, e, ys, _, hb, hbg⟩ := g2 u hu g hgu
        have hob : own (σ'.blk b) = true := by rw [hb]; rfl
        rcases hm'.may b g hob hbg with hh | hh
        · exact h.mem.below.fresh hh
        · obtain ⟨b2, k', e1, e2, e3, e4⟩ := eat_own g hh
          exact h.mem.may b2 g e4 e3) g3
      have hlo : (ofRVs n rs).1.length - boxLen E = us.length := by
        rw [hfr.1, List.length_append, hucl]; omega
      have hfr1 : R2 (FR pl4) ((ofRVs n rs).1.take ((ofRVs n rs).1.length - boxLen E)) us := by
        have := hfr.take us.length
        rw [List.take_left'] at this
        · rwa [hlo]
        · rfl
      have hfr2 : R2 (FR pl4) ((ofRVs n rs).1.drop ((ofRVs n rs).1.length - boxLen E)) uc := by
        have := hfr.drop us.length
        rw [List.drop_left'] at this
        · rwa [hlo]
        · rfl
      have hp4 : PtrTurn pl pl4 := fun b o v hv => t4.sc _ _ (hKp b o v hv)
      have hups := boxUps_told (G := G) hp4 hE hv hbu hfr2 hbox
      have news_not : ∀ (rs : List (RV C)) (m c : Nat), c < m ∨ m + rowsIn rs ≤ c → ∀ p, p ∈ (ofRVs m rs).2 → p.1 ≠ c := fun rs => by
        induction rs with
        | nil => intro m c _ p hp; cases hp
        | cons y rs ih =>
          intro m c hc p hp
          cases y with
          | fl z => exact ih m c (by simpa [rowsIn] using hc) p hp
          | row e ys =>
            rcases List.mem_cons.1 hp with rfl | hp
            · simp only [rowsIn] at hc
              simp only
              omega
            · exact ih (m + 1) c (by simp only [rowsIn] at hc; omega) p hp
      have h5 := rel_retell bu (fun p hp => by
        obtain ⟨e1, e2, y, e3⟩ := hups p hp
        refine ⟨?_, e1, e2⟩
        obtain ⟨_, t, cs, h5, _⟩ := src2 _ e3
        have hσ := hS.box h5
        show own ((upd (upd σK.H (deadBoxes E vs)) (ofRVs n rs).2).getD p.1 .gone) = true
        have hpn : p.1 < n ∨ n + rowsIn rs ≤ p.1 := by
          rcases Nat.lt_or_ge p.1 n with c | c
          · exact .inl c
          · refine .inr ?_
            rcases Nat.lt_or_ge p.1 (n + rowsIn rs) with c2 | c2
            · have f1 := (hn (p.1 - n) (by omega)).1
              rw [show n + (p.1 - n) = p.1 by omega] at f1
              rw [hσ] at f1; cases f1
            · exact c2
        rw [updA_not _ _ _ (news_not rs n p.1 hpn)]
        have hlt : p.1 < σK.H.length := by
          obtain ⟨t, cs, h7, _⟩ := boxK _ e3
          exact blk_lt (by simp only [h7]; intro hh; cases hh)
        obtain ⟨z, hz1, hz2⟩ := updA_mem _ _ p.1 hlt ⟨_, e3, rfl⟩
        rw [hz2]
        obtain ⟨t, cs, _, h8⟩ := boxK _ hz1
        simp only at h8
        rw [h8]; rfl) h4
      refine ⟨pl4, ?_⟩
      rw [hKa]
      have := rel_put h5 d (tupVal_av hfr1)
      have e6 : upd σK.H (deadBoxes E vs ++ ((ofRVs n rs).2 ++ bu)) = upd (upd (upd σK.H (deadBoxes E vs)) (ofRVs n rs).2) bu := by
        rw [updA_append, updA_append]
      rw [e6]
      exact this
    · cases hfin
end
end Go.Abs
