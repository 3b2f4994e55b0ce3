/- AT A LOOP'S HEAD; CODE. -/
import Derived.Test.YtjfndepkgahkiaaDoorA27
set_option linter.unusedVariables false
set_option linter.unusedSimpArgs false
namespace Go.Abs
open Go.RowKit
section
variable {C : Codec} {P : Program} {G : C.Good P} {Ψ : Known C} {R : Type} {w0 : Base C} {as : List Act} {σ : St C} {a : Act} {w : World} {pl : Pl}

theorem keepT_len (l : List Nat) : ∀ (t : Nat) (T : List AV), (keepT l t T).length = T.length
  | _, [] => rfl
  | t, v :: r => by simp only [keepT, List.length_cons]; rw [keepT_len l (t + 1) r]
theorem keepT_get (l : List Nat) : ∀ (t : Nat) (T : List AV) (i : Nat) (x : AV), (keepT l t T)[i]? = some x → x = .dead ∨ T[i]? = some x
  | _, [], i, x, h => by simp [keepT] at h
  | t, v :: r, 0, x, h => by
    simp only [keepT, List.getElem?_cons_zero, Option.some.injEq] at h
    cases hm : memN t l with
    | true => rw [hm] at h; exact .inr (by simpa using h)
    | false => rw [hm] at h; exact .inl h.symm
  | t, v :: r, i + 1, x, h => by
    simp only [keepT, List.getElem?_cons_succ] at h
    rcases keepT_get l (t + 1) r i x h with h | h
    · exact .inl h
    · exact .inr (by simpa using h)
theorem keepT_rel {T : List AV} {vs : List Value} (l : List Nat) (h : R2 (AVR pl) T vs) : R2 (AVR pl) (keepT l 0 T) vs :=
  ⟨by rw [keepT_len]; exact h.1, fun i x y hx hy => by
    rcases keepT_get l 0 T i x hx with rfl | hx
    · exact AVR.dead y
    · exact h.2 i x y hx hy⟩
theorem idxN_spec {b : Nat} : ∀ {l : List Nat} {c : Nat}, idxN b l = some c → l[c]? = some b
  | [], c, h => by simp [idxN] at h
  | d :: r, c, h => by
    simp only [idxN] at h
    cases hb : Nat.beq b d with
    | true =>
      rw [hb] at h
      injection h with h
      subst h
      have := Nat.eq_of_beq_eq_true hb
      simp [this]
    | false =>
      rw [hb] at h
      simp only [Bool.cond_false, Option.map_eq_some_iff] at h
      obtain ⟨c', h1, rfl⟩ := h
      simpa using idxN_spec h1
theorem nodupN_spec : ∀ {l : List Nat}, nodupN l = true → l.Nodup
  | [], _ => List.nodup_nil
  | b :: r, h => by
    simp only [nodupN, Bool.and_eq_true] at h
    exact List.nodup_cons.2 ⟨memN_false h.1, nodupN_spec h.2⟩
theorem turns_ren (l : List Nat) (pl : Pl) : Turns (Sc.ren l) pl (fun i => (l[i]?).bind pl) := by
  refine ⟨rfl, fun s v h => ?_⟩
  have key : ∀ {b c : Nat}, idxN b l = some c → (l[c]?).bind pl = pl b := fun {b c} hc => by rw [idxN_spec hc]; rfl
  cases s with
  | ptr b o =>
    simp only [Sc.ren]
    cases hc : idxN b l with
    | none => trivial
    | some c => obtain ⟨g, h1, h2⟩ := h; exact ⟨g, (key hc).trans h1, h2⟩
  | eptr b sz i o =>
    simp only [Sc.ren]
    cases hc : idxN b l with
    | none => trivial
    | some c => obtain ⟨ad, n, c', h1, h2⟩ := h; exact ⟨ad, n, c', (key hc).trans h1, h2⟩
  | sl b =>
    simp only [Sc.ren]
    cases hc : idxN b l with
    | none => trivial
    | some c => obtain ⟨a, n, c', h1, h2⟩ := h; exact ⟨a, n, c', (key hc).trans h1, h2⟩
  | tsl b =>
    simp only [Sc.ren]
    cases hc : idxN b l with
    | none => trivial
    | some c => obtain ⟨a, n, c', h1, h2⟩ := h; exact ⟨a, n, c', (key hc).trans h1, h2⟩
  | mp b =>
    simp only [Sc.ren]
    cases hc : idxN b l with
    | none => trivial
    | some c => obtain ⟨g, h1, h2⟩ := h; exact ⟨g, (key hc).trans h1, h2⟩
  | _ => exact h
theorem BlkR.move {base : Nat} {pl pl' : Pl} {f : Sc → Sc} {w : World} {b b' : Nat} {x : Blk C} (h : BlkR G base pl w b x) (ht : Turns f pl pl') (hb : pl' b' = pl b) : BlkR G base pl' w b' (x.map f) := by
  cases x with
  | gone => exact hb.trans h
  | box t cs =>
    obtain ⟨g, vs, h1, h2, h3, h4⟩ := h
    exact ⟨g, vs, hb.trans h1, h2, h3, ht.cells h4⟩
  | row e o xs =>
    cases o with
    | true => obtain ⟨hh, v, h1, h2⟩ := h; exact ⟨hh, v, hb.trans h1, h2⟩
    | false => obtain ⟨hh, a, c, h1, h2⟩ := h; exact ⟨hh, a, c, hb.trans h1, h2⟩
  | tab e l => obtain ⟨hh, g, es, clock, h1, h2⟩ := h; exact ⟨hh, g, es, clock, hb.trans h1, h2⟩
theorem own_map (f : Sc → Sc) (x : Blk C) : own (x.map f) = own x := by cases x <;> rfl
theorem unnil1_sound (x : Nat) (h : Rel G w0 σ as a w pl) : ∃ pl', Rel G w0 (unnil1 x σ) as a w pl' := by
  unfold unnil1
  split
  · rename_i hT
    cases hc : C.has (x / 4096 - 1) with
    | false => exact ⟨pl, h⟩
    | true =>
      simp only [Bool.cond_true]
      have hn : σ.blk σ.H.length = .gone := by simp [St.blk]
      have hpl : pl σ.H.length = none := by have := h.mem.blk σ.H.length; rw [hn] at this; exact this
      have ht := Turns.fresh hpl (.slice none 0 0)
      have hblk : ∀ b, (σ.H ++ [Blk.row (x / 4096 - 1) true ([] : List (C.Elt (x / 4096 - 1)))]).getD b .gone = if b = σ.H.length then Blk.row (x / 4096 - 1) true [] else σ.blk b := fun b => by
        simp only [St.blk, List.getD_eq_getElem?_getD]
        rcases Nat.lt_trichotomy b σ.H.length with hb | hb | hb
        · rw [List.getElem?_append_left hb, if_neg (by omega)]
        · subst hb; simp
        · rw [if_neg (by omega), List.getElem?_eq_none (by simp; omega), List.getElem?_eq_none (by omega)]
      refine ⟨pl.upd σ.H.length (.slice none 0 0), ⟨h.mem.below, fun b => ?_, fun b b' g hne ho hi hi' => ?_, fun b g ho hi => ?_⟩, ?_, ?_⟩
      · show BlkR G 0 _ w b ((σ.H ++ [Blk.row (x / 4096 - 1) true []]).getD b .gone)
        rw [hblk]
        by_cases hb : b = σ.H.length
        · subst hb
          rw [if_pos rfl]
          exact ⟨hc, .slice none 0 0, by simp [Pl.upd], World.ownsRow_nil w _ _ _⟩
        · rw [if_neg hb]
          have := (h.mem.blk b).turn ht (by simp [Pl.upd, hb])
          have e : (σ.blk b).map (fun s => s) = σ.blk b := by cases σ.blk b <;> simp [Blk.map]
          rwa [e] at this
      · have ho : own ((σ.H ++ [Blk.row (x / 4096 - 1) true ([] : List (C.Elt (x / 4096 - 1)))]).getD b .gone) = true := ho
        rw [hblk] at ho
        have none_at : ∀ c, c = σ.H.length → plBlk (pl.upd σ.H.length (.slice none 0 0)) c = none := fun c hc => by subst hc; simp [plBlk, Pl.upd, blkOf]
        have same_at : ∀ c, c ≠ σ.H.length → plBlk (pl.upd σ.H.length (.slice none 0 0)) c = plBlk pl c := fun c hc => by simp [plBlk, Pl.upd, hc]
        by_cases hb : b = σ.H.length
        · rw [none_at b hb] at hi; cases hi
        · by_cases hb' : b' = σ.H.length
          · rw [none_at b' hb'] at hi'; cases hi'
          · rw [if_neg hb] at ho
            rw [same_at b hb] at hi
            rw [same_at b' hb'] at hi'
            exact h.mem.apart b b' g hne ho hi hi'
      · have ho : own ((σ.H ++ [Blk.row (x / 4096 - 1) true ([] : List (C.Elt (x / 4096 - 1)))]).getD b .gone) = true := ho
        rw [hblk] at ho
        by_cases hb : b = σ.H.length
        · subst hb; simp [plBlk, Pl.upd, blkOf] at hi
        · have e1 : plBlk (pl.upd σ.H.length (.slice none 0 0)) b = plBlk pl b := by simp [plBlk, Pl.upd, hb]
          rw [if_neg hb] at ho
          rw [e1] at hi
          exact h.mem.may b g ho hi
      · have h1 := ht.avs h.tmps
        simp only [AV.map_id, List.map_id'] at h1
        refine ⟨by simp only [List.length_set]; exact h1.1, fun i y v hy hv => ?_⟩
        rw [List.getElem?_set] at hy
        split at hy
        · rename_i hi
          split at hy
          · injection hy with hy; subst hy
            have h2 := h.tmps.2 i (.fl (.one .nsl)) v (by
              rw [← hi]
              rw [List.getD_eq_getElem?_getD] at hT
              cases he : σ.T[x % 4096]? with
              | none => rw [he] at hT; cases hT
              | some z => rw [he] at hT; simp only [Option.getD_some] at hT; rw [hT]) hv
            have h3 : v = .slice none 0 0 := h2.1
            subst h3
            exact ⟨⟨none, 0, 0, by simp [Pl.upd], rfl⟩, rfl⟩
          · cases hy
        · exact h1.2 i y v hy hv
      · have h1 := ht.outer h.outer
        simp only [AV.map_id, List.map_id'] at h1
        exact h1
  · exact ⟨pl, h⟩
theorem unnil_sound : ∀ (l : List Nat) {σ : St C} {pl : Pl}, Rel G w0 σ as a w pl → ∃ pl', Rel G w0 (unnil l σ) as a w pl'
  | [], _, pl, h => ⟨pl, h⟩
  | x :: r, σ, pl, h => by
    unfold unnil
    cases hb : Nat.ble 4096 x with
    | false => exact unnil_sound r h
    | true =>
      obtain ⟨pl', h'⟩ := unnil1_sound x h
      exact unnil_sound r h'
theorem keepT_rel' {T : List AV} {vs : List Value} (l : List Nat) (t : Nat) (h : R2 (AVR pl) T vs) : R2 (AVR pl) (keepT l t T) vs :=
  ⟨by rw [keepT_len]; exact h.1, fun i x y hx hy => by
    rcases keepT_get l t T i x hx with rfl | hx
    · exact AVR.dead y
    · exact h.2 i x y hx hy⟩
theorem keepF_len (l : List Nat) : ∀ (i : Nat) (F : List (List AV)), (keepF l i F).length = F.length
  | _, [] => rfl
  | i, T :: r => by simp only [keepF, List.length_cons]; rw [keepF_len l (i + 1) r]
theorem keepF_get (l : List Nat) : ∀ (i : Nat) (F : List (List AV)) (j : Nat) (x : List AV), (keepF l i F)[j]? = some x → ∃ T t, F[j]? = some T ∧ (x = T ∨ x = keepT l t T)
  | _, [], j, x, h => by simp [keepF] at h
  | i, T :: r, 0, x, h => by
    simp only [keepF, List.getElem?_cons_zero, Option.some.injEq] at h
    refine ⟨T, 1000000000 * (i + 1), rfl, ?_⟩
    cases hm : memN (1000000000 * (i + 1) + 100000000) l with
    | true => rw [hm] at h; exact .inr h.symm
    | false => rw [hm] at h; exact .inl h.symm
  | i, T :: r, j + 1, x, h => by
    simp only [keepF, List.getElem?_cons_succ] at h
    obtain ⟨T', t, h1, h2⟩ := keepF_get l (i + 1) r j x h
    exact ⟨T', t, by simpa using h1, h2⟩
theorem pruneF_sound (l : List Nat) (h : Rel G w0 σ as a w pl) : Rel G w0 (pruneF l σ) as a w pl := by
  refine ⟨h.mem, h.tmps, ⟨by show (keepF l 0 σ.F).length = _; rw [keepF_len]; exact h.outer.1, fun i x y hx hy => ?_⟩⟩
  obtain ⟨T, t, h1, h2⟩ := keepF_get l 0 σ.F i x hx
  have h3 := h.outer.2 i T y h1 hy
  rcases h2 with rfl | rfl
  · exact h3
  · exact keepT_rel' l t h3
theorem norm_sound (keep : List Nat) (h0 : Rel G w0 σ as a w pl) : ∃ pl', Rel G w0 (σ.norm keep) as a w pl' := by
  obtain ⟨pl, h1⟩ := unnil_sound keep h0
  have h := pruneF_sound keep h1
  unfold St.norm
  dsimp only
  generalize pruneF keep (unnil keep σ) = σ at *
  generalize disc σ.H (10 * σ.H.length + 100) _ [] = l
  cases hn : nodupN l with
  | false => exact ⟨pl, h⟩
  | true =>
    simp only [Bool.cond_true]
    have hnd := nodupN_spec hn
    have ht := turns_ren l pl
    have hblk : ∀ i, (St.map (Sc.ren l) { T := keepT keep 0 σ.T, F := σ.F, H := l.map fun b => σ.H.getD b .gone } : St C).blk i = match l[i]? with
        | some b => (σ.blk b).map (Sc.ren l)
        | none => .gone := fun i => by
      simp only [St.map, St.blk]
      rw [List.getD_eq_getElem?_getD, List.getElem?_map, List.getElem?_map]
      cases l[i]? <;> rfl
    refine ⟨fun i => (l[i]?).bind pl, ⟨h.mem.below, fun i => ?_, fun i i' g hne ho hi hi' => ?_, fun i g ho hi => ?_⟩, ?_, ?_⟩
    · rw [hblk]
      cases hl : l[i]? with
      | none => show (l[i]?).bind pl = none; rw [hl]; rfl
      | some b => exact (h.mem.blk b).move ht (by show (l[i]?).bind pl = pl b; rw [hl]; rfl)
    · rw [hblk] at ho
      cases hl : l[i]? with
      | none => rw [hl] at ho; cases ho
      | some b =>
        rw [hl] at ho
        simp only [own_map] at ho
        cases hl' : l[i']? with
        | none => simp [plBlk, hl'] at hi'
        | some b' =>
          simp only [plBlk, hl, hl', Option.bind_some] at hi hi'
          have hbb : b ≠ b' := fun e => hne (by
            subst e
            exact (List.getElem?_inj (List.getElem?_eq_some_iff.1 hl).1 hnd).1 (hl.trans hl'.symm))
          exact h.mem.apart b b' g hbb ho hi hi'
    · rw [hblk] at ho
      cases hl : l[i]? with
      | none => rw [hl] at ho; cases ho
      | some b =>
        rw [hl] at ho
        simp only [own_map] at ho
        simp only [plBlk, hl, Option.bind_some] at hi
        exact h.mem.may b g ho hi
    · exact ht.avs (keepT_rel keep h.tmps)
    · exact ht.outer h.outer

/-! ### Code -/
theorem wp_loop_fuel {Q : Exit → Act → World → Prop} {c : Code} (S : Nat → Act → World → Prop) (m : Nat) (a : Act) (w : World) (h0 : S m a w)
    (round : ∀ m a w, S m a w → c.wp P (Exit.then (fun a' w' => ∃ m', m' < m ∧ S m' a' w') Q) a w) : (Code.loop c).wp P Q a w := by
  intro b k cs
  have key : ∀ n a w, S n a w → ∃ e a' w', Q e a' w' ∧ Arrives P (lone (b.at a (.code c :: .inLoop c :: k)) cs w) b k cs e a' w' := by
    intro n
    induction n using Nat.strongRecOn with
    | _ n ih =>
      intro a w hI
      obtain ⟨e, a₁, w₁, hq, harr⟩ := round n a w hI b (.inLoop c :: k) cs
      cases e with
      | normal =>
        obtain ⟨m', hlt, hI₁⟩ := hq
        obtain ⟨e₂, a₂, w₂, hq₂, harr₂⟩ := ih m' hlt a₁ w₁ hI₁
        exact ⟨e₂, a₂, w₂, hq₂, .of_steps (Steps.trans harr (.one step_inLoop)) harr₂⟩
      | exit id => exact ⟨_, a₁, w₁, hq, .pass (x := .inLoop c) rfl (fun _ _ => .inl (by simp)) harr⟩
      | goto l => exact ⟨_, a₁, w₁, hq, .pass (x := .inLoop c) rfl (fun _ _ => .inl (by simp)) harr⟩
      | ret => exact ⟨_, a₁, w₁, hq, .pass (x := .inLoop c) rfl (fun _ _ => .inl (by simp)) harr⟩
      | panic ch => exact ⟨_, a₁, w₁, hq, .pass (x := .inLoop c) rfl (fun _ _ => .inl (by simp)) harr⟩
      | outgrown => exact ⟨_, a₁, w₁, hq, .pass (x := .inLoop c) rfl (fun _ _ => .inl (by simp)) harr⟩
  obtain ⟨e, a', w', hq, harr⟩ := key m a w h0
  exact ⟨e, a', w', hq, .of_steps (.one step_loop) harr⟩
/-- Where code ends. -/
def Ends (G : C.Good P) (w0 : Base C) (as : List Act) (k : Exit → St C → Option R) (r : R) (e : Exit) (a' : Act) (w' : World) : Prop :=
  ∃ σ' pl', Rel G w0 σ' as a' w' pl' ∧ a'.defers = [] ∧ k e σ' = some r
theorem code_sound (hF : Fit P) (hΨ : KnownOk C P Ψ) {call : Callee C R} (hcall : CallOk G call) {keep : Nat → List Nat} {m : Nat} {r : R} :
    ∀ (c : Code) (σ : St C) (k : Exit → St C → Option R) (a : Act) (w : World) (pl : Pl), codeK P Ψ call keep m c σ k = some r → Rel G w0 σ as a w pl → a.defers = [] → c.wp P (Ends G w0 as k r) a w
  | .skip, σ, k, a, w, pl, hk, h, hd => wp_skip ⟨σ, pl, h, hd, hk⟩
  | .label _, σ, k, a, w, pl, hk, h, hd => wp_label ⟨σ, pl, h, hd, hk⟩
  | .exit id, σ, k, a, w, pl, hk, h, hd => wp_exit ⟨σ, pl, h, hd, hk⟩
  | .ret, σ, k, a, w, pl, hk, h, hd => wp_ret ⟨σ, pl, h, hd, hk⟩
  | .region id ops draw, σ, k, a, w, pl, hk, h, hd => by
    have hQ : ∀ a w, Then G w0 as (fun σ' => k .normal σ') r a w → Ends G w0 as k r .normal a w := fun a w ⟨σ', pl', h1, h2, h3⟩ => ⟨σ', pl', h1, h2, h3⟩
    cases draw with
    | false => exact region_text hF hΨ hcall hQ h hd hk
    | true => exact region_draw hF hΨ (call := call) hcall hQ h hd hk
  | .seq x y, σ, k, a, w, pl, hk, h, hd => by
    refine wp_seq (wp_mono (code_sound hF hΨ hcall x σ _ a w pl hk h hd) fun e a' w' he => ?_)
    obtain ⟨σ', pl', h1, h2, h3⟩ := he
    cases e with
    | normal => exact code_sound hF hΨ hcall y σ' k a' w' pl' h3 h1 h2
    | _ => exact ⟨σ', pl', h1, h2, h3⟩
  | .cond (.tmp c) x y, σ, k, a, w, pl, hk, h, hd => by
    simp only [codeK] at hk
    split at hk
    · rename_i t ht
      have hc : a.eval (.tmp c) = .bool t := by
        have := ev_avr h (.tmp c)
        simp only [St.ev, ht] at this
        exact fr_bool this
      refine wp_cond hc ?_
      cases t with
      | true =>
        simp only [Bool.cond_true, St.know_eq ht] at hk
        simp only [if_true]
        exact code_sound hF hΨ hcall x σ k a w pl hk h hd
      | false =>
        simp only [Bool.cond_false, St.know_eq ht] at hk
        simp only [Bool.false_eq_true, if_false]
        exact code_sound hF hΨ hcall y σ k a w pl hk h hd
    · cases hk
  | .block id x, σ, k, a, w, pl, hk, h, hd => by
    refine wp_block (wp_mono (code_sound hF hΨ hcall x σ _ a w pl hk h hd) fun e a' w' he => ?_)
    obtain ⟨σ', pl', h1, h2, h3⟩ := he
    cases e with
    | exit id' =>
      simp only at h3
      simp only [Exit.inBlock]
      by_cases c : id' = id
      · subst c
        rw [if_pos rfl]
        rw [Nat.beq_refl] at h3
        exact ⟨σ', pl', h1, h2, h3⟩
      · rw [if_neg c]
        have : Nat.beq id' id = false := by
          cases e : Nat.beq id' id with
          | false => rfl
          | true => exact absurd (Nat.eq_of_beq_eq_true e) c
        rw [this] at h3
        exact ⟨σ', pl', h1, h2, h3⟩
    | _ => exact ⟨σ', pl', h1, h2, h3⟩
  | .loop x, σ, k, a, w, pl, hk, h, hd => by
    simp only [codeK] at hk
    obtain ⟨pl0, h0⟩ := norm_sound (keep (headId x)) h
    refine wp_loop_fuel (fun n a w => ∃ σ pl, Rel G w0 σ as a w pl ∧ a.defers = [] ∧ iterK (fun σ k => codeK P Ψ call keep m x σ k) (St.norm (keep (headId x))) n σ k = some r) m a w ⟨_, pl0, h0, hd, hk⟩ ?_
    rintro n a1 w1 ⟨σ1, pl1, h1, hd1, hk1⟩
    cases n with
    | zero => cases hk1
    | succ n =>
      simp only [iterK] at hk1
      refine wp_mono (code_sound hF hΨ hcall x σ1 _ a1 w1 pl1 hk1 h1 hd1) fun e a' w' he => ?_
      obtain ⟨σ', pl', h2, h3, h4⟩ := he
      cases e with
      | normal =>
        obtain ⟨pl2, h5⟩ := norm_sound (keep (headId x)) h2
        exact ⟨n, Nat.lt_succ_self n, _, pl2, h5, h3, h4⟩
      | _ => exact ⟨σ', pl', h2, h3, h4⟩
  | .cond (.const v) x y, σ, k, a, w, pl, hk, h, hd => by
    cases v with
    | bool t =>
      simp only [codeK] at hk
      refine wp_cond (show a.eval (.const (.bool t)) = .bool t from rfl) ?_
      cases t with
      | true =>
        simp only [Bool.cond_true] at hk
        simp only [if_true]
        exact code_sound hF hΨ hcall x σ k a w pl hk h hd
      | false =>
        simp only [Bool.cond_false] at hk
        simp only [Bool.false_eq_true, if_false]
        exact code_sound hF hΨ hcall y σ k a w pl hk h hd
    | _ => simp [codeK] at hk
  | .cond (.global _) _ _, σ, k, a, w, pl, hk, _, _ => by simp [codeK] at hk
  | .cond (.func _) _ _, σ, k, a, w, pl, hk, _, _ => by simp [codeK] at hk
  | .goto _, σ, k, a, w, pl, hk, _, _ => by simp [codeK] at hk
  | .scope .., σ, k, a, w, pl, hk, _, _ => by simp [codeK] at hk
end
end Go.Abs
