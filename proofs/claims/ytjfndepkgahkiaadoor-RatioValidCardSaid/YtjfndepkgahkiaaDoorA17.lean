/- EACH OPERATION OF THE MODEL DOES WHAT IS TOLD OF IT (fourteenth part: append, joined). -/
import Derived.Test.YtjfndepkgahkiaaDoorA16
set_option linter.unusedVariables false
set_option linter.unusedSimpArgs false
namespace Go.Abs
open Go.RowKit
section
variable {C : Codec} {P : Program} {G : C.Good P} {w0 : Base C} {σ : St C} {as : List Act} {a : Act} {w : World} {pl : Pl} {n : Nat} {H : Nat → Blk C} {o : Oper} {r : Res C}

theorem ownBlock_eq {v : Value} (h : ∃ a n c, v = .slice a n c) : v.ownBlock = blkOf v := by
  obtain ⟨a, n, c, rfl⟩ := h
  cases a <;> rfl
theorem ownsRow_slice {base : Nat} {e : TypeId} {sz m : Nat} {v : Value} {xs : List Value} (h : w.ownsRow base e sz v m xs) : ∃ a c, v = .slice a m c := by
  obtain ⟨a, c, h1, _⟩ := own_reads' h
  exact ⟨a, c, h1⟩
theorem appendK_sound (h : Rel G w0 σ as a w pl) (hS : Seen H σ.blk) (hn : σ.blk n = .gone) (hlen : n < σ.H.length) {t t' ty e : TypeId} {s : Sc} {v src : Value} {ys : List (C.Elt e)} (hv : FR pl (.one s) v) (hap : Apps C P w 0 t t' ty e src ys)
    (hex : ∀ v' w', (Builtin.append_ #[t, t'] ty #[v, src]).run P w = .ok v' w' → (execOp a.eval o).run P w = .ok (.value v') w') (hk : appendK P n e s H ys some = some r) : Out G w0 σ as a w o r := by
  unfold appendK at hk
  split at hk
  · obtain ⟨hhas, hk2⟩ := cond_none hk
    obtain ⟨h47, hk3⟩ := cond_none hk2
    clear hk hk2
    injection hk3 with hk3; subst hk3
    have h47 : ys.length * P.bytesOf e ≤ 140737488355328 := by simpa using h47
    have := fr_nsl hv; subst this
    obtain ⟨v', w', h1, h2, h3, h4⟩ := hap.own _ 0 [] (World.ownsRow_nil w 0 e (C.sz e)) (by rw [Nat.zero_add]; exact h47)
    rw [Nat.zero_add, List.nil_append] at h2
    obtain ⟨a', c', hv'⟩ := ownsRow_slice h2
    refine out_newRow h hn hlen (v := v') h3 ⟨hhas, v', if_pos rfl, h2⟩ (fun g hg => ?_) (hex _ _ h1)
    rw [← ownBlock_eq ⟨_, _, _, hv'⟩] at hg
    rcases h4 with h4 | h4
    · rw [h4] at hg; cases hg
    · rw [h4] at hg; injection hg with hg; omega
  · rename_i b
    split at hk
    · rename_i e' xs hb
      split at hk
      · rename_i he
        subst he
        obtain ⟨h47, hk2⟩ := cond_none hk
        clear hk
        injection hk2 with hk2; subst hk2
        have h47 : (xs.length + ys.length) * P.bytesOf e' ≤ 140737488355328 := by simpa using h47
        have hown : own (σ.blk b) = true := by rw [hS.row hb]; rfl
        have hB := h.mem.blk b
        rw [hS.row hb] at hB
        obtain ⟨hhas, v0, hp, hrow⟩ := hB
        obtain ⟨a0, n0, c0, h5, rfl⟩ := fr_sl hv
        rw [hp] at h5
        injection h5 with h5; subst h5
        obtain ⟨a1, c1, h6⟩ := ownsRow_slice hrow
        injection h6 with h6 h7 h8; subst h6; subst h7; subst h8
        obtain ⟨v', w', h1, h2, h3, h4⟩ := hap.own _ _ _ hrow h47
        obtain ⟨a', c', hv'⟩ := ownsRow_slice h2
        have e1 : (Value.slice a0 xs.length c0).ownBlock = plBlk pl b := by rw [ownBlock_eq ⟨_, _, _, rfl⟩, plBlk, hp]; rfl
        rw [e1] at h3 h4
        rw [ownBlock_eq ⟨_, _, _, hv'⟩] at h4
        have hB' : BlkR G 0 (pl.upd b v') w' b (.row e' true (xs ++ ys)) := ⟨hhas, v', if_pos rfl, by rw [List.length_append, flat_append]; exact h2⟩
        refine ⟨v', w', _, .inl (hex _ _ h1), rel_moved h o.dst (v1 := v') hown hp h3 hB' rfl ?_ ⟨⟨a', _, c', ?_, hv'⟩, by rw [hv']; rfl⟩⟩
        · rcases h4 with h4 | h4
          · exact .inl h4
          · exact .inr (fun g hg => by rw [h4] at hg; injection hg with hg; omega)
        · rw [← hv']; exact if_pos rfl
      · cases hk
    · cases hk
  · rename_i b
    split at hk
    · rename_i e' ow xs hb
      split at hk
      · rename_i he
        subst he
        obtain ⟨h0, hk2⟩ := cond_none hk
        obtain ⟨h47, hk3⟩ := cond_none hk2
        clear hk hk2
        injection hk3 with hk3; subst hk3
        have h0 : 0 < ys.length := by simpa using h0
        have h47 : (xs.length + ys.length) * P.bytesOf e' ≤ 140737488355328 := by simpa using h47
        obtain ⟨hhas, ao, c, h1, h2, h3, h4, h5⟩ := row_info h.mem (hS.row hb)
        obtain ⟨a', n', c', h6, rfl⟩ := fr_tsl hv
        rw [h1] at h6
        injection h6 with h6; injection h6 with h6 h7 h8; subst h6; subst h7; subst h8
        have hbase := base_le h
        have fin : ∀ v' w', (Builtin.append_ #[t, t'] ty #[.slice ao xs.length xs.length, src]).run P w = .ok v' w' → w'.ownsRow 0 e' (C.sz e') v' (xs.length + ys.length) (flat C e' xs ++ flat C e' ys) → w.grownBy w' none → (∀ g, v'.ownBlock = some g → w.heap.size ≤ g) →
            Out G w0 σ as a w o { v := .fl (.one (.sl n)), up := [(n, .row e' true (xs ++ ys))] } := fun v' w' e1 e2 e3 e4 => by
          obtain ⟨a', c', hv'⟩ := ownsRow_slice e2
          refine out_newRow h hn hlen (v := v') e3 ⟨hhas, v', if_pos rfl, by rw [List.length_append, flat_append]; exact e2⟩ (fun g hg => ?_) (hex _ _ e1)
          rw [← ownBlock_eq ⟨_, _, _, hv'⟩] at hg
          exact e4 g hg
        cases ao with
        | none =>
          have hc := h4 rfl
          have hx : xs.length = 0 := by omega
          have hx' : xs = [] := List.eq_nil_of_length_eq_zero hx
          subst hx'
          obtain ⟨v', w', e1, e2, e3, e4⟩ := hap.own _ 0 [] (World.ownsRow_nil w 0 e' (C.sz e')) (by rw [Nat.zero_add]; simpa using h47)
          exact fin v' w' e1 (by simpa [flat] using e2) e3 (fun g hg => by
            rcases e4 with e4 | e4
            · rw [e4] at hg; cases hg
            · rw [e4] at hg; injection hg with hg; omega)
        | some ad =>
          obtain ⟨v', w', e1, e2, e3, e4⟩ := hap.grow ad xs.length (flat C e' xs) (flat_len G hhas xs) (fun j u hu => by
            rcases h5 with h5 | ⟨ad', h6, h5⟩
            · rw [h5] at hu; cases hu
            · injection h6 with h6; subst h6; exact h5 j u hu) h0 h47
          exact fin v' w' e1 e2 e3 (fun g hg => by rw [e4] at hg; injection hg with hg; omega)
      · cases hk
    · cases hk
  · cases hk
theorem out_append (h : Rel G w0 σ as a w pl) (hS : Seen H σ.blk) (hn : σ.blk n = .gone) (hlen : n < σ.H.length) {c : Call} {x y : Operand} (ho : o.op = .call c) (hc : c.callee = .builtin .append) (hx : c.args = #[x, y]) (hk : coreK P n H (.call c) [σ.ev x, σ.ev y] some = some r) : Out G w0 σ as a w o r := by
  obtain ⟨callee, args, argTypes⟩ := c
  simp only at hc hx
  subst hc; subst hx
  have hx := ev_avr h x
  have hy := ev_avr h y
  generalize σ.ev x = ax at hk hx
  generalize σ.ev y = ay at hk hy
  rcases ax with (s | _) | _ | _ <;> try (exfalso; simp [coreK] at hk; done)
  rcases ay with (s' | _) | _ | _ <;> try (exfalso; simp [coreK] at hk; done)
  simp only [coreK] at hk
  split at hk
  · rename_i t t' hts
    have hts' : argTypes = #[t, t'] := by
      apply Array.ext'
      simpa using hts
    have hex : ∀ v' w', (Builtin.append_ #[t, t'] o.type #[a.eval x, a.eval y]).run P w = .ok v' w' → (execOp a.eval o).run P w = .ok (.value v') w' := fun v' w' hr => by
      simp only [execOp, ho, resolve, invoke, builtin, Sem.run_bind, Sem.run_pure, Result.andThen_ok, hts']
      have : (#[x, y].map a.eval) = #[a.eval x, a.eval y] := by simp
      rw [this, hr]
      rfl
    split at hk
    · rename_i e he htt
      have htt := Nat.eq_of_beq_eq_true htt
      subst htt
      have := fr_nsl hy
      rw [this] at hex
      by_cases hhas : C.has e = true
      · exact appendK_sound h hS hn hlen hx (apps_slice G (base_le h) (ty := o.type) (elem_spec he) hhas (ao := none) (m := 0) (c := 0) (ys := []) rfl (Nat.le_refl _) (fun _ => rfl) (.inl rfl)) hex hk
      · exfalso
        unfold appendK at hk
        split at hk
        · obtain ⟨h1, _⟩ := cond_none hk; exact hhas h1
        · split at hk
          · rename_i e' xs hb
            split at hk
            · rename_i he'
              subst he'
              exact hhas (row_info h.mem (hS.row hb)).1
            · cases hk
          · cases hk
        · split at hk
          · rename_i e' ow xs hb
            split at hk
            · rename_i he'
              subst he'
              exact hhas (row_info h.mem (hS.row hb)).1
            · cases hk
          · cases hk
        · cases hk
    · rename_i e he htt _
      have htt := Nat.eq_of_beq_eq_true htt
      subst htt
      split at hk
      · rename_i b' e2 ys hrow
        split at hk
        · rename_i he2
          subst he2
          obtain ⟨_, _, hhas, ao, c, c0, hv, _, hc, hmax, hnone, hr⟩ := rowOf_info hS h.mem hy hrow
          rw [hv] at hex
          exact appendK_sound h hS hn hlen hx (apps_slice G (base_le h) (ty := o.type) (elem_spec he) hhas rfl hc hnone hr) hex hk
        · cases hk
      · cases hk
    · rename_i e s0 he htt
      split at hk
      · rename_i f ht' hu8 hf
        rw [fr_str hy] at hex
        exact appendK_sound h hS hn hlen hx (apps_str G (base_le h) (ty := o.type) (elem_spec he) ht' hf) hex hk
      · cases hk
    · cases hk
  · cases hk
end
end Go.Abs
