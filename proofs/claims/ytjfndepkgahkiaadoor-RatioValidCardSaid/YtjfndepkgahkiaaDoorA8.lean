/- EACH OPERATION OF THE MODEL DOES WHAT IS TOLD OF IT (fifth part: more operations that make no memory). -/
import Derived.Test.YtjfndepkgahkiaaDoorA7
set_option linter.unusedVariables false
set_option linter.unusedSimpArgs false
namespace Go.Abs
open Go.RowKit
section
variable {C : Codec} {P : Program} {G : C.Good P} {w0 : Base C} {σ : St C} {as : List Act} {a : Act} {w : World} {pl : Pl} {n : Nat} {H : Nat → Blk C} {o : Oper} {r : Res C}

theorem out_nilCheck (h : Rel G w0 σ as a w pl) {x : Operand} (ho : o.op = .nilCheck x) (hk : coreK P n H (.nilCheck x) [σ.ev x] some = some r) : Out G w0 σ as a w o r := by
  have hx := ev_avr h x
  generalize σ.ev x = ax at hk hx
  cases ax with
  | tup _ => simp [coreK] at hk
  | clo _ _ _ => simp [coreK] at hk
  | fl f =>
    cases f with
    | agg _ => simp [coreK] at hk
    | one s =>
      cases s with
      | ptr b off =>
        simp only [coreK, Option.some.injEq] at hk
        subst hk
        obtain ⟨g, h1, h2⟩ := fr_ptr hx
        exact out_pure h (v := .pointer (some ⟨g, off, none⟩)) (by simp [execOp, ho, h2]) (h2 ▸ hx)
      | _ => simp [coreK] at hk
theorem run_fieldPlace {g off : Nat} {f : Field} {i : TypeInfo} (hi : P.info? f.type = some i) (hz : i.size ≠ 0) (w : World) : (fieldPlace ⟨g, off, none⟩ f).run P w = .ok ⟨g, off + f.offset, none⟩ w := by
  simp [fieldPlace, run_sizeOf hi, hz, Addr.add_mid]
theorem out_fieldAddr (h : Rel G w0 σ as a w pl) {x : Operand} {t : TypeId} {j : Nat} (ho : o.op = .fieldAddr t x j) (hk : coreK P n H (.fieldAddr t x j) [σ.ev x] some = some r) : Out G w0 σ as a w o r := by
  have hx := ev_avr h x
  generalize σ.ev x = ax at hk hx
  have aux : ∀ (s s' : Sc) (g off : Nat), a.eval x = .pointer (some ⟨g, off, none⟩) → (∀ o' ft, fieldOf P t j = some (o', ft) → CR pl s' (.pointer (some ⟨g, off + o', none⟩)) → cond (Nat.beq (P.cellsOf ft) 0) none (some ({ v := .fl (.one s') } : Res C)) = some r → Out G w0 σ as a w o r) := by
    intro s s' g off e o' ft hf hc hk
    obtain ⟨h1, h2⟩ := cond_none' hk
    injection h2 with h2; subst h2
    obtain ⟨fs, f, h3, h4, rfl, rfl⟩ := fieldOf_spec hf
    have hz : P.cellsOf f.type ≠ 0 := Nat.ne_of_beq_eq_false h1
    have hi : ∃ i, P.info? f.type = some i ∧ i.size ≠ 0 := by
      cases hi : P.info? f.type with
      | none => simp [Program.cellsOf, hi] at hz
      | some i => exact ⟨i, rfl, by simpa [Program.cellsOf, hi] using hz⟩
    obtain ⟨i, hi, hz'⟩ := hi
    refine out_pure h (v := .pointer (some ⟨g, off + f.offset, none⟩)) ?_ (FR.one hc)
    simp only [execOp, ho, e]
    simp [Instr.fieldAt, run_underlying h3, h4, Instr.sureAddr, run_fieldPlace hi hz']
  cases ax with
  | tup _ => simp [coreK] at hk
  | clo _ _ _ => simp [coreK] at hk
  | fl f =>
    cases f with
    | agg _ => simp [coreK] at hk
    | one s =>
      cases s with
      | ptr b off =>
        simp only [coreK] at hk
        split at hk
        · rename_i o' ft hf
          obtain ⟨g, h1, h2⟩ := fr_ptr hx
          exact aux (.ptr b off) (.ptr b (off + o')) g off h2 o' ft hf ⟨⟨g, h1, rfl⟩, rfl⟩ hk
        · cases hk
      | eptr b sz i off =>
        simp only [coreK] at hk
        split at hk
        · rename_i o' ft hf
          obtain ⟨ad, m, c, h1, h2, h3, h4, h5⟩ := hx.1
          exact aux (.eptr b sz i off) (.eptr b sz i (off + o')) ad.block (ad.off + i.toNat * sz + off) h5 o' ft hf ⟨⟨ad, m, c, h1, h2, h3, h4, by simp only [Nat.add_assoc]⟩, rfl⟩ hk
        · cases hk
      | _ => simp [coreK] at hk
theorem addr_at {ad : Addr} {k : Nat} (h : ad.spot = none) : ad.add k = ⟨ad.block, ad.off + k, none⟩ := by
  obtain ⟨b, f, s⟩ := ad
  simp only at h
  subst h
  exact Addr.add_mid b f k
theorem reads_spot {w : World} {ad : Addr} {cs : List Value} (h : Reads w (some ad) cs) (hc : cs ≠ []) : ad.spot = none := by
  rcases h with h | ⟨ad', e, h⟩
  · exact absurd h hc
  · injection e with e
    subst e
    match cs, hc with
    | u :: us, _ =>
      have := h 0 u rfl
      unfold World.cell? Addr.add at this
      simp only [if_pos] at this
      cases hs : ad.spot with
      | none => rfl
      | some x =>
        exfalso
        revert this
        split <;> simp [hs]
theorem idxK_spec {R : Type} {i : Int} {k : Nat → Option R} {r : R} : ∀ {m : Nat}, idxK m i k = some r → ∃ j : Nat, i = (j : Int) ∧ j < m ∧ k j = some r
  | 0, h => by cases h
  | m + 1, h => by
    simp only [idxK] at h
    by_cases e : i = m
    · subst e
      simp only [decide_true, Bool.cond_true] at h
      exact ⟨m, rfl, by omega, h⟩
    · simp only [e, decide_false, Bool.cond_false] at h
      obtain ⟨j, h1, h2, h3⟩ := idxK_spec h
      exact ⟨j, h1, by omega, h3⟩
theorem out_indexAddr (h : Rel G w0 σ as a w pl) (hS : Seen H σ.blk) {x i : Operand} {t : TypeId} (ho : o.op = .indexAddr t x i) (hk : coreK P n H (.indexAddr t x i) [σ.ev x, σ.ev i] some = some r) : Out G w0 σ as a w o r := by
  have hx := ev_avr h x
  have hi := ev_avr h i
  generalize σ.ev x = ax at hk hx
  generalize σ.ev i = ai at hk hi
  cases ax with
  | tup _ => simp [coreK] at hk
  | clo _ _ _ => simp [coreK] at hk
  | fl f =>
    cases f with
    | agg _ => simp [coreK] at hk
    | one s =>
      cases ai with
      | tup _ => simp [coreK] at hk
      | clo _ _ _ => simp [coreK] at hk
      | fl fi =>
        cases fi with
        | agg _ => simp [coreK] at hk
        | one si =>
          cases si with
          | int k i0 =>
            have e := fr_int hi
            simp only [coreK] at hk
            split at hk
            · rename_i b off m el ht
              obtain ⟨h1, hk2⟩ := cond_none hk
              obtain ⟨h2, hk3⟩ := cond_none hk2
              obtain ⟨h5, hk4⟩ := cond_none hk3
              clear hk hk2 hk3
              have hk5 : r = { v := .fl (.one (.ptr b (off + i0.toNat * P.cellsOf el))) } := by
                cases hm : Nat.ble m 4 with
                | false => rw [hm] at hk4; injection hk4 with hk4; exact hk4.symm
                | true =>
                  rw [hm, Bool.cond_true] at hk4
                  obtain ⟨j, h6, _, h7⟩ := idxK_spec hk4
                  injection h7 with h7
                  rw [← h7, h6]; rfl
              subst hk5
              have h1 : 0 ≤ i0 := by simpa using h1
              have h2 : i0 < m := by simpa using h2
              have h5 : 1 ≤ P.cellsOf el := Nat.le_of_ble_eq_true h5
              obtain ⟨g, h3, h4⟩ := fr_ptr hx
              have hsz : ∃ q, P.info? el = some q := by
                cases hq : P.info? el with
                | none => simp [Program.cellsOf, hq] at h5
                | some q => exact ⟨q, rfl⟩
              obtain ⟨q, hq⟩ := hsz
              refine out_pure h (v := .pointer (some ⟨g, off + i0.toNat * P.cellsOf el, none⟩)) ?_ (FR.one (s := .ptr b (off + i0.toNat * P.cellsOf el)) ⟨⟨g, h3, rfl⟩, rfl⟩)
              have hcell : P.cellsOf el = q.size := by simp [Program.cellsOf, hq]
              simp only [execOp, ho, e, h4]
              simp [Instr.indexAt, asIntOf, run_underlying ht, Instr.sureAddr, run_sizeOf hq, h1, h2, Addr.add_mid, hcell]
            · rename_i s' e' ht
              split at hk
              · rename_i b el xs hrow
                obtain ⟨he, hk2⟩ := cond_none hk
                have he := Nat.eq_of_beq_eq_true he
                subst he
                obtain ⟨h1, hk3⟩ := cond_none hk2
                obtain ⟨h2, hk4⟩ := cond_none hk3
                clear hk hk2 hk3
                injection hk4 with hk4; subst hk4
                have h1 : 0 ≤ i0 := by simpa using h1
                have h2 : i0 < xs.length := by simpa using h2
                obtain ⟨hs, ⟨ow, hb⟩, hhas, ao, c, c0, hv, hp, hc, hmax, hnone, hr⟩ := rowOf_info hS h.mem hx hrow
                obtain ⟨hsz, hpos, _⟩ := G.sz _ hhas
                have hne : flat C el xs ≠ [] := by
                  intro hh
                  have h6 := flat_len G hhas xs
                  rw [hh] at h6
                  rcases Nat.mul_eq_zero.1 h6.symm with h7 | h7 <;> omega
                obtain ⟨q, hq⟩ : ∃ q, P.info? el = some q := by
                  cases hq : P.info? el with
                  | none => simp [Program.cellsOf, hq] at hsz; omega
                  | some q => exact ⟨q, rfl⟩
                have hcell : q.size = C.sz el := by rw [← hsz]; simp [Program.cellsOf, hq]
                cases ao with
                | none =>
                  rcases hr with hr | ⟨ad, e, _⟩
                  · exact absurd hr hne
                  · cases e
                | some ad =>
                  have hsp := reads_spot hr hne
                  refine out_pure h (v := .pointer (some ⟨ad.block, ad.off + i0.toNat * C.sz el, none⟩)) ?_ (FR.one (s := .eptr b (C.sz el) i0 0) ⟨⟨ad, xs.length, c0, hp, hsp, h1, (by omega), (by simp)⟩, rfl⟩)
                  simp only [execOp, ho, e, hv]
                  simp [Instr.indexAt, asIntOf, run_underlying ht, run_sizeOf hq, h1, h2, hcell, addr_at hsp]
              · cases hk
            · cases hk
          | _ => simp [coreK] at hk
end
end Go.Abs
