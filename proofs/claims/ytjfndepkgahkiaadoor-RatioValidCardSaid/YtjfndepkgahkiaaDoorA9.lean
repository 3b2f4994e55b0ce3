/- EACH OPERATION OF THE MODEL DOES WHAT IS TOLD OF IT (sixth part: strings, structs, conversions, loads). -/
import Derived.Test.YtjfndepkgahkiaaDoorA8
import Derived.Great.FillDense
import Derived.Laws.Tables
import Derived.Laws.Strings3
set_option linter.unusedVariables false
set_option linter.unusedSimpArgs false
namespace Go.Abs
open Go.RowKit
theorem cells_one1 {v : Value} (h : v.oneCell' = true) : v.cells = #[v] := by
  cases v <;> first | rfl | simp [Value.oneCell'] at h
section
variable {C : Codec} {P : Program} {G : C.Good P} {w0 : Base C} {σ : St C} {as : List Act} {a : Act} {w : World} {pl : Pl} {n : Nat} {H : Nat → Blk C} {o : Oper} {r : Res C}

theorem fl_cells {x : Fl} {v : Value} (h : FR pl x v) (hg : x.good = true) : R2 (CR pl) x.cells v.cells.toList := by
  cases x with
  | one s =>
    have hc : CR pl s v := by
      cases s with
      | dead => simp [Fl.good] at hg
      | _ => exact h
    rw [cells_one1 hc.2]
    exact R2.cons hc R2.nil
  | agg cs =>
    obtain ⟨vs, rfl, h1⟩ := h
    exact h1
theorem cells_fr {x : Fl} {v : Value} (h : FR pl x v) (hg : x.good = true) : ∀ u ∈ v.cells.toList, u.oneCell' = true := by
  have h1 := fl_cells h hg
  intro u hu
  obtain ⟨i, hi⟩ := List.getElem?_of_mem hu
  have hl : i < x.cells.length := by rw [h1.1]; exact (List.getElem?_eq_some_iff.1 hi).1
  exact (h1.2 i _ u (List.getElem?_eq_getElem hl) hi).2

theorem out_index (h : Rel G w0 σ as a w pl) {x i : Operand} {t : TypeId} (ho : o.op = .index t x i) (hk : coreK P n H (.index t x i) [σ.ev x, σ.ev i] some = some r) : Out G w0 σ as a w o r := by
  have hx := ev_avr h x
  have hi := ev_avr h i
  generalize σ.ev x = ax at hk hx
  generalize σ.ev i = ai at hk hi
  rcases ax with (s | _) | _ | _ <;> try (exfalso; simp [coreK] at hk; done)
  cases s <;> try (exfalso; simp [coreK] at hk; done)
  rename_i s
  rcases ai with (si | _) | _ | _ <;> try (exfalso; simp [coreK] at hk; done)
  cases si <;> try (exfalso; simp [coreK] at hk; done)
  rename_i k i0
  simp only [coreK] at hk
  split at hk
  · rename_i ht
    obtain ⟨h1, hk2⟩ := cond_none hk
    obtain ⟨h2, hk3⟩ := cond_none hk2
    clear hk hk2
    injection hk3 with hk3; subst hk3
    have h1 : 0 ≤ i0 := by simpa using h1
    have h2 : i0 < s.size := by simpa using h2
    refine out_pure h (v := .int .u8 (byteAt s i0)) ?_ (int_fr _ _)
    simp only [execOp, ho, fr_str hx, fr_int hi]
    have h3 : i0.toNat < s.data.toList.length := by
      have : s.size = s.data.size := rfl
      rw [Array.length_toList]
      omega
    have h5 : byteAt s i0 = ((s[i0.toNat]'(by omega)).toNat : Int) := by
      unfold byteAt
      rw [List.getD_eq_getElem?_getD, List.getElem?_eq_getElem h3]
      rfl
    rw [Sem.run_bind, run_index_string (P := P) w t s k i0 ht, dif_pos ⟨h1, h2⟩, h5]
    rfl
  · cases hk
theorem opt_slice {lo : Option Operand} {rest : List Operand} {d : Int} {k : Int → List AV → Option (Res C)} (h : Rel G w0 σ as a w pl) (hk : optK lo (lo.toList.map σ.ev ++ rest.map σ.ev) d k = some r) :
    ∃ i, k i (rest.map σ.ev) = some r ∧ ((lo = none ∧ i = d) ∨ ∃ y ki, lo = some y ∧ a.eval y = .int ki i) := by
  cases lo with
  | none => exact ⟨d, by simpa [optK] using hk, .inl ⟨rfl, rfl⟩⟩
  | some y =>
    have hy := ev_avr h y
    simp only [Option.toList_some, List.map_cons, List.map_nil, List.cons_append, List.nil_append] at hk
    generalize σ.ev y = ay at hk hy
    rcases ay with (s | _) | _ | _ <;> try (exfalso; simp [optK] at hk; done)
    cases s <;> try (exfalso; simp [optK] at hk; done)
    rename_i ki i
    exact ⟨i, by simpa [optK] using hk, .inr ⟨y, ki, rfl, fr_int hy⟩⟩
/-- The bounds of a slice expression. -/
theorem run_bounds {lo hi : Option Operand} {mx : Option Value} {l u len cap m : Nat} {b : Bool} {code : BoundsCode}
    (hlo : (lo = none ∧ l = 0) ∨ ∃ y ki i, lo = some y ∧ a.eval y = .int ki i ∧ 0 ≤ i ∧ l = i.toNat) (hhi : (hi = none ∧ mx = none ∧ u = len) ∨ ∃ y ki i, hi = some y ∧ a.eval y = .int ki i ∧ 0 ≤ i ∧ u = i.toNat ∧ u ≤ m)
    (hmx : (mx = none ∧ m = cap) ∨ ∃ km j, mx = some (.int km j) ∧ 0 ≤ j ∧ m = j.toNat) (h1 : l ≤ u) (h3 : m ≤ cap) :
    (Instr.sliceBounds b len cap (lo.map a.eval) (hi.map a.eval) mx).run P w = .ok (l, u, m) w := by
  have hb : ∀ (k : IntKind) (i : Int) (y : Nat) (c : BoundsCode), 0 ≤ i → i.toNat ≤ y → (Instr.sliceBound (.int k i) y c).run P w = .ok i.toNat w := fun k i y c e1 e2 => run_sliceBound (P := P) w k i y c e1 (by omega)
  unfold Instr.sliceBounds
  rcases hmx with ⟨rfl, rfl⟩ | ⟨km, j, rfl, hj, rfl⟩ <;> rcases hhi with ⟨rfl, hm, rfl⟩ | ⟨yh, kh, ih, rfl, eh, hh, rfl, h2⟩ <;> rcases hlo with ⟨rfl, rfl⟩ | ⟨yl, kl, il, rfl, el, hl, rfl⟩
  all_goals try (cases hm; done)
  all_goals simp only [Option.map_some, Option.map_none, Sem.run_bind, Sem.run_pure, Result.andThen_ok]
  all_goals simp [*]
theorem out_sliceStr (h : Rel G w0 σ as a w pl) {x : Operand} {lo hi mx : Option Operand} {t : TypeId} {s : ByteArray} (ho : o.op = .slice t x lo hi mx) (hs : σ.ev x = .fl (.one (.str s)))
    (hk : coreK P n H (.slice t x lo hi mx) (σ.ev x :: (lo.toList.map σ.ev ++ (hi.toList.map σ.ev ++ mx.toList.map σ.ev))) some = some r) : Out G w0 σ as a w o r := by
  have hx := ev_avr h x
  rw [hs] at hx hk
  have ex := fr_str hx
  simp only [coreK] at hk
  split at hk
  · rename_i s' heq ht
    injection heq with heq; subst heq
    split at hk
    · cases hk
    · rw [← List.map_append] at hk
      obtain ⟨l, hk1, hl⟩ := opt_slice h hk
      rw [List.map_append] at hk1
      obtain ⟨u, hk2, hu⟩ := opt_slice h hk1
      obtain ⟨h1, hk3⟩ := cond_none hk2
      obtain ⟨h2, hk4⟩ := cond_none hk3
      obtain ⟨h3, hk5⟩ := cond_none hk4
      obtain ⟨h4, hk6⟩ := cond_none hk5
      clear hk hk1 hk2 hk3 hk4 hk5
      injection hk6 with hk6; subst hk6
      simp only [decide_eq_true_eq] at h1 h2 h3 h4
      refine out_pure h (v := .string (s.extract l.toNat u.toNat)) ?_ (str_fr _)
      have hb := run_bounds (P := P) (a := a) (w := w) (lo := lo) (hi := hi) (mx := none) (l := l.toNat) (u := u.toNat) (len := s.size) (cap := s.size) (m := s.size) (b := false) (code := .sliceAcap)
        (by rcases hl with ⟨e, rfl⟩ | ⟨y, ki, e1, e2⟩
            · exact .inl ⟨e, rfl⟩
            · exact .inr ⟨y, ki, l, e1, e2, h3, rfl⟩)
        (by rcases hu with ⟨e, rfl⟩ | ⟨y, ki, e1, e2⟩
            · exact .inl ⟨e, rfl, by simp⟩
            · exact .inr ⟨y, ki, u, e1, e2, h1, rfl, by omega⟩)
        (.inl ⟨rfl, rfl⟩) (by omega) (Nat.le_refl _)
      simp only [execOp, ho, ex, Option.map_none]
      rw [Sem.run_bind, run_sliceAt_string w t _ _ _ _ ht]
      simp [Instr.slice, run_underlying ht, hb]
  · rename_i heq ht
    simp [rowOf] at hk
  · cases hk
end
end Go.Abs
