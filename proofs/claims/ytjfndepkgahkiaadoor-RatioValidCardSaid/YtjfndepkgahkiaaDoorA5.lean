/- EACH OPERATION OF THE MODEL DOES WHAT IS TOLD OF IT (second part: values). -/
import Derived.Test.YtjfndepkgahkiaaDoorA4
set_option linter.unusedVariables false
set_option linter.unusedSimpArgs false
namespace Go.Abs
open Go.RowKit
section
variable {C : Codec} {P : Program} {G : C.Good P} {w0 : Base C} {σ : St C} {as : List Act} {a : Act} {w : World} {pl : Pl}

def Out (G : C.Good P) (w0 : Base C) (σ : St C) (as : List Act) (a : Act) (w : World) (o : Oper) (r : Res C) : Prop :=
  ∃ v w' pl', Does P o a w v w' ∧ Rel G w0 (σ.apply o.dst r) as (a.put o.dst v) w' pl'

theorem out_pure (h : Rel G w0 σ as a w pl) {o : Oper} {x : AV} {v : Value} (hrun : (execOp a.eval o).run P w = .ok (.value v) w) (hx : AVR pl x v) : Out G w0 σ as a w o { v := x } :=
  ⟨v, w, pl, .inl hrun, rel_pure h o.dst hx⟩

theorem cond_true {α : Type} {c : Bool} {x y : α} {z : α} (h : cond c x y = z) (hy : y ≠ z) : c = true ∧ x = z := by
  cases c
  · exact absurd h hy
  · exact ⟨rfl, h⟩
theorem cond_none {α : Type} {c : Bool} {x : Option α} {r : α} (h : cond c x none = some r) : c = true ∧ x = some r := cond_true h (by simp)
theorem cond_none' {α : Type} {c : Bool} {x : Option α} {r : α} (h : cond c none x = some r) : c = false ∧ x = some r := by
  cases c
  · exact ⟨rfl, h⟩
  · simp at h

section
variable {x y : Fl} {v u : Value}
theorem fr_int {k : IntKind} {n : Int} (h : FR pl (.one (.int k n)) v) : v = .int k n := h.1
theorem fr_bool {b : Bool} (h : FR pl (.one (.bool b)) v) : v = .bool b := h.1
theorem fr_str {s : ByteArray} (h : FR pl (.one (.str s)) v) : v = .string s := h.1
theorem fr_ptr {b o : Nat} (h : FR pl (.one (.ptr b o)) v) : ∃ g, pl b = some (.pointer (some ⟨g, 0, none⟩)) ∧ v = .pointer (some ⟨g, o, none⟩) := h.1
theorem fr_sl {b : Nat} (h : FR pl (.one (.sl b)) v) : ∃ a n c, pl b = some (.slice a n c) ∧ v = .slice a n c := h.1
theorem fr_tsl {b : Nat} (h : FR pl (.one (.tsl b)) v) : ∃ a n c, pl b = some (.slice a n c) ∧ v = .slice a n n := h.1
theorem fr_nsl (h : FR pl (.one .nsl) v) : v = .slice none 0 0 := h.1
theorem int_fr (k : IntKind) (n : Int) : FR pl (.one (.int k n)) (.int k n) := ⟨rfl, rfl⟩
theorem bool_fr (b : Bool) : FR pl (.one (.bool b)) (.bool b) := ⟨rfl, rfl⟩
theorem str_fr (s : ByteArray) : FR pl (.one (.str s)) (.string s) := ⟨rfl, rfl⟩
end

theorem out_move (h : Rel G w0 σ as a w pl) {o : Oper} {x : Operand} (ho : o.op = .move x ∨ o.op = .assign x) : Out G w0 σ as a w o { v := σ.ev x } := by
  refine out_pure h (v := a.eval x) ?_ (ev_avr h x)
  rcases ho with ho | ho <;> simp [execOp, ho]
theorem out_pick (h : Rel G w0 σ as a w pl) {o : Oper} {c x y : Operand} (ho : o.op = .pick c x y) {t : Bool} (hc : AVR pl (.fl (.one (.bool t))) (a.eval c)) : Out G w0 σ as a w o { v := if t then σ.ev x else σ.ev y } := by
  refine out_pure h (v := if t then a.eval x else a.eval y) ?_ ?_
  · rw [execOp, ho]; simp [fr_bool hc, asBool]
  · cases t
    · exact ev_avr h y
    · exact ev_avr h x

/-! '==' of structs -/
/-- The value of a type out of its cells. -/
def valOf (P : Program) (t : TypeId) (xs : List Value) : Value := if isAggB P t then .agg xs.toArray else xs.headD undef
theorem run_isAgg (t : TypeId) {d : TypeDesc} (h : P.underlying t = some d) (w : World) : (isAgg t).run P w = .ok (isAggB P t) w := by
  unfold isAgg isAggB
  rw [Sem.run_bind, run_underlying h, h]
  cases d <;> rfl
theorem run_part {t : TypeId} {d : TypeDesc} (h : P.underlying t = some d) (xs : Array Value) (o : Nat) (hx : o + P.cellsOf t ≤ xs.size) (h1 : isAggB P t = false → P.cellsOf t = 1) (w : World) :
    (part t xs o).run P w = .ok (valOf P t ((xs.toList.drop o).take (P.cellsOf t))) w := by
  unfold part
  rw [Sem.run_bind, run_isAgg t h]
  simp only [Result.andThen_ok]
  cases hb : isAggB P t with
  | true =>
    simp only [if_true, Sem.run_bind]
    have hi : ∃ i, P.info? t = some i := by
      cases hi : P.info? t with
      | none => simp [Program.underlying, hi] at h
      | some i => exact ⟨i, rfl⟩
    obtain ⟨i, hi⟩ := hi
    have hs : P.cellsOf t = i.size := by simp [Program.cellsOf, hi]
    simp only [sizeOf, typeInfo, Sem.run_bind, run_program, hi, Result.andThen_ok, Sem.run_pure, valOf, hb, if_true, hs]
    congr 2
    apply Array.ext'
    simp [Array.toList_extract, List.extract]
  | false =>
    have h2 := h1 hb
    have h3 : o < xs.size := by omega
    simp only [Bool.false_eq_true, if_false, Array.getElem?_eq_getElem h3, Sem.run_pure, valOf, hb, h2]
    congr 1
    rw [← Array.getElem_toList h3, List.drop_eq_getElem_cons (by simpa using h3)]
    rfl
theorem eqCells_length : ∀ {ls : List TypeDesc} {cs ds : List Sc} {r : Bool}, eqCells ls cs ds = some r → cs.length = ls.length ∧ ds.length = ls.length
  | [], [], [], _, _ => ⟨rfl, rfl⟩
  | _ :: ts, _ :: xs, _ :: ys, r, h => by
    unfold eqCells at h
    split at h
    · rename_i a b ha hb
      have := eqCells_length hb
      simp [this.1, this.2]
    · cases h
  | [], _ :: _, _, _, h => by simp [eqCells] at h
  | [], [], _ :: _, _, h => by simp [eqCells] at h
  | _ :: _, [], _, _, h => by simp [eqCells] at h
  | _ :: _, _ :: _, [], _, h => by simp [eqCells] at h
theorem eqCells_append : ∀ {a b : List TypeDesc} {cs ds : List Sc} {r : Bool}, eqCells (a ++ b) cs ds = some r →
    ∃ p q, eqCells a (cs.take a.length) (ds.take a.length) = some p ∧ eqCells b (cs.drop a.length) (ds.drop a.length) = some q ∧ r = (p && q)
  | [], b, cs, ds, r, h => ⟨true, r, by simp [eqCells], by simpa using h, by simp⟩
  | t :: a, b, x :: cs, y :: ds, r, h => by
    simp only [List.cons_append, eqCells] at h
    split at h
    · rename_i u v hu hv
      injection h with h
      subst h
      obtain ⟨p, q, hp, hq, rfl⟩ := eqCells_append hv
      exact ⟨u && p, q, by simp [eqCells, hu, hp], by simpa using hq, by rw [Bool.and_assoc]⟩
    · cases h
  | _ :: _, _, [], _, _, h => by simp [eqCells] at h
  | _ :: _, _, _ :: _, [], _, h => by simp [eqCells] at h
theorem eqSc_sound {T : TypeDesc} {s s' : Sc} {v v' : Value} {b : Bool} (h : CR pl s v) (h' : CR pl s' v') (he : eqSc T s s' = some b) (d : Nat) (t : TypeId) (ht : P.underlying t = some T) : (Op.equalIn (d + 1) t v v').run P w = .ok b w := by
  unfold eqSc at he
  split at he
  · obtain ⟨hk, he⟩ := cond_none he
    injection he with he; subst he
    have e1 : v = .int _ _ := h.1; have e2 : v' = .int _ _ := h'.1
    subst e1; subst e2
    rename_i k0 k a0 k' b0
    have hk : k = k' := by simpa using hk
    subst hk
    exact run_equalIn_int w d t _ k0 _ _ ht
  · injection he with he; subst he
    have e1 : v = .bool _ := h.1; have e2 : v' = .bool _ := h'.1
    subst e1; subst e2
    exact run_equalIn_bool' w d t _ _ ht
  · injection he with he; subst he
    have e1 : v = .string _ := h.1; have e2 : v' = .string _ := h'.1
    subst e1; subst e2
    rw [run_equalIn_string w d t _ _ ht, beq_toListBytes]
  · cases he
theorem eqF_sound {d : Nat} {xs ys : Array Value} {cs ds : List Sc} (hx : R2 (CR pl) cs xs.toList) (hy : R2 (CR pl) ds ys.toList) {rec : TypeId → Option (List TypeDesc)}
    (hrec : ∀ t ls, rec t = some ls → (∃ T, P.underlying t = some T) ∧ (isAggB P t = false → P.cellsOf t = ls.length → P.cellsOf t = 1) ∧
      ∀ (cs ds : List Sc) (xs ys : List Value) (r : Bool), P.cellsOf t = ls.length → R2 (CR pl) cs xs → R2 (CR pl) ds ys → eqCells ls cs ds = some r → (Op.equalIn d t (valOf P t xs) (valOf P t ys)).run P w = .ok r w) :
    ∀ (fs : List Field) (o : Nat) (ls : List TypeDesc) (r : Bool), leavesF P rec o fs = some ls → eqCells ls (cs.drop o) (ds.drop o) = some r → (Op.eqFields d xs ys fs).run P w = .ok r w
  | [], o, ls, r, hl, he => by
    simp only [leavesF, Option.some.injEq] at hl
    subst hl
    have h1 := eqCells_length he
    rw [List.eq_nil_of_length_eq_zero h1.1, List.eq_nil_of_length_eq_zero h1.2] at he
    simp only [eqCells, Option.some.injEq] at he
    subst he
    simp [Op.eqFields]
  | f :: fs, o, ls, r, hl, he => by
    unfold leavesF at hl
    obtain ⟨hc, hl⟩ := cond_none hl
    simp only [Bool.and_eq_true, bne_iff_ne, ne_eq] at hc
    have hoff : f.offset = o := Nat.eq_of_beq_eq_true hc.2
    split at hl
    · rename_i la lb h1 h2
      obtain ⟨h3, hl⟩ := cond_none hl
      injection hl with hl
      subst hl
      simp only [Bool.and_eq_true] at h3
      have h4 : 1 ≤ la.length := Nat.le_of_ble_eq_true h3.2
      have h3 : la.length = P.cellsOf f.type := Nat.eq_of_beq_eq_true h3.1
      obtain ⟨p, q, hp, hq, rfl⟩ := eqCells_append he
      obtain ⟨⟨T, hT⟩, hone, hval⟩ := hrec f.type la h1
      have hlen := eqCells_length hp
      simp only [List.length_take, List.length_drop, Nat.min_def] at hlen
      have hxl : cs.length = xs.size := by simpa using hx.1
      have hyl : ds.length = ys.size := by simpa using hy.1
      have hpart1 := run_part (P := P) hT xs o (by split at hlen <;> split at hlen <;> omega) (fun hb => hone hb h3.symm) w
      have hpart2 := run_part (P := P) hT ys o (by split at hlen <;> split at hlen <;> omega) (fun hb => hone hb h3.symm) w
      have heq := hval _ _ _ _ p h3.symm ((hx.drop o).take la.length) ((hy.drop o).take la.length) hp
      rw [List.drop_drop, List.drop_drop, h3] at hq
      have ih := eqF_sound hx hy hrec fs (o + P.cellsOf f.type) lb q h2 hq
      simp only [Op.eqFields, ne_eq, hc.1, not_false_eq_true, if_true, Sem.run_bind, hoff, hpart1, hpart2, Result.andThen_ok]
      rw [h3] at heq
      rw [heq]
      simp only [Result.andThen_ok]
      cases p with
      | true => simpa using ih
      | false => simp
    · cases hl
theorem leaves_sound : ∀ (d : Nat) (t : TypeId) (ls : List TypeDesc), leaves P d t = some ls → (∃ T, P.underlying t = some T) ∧ (isAggB P t = false → P.cellsOf t = ls.length → P.cellsOf t = 1) ∧
    ∀ (e : Nat) (cs ds : List Sc) (xs ys : List Value) (r : Bool), P.cellsOf t = ls.length → R2 (CR pl) cs xs → R2 (CR pl) ds ys → eqCells ls cs ds = some r → (Op.equalIn (e + d) t (valOf P t xs) (valOf P t ys)).run P w = .ok r w
  | 0, t, ls, h => by simp [leaves] at h
  | d + 1, t, ls, h => by
    unfold leaves at h
    have scal : ∀ T, P.underlying t = some T → isAggB P t = false → ls = [T] → (∃ T, P.underlying t = some T) ∧ (isAggB P t = false → P.cellsOf t = ls.length → P.cellsOf t = 1) ∧
        ∀ (e : Nat) (cs ds : List Sc) (xs ys : List Value) (r : Bool), P.cellsOf t = ls.length → R2 (CR pl) cs xs → R2 (CR pl) ds ys → eqCells ls cs ds = some r → (Op.equalIn (e + (d + 1)) t (valOf P t xs) (valOf P t ys)).run P w = .ok r w := by
      intro T hT ha hl
      subst hl
      refine ⟨⟨T, hT⟩, fun _ hc => by simpa using hc, fun e cs ds xs ys r _ hx hy he => ?_⟩
      have h1 := eqCells_length he
      match cs, ds, h1, hx, hy, he with
      | [c], [c'], _, hx, hy, he =>
        obtain ⟨x, xs', rfl, hcx, hnil⟩ := hx.cons_inv
        have := hnil.nil_inv; subst this
        obtain ⟨y, ys', rfl, hcy, hnil⟩ := hy.cons_inv
        have := hnil.nil_inv; subst this
        simp only [eqCells] at he
        split at he
        · rename_i p q hp hq
          injection he with he
          injection hq with hq
          subst hq
          rw [Bool.and_true] at he
          subst he
          simp only [valOf, ha, Bool.false_eq_true, if_false, List.headD_cons]
          exact eqSc_sound hcx hcy hp (e + d) t hT
        · cases he
    split at h
    · rename_i hT; injection h with h; exact scal _ hT (by simp [isAggB, hT]) h.symm
    · rename_i k hT; injection h with h
      refine scal _ hT (by simp [isAggB, hT]) h.symm
    · rename_i hT; injection h with h; exact scal _ hT (by simp [isAggB, hT]) h.symm
    · rename_i fs hT
      obtain ⟨hs, h⟩ := cond_none h
      have ha : isAggB P t = true := by simp [isAggB, hT]
      refine ⟨⟨_, hT⟩, fun hb => (by rw [ha] at hb; cases hb), fun e cs ds xs ys r hc hx hy he => ?_⟩
      simp only [valOf, ha, if_true]
      have hfo : P.fieldsOf t = fs := by simp [Program.fieldsOf, hT]
      show (Op.equalIn ((e + d) + 1) t _ _).run P w = _
      rw [run_equalIn_struct w (e + d) t xs.toArray ys.toArray (by rw [hfo]; exact hT) (by simpa using hs), hfo]
      exact eqF_sound (xs := xs.toArray) (ys := ys.toArray) (cs := cs) (ds := ds) (by simpa using hx) (by simpa using hy)
        (fun t' ls' h' => let h1 := leaves_sound d t' ls' h'; ⟨h1.1, h1.2.1, fun cs ds xs ys r hc hx hy he => h1.2.2 e cs ds xs ys r hc hx hy he⟩) fs.toList 0 ls r h (by simpa using he)
    · cases h

/-! Two operands -/
theorem binK_sound {op : BinOp} {t : TypeId} {x y r : Fl} {v u : Value} (hx : FR pl x v) (hy : FR pl y u) (hk : binK P op t x y some = some r) (x' y' : Operand) :
    ∃ z, (eqGuard op t x' y' v u).run P w = .ok () w ∧ (binOp op t v u).run P w = .ok z w ∧ FR pl r z := by
  unfold binK at hk
  split at hk
  · rename_i ki a' kj b'
    have e1 := fr_int hx; have e2 := fr_int hy
    subst e1; subst e2
    have hg : (eqGuard op t x' y' (.int ki a') (.int kj b')).run P w = .ok () w := by
      unfold eqGuard
      cases op <;> simp
    split at hk
    · obtain ⟨hb, hk⟩ := cond_none' hk
      injection hk with hk; subst hk
      have hb : ¬ b' < 0 := by simpa using hb
      exact ⟨_, hg, by simp [binOp, Op.shift, hb], int_fr _ _⟩
    · obtain ⟨hb, hk⟩ := cond_none' hk
      injection hk with hk; subst hk
      have hb : ¬ b' < 0 := by simpa using hb
      exact ⟨_, hg, by simp [binOp, Op.shift, hb], int_fr _ _⟩
    · rename_i op' hne1 hne2
      obtain ⟨hk1, hk2⟩ := cond_none hk
      clear hk
      have hk3 : ki = kj := by simpa using hk1
      clear hk1
      subst hk3
      have hk := hk2
      clear hk2
      cases op
      case shl => exact absurd rfl hne1
      case shr => exact absurd rfl hne2
      case quo =>
        obtain ⟨hb0, hk0⟩ := cond_none' hk
        injection hk0 with hk0; subst hk0
        have hb : ¬ b' = 0 := by simpa using hb0
        exact ⟨_, hg, by simp only [binOp, Op.intDiv, if_neg hb, ne_eq, not_true_eq_false, if_false]; rfl, int_fr _ _⟩
      case rem =>
        obtain ⟨hb0, hk0⟩ := cond_none' hk
        injection hk0 with hk0; subst hk0
        have hb : ¬ b' = 0 := by simpa using hb0
        exact ⟨_, hg, by simp only [binOp, Op.intDiv, if_neg hb, ne_eq, not_true_eq_false, if_false]; rfl, int_fr _ _⟩
      all_goals first
        | (simp only [Option.some.injEq] at hk; subst hk; first
            | exact ⟨_, hg, by simp only [binOp, Op.intArith, Op.intBits, Op.intCmp, ne_eq, not_true_eq_false, if_false]; rfl, int_fr _ _⟩
            | exact ⟨_, hg, by simp only [binOp, Op.intArith, Op.intBits, Op.intCmp, ne_eq, not_true_eq_false, if_false]; rfl, bool_fr _⟩)
        | (simp at hk; done)
  · rename_i s s'
    have e1 := fr_str hx; have e2 := fr_str hy
    subst e1; subst e2
    have hg : (eqGuard op t x' y' (.string s) (.string s')).run P w = .ok () w := by
      unfold eqGuard
      cases op <;> simp
    split at hk
    · obtain ⟨hb, hk⟩ := cond_none' hk
      injection hk with hk; subst hk
      have hb : ¬ (((s.size + s'.size : Nat) : Int) > IntKind.i64.max) := by simpa using hb
      exact ⟨_, hg, by simp only [binOp, Op.stringOp, if_neg hb]; rfl, str_fr _⟩
    all_goals first
      | (injection hk with hk; subst hk; exact ⟨_, hg, by simp [binOp, Op.stringOp], bool_fr _⟩)
      | cases hk
  · rename_i b b'
    have e1 := fr_bool hx; have e2 := fr_bool hy
    subst e1; subst e2
    obtain ⟨hf, hk⟩ := cond_none hk
    have hg : (eqGuard op t x' y' (.bool b) (.bool b')).run P w = .ok () w := by
      unfold eqGuard
      cases op <;> simp
    have ht : P.underlying t = some .bool := by
      revert hf
      cases P.underlying t with
      | none => simp
      | some T => cases T <;> simp
    cases op <;> simp only [reduceCtorEq, Option.some.injEq] at hk
    · subst hk
      exact ⟨_, hg, by exact run_eql_bool w t b b' ht, bool_fr _⟩
    · subst hk
      exact ⟨_, hg, by exact run_neq_bool w t b b' ht, bool_fr _⟩
  · rename_i xs ys
    obtain ⟨vs, rfl, h1⟩ := hx
    obtain ⟨us, rfl, h2⟩ := hy
    obtain ⟨hc, hk⟩ := cond_none hk
    simp only [Bool.and_eq_true, Bool.not_eq_true'] at hc
    split at hk
    · rename_i ls hls
      have hg : (eqGuard op t x' y' (.agg vs) (.agg us)).run P w = .ok () w := run_eqGuard_agg w op t x' y' vs us hc.2
      have key : ∀ r, eqCells ls xs ys = some r → P.cellsOf t = ls.length → (Op.equalIn 10000 t (.agg vs) (.agg us)).run P w = .ok r w := fun r hr hcl => by
        have := (leaves_sound (P := P) (pl := pl) (w := w) 8 t ls hls).2.2 9992 xs ys vs.toList us.toList r hcl h1 h2 hr
        simpa [valOf, hc.1] using this
      obtain ⟨hcl, hk2⟩ := cond_none hk
      have hcl := Nat.eq_of_beq_eq_true hcl
      clear hk
      split at hk2
      · rename_i rr hr
        injection hk2 with hk2; subst hk2
        exact ⟨_, hg, by rw [run_eql_struct, key rr hr hcl]; rfl, bool_fr _⟩
      · rename_i rr hr
        injection hk2 with hk2; subst hk2
        exact ⟨_, hg, by rw [run_neq_struct, key rr hr hcl]; rfl, bool_fr _⟩
      · cases hk2
    · cases hk
  · cases hk
end
end Go.Abs
