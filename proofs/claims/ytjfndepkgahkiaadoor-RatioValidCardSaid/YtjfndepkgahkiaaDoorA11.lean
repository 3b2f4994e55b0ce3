/- EACH OPERATION OF THE MODEL DOES WHAT IS TOLD OF IT (eighth part: conversions, len, min, max, loads). -/
import Derived.Test.YtjfndepkgahkiaaDoorA10
import Derived.Laws.BytesString
set_option linter.unusedVariables false
set_option linter.unusedSimpArgs false
namespace Go.Abs
open Go.RowKit
section
variable {C : Codec} {P : Program} {G : C.Good P} {w0 : Base C} {σ : St C} {as : List Act} {a : Act} {w : World} {pl : Pl} {n : Nat} {H : Nat → Blk C} {o : Oper} {r : Res C}

theorem push_bytes : ∀ (ns : List Int) (r : ByteArray), ns.foldl (fun r n => r.push (UInt8.ofNat n.toNat)) r = ⟨r.data ++ (ns.map fun n => UInt8.ofNat n.toNat).toArray⟩
  | [], r => by simp
  | n :: ns, r => by
    rw [List.foldl_cons, push_bytes ns]
    congr 1
    apply Array.ext'
    simp [ByteArray.push]
theorem flat_bytes {e : TypeId} {ns : List Int} : ∀ {l : List (C.Elt e)}, l.map (C.enc e) = ns.map (fun n => [Sc.int .u8 n]) → flat C e l = ns.map (Value.int .u8) := by
  induction ns with
  | nil => intro l h; simp at h; subst h; rfl
  | cons m ns ih =>
    intro l h
    cases l with
    | nil => simp at h
    | cons x l =>
      simp only [List.map_cons, List.cons.injEq] at h
      rw [flat_cons, ih h.2, h.1]
      rfl
theorem out_convert_read (h : Rel G w0 σ as a w pl) (hS : Seen H σ.blk) {s d : TypeId} {x : Operand} (ho : o.op = .convert s d x) (hk : coreK P n H (.convert s d x) [σ.ev x] some = some r)
    (hne : ∀ (s0 : ByteArray) e, σ.ev x = .fl (.one (.str s0)) → P.underlying d ≠ some (.slice e)) (hns : ∀ b e e', σ.ev x = .fl (.one (.sl b)) → P.underlying s = some (.slice e) → P.underlying d ≠ some (.slice e')) : Out G w0 σ as a w o r := by
  have hx := ev_avr h x
  generalize σ.ev x = ax at hk hx hne hns
  rcases ax with (sc | _) | _ | _ <;> try (exfalso; simp [coreK] at hk; done)
  simp only [coreK] at hk
  split at hk
  · rename_i k i ks kd hs hd
    injection hk with hk; subst hk
    refine out_pure h (v := .int kd (kd.wrap i)) ?_ (int_fr _ _)
    simp only [execOp, ho, fr_int hx]
    simp [convert, run_underlying hs, run_underlying hd, Conv.intToInt]
  · rename_i s0 hs hd
    injection hk with hk; subst hk
    refine out_pure h (v := .string s0) ?_ (str_fr _)
    simp only [execOp, ho, fr_str hx]
    simp [convert, run_underlying hs, run_underlying hd]
  · rename_i e hs hd
    split at hk
    · rename_i he
      injection hk with hk; subst hk
      refine out_pure h (v := .string ByteArray.empty) ?_ (str_fr _)
      simp only [execOp, ho, fr_nsl hx]
      simp [convert, run_underlying hs, run_underlying hd, run_underlying he, Conv.bytesToString]
    · cases hk
  · rename_i s0 e hs hd
    exact absurd hd (hne s0 e rfl)
  · rename_i sc' e hs hd
    split at hk
    · rename_i b e' xs he hrow
      obtain ⟨h1, hk2⟩ := cond_none hk
      clear hk
      have h1 := Nat.eq_of_beq_eq_true h1
      subst h1
      split at hk2
      · rename_i f hf
        injection hk2 with hk2; subst hk2
        obtain ⟨_, _, hhas, ao, c, c0, hv, _, _, _, hnone, hr⟩ := rowOf_info hS h.mem hx hrow
        obtain ⟨h2, h3⟩ := G.str _ f hf
        obtain ⟨ns, h4, h5⟩ := h3 xs
        refine out_pure h (v := .string (f xs)) ?_ (str_fr _)
        simp only [execOp, ho, hv]
        rw [Sem.run_bind, run_convert_bytes_string w s d _ ao xs.length c hs he hd]
        have hlen : xs.length = ns.length := by have := congrArg List.length h4; simpa using this
        cases ao with
        | none =>
          rcases hr with hr | ⟨ad, e, _⟩
          · have : ns = [] := by
              rw [flat_bytes h4] at hr
              simpa using hr
            subst this
            rw [h5]
            simp [Conv.bytesToString]
            rfl
          · cases e
        | some ad =>
          have hcells : (loadCells ad xs.length).run P w = .ok (ns.map (Value.int .u8)).toArray w := by
            have := run_loadCells_list (P := P) w ad (ns.map (Value.int .u8)) (fun j u hu => by
              rcases hr with hr | ⟨ad', e, hr⟩
              · rw [flat_bytes h4] at hr; rw [hr] at hu; cases hu
              · injection e with e; subst e
                rw [← flat_bytes h4] at hu
                exact hr j u hu)
            simpa [hlen] using this
          rw [run_bytesToString w ad xs.length c ns hcells, h5, push_bytes]
          simp
      · cases hk2
    · cases hk
  · rename_i b e1 e2 hs hd
    exact absurd hd (hns b _ _ rfl hs)
  · cases hk
theorem out_len (h : Rel G w0 σ as a w pl) (hS : Seen H σ.blk) {c : Call} {x : Operand} (ho : o.op = .call c) (hc : c.callee = .builtin .len) (hx : c.args = #[x]) (hk : coreK P n H (.call c) [σ.ev x] some = some r) : Out G w0 σ as a w o r := by
  obtain ⟨callee, args, argTypes⟩ := c
  simp only at hc hx
  subst hc; subst hx
  have hx := ev_avr h x
  generalize σ.ev x = ax at hk hx
  rcases ax with (s | _) | _ | _ <;> try (exfalso; simp [coreK] at hk; done)
  simp only [coreK] at hk
  have key : ∀ (t : TypeId) (d : TypeDesc) (m : Nat), argTypes[0]? = some t → P.underlying t = some d → ((d = .string ∧ ∃ s0, a.eval x = .string s0 ∧ s0.size = m) ∨ (∃ e a0 c0, d = .slice e ∧ a.eval x = .slice a0 m c0)) → Out G w0 σ as a w o { v := .int .i64 m } := by
    intro t d m h1 h2 h3
    refine out_pure h (v := .int .i64 m) ?_ (int_fr _ _)
    rcases h3 with ⟨rfl, s0, h3, rfl⟩ | ⟨e, a0, c0, rfl, h3⟩
    · simp [execOp, ho, resolve, invoke, builtin, Builtin.len_, h1, run_underlying h2, h3, goInt]
    · simp [execOp, ho, resolve, invoke, builtin, Builtin.len_, h1, run_underlying h2, h3, goInt]
  have tt : ∀ d, (argTypes[0]?).bind P.underlying = some d → ∃ t, argTypes[0]? = some t ∧ P.underlying t = some d := fun d hd => by
    cases ht : argTypes[0]? with
    | none => rw [ht] at hd; cases hd
    | some t => rw [ht] at hd; exact ⟨t, rfl, hd⟩
  split at hk
  · rename_i s0 hd
    injection hk with hk; subst hk
    obtain ⟨t, h1, h2⟩ := tt _ hd
    exact key t _ _ h1 h2 (.inl ⟨rfl, s0, fr_str hx, rfl⟩)
  · rename_i e hd
    injection hk with hk; subst hk
    obtain ⟨t, h1, h2⟩ := tt _ hd
    exact key t _ 0 h1 h2 (.inr ⟨e, none, 0, rfl, fr_nsl hx⟩)
  · rename_i sc e hneg hd
    split at hk
    · rename_i b e' xs hrow
      injection hk with hk; subst hk
      obtain ⟨t, h1, h2⟩ := tt _ hd
      obtain ⟨_, _, hhas, ao, c, c0, hv, _⟩ := rowOf_info hS h.mem hx hrow
      exact key t _ _ h1 h2 (.inr ⟨e, ao, c, rfl, hv⟩)
    · cases hk
  · cases hk
theorem minK_sound {k : IntKind} : ∀ {xs : List AV} {vs : List Value} {i j : Int}, R2 (AVR pl) xs vs → minK k i xs = some j → (vs.foldlM Builtin.min2 (.int k i)).run P w = .ok (.int k j) w
  | [], vs, i, j, h, hk => by
    have := h.nil_inv; subst this
    simp only [minK, Option.some.injEq] at hk; subst hk
    rfl
  | x :: xs, vs, i, j, h, hk => by
    obtain ⟨v, vs', rfl, hv, h'⟩ := h.cons_inv
    rcases x with (s | _) | _ | _ <;> try (exfalso; simp [minK] at hk; done)
    cases s <;> try (exfalso; simp [minK] at hk; done)
    simp only [minK] at hk
    obtain ⟨h1, h2⟩ := cond_none hk
    have := fr_int hv; subst this
    simp only [List.foldlM_cons, Builtin.min2, Sem.run_bind, Sem.run_pure, Result.andThen_ok]
    exact minK_sound h' h2
theorem maxK_sound {k : IntKind} : ∀ {xs : List AV} {vs : List Value} {i j : Int}, R2 (AVR pl) xs vs → maxK k i xs = some j → (vs.foldlM Builtin.max2 (.int k i)).run P w = .ok (.int k j) w
  | [], vs, i, j, h, hk => by
    have := h.nil_inv; subst this
    simp only [maxK, Option.some.injEq] at hk; subst hk
    rfl
  | x :: xs, vs, i, j, h, hk => by
    obtain ⟨v, vs', rfl, hv, h'⟩ := h.cons_inv
    rcases x with (s | _) | _ | _ <;> try (exfalso; simp [maxK] at hk; done)
    cases s <;> try (exfalso; simp [maxK] at hk; done)
    simp only [maxK] at hk
    obtain ⟨h1, h2⟩ := cond_none hk
    have := fr_int hv; subst this
    simp only [List.foldlM_cons, Builtin.max2, Sem.run_bind, Sem.run_pure, Result.andThen_ok]
    exact maxK_sound h' h2
theorem out_minmax (h : Rel G w0 σ as a w pl) {c : Call} (ho : o.op = .call c) (hc : c.callee = .builtin .min ∨ c.callee = .builtin .max) (hk : coreK P n H (.call c) (c.args.toList.map σ.ev) some = some r) : Out G w0 σ as a w o r := by
  obtain ⟨callee, args, argTypes⟩ := c
  simp only at hc hk
  have hv := vals_avr h args.toList
  have hargs : (args.map a.eval).toList = args.toList.map a.eval := by simp
  generalize hxs : args.toList.map σ.ev = xs at hk hv
  rcases hc with rfl | rfl
  · rcases xs with _ | ⟨x, xs⟩ <;> try (exfalso; simp [coreK] at hk; done)
    rcases x with (s | _) | _ | _ <;> try (exfalso; simp [coreK] at hk; done)
    cases s <;> try (exfalso; simp [coreK] at hk; done)
    rename_i k i
    simp only [coreK] at hk
    split at hk
    · rename_i j hj
      injection hk with hk; subst hk
      obtain ⟨v, vs, hvs, hv1, hv2⟩ := hv.cons_inv
      have := fr_int hv1; subst this
      refine out_pure h (v := .int k j) ?_ (int_fr _ _)
      simp only [execOp, ho, resolve, invoke, builtin, Builtin.min_, Sem.run_bind, Sem.run_pure, Result.andThen_ok, hargs, hvs, minK_sound hv2 hj]
    · cases hk
  · rcases xs with _ | ⟨x, xs⟩ <;> try (exfalso; simp [coreK] at hk; done)
    rcases x with (s | _) | _ | _ <;> try (exfalso; simp [coreK] at hk; done)
    cases s <;> try (exfalso; simp [coreK] at hk; done)
    rename_i k i
    simp only [coreK] at hk
    split at hk
    · rename_i j hj
      injection hk with hk; subst hk
      obtain ⟨v, vs, hvs, hv1, hv2⟩ := hv.cons_inv
      have := fr_int hv1; subst this
      refine out_pure h (v := .int k j) ?_ (int_fr _ _)
      simp only [execOp, ho, resolve, invoke, builtin, Builtin.max_, Sem.run_bind, Sem.run_pure, Result.andThen_ok, hargs, hvs, maxK_sound hv2 hj]
    · cases hk
end
end Go.Abs
