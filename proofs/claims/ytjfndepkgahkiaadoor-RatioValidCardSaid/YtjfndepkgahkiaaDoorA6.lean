/- EACH OPERATION OF THE MODEL DOES WHAT IS TOLD OF IT (third part: values, addresses, reads). -/
import Derived.Test.YtjfndepkgahkiaaDoorA5
import Derived.Deep.OwnRows
set_option linter.unusedVariables false
set_option linter.unusedSimpArgs false
namespace Go.Abs
open Go.RowKit
section
variable {C : Codec} {P : Program} {G : C.Good P} {w0 : Base C} {σ : St C} {as : List Act} {a : Act} {w : World} {pl : Pl} {n : Nat} {H : Nat → Blk C} {o : Oper} {r : Res C}

/-! ### What is told of a row -/
theorem flat_len (G : C.Good P) {e : TypeId} (he : C.has e = true) (xs : List (C.Elt e)) : (flat C e xs).length = xs.length * C.sz e := by
  induction xs with
  | nil => simp [flat]
  | cons x xs ih =>
    have h1 : flat C e (x :: xs) = (C.enc e x).map Sc.val ++ flat C e xs := by simp [flat]
    rw [h1, List.length_append, ih, List.length_map, G.len e x he, List.length_cons, Nat.add_mul, Nat.one_mul, Nat.add_comm]
theorem flat_cons (e : TypeId) (x : C.Elt e) (xs : List (C.Elt e)) : flat C e (x :: xs) = (C.enc e x).map Sc.val ++ flat C e xs := by simp [flat]
theorem flat_append (e : TypeId) (xs ys : List (C.Elt e)) : flat C e (xs ++ ys) = flat C e xs ++ flat C e ys := by simp [flat]
/-- Cell j of element i. -/
theorem flat_get (G : C.Good P) {e : TypeId} (he : C.has e = true) : ∀ (xs : List (C.Elt e)) (i j : Nat) (d : C.Elt e), i < xs.length → j < C.sz e → (flat C e xs)[i * C.sz e + j]? = ((C.enc e (xs.getD i d)).map Sc.val)[j]?
  | [], i, j, d, hi, _ => by simp at hi
  | x :: xs, 0, j, d, hi, hj => by
    rw [flat_cons, Nat.zero_mul, Nat.zero_add, List.getElem?_append_left (by rw [List.length_map, G.len e x he]; exact hj)]
    rfl
  | x :: xs, i + 1, j, d, hi, hj => by
    have hl : ((C.enc e x).map Sc.val).length = C.sz e := by rw [List.length_map, G.len e x he]
    rw [flat_cons, Nat.add_mul, Nat.one_mul, List.getElem?_append_right (by rw [hl]; omega), hl]
    have : i * C.sz e + C.sz e + j - C.sz e = i * C.sz e + j := by omega
    rw [this, flat_get G he xs i j d (by simpa using hi) hj]
    rfl
theorem plain_cr {s : Sc} (h : scPlain s = true) : CR pl s s.val := by
  cases s <;> simp [scPlain] at h <;> exact ⟨rfl, rfl⟩
theorem plain_one {s : Sc} (h : scPlain s = true) : s.val.oneCell' = true := (plain_cr (pl := fun _ => none) h).2
theorem flat_one (G : C.Good P) {e : TypeId} (he : C.has e = true) (xs : List (C.Elt e)) : ∀ u ∈ flat C e xs, u.oneCell' = true := by
  intro u hu
  simp only [flat, List.mem_flatMap, List.mem_map] at hu
  obtain ⟨x, _, s, hs, rfl⟩ := hu
  exact plain_one (List.all_eq_true.1 (G.plain e x he) s hs)
theorem plain_cells {cs : List Sc} (h : cs.all scPlain = true) : R2 (CR pl) cs (cs.map Sc.val) :=
  ⟨by simp, fun i x y hx hy => by
    rw [List.getElem?_map, hx] at hy
    injection hy with hy
    subst hy
    exact plain_cr (List.all_eq_true.1 h x (List.mem_of_getElem? hx))⟩

theorem own_reads' {base : Nat} {e : TypeId} {sz n : Nat} {v : Value} {xs : List Value} (h : w.ownsRow base e sz v n xs) : ∃ a c, v = .slice a n c ∧ n ≤ c ∧ n ≤ 9223372036854775807 ∧ (a = none → c = 0) ∧ (∀ ad, a = some ad → ad.block < w.heap.size ∧ ad.off = 0 ∧ ad.spot = none) ∧ Reads w a xs := by
  have hl := h.1
  rcases h.2 with ⟨rfl, rfl⟩ | ⟨g, cap, cur, rfl, hb, hh, h1, h2, h3, h4⟩
  · refine ⟨none, 0, rfl, Nat.le_refl _, by omega, fun _ => rfl, (fun ad hd => by cases hd), .inl ?_⟩
    exact List.eq_nil_of_length_eq_zero (by simpa using hl)
  · refine ⟨_, cap, rfl, h1, Nat.le_trans h1 h2, (fun hd => by cases hd), (fun ad hd => by injection hd with hd; subst hd; exact ⟨(Array.getElem?_eq_some_iff.1 hh).1, rfl, rfl⟩), .inr ⟨_, rfl, fun j u hu => ?_⟩⟩
    have hj : j < n * sz := by rw [← hl]; exact (List.getElem?_eq_some_iff.1 hu).1
    rw [Addr.add_mid, Nat.zero_add, h.cellAt (g := g) j hj]
    exact hu
theorem row_info (hm : Mem G w0 pl σ.blk w) {b : Nat} {e : TypeId} {ow : Bool} {xs : List (C.Elt e)} (hb : σ.blk b = .row e ow xs) :
    C.has e = true ∧ ∃ a c, pl b = some (.slice a xs.length c) ∧ xs.length ≤ c ∧ xs.length ≤ 9223372036854775807 ∧ (a = none → c = 0) ∧ Reads w a (flat C e xs) := by
  have h := hm.blk b
  rw [hb] at h
  cases ow with
  | true =>
    obtain ⟨he, v, h1, h2⟩ := h
    obtain ⟨a, c, rfl, h3, h4, h5, _, h6⟩ := own_reads' h2
    exact ⟨he, a, c, h1, h3, h4, h5, h6⟩
  | false =>
    obtain ⟨he, a, c, h1, h2, h3, h4, _, h6⟩ := h
    exact ⟨he, a, c, h1, h2, h3, h4, h6⟩
theorem view_eq {σ : St C} {op : Op} {vs : List AV} {b : Nat} (h : σ.view op vs b ≠ .gone) : σ.view op vs b = σ.blk b := by
  unfold St.view at h ⊢
  cases hc : looks op && memN b (σ.reach op (vs.flatMap AV.ment)) with
  | true => rfl
  | false => rw [hc] at h; exact absurd rfl h
/-- What is looked at is what is told. -/
def Seen (H H' : Nat → Blk C) : Prop := ∀ b, H b ≠ .gone → H b = H' b
theorem seen_view (σ : St C) (op : Op) (vs : List AV) : Seen (σ.view op vs) σ.blk := fun b h => view_eq h
theorem Seen.row {H H' : Nat → Blk C} (h : Seen H H') {b : Nat} {e : TypeId} {ow : Bool} {xs : List (C.Elt e)} (hb : H b = .row e ow xs) : H' b = .row e ow xs := by
  rw [← h b (by rw [hb]; intro hh; cases hh), hb]
theorem Seen.box {H H' : Nat → Blk C} (h : Seen H H') {b : Nat} {t : TypeId} {cs : List Sc} (hb : H b = .box t cs) : H' b = .box t cs := by
  rw [← h b (by rw [hb]; intro hh; cases hh), hb]
/-- A slice that is told, as a value. -/
theorem rowOf_info (hs : Seen H σ.blk) (hm : Mem G w0 pl σ.blk w) {s : Sc} {v : Value} {b : Nat} {e : TypeId} {xs : List (C.Elt e)} (hv : FR pl (.one s) v) (h : rowOf H s = some (b, ⟨e, xs⟩)) :
    (s = .sl b ∨ s = .tsl b) ∧ (∃ ow, σ.blk b = .row e ow xs) ∧ C.has e = true ∧ ∃ a c c0, v = .slice a xs.length c ∧ pl b = some (.slice a xs.length c0) ∧ xs.length ≤ c ∧ xs.length ≤ 9223372036854775807 ∧ (a = none → c = 0) ∧ Reads w a (flat C e xs) := by
  unfold rowOf at h
  split at h
  · rename_i b'
    split at h
    · rename_i e' ow xs' hb
      simp only [Option.some.injEq, Prod.mk.injEq] at h
      obtain ⟨rfl, h⟩ := h
      cases h
      have hb' := hs.row hb
      obtain ⟨he, a, c, h1, h2, h3, h4, h5⟩ := row_info hm hb'
      obtain ⟨a', n', c', h6, rfl⟩ := fr_sl hv
      rw [h1] at h6
      injection h6 with h6
      injection h6 with h6 h7 h8
      subst h6; subst h7; subst h8
      exact ⟨.inl rfl, ⟨ow, hb'⟩, he, a, c, c, rfl, h1, h2, h3, h4, h5⟩
    · cases h
  · rename_i b'
    split at h
    · rename_i e' ow xs' hb
      simp only [Option.some.injEq, Prod.mk.injEq] at h
      obtain ⟨rfl, h⟩ := h
      cases h
      have hb' := hs.row hb
      obtain ⟨he, a, c, h1, h2, h3, h4, h5⟩ := row_info hm hb'
      obtain ⟨a', n', c', h6, rfl⟩ := fr_tsl hv
      rw [h1] at h6
      injection h6 with h6
      injection h6 with h6 h7 h8
      subst h6; subst h7; subst h8
      refine ⟨.inr rfl, ⟨ow, hb'⟩, he, a, _, c, rfl, h1, Nat.le_refl _, h3, fun ha => ?_, h5⟩
      have := h4 ha
      omega
    · cases h
  · cases h

/-! ### Operations without memory -/
theorem unK_sound {op : UnOp} {x r : Fl} {v : Value} (hx : FR pl x v) (hk : unK op x some = some r) : ∃ z, (Op.unary op v).run P w = .ok z w ∧ FR pl r z := by
  unfold unK at hk
  split at hk
  · have := fr_int hx; subst this
    simp only [Option.some.injEq] at hk; subst hk
    exact ⟨_, rfl, int_fr _ _⟩
  · have := fr_int hx; subst this
    simp only [Option.some.injEq] at hk; subst hk
    exact ⟨_, rfl, int_fr _ _⟩
  · have := fr_bool hx; subst this
    simp only [Option.some.injEq] at hk; subst hk
    exact ⟨_, rfl, bool_fr _⟩
  · cases hk
theorem ty_info {t : TypeId} {d : TypeDesc} (h : P.underlying t = some d) : ∃ i, P.info? t = some i ∧ P.cellsOf t = i.size ∧ P.bytesOf t = i.bytes := by
  cases hi : P.info? t with
  | none => simp [Program.underlying, hi] at h
  | some i => exact ⟨i, rfl, by simp [Program.cellsOf, hi], by simp [Program.bytesOf, hi]⟩
theorem run_sizeOf {t : TypeId} {i : TypeInfo} (h : P.info? t = some i) (w : World) : (sizeOf t).run P w = .ok i.size w := by simp [sizeOf, typeInfo, h]
theorem fieldOf_spec {t : TypeId} {j off : Nat} {ft : TypeId} (h : fieldOf P t j = some (off, ft)) : ∃ fs f, P.underlying t = some (.struct fs) ∧ fs[j]? = some f ∧ f.offset = off ∧ f.type = ft := by
  unfold fieldOf at h
  split at h
  · rename_i fs hfs
    cases hf : fs[j]? with
    | none => rw [hf] at h; cases h
    | some f =>
      rw [hf] at h
      simp only [Option.map_some, Option.some.injEq, Prod.mk.injEq] at h
      exact ⟨fs, f, hfs, hf, h.1, h.2⟩
  · cases h
/-- Some cells, cut out, are a value of the type. -/
theorem cut_sound {t : TypeId} {cs : List Sc} {vs : List Value} {off : Nat} {x : Fl} (h : R2 (CR pl) cs vs) (hk : cut P t cs off = some x) :
    ∃ T, P.underlying t = some T ∧ off + P.cellsOf t ≤ vs.length ∧ FR pl x (valOf P t ((vs.drop off).take (P.cellsOf t))) ∧
    (isAggB P t = false → P.cellsOf t = 1 ∧ ∃ v, vs[off]? = some v ∧ valOf P t ((vs.drop off).take (P.cellsOf t)) = v) := by
  unfold cut at hk
  have h1 := (h.drop off).take (P.cellsOf t)
  split at hk
  · cases hk
  rename_i T hT
  refine ⟨T, hT, ?_⟩
  split at hk
  · rename_i hb
    obtain ⟨h2, hk⟩ := cond_none hk
    injection hk with hk; subst hk
    simp only [Bool.and_eq_true] at h2
    have h3 : ((vs.drop off).take (P.cellsOf t)).length = P.cellsOf t := by rw [← h1.1]; exact Nat.eq_of_beq_eq_true h2.1
    have h4 : 1 ≤ ((cs.drop off).take (P.cellsOf t)).length := Nat.le_of_ble_eq_true h2.2
    rw [h1.1, h3] at h4
    simp only [List.length_take, List.length_drop, Nat.min_def] at h3
    refine ⟨by split at h3 <;> omega, ⟨_, (by simp only [valOf, hb, if_true]; rfl), by simpa using h1⟩, fun hf => by rw [hb] at hf; cases hf⟩
  · rename_i s hb he
    obtain ⟨hc1, hk⟩ := cond_none hk
    have hc1 := Nat.eq_of_beq_eq_true hc1
    injection hk with hk; subst hk
    rw [he] at h1
    obtain ⟨v, l, hl, hv, hnil⟩ := h1.cons_inv
    have := hnil.nil_inv; subst this
    have h5 : ((vs.drop off).take (P.cellsOf t)).length = 1 := by rw [hl]; rfl
    simp only [List.length_take, List.length_drop, Nat.min_def, hc1] at h5
    have hat : vs[off]? = some v := by
      have : ((vs.drop off).take (P.cellsOf t))[0]? = some v := by rw [hl]; rfl
      rw [List.getElem?_take] at this
      split at this
      · rw [List.getElem?_drop, Nat.add_zero] at this; exact this
      · cases this
    have hval : valOf P t ((vs.drop off).take (P.cellsOf t)) = v := by rw [hl]; simp only [valOf, hb, Bool.false_eq_true, if_false, List.headD_cons]
    refine ⟨by rw [hc1]; split at h5 <;> omega, by rw [hval]; exact FR.one hv, fun _ => ⟨hc1, v, hat, hval⟩⟩
  · cases hk
theorem cut_fr {t : TypeId} {cs : List Sc} {vs : List Value} {off : Nat} {x : Fl} (h : R2 (CR pl) cs vs) (hk : cut P t cs off = some x) : FR pl x (valOf P t ((vs.drop off).take (P.cellsOf t))) := by
  obtain ⟨T, _, _, h1, _⟩ := cut_sound h hk
  exact h1
end
end Go.Abs
