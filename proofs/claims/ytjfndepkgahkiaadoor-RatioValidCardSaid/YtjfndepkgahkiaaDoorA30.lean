/- THE ARGUMENTS OF A LAW, OPENED: what is read of them, as told values. -/
import Derived.Test.YtjfndepkgahkiaaDoorA29
import Derived.ProofKit
import Derived.SizedLaws
import Derived.DataElems
import Derived.ChangeArms
import Derived.OpenShut
set_option linter.unusedVariables false
set_option linter.unusedSimpArgs false
namespace Go.Abs
open Go.RowKit
section
variable {C : Codec} {P : Program} {w : World} {H : Type} {enc : TypeId × Value → H} {base : Nat} {spare : Nat → Bool} {held : Bool}

/-- A cell of a type. -/
def Suits : TypeDesc → Sc → Prop
  | .int k, .int k' n => k' = k ∧ k.min ≤ n ∧ n ≤ k.max
  | .bool, .bool _ => True
  | .string, .str s => s.size ≤ 140737488351232
  | _, _ => False
def SuitAll : List TypeDesc → List Sc → Prop
  | [], [] => True
  | T :: Ts, s :: r => Suits T s ∧ SuitAll Ts r
  | _, _ => False
/-- The cells' types of a type of plain cells. -/
def tysF (P : Program) (rec : TypeId → Option (List TypeDesc)) : Nat → List Field → Option (List TypeDesc)
  | _, [] => some []
  | o, f :: r => cond (Nat.beq f.offset o) (match rec f.type, tysF P rec (o + P.cellsOf f.type) r with
    | some a, some b => cond (Nat.beq a.length (P.cellsOf f.type)) (some (a ++ b)) none
    | _, _ => none) none
def tys (P : Program) : Nat → TypeId → Option (List TypeDesc)
  | 0, _ => none
  | d + 1, t => match P.underlying t with
    | some .bool => some [.bool]
    | some (.int k) => some [.int k]
    | some .string => some [.string]
    | some (.struct fs) => match tysF P (tys P d) 0 fs.toList with
      | some l => cond (Nat.beq l.length (P.cellsOf t)) (some l) none
      | none => none
    | _ => none
theorem SuitAll.length : ∀ {ls : List TypeDesc} {ss : List Sc}, SuitAll ls ss → ss.length = ls.length
  | [], [], _ => rfl
  | _ :: _, _ :: _, h => by simp [SuitAll.length h.2]
  | [], _ :: _, h => h.elim
  | _ :: _, [], h => h.elim
theorem SuitAll.append : ∀ {l1 l2 : List TypeDesc} {s1 s2 : List Sc}, SuitAll l1 s1 → SuitAll l2 s2 → SuitAll (l1 ++ l2) (s1 ++ s2)
  | [], _, [], _, _, h => h
  | _ :: _, _, _ :: _, _, h, h' => ⟨h.1, SuitAll.append h.2 h'⟩
  | [], _, _ :: _, _, h, _ => h.elim
  | _ :: _, _, [], _, h, _ => h.elim
theorem Suits.plain {T : TypeDesc} {s : Sc} (h : Suits T s) : scPlain s = true := by
  cases s <;> first | rfl | (cases T <;> exact h.elim)
theorem SuitAll.plain : ∀ {ls : List TypeDesc} {ss : List Sc}, SuitAll ls ss → ss.all scPlain = true
  | [], [], _ => rfl
  | _ :: _, s :: _, h => by simp [h.1.plain, SuitAll.plain h.2]
  | [], _ :: _, h => h.elim
  | _ :: _, [], h => h.elim
abbrev Light (P : Program) (t : TypeId) (d : DataW H) : Prop := ∀ n, n ∈ d.weights P t → n ≤ 140737488351232
theorem tysF_open {n : Nat} {cs : List Value} {rec : TypeId → Option (List TypeDesc)}
    (hrec : ∀ t ls cs x, rec t = some ls → DataW.trod enc P w base spare held n t cs = some x → Light P t x.1 → ∃ ss, cs = ss.map Sc.val ∧ SuitAll ls ss) :
    ∀ (fs : List Field) (o : Nat) (ls : List TypeDesc) (xs : List (DataW H × List MemPlace)), tysF P rec o fs = some ls → xs.length = fs.length → (∀ (i : Nat) (f : Field), fs[i]? = some f → DataW.trod enc P w base spare held n f.type ((cs.drop f.offset).take (P.cellsOf f.type)) = xs[i]?) →
      (∀ m, m ∈ DataW.weightsEach P (fs.map (·.type)) (xs.map (·.1)) → m ≤ 140737488351232) → ∃ ss, (cs.drop o).take ls.length = ss.map Sc.val ∧ SuitAll ls ss
  | [], o, ls, xs, h, _, _, _ => by
    simp only [tysF, Option.some.injEq] at h; subst h
    exact ⟨[], by simp, trivial⟩
  | f :: fs, o, ls, xs, h, hl, hx, hw => by
    simp only [tysF] at h
    obtain ⟨h1, h2⟩ := cond_none h
    have h1 := Nat.eq_of_beq_eq_true h1
    split at h2
    · rename_i la lb ha hb
      obtain ⟨h3, h4⟩ := cond_none h2
      injection h4 with h4; subst h4
      have h3 := Nat.eq_of_beq_eq_true h3
      match xs, hl with
      | x :: xs, hl =>
        have hx0 := hx 0 f rfl
        simp only [List.getElem?_cons_zero] at hx0
        simp only [List.map_cons, DataW.weightsEach, List.mem_append] at hw
        obtain ⟨s1, e1, e2⟩ := hrec f.type la _ x ha hx0 (fun m hm => hw m (.inl hm))
        obtain ⟨s2, e3, e4⟩ := tysF_open hrec fs (o + P.cellsOf f.type) lb xs hb (by simpa using hl) (fun i g hg => by
          have := hx (i + 1) g (by simpa using hg)
          simpa using this) (fun m hm => hw m (.inr hm))
        refine ⟨s1 ++ s2, ?_, e2.append e4⟩
        rw [List.map_append, ← e1, ← e3, List.length_append, h3, h1, List.take_add, List.drop_drop]
    · cases h2
theorem tys_open : ∀ (d : Nat) (t : TypeId) (ls : List TypeDesc), tys P d t = some ls → ∀ (n : Nat) (cs : List Value) (x : DataW H × List MemPlace), DataW.trod enc P w base spare held n t cs = some x → Light P t x.1 → ∃ ss, cs = ss.map Sc.val ∧ SuitAll ls ss
  | 0, t, ls, h => by simp [tys] at h
  | d + 1, t, ls, h => by
    intro n cs x hx hw
    unfold tys at h
    split at h
    · rename_i ht
      injection h with h; subst h
      obtain ⟨b, rfl, _⟩ := DataW.trod_bool ht hx
      exact ⟨[.bool b], rfl, trivial, trivial⟩
    · rename_i k ht
      injection h with h; subst h
      obtain ⟨m, rfl, _, hwf⟩ := DataW.trod_int ht hx
      simp only [Lit.wf, Bool.and_eq_true, decide_eq_true_eq] at hwf
      exact ⟨[.int k m], rfl, ⟨rfl, hwf⟩, trivial⟩
    · rename_i ht
      injection h with h; subst h
      obtain ⟨s, rfl, hd, _⟩ := DataW.trod_string ht hx
      refine ⟨[.str s], rfl, ?_, trivial⟩
      have := hw s.data.toList.length (by rw [hd]; simp [DataW.weights])
      rw [Array.length_toList] at this
      exact this
    · rename_i fs ht
      split at h
      · rename_i l hl
        obtain ⟨h1, h2⟩ := cond_none h
        injection h2 with h2; subst h2
        have h1 := Nat.eq_of_beq_eq_true h1
        obtain ⟨xs, m, _, hxe, hlen, hxl, hf⟩ := DataW.trod_struct ht hx
        obtain ⟨ss, e1, e2⟩ := tysF_open (n := m) (fun t' ls' cs' x' h' hx' hw' => tys_open d t' ls' h' m cs' x' hx' hw') fs.toList 0 l xs hl (by simpa using hxl) (fun i f hi => hf i f (by simpa using hi)) (fun k hk => hw k (by
          rw [hxe]
          simp only [DataW.weights, ht]
          exact hk))
        refine ⟨ss, ?_, e2⟩
        rw [← e1, List.drop_zero, h1, ← hlen, List.take_length]
      · cases h
    · cases h

/-! ### One argument -/
inductive ArgK where
  | one (T : TypeDesc)
  | agg (ls : List TypeDesc)
  | row (e : TypeId) (ls : List TypeDesc)
def kindOf (C : Codec) (P : Program) (t : TypeId) : Option ArgK := match P.underlying t with
  | some (.slice e) => cond (C.has e) ((tys P 8 e).map (.row e)) none
  | some (.struct _) => (tys P 8 t).map .agg
  | _ => match tys P 8 t with
    | some [T] => some (.one T)
    | _ => none
def Told (C : Codec) (P : Program) : ArgK → RV C → Prop
  | .one T, .fl (.one s) => Suits T s
  | .agg ls, .fl (.agg cs) => SuitAll ls cs
  | .row e ls, .row e' xs => e' = e ∧ (∀ x, x ∈ xs → SuitAll ls (C.enc e' x)) ∧ xs.length * P.bytesOf e' ≤ 140737488351232
  | _, _ => False
/-- Each list of cells of an element's type is an element. -/
def Full (C : Codec) (P : Program) : Prop := ∀ e ls ss, C.has e = true → tys P 8 e = some ls → SuitAll ls ss → ∃ x, C.enc e x = ss
theorem choose_list {α : Type} {p : Nat → α → Prop} : ∀ (n : Nat), (∀ i, i < n → ∃ x, p i x) → ∃ xs : List α, xs.length = n ∧ ∀ i x, xs[i]? = some x → p i x
  | 0, _ => ⟨[], rfl, fun i x h => by simp at h⟩
  | n + 1, h => by
    obtain ⟨xs, h1, h2⟩ := choose_list n fun i hi => h i (by omega)
    obtain ⟨x, hx⟩ := h n (by omega)
    refine ⟨xs ++ [x], by simp [h1], fun i y hy => ?_⟩
    by_cases c : i < n
    · rw [List.getElem?_append_left (by omega)] at hy
      exact h2 i y hy
    · rw [List.getElem?_append_right (by omega)] at hy
      have : i - xs.length = 0 := by
        have := (List.getElem?_eq_some_iff.1 hy).1
        simp at this; omega
      rw [this] at hy
      simp only [List.getElem?_cons_zero, Option.some.injEq] at hy
      subst hy
      have : i = n := by omega
      subst this; exact hx
theorem weightsAll_mem {e : TypeId} {m : Nat} : ∀ {l : List (DataW H × List MemPlace)} {x : DataW H × List MemPlace}, x ∈ l → m ∈ x.1.weights P e → m ∈ DataW.weightsAll P e (l.map (·.1))
  | y :: ys, x, hx, hm => by
    simp only [List.map_cons, DataW.weightsAll, List.mem_append]
    rcases List.mem_cons.1 hx with rfl | hx
    · exact .inl hm
    · exact .inr (weightsAll_mem hx hm)
theorem fits_val {T : TypeDesc} {s : Sc} (h : Suits T s) : CR (fun _ => none) s s.val := plain_cr h.plain
theorem open_arg (G : C.Good P) (hfull : Full C P) {t : TypeId} {v : Value} {d : DataW H} {ps : List MemPlace} {K : ArgK} {b0 : Nat} (hK : kindOf C P t = some K) (hval : Value.okWide P w .any b0 t v) (h : DataW.Trod enc P w 0 (fun _ => true) true t v d ps) (hw : Light P t d) :
    ∃ rv : RV C, RVA w rv v ∧ Told C P K rv := by
  obtain ⟨fuel, hf⟩ := h
  unfold kindOf at hK
  split at hK
  · rename_i e ht
    obtain ⟨hhas, hK2⟩ := cond_none hK
    cases hls : tys P 8 e with
    | none => rw [hls] at hK2; cases hK2
    | some ls =>
      rw [hls] at hK2
      injection hK2 with hK2; subst hK2
      obtain ⟨a, len, cap, rfl⟩ := WideShapes.okWide_slice ht hval
      obtain ⟨hsz, hpos, hby⟩ := G.sz e hhas
      rcases DataW.trod_slice ht hf with ⟨hcs, _⟩ | ⟨ad, l, c, elems, rest, n, _, hcs, hx, _, hl, hm, hlen, hel, _⟩
      · simp [Value.cells] at hcs
        obtain ⟨rfl, rfl, rfl⟩ := hcs
        exact ⟨.row e [], ⟨hhas, none, 0, rfl, Nat.le_refl _, by simp, fun _ => rfl, (fun ad hd => by cases hd), .inl rfl⟩, rfl, (fun x hx => by cases hx), by simp⟩
      · simp [Value.cells] at hcs
        obtain ⟨rfl, rfl, rfl⟩ := hcs
        simp only [Prod.mk.injEq] at hx
        obtain ⟨hd, _⟩ := hx
        have hwe : (elems.length + rest.length) * P.bytesOf e ≤ 140737488351232 := hw _ (by rw [hd]; simp [DataW.weights, ht])
        have hwa : ∀ x, x ∈ elems → Light P e x.1 := fun x hxm m hmm => hw m (by
          rw [hd]
          simp only [DataW.weights, ht, List.mem_cons, List.mem_append]
          exact .inr (.inl (weightsAll_mem hxm hmm)))
        obtain ⟨xs, hxl, hxs⟩ := choose_list (p := fun i (x : C.Elt e) => SuitAll ls (C.enc e x) ∧ ∀ j, j < C.sz e → w.cell? (ad.add (i * C.sz e + j)) = ((C.enc e x).map Sc.val)[j]?) len (fun i hi => by
          have h1 := hel i hi
          have hil : i < elems.length := by omega
          rw [List.getElem?_eq_getElem hil] at h1
          cases hc : w.cells? 0 (ad.add (i * P.cellsOf e)) (P.cellsOf e) with
          | none => rw [hc] at h1; cases h1
          | some cs =>
            rw [hc] at h1
            obtain ⟨_, e2, e3⟩ := World.cells?_some hc
            obtain ⟨ss, e4, e5⟩ := tys_open 8 e ls hls n cs _ h1 (hwa _ (List.getElem_mem hil))
            obtain ⟨x, hx⟩ := hfull e ls ss hhas hls e5
            refine ⟨x, by rw [hx]; exact e5, fun j hj => ?_⟩
            have := e3 j (by omega)
            rw [Addr.add_add, hsz] at this
            rw [this, hx, e4])
        have hfl : ∀ x, x ∈ xs → SuitAll ls (C.enc e x) := fun x hxm => by
          obtain ⟨i, hi⟩ := List.getElem?_of_mem hxm
          exact (hxs i x hi).1
        have hbl : ad.block < w.heap.size := by
          simp only [Value.okWide, ht, Cell.okWide, Cell.ok] at hval
          obtain ⟨_, _, _, _, row, cells, hsh, _⟩ := hval
          rcases Nat.lt_or_ge ad.block w.heap.size with h1 | h1
          · exact h1
          · simp [World.shape?, Array.getElem?_eq_none h1] at hsh
        refine ⟨.row e xs, ⟨hhas, some ad, cap, by rw [hxl], by omega, by simp only [maxLen] at hm; omega, (fun hh => by cases hh), (fun ad' had => by injection had with had; subst had; exact hbl), .inr ⟨ad, rfl, fun j u hu => ?_⟩⟩, rfl, hfl, ?_⟩
        · have hj : j < xs.length * C.sz e := by rw [← flat_len G hhas]; exact (List.getElem?_eq_some_iff.1 hu).1
          have hdm := Nat.div_add_mod j (C.sz e)
          have hk : j / C.sz e < xs.length := Nat.div_lt_of_lt_mul (by rw [Nat.mul_comm]; exact hj)
          have hjm : j % C.sz e < C.sz e := Nat.mod_lt _ hpos
          rw [Nat.mul_comm] at hdm
          generalize j / C.sz e = q at hdm hk
          generalize j % C.sz e = r at hdm hjm
          subst hdm
          rw [flat_get G hhas xs q r (C.dflt e) hk hjm] at hu
          rw [(hxs q _ (getD_get xs q (C.dflt e) hk)).2 r hjm]
          exact hu
        · rw [hxl, ← hlen]
          exact Nat.le_trans (Nat.mul_le_mul_right _ (Nat.le_add_right _ _)) hwe
  · rename_i fs ht
    cases hls : tys P 8 t with
    | none => rw [hls] at hK; cases hK
    | some ls =>
      rw [hls] at hK
      injection hK with hK; subst hK
      obtain ⟨ss, e1, e2⟩ := tys_open 8 t ls hls fuel _ _ hf hw
      simp only [Value.okWide, ht] at hval
      obtain ⟨cs, rfl, _, _⟩ := hval
      refine ⟨.fl (.agg ss), ⟨e2.plain, cs, rfl, ?_⟩, e2⟩
      have : cs.toList = ss.map Sc.val := e1
      rw [this]
      exact plain_cells e2.plain
  · rename_i hn1 hn2
    split at hK
    · rename_i T hls
      injection hK with hK; subst hK
      obtain ⟨ss, e1, e2⟩ := tys_open 8 t [T] hls fuel _ _ hf hw
      match ss, e2 with
      | [s], e2 =>
        have hv : v = s.val := by
          have hne : ∀ cs, v ≠ .agg cs := fun cs hh => by
            subst hh
            unfold tys at hls
            split at hls
            · rename_i ht; simp only [Value.okWide, ht, Cell.okWide, Cell.ok] at hval
            · rename_i k ht; simp only [Value.okWide, ht, Cell.okWide, Cell.ok] at hval
            · rename_i ht; simp only [Value.okWide, ht, Cell.okWide, Cell.ok] at hval
            · rename_i fs ht; exact hn2 fs ht
            · cases hls
          have : v.cells.toList = [v] := by cases v <;> first | rfl | exact absurd rfl (hne _)
          rw [this] at e1
          simpa using e1
        subst hv
        exact ⟨.fl (.one s), ⟨by simpa [Fl.cells] using e2.1.plain, FR.one (fits_val e2.1)⟩, e2.1⟩
    · cases hK
end
end Go.Abs
