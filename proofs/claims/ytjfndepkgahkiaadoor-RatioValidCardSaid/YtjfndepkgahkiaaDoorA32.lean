/- FUNCTIONS THAT ARE KNOWN BY A PLAIN FUNCTION: how arguments are read and results are told. -/
import Derived.Test.YtjfndepkgahkiaaDoorA31
set_option linter.unusedVariables false
namespace Go.Abs
section
variable {C : Codec} {P : Program}

/-- A kind of argument: how it is read, how it is told. -/
structure Dec (C : Codec) (A : Type) where
  d : RV C → Option A
  e : A → RV C
  ok : ∀ r a, d r = some a → r = e a
structure DecL (C : Codec) (A : Type) where
  d : List (RV C) → Option A
  e : A → List (RV C)
  ok : ∀ r a, d r = some a → r = e a
def dInt (k : IntKind) : Dec C Int where
  d := fun r => match r with
    | .fl (.one (.int k' n)) => cond (k' == k) (some n) none
    | _ => none
  e := fun n => .fl (.one (.int k n))
  ok := by
    intro r a h
    split at h
    · rename_i k' n
      cases hk : k' == k with
      | false => rw [hk] at h; cases h
      | true => rw [hk] at h; injection h with h; subst h; rw [eq_of_beq hk]
    · cases h
def dBool : Dec C Bool where
  d := fun r => match r with
    | .fl (.one (.bool n)) => some n
    | _ => none
  e := fun n => .fl (.one (.bool n))
  ok := by
    intro r a h
    split at h
    · injection h with h; subst h; rfl
    · cases h
def dStr : Dec C ByteArray where
  d := fun r => match r with
    | .fl (.one (.str n)) => some n
    | _ => none
  e := fun n => .fl (.one (.str n))
  ok := by
    intro r a h
    split at h
    · injection h with h; subst h; rfl
    · cases h
def dRow (t : TypeId) : Dec C (List (C.Elt t)) where
  d := fun r => match r with
    | .row t' xs => if h : t' = t then some (h ▸ xs) else none
    | _ => none
  e := fun xs => .row t xs
  ok := by
    intro r a h
    split at h
    · split at h
      · rename_i hh; subst hh; injection h with h; subst h; rfl
      · cases h
    · cases h
/-- A struct of plain cells. -/
def dS {X : Type} (of : List Sc → Option X) (cells : X → List Sc) (ok : ∀ l a, of l = some a → cells a = l) : Dec C X where
  d := fun r => match r with
    | .fl (.agg cs) => of cs
    | _ => none
  e := fun x => .fl (.agg (cells x))
  ok := by
    intro r a h
    split at h
    · rw [ok _ _ h]
    · cases h
def dNil : DecL C Unit where
  d := fun l => match l with | [] => some () | _ => none
  e := fun _ => []
  ok := by
    intro r a h
    split at h
    · rfl
    · cases h
def dCons {A B : Type} (x : Dec C A) (y : DecL C B) : DecL C (A × B) where
  d := fun l => match l with
    | r :: l => match x.d r, y.d l with
      | some a, some b => some (a, b)
      | _, _ => none
    | [] => none
  e := fun a => x.e a.1 :: y.e a.2
  ok := by
    intro r a h
    split at h
    · split at h
      · rename_i h1 h2; injection h with h; subst h; rw [x.ok _ _ h1, y.ok _ _ h2]
      · cases h
    · cases h
def mkK {A B : Type} (D : DecL C A) (F : A → Option B) (wrap : B → List (RV C)) : KnownF C where
  run := fun R l k => match D.d l with
    | some a => (F a).bind fun b => k (wrap b)
    | none => none
  nat := by
    intro R l k
    cases D.d l with
    | none => rfl
    | some a =>
      show (F a).bind _ = ((F a).bind _).bind k
      cases F a <;> rfl
theorem mkK_known (G : C.Good P) (hF : Fit P) {Ψ : Known C} (hΨ : KnownOk C P Ψ) {keep : FuncId → Nat → List Nat} {m d : Nat} {f : FuncId} {A B : Type} {D : DecL C A} {F : A → Option B} {wrap : B → List (RV C)}
    (h : ∀ a, funK P Ψ keep m d f (D.e a) = (F a).map wrap) : KnownAt C P f fun l => (mkK D F wrap).run _ l some := by
  intro l rs w vs hinv hk hl
  refine fun_sound G hF hΨ keep m d f l rs w vs hinv ?_ hl
  simp only [mkK] at hk
  split at hk
  · rename_i a ha
    rw [D.ok _ _ ha, h]
    cases hF : F a with
    | none => rw [hF] at hk; cases hk
    | some b => rw [hF] at hk; exact hk
  · cases hk
theorem mkK_none {f : FuncId} {A B : Type} {D : DecL C A} {wrap : B → List (RV C)} : KnownAt C P f fun l => (mkK D (fun _ => (none : Option B)) wrap).run _ l some := by
  intro l rs w vs hinv hk hl
  simp only [mkK] at hk
  split at hk <;> cases hk
/-- The same of a function that takes something over. -/
def mkE {A B : Type} (E : List Eat) (D : DecL C A) (F : A → Option B) (wrap : B → List (RV C)) : KnownF C where
  eat := E
  run := (mkK D F wrap).run
  nat := (mkK D F wrap).nat
theorem mkE_known (G : C.Good P) (hF : Fit P) {Ψ : Known C} (hΨ : KnownOk C P Ψ) {keep : FuncId → Nat → List Nat} {m d : Nat} {f : FuncId} {A B : Type} {E : List Eat} {D : DecL C A} {F : A → Option B} {wrap : B → List (RV C)}
    (h : ∀ a, funE P Ψ keep m d f E (D.e a) = (F a).map wrap) : KnownAtE C P f E fun l => (mkE E D F wrap).run _ l some := by
  intro l rs hk
  refine funE_sound G hF hΨ keep m d f E l rs ?_
  simp only [mkE, mkK] at hk
  split at hk
  · rename_i a ha
    rw [D.ok _ _ ha, h]
    cases hF : F a with
    | none => rw [hF] at hk; cases hk
    | some b => rw [hF] at hk; exact hk
  · cases hk
/-- The same of a function whose answer is a function. -/
def mkF {A B : Type} (fns : List FuncId) (D : DecL C A) (F : A → Option B) (wrap : B → List (RV C)) : KnownF C where
  fns := fns
  run := (mkK D F wrap).run
  nat := (mkK D F wrap).nat
theorem mkF_known (G : C.Good P) (hF : Fit P) {Ψ : Known C} (hΨ : KnownOk C P Ψ) {keep : FuncId → Nat → List Nat} {m d : Nat} {f : FuncId} {A B : Type} {fns : List FuncId} {D : DecL C A} {F : A → Option B} {wrap : B → List (RV C)}
    (h : ∀ a, funF P Ψ keep m d f (D.e a) = (F a).map wrap) : KnownAtF C P f fun l => (mkF fns D F wrap).run _ l some := by
  intro l k n w vs hinv hk hl
  refine funF_sound G hF hΨ keep m d f l k n w vs hinv ?_ hl
  simp only [mkF, mkK] at hk
  split at hk
  · rename_i a ha
    rw [D.ok _ _ ha, h]
    cases hF : F a with
    | none => rw [hF] at hk; cases hk
    | some b => rw [hF] at hk; exact hk
  · cases hk
def ofInt (k : IntKind) : List Sc → Option Int
  | [.int k' n] => cond (k' == k) (some n) none
  | _ => none
theorem ofInt_ok (k : IntKind) (l : List Sc) (n : Int) (h : ofInt k l = some n) : [Sc.int k n] = l := by
  unfold ofInt at h
  split at h
  · rename_i k' n'
    cases hk : k' == k with
    | false => rw [hk] at h; cases h
    | true => rw [hk] at h; injection h with h; subst h; rw [eq_of_beq hk]
  · cases h
def ofBool : List Sc → Option Bool
  | [.bool n] => some n
  | _ => none
theorem ofBool_ok (l : List Sc) (n : Bool) (h : ofBool l = some n) : [Sc.bool n] = l := by
  unfold ofBool at h
  split at h
  · injection h with h; subst h; rfl
  · cases h
def ofStr : List Sc → Option ByteArray
  | [.str n] => some n
  | _ => none
theorem ofStr_ok (l : List Sc) (n : ByteArray) (h : ofStr l = some n) : [Sc.str n] = l := by
  unfold ofStr at h
  split at h
  · injection h with h; subst h; rfl
  · cases h
theorem suit_int {k : IntKind} {s : Sc} (h : Suits (.int k) s) : ∃ n, s = .int k n := by
  cases s <;> first | exact h.elim | skip
  rename_i k' n
  exact ⟨n, by rw [h.1]⟩
theorem suit_bool {s : Sc} (h : Suits .bool s) : ∃ n, s = .bool n := by
  cases s <;> first | exact h.elim | skip
  exact ⟨_, rfl⟩
theorem suit_str {s : Sc} (h : Suits .string s) : ∃ n, s = .str n := by
  cases s <;> first | exact h.elim | skip
  exact ⟨_, rfl⟩
theorem SuitAll.uncons {T : TypeDesc} {Ts : List TypeDesc} {ss : List Sc} (h : SuitAll (T :: Ts) ss) : ∃ s r, ss = s :: r ∧ Suits T s ∧ SuitAll Ts r := by
  cases ss with
  | nil => exact h.elim
  | cons s r => exact ⟨s, r, rfl, h.1, h.2⟩
theorem SuitAll.unnil {ss : List Sc} (h : SuitAll [] ss) : ss = [] := by
  cases ss with
  | nil => rfl
  | cons s r => exact h.elim
theorem zero_of {P : Program} {e n : Nat} (h : ((P.info? e).bind (·.zero)).map (fun v => v.cells.size) = some n) : ∃ i z, P.info? e = some i ∧ i.zero = some z ∧ z.cells.size = n := by
  cases hi : P.info? e with
  | none => rw [hi] at h; cases h
  | some i =>
    rw [hi] at h
    simp only [Option.bind_some] at h
    cases hz : i.zero with
    | none => rw [hz] at h; cases h
    | some z => rw [hz] at h; injection h with h; exact ⟨i, z, rfl, hz, h⟩
theorem fit_of {P : Program} (h0 : P.follows .mixedOrders = true) (h1 : (P.funcs.toList.all fun fn => !(fn.name == "runtime.NumGoroutine")) = true) : Fit P where
  mixed := h0
  names := by
    intro f fn h
    have h2 : fn ∈ P.funcs.toList := Array.mem_toList_iff.2 (Array.mem_of_getElem? h)
    have := List.all_eq_true.1 h1 fn h2
    simpa using this
def ofBytes (s : ByteArray) : List Int := s.data.toList.map fun b => (b.toNat : Int)
def toBytes (l : List Int) : ByteArray := ⟨(l.map fun n => UInt8.ofNat n.toNat).toArray⟩
/-- The operations of a region. -/
def regOps : Code → Array Oper
  | .region _ ops _ => ops
  | _ => #[]
/-- What follows operation j of a region, a call that is walked into. -/
def opsFrom {R : Type} (P : Program) (Ψ : Known C) (call : Callee C R) (ops : Array Oper) (j : Nat) (K : Exit → St C → Option R) : AV → St C → Option R := fun v σ =>
  opsK P Ψ call ops (ops.toList.drop (j + 1)) (σ.put ((ops[j]?).bind (·.dst)) v).trim fun σ' => K .normal σ'
/-- What comes ahead of each of some operations, the last first. -/
def masks : List Oper → Nat → List Nat → List Nat
  | [], _, ms => ms
  | o :: r, j, ms => masks r (j + 1) (maskGo ms j o.after.toList 0 :: ms)
/-- The same of a region whose order is left open. -/
def drawFrom {R : Type} (P : Program) (Ψ : Known C) (call : Callee C R) (ops : Array Oper) (j : Nat) (K : Exit → St C → Option R) : AV → St C → Option R := fun v σ =>
  drawK P Ψ call ops (σ.put ((ops[j]?).bind (·.dst)) v).trim.H.length (ops.toList.drop (j + 1)) (j + 1) (masks (ops.toList.take (j + 1)) 0 []) [] ((σ.put ((ops[j]?).bind (·.dst)) v).trim.grow (2 * ops.size)) fun σ' => K .normal σ'.trim
def regFrom {R : Type} (P : Program) (Ψ : Known C) (call : Callee C R) (c : Code) (j : Nat) (K : Exit → St C → Option R) : AV → St C → Option R := match c with
  | .region _ ops false => opsFrom P Ψ call ops j K
  | .region _ ops true => drawFrom P Ψ call ops j K
  | _ => fun _ _ => none
/-- For printing alone. -/
def natI (n : Nat) : Int := n
def rndK {R : Type} (F : St C → (Exit → St C → Option R) → Option R) (nrm : St C → St C) (n : Nat) (K : Exit → St C → Option R) : Exit → St C → Option R := fun e σ => match e with
  | .normal => iterK F nrm n (nrm σ) K
  | e => K e σ
def bs (l : List Nat) : ByteArray := ⟨(l.map UInt8.ofNat).toArray⟩
theorem cond_bind {α β : Type} (c : Bool) (x y : Option α) (f : α → Option β) : (cond c x y).bind f = cond c (x.bind f) (y.bind f) := by cases c <;> rfl
theorem cond_map {α β : Type} (c : Bool) (x y : Option α) (f : α → β) : (cond c x y).map f = cond c (x.map f) (y.map f) := by cases c <;> rfl
theorem bind_map {α β γ : Type} (x : Option α) (g : α → Option β) (f : β → γ) : (x.bind g).map f = x.bind fun a => (g a).map f := by cases x <;> rfl
theorem map_none {α β : Type} (f : α → β) : (none : Option α).map f = none := rfl
theorem map_some {α β : Type} (f : α → β) (a : α) : (some a).map f = some (f a) := rfl
end
end Go.Abs
