/- A REGION WHOSE ORDER IS LEFT OPEN, second part: what an operation comes to, by what it looks at; the swap. -/
import Derived.Test.YtjfndepkgahkiaaDoorA23
set_option linter.unusedVariables false
set_option linter.unusedSimpArgs false
namespace Go.Abs
open Go.RowKit
section
variable {C : Codec} {P : Program} {Ψ : Known C} {σ σ' : St C} {n : Nat} {o x y : Oper} {ops : Array Oper} {R : Type}

/-- Is the operation carried out? -/
def guardV (ops : Array Oper) (T : List AV) (o : Oper) : Option Bool :=
  match o.guard with
  | none => some true
  | some (j, want) => match (ops[j]?).bind (·.dst) with
    | some t => match T.getD t .dead with
      | .fl (.one (.bool b)) => some (b == want)
      | .tup [] => some false
      | _ => none
    | none => none
/-- What it comes to, carried out. -/
def resV (P : Program) (Ψ : Known C) (n : Nat) (op : Op) (vs : List AV) (H : Nat → Blk C) : Option (Res C) :=
  match isCall op with
  | false => coreK P n H op vs some
  | true => match calleeOf vs with
    | some (f, as) => match Ψ f with
      | some φ => kwnK P n H f φ as some
      | none => none
    | none => none
def outc (P : Program) (Ψ : Known C) (ops : Array Oper) (n : Nat) (σ : St C) (o : Oper) : Option (Option (Res C)) :=
  match guardV ops σ.T o with
  | some true => (resV P Ψ n o.op (σ.vals o.op) (σ.view o.op (σ.vals o.op))).map some
  | some false => some none
  | none => none
def resO : Option (Res C) → Res C
  | some r => r
  | none => { v := .tup [] }
def annO (σ : St C) (o : Oper) : Option (Res C) → Ann
  | some r => annOf σ o (σ.vals o.op) r
  | none => Ann.skip
theorem known_nat {H : Nat → Blk C} {f : FuncId} {φ : KnownF C} {vs : List AV} {k : Res C → Option R} : knownK P n H f φ vs k = (knownK P n H f φ vs some).bind k := by
  unfold knownK
  split
  · split
    · rename_i body l hb hl
      rw [φ.nat R, φ.nat (Res C)]
      cases φ.run _ l some with
      | none => rfl
      | some rs => simp only [Option.bind_some, bind_cond, Option.bind_none]
    · rfl
  · rfl
theorem eat_nat {H : Nat → Blk C} {f : FuncId} {φ : KnownF C} {vs : List AV} {k : Res C → Option R} : eatK P n H f φ vs k = (eatK P n H f φ vs some).bind k := by
  unfold eatK
  split
  · split
    · rename_i body l q hb hl
      rw [φ.nat R, φ.nat (Res C)]
      cases apartS q && Nat.ble (killsOf q).length 1 with
      | false => rfl
      | true =>
        simp only [Bool.cond_true]
        cases φ.run _ l some with
        | none => rfl
        | some rs =>
          simp only [Option.bind_some]
          cases Nat.ble (rowsIn rs) 2 with
          | false => rfl
          | true =>
            simp only [Bool.cond_true]
            split
            · rfl
            · rfl
    · rfl
  · rfl
theorem splitF_bind {R S : Type} {n : Int} {k : FuncId → Option R} {g : R → Option S} : ∀ {l : List FuncId}, (splitF l n k).bind g = splitF l n fun f => (k f).bind g
  | [] => rfl
  | f :: l => by
    simp only [splitF]
    cases decide (n = (f : Int)) with
    | true => rfl
    | false => exact splitF_bind
theorem fn_nat {H : Nat → Blk C} {f : FuncId} {φ : KnownF C} {vs : List AV} {k : Res C → Option R} : fnK P H f φ vs k = (fnK P H f φ vs some).bind k := by
  unfold fnK
  split
  · split
    · rename_i body l hb hl
      rw [φ.nat R, φ.nat (Res C)]
      cases φ.run _ l some with
      | none => rfl
      | some rs =>
        simp only [Option.bind_some]
        split
        · rw [splitF_bind]; rfl
        · rfl
    · rfl
  · rfl
theorem kwn_nat {H : Nat → Blk C} {f : FuncId} {φ : KnownF C} {vs : List AV} {k : Res C → Option R} : kwnK P n H f φ vs k = (kwnK P n H f φ vs some).bind k := by
  unfold kwnK
  split
  · exact known_nat
  · exact eat_nat
  · exact fn_nat
theorem guard_nat {k : Bool → St C → Option R} : guardK ops σ o k = (guardV ops σ.T o).bind fun b => k b σ := by
  unfold guardK guardV
  cases hg : o.guard with
  | none => rfl
  | some gw =>
    obtain ⟨j, want⟩ := gw
    simp only
    cases ht : (ops[j]?).bind (·.dst) with
    | none => rfl
    | some t =>
      simp only
      by_cases hb : ∃ b, σ.T.getD t .dead = .fl (.one (.bool b))
      · obtain ⟨b, hb⟩ := hb
        rw [hb]
        cases want <;> cases b <;> simp only [Bool.cond_true, Bool.cond_false, St.know_eq hb] <;> rfl
      · generalize σ.T.getD t .dead = v at hb
        split
        · rename_i b; exact absurd ⟨b, rfl⟩ hb
        · rename_i b; exact absurd ⟨b, rfl⟩ hb
        · rfl
        · split
          · exact absurd ⟨_, rfl⟩ hb
          · simp_all
          · rfl
theorem step_eq {k : St C → Ann → Option R} : stepK P Ψ noCall n ops σ o k = (outc P Ψ ops n σ o).bind fun r => k (σ.apply o.dst (resO r)) (annO σ o r) := by
  unfold stepK outc
  rw [guard_nat]
  cases guardV ops σ.T o with
  | none => rfl
  | some b =>
    cases b with
    | false => simp only [Option.bind_some, resO, annO, apply_pure]
    | true =>
      simp only [Option.bind_some]
      unfold resV
      cases isCall o.op with
      | false =>
        simp only
        rw [core_nat]
        cases coreK P n (σ.view o.op (σ.vals o.op)) o.op (σ.vals o.op) some <;> rfl
      | true =>
        simp only
        cases calleeOf (σ.vals o.op) with
        | none => rfl
        | some p =>
          obtain ⟨f, as⟩ := p
          simp only
          cases Ψ f with
          | none => rfl
          | some φ =>
            simp only
            rw [kwn_nat]
            cases kwnK P n (σ.view o.op (σ.vals o.op)) f φ as some <;> rfl

/-! ### What is seen behind another operation -/
theorem step_some {call : Callee C R} {k : St C → Ann → Option R} {oo : Option (Res C)} (h : outc P Ψ ops n σ o = some oo) : stepK P Ψ call n ops σ o k = k (σ.apply o.dst (resO oo)) (annO σ o oo) := by
  revert h
  unfold stepK outc
  rw [guard_nat]
  cases guardV ops σ.T o with
  | none => intro h; cases h
  | some b =>
    cases b with
    | false =>
      intro h
      simp only [Option.bind_some] at h ⊢
      injection h with h
      subst h
      simp only [resO, annO, apply_pure]
    | true =>
      simp only [Option.bind_some]
      unfold resV
      cases isCall o.op with
      | false =>
        simp only
        rw [core_nat (k := fun r => k (σ.apply o.dst r) (annOf σ o (σ.vals o.op) r))]
        cases coreK P n (σ.view o.op (σ.vals o.op)) o.op (σ.vals o.op) some with
        | none => intro h; cases h
        | some q => intro h; injection h with h; subst h; rfl
      | true =>
        simp only
        cases calleeOf (σ.vals o.op) with
        | none => intro h; cases h
        | some p =>
          obtain ⟨f, as⟩ := p
          simp only
          cases Ψ f with
          | none => intro h; cases h
          | some φ =>
            simp only
            rw [kwn_nat (k := fun r => k (σ.apply o.dst r) (annOf σ o (σ.vals o.op) r))]
            cases kwnK P n (σ.view o.op (σ.vals o.op)) f φ as some with
            | none => intro h; cases h
            | some q => intro h; injection h with h; subst h; rfl
theorem step_none {call : Callee C R} {k : St C → Ann → Option R} (h : outc P Ψ ops n σ o = none) : stepK P Ψ call n ops σ o k = stepK P Ψ call n ops σ o (fun σ' _ => k σ' Ann.every) := by
  revert h
  unfold stepK outc
  rw [guard_nat, guard_nat]
  cases guardV ops σ.T o with
  | none => intro _; rfl
  | some b =>
    cases b with
    | false => intro h; cases h
    | true =>
      simp only [Option.bind_some]
      unfold resV
      cases isCall o.op with
      | false =>
        simp only
        rw [core_nat (k := fun r => k (σ.apply o.dst r) (annOf σ o (σ.vals o.op) r)), core_nat (k := fun r => k (σ.apply o.dst r) Ann.every)]
        cases coreK P n (σ.view o.op (σ.vals o.op)) o.op (σ.vals o.op) some with
        | none => intro _; rfl
        | some q => intro h; cases h
      | true =>
        simp only
        cases calleeOf (σ.vals o.op) with
        | none => intro _; rfl
        | some p =>
          obtain ⟨f, as⟩ := p
          simp only
          cases Ψ f with
          | none => intro _; rfl
          | some φ =>
            simp only
            rw [kwn_nat (k := fun r => k (σ.apply o.dst r) (annOf σ o (σ.vals o.op) r)), kwn_nat (k := fun r => k (σ.apply o.dst r) Ann.every)]
            cases kwnK P n (σ.view o.op (σ.vals o.op)) f φ as some with
            | none => intro _; rfl
            | some q => intro h; cases h
theorem scOf_ment (v : Value) : (scOf v).ment = [] := by
  unfold scOf
  split <;> rfl
theorem const_map (f : Sc → Sc) (hd : f .dead = .dead) (hf : Free f []) (v : Value) : (ofConst v).map f = ofConst v := by
  have h1 : ∀ v, f (scOf v) = scOf v := fun v => hf _ (fun b hb => by rw [scOf_ment] at hb; exact hb)
  cases v <;> simp only [ofConst, flOf, AV.map, Fl.map, h1]
  rename_i cs
  cases cs.toList.all oneC with
  | false => simp only [Bool.cond_false, Fl.map, hd]
  | true =>
    simp only [Bool.cond_true, Fl.map, List.map_map]
    congr 2
    exact List.map_congr_left fun v _ => h1 v
theorem fOf_nil (r : Res C) : Free (fOf r) [] := fOf_free r fun _ _ => by simp
def tmpNot (d : Option Tmp) (l : List Nat) : Prop := ∀ t, d = some t → t ∉ l
theorem putT_getD {d : Option Tmp} {v : AV} {T : List AV} {t : Nat} (h : d ≠ some t) : (putT d v T).getD t .dead = T.getD t .dead := by
  cases d with
  | none => rfl
  | some d =>
    have : d ≠ t := fun e => h (e ▸ rfl)
    simp only [putT]
    rw [List.getD_eq_getElem?_getD, List.getElem?_set_ne this, ← List.getD_eq_getElem?_getD]
theorem mapT_getD (f : Sc → Sc) (hd : f .dead = .dead) (T : List AV) (t : Nat) : (T.map (·.map f)).getD t .dead = (T.getD t .dead).map f := by
  rw [List.getD_eq_getElem?_getD, List.getElem?_map, List.getD_eq_getElem?_getD]
  cases T[t]? with
  | none => simp [AV.map, Fl.map, hd]
  | some v => rfl
theorem ev_apply {d : Option Tmp} {r : Res C} {z : Operand} (h : ∀ t, z = .tmp t → d ≠ some t) : (σ.apply d r).ev z = (σ.ev z).map (fOf r) := by
  rw [apply_eq]
  cases z with
  | tmp t =>
    simp only [St.ev]
    rw [putT_getD (h t rfl), mapT_getD _ (fOf_dead r)]
  | const v => exact (const_map _ (fOf_dead r) (fOf_nil r) v).symm
  | global g => simp [St.ev, AV.map, Fl.map, fOf_dead]
  | func f => rfl
theorem vals_apply {d : Option Tmp} {r : Res C} (h : tmpNot d (tmpsOf o)) : (σ.apply d r).vals o.op = (σ.vals o.op).map (·.map (fOf r)) := by
  unfold St.vals
  rw [List.map_map]
  refine List.map_congr_left fun z hz => ev_apply fun t ht hd => ?_
  subst ht
  exact h t hd (List.mem_filterMap.2 ⟨.tmp t, hz, rfl⟩)
theorem fOf_bool (r : Res C) (b : Bool) : fOf r (.bool b) = .bool b := fOf_nil r _ (by simp [Sc.ment])
theorem fOf_notbool (r : Res C) {s : Sc} (h : ∀ t, s ≠ .bool t) (t : Bool) : fOf r s ≠ .bool t := by
  unfold fOf
  cases r.kill with
  | none => exact h t
  | some b =>
    cases s <;> simp only [Sc.die] <;> first | exact h t | (cases Nat.beq _ _ <;> simp)
def boolOf : AV → Option (Option Bool)
  | .fl (.one (.bool b)) => some (some b)
  | .tup [] => some none
  | _ => none
theorem boolOf_map (r : Res C) (v : AV) : boolOf (v.map (fOf r)) = boolOf v := by
  rcases v with (s | cs) | l | ⟨g, u, v⟩ <;> try rfl
  case tup => cases l <;> rfl
  by_cases h : ∃ b, s = .bool b
  · obtain ⟨b, rfl⟩ := h
    simp [AV.map, Fl.map, fOf_bool, boolOf]
  · have h1 : ∀ t, s ≠ .bool t := fun t e => h ⟨t, e⟩
    have h2 := fOf_notbool r h1
    simp only [AV.map, Fl.map]
    have : ∀ s : Sc, (∀ t, s ≠ .bool t) → boolOf (.fl (.one s)) = none := fun s hs => by
      cases s <;> first | rfl | exact absurd rfl (hs _)
    rw [this _ h1, this _ h2]
theorem guardV_eq (ops : Array Oper) (T : List AV) (o : Oper) : guardV ops T o = match o.guard with
    | none => some true
    | some (j, want) => ((ops[j]?).bind (·.dst)).bind fun t => (boolOf (T.getD t .dead)).map (· == some want) := by
  unfold guardV
  cases hg : o.guard with
  | none => rfl
  | some gw =>
    obtain ⟨j, want⟩ := gw
    simp only
    cases ht : (ops[j]?).bind (·.dst) with
    | none => rfl
    | some t =>
      simp only [Option.bind_some]
      generalize T.getD t .dead = v
      rcases v with (s | cs) | l | ⟨g, u, v⟩ <;> try rfl
      · cases s <;> rfl
      · cases l <;> rfl
theorem guard_apply {d : Option Tmp} {r : Res C} (h : tmpNot d (guardTmp ops o)) : guardV ops (σ.apply d r).T o = guardV ops σ.T o := by
  rw [guardV_eq, guardV_eq]
  cases hg : o.guard with
  | none => rfl
  | some gw =>
    obtain ⟨j, want⟩ := gw
    simp only
    cases ht : (ops[j]?).bind (·.dst) with
    | none => rfl
    | some t =>
      simp only [Option.bind_some]
      have hne : d ≠ some t := fun e => h t e (by unfold guardTmp; rw [hg]; simp [ht])
      rw [apply_eq]
      simp only
      rw [putT_getD hne, mapT_getD _ (fOf_dead r), boolOf_map]
theorem blk_apply {d : Option Tmp} {r : Res C} {b : Nat} (h : b ∉ r.up.map (·.1)) : (σ.apply d r).blk b = (σ.blk b).map (fOf r) := by
  rw [apply_eq]
  simp only [St.blk]
  rw [upd_getD _ _ _ h, getD_map]
end
end Go.Abs
