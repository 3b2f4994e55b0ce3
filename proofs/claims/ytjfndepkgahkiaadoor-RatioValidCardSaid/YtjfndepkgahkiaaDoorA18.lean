/- EACH OPERATION OF THE MODEL DOES WHAT IS TOLD OF IT (fifteenth part: all of them). -/
import Derived.Test.YtjfndepkgahkiaaDoorA39
set_option linter.unusedVariables false
set_option linter.unusedSimpArgs false
namespace Go.Abs
open Go.RowKit
section
variable {C : Codec} {P : Program} {G : C.Good P} {w0 : Base C} {σ : St C} {as : List Act} {a : Act} {w : World} {pl : Pl} {n : Nat} {H : Nat → Blk C} {o : Oper} {r : Res C} {R : Type}

theorem bind_cond {α β : Type} (c : Bool) (x y : Option α) (k : α → Option β) : (cond c x y).bind k = cond c (x.bind k) (y.bind k) := by cases c <;> rfl
theorem appendK_nat {e : TypeId} {s : Sc} {ys : List (C.Elt e)} {k : Res C → Option R} : appendK P n e s H ys k = (appendK P n e s H ys some).bind k := by
  unfold appendK
  split
  · simp only [bind_cond, Option.bind_some, Option.bind_none]
  · split
    · split
      · simp only [bind_cond, Option.bind_some, Option.bind_none]
      · rfl
    · rfl
  · split
    · split
      · simp only [bind_cond, Option.bind_some, Option.bind_none]
      · rfl
    · rfl
  · rfl
theorem optK_nat {α : Type} {x : Option Operand} {vs : List AV} {d : Int} {j : Int → List AV → Option α} {k : α → Option R} : (optK x vs d j).bind k = optK x vs d fun i r => (j i r).bind k := by
  unfold optK
  split <;> rfl
theorem binK_nat {α : Type} {op : BinOp} {t : TypeId} {x y : Fl} {j : Fl → Option α} {k : α → Option R} : (binK P op t x y j).bind k = binK P op t x y fun v => (j v).bind k := by
  unfold binK
  split
  · split
    · simp only [bind_cond, Option.bind_none]
    · simp only [bind_cond, Option.bind_none]
    · rw [bind_cond]
      congr 1
      split <;> first | rfl | simp only [bind_cond, Option.bind_none]
  · split <;> first | rfl | simp only [bind_cond, Option.bind_none]
  · rw [bind_cond]
    congr 1
    split <;> rfl
  · rw [bind_cond]
    congr 1
    split
    · rw [bind_cond]
      congr 1
      split <;> rfl
    · rfl
  · rfl
theorem unK_nat {α : Type} {op : UnOp} {x : Fl} {j : Fl → Option α} {k : α → Option R} : (unK op x j).bind k = unK op x fun v => (j v).bind k := by
  unfold unK
  split <;> rfl
theorem idxK_bind {R S : Type} {i : Int} {k : Nat → Option R} {f : R → Option S} : ∀ {m : Nat}, (idxK m i k).bind f = idxK m i fun j => (k j).bind f
  | 0 => rfl
  | m + 1 => by
    simp only [idxK]
    cases decide (i = (m : Int)) with
    | true => rfl
    | false => exact idxK_bind
theorem core_nat {op : Op} {vs : List AV} {k : Res C → Option R} : coreK P n H op vs k = (coreK P n H op vs some).bind k := by
  unfold coreK
  split
  all_goals first
    | rfl
    | (simp only [bind_cond, Option.bind_some, Option.bind_none]; done)
    | (rw [binK_nat]; rfl)
    | (rw [unK_nat]; rfl)
    | (split <;> first
        | rfl
        | (simp only [bind_cond, Option.bind_some, Option.bind_none]; done)
        | (simp only [bind_cond, Option.bind_some, Option.bind_none, idxK_bind]; done)
        | (split <;> first
            | rfl
            | (simp only [bind_cond, Option.bind_some, Option.bind_none, optK_nat]; done)
            | (simp only [bind_cond, Option.bind_none]; congr 1; split <;> rfl)
            | (split <;> first
              | rfl
              | exact appendK_nat
              | (split <;> first | rfl | exact appendK_nat))))
    | skip
  · split
    · split
      · rfl
      · simp only [optK_nat, bind_cond, Option.bind_some, Option.bind_none]
    · split
      · simp only [optK_nat, bind_cond, Option.bind_some, Option.bind_none]
        congr 1
        congr 1
        funext l r
        congr 1
        funext h r
        congr 1
        congr 1
        congr 1
        congr 1
        split
        · rfl
        · simp only [bind_cond, Option.bind_some, Option.bind_none]
        · rfl
      · rfl
    · rfl
  · split
    · split
      · exact appendK_nat
      · split
        · split
          · exact appendK_nat
          · rfl
        · rfl
      · split
        · exact appendK_nat
        · rfl
      · rfl
    · rfl
end
end Go.Abs
