/- ONEWIRE: what a step gives, the program's. -/
import Derived.Test.YtimanhbcjbnleaaE1
set_option linter.unusedVariables false
set_option linter.unusedSimpArgs false
namespace Go.Abs.K
open Go Go.Abs Go.Proofs

def OkC (c : Onewire) : Prop := 1 ≤ c.T ∧ c.T ≤ 1048576
instance (c : Onewire) : Decidable (OkC c) := by unfold OkC; infer_instance
theorem check_is (M : Nat) (c : Onewire) : onewire_Check M c = some (if OkC c then 0 else 2) := by
  simp only [onewire_Check, b_onewire_Check, bif_if]
  by_cases h : OkC c
  · rw [if_pos h]; unfold OkC at h; repeat rw [if_neg (by omega)]
  · rw [if_neg h]; unfold OkC at h
    repeat' split
    all_goals first | rfl | (exfalso; omega)
theorem ref_check_is (M : Nat) (c : Onewire) : ref25_Check M c = some (if OkC c then 0 else 2) := by
  simp only [ref25_Check, b_ref25_Check, bif_if]
  by_cases h : OkC c
  · rw [if_pos h]; unfold OkC at h; repeat rw [if_neg (by omega)]
  · rw [if_neg h]; unfold OkC at h
    repeat' split
    all_goals first | rfl | (exfalso; omega)
/-- What was collected: n bits from f on, their number; an open reset. -/
inductive Md where
  | bits (n : Nat) (f acc : Int)
  | rst (f t : Int)
structure A where
  st : Bool
  at_ : Int
  low : Option Int
  md : Md
abbrev mark (f t v : Int) : Event := Event.mk 4 f t v 0 (bs []) 0
abbrev byt (f t v z : Int) : Event := Event.mk 3 f t v 0 (bs []) z
abbrev clo : Md := .bits 0 0 0
def plainA (T : Int) (n : Nat) (f acc a b : Int) : Md × List Event :=
  if b - a ≥ 24 * T then (.rst a b, if n = 0 then [] else [byt f a 0 7])
  else if b - a ≥ 16 * T then (clo, [byt (if n = 0 then a else f) b 0 6])
  else if n ≥ 7 then (clo, [byt (if n = 0 then a else f) b (if b - a < 2 * T then acc + 2 ^ n else acc) 0])
  else (.bits (n + 1) (if n = 0 then a else f) (if b - a < 2 * T then acc + 2 ^ n else acc), [])
def pulseA (T : Int) (m : Md) (a b : Int) : Md × List Event := match m with
  | .rst f t => if 4 * T ≤ b - a ∧ b - a ≤ 20 * T then (clo, [mark f b 3]) else ((plainA T 0 0 0 a b).1, mark f t 2 :: (plainA T 0 0 0 a b).2)
  | .bits n f acc => plainA T n f acc a b
/-- A reset that is over. -/
def lateA (T : Int) (m : Md) (to : Int) : Md × List Event := match m with
  | .rst f t => if t + 8 * T < to then (clo, [mark f t 2]) else (m, [])
  | m => (m, [])
def In (c : Onewire) (a : A) (e : Event) : Prop := OkC c ∧ Vld e ∧ e.Kind = 1 ∧ e.Fault = 0 ∧ e.From < e.To ∧ (e.Value = 0 ∨ e.Value = 1) ∧ (a.st = false ∨ e.From = a.at_)
instance (c : Onewire) (a : A) (e : Event) : Decidable (In c a e) := by unfold In; infer_instance
def highA (T : Int) (a : A) (e : Event) : Md × List Event :=
  let p := match a.low with | some b => pulseA T a.md b e.From | none => (a.md, [])
  ((lateA T p.1 e.To).1, p.2 ++ (lateA T p.1 e.To).2)
def stepA (c : Onewire) (a : A) (e : Event) : A × List Event :=
  if In c a e then
    if e.Value = 0 then (⟨true, e.To, some (a.low.getD e.From), a.md⟩, [])
    else (⟨true, e.To, none, (highA c.T a e).1⟩, (highA c.T a e).2)
  else (a, [])
def endA (c : Onewire) (a : A) : List Event := if OkC c then (match a.md with
  | .bits n f _ => if n = 0 then [] else [byt f a.at_ 0 7]
  | .rst f t => [mark f t 2]) else []
/-- The program's state. -/
def encP (a : A) : State := State.mk (if a.st then 1 else 0) a.at_
  (match a.md with | .bits _ f _ => f | .rst f _ => f) (match a.md with | .bits n _ _ => (n : Int) | .rst _ _ => -1) (match a.md with | .bits _ _ c => c | .rst _ t => t)
  (a.low.getD 0) (if a.low.isSome then 1 else 0) (bs [])
def WfM : Md → Prop
  | .bits n f acc => n ≤ 7 ∧ 0 ≤ f ∧ f ≤ 1099511627776 ∧ 0 ≤ acc ∧ acc < 2 ^ n ∧ (n = 0 → f = 0)
  | .rst f t => 0 ≤ f ∧ f ≤ 1099511627776 ∧ 0 < t ∧ t ≤ 1099511627776
def Wf (a : A) : Prop := WfM a.md ∧ 0 ≤ a.at_ ∧ a.at_ ≤ 1099511627776 ∧ (∀ b, a.low = some b → 0 ≤ b ∧ b ≤ 1099511627776) ∧ (a.st = false → a.low = none)
theorem pow_lt (n : Nat) (h : n ≤ 7) : (1 : Int) ≤ 2 ^ n ∧ (2 : Int) ^ n ≤ 128 := by
  have : n = 0 ∨ n = 1 ∨ n = 2 ∨ n = 3 ∨ n = 4 ∨ n = 5 ∨ n = 6 ∨ n = 7 := by omega
  rcases this with rfl | rfl | rfl | rfl | rfl | rfl | rfl | rfl <;> decide
theorem plain_wf (T : Int) (hT : 1 ≤ T) (n : Nat) (f acc a b : Int) (h : WfM (.bits n f acc)) (ha : 0 ≤ a ∧ a ≤ 1099511627776) (hb : 0 ≤ b ∧ b ≤ 1099511627776) : WfM (plainA T n f acc a b).1 := by
  obtain ⟨h1, h2, h3, h4, h5, h6⟩ := h
  unfold plainA
  have hp := pow_lt n h1
  by_cases c1 : b - a ≥ 24 * T
  · rw [if_pos c1]; exact ⟨ha.1, ha.2, by omega, hb.2⟩
  rw [if_neg c1]
  by_cases c2 : b - a ≥ 16 * T
  · rw [if_pos c2]; exact ⟨by omega, by omega, by omega, by omega, by decide, fun _ => rfl⟩
  rw [if_neg c2]
  by_cases c3 : n ≥ 7
  · rw [if_pos c3]; exact ⟨by omega, by omega, by omega, by omega, by decide, fun _ => rfl⟩
  rw [if_neg c3]
  have hs : (2 : Int) ^ (n + 1) = 2 ^ n * 2 := Int.pow_succ 2 n
  refine ⟨by omega, ?_, ?_, ?_, ?_, fun h => by omega⟩
  · split <;> omega
  · split <;> omega
  · split <;> omega
  · split <;> omega
theorem clo_wf : WfM clo := ⟨by omega, by omega, by omega, by omega, by decide, fun _ => rfl⟩
theorem pulse_wf (T : Int) (hT : 1 ≤ T) (m : Md) (a b : Int) (h : WfM m) (ha : 0 ≤ a ∧ a ≤ 1099511627776) (hb : 0 ≤ b ∧ b ≤ 1099511627776) : WfM (pulseA T m a b).1 := by
  cases m with
  | bits n f acc => exact plain_wf T hT n f acc a b h ha hb
  | rst f t =>
    unfold pulseA
    dsimp only
    split
    · exact clo_wf
    · exact plain_wf T hT 0 0 0 a b clo_wf ha hb
theorem late_wf (T : Int) (m : Md) (to : Int) (h : WfM m) : WfM (lateA T m to).1 := by
  unfold lateA
  split
  · split
    · exact clo_wf
    · exact h
  · exact h
theorem step_wf (c : Onewire) (a : A) (e : Event) (h : Wf a) : Wf (stepA c a e).1 := by
  unfold stepA
  by_cases hin : In c a e
  · rw [if_pos hin]
    obtain ⟨g1, g2, g3, g4, g5, g6, g7⟩ := hin
    obtain ⟨h1, h2, h3, h4, h5⟩ := h
    unfold Vld at g2
    unfold OkC at g1
    split
    · refine ⟨h1, by dsimp only; omega, by dsimp only; omega, fun b hb => ?_, fun h => by cases h⟩
      dsimp only at hb
      injection hb with hb
      subst hb
      cases hl : a.low with
      | none => simp; omega
      | some b => exact h4 b hl
    · refine ⟨?_, by dsimp only; omega, by dsimp only; omega, ?_, ?_⟩
      case refine_2 => intro b hb; cases hb
      case refine_3 => intro h; cases h
      unfold highA
      dsimp only
      refine late_wf _ _ _ ?_
      cases hl : a.low with
      | none => exact h1
      | some b => exact pulse_wf c.T (by omega) a.md b e.From h1 (h4 b hl) ⟨by omega, by omega⟩
  · rw [if_neg hin]; exact h
theorem beq_dec (a b : Int) : (a == b) = decide (a = b) := by by_cases h : a = b <;> simp [h]
theorem accepts_is (M : Nat) (a : A) (e : Event) (c : Onewire) (hc : OkC c) : onewire_accepts M (encP a) e = some (decide (In c a e)) := by
  simp only [onewire_accepts, b_onewire_accepts, event_valid, Option.bind_some, bif_if, beq_if]
  have hp : (encP a).Phase = 0 ↔ a.st = false := by unfold encP; cases a.st <;> simp
  have ha : (encP a).At = a.at_ := rfl
  unfold In
  rw [ha]
  by_cases h1 : Vld e <;> by_cases h2 : e.Kind = 1 <;> by_cases h3 : e.Fault = 0 <;> by_cases h4 : e.From < e.To <;> by_cases h5 : e.Value = 0 <;> by_cases h6 : e.Value = 1 <;> by_cases h7 : a.st = false <;> simp [hc, hp, h1, h2, h3, h4, h5, h6, h7, beq_dec]
theorem ref_accepts_is (M : Nat) (a : A) (r : State) (e : Event) (c : Onewire) (hc : OkC c) (hp : r.Phase = 0 ↔ a.st = false) (ha : r.At = a.at_) : ref25_accepts M r e = some (decide (In c a e)) := by
  simp only [ref25_accepts, b_ref25_accepts, ref_valid, Option.bind_some, bif_if, beq_if, bne_if]
  by_cases hin : In c a e
  · rw [decide_eq_true hin]
    obtain ⟨g1, g2, g3, g4, g5, g6, g7⟩ := hin
    rw [decide_eq_true g2, if_pos g3, if_pos g4, if_neg (show ¬ e.From ≥ e.To by omega), if_neg (show ¬ e.Value < 0 by omega), if_neg (show ¬ e.Value > 1 by omega)]
    simp only [Bool.not_true, Bool.cond_false]
    rcases g7 with g7 | g7
    · rw [if_pos (hp.2 g7)]
    · rw [ha, g7]; simp
  · rw [decide_eq_false hin]
    by_cases h1 : Vld e
    · rw [decide_eq_true h1]
      simp only [Bool.not_true, Bool.cond_false]
      by_cases h2 : e.Kind = 1
      · by_cases h3 : e.Fault = 0
        · by_cases h4 : e.From ≥ e.To
          · rw [if_pos h2, if_pos h3, if_pos h4]
          · by_cases h5 : e.Value < 0
            · rw [if_pos h2, if_pos h3, if_neg h4, if_pos h5]
            · by_cases h6 : e.Value > 1
              · rw [if_pos h2, if_pos h3, if_neg h4, if_neg h5, if_pos h6]
              · rw [if_pos h2, if_pos h3, if_neg h4, if_neg h5, if_neg h6]
                by_cases h7 : a.st = false
                · exact absurd ⟨hc, h1, h2, h3, by omega, by omega, .inl h7⟩ hin
                · rw [if_neg (fun h => h7 (hp.1 h)), ha]
                  by_cases h8 : e.From = a.at_
                  · exact absurd ⟨hc, h1, h2, h3, by omega, by omega, .inr h8⟩ hin
                  · simp [h8]
        · rw [if_pos h2, if_neg h3]
      · rw [if_neg h2]
    · rw [decide_eq_false h1]; rfl
/-! ### The program's step -/
theorem class_is (M : Nat) (c : Onewire) (hc : OkC c) (w : Int) : onewire_class M c w = some (if w < 2 * c.T then 0 else if w < 16 * c.T then 1 else if w < 24 * c.T then 2 else 3) := by
  simp only [onewire_class, b_onewire_class, bif_if]
  unfold OkC at hc
  rw [i64_ok (n := 2 * c.T) (by omega), i64_ok (n := 16 * c.T) (by omega), i64_ok (n := 24 * c.T) (by omega)]
  repeat' split
  all_goals rfl
theorem or_bit (n : Nat) (hn : n ≤ 7) (acc : Int) (h : 0 ≤ acc ∧ acc < 2 ^ n) : IntKind.i64.wrap (((BitVec.ofInt 64 acc ||| BitVec.ofInt 64 (IntKind.i64.wrap (1 * 2 ^ min (if (8 : Int) < (n : Int) then 8 else (n : Int)).toNat 64))).toNat : Int)) = acc + 2 ^ n := by
  have hp := pow_lt n hn
  rw [if_neg (by omega), Int.toNat_natCast, Nat.min_eq_left (by omega), Int.one_mul, i64_ok (n := 2 ^ n) (by omega)]
  obtain ⟨k, rfl⟩ := Int.eq_ofNat_of_zero_le h.1
  have h2 : k < 2 ^ n := by have := h.2; exact_mod_cast this
  have e2 : ((2 : Int) ^ n) = ((2 ^ n : Nat) : Int) := by simp
  rw [e2] at hp ⊢
  rw [or_nat 64 k (2 ^ n) (by omega) (by omega), Nat.or_comm]
  have := Nat.two_pow_add_eq_or_of_lt (i := n) (b := k) h2 1
  rw [Nat.mul_one] at this
  rw [← this, i64_ok (by omega)]
  omega
theorem and_255 (x : Int) (h : 0 ≤ x ∧ x ≤ 255) : IntKind.i64.wrap (((BitVec.ofInt 64 x &&& BitVec.ofInt 64 255).toNat : Int)) = x := by
  have := and_low 64 8 x (by omega)
  rw [show ((2 ^ 8 - 1 : Nat) : Int) = 255 from rfl] at this
  rw [this, i64_ok (by omega)]
  omega
/-- The program's state in a pulse that begins at b. -/
def encM (p at_ b x : Int) (m : Md) : State := State.mk p at_ (match m with | .bits _ f _ => f | .rst f _ => f) (match m with | .bits n _ _ => (n : Int) | .rst _ _ => -1) (match m with | .bits _ _ c => c | .rst _ t => t) b x (bs [])
theorem pulse_is (M : Nat) (c : Onewire) (hc : OkC c) (p q b x : Int) (m : Md) (e : Int) (hm : WfM m) (hb : 0 ≤ b ∧ b ≤ 1099511627776) (he : 0 ≤ e ∧ e ≤ 1099511627776) :
    onewire_pulse M c (encM p q b x m) e = some (encM p q b x (pulseA c.T m b e).1, (pulseA c.T m b e).2) := by
  have hc' := hc
  unfold OkC at hc'
  simp only [onewire_pulse, b_onewire_pulse, class_is M c hc, Option.bind_some, bif_if, beq_if]
  cases m with
  | rst f t =>
    have hcount : (encM p q b x (.rst f t)).Count = -1 := rfl
    have haux : (encM p q b x (.rst f t)).Aux = b := rfl
    rw [if_pos (by rw [hcount]; omega), haux, i64_ok (n := e - b) (by omega), i64_ok (n := 4 * c.T) (by omega), i64_ok (n := 20 * c.T) (by omega)]
    unfold pulseA
    dsimp only
    have fin : (if (if e - b < 2 * c.T then (0 : Int) else if e - b < 16 * c.T then 1 else if e - b < 24 * c.T then 2 else 3) = 3 then
        some (State.mk p q b (-1) e b x (bs []), [Event.mk 4 f t 2 0 (bs []) 0])
        else if (if e - b < 2 * c.T then (0 : Int) else if e - b < 16 * c.T then 1 else if e - b < 24 * c.T then 2 else 3) = 2 then
        some (State.mk p q 0 0 0 b x (bs []), [Event.mk 4 f t 2 0 (bs []) 0] ++ [Event.mk 3 b e 0 0 (bs []) 6])
        else if (if e - b < 2 * c.T then (0 : Int) else if e - b < 16 * c.T then 1 else if e - b < 24 * c.T then 2 else 3) = 0 then
        some (State.mk p q b 1 1 b x (bs []), [Event.mk 4 f t 2 0 (bs []) 0])
        else some (State.mk p q b 1 0 b x (bs []), [Event.mk 4 f t 2 0 (bs []) 0])) =
        some (encM p q b x (plainA c.T 0 0 0 b e).1, mark f t 2 :: (plainA c.T 0 0 0 b e).2) := by
      unfold plainA
      by_cases c1 : e - b < 2 * c.T
      · simp only [if_pos c1]
        rw [if_neg (show ¬ (0 : Int) = 3 by omega), if_neg (show ¬ (0 : Int) = 2 by omega), if_pos trivial, if_neg (show ¬ e - b ≥ 24 * c.T by omega), if_neg (show ¬ e - b ≥ 16 * c.T by omega), if_neg (show ¬ 0 ≥ 7 by omega)]
        rfl
      · rw [if_neg c1]
        by_cases c2 : e - b < 16 * c.T
        · rw [if_pos c2, if_neg (show ¬ (1 : Int) = 3 by omega), if_neg (show ¬ (1 : Int) = 2 by omega), if_neg (show ¬ (1 : Int) = 0 by omega), if_neg (show ¬ e - b ≥ 24 * c.T by omega), if_neg (show ¬ e - b ≥ 16 * c.T by omega), if_neg (show ¬ 0 ≥ 7 by omega), if_neg c1]
          rfl
        · rw [if_neg c2]
          by_cases c3 : e - b < 24 * c.T
          · rw [if_pos c3, if_neg (show ¬ (2 : Int) = 3 by omega), if_pos rfl, if_neg (show ¬ e - b ≥ 24 * c.T by omega), if_pos (show e - b ≥ 16 * c.T by omega)]
            rfl
          · rw [if_neg c3, if_pos rfl, if_pos (show e - b ≥ 24 * c.T by omega)]
            rfl
    by_cases c1 : e - b ≥ 4 * c.T
    · rw [if_pos c1]
      by_cases c2 : e - b ≤ 20 * c.T
      · have hy : 4 * c.T ≤ e - b ∧ e - b ≤ 20 * c.T := ⟨c1, c2⟩
        rw [if_pos c2, if_pos hy]; rfl
      · have hn : ¬ (4 * c.T ≤ e - b ∧ e - b ≤ 20 * c.T) := fun h => c2 h.2
        rw [if_neg c2, if_neg hn]
        exact fin
    · have hn : ¬ (4 * c.T ≤ e - b ∧ e - b ≤ 20 * c.T) := fun h => c1 h.1
      rw [if_neg c1, if_neg hn]
      exact fin
  | bits n f acc =>
    obtain ⟨h1, h2, h3, h4, h5, h6⟩ := hm
    have hp := pow_lt n h1
    have hcount : (encM p q b x (.bits n f acc)).Count = n := rfl
    have haux : (encM p q b x (.bits n f acc)).Aux = b := rfl
    have hacc : (encM p q b x (.bits n f acc)).Acc = acc := rfl
    have hfrom : (encM p q b x (.bits n f acc)).From = f := rfl
    rw [hcount, haux, hacc, hfrom, if_neg (show ¬ (n : Int) < 0 by omega), i64_ok (n := e - b) (by omega), i64_ok (n := (n : Int) + 1) (by omega), or_bit n h1 acc ⟨h4, h5⟩]
    unfold pulseA plainA
    dsimp only
    have hm8 : ¬ (if (8 : Int) < (n : Int) then (8 : Int) else (n : Int)) < 0 := by rw [if_neg (by omega)]; omega
    by_cases hz : n = 0
    · subst hz
      have ha : acc = 0 := by have h5' : acc < 1 := h5; omega
      subst ha
      have ob := or_bit 0 (by omega) 0 ⟨by omega, by decide⟩
      rw [if_pos (show ((0 : Nat) : Int) = 0 from rfl)]
      by_cases c1 : e - b < 2 * c.T
      · simp only [if_pos c1]
        rw [if_neg (show ¬ (0 : Int) = 3 by omega), if_neg (show ¬ (0 : Int) = 2 by omega), if_pos trivial, if_neg hm8, if_neg (show ¬ ((0 : Nat) : Int) + 1 ≥ 8 by omega), ob, if_neg (show ¬ e - b ≥ 24 * c.T by omega), if_neg (show ¬ e - b ≥ 16 * c.T by omega), if_neg (show ¬ 0 ≥ 7 by omega)]
        rfl
      · simp only [if_neg c1]
        by_cases c2 : e - b < 16 * c.T
        · simp only [if_pos c2]
          rw [if_neg (show ¬ (1 : Int) = 3 by omega), if_neg (show ¬ (1 : Int) = 2 by omega), if_neg (show ¬ (1 : Int) = 0 by omega), if_neg (show ¬ ((0 : Nat) : Int) + 1 ≥ 8 by omega), if_neg (show ¬ e - b ≥ 24 * c.T by omega), if_neg (show ¬ e - b ≥ 16 * c.T by omega), if_neg (show ¬ 0 ≥ 7 by omega)]
          rfl
        · simp only [if_neg c2]
          by_cases c3 : e - b < 24 * c.T
          · simp only [if_pos c3]
            rw [if_neg (show ¬ (2 : Int) = 3 by omega), if_pos trivial, if_neg (show ¬ e - b ≥ 24 * c.T by omega), if_pos (show e - b ≥ 16 * c.T by omega)]
            rfl
          · simp only [if_neg c3]
            rw [if_pos trivial, if_neg (show ¬ ((0 : Nat) : Int) > 0 by omega), if_pos (show e - b ≥ 24 * c.T by omega)]
            rfl
    · rw [if_neg (show ¬ (n : Int) = 0 by omega)]
      simp only [if_neg hz]
      have hs : (2 : Int) ^ (n + 1) = 2 ^ n * 2 := Int.pow_succ 2 n
      by_cases c1 : e - b < 2 * c.T
      · simp only [if_pos c1]
        rw [if_neg (show ¬ (0 : Int) = 3 by omega), if_neg (show ¬ (0 : Int) = 2 by omega), if_pos trivial, if_neg hm8, and_255 _ (by omega), if_neg (show ¬ e - b ≥ 24 * c.T by omega), if_neg (show ¬ e - b ≥ 16 * c.T by omega)]
        by_cases h7 : n ≥ 7
        · rw [if_pos (show (n : Int) + 1 ≥ 8 by omega), if_pos h7]; rfl
        · rw [if_neg (show ¬ (n : Int) + 1 ≥ 8 by omega), if_neg h7]; rfl
      · simp only [if_neg c1]
        by_cases c2 : e - b < 16 * c.T
        · simp only [if_pos c2]
          rw [if_neg (show ¬ (1 : Int) = 3 by omega), if_neg (show ¬ (1 : Int) = 2 by omega), if_neg (show ¬ (1 : Int) = 0 by omega), and_255 _ (by omega), if_neg (show ¬ e - b ≥ 24 * c.T by omega), if_neg (show ¬ e - b ≥ 16 * c.T by omega)]
          by_cases h7 : n ≥ 7
          · rw [if_pos (show (n : Int) + 1 ≥ 8 by omega), if_pos h7]; rfl
          · rw [if_neg (show ¬ (n : Int) + 1 ≥ 8 by omega), if_neg h7]; rfl
        · simp only [if_neg c2]
          by_cases c3 : e - b < 24 * c.T
          · simp only [if_pos c3]
            rw [if_neg (show ¬ (2 : Int) = 3 by omega), if_pos trivial, if_neg (show ¬ e - b ≥ 24 * c.T by omega), if_pos (show e - b ≥ 16 * c.T by omega)]
            rfl
          · simp only [if_neg c3]
            rw [if_pos trivial, if_pos (show (n : Int) > 0 by omega), if_pos (show e - b ≥ 24 * c.T by omega)]
            rfl
theorem encP_encM (a : A) : encP a = encM (if a.st then 1 else 0) a.at_ (a.low.getD 0) (if a.low.isSome then 1 else 0) a.md := rfl
theorem late_is (T : Int) (hT : 1 ≤ T ∧ T ≤ 1048576) (m : Md) (hm : WfM m) (q b x to : Int) : (if (encM 1 q b x m).Count < 0 then (if IntKind.i64.wrap ((encM 1 q b x m).Acc + IntKind.i64.wrap (8 * T)) < to then true else false) else false) = (match m with | .rst f t => decide (t + 8 * T < to) | _ => false) := by
  cases m with
  | bits n f acc =>
    have : (encM 1 q b x (.bits n f acc)).Count = n := rfl
    rw [this, if_neg (by omega)]
  | rst f t =>
    obtain ⟨h1, h2, h3, h4⟩ := hm
    have h5 : (encM 1 q b x (.rst f t)).Count = -1 := rfl
    have h6 : (encM 1 q b x (.rst f t)).Acc = t := rfl
    rw [h5, h6, if_pos (by omega), i64_ok (n := 8 * T) (by omega), i64_ok (by omega)]
    by_cases h : t + 8 * T < to <;> simp [h]
theorem pulse_len (T : Int) (m : Md) (a b : Int) : (pulseA T m a b).2.length ≤ 2 := by
  have hp : ∀ n f acc, (plainA T n f acc a b).2.length ≤ 1 := fun n f acc => by
    unfold plainA
    repeat' split
    all_goals simp
  cases m with
  | bits n f acc => have := hp n f acc; unfold pulseA; dsimp only; omega
  | rst f t =>
    have := hp 0 0 0
    unfold pulseA; dsimp only
    split
    · simp
    · simp only [List.length_cons]; omega
theorem step_is (M : Nat) (c : Onewire) (a : A) (e : Event) (h : Wf a) : onewire_Step M c (encP a) e = some (encP (stepA c a e).1, (stepA c a e).2) := by
  simp only [onewire_Step, b_onewire_Step, check_is, Option.bind_some, bne_if, beq_if, bif_if]
  by_cases hc : OkC c
  · rw [if_pos hc, if_pos rfl, accepts_is M a e c hc, Option.bind_some]
    unfold stepA
    by_cases hin : In c a e
    · rw [decide_eq_true hin, if_pos hin]
      simp only [Bool.not_true, Bool.cond_false]
      have hc' := hc
      unfold OkC at hc'
      obtain ⟨g1, g2, g3, g4, g5, g6, g7⟩ := hin
      obtain ⟨w1, w2, w3, w4, w5⟩ := h
      have hprev : (encP a).Prev = if a.low.isSome then 1 else 0 := rfl
      unfold Vld at g2
      by_cases hv : e.Value = 0
      · rw [if_pos hv, if_pos hv, hprev]
        cases hl : a.low with
        | none =>
          simp only [Option.isSome_none, Option.getD_none, Bool.false_eq_true, if_false, if_true]
          rfl
        | some b =>
          simp only [Option.isSome_some, Option.getD_some, if_true]
          rw [if_neg (by omega)]
          unfold encP
          rw [hl]
          rfl
      · rw [if_neg hv, if_neg hv, hprev]
        unfold highA
        cases hl : a.low with
        | some b =>
          simp only [Option.isSome_some, if_true]
          have hb := w4 b hl
          have hst : State.mk 1 e.To (encP a).From (encP a).Count (encP a).Acc (encP a).Aux 1 (encP a).Data = encM 1 e.To b 1 a.md := by
            unfold encP encM; rw [hl]; rfl
          rw [hst, pulse_is M c hc 1 e.To b 1 a.md e.From w1 hb ⟨by omega, by omega⟩, Option.bind_some]
          dsimp only
          have hwf := pulse_wf c.T (by omega) a.md b e.From w1 hb ⟨by omega, by omega⟩
          have hlen := pulse_len c.T a.md b e.From
          have hlate := late_is c.T hc' (pulseA c.T a.md b e.From).1 hwf e.To b 1 e.To
          generalize pulseA c.T a.md b e.From = r at *
          obtain ⟨m, l⟩ := r
          dsimp only at *
          cases m with
          | bits n f acc =>
            have : (encM 1 e.To b 1 (.bits n f acc)).Count = n := rfl
            rw [this, if_neg (by omega)]
            simp only [lateA, List.append_nil]
            rfl
          | rst f t =>
            obtain ⟨k1, k2, k3, k4⟩ := hwf
            have h5 : (encM 1 e.To b 1 (.rst f t)).Count = -1 := rfl
            have h6 : (encM 1 e.To b 1 (.rst f t)).Acc = t := rfl
            rw [h5, h6, if_pos (show (-1 : Int) < 0 by omega), i64_ok (n := 8 * c.T) (by omega), i64_ok (n := t + 8 * c.T) (by omega)]
            simp only [lateA]
            by_cases hh : t + 8 * c.T < e.To
            · rw [if_pos hh, if_pos (by omega), if_pos hh]; rfl
            · rw [if_neg hh, if_neg hh, List.append_nil]; rfl
        | none =>
          simp only [Option.isSome_none, Bool.false_eq_true, if_false]
          rw [if_neg (show ¬ (0 : Int) = 1 by omega)]
          have hcnt : (encP a).Count = match a.md with | .bits n _ _ => (n : Int) | .rst _ _ => -1 := rfl
          have hacc : (encP a).Acc = match a.md with | .bits _ _ c => c | .rst _ t => t := rfl
          rw [hcnt, hacc]
          have hep : encP a = encM (if a.st then 1 else 0) a.at_ 0 0 a.md := by rw [encP_encM, hl]; rfl
          rw [hep]
          cases hm : a.md with
          | bits n f acc =>
            dsimp only
            rw [if_neg (show ¬ (n : Int) < 0 by omega)]
            rfl
          | rst f t =>
            rw [hm] at w1
            obtain ⟨k1, k2, k3, k4⟩ := w1
            dsimp only
            rw [if_pos (show (-1 : Int) < 0 by omega), i64_ok (n := 8 * c.T) (by omega), i64_ok (n := t + 8 * c.T) (by omega)]
            simp only [lateA, List.nil_append]
            by_cases hh : t + 8 * c.T < e.To
            · rw [if_pos hh, if_pos hh]; rfl
            · rw [if_neg hh, if_neg hh]; rfl
    · rw [decide_eq_false hin, if_neg hin]; rfl
  · rw [if_neg hc]
    unfold stepA
    have hn : ¬ In c a e := fun hh => hc hh.1
    rw [if_neg (show ¬ (2 : Int) = 0 by omega), if_neg hn]
theorem end_is (M : Nat) (c : Onewire) (a : A) : onewire_End M c (encP a) = some (endA c a) := by
  simp only [onewire_End, b_onewire_End, check_is, Option.bind_some, bne_if, beq_if, bif_if, endA]
  by_cases hc : OkC c
  · simp only [if_pos hc, if_true]
    have hcnt : (encP a).Count = match a.md with | .bits n _ _ => (n : Int) | .rst _ _ => -1 := rfl
    have hacc : (encP a).Acc = match a.md with | .bits _ _ c => c | .rst _ t => t := rfl
    have hf : (encP a).From = match a.md with | .bits _ f _ => f | .rst f _ => f := rfl
    rw [hcnt, hacc, hf]
    cases a.md with
    | bits n f acc =>
      dsimp only
      by_cases hn : n = 0
      · rw [if_pos (by omega), if_pos hn]
      · rw [if_neg (by omega), if_neg (by omega), if_neg hn]; rfl
    | rst f t =>
      dsimp only
      rw [if_neg (by omega), if_pos (by omega)]
  · simp only [if_neg hc]; rfl
end Go.Abs.K
