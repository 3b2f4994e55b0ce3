/- The codec of the seat: what elements of rows are, what structs are. -/
import Derived.Test.YtlpileejhdadaaaA32
import Derived.Test.YtlpileejhdadaaaProg
import Derived.KernelRfl
set_option linter.unusedVariables false
set_option linter.unusedSimpArgs false
namespace Go.Abs.K
open Go Go.Abs Go.Proofs
structure Uart where
  T_Num : Int
  T_Den : Int
  Bits : Int
  Parity : Int
  Stop : Int
def dflt_Uart : Uart := ⟨0, 0, 0, 0, 0⟩
abbrev cells_Uart (x : Uart) : List Sc := [.int .i64 x.T_Num, .int .i64 x.T_Den, .int .i64 x.Bits, .int .i64 x.Parity, .int .i64 x.Stop]
def of_Uart : List Sc → Option Uart
  | [.int .i64 a0, .int .i64 a1, .int .i64 a2, .int .i64 a3, .int .i64 a4] => some ⟨a0, a1, a2, a3, a4⟩
  | _ => none
theorem of_Uart_ok (l : List Sc) (a : Uart) (h : of_Uart l = some a) : cells_Uart a = l := by
  unfold of_Uart at h
  split at h
  · injection h with h; subst h; rfl
  · cases h
structure Event where
  Kind : Int
  From : Int
  To : Int
  Value : Int
  Aux : Int
  Data : ByteArray
  Fault : Int
def dflt_Event : Event := ⟨0, 0, 0, 0, 0, ByteArray.empty, 0⟩
abbrev cells_Event (x : Event) : List Sc := [.int .i64 x.Kind, .int .i64 x.From, .int .i64 x.To, .int .i64 x.Value, .int .i64 x.Aux, .str x.Data, .int .i64 x.Fault]
def of_Event : List Sc → Option Event
  | [.int .i64 a0, .int .i64 a1, .int .i64 a2, .int .i64 a3, .int .i64 a4, .str a5, .int .i64 a6] => some ⟨a0, a1, a2, a3, a4, a5, a6⟩
  | _ => none
theorem of_Event_ok (l : List Sc) (a : Event) (h : of_Event l = some a) : cells_Event a = l := by
  unfold of_Event at h
  split at h
  · injection h with h; subst h; rfl
  · cases h
structure State where
  Phase : Int
  At : Int
  From : Int
  Count : Int
  Acc : Int
  Aux : Int
  Prev : Int
  Data : ByteArray
def dflt_State : State := ⟨0, 0, 0, 0, 0, 0, 0, ByteArray.empty⟩
abbrev cells_State (x : State) : List Sc := [.int .i64 x.Phase, .int .i64 x.At, .int .i64 x.From, .int .i64 x.Count, .int .i64 x.Acc, .int .i64 x.Aux, .int .i64 x.Prev, .str x.Data]
def of_State : List Sc → Option State
  | [.int .i64 a0, .int .i64 a1, .int .i64 a2, .int .i64 a3, .int .i64 a4, .int .i64 a5, .int .i64 a6, .str a7] => some ⟨a0, a1, a2, a3, a4, a5, a6, a7⟩
  | _ => none
theorem of_State_ok (l : List Sc) (a : State) (h : of_State l = some a) : cells_State a = l := by
  unfold of_State at h
  split at h
  · injection h with h; subst h; rfl
  · cases h
structure Ratio where
  Num : Int
  Den : Int
def dflt_Ratio : Ratio := ⟨0, 0⟩
abbrev cells_Ratio (x : Ratio) : List Sc := [.int .i64 x.Num, .int .i64 x.Den]
def of_Ratio : List Sc → Option Ratio
  | [.int .i64 a0, .int .i64 a1] => some ⟨a0, a1⟩
  | _ => none
theorem of_Ratio_ok (l : List Sc) (a : Ratio) (h : of_Ratio l = some a) : cells_Ratio a = l := by
  unfold of_Ratio at h
  split at h
  · injection h with h; subst h; rfl
  · cases h
structure Item where
  Gap : Int
  Value : Int
  Aux : Int
  Data : ByteArray
  Fault : Int
def dflt_Item : Item := ⟨0, 0, 0, ByteArray.empty, 0⟩
abbrev cells_Item (x : Item) : List Sc := [.int .i64 x.Gap, .int .i64 x.Value, .int .i64 x.Aux, .str x.Data, .int .i64 x.Fault]
def of_Item : List Sc → Option Item
  | [.int .i64 a0, .int .i64 a1, .int .i64 a2, .str a3, .int .i64 a4] => some ⟨a0, a1, a2, a3, a4⟩
  | _ => none
theorem of_Item_ok (l : List Sc) (a : Item) (h : of_Item l = some a) : cells_Item a = l := by
  unfold of_Item at h
  split at h
  · injection h with h; subst h; rfl
  · cases h
structure Run where
  Level : Int
  Ticks : Int
def dflt_Run : Run := ⟨0, 0⟩
abbrev cells_Run (x : Run) : List Sc := [.int .i64 x.Level, .int .i64 x.Ticks]
def of_Run : List Sc → Option Run
  | [.int .i64 a0, .int .i64 a1] => some ⟨a0, a1⟩
  | _ => none
theorem of_Run_ok (l : List Sc) (a : Run) (h : of_Run l = some a) : cells_Run a = l := by
  unfold of_Run at h
  split at h
  · injection h with h; subst h; rfl
  · cases h
def EltF : TypeId → Type
  | 35 => Event
  | 54 => Item
  | 59 => Run
  | _ => Unit
def encF : (e : TypeId) → EltF e → List Sc
  | 35, x => cells_Event x
  | 54, x => cells_Item x
  | 59, x => cells_Run x
  | _, _ => []
def decF (e : TypeId) (l : List Sc) : Option (EltF e) :=
  if h : e = 35 then by subst h; exact of_Event l else
  if h : e = 54 then by subst h; exact of_Item l else
  if h : e = 59 then by subst h; exact of_Run l else
  none
def dfltF (e : TypeId) : EltF e := by
  unfold EltF
  split
  · exact dflt_Event
  · exact dflt_Item
  · exact dflt_Run
  · exact ()
def bytesF : (e : TypeId) → Option (ByteArray → List (EltF e))
  | _ => none
def strF : (e : TypeId) → Option (List (EltF e) → ByteArray)
  | _ => none
def szF : TypeId → Nat
  | 35 => 7
  | 54 => 5
  | 59 => 2
  | _ => 1
def hasF (e : TypeId) : Bool := Nat.beq e 35 || Nat.beq e 54 || Nat.beq e 59
def C : Codec := { Elt := EltF, has := hasF, sz := szF, enc := encF, dec := decF, dflt := dfltF, bytes := bytesF, str := strF }
theorem has_cases {e : TypeId} (h : C.has e = true) : e = 35 ∨ e = 54 ∨ e = 59 := by
  have h : hasF e = true := h
  simp only [hasF, Bool.or_eq_true, Nat.beq_eq] at h
  simpa [or_assoc] using h
theorem good : C.Good Try.prog where
  sz := by
    intro e h
    rcases has_cases h with rfl | rfl | rfl
    · exact ⟨by kernel_rfl, of_decide_eq_true (by kernel_rfl), of_decide_eq_true (by kernel_rfl)⟩
    · exact ⟨by kernel_rfl, of_decide_eq_true (by kernel_rfl), of_decide_eq_true (by kernel_rfl)⟩
    · exact ⟨by kernel_rfl, of_decide_eq_true (by kernel_rfl), of_decide_eq_true (by kernel_rfl)⟩
  zero := by
    intro e h
    rcases has_cases h with rfl | rfl | rfl
    · exact zero_of (by kernel_rfl)
    · exact zero_of (by kernel_rfl)
    · exact zero_of (by kernel_rfl)
  len := by
    intro e x h
    rcases has_cases h with rfl | rfl | rfl
    · rfl
    · rfl
    · rfl
  plain := by
    intro e x h
    rcases has_cases h with rfl | rfl | rfl
    · rfl
    · rfl
    · rfl
  dec := by
    intro e cs x h
    show hasF e = true ∧ encF e x = cs
    have h : decF e cs = some x := h
    by_cases h35 : e = 35
    · subst h35; exact ⟨rfl, of_Event_ok _ _ h⟩
    by_cases h54 : e = 54
    · subst h54; exact ⟨rfl, of_Item_ok _ _ h⟩
    by_cases h59 : e = 59
    · subst h59; exact ⟨rfl, of_Run_ok _ _ h⟩
    simp only [decF, h35, h54, h59, dite_false] at h
    cases h
  bytes := by
    intro e f h
    have h : bytesF e = some f := h
    unfold bytesF at h
    split at h
    · cases h
  str := by
    intro e f h
    have h : strF e = some f := h
    unfold strF at h
    split at h
    · cases h
theorem full : Full C Try.prog := by
  intro e ls ss h hl hs
  rcases has_cases h with rfl | rfl | rfl
  · have h2 : tys Try.prog 8 35 = some [.int .i64, .int .i64, .int .i64, .int .i64, .int .i64, .string, .int .i64] := by kernel_rfl
    rw [h2] at hl
    injection hl with hl; subst hl
    obtain ⟨s0, r0, rfl, h0, hs⟩ := hs.uncons
    obtain ⟨s1, r1, rfl, h1, hs⟩ := hs.uncons
    obtain ⟨s2, r2, rfl, h2, hs⟩ := hs.uncons
    obtain ⟨s3, r3, rfl, h3, hs⟩ := hs.uncons
    obtain ⟨s4, r4, rfl, h4, hs⟩ := hs.uncons
    obtain ⟨s5, r5, rfl, h5, hs⟩ := hs.uncons
    obtain ⟨s6, r6, rfl, h6, hs⟩ := hs.uncons
    obtain rfl := hs.unnil
    obtain ⟨n0, rfl⟩ := suit_int h0
    obtain ⟨n1, rfl⟩ := suit_int h1
    obtain ⟨n2, rfl⟩ := suit_int h2
    obtain ⟨n3, rfl⟩ := suit_int h3
    obtain ⟨n4, rfl⟩ := suit_int h4
    obtain ⟨n5, rfl⟩ := suit_str h5
    obtain ⟨n6, rfl⟩ := suit_int h6
    exact ⟨⟨n0, n1, n2, n3, n4, n5, n6⟩, rfl⟩
  · have h2 : tys Try.prog 8 54 = some [.int .i64, .int .i64, .int .i64, .string, .int .i64] := by kernel_rfl
    rw [h2] at hl
    injection hl with hl; subst hl
    obtain ⟨s0, r0, rfl, h0, hs⟩ := hs.uncons
    obtain ⟨s1, r1, rfl, h1, hs⟩ := hs.uncons
    obtain ⟨s2, r2, rfl, h2, hs⟩ := hs.uncons
    obtain ⟨s3, r3, rfl, h3, hs⟩ := hs.uncons
    obtain ⟨s4, r4, rfl, h4, hs⟩ := hs.uncons
    obtain rfl := hs.unnil
    obtain ⟨n0, rfl⟩ := suit_int h0
    obtain ⟨n1, rfl⟩ := suit_int h1
    obtain ⟨n2, rfl⟩ := suit_int h2
    obtain ⟨n3, rfl⟩ := suit_str h3
    obtain ⟨n4, rfl⟩ := suit_int h4
    exact ⟨⟨n0, n1, n2, n3, n4⟩, rfl⟩
  · have h2 : tys Try.prog 8 59 = some [.int .i64, .int .i64] := by kernel_rfl
    rw [h2] at hl
    injection hl with hl; subst hl
    obtain ⟨s0, r0, rfl, h0, hs⟩ := hs.uncons
    obtain ⟨s1, r1, rfl, h1, hs⟩ := hs.uncons
    obtain rfl := hs.unnil
    obtain ⟨n0, rfl⟩ := suit_int h0
    obtain ⟨n1, rfl⟩ := suit_int h1
    exact ⟨⟨n0, n1⟩, rfl⟩
theorem fit : Fit Try.prog := fit_of (by kernel_rfl) (by kernel_rfl)
abbrev tys_Uart : List TypeDesc := [.int .i64, .int .i64, .int .i64, .int .i64, .int .i64]
def wf_Uart (x : Uart) : Prop := (IntKind.i64.min ≤ x.T_Num ∧ x.T_Num ≤ IntKind.i64.max) ∧ (IntKind.i64.min ≤ x.T_Den ∧ x.T_Den ≤ IntKind.i64.max) ∧ (IntKind.i64.min ≤ x.Bits ∧ x.Bits ≤ IntKind.i64.max) ∧ (IntKind.i64.min ≤ x.Parity ∧ x.Parity ≤ IntKind.i64.max) ∧ (IntKind.i64.min ≤ x.Stop ∧ x.Stop ≤ IntKind.i64.max) ∧ True
theorem wf_Uart_of (x : Uart) (h : SuitAll tys_Uart (cells_Uart x)) : wf_Uart x := ⟨h.1.2, h.2.1.2, h.2.2.1.2, h.2.2.2.1.2, h.2.2.2.2.1.2, trivial⟩
theorem told_Uart (cs : List Sc) (hs : SuitAll tys_Uart cs) : ∃ x, cs = cells_Uart x ∧ wf_Uart x := by
  have h := hs
  obtain ⟨s0, r0, rfl, h0, hs⟩ := hs.uncons
  obtain ⟨s1, r1, rfl, h1, hs⟩ := hs.uncons
  obtain ⟨s2, r2, rfl, h2, hs⟩ := hs.uncons
  obtain ⟨s3, r3, rfl, h3, hs⟩ := hs.uncons
  obtain ⟨s4, r4, rfl, h4, hs⟩ := hs.uncons
  obtain rfl := hs.unnil
  obtain ⟨n0, rfl⟩ := suit_int h0
  obtain ⟨n1, rfl⟩ := suit_int h1
  obtain ⟨n2, rfl⟩ := suit_int h2
  obtain ⟨n3, rfl⟩ := suit_int h3
  obtain ⟨n4, rfl⟩ := suit_int h4
  exact ⟨⟨n0, n1, n2, n3, n4⟩, rfl, wf_Uart_of _ h⟩
abbrev tys_Event : List TypeDesc := [.int .i64, .int .i64, .int .i64, .int .i64, .int .i64, .string, .int .i64]
def wf_Event (x : Event) : Prop := (IntKind.i64.min ≤ x.Kind ∧ x.Kind ≤ IntKind.i64.max) ∧ (IntKind.i64.min ≤ x.From ∧ x.From ≤ IntKind.i64.max) ∧ (IntKind.i64.min ≤ x.To ∧ x.To ≤ IntKind.i64.max) ∧ (IntKind.i64.min ≤ x.Value ∧ x.Value ≤ IntKind.i64.max) ∧ (IntKind.i64.min ≤ x.Aux ∧ x.Aux ≤ IntKind.i64.max) ∧ x.Data.size ≤ 140737488351232 ∧ (IntKind.i64.min ≤ x.Fault ∧ x.Fault ≤ IntKind.i64.max) ∧ True
theorem wf_Event_of (x : Event) (h : SuitAll tys_Event (cells_Event x)) : wf_Event x := ⟨h.1.2, h.2.1.2, h.2.2.1.2, h.2.2.2.1.2, h.2.2.2.2.1.2, h.2.2.2.2.2.1, h.2.2.2.2.2.2.1.2, trivial⟩
theorem told_Event (cs : List Sc) (hs : SuitAll tys_Event cs) : ∃ x, cs = cells_Event x ∧ wf_Event x := by
  have h := hs
  obtain ⟨s0, r0, rfl, h0, hs⟩ := hs.uncons
  obtain ⟨s1, r1, rfl, h1, hs⟩ := hs.uncons
  obtain ⟨s2, r2, rfl, h2, hs⟩ := hs.uncons
  obtain ⟨s3, r3, rfl, h3, hs⟩ := hs.uncons
  obtain ⟨s4, r4, rfl, h4, hs⟩ := hs.uncons
  obtain ⟨s5, r5, rfl, h5, hs⟩ := hs.uncons
  obtain ⟨s6, r6, rfl, h6, hs⟩ := hs.uncons
  obtain rfl := hs.unnil
  obtain ⟨n0, rfl⟩ := suit_int h0
  obtain ⟨n1, rfl⟩ := suit_int h1
  obtain ⟨n2, rfl⟩ := suit_int h2
  obtain ⟨n3, rfl⟩ := suit_int h3
  obtain ⟨n4, rfl⟩ := suit_int h4
  obtain ⟨n5, rfl⟩ := suit_str h5
  obtain ⟨n6, rfl⟩ := suit_int h6
  exact ⟨⟨n0, n1, n2, n3, n4, n5, n6⟩, rfl, wf_Event_of _ h⟩
abbrev tys_State : List TypeDesc := [.int .i64, .int .i64, .int .i64, .int .i64, .int .i64, .int .i64, .int .i64, .string]
def wf_State (x : State) : Prop := (IntKind.i64.min ≤ x.Phase ∧ x.Phase ≤ IntKind.i64.max) ∧ (IntKind.i64.min ≤ x.At ∧ x.At ≤ IntKind.i64.max) ∧ (IntKind.i64.min ≤ x.From ∧ x.From ≤ IntKind.i64.max) ∧ (IntKind.i64.min ≤ x.Count ∧ x.Count ≤ IntKind.i64.max) ∧ (IntKind.i64.min ≤ x.Acc ∧ x.Acc ≤ IntKind.i64.max) ∧ (IntKind.i64.min ≤ x.Aux ∧ x.Aux ≤ IntKind.i64.max) ∧ (IntKind.i64.min ≤ x.Prev ∧ x.Prev ≤ IntKind.i64.max) ∧ x.Data.size ≤ 140737488351232 ∧ True
theorem wf_State_of (x : State) (h : SuitAll tys_State (cells_State x)) : wf_State x := ⟨h.1.2, h.2.1.2, h.2.2.1.2, h.2.2.2.1.2, h.2.2.2.2.1.2, h.2.2.2.2.2.1.2, h.2.2.2.2.2.2.1.2, h.2.2.2.2.2.2.2.1, trivial⟩
theorem told_State (cs : List Sc) (hs : SuitAll tys_State cs) : ∃ x, cs = cells_State x ∧ wf_State x := by
  have h := hs
  obtain ⟨s0, r0, rfl, h0, hs⟩ := hs.uncons
  obtain ⟨s1, r1, rfl, h1, hs⟩ := hs.uncons
  obtain ⟨s2, r2, rfl, h2, hs⟩ := hs.uncons
  obtain ⟨s3, r3, rfl, h3, hs⟩ := hs.uncons
  obtain ⟨s4, r4, rfl, h4, hs⟩ := hs.uncons
  obtain ⟨s5, r5, rfl, h5, hs⟩ := hs.uncons
  obtain ⟨s6, r6, rfl, h6, hs⟩ := hs.uncons
  obtain ⟨s7, r7, rfl, h7, hs⟩ := hs.uncons
  obtain rfl := hs.unnil
  obtain ⟨n0, rfl⟩ := suit_int h0
  obtain ⟨n1, rfl⟩ := suit_int h1
  obtain ⟨n2, rfl⟩ := suit_int h2
  obtain ⟨n3, rfl⟩ := suit_int h3
  obtain ⟨n4, rfl⟩ := suit_int h4
  obtain ⟨n5, rfl⟩ := suit_int h5
  obtain ⟨n6, rfl⟩ := suit_int h6
  obtain ⟨n7, rfl⟩ := suit_str h7
  exact ⟨⟨n0, n1, n2, n3, n4, n5, n6, n7⟩, rfl, wf_State_of _ h⟩
abbrev tys_Ratio : List TypeDesc := [.int .i64, .int .i64]
def wf_Ratio (x : Ratio) : Prop := (IntKind.i64.min ≤ x.Num ∧ x.Num ≤ IntKind.i64.max) ∧ (IntKind.i64.min ≤ x.Den ∧ x.Den ≤ IntKind.i64.max) ∧ True
theorem wf_Ratio_of (x : Ratio) (h : SuitAll tys_Ratio (cells_Ratio x)) : wf_Ratio x := ⟨h.1.2, h.2.1.2, trivial⟩
theorem told_Ratio (cs : List Sc) (hs : SuitAll tys_Ratio cs) : ∃ x, cs = cells_Ratio x ∧ wf_Ratio x := by
  have h := hs
  obtain ⟨s0, r0, rfl, h0, hs⟩ := hs.uncons
  obtain ⟨s1, r1, rfl, h1, hs⟩ := hs.uncons
  obtain rfl := hs.unnil
  obtain ⟨n0, rfl⟩ := suit_int h0
  obtain ⟨n1, rfl⟩ := suit_int h1
  exact ⟨⟨n0, n1⟩, rfl, wf_Ratio_of _ h⟩
abbrev tys_Item : List TypeDesc := [.int .i64, .int .i64, .int .i64, .string, .int .i64]
def wf_Item (x : Item) : Prop := (IntKind.i64.min ≤ x.Gap ∧ x.Gap ≤ IntKind.i64.max) ∧ (IntKind.i64.min ≤ x.Value ∧ x.Value ≤ IntKind.i64.max) ∧ (IntKind.i64.min ≤ x.Aux ∧ x.Aux ≤ IntKind.i64.max) ∧ x.Data.size ≤ 140737488351232 ∧ (IntKind.i64.min ≤ x.Fault ∧ x.Fault ≤ IntKind.i64.max) ∧ True
theorem wf_Item_of (x : Item) (h : SuitAll tys_Item (cells_Item x)) : wf_Item x := ⟨h.1.2, h.2.1.2, h.2.2.1.2, h.2.2.2.1, h.2.2.2.2.1.2, trivial⟩
theorem told_Item (cs : List Sc) (hs : SuitAll tys_Item cs) : ∃ x, cs = cells_Item x ∧ wf_Item x := by
  have h := hs
  obtain ⟨s0, r0, rfl, h0, hs⟩ := hs.uncons
  obtain ⟨s1, r1, rfl, h1, hs⟩ := hs.uncons
  obtain ⟨s2, r2, rfl, h2, hs⟩ := hs.uncons
  obtain ⟨s3, r3, rfl, h3, hs⟩ := hs.uncons
  obtain ⟨s4, r4, rfl, h4, hs⟩ := hs.uncons
  obtain rfl := hs.unnil
  obtain ⟨n0, rfl⟩ := suit_int h0
  obtain ⟨n1, rfl⟩ := suit_int h1
  obtain ⟨n2, rfl⟩ := suit_int h2
  obtain ⟨n3, rfl⟩ := suit_str h3
  obtain ⟨n4, rfl⟩ := suit_int h4
  exact ⟨⟨n0, n1, n2, n3, n4⟩, rfl, wf_Item_of _ h⟩
abbrev tys_Run : List TypeDesc := [.int .i64, .int .i64]
def wf_Run (x : Run) : Prop := (IntKind.i64.min ≤ x.Level ∧ x.Level ≤ IntKind.i64.max) ∧ (IntKind.i64.min ≤ x.Ticks ∧ x.Ticks ≤ IntKind.i64.max) ∧ True
theorem wf_Run_of (x : Run) (h : SuitAll tys_Run (cells_Run x)) : wf_Run x := ⟨h.1.2, h.2.1.2, trivial⟩
theorem told_Run (cs : List Sc) (hs : SuitAll tys_Run cs) : ∃ x, cs = cells_Run x ∧ wf_Run x := by
  have h := hs
  obtain ⟨s0, r0, rfl, h0, hs⟩ := hs.uncons
  obtain ⟨s1, r1, rfl, h1, hs⟩ := hs.uncons
  obtain rfl := hs.unnil
  obtain ⟨n0, rfl⟩ := suit_int h0
  obtain ⟨n1, rfl⟩ := suit_int h1
  exact ⟨⟨n0, n1⟩, rfl, wf_Run_of _ h⟩
def keep (f : FuncId) (r : Nat) : List Nat := match f, r with
  | 3, 5 => [1, 2, 5, 6, 7, 147457]
  | 9, 4 => [0, 3, 147456]
  | 22, 7 => [1, 2, 26, 27, 28, 225281, 225306]
  | 22, 18 => [2, 10, 11, 12, 44, 45, 46, 225324]
  | 22, 23 => [2, 10, 11, 12, 14, 15, 16, 44, 45, 46, 59, 60, 225324]
  | 55, 1 => [0, 1]
  | 60, 5 => [3, 9, 10, 11, 245769]
  | 61, 3 => [3, 7, 8, 9, 245763, 245767]
  | 25, 7 => [2, 8, 9, 21, 22, 23, 147464, 245781]
  | 19, 4 => [2, 5, 6, 13, 14, 15, 147461, 147469]
  | 13, 8 => [3, 4, 5, 6, 8, 9, 147464]
  | 26, 3 => [0, 3, 4, 5, 245760, 147459]
  | 14, 9 => [3, 4, 5, 6, 8, 9, 147464]
  | 15, 4 => [0, 1, 5, 147456, 147457]
  | 20, 3 => [1, 2, 5, 6, 7, 147457, 147462]
  | 21, 4 => [0, 3, 225280]
  | 23, 8 => [1, 2, 7, 8, 225281, 245767]
  | 23, 16 => [1, 2, 7, 8, 10, 11, 12, 225281, 245767]
  | 50, 5 => [0, 4, 5, 245760]
  | 24, 4 => [0, 1, 5, 245760, 245761]
  | 6, 8 => [1, 2, 5, 7, 8, 9, 10, 225281, 245765, 147463]
  | 28, 2 => [0, 3, 147456]
  | 29, 3 => [0, 1, 5, 6, 147456, 147461]
  | 8, 5 => [1, 3, 5, 7, 8, 147457, 147463]
  | _, _ => []
noncomputable def body3 : Code := (Try.f3.body).getD .skip
noncomputable def body9 : Code := (Try.f9.body).getD .skip
noncomputable def body10 : Code := (Try.f10.body).getD .skip
noncomputable def body22 : Code := (Try.f22.body).getD .skip
noncomputable def body16 : Code := (Try.f16.body).getD .skip
noncomputable def body38 : Code := (Try.f38.body).getD .skip
noncomputable def body56 : Code := (Try.f56.body).getD .skip
noncomputable def body55 : Code := (Try.f55.body).getD .skip
noncomputable def body39 : Code := (Try.f39.body).getD .skip
noncomputable def body57 : Code := (Try.f57.body).getD .skip
noncomputable def body42 : Code := (Try.f42.body).getD .skip
noncomputable def body44 : Code := (Try.f44.body).getD .skip
noncomputable def body32 : Code := (Try.f32.body).getD .skip
noncomputable def body53 : Code := (Try.f53.body).getD .skip
noncomputable def body63 : Code := (Try.f63.body).getD .skip
noncomputable def body64 : Code := (Try.f64.body).getD .skip
noncomputable def body65 : Code := (Try.f65.body).getD .skip
noncomputable def body43 : Code := (Try.f43.body).getD .skip
noncomputable def body31 : Code := (Try.f31.body).getD .skip
noncomputable def body45 : Code := (Try.f45.body).getD .skip
noncomputable def body60 : Code := (Try.f60.body).getD .skip
noncomputable def body61 : Code := (Try.f61.body).getD .skip
noncomputable def body25 : Code := (Try.f25.body).getD .skip
noncomputable def body19 : Code := (Try.f19.body).getD .skip
noncomputable def body11 : Code := (Try.f11.body).getD .skip
noncomputable def body13 : Code := (Try.f13.body).getD .skip
noncomputable def body30 : Code := (Try.f30.body).getD .skip
noncomputable def body52 : Code := (Try.f52.body).getD .skip
noncomputable def body33 : Code := (Try.f33.body).getD .skip
noncomputable def body18 : Code := (Try.f18.body).getD .skip
noncomputable def body26 : Code := (Try.f26.body).getD .skip
noncomputable def body12 : Code := (Try.f12.body).getD .skip
noncomputable def body14 : Code := (Try.f14.body).getD .skip
noncomputable def body17 : Code := (Try.f17.body).getD .skip
noncomputable def body40 : Code := (Try.f40.body).getD .skip
noncomputable def body59 : Code := (Try.f59.body).getD .skip
noncomputable def body58 : Code := (Try.f58.body).getD .skip
noncomputable def body34 : Code := (Try.f34.body).getD .skip
noncomputable def body51 : Code := (Try.f51.body).getD .skip
noncomputable def body35 : Code := (Try.f35.body).getD .skip
noncomputable def body36 : Code := (Try.f36.body).getD .skip
noncomputable def body37 : Code := (Try.f37.body).getD .skip
noncomputable def body47 : Code := (Try.f47.body).getD .skip
noncomputable def body54 : Code := (Try.f54.body).getD .skip
noncomputable def body15 : Code := (Try.f15.body).getD .skip
noncomputable def body20 : Code := (Try.f20.body).getD .skip
noncomputable def body41 : Code := (Try.f41.body).getD .skip
noncomputable def body4 : Code := (Try.f4.body).getD .skip
noncomputable def body21 : Code := (Try.f21.body).getD .skip
noncomputable def body23 : Code := (Try.f23.body).getD .skip
noncomputable def body46 : Code := (Try.f46.body).getD .skip
noncomputable def body48 : Code := (Try.f48.body).getD .skip
noncomputable def body49 : Code := (Try.f49.body).getD .skip
noncomputable def body62 : Code := (Try.f62.body).getD .skip
noncomputable def body50 : Code := (Try.f50.body).getD .skip
noncomputable def body24 : Code := (Try.f24.body).getD .skip
noncomputable def body5 : Code := (Try.f5.body).getD .skip
noncomputable def body6 : Code := (Try.f6.body).getD .skip
noncomputable def body27 : Code := (Try.f27.body).getD .skip
noncomputable def body7 : Code := (Try.f7.body).getD .skip
noncomputable def body28 : Code := (Try.f28.body).getD .skip
noncomputable def body29 : Code := (Try.f29.body).getD .skip
noncomputable def body8 : Code := (Try.f8.body).getD .skip
def Ψ0 : Known C := fun _ => none
theorem Ψ0_ok : KnownOk C Try.prog Ψ0 := fun _ _ h => by cases h
end Go.Abs.K
