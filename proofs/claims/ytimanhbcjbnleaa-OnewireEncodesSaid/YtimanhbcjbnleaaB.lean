/- The codec of the seat: what elements of rows are, what structs are. -/
import Derived.Test.YtimanhbcjbnleaaA32
import Derived.Test.YtimanhbcjbnleaaProg
import Derived.KernelRfl
set_option linter.unusedVariables false
set_option linter.unusedSimpArgs false
namespace Go.Abs.K
open Go Go.Abs Go.Proofs
structure Onewire where
  T : Int
def dflt_Onewire : Onewire := ⟨0⟩
abbrev cells_Onewire (x : Onewire) : List Sc := [.int .i64 x.T]
def of_Onewire : List Sc → Option Onewire
  | [.int .i64 a0] => some ⟨a0⟩
  | _ => none
theorem of_Onewire_ok (l : List Sc) (a : Onewire) (h : of_Onewire l = some a) : cells_Onewire a = l := by
  unfold of_Onewire at h
  split at h
  · injection h with h; subst h; rfl
  · cases h
structure Event where
  Kind : Int
  From : Int
  To : Int
  Value : Int
  Aux : Int
  Data : ByteArray
  Fault : Int
def dflt_Event : Event := ⟨0, 0, 0, 0, 0, ByteArray.empty, 0⟩
abbrev cells_Event (x : Event) : List Sc := [.int .i64 x.Kind, .int .i64 x.From, .int .i64 x.To, .int .i64 x.Value, .int .i64 x.Aux, .str x.Data, .int .i64 x.Fault]
def of_Event : List Sc → Option Event
  | [.int .i64 a0, .int .i64 a1, .int .i64 a2, .int .i64 a3, .int .i64 a4, .str a5, .int .i64 a6] => some ⟨a0, a1, a2, a3, a4, a5, a6⟩
  | _ => none
theorem of_Event_ok (l : List Sc) (a : Event) (h : of_Event l = some a) : cells_Event a = l := by
  unfold of_Event at h
  split at h
  · injection h with h; subst h; rfl
  · cases h
structure State where
  Phase : Int
  At : Int
  From : Int
  Count : Int
  Acc : Int
  Aux : Int
  Prev : Int
  Data : ByteArray
def dflt_State : State := ⟨0, 0, 0, 0, 0, 0, 0, ByteArray.empty⟩
abbrev cells_State (x : State) : List Sc := [.int .i64 x.Phase, .int .i64 x.At, .int .i64 x.From, .int .i64 x.Count, .int .i64 x.Acc, .int .i64 x.Aux, .int .i64 x.Prev, .str x.Data]
def of_State : List Sc → Option State
  | [.int .i64 a0, .int .i64 a1, .int .i64 a2, .int .i64 a3, .int .i64 a4, .int .i64 a5, .int .i64 a6, .str a7] => some ⟨a0, a1, a2, a3, a4, a5, a6, a7⟩
  | _ => none
theorem of_State_ok (l : List Sc) (a : State) (h : of_State l = some a) : cells_State a = l := by
  unfold of_State at h
  split at h
  · injection h with h; subst h; rfl
  · cases h
structure Item where
  Gap : Int
  Value : Int
  Aux : Int
  Data : ByteArray
  Fault : Int
def dflt_Item : Item := ⟨0, 0, 0, ByteArray.empty, 0⟩
abbrev cells_Item (x : Item) : List Sc := [.int .i64 x.Gap, .int .i64 x.Value, .int .i64 x.Aux, .str x.Data, .int .i64 x.Fault]
def of_Item : List Sc → Option Item
  | [.int .i64 a0, .int .i64 a1, .int .i64 a2, .str a3, .int .i64 a4] => some ⟨a0, a1, a2, a3, a4⟩
  | _ => none
theorem of_Item_ok (l : List Sc) (a : Item) (h : of_Item l = some a) : cells_Item a = l := by
  unfold of_Item at h
  split at h
  · injection h with h; subst h; rfl
  · cases h
structure Run where
  Level : Int
  Ticks : Int
def dflt_Run : Run := ⟨0, 0⟩
abbrev cells_Run (x : Run) : List Sc := [.int .i64 x.Level, .int .i64 x.Ticks]
def of_Run : List Sc → Option Run
  | [.int .i64 a0, .int .i64 a1] => some ⟨a0, a1⟩
  | _ => none
theorem of_Run_ok (l : List Sc) (a : Run) (h : of_Run l = some a) : cells_Run a = l := by
  unfold of_Run at h
  split at h
  · injection h with h; subst h; rfl
  · cases h
def EltF : TypeId → Type
  | 33 => Event
  | 53 => Item
  | 58 => Run
  | 3 => Int
  | _ => Unit
def encF : (e : TypeId) → EltF e → List Sc
  | 33, x => cells_Event x
  | 53, x => cells_Item x
  | 58, x => cells_Run x
  | 3, x => [.int .i64 x]
  | _, _ => []
def decF (e : TypeId) (l : List Sc) : Option (EltF e) :=
  if h : e = 33 then by subst h; exact of_Event l else
  if h : e = 53 then by subst h; exact of_Item l else
  if h : e = 58 then by subst h; exact of_Run l else
  if h : e = 3 then by subst h; exact ofInt .i64 l else
  none
def dfltF (e : TypeId) : EltF e := by
  unfold EltF
  split
  · exact dflt_Event
  · exact dflt_Item
  · exact dflt_Run
  · exact (0 : Int)
  · exact ()
def bytesF : (e : TypeId) → Option (ByteArray → List (EltF e))
  | _ => none
def strF : (e : TypeId) → Option (List (EltF e) → ByteArray)
  | _ => none
def szF : TypeId → Nat
  | 33 => 7
  | 53 => 5
  | 58 => 2
  | _ => 1
def hasF (e : TypeId) : Bool := Nat.beq e 33 || Nat.beq e 53 || Nat.beq e 58 || Nat.beq e 3
def C : Codec := { Elt := EltF, has := hasF, sz := szF, enc := encF, dec := decF, dflt := dfltF, bytes := bytesF, str := strF }
theorem has_cases {e : TypeId} (h : C.has e = true) : e = 33 ∨ e = 53 ∨ e = 58 ∨ e = 3 := by
  have h : hasF e = true := h
  simp only [hasF, Bool.or_eq_true, Nat.beq_eq] at h
  simpa [or_assoc] using h
theorem good : C.Good Try.prog where
  sz := by
    intro e h
    rcases has_cases h with rfl | rfl | rfl | rfl
    · exact ⟨by kernel_rfl, of_decide_eq_true (by kernel_rfl), of_decide_eq_true (by kernel_rfl)⟩
    · exact ⟨by kernel_rfl, of_decide_eq_true (by kernel_rfl), of_decide_eq_true (by kernel_rfl)⟩
    · exact ⟨by kernel_rfl, of_decide_eq_true (by kernel_rfl), of_decide_eq_true (by kernel_rfl)⟩
    · exact ⟨by kernel_rfl, of_decide_eq_true (by kernel_rfl), of_decide_eq_true (by kernel_rfl)⟩
  zero := by
    intro e h
    rcases has_cases h with rfl | rfl | rfl | rfl
    · exact zero_of (by kernel_rfl)
    · exact zero_of (by kernel_rfl)
    · exact zero_of (by kernel_rfl)
    · exact zero_of (by kernel_rfl)
  len := by
    intro e x h
    rcases has_cases h with rfl | rfl | rfl | rfl
    · rfl
    · rfl
    · rfl
    · rfl
  plain := by
    intro e x h
    rcases has_cases h with rfl | rfl | rfl | rfl
    · rfl
    · rfl
    · rfl
    · rfl
  dec := by
    intro e cs x h
    show hasF e = true ∧ encF e x = cs
    have h : decF e cs = some x := h
    by_cases h33 : e = 33
    · subst h33; exact ⟨rfl, of_Event_ok _ _ h⟩
    by_cases h53 : e = 53
    · subst h53; exact ⟨rfl, of_Item_ok _ _ h⟩
    by_cases h58 : e = 58
    · subst h58; exact ⟨rfl, of_Run_ok _ _ h⟩
    by_cases h3 : e = 3
    · subst h3; exact ⟨rfl, ofInt_ok .i64 _ _ h⟩
    simp only [decF, h33, h53, h58, h3, dite_false] at h
    cases h
  bytes := by
    intro e f h
    have h : bytesF e = some f := h
    unfold bytesF at h
    split at h
    · cases h
  str := by
    intro e f h
    have h : strF e = some f := h
    unfold strF at h
    split at h
    · cases h
theorem full : Full C Try.prog := by
  intro e ls ss h hl hs
  rcases has_cases h with rfl | rfl | rfl | rfl
  · have h2 : tys Try.prog 8 33 = some [.int .i64, .int .i64, .int .i64, .int .i64, .int .i64, .string, .int .i64] := by kernel_rfl
    rw [h2] at hl
    injection hl with hl; subst hl
    obtain ⟨s0, r0, rfl, h0, hs⟩ := hs.uncons
    obtain ⟨s1, r1, rfl, h1, hs⟩ := hs.uncons
    obtain ⟨s2, r2, rfl, h2, hs⟩ := hs.uncons
    obtain ⟨s3, r3, rfl, h3, hs⟩ := hs.uncons
    obtain ⟨s4, r4, rfl, h4, hs⟩ := hs.uncons
    obtain ⟨s5, r5, rfl, h5, hs⟩ := hs.uncons
    obtain ⟨s6, r6, rfl, h6, hs⟩ := hs.uncons
    obtain rfl := hs.unnil
    obtain ⟨n0, rfl⟩ := suit_int h0
    obtain ⟨n1, rfl⟩ := suit_int h1
    obtain ⟨n2, rfl⟩ := suit_int h2
    obtain ⟨n3, rfl⟩ := suit_int h3
    obtain ⟨n4, rfl⟩ := suit_int h4
    obtain ⟨n5, rfl⟩ := suit_str h5
    obtain ⟨n6, rfl⟩ := suit_int h6
    exact ⟨⟨n0, n1, n2, n3, n4, n5, n6⟩, rfl⟩
  · have h2 : tys Try.prog 8 53 = some [.int .i64, .int .i64, .int .i64, .string, .int .i64] := by kernel_rfl
    rw [h2] at hl
    injection hl with hl; subst hl
    obtain ⟨s0, r0, rfl, h0, hs⟩ := hs.uncons
    obtain ⟨s1, r1, rfl, h1, hs⟩ := hs.uncons
    obtain ⟨s2, r2, rfl, h2, hs⟩ := hs.uncons
    obtain ⟨s3, r3, rfl, h3, hs⟩ := hs.uncons
    obtain ⟨s4, r4, rfl, h4, hs⟩ := hs.uncons
    obtain rfl := hs.unnil
    obtain ⟨n0, rfl⟩ := suit_int h0
    obtain ⟨n1, rfl⟩ := suit_int h1
    obtain ⟨n2, rfl⟩ := suit_int h2
    obtain ⟨n3, rfl⟩ := suit_str h3
    obtain ⟨n4, rfl⟩ := suit_int h4
    exact ⟨⟨n0, n1, n2, n3, n4⟩, rfl⟩
  · have h2 : tys Try.prog 8 58 = some [.int .i64, .int .i64] := by kernel_rfl
    rw [h2] at hl
    injection hl with hl; subst hl
    obtain ⟨s0, r0, rfl, h0, hs⟩ := hs.uncons
    obtain ⟨s1, r1, rfl, h1, hs⟩ := hs.uncons
    obtain rfl := hs.unnil
    obtain ⟨n0, rfl⟩ := suit_int h0
    obtain ⟨n1, rfl⟩ := suit_int h1
    exact ⟨⟨n0, n1⟩, rfl⟩
  · have h2 : tys Try.prog 8 3 = some [.int .i64] := by kernel_rfl
    rw [h2] at hl
    injection hl with hl; subst hl
    obtain ⟨s0, r0, rfl, h0, hs⟩ := hs.uncons
    obtain rfl := hs.unnil
    obtain ⟨n0, rfl⟩ := suit_int h0
    exact ⟨n0, rfl⟩
theorem fit : Fit Try.prog := fit_of (by kernel_rfl) (by kernel_rfl)
abbrev tys_Onewire : List TypeDesc := [.int .i64]
def wf_Onewire (x : Onewire) : Prop := (IntKind.i64.min ≤ x.T ∧ x.T ≤ IntKind.i64.max) ∧ True
theorem wf_Onewire_of (x : Onewire) (h : SuitAll tys_Onewire (cells_Onewire x)) : wf_Onewire x := ⟨h.1.2, trivial⟩
theorem told_Onewire (cs : List Sc) (hs : SuitAll tys_Onewire cs) : ∃ x, cs = cells_Onewire x ∧ wf_Onewire x := by
  have h := hs
  obtain ⟨s0, r0, rfl, h0, hs⟩ := hs.uncons
  obtain rfl := hs.unnil
  obtain ⟨n0, rfl⟩ := suit_int h0
  exact ⟨⟨n0⟩, rfl, wf_Onewire_of _ h⟩
abbrev tys_Event : List TypeDesc := [.int .i64, .int .i64, .int .i64, .int .i64, .int .i64, .string, .int .i64]
def wf_Event (x : Event) : Prop := (IntKind.i64.min ≤ x.Kind ∧ x.Kind ≤ IntKind.i64.max) ∧ (IntKind.i64.min ≤ x.From ∧ x.From ≤ IntKind.i64.max) ∧ (IntKind.i64.min ≤ x.To ∧ x.To ≤ IntKind.i64.max) ∧ (IntKind.i64.min ≤ x.Value ∧ x.Value ≤ IntKind.i64.max) ∧ (IntKind.i64.min ≤ x.Aux ∧ x.Aux ≤ IntKind.i64.max) ∧ x.Data.size ≤ 140737488351232 ∧ (IntKind.i64.min ≤ x.Fault ∧ x.Fault ≤ IntKind.i64.max) ∧ True
theorem wf_Event_of (x : Event) (h : SuitAll tys_Event (cells_Event x)) : wf_Event x := ⟨h.1.2, h.2.1.2, h.2.2.1.2, h.2.2.2.1.2, h.2.2.2.2.1.2, h.2.2.2.2.2.1, h.2.2.2.2.2.2.1.2, trivial⟩
theorem told_Event (cs : List Sc) (hs : SuitAll tys_Event cs) : ∃ x, cs = cells_Event x ∧ wf_Event x := by
  have h := hs
  obtain ⟨s0, r0, rfl, h0, hs⟩ := hs.uncons
  obtain ⟨s1, r1, rfl, h1, hs⟩ := hs.uncons
  obtain ⟨s2, r2, rfl, h2, hs⟩ := hs.uncons
  obtain ⟨s3, r3, rfl, h3, hs⟩ := hs.uncons
  obtain ⟨s4, r4, rfl, h4, hs⟩ := hs.uncons
  obtain ⟨s5, r5, rfl, h5, hs⟩ := hs.uncons
  obtain ⟨s6, r6, rfl, h6, hs⟩ := hs.uncons
  obtain rfl := hs.unnil
  obtain ⟨n0, rfl⟩ := suit_int h0
  obtain ⟨n1, rfl⟩ := suit_int h1
  obtain ⟨n2, rfl⟩ := suit_int h2
  obtain ⟨n3, rfl⟩ := suit_int h3
  obtain ⟨n4, rfl⟩ := suit_int h4
  obtain ⟨n5, rfl⟩ := suit_str h5
  obtain ⟨n6, rfl⟩ := suit_int h6
  exact ⟨⟨n0, n1, n2, n3, n4, n5, n6⟩, rfl, wf_Event_of _ h⟩
abbrev tys_State : List TypeDesc := [.int .i64, .int .i64, .int .i64, .int .i64, .int .i64, .int .i64, .int .i64, .string]
def wf_State (x : State) : Prop := (IntKind.i64.min ≤ x.Phase ∧ x.Phase ≤ IntKind.i64.max) ∧ (IntKind.i64.min ≤ x.At ∧ x.At ≤ IntKind.i64.max) ∧ (IntKind.i64.min ≤ x.From ∧ x.From ≤ IntKind.i64.max) ∧ (IntKind.i64.min ≤ x.Count ∧ x.Count ≤ IntKind.i64.max) ∧ (IntKind.i64.min ≤ x.Acc ∧ x.Acc ≤ IntKind.i64.max) ∧ (IntKind.i64.min ≤ x.Aux ∧ x.Aux ≤ IntKind.i64.max) ∧ (IntKind.i64.min ≤ x.Prev ∧ x.Prev ≤ IntKind.i64.max) ∧ x.Data.size ≤ 140737488351232 ∧ True
theorem wf_State_of (x : State) (h : SuitAll tys_State (cells_State x)) : wf_State x := ⟨h.1.2, h.2.1.2, h.2.2.1.2, h.2.2.2.1.2, h.2.2.2.2.1.2, h.2.2.2.2.2.1.2, h.2.2.2.2.2.2.1.2, h.2.2.2.2.2.2.2.1, trivial⟩
theorem told_State (cs : List Sc) (hs : SuitAll tys_State cs) : ∃ x, cs = cells_State x ∧ wf_State x := by
  have h := hs
  obtain ⟨s0, r0, rfl, h0, hs⟩ := hs.uncons
  obtain ⟨s1, r1, rfl, h1, hs⟩ := hs.uncons
  obtain ⟨s2, r2, rfl, h2, hs⟩ := hs.uncons
  obtain ⟨s3, r3, rfl, h3, hs⟩ := hs.uncons
  obtain ⟨s4, r4, rfl, h4, hs⟩ := hs.uncons
  obtain ⟨s5, r5, rfl, h5, hs⟩ := hs.uncons
  obtain ⟨s6, r6, rfl, h6, hs⟩ := hs.uncons
  obtain ⟨s7, r7, rfl, h7, hs⟩ := hs.uncons
  obtain rfl := hs.unnil
  obtain ⟨n0, rfl⟩ := suit_int h0
  obtain ⟨n1, rfl⟩ := suit_int h1
  obtain ⟨n2, rfl⟩ := suit_int h2
  obtain ⟨n3, rfl⟩ := suit_int h3
  obtain ⟨n4, rfl⟩ := suit_int h4
  obtain ⟨n5, rfl⟩ := suit_int h5
  obtain ⟨n6, rfl⟩ := suit_int h6
  obtain ⟨n7, rfl⟩ := suit_str h7
  exact ⟨⟨n0, n1, n2, n3, n4, n5, n6, n7⟩, rfl, wf_State_of _ h⟩
abbrev tys_Item : List TypeDesc := [.int .i64, .int .i64, .int .i64, .string, .int .i64]
def wf_Item (x : Item) : Prop := (IntKind.i64.min ≤ x.Gap ∧ x.Gap ≤ IntKind.i64.max) ∧ (IntKind.i64.min ≤ x.Value ∧ x.Value ≤ IntKind.i64.max) ∧ (IntKind.i64.min ≤ x.Aux ∧ x.Aux ≤ IntKind.i64.max) ∧ x.Data.size ≤ 140737488351232 ∧ (IntKind.i64.min ≤ x.Fault ∧ x.Fault ≤ IntKind.i64.max) ∧ True
theorem wf_Item_of (x : Item) (h : SuitAll tys_Item (cells_Item x)) : wf_Item x := ⟨h.1.2, h.2.1.2, h.2.2.1.2, h.2.2.2.1, h.2.2.2.2.1.2, trivial⟩
theorem told_Item (cs : List Sc) (hs : SuitAll tys_Item cs) : ∃ x, cs = cells_Item x ∧ wf_Item x := by
  have h := hs
  obtain ⟨s0, r0, rfl, h0, hs⟩ := hs.uncons
  obtain ⟨s1, r1, rfl, h1, hs⟩ := hs.uncons
  obtain ⟨s2, r2, rfl, h2, hs⟩ := hs.uncons
  obtain ⟨s3, r3, rfl, h3, hs⟩ := hs.uncons
  obtain ⟨s4, r4, rfl, h4, hs⟩ := hs.uncons
  obtain rfl := hs.unnil
  obtain ⟨n0, rfl⟩ := suit_int h0
  obtain ⟨n1, rfl⟩ := suit_int h1
  obtain ⟨n2, rfl⟩ := suit_int h2
  obtain ⟨n3, rfl⟩ := suit_str h3
  obtain ⟨n4, rfl⟩ := suit_int h4
  exact ⟨⟨n0, n1, n2, n3, n4⟩, rfl, wf_Item_of _ h⟩
abbrev tys_Run : List TypeDesc := [.int .i64, .int .i64]
def wf_Run (x : Run) : Prop := (IntKind.i64.min ≤ x.Level ∧ x.Level ≤ IntKind.i64.max) ∧ (IntKind.i64.min ≤ x.Ticks ∧ x.Ticks ≤ IntKind.i64.max) ∧ True
theorem wf_Run_of (x : Run) (h : SuitAll tys_Run (cells_Run x)) : wf_Run x := ⟨h.1.2, h.2.1.2, trivial⟩
theorem told_Run (cs : List Sc) (hs : SuitAll tys_Run cs) : ∃ x, cs = cells_Run x ∧ wf_Run x := by
  have h := hs
  obtain ⟨s0, r0, rfl, h0, hs⟩ := hs.uncons
  obtain ⟨s1, r1, rfl, h1, hs⟩ := hs.uncons
  obtain rfl := hs.unnil
  obtain ⟨n0, rfl⟩ := suit_int h0
  obtain ⟨n1, rfl⟩ := suit_int h1
  exact ⟨⟨n0, n1⟩, rfl, wf_Run_of _ h⟩
def keep (f : FuncId) (r : Nat) : List Nat := match f, r with
  | 3, 5 => [1, 2, 5, 6, 7, 139265]
  | 9, 4 => [0, 3, 139264]
  | 23, 7 => [1, 2, 26, 27, 28, 221185, 221210]
  | 23, 15 => [1, 2, 10, 43, 44, 45, 221185, 241674, 221227]
  | 23, 19 => [1, 2, 10, 43, 44, 45, 62, 63, 64, 221185, 241674, 221227, 16446]
  | 23, 29 => [10, 15, 103, 104, 105, 241674, 241767]
  | 40, 8 => [1, 3, 13, 16387]
  | 50, 5 => [3, 9, 10, 11, 241673]
  | 51, 3 => [3, 7, 8, 9, 241667, 241671]
  | 26, 7 => [2, 8, 9, 21, 22, 23, 139272, 241685]
  | 20, 4 => [2, 5, 6, 13, 14, 15, 139269, 139277]
  | 27, 3 => [0, 3, 4, 5, 241664, 139267]
  | 15, 4 => [0, 1, 5, 139264, 139265]
  | 21, 3 => [1, 2, 5, 6, 7, 139265, 139270]
  | 22, 4 => [0, 3, 221184]
  | 24, 8 => [1, 2, 7, 8, 221185, 241671]
  | 24, 16 => [1, 2, 7, 8, 10, 11, 221185, 241671, 16394]
  | 44, 9 => [1, 3, 4, 5, 16387]
  | 45, 5 => [0, 4, 5, 241664]
  | 25, 4 => [0, 1, 5, 241664, 241665]
  | 6, 8 => [1, 2, 5, 7, 8, 9, 221185, 241669, 139271]
  | 29, 2 => [0, 3, 139264]
  | 30, 3 => [0, 1, 5, 6, 139264, 139269]
  | 8, 5 => [1, 3, 5, 7, 8, 139265, 139271]
  | _, _ => []
noncomputable def body3 : Code := (Try.f3.body).getD .skip
noncomputable def body9 : Code := (Try.f9.body).getD .skip
noncomputable def body10 : Code := (Try.f10.body).getD .skip
noncomputable def body23 : Code := (Try.f23.body).getD .skip
noncomputable def body16 : Code := (Try.f16.body).getD .skip
noncomputable def body39 : Code := (Try.f39.body).getD .skip
noncomputable def body40 : Code := (Try.f40.body).getD .skip
noncomputable def body41 : Code := (Try.f41.body).getD .skip
noncomputable def body50 : Code := (Try.f50.body).getD .skip
noncomputable def body51 : Code := (Try.f51.body).getD .skip
noncomputable def body26 : Code := (Try.f26.body).getD .skip
noncomputable def body20 : Code := (Try.f20.body).getD .skip
noncomputable def body11 : Code := (Try.f11.body).getD .skip
noncomputable def body13 : Code := (Try.f13.body).getD .skip
noncomputable def body31 : Code := (Try.f31.body).getD .skip
noncomputable def body47 : Code := (Try.f47.body).getD .skip
noncomputable def body32 : Code := (Try.f32.body).getD .skip
noncomputable def body34 : Code := (Try.f34.body).getD .skip
noncomputable def body33 : Code := (Try.f33.body).getD .skip
noncomputable def body48 : Code := (Try.f48.body).getD .skip
noncomputable def body18 : Code := (Try.f18.body).getD .skip
noncomputable def body27 : Code := (Try.f27.body).getD .skip
noncomputable def body12 : Code := (Try.f12.body).getD .skip
noncomputable def body14 : Code := (Try.f14.body).getD .skip
noncomputable def body17 : Code := (Try.f17.body).getD .skip
noncomputable def body35 : Code := (Try.f35.body).getD .skip
noncomputable def body46 : Code := (Try.f46.body).getD .skip
noncomputable def body36 : Code := (Try.f36.body).getD .skip
noncomputable def body49 : Code := (Try.f49.body).getD .skip
noncomputable def body38 : Code := (Try.f38.body).getD .skip
noncomputable def body37 : Code := (Try.f37.body).getD .skip
noncomputable def body15 : Code := (Try.f15.body).getD .skip
noncomputable def body19 : Code := (Try.f19.body).getD .skip
noncomputable def body21 : Code := (Try.f21.body).getD .skip
noncomputable def body4 : Code := (Try.f4.body).getD .skip
noncomputable def body22 : Code := (Try.f22.body).getD .skip
noncomputable def body24 : Code := (Try.f24.body).getD .skip
noncomputable def body42 : Code := (Try.f42.body).getD .skip
noncomputable def body43 : Code := (Try.f43.body).getD .skip
noncomputable def body44 : Code := (Try.f44.body).getD .skip
noncomputable def body45 : Code := (Try.f45.body).getD .skip
noncomputable def body25 : Code := (Try.f25.body).getD .skip
noncomputable def body5 : Code := (Try.f5.body).getD .skip
noncomputable def body6 : Code := (Try.f6.body).getD .skip
noncomputable def body28 : Code := (Try.f28.body).getD .skip
noncomputable def body7 : Code := (Try.f7.body).getD .skip
noncomputable def body29 : Code := (Try.f29.body).getD .skip
noncomputable def body30 : Code := (Try.f30.body).getD .skip
noncomputable def body8 : Code := (Try.f8.body).getD .skip
def Ψ0 : Known C := fun _ => none
theorem Ψ0_ok : KnownOk C Try.prog Ψ0 := fun _ _ h => by cases h
end Go.Abs.K
