/- The codec of the seat: what elements of rows are, what structs are. -/
import Derived.Test.YtcagcnlddcloiaaA32
import Derived.Test.YtcagcnlddcloiaaProg
import Derived.KernelRfl
set_option linter.unusedVariables false
set_option linter.unusedSimpArgs false
namespace Go.Abs.K
open Go Go.Abs Go.Proofs
structure Pair where
  Timeout : Int
def dflt_Pair : Pair := ⟨0⟩
abbrev cells_Pair (x : Pair) : List Sc := [.int .i64 x.Timeout]
def of_Pair : List Sc → Option Pair
  | [.int .i64 a0] => some ⟨a0⟩
  | _ => none
theorem of_Pair_ok (l : List Sc) (a : Pair) (h : of_Pair l = some a) : cells_Pair a = l := by
  unfold of_Pair at h
  split at h
  · injection h with h; subst h; rfl
  · cases h
structure Event where
  Kind : Int
  From : Int
  To : Int
  Value : Int
  Aux : Int
  Data : ByteArray
  Fault : Int
def dflt_Event : Event := ⟨0, 0, 0, 0, 0, ByteArray.empty, 0⟩
abbrev cells_Event (x : Event) : List Sc := [.int .i64 x.Kind, .int .i64 x.From, .int .i64 x.To, .int .i64 x.Value, .int .i64 x.Aux, .str x.Data, .int .i64 x.Fault]
def of_Event : List Sc → Option Event
  | [.int .i64 a0, .int .i64 a1, .int .i64 a2, .int .i64 a3, .int .i64 a4, .str a5, .int .i64 a6] => some ⟨a0, a1, a2, a3, a4, a5, a6⟩
  | _ => none
theorem of_Event_ok (l : List Sc) (a : Event) (h : of_Event l = some a) : cells_Event a = l := by
  unfold of_Event at h
  split at h
  · injection h with h; subst h; rfl
  · cases h
structure State where
  Phase : Int
  At : Int
  From : Int
  Count : Int
  Acc : Int
  Aux : Int
  Prev : Int
  Data : ByteArray
def dflt_State : State := ⟨0, 0, 0, 0, 0, 0, 0, ByteArray.empty⟩
abbrev cells_State (x : State) : List Sc := [.int .i64 x.Phase, .int .i64 x.At, .int .i64 x.From, .int .i64 x.Count, .int .i64 x.Acc, .int .i64 x.Aux, .int .i64 x.Prev, .str x.Data]
def of_State : List Sc → Option State
  | [.int .i64 a0, .int .i64 a1, .int .i64 a2, .int .i64 a3, .int .i64 a4, .int .i64 a5, .int .i64 a6, .str a7] => some ⟨a0, a1, a2, a3, a4, a5, a6, a7⟩
  | _ => none
theorem of_State_ok (l : List Sc) (a : State) (h : of_State l = some a) : cells_State a = l := by
  unfold of_State at h
  split at h
  · injection h with h; subst h; rfl
  · cases h
structure Item where
  Gap : Int
  Value : Int
  Aux : Int
  Data : ByteArray
  Fault : Int
def dflt_Item : Item := ⟨0, 0, 0, ByteArray.empty, 0⟩
abbrev cells_Item (x : Item) : List Sc := [.int .i64 x.Gap, .int .i64 x.Value, .int .i64 x.Aux, .str x.Data, .int .i64 x.Fault]
def of_Item : List Sc → Option Item
  | [.int .i64 a0, .int .i64 a1, .int .i64 a2, .str a3, .int .i64 a4] => some ⟨a0, a1, a2, a3, a4⟩
  | _ => none
theorem of_Item_ok (l : List Sc) (a : Item) (h : of_Item l = some a) : cells_Item a = l := by
  unfold of_Item at h
  split at h
  · injection h with h; subst h; rfl
  · cases h
structure Pair_request where
  tag_ : Int
  from_ : Int
  to_ : Int
def dflt_Pair_request : Pair_request := ⟨0, 0, 0⟩
abbrev cells_Pair_request (x : Pair_request) : List Sc := [.int .i64 x.tag_, .int .i64 x.from_, .int .i64 x.to_]
def of_Pair_request : List Sc → Option Pair_request
  | [.int .i64 a0, .int .i64 a1, .int .i64 a2] => some ⟨a0, a1, a2⟩
  | _ => none
theorem of_Pair_request_ok (l : List Sc) (a : Pair_request) (h : of_Pair_request l = some a) : cells_Pair_request a = l := by
  unfold of_Pair_request at h
  split at h
  · injection h with h; subst h; rfl
  · cases h
structure Signalbenchref33_request where
  tag_ : Int
  from_ : Int
  to_ : Int
def dflt_Signalbenchref33_request : Signalbenchref33_request := ⟨0, 0, 0⟩
abbrev cells_Signalbenchref33_request (x : Signalbenchref33_request) : List Sc := [.int .i64 x.tag_, .int .i64 x.from_, .int .i64 x.to_]
def of_Signalbenchref33_request : List Sc → Option Signalbenchref33_request
  | [.int .i64 a0, .int .i64 a1, .int .i64 a2] => some ⟨a0, a1, a2⟩
  | _ => none
theorem of_Signalbenchref33_request_ok (l : List Sc) (a : Signalbenchref33_request) (h : of_Signalbenchref33_request l = some a) : cells_Signalbenchref33_request a = l := by
  unfold of_Signalbenchref33_request at h
  split at h
  · injection h with h; subst h; rfl
  · cases h
def EltF : TypeId → Type
  | 32 => Event
  | 48 => Item
  | 5 => Int
  | 57 => Pair_request
  | 66 => Signalbenchref33_request
  | 3 => Int
  | _ => Unit
def encF : (e : TypeId) → EltF e → List Sc
  | 32, x => cells_Event x
  | 48, x => cells_Item x
  | 5, x => [.int .u8 x]
  | 57, x => cells_Pair_request x
  | 66, x => cells_Signalbenchref33_request x
  | 3, x => [.int .i64 x]
  | _, _ => []
def decF (e : TypeId) (l : List Sc) : Option (EltF e) :=
  if h : e = 32 then by subst h; exact of_Event l else
  if h : e = 48 then by subst h; exact of_Item l else
  if h : e = 5 then by subst h; exact ofInt .u8 l else
  if h : e = 57 then by subst h; exact of_Pair_request l else
  if h : e = 66 then by subst h; exact of_Signalbenchref33_request l else
  if h : e = 3 then by subst h; exact ofInt .i64 l else
  none
def dfltF (e : TypeId) : EltF e := by
  unfold EltF
  split
  · exact dflt_Event
  · exact dflt_Item
  · exact (0 : Int)
  · exact dflt_Pair_request
  · exact dflt_Signalbenchref33_request
  · exact (0 : Int)
  · exact ()
def bytesF : (e : TypeId) → Option (ByteArray → List (EltF e))
  | 5 => some ofBytes
  | _ => none
def strF : (e : TypeId) → Option (List (EltF e) → ByteArray)
  | 5 => some toBytes
  | _ => none
def szF : TypeId → Nat
  | 32 => 7
  | 48 => 5
  | 57 => 3
  | 66 => 3
  | _ => 1
def hasF (e : TypeId) : Bool := Nat.beq e 32 || Nat.beq e 48 || Nat.beq e 5 || Nat.beq e 57 || Nat.beq e 66 || Nat.beq e 3
def C : Codec := { Elt := EltF, has := hasF, sz := szF, enc := encF, dec := decF, dflt := dfltF, bytes := bytesF, str := strF }
theorem has_cases {e : TypeId} (h : C.has e = true) : e = 32 ∨ e = 48 ∨ e = 5 ∨ e = 57 ∨ e = 66 ∨ e = 3 := by
  have h : hasF e = true := h
  simp only [hasF, Bool.or_eq_true, Nat.beq_eq] at h
  simpa [or_assoc] using h
theorem good : C.Good Try.prog where
  sz := by
    intro e h
    rcases has_cases h with rfl | rfl | rfl | rfl | rfl | rfl
    · exact ⟨by kernel_rfl, of_decide_eq_true (by kernel_rfl), of_decide_eq_true (by kernel_rfl)⟩
    · exact ⟨by kernel_rfl, of_decide_eq_true (by kernel_rfl), of_decide_eq_true (by kernel_rfl)⟩
    · exact ⟨by kernel_rfl, of_decide_eq_true (by kernel_rfl), of_decide_eq_true (by kernel_rfl)⟩
    · exact ⟨by kernel_rfl, of_decide_eq_true (by kernel_rfl), of_decide_eq_true (by kernel_rfl)⟩
    · exact ⟨by kernel_rfl, of_decide_eq_true (by kernel_rfl), of_decide_eq_true (by kernel_rfl)⟩
    · exact ⟨by kernel_rfl, of_decide_eq_true (by kernel_rfl), of_decide_eq_true (by kernel_rfl)⟩
  zero := by
    intro e h
    rcases has_cases h with rfl | rfl | rfl | rfl | rfl | rfl
    · exact zero_of (by kernel_rfl)
    · exact zero_of (by kernel_rfl)
    · exact zero_of (by kernel_rfl)
    · exact zero_of (by kernel_rfl)
    · exact zero_of (by kernel_rfl)
    · exact zero_of (by kernel_rfl)
  len := by
    intro e x h
    rcases has_cases h with rfl | rfl | rfl | rfl | rfl | rfl
    · rfl
    · rfl
    · rfl
    · rfl
    · rfl
    · rfl
  plain := by
    intro e x h
    rcases has_cases h with rfl | rfl | rfl | rfl | rfl | rfl
    · rfl
    · rfl
    · rfl
    · rfl
    · rfl
    · rfl
  dec := by
    intro e cs x h
    show hasF e = true ∧ encF e x = cs
    have h : decF e cs = some x := h
    by_cases h32 : e = 32
    · subst h32; exact ⟨rfl, of_Event_ok _ _ h⟩
    by_cases h48 : e = 48
    · subst h48; exact ⟨rfl, of_Item_ok _ _ h⟩
    by_cases h5 : e = 5
    · subst h5; exact ⟨rfl, ofInt_ok .u8 _ _ h⟩
    by_cases h57 : e = 57
    · subst h57; exact ⟨rfl, of_Pair_request_ok _ _ h⟩
    by_cases h66 : e = 66
    · subst h66; exact ⟨rfl, of_Signalbenchref33_request_ok _ _ h⟩
    by_cases h3 : e = 3
    · subst h3; exact ⟨rfl, ofInt_ok .i64 _ _ h⟩
    simp only [decF, h32, h48, h5, h57, h66, h3, dite_false] at h
    cases h
  bytes := by
    intro e f h
    have h : bytesF e = some f := h
    unfold bytesF at h
    split at h
    · injection h with h; subst h
      refine ⟨rfl, rfl, fun s => ?_⟩
      exact List.map_map (f := fun b : UInt8 => (b.toNat : Int)) (g := fun n : Int => [Sc.int .u8 n]) (l := s.data.toList)
    · cases h
  str := by
    intro e f h
    have h : strF e = some f := h
    unfold strF at h
    split at h
    · injection h with h; subst h
      exact ⟨rfl, fun l => ⟨l, rfl, rfl⟩⟩
    · cases h
theorem full : Full C Try.prog := by
  intro e ls ss h hl hs
  rcases has_cases h with rfl | rfl | rfl | rfl | rfl | rfl
  · have h2 : tys Try.prog 8 32 = some [.int .i64, .int .i64, .int .i64, .int .i64, .int .i64, .string, .int .i64] := by kernel_rfl
    rw [h2] at hl
    injection hl with hl; subst hl
    obtain ⟨s0, r0, rfl, h0, hs⟩ := hs.uncons
    obtain ⟨s1, r1, rfl, h1, hs⟩ := hs.uncons
    obtain ⟨s2, r2, rfl, h2, hs⟩ := hs.uncons
    obtain ⟨s3, r3, rfl, h3, hs⟩ := hs.uncons
    obtain ⟨s4, r4, rfl, h4, hs⟩ := hs.uncons
    obtain ⟨s5, r5, rfl, h5, hs⟩ := hs.uncons
    obtain ⟨s6, r6, rfl, h6, hs⟩ := hs.uncons
    obtain rfl := hs.unnil
    obtain ⟨n0, rfl⟩ := suit_int h0
    obtain ⟨n1, rfl⟩ := suit_int h1
    obtain ⟨n2, rfl⟩ := suit_int h2
    obtain ⟨n3, rfl⟩ := suit_int h3
    obtain ⟨n4, rfl⟩ := suit_int h4
    obtain ⟨n5, rfl⟩ := suit_str h5
    obtain ⟨n6, rfl⟩ := suit_int h6
    exact ⟨⟨n0, n1, n2, n3, n4, n5, n6⟩, rfl⟩
  · have h2 : tys Try.prog 8 48 = some [.int .i64, .int .i64, .int .i64, .string, .int .i64] := by kernel_rfl
    rw [h2] at hl
    injection hl with hl; subst hl
    obtain ⟨s0, r0, rfl, h0, hs⟩ := hs.uncons
    obtain ⟨s1, r1, rfl, h1, hs⟩ := hs.uncons
    obtain ⟨s2, r2, rfl, h2, hs⟩ := hs.uncons
    obtain ⟨s3, r3, rfl, h3, hs⟩ := hs.uncons
    obtain ⟨s4, r4, rfl, h4, hs⟩ := hs.uncons
    obtain rfl := hs.unnil
    obtain ⟨n0, rfl⟩ := suit_int h0
    obtain ⟨n1, rfl⟩ := suit_int h1
    obtain ⟨n2, rfl⟩ := suit_int h2
    obtain ⟨n3, rfl⟩ := suit_str h3
    obtain ⟨n4, rfl⟩ := suit_int h4
    exact ⟨⟨n0, n1, n2, n3, n4⟩, rfl⟩
  · have h2 : tys Try.prog 8 5 = some [.int .u8] := by kernel_rfl
    rw [h2] at hl
    injection hl with hl; subst hl
    obtain ⟨s0, r0, rfl, h0, hs⟩ := hs.uncons
    obtain rfl := hs.unnil
    obtain ⟨n0, rfl⟩ := suit_int h0
    exact ⟨n0, rfl⟩
  · have h2 : tys Try.prog 8 57 = some [.int .i64, .int .i64, .int .i64] := by kernel_rfl
    rw [h2] at hl
    injection hl with hl; subst hl
    obtain ⟨s0, r0, rfl, h0, hs⟩ := hs.uncons
    obtain ⟨s1, r1, rfl, h1, hs⟩ := hs.uncons
    obtain ⟨s2, r2, rfl, h2, hs⟩ := hs.uncons
    obtain rfl := hs.unnil
    obtain ⟨n0, rfl⟩ := suit_int h0
    obtain ⟨n1, rfl⟩ := suit_int h1
    obtain ⟨n2, rfl⟩ := suit_int h2
    exact ⟨⟨n0, n1, n2⟩, rfl⟩
  · have h2 : tys Try.prog 8 66 = some [.int .i64, .int .i64, .int .i64] := by kernel_rfl
    rw [h2] at hl
    injection hl with hl; subst hl
    obtain ⟨s0, r0, rfl, h0, hs⟩ := hs.uncons
    obtain ⟨s1, r1, rfl, h1, hs⟩ := hs.uncons
    obtain ⟨s2, r2, rfl, h2, hs⟩ := hs.uncons
    obtain rfl := hs.unnil
    obtain ⟨n0, rfl⟩ := suit_int h0
    obtain ⟨n1, rfl⟩ := suit_int h1
    obtain ⟨n2, rfl⟩ := suit_int h2
    exact ⟨⟨n0, n1, n2⟩, rfl⟩
  · have h2 : tys Try.prog 8 3 = some [.int .i64] := by kernel_rfl
    rw [h2] at hl
    injection hl with hl; subst hl
    obtain ⟨s0, r0, rfl, h0, hs⟩ := hs.uncons
    obtain rfl := hs.unnil
    obtain ⟨n0, rfl⟩ := suit_int h0
    exact ⟨n0, rfl⟩
theorem fit : Fit Try.prog := fit_of (by kernel_rfl) (by kernel_rfl)
abbrev tys_Pair : List TypeDesc := [.int .i64]
def wf_Pair (x : Pair) : Prop := (IntKind.i64.min ≤ x.Timeout ∧ x.Timeout ≤ IntKind.i64.max) ∧ True
theorem wf_Pair_of (x : Pair) (h : SuitAll tys_Pair (cells_Pair x)) : wf_Pair x := ⟨h.1.2, trivial⟩
theorem told_Pair (cs : List Sc) (hs : SuitAll tys_Pair cs) : ∃ x, cs = cells_Pair x ∧ wf_Pair x := by
  have h := hs
  obtain ⟨s0, r0, rfl, h0, hs⟩ := hs.uncons
  obtain rfl := hs.unnil
  obtain ⟨n0, rfl⟩ := suit_int h0
  exact ⟨⟨n0⟩, rfl, wf_Pair_of _ h⟩
abbrev tys_Event : List TypeDesc := [.int .i64, .int .i64, .int .i64, .int .i64, .int .i64, .string, .int .i64]
def wf_Event (x : Event) : Prop := (IntKind.i64.min ≤ x.Kind ∧ x.Kind ≤ IntKind.i64.max) ∧ (IntKind.i64.min ≤ x.From ∧ x.From ≤ IntKind.i64.max) ∧ (IntKind.i64.min ≤ x.To ∧ x.To ≤ IntKind.i64.max) ∧ (IntKind.i64.min ≤ x.Value ∧ x.Value ≤ IntKind.i64.max) ∧ (IntKind.i64.min ≤ x.Aux ∧ x.Aux ≤ IntKind.i64.max) ∧ x.Data.size ≤ 140737488351232 ∧ (IntKind.i64.min ≤ x.Fault ∧ x.Fault ≤ IntKind.i64.max) ∧ True
theorem wf_Event_of (x : Event) (h : SuitAll tys_Event (cells_Event x)) : wf_Event x := ⟨h.1.2, h.2.1.2, h.2.2.1.2, h.2.2.2.1.2, h.2.2.2.2.1.2, h.2.2.2.2.2.1, h.2.2.2.2.2.2.1.2, trivial⟩
theorem told_Event (cs : List Sc) (hs : SuitAll tys_Event cs) : ∃ x, cs = cells_Event x ∧ wf_Event x := by
  have h := hs
  obtain ⟨s0, r0, rfl, h0, hs⟩ := hs.uncons
  obtain ⟨s1, r1, rfl, h1, hs⟩ := hs.uncons
  obtain ⟨s2, r2, rfl, h2, hs⟩ := hs.uncons
  obtain ⟨s3, r3, rfl, h3, hs⟩ := hs.uncons
  obtain ⟨s4, r4, rfl, h4, hs⟩ := hs.uncons
  obtain ⟨s5, r5, rfl, h5, hs⟩ := hs.uncons
  obtain ⟨s6, r6, rfl, h6, hs⟩ := hs.uncons
  obtain rfl := hs.unnil
  obtain ⟨n0, rfl⟩ := suit_int h0
  obtain ⟨n1, rfl⟩ := suit_int h1
  obtain ⟨n2, rfl⟩ := suit_int h2
  obtain ⟨n3, rfl⟩ := suit_int h3
  obtain ⟨n4, rfl⟩ := suit_int h4
  obtain ⟨n5, rfl⟩ := suit_str h5
  obtain ⟨n6, rfl⟩ := suit_int h6
  exact ⟨⟨n0, n1, n2, n3, n4, n5, n6⟩, rfl, wf_Event_of _ h⟩
abbrev tys_State : List TypeDesc := [.int .i64, .int .i64, .int .i64, .int .i64, .int .i64, .int .i64, .int .i64, .string]
def wf_State (x : State) : Prop := (IntKind.i64.min ≤ x.Phase ∧ x.Phase ≤ IntKind.i64.max) ∧ (IntKind.i64.min ≤ x.At ∧ x.At ≤ IntKind.i64.max) ∧ (IntKind.i64.min ≤ x.From ∧ x.From ≤ IntKind.i64.max) ∧ (IntKind.i64.min ≤ x.Count ∧ x.Count ≤ IntKind.i64.max) ∧ (IntKind.i64.min ≤ x.Acc ∧ x.Acc ≤ IntKind.i64.max) ∧ (IntKind.i64.min ≤ x.Aux ∧ x.Aux ≤ IntKind.i64.max) ∧ (IntKind.i64.min ≤ x.Prev ∧ x.Prev ≤ IntKind.i64.max) ∧ x.Data.size ≤ 140737488351232 ∧ True
theorem wf_State_of (x : State) (h : SuitAll tys_State (cells_State x)) : wf_State x := ⟨h.1.2, h.2.1.2, h.2.2.1.2, h.2.2.2.1.2, h.2.2.2.2.1.2, h.2.2.2.2.2.1.2, h.2.2.2.2.2.2.1.2, h.2.2.2.2.2.2.2.1, trivial⟩
theorem told_State (cs : List Sc) (hs : SuitAll tys_State cs) : ∃ x, cs = cells_State x ∧ wf_State x := by
  have h := hs
  obtain ⟨s0, r0, rfl, h0, hs⟩ := hs.uncons
  obtain ⟨s1, r1, rfl, h1, hs⟩ := hs.uncons
  obtain ⟨s2, r2, rfl, h2, hs⟩ := hs.uncons
  obtain ⟨s3, r3, rfl, h3, hs⟩ := hs.uncons
  obtain ⟨s4, r4, rfl, h4, hs⟩ := hs.uncons
  obtain ⟨s5, r5, rfl, h5, hs⟩ := hs.uncons
  obtain ⟨s6, r6, rfl, h6, hs⟩ := hs.uncons
  obtain ⟨s7, r7, rfl, h7, hs⟩ := hs.uncons
  obtain rfl := hs.unnil
  obtain ⟨n0, rfl⟩ := suit_int h0
  obtain ⟨n1, rfl⟩ := suit_int h1
  obtain ⟨n2, rfl⟩ := suit_int h2
  obtain ⟨n3, rfl⟩ := suit_int h3
  obtain ⟨n4, rfl⟩ := suit_int h4
  obtain ⟨n5, rfl⟩ := suit_int h5
  obtain ⟨n6, rfl⟩ := suit_int h6
  obtain ⟨n7, rfl⟩ := suit_str h7
  exact ⟨⟨n0, n1, n2, n3, n4, n5, n6, n7⟩, rfl, wf_State_of _ h⟩
abbrev tys_Item : List TypeDesc := [.int .i64, .int .i64, .int .i64, .string, .int .i64]
def wf_Item (x : Item) : Prop := (IntKind.i64.min ≤ x.Gap ∧ x.Gap ≤ IntKind.i64.max) ∧ (IntKind.i64.min ≤ x.Value ∧ x.Value ≤ IntKind.i64.max) ∧ (IntKind.i64.min ≤ x.Aux ∧ x.Aux ≤ IntKind.i64.max) ∧ x.Data.size ≤ 140737488351232 ∧ (IntKind.i64.min ≤ x.Fault ∧ x.Fault ≤ IntKind.i64.max) ∧ True
theorem wf_Item_of (x : Item) (h : SuitAll tys_Item (cells_Item x)) : wf_Item x := ⟨h.1.2, h.2.1.2, h.2.2.1.2, h.2.2.2.1, h.2.2.2.2.1.2, trivial⟩
theorem told_Item (cs : List Sc) (hs : SuitAll tys_Item cs) : ∃ x, cs = cells_Item x ∧ wf_Item x := by
  have h := hs
  obtain ⟨s0, r0, rfl, h0, hs⟩ := hs.uncons
  obtain ⟨s1, r1, rfl, h1, hs⟩ := hs.uncons
  obtain ⟨s2, r2, rfl, h2, hs⟩ := hs.uncons
  obtain ⟨s3, r3, rfl, h3, hs⟩ := hs.uncons
  obtain ⟨s4, r4, rfl, h4, hs⟩ := hs.uncons
  obtain rfl := hs.unnil
  obtain ⟨n0, rfl⟩ := suit_int h0
  obtain ⟨n1, rfl⟩ := suit_int h1
  obtain ⟨n2, rfl⟩ := suit_int h2
  obtain ⟨n3, rfl⟩ := suit_str h3
  obtain ⟨n4, rfl⟩ := suit_int h4
  exact ⟨⟨n0, n1, n2, n3, n4⟩, rfl, wf_Item_of _ h⟩
abbrev tys_Pair_request : List TypeDesc := [.int .i64, .int .i64, .int .i64]
def wf_Pair_request (x : Pair_request) : Prop := (IntKind.i64.min ≤ x.tag_ ∧ x.tag_ ≤ IntKind.i64.max) ∧ (IntKind.i64.min ≤ x.from_ ∧ x.from_ ≤ IntKind.i64.max) ∧ (IntKind.i64.min ≤ x.to_ ∧ x.to_ ≤ IntKind.i64.max) ∧ True
theorem wf_Pair_request_of (x : Pair_request) (h : SuitAll tys_Pair_request (cells_Pair_request x)) : wf_Pair_request x := ⟨h.1.2, h.2.1.2, h.2.2.1.2, trivial⟩
theorem told_Pair_request (cs : List Sc) (hs : SuitAll tys_Pair_request cs) : ∃ x, cs = cells_Pair_request x ∧ wf_Pair_request x := by
  have h := hs
  obtain ⟨s0, r0, rfl, h0, hs⟩ := hs.uncons
  obtain ⟨s1, r1, rfl, h1, hs⟩ := hs.uncons
  obtain ⟨s2, r2, rfl, h2, hs⟩ := hs.uncons
  obtain rfl := hs.unnil
  obtain ⟨n0, rfl⟩ := suit_int h0
  obtain ⟨n1, rfl⟩ := suit_int h1
  obtain ⟨n2, rfl⟩ := suit_int h2
  exact ⟨⟨n0, n1, n2⟩, rfl, wf_Pair_request_of _ h⟩
abbrev tys_Signalbenchref33_request : List TypeDesc := [.int .i64, .int .i64, .int .i64]
def wf_Signalbenchref33_request (x : Signalbenchref33_request) : Prop := (IntKind.i64.min ≤ x.tag_ ∧ x.tag_ ≤ IntKind.i64.max) ∧ (IntKind.i64.min ≤ x.from_ ∧ x.from_ ≤ IntKind.i64.max) ∧ (IntKind.i64.min ≤ x.to_ ∧ x.to_ ≤ IntKind.i64.max) ∧ True
theorem wf_Signalbenchref33_request_of (x : Signalbenchref33_request) (h : SuitAll tys_Signalbenchref33_request (cells_Signalbenchref33_request x)) : wf_Signalbenchref33_request x := ⟨h.1.2, h.2.1.2, h.2.2.1.2, trivial⟩
theorem told_Signalbenchref33_request (cs : List Sc) (hs : SuitAll tys_Signalbenchref33_request cs) : ∃ x, cs = cells_Signalbenchref33_request x ∧ wf_Signalbenchref33_request x := by
  have h := hs
  obtain ⟨s0, r0, rfl, h0, hs⟩ := hs.uncons
  obtain ⟨s1, r1, rfl, h1, hs⟩ := hs.uncons
  obtain ⟨s2, r2, rfl, h2, hs⟩ := hs.uncons
  obtain rfl := hs.unnil
  obtain ⟨n0, rfl⟩ := suit_int h0
  obtain ⟨n1, rfl⟩ := suit_int h1
  obtain ⟨n2, rfl⟩ := suit_int h2
  exact ⟨⟨n0, n1, n2⟩, rfl, wf_Signalbenchref33_request_of _ h⟩
def keep (f : FuncId) (r : Nat) : List Nat := match f, r with
  | 3, 7 => [1, 2, 5, 6, 7, 135169]
  | 21, 8 => [7, 21, 22, 23, 200711, 200725]
  | 18, 4 => [2, 5, 6, 13, 14, 15, 135174, 135181]
  | 11, 7 => [3, 4, 5, 6, 8, 9, 32, 33, 34, 237576, 135177, 237600]
  | 11, 15 => [4, 5, 6, 9, 64, 65, 66, 135177, 237632]
  | 26, 3 => [1, 3, 4, 237571]
  | 26, 6 => [1, 3, 4, 5, 15, 237571]
  | 44, 6 => [0, 1, 7, 8]
  | 28, 3 => [2, 4, 5, 8, 9, 10, 24581, 237576]
  | 45, 2 => [0, 1, 24576]
  | 39, 3 => [0, 1, 5, 7, 18, 19, 20, 237568, 237586]
  | 39, 11 => [5, 7, 10, 11, 12, 37, 38, 39, 237580, 237605]
  | 16, 5 => [3, 5, 12, 13, 14, 135173, 237580]
  | 12, 7 => [3, 4, 5, 6, 8, 9, 10, 11, 135176, 274441, 274442]
  | 12, 15 => [4, 5, 6, 8, 9, 12, 135176, 274441]
  | 31, 3 => [1, 3, 4, 274435]
  | 40, 3 => [0, 3, 4]
  | 33, 3 => [1, 2, 4, 5, 274433]
  | 41, 3 => [0, 3, 4, 24579]
  | 42, 2 => [0, 1, 5, 274432]
  | 13, 4 => [0, 1, 5, 135168, 135169]
  | 17, 6 => [3, 5, 6, 7, 135173, 274438]
  | 19, 4 => [1, 2, 5, 6, 7, 135169, 135173]
  | 20, 5 => [0, 3, 4, 200704]
  | 22, 8 => [1, 7, 8, 200705, 200711]
  | 23, 4 => [0, 1, 5, 200704, 200705]
  | 5, 10 => [0, 3, 4, 5, 6, 7, 135172, 16389, 135174]
  | 5, 28 => [0, 5, 6, 11, 12, 13, 16389, 135174, 135179]
  | 5, 35 => [0, 5, 11, 14, 16389, 135179]
  | 6, 12 => [0, 1, 5, 6, 8, 200704, 200710]
  | 6, 19 => [0, 9, 10, 11, 200704, 135177]
  | 24, 4 => [0, 1, 5, 6, 7, 200704, 135173]
  | _, _ => []
noncomputable def body3 : Code := (Try.f3.body).getD .skip
noncomputable def body8 : Code := (Try.f8.body).getD .skip
noncomputable def body21 : Code := (Try.f21.body).getD .skip
noncomputable def body14 : Code := (Try.f14.body).getD .skip
noncomputable def body35 : Code := (Try.f35.body).getD .skip
noncomputable def body18 : Code := (Try.f18.body).getD .skip
noncomputable def body9 : Code := (Try.f9.body).getD .skip
noncomputable def body11 : Code := (Try.f11.body).getD .skip
noncomputable def body25 : Code := (Try.f25.body).getD .skip
noncomputable def body36 : Code := (Try.f36.body).getD .skip
noncomputable def body26 : Code := (Try.f26.body).getD .skip
noncomputable def body37 : Code := (Try.f37.body).getD .skip
noncomputable def body44 : Code := (Try.f44.body).getD .skip
noncomputable def body27 : Code := (Try.f27.body).getD .skip
noncomputable def body28 : Code := (Try.f28.body).getD .skip
noncomputable def body38 : Code := (Try.f38.body).getD .skip
noncomputable def body45 : Code := (Try.f45.body).getD .skip
noncomputable def body29 : Code := (Try.f29.body).getD .skip
noncomputable def body39 : Code := (Try.f39.body).getD .skip
noncomputable def body16 : Code := (Try.f16.body).getD .skip
noncomputable def body10 : Code := (Try.f10.body).getD .skip
noncomputable def body12 : Code := (Try.f12.body).getD .skip
noncomputable def body15 : Code := (Try.f15.body).getD .skip
noncomputable def body30 : Code := (Try.f30.body).getD .skip
noncomputable def body31 : Code := (Try.f31.body).getD .skip
noncomputable def body40 : Code := (Try.f40.body).getD .skip
noncomputable def body32 : Code := (Try.f32.body).getD .skip
noncomputable def body33 : Code := (Try.f33.body).getD .skip
noncomputable def body41 : Code := (Try.f41.body).getD .skip
noncomputable def body34 : Code := (Try.f34.body).getD .skip
noncomputable def body42 : Code := (Try.f42.body).getD .skip
noncomputable def body43 : Code := (Try.f43.body).getD .skip
noncomputable def body13 : Code := (Try.f13.body).getD .skip
noncomputable def body17 : Code := (Try.f17.body).getD .skip
noncomputable def body19 : Code := (Try.f19.body).getD .skip
noncomputable def body4 : Code := (Try.f4.body).getD .skip
noncomputable def body20 : Code := (Try.f20.body).getD .skip
noncomputable def body22 : Code := (Try.f22.body).getD .skip
noncomputable def body23 : Code := (Try.f23.body).getD .skip
noncomputable def body5 : Code := (Try.f5.body).getD .skip
noncomputable def body6 : Code := (Try.f6.body).getD .skip
noncomputable def body24 : Code := (Try.f24.body).getD .skip
noncomputable def body7 : Code := (Try.f7.body).getD .skip
def Ψ0 : Known C := fun _ => none
theorem Ψ0_ok : KnownOk C Try.prog Ψ0 := fun _ _ h => by cases h
end Go.Abs.K
