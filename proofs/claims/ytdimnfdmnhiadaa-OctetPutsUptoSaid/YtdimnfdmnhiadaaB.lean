/- The codec of the seat: what elements of rows are, what structs are. -/
import Derived.Test.YtdimnfdmnhiadaaA32
import Derived.Test.YtdimnfdmnhiadaaProg
import Derived.KernelRfl
set_option linter.unusedVariables false
set_option linter.unusedSimpArgs false
namespace Go.Abs.K
open Go Go.Abs Go.Proofs
def EltF : TypeId → Type
  | 5 => Int
  | _ => Unit
def encF : (e : TypeId) → EltF e → List Sc
  | 5, x => [.int .u8 x]
  | _, _ => []
def decF (e : TypeId) (l : List Sc) : Option (EltF e) :=
  if h : e = 5 then by subst h; exact ofInt .u8 l else
  none
def dfltF (e : TypeId) : EltF e := by
  unfold EltF
  split
  · exact (0 : Int)
  · exact ()
def bytesF : (e : TypeId) → Option (ByteArray → List (EltF e))
  | 5 => some ofBytes
  | _ => none
def strF : (e : TypeId) → Option (List (EltF e) → ByteArray)
  | 5 => some toBytes
  | _ => none
def szF : TypeId → Nat
  | _ => 1
def hasF (e : TypeId) : Bool := Nat.beq e 5
def C : Codec := { Elt := EltF, has := hasF, sz := szF, enc := encF, dec := decF, dflt := dfltF, bytes := bytesF, str := strF }
theorem has_cases {e : TypeId} (h : C.has e = true) : e = 5 := by
  have h : hasF e = true := h
  simp only [hasF, Bool.or_eq_true, Nat.beq_eq] at h
  simpa [or_assoc] using h
theorem good : C.Good Try.prog where
  sz := by
    intro e h
    rcases has_cases h with rfl
    · exact ⟨by kernel_rfl, of_decide_eq_true (by kernel_rfl), of_decide_eq_true (by kernel_rfl)⟩
  zero := by
    intro e h
    rcases has_cases h with rfl
    · exact zero_of (by kernel_rfl)
  len := by
    intro e x h
    rcases has_cases h with rfl
    · rfl
  plain := by
    intro e x h
    rcases has_cases h with rfl
    · rfl
  dec := by
    intro e cs x h
    show hasF e = true ∧ encF e x = cs
    have h : decF e cs = some x := h
    by_cases h5 : e = 5
    · subst h5; exact ⟨rfl, ofInt_ok .u8 _ _ h⟩
    simp only [decF, h5, dite_false] at h
    cases h
  bytes := by
    intro e f h
    have h : bytesF e = some f := h
    unfold bytesF at h
    split at h
    · injection h with h; subst h
      refine ⟨rfl, rfl, fun s => ?_⟩
      exact List.map_map (f := fun b : UInt8 => (b.toNat : Int)) (g := fun n : Int => [Sc.int .u8 n]) (l := s.data.toList)
    · cases h
  str := by
    intro e f h
    have h : strF e = some f := h
    unfold strF at h
    split at h
    · injection h with h; subst h
      exact ⟨rfl, fun l => ⟨l, rfl, rfl⟩⟩
    · cases h
theorem full : Full C Try.prog := by
  intro e ls ss h hl hs
  rcases has_cases h with rfl
  · have h2 : tys Try.prog 8 5 = some [.int .u8] := by kernel_rfl
    rw [h2] at hl
    injection hl with hl; subst hl
    obtain ⟨s0, r0, rfl, h0, hs⟩ := hs.uncons
    obtain rfl := hs.unnil
    obtain ⟨n0, rfl⟩ := suit_int h0
    exact ⟨n0, rfl⟩
theorem fit : Fit Try.prog := fit_of (by kernel_rfl) (by kernel_rfl)
def keep (f : FuncId) (r : Nat) : List Nat := match f, r with
  | 9, 2 => [0, 1]
  | 10, 3 => [1, 5]
  | 16, 6 => [0, 1, 7, 8]
  | 17, 6 => [0, 1, 7, 8, 9]
  | _, _ => []
noncomputable def body3 : Code := (Try.f3.body).getD .skip
noncomputable def body9 : Code := (Try.f9.body).getD .skip
noncomputable def body10 : Code := (Try.f10.body).getD .skip
noncomputable def body11 : Code := (Try.f11.body).getD .skip
noncomputable def body12 : Code := (Try.f12.body).getD .skip
noncomputable def body24 : Code := (Try.f24.body).getD .skip
noncomputable def body13 : Code := (Try.f13.body).getD .skip
noncomputable def body14 : Code := (Try.f14.body).getD .skip
noncomputable def body15 : Code := (Try.f15.body).getD .skip
noncomputable def body16 : Code := (Try.f16.body).getD .skip
noncomputable def body4 : Code := (Try.f4.body).getD .skip
noncomputable def body5 : Code := (Try.f5.body).getD .skip
noncomputable def body6 : Code := (Try.f6.body).getD .skip
noncomputable def body17 : Code := (Try.f17.body).getD .skip
noncomputable def body18 : Code := (Try.f18.body).getD .skip
noncomputable def body19 : Code := (Try.f19.body).getD .skip
noncomputable def body7 : Code := (Try.f7.body).getD .skip
noncomputable def body20 : Code := (Try.f20.body).getD .skip
noncomputable def body25 : Code := (Try.f25.body).getD .skip
noncomputable def body21 : Code := (Try.f21.body).getD .skip
noncomputable def body23 : Code := (Try.f23.body).getD .skip
noncomputable def body22 : Code := (Try.f22.body).getD .skip
noncomputable def body8 : Code := (Try.f8.body).getD .skip
def Ψ0 : Known C := fun _ => none
theorem Ψ0_ok : KnownOk C Try.prog Ψ0 := fun _ _ h => by cases h
end Go.Abs.K
