/- The codec of the seat: what elements of rows are, what structs are. -/
import Derived.Test.YtjfndepkgahkiaaDoorA32
import Derived.Test.YtjfndepkgahkiaaDoorProg
import Derived.KernelRfl
import Derived.Lib.LaidTab
import Derived.Lib.ItoaNum
set_option linter.unusedVariables false
set_option linter.unusedSimpArgs false
namespace Go.Abs.K
open Go Go.Abs Go.Proofs
structure Ratio where
  Num : Int
  Den : Int
def dflt_Ratio : Ratio := ⟨0, 0⟩
abbrev cells_Ratio (x : Ratio) : List Sc := [.int .i64 x.Num, .int .i64 x.Den]
def of_Ratio : List Sc → Option Ratio
  | [.int .i64 a0, .int .i64 a1] => some ⟨a0, a1⟩
  | _ => none
theorem of_Ratio_ok (l : List Sc) (a : Ratio) (h : of_Ratio l = some a) : cells_Ratio a = l := by
  unfold of_Ratio at h
  split at h
  · injection h with h; subst h; rfl
  · cases h
def EltF : TypeId → Type
  | 3 => Int
  | _ => Unit
def encF : (e : TypeId) → EltF e → List Sc
  | 3, x => [.int .i64 x]
  | _, _ => []
def decF (e : TypeId) (l : List Sc) : Option (EltF e) :=
  if h : e = 3 then by subst h; exact ofInt .i64 l else
  none
def dfltF (e : TypeId) : EltF e := by
  unfold EltF
  split
  · exact (0 : Int)
  · exact ()
def bytesF : (e : TypeId) → Option (ByteArray → List (EltF e))
  | _ => none
def strF : (e : TypeId) → Option (List (EltF e) → ByteArray)
  | _ => none
def szF : TypeId → Nat
  | _ => 1
def hasF (e : TypeId) : Bool := Nat.beq e 3
theorem gTab : Tryd.prog.globalNamed "internal/strconv.uint64pow10" = some 0 := by kernel_rfl
theorem tab_at {w : World} (h : Lib.TabIs Tryd.prog w "internal/strconv.uint64pow10" .u64 Lib.pow10Tab) : 0 < w.heap.size := by
  rcases Nat.lt_or_ge 0 w.heap.size with h1 | h1
  · exact h1
  · unfold Lib.TabIs World.var? at h
    rw [gTab] at h
    simp [Array.getElem?_eq_none h1] at h
theorem tab_kept {w w' : World} (h : Lib.TabIs Tryd.prog w "internal/strconv.uint64pow10" .u64 Lib.pow10Tab) (hk : w'.heap[0]? = w.heap[0]?) : Lib.TabIs Tryd.prog w' "internal/strconv.uint64pow10" .u64 Lib.pow10Tab := by
  unfold Lib.TabIs World.var? at h ⊢
  rw [gTab] at h ⊢
  simp only [Option.bind_some] at h ⊢
  rw [hk]; exact h
def C : Codec := { Elt := EltF, has := hasF, sz := szF, enc := encF, dec := decF, dflt := dfltF, bytes := bytesF, str := strF, low := 1, inv := fun w => Lib.TabIs Tryd.prog w "internal/strconv.uint64pow10" .u64 Lib.pow10Tab }
theorem has_cases {e : TypeId} (h : C.has e = true) : e = 3 := by
  have h : hasF e = true := h
  simp only [hasF, Bool.or_eq_true, Nat.beq_eq] at h
  simpa [or_assoc] using h
theorem good : C.Good Tryd.prog where
  low := fun w h => tab_at h
  inv := fun w w' h hk => tab_kept h (hk 0 (Nat.lt_succ_self _))
  sz := by
    intro e h
    rcases has_cases h with rfl
    · exact ⟨by kernel_rfl, of_decide_eq_true (by kernel_rfl), of_decide_eq_true (by kernel_rfl)⟩
  zero := by
    intro e h
    rcases has_cases h with rfl
    · exact zero_of (by kernel_rfl)
  len := by
    intro e x h
    rcases has_cases h with rfl
    · rfl
  plain := by
    intro e x h
    rcases has_cases h with rfl
    · rfl
  dec := by
    intro e cs x h
    show hasF e = true ∧ encF e x = cs
    have h : decF e cs = some x := h
    by_cases h3 : e = 3
    · subst h3; exact ⟨rfl, ofInt_ok .i64 _ _ h⟩
    simp only [decF, h3, dite_false] at h
    cases h
  bytes := by
    intro e f h
    have h : bytesF e = some f := h
    unfold bytesF at h
    split at h
    · cases h
  str := by
    intro e f h
    have h : strF e = some f := h
    unfold strF at h
    split at h
    · cases h
theorem full : Full C Tryd.prog := by
  intro e ls ss h hl hs
  rcases has_cases h with rfl
  · have h2 : tys Tryd.prog 8 3 = some [.int .i64] := by kernel_rfl
    rw [h2] at hl
    injection hl with hl; subst hl
    obtain ⟨s0, r0, rfl, h0, hs⟩ := hs.uncons
    obtain rfl := hs.unnil
    obtain ⟨n0, rfl⟩ := suit_int h0
    exact ⟨n0, rfl⟩
theorem fit : Fit Tryd.prog := fit_of (by kernel_rfl) (by kernel_rfl)
abbrev tys_Ratio : List TypeDesc := [.int .i64, .int .i64]
def wf_Ratio (x : Ratio) : Prop := (IntKind.i64.min ≤ x.Num ∧ x.Num ≤ IntKind.i64.max) ∧ (IntKind.i64.min ≤ x.Den ∧ x.Den ≤ IntKind.i64.max) ∧ True
theorem wf_Ratio_of (x : Ratio) (h : SuitAll tys_Ratio (cells_Ratio x)) : wf_Ratio x := ⟨h.1.2, h.2.1.2, trivial⟩
theorem told_Ratio (cs : List Sc) (hs : SuitAll tys_Ratio cs) : ∃ x, cs = cells_Ratio x ∧ wf_Ratio x := by
  have h := hs
  obtain ⟨s0, r0, rfl, h0, hs⟩ := hs.uncons
  obtain ⟨s1, r1, rfl, h1, hs⟩ := hs.uncons
  obtain rfl := hs.unnil
  obtain ⟨n0, rfl⟩ := suit_int h0
  obtain ⟨n1, rfl⟩ := suit_int h1
  exact ⟨⟨n0, n1⟩, rfl, wf_Ratio_of _ h⟩
def keep (f : FuncId) (r : Nat) : List Nat := match f, r with
  | 39, 1 => [0, 1]
  | 49, 2 => [0, 5, 6]
  | 50, 2 => [0, 3]
  | 51, 5 => [0, 4, 5]
  | _, _ => []
noncomputable def body3 : Code := (Tryd.f3.body).getD .skip
noncomputable def body12 : Code := (Tryd.f12.body).getD .skip
noncomputable def body40 : Code := (Tryd.f40.body).getD .skip
noncomputable def body39 : Code := (Tryd.f39.body).getD .skip
noncomputable def body13 : Code := (Tryd.f13.body).getD .skip
noncomputable def body42 : Code := (Tryd.f42.body).getD .skip
noncomputable def body41 : Code := (Tryd.f41.body).getD .skip
noncomputable def body14 : Code := (Tryd.f14.body).getD .skip
noncomputable def body43 : Code := (Tryd.f43.body).getD .skip
noncomputable def body15 : Code := (Tryd.f15.body).getD .skip
noncomputable def body44 : Code := (Tryd.f44.body).getD .skip
noncomputable def body16 : Code := (Tryd.f16.body).getD .skip
noncomputable def body17 : Code := (Tryd.f17.body).getD .skip
noncomputable def body45 : Code := (Tryd.f45.body).getD .skip
noncomputable def body19 : Code := (Tryd.f19.body).getD .skip
noncomputable def body46 : Code := (Tryd.f46.body).getD .skip
noncomputable def body27 : Code := (Tryd.f27.body).getD .skip
noncomputable def body49 : Code := (Tryd.f49.body).getD .skip
noncomputable def body23 : Code := (Tryd.f23.body).getD .skip
noncomputable def body25 : Code := (Tryd.f25.body).getD .skip
noncomputable def body21 : Code := (Tryd.f21.body).getD .skip
noncomputable def body48 : Code := (Tryd.f48.body).getD .skip
noncomputable def body4 : Code := (Tryd.f4.body).getD .skip
noncomputable def body18 : Code := (Tryd.f18.body).getD .skip
noncomputable def body5 : Code := (Tryd.f5.body).getD .skip
noncomputable def body20 : Code := (Tryd.f20.body).getD .skip
noncomputable def body47 : Code := (Tryd.f47.body).getD .skip
noncomputable def body22 : Code := (Tryd.f22.body).getD .skip
noncomputable def body24 : Code := (Tryd.f24.body).getD .skip
noncomputable def body26 : Code := (Tryd.f26.body).getD .skip
noncomputable def body6 : Code := (Tryd.f6.body).getD .skip
noncomputable def body28 : Code := (Tryd.f28.body).getD .skip
noncomputable def body50 : Code := (Tryd.f50.body).getD .skip
noncomputable def body51 : Code := (Tryd.f51.body).getD .skip
noncomputable def body7 : Code := (Tryd.f7.body).getD .skip
noncomputable def body8 : Code := (Tryd.f8.body).getD .skip
noncomputable def body9 : Code := (Tryd.f9.body).getD .skip
noncomputable def body29 : Code := (Tryd.f29.body).getD .skip
noncomputable def body30 : Code := (Tryd.f30.body).getD .skip
noncomputable def body31 : Code := (Tryd.f31.body).getD .skip
noncomputable def body32 : Code := (Tryd.f32.body).getD .skip
noncomputable def body10 : Code := (Tryd.f10.body).getD .skip
noncomputable def body33 : Code := (Tryd.f33.body).getD .skip
noncomputable def body34 : Code := (Tryd.f34.body).getD .skip
noncomputable def body35 : Code := (Tryd.f35.body).getD .skip
noncomputable def body36 : Code := (Tryd.f36.body).getD .skip
noncomputable def body11 : Code := (Tryd.f11.body).getD .skip
noncomputable def body37 : Code := (Tryd.f37.body).getD .skip
noncomputable def body52 : Code := (Tryd.f52.body).getD .skip
noncomputable def body38 : Code := (Tryd.f38.body).getD .skip
def Ψ0 : Known C := fun _ => none
theorem Ψ0_ok : KnownOk C Tryd.prog Ψ0 := fun _ _ h => by cases h
end Go.Abs.K
