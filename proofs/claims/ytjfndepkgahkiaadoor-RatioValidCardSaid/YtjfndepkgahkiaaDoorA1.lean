/- WHAT IS TOLD OF A RUN: an executable account of Go code (values, own variables, rows of slices), made so that the kernel can compute it over unknown numbers: each test is a 'cond'. No law stands here. -/
import Derived.Calls
namespace Go.Abs

/-- A cell's value as it is told: an address is the number of a told block. -/
inductive Sc where
  | dead
  | int (k : IntKind) (n : Int)
  | bool (b : Bool)
  | str (s : ByteArray)
  | ptr (b o : Nat)
  | eptr (b sz : Nat) (i : Int) (o : Nat)
  | nsl
  | sl (b : Nat)
  | tsl (b : Nat)
  | mp (b : Nat)   -- a map

def Sc.live1 : Sc → Bool
  | .dead => false
  | _ => true
inductive Fl where
  | one (s : Sc)
  | agg (cs : List Sc)

inductive AV where
  | fl (x : Fl)
  | tup (vs : List Fl)
  | clo (f : FuncId) (first : List Fl) (caps : List Fl)

structure Codec where
  Elt : TypeId → Type
  has : TypeId → Bool
  sz : TypeId → Nat
  enc : (e : TypeId) → Elt e → List Sc
  dec : (e : TypeId) → List Sc → Option (Elt e)
  dflt : (e : TypeId) → Elt e
  bytes : (e : TypeId) → Option (ByteArray → List (Elt e))
  str : (e : TypeId) → Option (List (Elt e) → ByteArray)
  low : Nat := 0   -- the package's variables lie below
  inv : World → Prop := fun _ => True   -- what is known of them

inductive Blk (C : Codec) where
  | gone
  | box (t : TypeId) (cs : List Sc)
  | row (e : TypeId) (own : Bool) (xs : List (C.Elt e))
  | tab (e : TypeId) (l : List (Int × C.Elt e))   -- the call's own map, its keys are int

/-- What is handed to a function that is known by its answers, and what it hands back. -/
inductive RV (C : Codec) where
  | fl (x : Fl)
  | row (e : TypeId) (xs : List (C.Elt e))

structure St (C : Codec) where
  T : List AV
  F : List (List AV)
  H : List (Blk C)

/-- What a known function does with an argument: reads it; takes a row over (the caller has no use of it afterwards); takes over what a variable holds (t: the variable's type, ts: its cells'), and leaves something there. -/
inductive Eat where
  | no
  | row
  | box (t : TypeId) (ts : List TypeId)
/-- What is known of a function: its answer, handed on. Behind the results stands what it leaves in variables. -/
structure KnownF (C : Codec) where
  eat : List Eat := []
  fns : List FuncId := []   -- the answer is one of these functions, by its number
  run : (R : Type) → List (RV C) → (List (RV C) → Option R) → Option R
  nat : ∀ (R : Type) (l : List (RV C)) (k : List (RV C) → Option R), run R l k = (run (List (RV C)) l some).bind k
abbrev Known (C : Codec) := FuncId → Option (KnownF C)

section
variable {C : Codec} {R : Type}

def Sc.die (b : Nat) : Sc → Sc
  | .eptr b' sz i o => cond (Nat.beq b' b) .dead (.eptr b' sz i o)
  | .sl b' => cond (Nat.beq b' b) .dead (.sl b')
  | .tsl b' => cond (Nat.beq b' b) .dead (.tsl b')
  | s => s
def Fl.map (f : Sc → Sc) : Fl → Fl
  | .one s => .one (f s)
  | .agg cs => .agg (cs.map f)
def AV.map (f : Sc → Sc) : AV → AV
  | .fl x => .fl (x.map f)
  | .tup vs => .tup (vs.map (·.map f))
  | .clo g a b => .clo g (a.map (·.map f)) (b.map (·.map f))
def Blk.map (f : Sc → Sc) : Blk C → Blk C
  | .box t cs => .box t (cs.map f)
  | x => x
def St.map (f : Sc → Sc) (σ : St C) : St C := { T := σ.T.map (·.map f), F := σ.F.map (·.map (·.map f)), H := σ.H.map (·.map f) }

abbrev AV.dead : AV := .fl (.one .dead)
abbrev AV.int (k : IntKind) (n : Int) : AV := .fl (.one (.int k n))
abbrev AV.bool (b : Bool) : AV := .fl (.one (.bool b))
abbrev AV.str (s : ByteArray) : AV := .fl (.one (.str s))

def scOf : Value → Sc
  | .int k n => .int k n
  | .bool b => .bool b
  | .string s => .str s
  | .slice none 0 0 => .nsl
  | _ => .dead
def oneC : Value → Bool
  | .agg _ | .tuple _ => false
  | _ => true
def flOf : Value → Fl
  | .agg cs => cond (cs.toList.all oneC) (.agg (cs.toList.map scOf)) (.one .dead)
  | v => .one (scOf v)
def ofConst (v : Value) : AV := .fl (flOf v)
def St.ev (σ : St C) : Operand → AV
  | .tmp t => σ.T.getD t .dead
  | .const v => ofConst v
  | .global _ => .dead
  | .func f => .clo f [] []
def St.put (σ : St C) (d : Option Tmp) (v : AV) : St C :=
  match d with
  | some d => { σ with T := σ.T.set d v }
  | none => σ
def Fl.cells : Fl → List Sc
  | .one s => [s]
  | .agg cs => cs

/-- What an operation comes to: its value, what blocks hold from now on, rows that are given up. -/
structure Res (C : Codec) where
  v : AV
  up : List (Nat × Blk C) := []
  kill : Option Nat := none

def isAggB (P : Program) (t : TypeId) : Bool := match P.underlying t with
  | some (.struct _) | some (.array _ _) => true
  | _ => false
/-- A value whose cells are all told of. -/
def Fl.good : Fl → Bool
  | .one .dead => false
  | _ => true
def zeroOf (P : Program) (t : TypeId) : Option Fl := match (P.info? t).bind (·.zero) with
  | some v => cond ((flOf v).good) (some (flOf v)) none
  | none => none
/-- n cells from o on, as a value of type t. -/
def cut (P : Program) (t : TypeId) (cs : List Sc) (o : Nat) : Option Fl :=
  match P.underlying t with
  | none => none
  | some _ => match isAggB P t, (cs.drop o).take (P.cellsOf t) with
    | true, xs => cond (Nat.beq xs.length (P.cellsOf t) && Nat.ble 1 xs.length) (some (.agg xs)) none
    | false, [s] => cond (Nat.beq (P.cellsOf t) 1) (some (.one s)) none
    | false, _ => none
def splice (cs : List Sc) (o : Nat) (xs : List Sc) : Option (List Sc) :=
  cond (Nat.ble (o + xs.length) cs.length) (some (cs.take o ++ xs ++ cs.drop (o + xs.length))) none
def fieldOf (P : Program) (s : TypeId) (j : Nat) : Option (Nat × TypeId) := match P.underlying s with
  | some (.struct fs) => (fs[j]?).map fun f => (f.offset, f.type)
  | _ => none
def elemOf (P : Program) (t : TypeId) : Option TypeId := match P.underlying t with
  | some (.slice e) => some e
  | _ => none
/-- What a block tells of cell o of its element i (a row), or of its cell o (a variable). -/
def peek (H : Nat → Blk C) : Sc → Option (List Sc × Nat)
  | .ptr b o => match H b with
    | .box _ cs => some (cs, o)
    | _ => none
  | .eptr b sz i o => match H b with
    | .row e _ xs => cond (Nat.beq sz (C.sz e)) (some (C.enc e (xs.getD i.toNat (C.dflt e)), o)) none
    | _ => none
  | _ => none
/-- A row that is read: its block, its element type, its elements. -/
def rowOf (H : Nat → Blk C) (s : Sc) : Option (Nat × (e : TypeId) × List (C.Elt e)) :=
  match s with
  | .sl b => match H b with
    | .row e _ xs => some (b, ⟨e, xs⟩)
    | _ => none
  | .tsl b => match H b with
    | .row e _ xs => some (b, ⟨e, xs⟩)
    | _ => none
  | _ => none
def byteAt (s : ByteArray) (i : Int) : Int := ((s.data.toList.getD i.toNat 0).toNat : Int)

/-- A row that is sliced is not the call's own any more. -/
def disUp (H : Nat → Blk C) (b : Nat) : List (Nat × Blk C) := match H b with
  | .row e true xs => [(b, .row e false xs)]
  | _ => []
def eqSc : TypeDesc → Sc → Sc → Option Bool
  | .int _, .int k a, .int k' b => cond (k == k') (some (a == b)) none
  | .bool, .bool a, .bool b => some (a == b)
  | .string, .str a, .str b => some (a == b)
  | _, _, _ => none
def eqCells : List TypeDesc → List Sc → List Sc → Option Bool
  | [], [], [] => some true
  | t :: ts, x :: xs, y :: ys => match eqSc t x y, eqCells ts xs ys with
    | some a, some b => some (a && b)
    | _, _ => none
  | _, _, _ => none
/-- The cells' types of a type whose values are compared cell by cell. -/
def leavesF (P : Program) (rec : TypeId → Option (List TypeDesc)) : Nat → List Field → Option (List TypeDesc)
  | _, [] => some []
  | o, f :: r => cond (f.name != "_" && Nat.beq f.offset o) (match rec f.type, leavesF P rec (o + P.cellsOf f.type) r with
    | some a, some b => cond (Nat.beq a.length (P.cellsOf f.type) && Nat.ble 1 a.length) (some (a ++ b)) none
    | _, _ => none) none
def leaves (P : Program) : Nat → TypeId → Option (List TypeDesc)
  | 0, _ => none
  | d + 1, t => match P.underlying t with
    | some .bool => some [.bool]
    | some (.int k) => some [.int k]
    | some .string => some [.string]
    | some (.struct fs) => cond (!P.stoodInHeld t) (leavesF P (leaves P d) 0 fs.toList) none
    | _ => none

def binK (P : Program) (op : BinOp) (t : TypeId) (x y : Fl) (k : Fl → Option R) : Option R :=
  match x, y with
  | .one (.int ki a), .one (.int kj b) =>
    match op with
    | .shl => cond (decide (b < 0)) none (k (.one (.int ki (ki.wrap (a * 2 ^ (min b.toNat ki.bits))))))
    | .shr => cond (decide (b < 0)) none (k (.one (.int ki (a.fdiv (2 ^ (min b.toNat ki.bits))))))
    | op =>
      cond (ki == kj) (match op with
        | .add => k (.one (.int ki (ki.wrap (a + b))))
        | .sub => k (.one (.int ki (ki.wrap (a - b))))
        | .mul => k (.one (.int ki (ki.wrap (a * b))))
        | .quo => cond (decide (b = 0)) none (k (.one (.int ki (ki.wrap (a.tdiv b)))))
        | .rem => cond (decide (b = 0)) none (k (.one (.int ki (a.tmod b))))
        | .and => k (.one (.int ki (ki.wrap ((BitVec.ofInt ki.bits a &&& BitVec.ofInt ki.bits b).toNat))))
        | .or => k (.one (.int ki (ki.wrap ((BitVec.ofInt ki.bits a ||| BitVec.ofInt ki.bits b).toNat))))
        | .xor => k (.one (.int ki (ki.wrap ((BitVec.ofInt ki.bits a ^^^ BitVec.ofInt ki.bits b).toNat))))
        | .andNot => k (.one (.int ki (ki.wrap ((BitVec.ofInt ki.bits a &&& ~~~ (BitVec.ofInt ki.bits b)).toNat))))
        | .eql => k (.one (.bool (a == b)))
        | .neq => k (.one (.bool (a != b)))
        | .lss => k (.one (.bool (decide (a < b))))
        | .leq => k (.one (.bool (decide (a ≤ b))))
        | .gtr => k (.one (.bool (decide (a > b))))
        | .geq => k (.one (.bool (decide (a ≥ b))))
        | _ => none) none
  | .one (.str a), .one (.str b) =>
    match op with
    | .add => cond (decide (((a.size + b.size : Nat) : Int) > IntKind.i64.max)) none (k (.one (.str (a ++ b))))
    | .eql => k (.one (.bool (a.toList == b.toList)))
    | .neq => k (.one (.bool (!(a.toList == b.toList))))
    | .lss => k (.one (.bool (Op.bytesLess a.toList b.toList)))
    | _ => none
  | .one (.bool a), .one (.bool b) =>
    cond (match P.underlying t with | some .bool => true | _ => false) (match op with
    | .eql => k (.one (.bool (a == b)))
    | .neq => k (.one (.bool (!(a == b))))
    | _ => none) none
  | .agg xs, .agg ys =>
    cond (isAggB P t && !P.eqGuardType P.depth t) (match leaves P 8 t with
      | some ls => cond (Nat.beq (P.cellsOf t) ls.length) (match op, eqCells ls xs ys with
        | .eql, some r => k (.one (.bool r))
        | .neq, some r => k (.one (.bool (!r)))
        | _, _ => none) none
      | none => none) none
  | _, _ => none

def unK (op : UnOp) (x : Fl) (k : Fl → Option R) : Option R :=
  match op, x with
  | .neg, .one (.int ki a) => k (.one (.int ki (ki.wrap (0 - a))))
  | .xor, .one (.int ki a) => k (.one (.int ki (ki.wrap ((BitVec.ofInt ki.bits (if ki.signed then -1 else ki.max) ^^^ BitVec.ofInt ki.bits a).toNat))))
  | .not, .one (.bool b) => k (.one (.bool (!b)))
  | _, _ => none

def buildCells (P : Program) (t : TypeId) (vs : List Sc) : List (Nat × Fl) → Option (List Sc)
  | [] => some vs
  | (j, x) :: r => match fieldOf P t j with
    | some (o, ft) => cond (x.good && Nat.beq x.cells.length (P.cellsOf ft)) (match splice vs o x.cells with
      | some vs => buildCells P t vs r
      | none => none) none
    | none => none
def asFl : AV → Option Fl
  | .fl x => some x
  | _ => none
/-- The parts of a literal: the fields' or elements' numbers beside their values. -/
def parts : List (Nat × Operand) → List AV → Option (List (Nat × Fl))
  | [], _ => some []
  | (j, _) :: r, .fl x :: vs => match parts r vs with
    | some l => some ((j, x) :: l)
    | none => none
  | _ :: _, _ => none
/-- A literal's elements, the parts in order: 0, 1, .. -/
def litElems (e : TypeId) : Nat → List (Nat × Fl) → Option (List (C.Elt e))
  | _, [] => some []
  | n, (j, x) :: r => cond (Nat.beq j n) (match C.dec e x.cells, litElems e (n + 1) r with
    | some x, some l => some (x :: l)
    | _, _ => none) none

def minK (k : IntKind) : Int → List AV → Option Int
  | x, [] => some x
  | x, .fl (.one (.int k' y)) :: r => cond (k == k') (minK k (if y < x then y else x) r) none
  | _, _ => none
def maxK (k : IntKind) : Int → List AV → Option Int
  | x, [] => some x
  | x, .fl (.one (.int k' y)) :: r => cond (k == k') (maxK k (if x < y then y else x) r) none
  | _, _ => none

/-- An append of elements to what is told: nil, a row of the call's own, a row without spare room. n: the new row's number. -/
def appendK (P : Program) (n : Nat) (e : TypeId) (s : Sc) (H : Nat → Blk C) (ys : List (C.Elt e)) (k : Res C → Option R) : Option R :=
  match s with
  | .nsl => cond (C.has e) (cond (decide (ys.length * P.bytesOf e ≤ 140737488355328)) (k { v := .fl (.one (.sl n)), up := [(n, .row e true ys)] }) none) none
  | .sl b => match H b with
    | .row e' true xs => if h : e' = e then
        cond (decide ((xs.length + ys.length) * P.bytesOf e ≤ 140737488355328)) (k { v := .fl (.one (.sl b)), up := [(b, .row e true (h ▸ xs ++ ys))], kill := some b }) none
      else none
    | _ => none
  | .tsl b => match H b with
    | .row e' _ xs => if h : e' = e then
        cond (decide (0 < ys.length)) (cond (decide ((xs.length + ys.length) * P.bytesOf e ≤ 140737488355328)) (k { v := .fl (.one (.sl n)), up := [(n, .row e true (h ▸ xs ++ ys))] }) none) none
      else none
    | _ => none
  | _ => none

/-- The next value, if the operand is there. -/
def optK (x : Option Operand) (vs : List AV) (dflt : Int) (k : Int → List AV → Option R) : Option R :=
  match x, vs with
  | none, vs => k dflt vs
  | some _, .fl (.one (.int _ i)) :: r => k i r
  | some _, _ => none

/-- An index of a small array, one case after the other. -/
def idxK : Nat → Int → (Nat → Option R) → Option R
  | 0, _, _ => none
  | m + 1, i, k => cond (decide (i = m)) (k m) (idxK m i k)

/-! Maps whose keys are int, as lists of entries. -/
section
variable {X : Type}
def mget (z : X) (i : Int) : List (Int × X) → X
  | [] => z
  | p :: r => cond (i == p.1) p.2 (mget z i r)
def mhas (i : Int) : List (Int × X) → Bool
  | [] => false
  | p :: r => cond (i == p.1) true (mhas i r)
def mput (i : Int) (x : X) : List (Int × X) → List (Int × X)
  | [] => [(i, x)]
  | p :: r => cond (i == p.1) ((i, x) :: r) (p :: mput i x r)
def mdel (i : Int) : List (Int × X) → List (Int × X)
  | [] => []
  | p :: r => cond (i == p.1) r (p :: mdel i r)
end
/-- The elements of a map type whose keys are int. -/
def mapOf (P : Program) (t : TypeId) : Option TypeId := match P.underlying t with
  | some (.map kt e) => match P.underlying kt with
    | some (.int .i64) => some e
    | _ => none
  | _ => none
def aggOk (P : Program) (e : TypeId) : Fl → Bool
  | .agg _ => isAggB P e
  | .one s => s.live1 && !isAggB P e

/-- Does an operation look into blocks? -/
def looks : Op → Bool
  | .load .. | .store .. | .indexAddr .. | .slice .. | .convert .. | .call _ | .lookup .. | .mapUpdate .. => true
  | _ => false

/-- An operation but calls of functions, by its operands' values. n: the number of the block that it may make. -/
def coreK (P : Program) (n : Nat) (H : Nat → Blk C) (o : Op) (vs : List AV) (k : Res C → Option R) : Option R :=
  match o, vs with
  | .move _, [x] => k { v := x }
  | .assign _, [x] => k { v := x }
  | .pick _ _ _, [.fl (.one (.bool t)), a, b] => cond t (k { v := a }) (k { v := b })
  | .alloc t, _ => match zeroOf P t with
    | some z => k { v := .fl (.one (.ptr n 0)), up := [(n, .box t z.cells)] }
    | none => none
  | .box t _, [.fl x] => cond (x.good && Nat.beq x.cells.length (P.cellsOf t)) (k { v := .fl (.one (.ptr n 0)), up := [(n, .box t x.cells)] }) none
  | .load t _, [.fl (.one a)] => match peek H a with
    | some (cs, o) => match cut P t cs o with
      | some v => k { v := .fl v }
      | none => none
    | none => none
  | .store t _ _, [.fl (.one (.ptr b o)), .fl x] => match H b with
    | .box t' cs => cond (x.good && Nat.beq x.cells.length (P.cellsOf t) && Nat.ble 1 (P.cellsOf t)) (match splice cs o x.cells with
      | some cs' => k { v := .dead, up := [(b, .box t' cs')] }
      | none => none) none
    | _ => none
  | .store t _ _, [.fl (.one (.eptr b sz i o)), .fl x] => match H b with
    | .row e true xs => cond (x.good && Nat.beq x.cells.length (P.cellsOf t) && Nat.ble 1 (P.cellsOf t) && Nat.beq sz (C.sz e)) (match splice (C.enc e (xs.getD i.toNat (C.dflt e))) o x.cells with
      | some cs' => match C.dec e cs' with
        | some y => k { v := .dead, up := [(b, .row e true (xs.set i.toNat y))] }
        | none => none
      | none => none) none
    | _ => none
  | .nilCheck _, [.fl (.one (.ptr b o))] => k { v := .fl (.one (.ptr b o)) }
  | .binOp op t _ _ _, [.fl x, .fl y] => binK P op t x y fun v => k { v := .fl v }
  | .unOp op _ _, [.fl x] => unK op x fun v => k { v := .fl v }
  | .extract _ j, [.tup vs] => match vs[j]? with
    | some v => k { v := .fl v }
    | none => none
  | .field t _ j, [.fl (.agg cs)] => match fieldOf P t j with
    | some (o, ft) => match cut P ft cs o with
      | some v => k { v := .fl v }
      | none => none
    | none => none
  | .fieldAddr t _ j, [.fl (.one (.ptr b o))] => match fieldOf P t j with
    | some (o', ft) => cond (Nat.beq (P.cellsOf ft) 0) none (k { v := .fl (.one (.ptr b (o + o'))) })
    | none => none
  | .fieldAddr t _ j, [.fl (.one (.eptr b sz i o))] => match fieldOf P t j with
    | some (o', ft) => cond (Nat.beq (P.cellsOf ft) 0) none (k { v := .fl (.one (.eptr b sz i (o + o'))) })
    | none => none
  | .indexAddr t _ _, [.fl (.one s), .fl (.one (.int _ i))] => match s, P.underlying t with
    | .ptr b o, some (.array m e) => cond (decide (0 ≤ i)) (cond (decide (i < m)) (cond (Nat.ble 1 (P.cellsOf e)) (cond (Nat.ble m 4) (idxK m i fun j => k { v := .fl (.one (.ptr b (o + j * P.cellsOf e))) }) (k { v := .fl (.one (.ptr b (o + i.toNat * P.cellsOf e))) })) none) none) none
    | s, some (.slice e') => match rowOf H s with
      | some (b, ⟨e, xs⟩) => cond (Nat.beq e e') (cond (decide (0 ≤ i)) (cond (decide (i < xs.length)) (k { v := .fl (.one (.eptr b (C.sz e) i 0)) }) none) none) none
      | none => none
    | _, _ => none
  | .index t _ _, [.fl (.one (.str s)), .fl (.one (.int _ i))] => match P.underlying t with
    | some .string => cond (decide (0 ≤ i)) (cond (decide (i < s.size)) (k { v := .int .u8 (byteAt s i) }) none) none
    | _ => none
  | .slice t _ lo hi mx, .fl (.one s) :: r => match s, P.underlying t with
    | .str s, some .string => match mx with
      | some _ => none
      | none => optK lo r 0 fun l r => optK hi r s.size fun h _ =>
        cond (decide (0 ≤ h)) (cond (decide (h ≤ s.size)) (cond (decide (0 ≤ l)) (cond (decide (l ≤ h)) (k { v := .str (s.extract l.toNat h.toNat) }) none) none) none) none
    | s, some (.slice e') => match rowOf H s with
      | some (b, ⟨e, xs⟩) => cond (Nat.beq e e') (optK lo r 0 fun l r => optK hi r xs.length fun h r =>
        cond (decide (0 ≤ h)) (cond (decide (h ≤ xs.length)) (cond (decide (0 ≤ l)) (cond (decide (l ≤ h))
          (match mx, hi, r with
          | none, _, _ => k { v := .fl (.one (.sl n)), up := (n, .row e false ((xs.take h.toNat).drop l.toNat)) :: disUp H b }
          | some _, some _, [.fl (.one (.int _ m))] => cond (decide (m = h)) (k { v := .fl (.one (.tsl n)), up := (n, .row e false ((xs.take h.toNat).drop l.toNat)) :: disUp H b }) none
          | _, _, _ => none) none) none) none) none) none
      | none => none
    | _, _ => none
  | .build t ps, vs => match zeroOf P t, parts ps.toList vs, P.underlying t with
    | some (.agg z), some l, some (.struct fs) => cond (fs.toList.all fun f => (P.info? f.type).isSome) (match buildCells P t z l with
      | some cs => k { v := .fl (.agg cs) }
      | none => none) none
    | _, _, _ => none
  | .buildSlice t len ps, vs => match elemOf P t, parts ps.toList vs with
    | some e, some l => match litElems (C := C) e 0 l with
      | some xs => cond (C.has e && Nat.beq len l.length && Nat.ble (len * C.sz e) 65536) (k { v := .fl (.one (.sl n)), up := [(n, .row e true xs)] }) none
      | none => none
    | _, _ => none
  | .makeSlice t _ _, [.fl (.one (.int .i64 l)), .fl (.one (.int .i64 c))] => match elemOf P t with
    | some e => match (zeroOf P e).bind fun z => C.dec e z.cells with
      | some z => cond (decide (0 ≤ l)) (cond (decide (l ≤ c)) (cond (decide (c * P.bytesOf e ≤ 140737488355328)) (k { v := .fl (.one (.sl n)), up := [(n, .row e true (List.replicate l.toNat z))] }) none) none) none
      | none => none
    | none => none
  | .convert s d _, [.fl (.one x)] => match x, P.underlying s, P.underlying d with
    | .int _ i, some (.int _), some (.int kd) => k { v := .int kd (kd.wrap i) }
    | .str x, some .string, some .string => k { v := .str x }
    | .nsl, some (.slice e), some .string => match P.underlying e with
      | some (.int .u8) => k { v := .str ByteArray.empty }
      | _ => none
    | .str x, some .string, some (.slice e) => match P.underlying e, C.bytes e with
      | some (.int .u8), some f => cond (decide (x.size ≤ 140737488355328)) (k { v := .fl (.one (.sl n)), up := [(n, .row e false (f x))] }) none
      | _, _ => none
    | x, some (.slice e), some .string => match P.underlying e, rowOf H x with
      | some (.int .u8), some (_, ⟨e', xs⟩) => cond (Nat.beq e e') (match C.str e' with
        | some f => k { v := .str (f xs) }
        | none => none) none
      | _, _ => none
    | .sl b, some (.slice _), some (.slice e) => match P.underlying e, Nat.beq s d, H b with
      | some (.int .u8), true, .row e' true xs => cond (decide (0 < xs.length)) (k { v := .fl (.one (.sl b)), up := [(b, .row e' false xs)] }) none
      | _, _, _ => none
    | _, _, _ => none
  | .makeFunc (.func f) first _, vs => match vs.mapM asFl with
    | some l => k { v := .clo f (l.take first.size) (l.drop first.size) }
    | none => none
  | .call { callee := .builtin .len, argTypes, .. }, [.fl (.one s)] => match s, (argTypes[0]?).bind P.underlying with
    | .str s, some .string => k { v := .int .i64 s.size }
    | .nsl, some (.slice _) => k { v := .int .i64 0 }
    | s, some (.slice _) => match rowOf H s with
      | some (_, ⟨_, xs⟩) => k { v := .int .i64 xs.length }
      | none => none
    | _, _ => none
  | .call { callee := .builtin .append, argTypes, .. }, [.fl (.one s), .fl (.one x)] => match argTypes.toList with
    | [t, t'] => match elemOf P t, Nat.beq t t', x with
      | some e, true, .nsl => appendK P n e s H [] k
      | some e, true, x => match rowOf H x with
          | some (_, ⟨e2, ys⟩) => if h : e2 = e then appendK P n e s H (h ▸ ys) k else none
          | none => none
      | some e, false, .str x => match P.underlying t', P.underlying e, C.bytes e with
        | some .string, some (.int .u8), some f => appendK P n e s H (f x) k
        | _, _, _ => none
      | _, _, _ => none
    | _ => none
  | .makeMap t none, _ => match mapOf P t with
    | some e => cond (C.has e) (k { v := .fl (.one (.mp n)), up := [(n, .tab e [])] }) none
    | none => none
  | .mapUpdate t _ _ _, [.fl (.one (.mp b)), .fl (.one (.int .i64 i)), .fl x] => match mapOf P t, H b with
    | some e', .tab e l => cond (Nat.beq e e' && aggOk P e x) (match C.dec e x.cells with
      | some y => k { v := .dead, up := [(b, .tab e (mput i y l))] }
      | none => none) none
    | _, _ => none
  | .lookup t _ _ true, [.fl (.one (.mp b)), .fl (.one (.int .i64 i))] => match mapOf P t, H b with
    | some e', .tab e l => cond (Nat.beq e e') (match (zeroOf P e).bind fun z => cond (aggOk P e z) (C.dec e z.cells) none with
      | some zy => match cut P e (C.enc e (mget zy i l)) 0 with
        | some x => k { v := .tup [x, .one (.bool (mhas i l))] }
        | none => none
      | none => none) none
    | _, _ => none
  | .call { callee := .builtin .delete, argTypes, .. }, [.fl (.one (.mp b)), .fl (.one (.int .i64 i))] => match argTypes.toList with
    | [t, _] => match mapOf P t, H b with
      | some e', .tab e l => cond (Nat.beq e e') (k { v := .tup [], up := [(b, .tab e (mdel i l))] }) none
      | _, _ => none
    | _ => none
  | .call { callee := .builtin .min, .. }, .fl (.one (.int ki x)) :: r => match minK ki x r with
    | some y => k { v := .int ki y }
    | none => none
  | .call { callee := .builtin .max, .. }, .fl (.one (.int ki x)) :: r => match maxK ki x r with
    | some y => k { v := .int ki y }
    | none => none
  | _, _ => none

def upd (H : List (Blk C)) : List (Nat × Blk C) → List (Blk C)
  | [] => H
  | (b, x) :: r => upd (H.set b x) r
def St.apply (σ : St C) (d : Option Tmp) (r : Res C) : St C :=
  let σ1 := match r.kill with
    | some b => σ.map (Sc.die b)
    | none => σ
  { (σ1.put d r.v) with H := upd σ1.H r.up }
end
end Go.Abs
