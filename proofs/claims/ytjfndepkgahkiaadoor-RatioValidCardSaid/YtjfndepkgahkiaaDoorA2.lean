/- WHAT IS TOLD OF A RUN, second part: regions (in the text's order; where the order is left open it is shown by numbers that it doesn't matter), calls, loops. No law stands here. -/
import Derived.Test.YtjfndepkgahkiaaDoorA1
namespace Go.Abs
section
variable {C : Codec} {R : Type}

def Sc.ment : Sc → List Nat
  | .ptr b _ | .eptr b _ _ _ | .sl b | .tsl b | .mp b => [b]
  | _ => []
def Fl.ment (x : Fl) : List Nat := x.cells.flatMap Sc.ment
def AV.ment : AV → List Nat
  | .fl x => x.ment
  | .tup vs => vs.flatMap Fl.ment
  | .clo _ a b => a.flatMap Fl.ment ++ b.flatMap Fl.ment
def Blk.ment : Blk C → List Nat
  | .box _ cs => cs.flatMap Sc.ment
  | _ => []
def Sc.live : Sc → Bool
  | .dead => false
  | _ => true
def AV.live : AV → Bool
  | .fl x => x.cells.all Sc.live
  | .tup vs => vs.all fun x => x.cells.all Sc.live
  | .clo _ a b => (a.all fun x => x.cells.all Sc.live) && b.all fun x => x.cells.all Sc.live
def Blk.live : Blk C → Bool
  | .box _ cs => cs.all Sc.live
  | _ => true
def memN (b : Nat) : List Nat → Bool
  | [] => false
  | c :: r => Nat.beq b c || memN b r
def St.blk (σ : St C) (b : Nat) : Blk C := σ.H.getD b .gone
def isCall : Op → Bool
  | .call { callee := .value _, .. } => true
  | _ => false
/-- Some blocks, as one list of what they mention. -/
def mentB (H : Nat → Blk C) (l : List Nat) : List Nat := l.flatMap fun b => (H b).ment
/-- What an operation looks into. -/
def St.reach (σ : St C) (o : Op) (m : List Nat) : List Nat := cond (isCall o) (m ++ mentB σ.blk m) m
/-- What an operation may look at. -/
def St.view (σ : St C) (o : Op) (vs : List AV) (b : Nat) : Blk C := cond (looks o && memN b (σ.reach o (vs.flatMap AV.ment))) (σ.blk b) .gone
def St.vals (σ : St C) (o : Op) : List AV := o.operands.toList.map σ.ev

/-- A temporary's Bool, known now. -/
def St.know (σ : St C) (t : Nat) (b : Bool) : St C := { σ with T := σ.T.set t (.bool b) }
/-- The guard of an operation. -/
def guardK (ops : Array Oper) (σ : St C) (o : Oper) (k : Bool → St C → Option R) : Option R :=
  match o.guard with
  | none => k true σ
  | some (j, want) => match (ops[j]?).bind (·.dst) with
    | some t => match σ.T.getD t .dead, want with
      | .fl (.one (.bool b)), true => cond b (k true (σ.know t true)) (k false (σ.know t false))
      | .fl (.one (.bool b)), false => cond b (k false (σ.know t true)) (k true (σ.know t false))
      | .tup [], _ => k false σ
      | _, _ => none
    | none => none

/-- What an operation that was carried out has looked at and has changed. -/
structure Ann where
  rd : List Nat
  wr : List Nat
  kill : Option Nat
  ment : List Nat
  live : Bool
  all : Bool


def scPlain : Sc → Bool
  | .int _ _ | .bool _ | .str _ => true
  | _ => false
def toRV (P : Program) (H : Nat → Blk C) (t : TypeId) (v : AV) : Option (RV C) :=
  match v with
  | .fl (.one .nsl) => match elemOf P t with
    | some e => cond (C.has e) (some (.row e [])) none
    | none => none
  | .fl x => cond (x.cells.all scPlain) (some (.fl x)) (match x with
    | .one s => match rowOf H s, elemOf P t with
      | some (_, ⟨e, xs⟩), some e' => cond (Nat.beq e e') (some (.row e xs)) none
      | _, _ => none
    | _ => none)
  | _ => none
def toRVs (P : Program) (H : Nat → Blk C) : List TypeId → List AV → Option (List (RV C))
  | [], [] => some []
  | t :: ts, v :: vs => match toRV P H t v, toRVs P H ts vs with
    | some x, some l => some (x :: l)
    | _, _ => none
  | _, _ => none
def ofRVs (n : Nat) : List (RV C) → List Fl × List (Nat × Blk C)
  | [] => ([], [])
  | .fl x :: r => let q := ofRVs n r; (x :: q.1, q.2)
  | .row e xs :: r => let q := ofRVs (n + 1) r; (.one (.sl n) :: q.1, (n, .row e true xs) :: q.2)
def tupOf : List Fl → AV
  | [x] => .fl x
  | l => .tup l
def rowsIn : List (RV C) → Nat
  | [] => 0
  | .fl _ :: r => rowsIn r
  | .row _ _ :: r => rowsIn r + 1

/-- A call of a function that is known by its answers. -/
def knownK (P : Program) (n : Nat) (H : Nat → Blk C) (f : FuncId) (φ : KnownF C) (vs : List AV) (k : Res C → Option R) : Option R :=
  match P.funcs[f]? with
  | some fn => match fn.body, toRVs P H fn.params.toList vs with
    | some _, some l => φ.run R l fun rs => cond (Nat.ble (rowsIn rs) 2) (let q := ofRVs n rs; k { v := tupOf q.1, up := q.2 }) none
    | _, _ => none
  | none => none
/-! A call of a function that takes something over -/
/-- Cells of a variable, as they are handed over. Beside them: the rows' blocks (1: taken over). -/
def toCells (P : Program) (H : Nat → Blk C) : List TypeId → List Sc → Option (List (RV C) × List (Option Nat × Nat))
  | [], [] => some ([], [])
  | t :: ts, s :: cs => match toCells P H ts cs with
    | some (l, q) => match elemOf P t, s with
      | some e, .nsl => cond (C.has e) (some (.row e [] :: l, (none, 1) :: q)) none
      | some e, .sl b => match H b with
        | .row e' true xs => cond (Nat.beq e' e) (some (.row e' xs :: l, (some b, 1) :: q)) none
        | _ => none
      | none, s => cond (scPlain s) (some (.fl (.one s) :: l, q)) none
      | _, _ => none
    | none => none
  | _, _ => none
def srcOf : AV → Option Nat
  | .fl (.one (.sl b)) => some b
  | .fl (.one (.tsl b)) => some b
  | _ => none
/-- What is handed in, and the blocks it lies in (0: read, 1: a row taken over, 2: a variable). -/
def toE (P : Program) (H : Nat → Blk C) : List Eat → List TypeId → List AV → Option (List (RV C) × List (Option Nat × Nat))
  | [], [], [] => some ([], [])
  | .no :: E, t :: ts, v :: vs => match toRV P H t v, toE P H E ts vs with
    | some (.fl x), some (l, q) => some (.fl x :: l, q)
    | some (.row e xs), some (l, q) => some (.row e xs :: l, (srcOf v, 0) :: q)
    | _, _ => none
  | .row :: E, t :: ts, .fl (.one s) :: vs => match toCells P H [t] [s], toE P H E ts vs with
    | some (l1, q1), some (l, q) => some (l1 ++ l, q1 ++ q)
    | _, _ => none
  | .box t us :: E, _ :: ts, .fl (.one (.ptr b o)) :: vs => match H b with
    | .box t' cs => cond (Nat.beq o 0 && Nat.beq t' t) (match toCells P H us cs, toE P H E ts vs with
      | some (l1, q1), some (l, q) => some (l1 ++ l, (some b, 2) :: (q1 ++ q))
      | _, _ => none) none
    | _ => none
  | _, _, _ => none
/-- Nothing that is taken over is handed in twice. -/
def clash (b : Option Nat) (k : Nat) : List (Option Nat × Nat) → Bool
  | [] => false
  | (b', k') :: r => (match b, b' with
    | some b, some b' => Nat.beq b b' && !(Nat.beq k 0 && Nat.beq k' 0)
    | _, _ => false) || clash b k r
def apartS : List (Option Nat × Nat) → Bool
  | [] => true
  | (b, k) :: r => !clash b k r && apartS r
def killsOf : List (Option Nat × Nat) → List Nat
  | [] => []
  | (some b, 1) :: r => b :: killsOf r
  | _ :: r => killsOf r
def boxLen : List Eat → Nat
  | [] => 0
  | .box _ ts :: E => ts.length + boxLen E
  | _ :: E => boxLen E
def onesOf : List Fl → Option (List Sc)
  | [] => some []
  | .one s :: r => cond s.live (match onesOf r with
    | some l => some (s :: l)
    | none => none) none
  | _ :: _ => none
def deadBoxes : List Eat → List AV → List (Nat × Blk C)
  | .box t ts :: E, .fl (.one (.ptr b _)) :: vs => (b, .box t (List.replicate ts.length .dead)) :: deadBoxes E vs
  | _ :: E, _ :: vs => deadBoxes E vs
  | _, _ => []
def boxUps : List Eat → List AV → List Fl → Option (List (Nat × Blk C))
  | .box t ts :: E, .fl (.one (.ptr b _)) :: vs, xs => match onesOf (xs.take ts.length), boxUps E vs (xs.drop ts.length) with
    | some cs, some u => cond (Nat.beq cs.length ts.length) (some ((b, .box t cs) :: u)) none
    | _, _ => none
  | _ :: E, _ :: vs, xs => boxUps E vs xs
  | _, _, _ => some []
def eatK (P : Program) (n : Nat) (H : Nat → Blk C) (f : FuncId) (φ : KnownF C) (vs : List AV) (k : Res C → Option R) : Option R :=
  match P.funcs[f]? with
  | some fn => match fn.body, toE P H φ.eat (fn.params.toList ++ List.replicate (φ.eat.length - fn.params.size) 0) vs with
    | some _, some (l, q) => cond (apartS q && Nat.ble (killsOf q).length 1) (φ.run R l fun rs => cond (Nat.ble (rowsIn rs) 2) (let o := ofRVs n rs
      match boxUps φ.eat vs (o.1.drop (o.1.length - boxLen φ.eat)) with
      | some bu => k { v := tupOf (o.1.take (o.1.length - boxLen φ.eat)), up := (killsOf q).map (fun b => (b, .gone)) ++ (deadBoxes φ.eat vs ++ (o.2 ++ bu)), kill := (killsOf q).head? }
      | none => none) none) none
    | _, _ => none
  | none => none
/-- A call whose answer is a function: one case after the other. -/
def splitF : List FuncId → Int → (FuncId → Option R) → Option R
  | [], _, _ => none
  | f :: r, n, k => cond (decide (n = (f : Int))) (k f) (splitF r n k)
def fnK (P : Program) (H : Nat → Blk C) (f : FuncId) (φ : KnownF C) (vs : List AV) (k : Res C → Option R) : Option R :=
  match P.funcs[f]? with
  | some fn => match fn.body, toRVs P H fn.params.toList vs with
    | some _, some l => φ.run R l fun rs => match rs with
      | [.fl (.one (.int _ n))] => splitF φ.fns n fun g => k { v := .clo g [] [] }
      | _ => none
    | _, _ => none
  | none => none
def kwnK (P : Program) (n : Nat) (H : Nat → Blk C) (f : FuncId) (φ : KnownF C) (vs : List AV) (k : Res C → Option R) : Option R :=
  match φ.fns, φ.eat with
  | [], [] => knownK P n H f φ vs k
  | [], _ => eatK P n H f φ vs k
  | _, _ => fnK P H f φ vs k
def calleeOf : List AV → Option (FuncId × List AV)
  | .clo f a b :: vs => some (f, a.map .fl ++ vs ++ b.map .fl)
  | _ => none

abbrev Callee (C : Codec) (R : Type) := FuncId → List AV → St C → (AV → St C → Option R) → Option R

def annOf (σ : St C) (o : Oper) (vs : List AV) (r : Res C) : Ann :=
  let m := vs.flatMap AV.ment
  let rd := cond (looks o.op) (σ.reach o.op m) []
  { rd, wr := r.up.map (·.1), kill := r.kill, ment := m ++ mentB σ.blk rd ++ r.v.ment ++ r.up.flatMap (·.2.ment), live := vs.all AV.live && rd.all fun b => (σ.blk b).live, all := false }
def Ann.skip : Ann := ⟨[], [], none, [], true, false⟩
def Ann.every : Ann := ⟨[], [], none, [], false, true⟩
/-- One operation. n: the number of the block that it may make. -/
def stepK (P : Program) (Ψ : Known C) (call : Callee C R) (n : Nat) (ops : Array Oper) (σ : St C) (o : Oper) (k : St C → Ann → Option R) : Option R :=
  guardK ops σ o fun b σ => match b with
  | false => k (σ.put o.dst (.tup [])) Ann.skip
  | true => match isCall o.op with
    | false => coreK P n (σ.view o.op (σ.vals o.op)) o.op (σ.vals o.op) fun r => k (σ.apply o.dst r) (annOf σ o (σ.vals o.op) r)
    | true => match calleeOf (σ.vals o.op) with
      | some (f, as) => match Ψ f with
        | some φ => kwnK P n (σ.view o.op (σ.vals o.op)) f φ as fun r => k (σ.apply o.dst r) (annOf σ o (σ.vals o.op) r)
        | none => call f as σ fun v σ' => k (σ'.put o.dst v) Ann.every
      | none => none

/-- Does an operation make blocks? -/
def makes : Op → Bool
  | .alloc _ | .box _ _ | .buildSlice _ _ _ | .makeSlice _ _ _ | .slice _ _ _ _ _ | .convert _ _ _ | .makeMap _ _ => true
  | .call { callee := .builtin .append, .. } | .call { callee := .value _, .. } => true
  | _ => false
def St.grow (σ : St C) (n : Nat) : St C := { σ with H := σ.H ++ List.replicate n .gone }
def trimH : List (Blk C) → List (Blk C)
  | [] => []
  | x :: r => match x, trimH r with
    | .gone, [] => []
    | x, r => x :: r
def St.trim (σ : St C) : St C := { σ with H := trimH σ.H }
def opsK (P : Program) (Ψ : Known C) (call : Callee C R) (ops : Array Oper) : List Oper → St C → (St C → Option R) → Option R
  | [], σ, k => k σ
  | o :: r, σ, k => match makes o.op with
    | false => stepK P Ψ call 0 ops σ o fun σ' _ => opsK P Ψ call ops r σ' k
    | true => stepK P Ψ call σ.H.length ops (σ.grow 2) o fun σ' _ => opsK P Ψ call ops r σ'.trim k

/-- May two operations, neither of which waits for the other, come in either order? -/
def disj (a b : List Nat) : Bool := a.all fun x => !memN x b
def indep (x y : Ann) : Bool :=
  !x.all && !y.all && disj x.wr y.rd && disj x.wr y.wr && disj y.wr x.rd &&
  (match x.kill with | some b => !memN b y.ment && y.live | none => true) && (match y.kill with | some b => !memN b x.ment | none => true)
def tmpsOf (o : Oper) : List Nat := (o.op.operands.toList.filterMap fun | .tmp t => some t | _ => none)
def guardTmp (ops : Array Oper) (o : Oper) : List Nat := match o.guard with
  | some (j, _) => ((ops[j]?).bind (·.dst)).toList
  | none => []
def apartOps (ops : Array Oper) (x y : Oper) : Bool :=
  let dx := x.dst.toList; let dy := y.dst.toList
  disj dx dy && disj dx (tmpsOf y ++ guardTmp ops y) && disj dy (tmpsOf x ++ guardTmp ops x)
/-- done: what was carried out, the last first. m: what stands before the operation, as bits. -/
def fitsAll (ops : Array Oper) (m : Nat) (o : Oper) (a : Ann) : List (Nat × Oper × Ann) → Bool
  | [] => true
  | (i, o', a') :: r => (m.testBit i || (apartOps ops o' o && indep a' a)) && fitsAll ops m o a r
def force {α : Type} (n : Nat) (k : Nat → α) : α := match n with | 0 => k 0 | m + 1 => k (m + 1)
/-- What stands before operation j; ms: the same of those before it, the last first. -/
def maskGo (ms : List Nat) (j : Nat) : List Edge → Nat → Nat
  | [], s => s
  | e :: r, s => cond (Region.binds .any e && Nat.blt e.on j) (maskGo ms j r (s ||| 2 ^ e.on ||| ms.getD (j - 1 - e.on) 0)) (maskGo ms j r s)
def backs (j : Nat) (o : Oper) : Bool := o.after.toList.all fun e => !Region.binds .any e || Nat.blt e.on j
/-- What is written is new, or was told of. -/
def wrOk (σ : St C) (n : Nat) (a : Ann) : Bool := a.wr.all fun b => Nat.beq b n || Nat.beq b (n + 1) || (match σ.blk b with | .gone => false | _ => true)
def noCall : Callee C R := fun _ _ _ _ => none
/-- Does each of some operations come behind operation b? -/
def afterAll (b : Nat) : List Oper → Nat → List Nat → Bool
  | [], _, _ => true
  | o :: r, j, ms => force (maskGo ms j o.after.toList 0) fun m => m.testBit b && afterAll b r (j + 1) (m :: ms)
/-- A call that is walked into: all ahead comes ahead of it, all behind it comes behind it. -/
def wall (m j : Nat) (r : List Oper) (ms : List Nat) : Bool := Nat.beq (m + 1) (2 ^ j) && afterAll j r (j + 1) (m :: ms)
def drawK (P : Program) (Ψ : Known C) (call : Callee C R) (ops : Array Oper) : Nat → List Oper → Nat → List Nat → List (Nat × Oper × Ann) → St C → (St C → Option R) → Option R
  | _, [], _, _, _, σ, k => k σ
  | n, o :: r, j, ms, done, σ, k => cond (backs j o) (force (maskGo ms j o.after.toList 0) fun m => stepK P Ψ (cond (wall m j r ms) call noCall) (n + 2 * j) ops σ o fun σ' a =>
    cond a.all (drawK P Ψ call ops σ'.trim.H.length r (j + 1) (m :: ms) [] (σ'.trim.grow (2 * ops.size)) k)
      (cond (fitsAll ops m o a done && wrOk σ (n + 2 * j) a) (drawK P Ψ call ops n r (j + 1) (m :: ms) ((j, o, a) :: done) σ' k) none)) none

/-- Rows that are to be sliced in a region whose order is left open: from its beginning on they are not the call's own. -/
def srcT (t : Nat) : List Oper → Nat
  | [] => t
  | o :: r => match o.dst, o.op with
    | some d, .move (.tmp u) => cond (Nat.beq d t) u (srcT t r)
    | _, _ => srcT t r
def disT (t : Nat) (σ : St C) : St C := match σ.T.getD t .dead with
  | .fl (.one (.sl b)) => { σ with H := upd σ.H (disUp σ.blk b) }
  | _ => σ
def disown1 (ops : List Oper) (o : Oper) (σ : St C) : St C := match o.guard, o.op with
  | none, .slice _ (.tmp t) _ _ _ => disT (srcT t ops) σ
  | _, _ => σ
def disown (ops : List Oper) : List Oper → St C → St C
  | [], σ => σ
  | o :: r, σ => disown ops r (disown1 ops o σ)
def regionK (P : Program) (Ψ : Known C) (call : Callee C R) (ops : Array Oper) (draw : Bool) (σ : St C) (k : St C → Option R) : Option R :=
  match draw with
  | false => opsK P Ψ call ops ops.toList σ k
  | true => drawK P Ψ call ops (disown ops.toList ops.toList σ).H.length ops.toList 0 [] [] ((disown ops.toList ops.toList σ).grow (2 * ops.size)) fun σ' => k σ'.trim

/-! ### At a loop's head: what is not named any more is left out, the blocks are numbered anew -/
def disc (H : List (Blk C)) : Nat → List Nat → List Nat → List Nat
  | 0, _, acc => acc.reverse
  | _, [], acc => acc.reverse
  | k + 1, b :: r, acc => cond (memN b acc) (disc H k r acc) (disc H k ((H.getD b .gone).ment ++ r) (b :: acc))
def idxN (b : Nat) : List Nat → Option Nat
  | [] => none
  | c :: r => cond (Nat.beq b c) (some 0) ((idxN b r).map (· + 1))
def Sc.ren (l : List Nat) : Sc → Sc
  | .ptr b o => match idxN b l with | some c => .ptr c o | none => .dead
  | .eptr b sz i o => match idxN b l with | some c => .eptr c sz i o | none => .dead
  | .sl b => match idxN b l with | some c => .sl c | none => .dead
  | .tsl b => match idxN b l with | some c => .tsl c | none => .dead
  | .mp b => match idxN b l with | some c => .mp c | none => .dead
  | s => s
def nodupN : List Nat → Bool
  | [] => true
  | b :: r => !memN b r && nodupN r
def keepT (l : List Nat) : Nat → List AV → List AV
  | _, [] => []
  | t, v :: r => cond (memN t l) v .dead :: keepT l (t + 1) r
/-- A nil slice in a temporary is told as a row without elements (4096 * (e + 1) + t in a keep list: temporary t, of elements e). -/
def unnil1 (x : Nat) (σ : St C) : St C := match σ.T.getD (x % 4096) .dead with
  | .fl (.one .nsl) => cond (C.has (x / 4096 - 1)) { σ with T := σ.T.set (x % 4096) (.fl (.one (.sl σ.H.length))), H := σ.H ++ [.row (x / 4096 - 1) true []] } σ
  | _ => σ
def unnil : List Nat → St C → St C
  | [], σ => σ
  | x :: r, σ => unnil r (cond (Nat.ble 4096 x) (unnil1 x σ) σ)
/-- What of the outer frames is named any more (1000000000 * (i + 1) + 100000000 in a keep list: frame i is pruned; 1000000000 * (i + 1) + t: but for its temporary t). -/
def keepF (l : List Nat) : Nat → List (List AV) → List (List AV)
  | _, [] => []
  | i, T :: r => cond (memN (1000000000 * (i + 1) + 100000000) l) (keepT l (1000000000 * (i + 1)) T) T :: keepF l (i + 1) r
def pruneF (keep : List Nat) (σ : St C) : St C := { σ with F := keepF keep 0 σ.F }
def St.norm (keep : List Nat) (σ0 : St C) : St C :=
  let σ := pruneF keep (unnil keep σ0)
  let T := keepT keep 0 σ.T
  let l := disc σ.H (10 * σ.H.length + 100) (T.flatMap AV.ment ++ σ.F.flatMap (·.flatMap AV.ment)) []
  let σ1 : St C := { T, F := σ.F, H := l.map fun b => σ.H.getD b .gone }
  cond (nodupN l) (σ1.map (Sc.ren l)) σ

/-! ### Code -/
def headId : Code → Nat
  | .region id _ _ => id
  | .seq a _ => headId a
  | .block _ a | .loop a | .scope a => headId a
  | _ => 0
def iterK (F : St C → (Exit → St C → Option R) → Option R) (nrm : St C → St C) : Nat → St C → (Exit → St C → Option R) → Option R
  | 0, _, _ => none
  | m + 1, σ, k => F σ fun e σ' => match e with
    | .normal => iterK F nrm m (nrm σ') k
    | e => k e σ'
def codeK (P : Program) (Ψ : Known C) (call : Callee C R) (keep : Nat → List Nat) (m : Nat) : Code → St C → (Exit → St C → Option R) → Option R
  | .skip, σ, k => k .normal σ
  | .region _ ops draw, σ, k => regionK P Ψ call ops draw σ fun σ' => k .normal σ'
  | .seq a b, σ, k => codeK P Ψ call keep m a σ fun e σ' => match e with
    | .normal => codeK P Ψ call keep m b σ' k
    | e => k e σ'
  | .cond (.tmp c) a b, σ, k => match σ.T.getD c .dead with
    | .fl (.one (.bool t)) => cond t (codeK P Ψ call keep m a (σ.know c true) k) (codeK P Ψ call keep m b (σ.know c false) k)
    | _ => none
  | .cond (.const (.bool t)) a b, σ, k => cond t (codeK P Ψ call keep m a σ k) (codeK P Ψ call keep m b σ k)
  | .block id a, σ, k => codeK P Ψ call keep m a σ fun e σ' => match e with
    | .exit id' => cond (Nat.beq id' id) (k .normal σ') (k (.exit id') σ')
    | e => k e σ'
  | .loop a, σ, k => iterK (fun σ k => codeK P Ψ call keep m a σ k) (St.norm (keep (headId a))) m (St.norm (keep (headId a)) σ) k
  | .exit id, σ, k => k (.exit id) σ
  | .label _, σ, k => k .normal σ
  | .ret, σ, k => k .ret σ
  | _, _, _ => none

/-- A place inside code: the way there. -/
inductive Way where
  | l | r | b | o
def subC : Code → List Way → Code
  | c, [] => c
  | .seq a _, .l :: p => subC a p
  | .seq _ a, .r :: p => subC a p
  | .cond _ a _, .l :: p => subC a p
  | .cond _ _ a, .r :: p => subC a p
  | .block _ a, .b :: p => subC a p
  | .loop a, .o :: p => subC a p
  | c, _ => c
/-- What follows behind a place inside code. nxt: what follows behind a round of the innermost loop around it. -/
def contK (P : Program) (Ψ : Known C) (call : Callee C R) (keep : Nat → List Nat) (m : Nat) : Code → List Way → (Exit → St C → Option R) → Exit → St C → Option R
  | .seq a b, .l :: p, k => contK P Ψ call keep m a p fun e σ' => match e with
    | .normal => codeK P Ψ call keep m b σ' k
    | e => k e σ'
  | .seq _ b, .r :: p, k => contK P Ψ call keep m b p k
  | .cond _ a _, .l :: p, k => contK P Ψ call keep m a p k
  | .cond _ _ a, .r :: p, k => contK P Ψ call keep m a p k
  | .block id a, .b :: p, k => contK P Ψ call keep m a p fun e σ' => match e with
    | .exit id' => cond (Nat.beq id' id) (k .normal σ') (k (.exit id') σ')
    | e => k e σ'
  | _, _, k => k

/-- The results as they lie in temporaries or in variables. -/
def resK (P : Program) (σ : St C) : List ResultVar → Option (List Fl)
  | [] => some []
  | .tmp t :: r => match σ.T.getD t .dead, resK P σ r with
    | .fl x, some l => some (x :: l)
    | _, _ => none
  | .cell a t :: r => match σ.T.getD a .dead, resK P σ r with
    | .fl (.one s), some l => match peek σ.blk s with
      | some (cs, o) => match cut P t cs o with
        | some x => some (x :: l)
        | none => none
      | none => none
    | _, _ => none
/-- What a function hands back; a function alone may be handed back, too. -/
def handV (P : Program) (σ : St C) : List ResultVar → Option AV
  | [.tmp t] => match σ.T.getD t .dead with
    | .clo g a b => some (.clo g a b)
    | _ => (resK P σ [.tmp t]).map tupOf
  | rs => (resK P σ rs).map tupOf
/-- Behind a function's code. -/
def leaveK (P : Program) (rs : List ResultVar) (k : AV → St C → Option R) (e : Exit) (σ : St C) : Option R :=
  match e with
  | .normal | .ret => match handV P σ rs, σ.F with
    | some v, T :: F => k v { T, F, H := σ.H }
    | _, _ => none
  | _ => none
def enterT (fn : Func) (as : List AV) : List AV := as ++ List.replicate (fn.ntmps - as.length) .dead
/-- A function, walked into. d: how deep. -/
def callK (P : Program) (Ψ : Known C) (keep : FuncId → Nat → List Nat) (m : Nat) : Nat → Callee C R
  | 0, _, _, _, _ => none
  | d + 1, f, as, σ, k => match P.funcs[f]? with
    | some fn => match fn.body with
      | some c => codeK P Ψ (callK P Ψ keep m d) (keep f) m c { T := enterT fn as, F := σ.T :: σ.F, H := σ.H } (leaveK P fn.results.toList k)
      | none => none
    | none => none
/-- A function by its body: what it hands back, as values and rows of its own. -/
def outRV (P : Program) (H : Nat → Blk C) : List Nat → List TypeId → List Fl → Option (List (RV C))
  | _, [], [] => some []
  | seen, t :: ts, x :: r => match x with
    | .one .nsl => match elemOf P t with
      | some e => cond (C.has e) (match outRV P H seen ts r with
        | some l => some (.row e [] :: l)
        | none => none) none
      | none => none
    | .one (.sl b) => match H b, memN b seen with
      | .row e true xs, false => match outRV P H (b :: seen) ts r with
        | some l => some (.row e xs :: l)
        | none => none
      | _, _ => none
    | x => cond (x.cells.all scPlain) (match outRV P H seen ts r with
      | some l => some (.fl x :: l)
      | none => none) none
  | _, _, _ => none
def inRV (n : Nat) : List (RV C) → List AV × List (Blk C)
  | [] => ([], [])
  | .fl x :: r => let q := inRV n r; (.fl x :: q.1, q.2)
  | .row e xs :: r => let q := inRV (n + 1) r; (.fl (.one (.sl n)) :: q.1, .row e false xs :: q.2)
def finK (P : Program) (ts : List TypeId) (v : AV) (σ : St C) : Option (List (RV C)) := match v with
  | .fl x => outRV P σ.blk [] ts [x]
  | .tup [] => outRV P σ.blk [] ts []
  | .tup (x :: y :: l) => outRV P σ.blk [] ts (x :: y :: l)
  | _ => none
def funK (P : Program) (Ψ : Known C) (keep : FuncId → Nat → List Nat) (m d : Nat) (f : FuncId) (args : List (RV C)) : Option (List (RV C)) :=
  match P.funcs[f]? with
  | some fn => callK P Ψ keep m d f (inRV 0 args).1 { T := [], F := [], H := (inRV 0 args).2 } (finK P fn.resultTypes.toList)
  | none => none
/-- What is handed in, as the function finds it. -/
def inCells : Nat → Nat → List (RV C) → Option (List Sc × List (Blk C) × List (RV C))
  | _, 0, l => some ([], [], l)
  | n, k + 1, .fl (.one s) :: l => cond (scPlain s) (match inCells n k l with
    | some (cs, bl, r) => some (s :: cs, bl, r)
    | none => none) none
  | n, k + 1, .row e xs :: l => match inCells (n + 1) k l with
    | some (cs, bl, r) => some (.sl n :: cs, .row e true xs :: bl, r)
    | none => none
  | _, _, _ => none
def inE : Nat → List Eat → List (RV C) → Option (List AV × List (Blk C))
  | _, [], [] => some ([], [])
  | n, .no :: E, .fl x :: l => match inE n E l with
    | some (as, bl) => some (.fl x :: as, bl)
    | none => none
  | n, .no :: E, .row e xs :: l => match inE (n + 1) E l with
    | some (as, bl) => some (.fl (.one (.sl n)) :: as, .row e false xs :: bl)
    | none => none
  | n, .row :: E, .row e xs :: l => match inE (n + 1) E l with
    | some (as, bl) => some (.fl (.one (.sl n)) :: as, .row e true xs :: bl)
    | none => none
  | n, .box t ts :: E, l => match inCells (n + 1) ts.length l with
    | some (cs, bl, r) => match inE (n + 1 + bl.length) E r with
      | some (as, bl') => some (.fl (.one (.ptr n 0)) :: as, .box t cs :: (bl ++ bl'))
      | none => none
    | none => none
  | _, _, _ => none
/-- Of the arguments the variables alone are remembered till the function ends. -/
def frameE : List Eat → List AV → List AV
  | .box _ _ :: E, v :: vs => v :: frameE E vs
  | _ :: E, _ :: vs => .dead :: frameE E vs
  | _, vs => vs.map fun _ => .dead
def outCells (H : Nat → Blk C) : List Eat → List AV → Option (List TypeId × List Fl)
  | .box t ts :: E, .fl (.one (.ptr b o)) :: vs => match H b, outCells H E vs with
    | .box t' cs, some (tl, xl) => cond (Nat.beq o 0 && Nat.beq t' t && Nat.beq cs.length ts.length) (some (ts ++ tl, cs.map .one ++ xl)) none
    | _, _ => none
  | .box _ _ :: _, _ => none
  | _ :: E, _ :: vs => outCells H E vs
  | _ :: _, [] => none
  | [], _ => some ([], [])
def flsOf : AV → Option (List Fl)
  | .fl x => some [x]
  | .tup [] => some []
  | .tup (x :: y :: l) => some (x :: y :: l)
  | _ => none
def finE (P : Program) (E : List Eat) (ts : List TypeId) (v : AV) (σ : St C) : Option (List (RV C)) :=
  match outCells σ.blk E σ.T, flsOf v with
  | some (tl, xl), some xs => outRV P σ.blk [] (ts ++ tl) (xs ++ xl)
  | _, _ => none
def funE (P : Program) (Ψ : Known C) (keep : FuncId → Nat → List Nat) (m d : Nat) (f : FuncId) (E : List Eat) (args : List (RV C)) : Option (List (RV C)) :=
  match P.funcs[f]? with
  | some fn => match inE 0 E args with
    | some (as, H) => callK P Ψ keep m d f as { T := frameE E as, F := [], H } (finE P E fn.resultTypes.toList)
    | none => none
  | none => none
/-- A function whose answer is a function. -/
def finF (v : AV) (σ : St C) : Option (List (RV C)) := match v with
  | .clo g [] [] => some [.fl (.one (.int .u64 (g : Int)))]
  | _ => none
def funF (P : Program) (Ψ : Known C) (keep : FuncId → Nat → List Nat) (m d : Nat) (f : FuncId) (args : List (RV C)) : Option (List (RV C)) :=
  match P.funcs[f]? with
  | some fn => callK P Ψ keep m d f (inRV 0 args).1 { T := [], F := [], H := (inRV 0 args).2 } finF
  | none => none
end
end Go.Abs
