/- Parts of the proofs of this seat's laws. -/
import GoSem.Core.Program
import GoSem.Core.Region
import GoSem.Machine.Frame
section
set_option linter.all false
/- The abstract interpreter: values without worlds, compact code, evaluation. Definitions alone; nothing here is claimed of the machine. -/
namespace Go.Sv
open Go

/-- Abstract values: 'v u' is exactly the value u; 'sl' a slice whose n elements' cells are cs (with a number: it may be appended to); 'arr' a slice over all of a box; 'ptr' a place in a box; 'cp' a pointer to cells that never change; 'emp' a slice without room. -/
inductive SV where
  | v (u : Value)
  | sl (id : Option Nat) (n : Nat) (cs : List SV)
  | arr (b n : Nat)
  | ptr (b off : Nat)
  | cp (cs : List SV)
  | map (b : Nat)
  | func (f : FuncId) (fst cap : List SV)
  | yield (l : Nat)
  | agg (cs : List SV)
  | tuple (vs : List SV)
  | emp
  | top

/-- Compact operations: where the result goes, the operation, the temporary that guards it and what it must hold. -/
structure COp where
  dst : Option Nat
  op : Op
  ty : TypeId
  g : Option (Nat × Bool)

inductive CC where
  | skip
  | reg (ops : List COp)
  | rdraw (ops : List COp) (deps : List (List Nat))
  | seq (a b : CC)
  | cond (x : Operand) (a b : CC)
  | block (id : Nat) (b : CC)
  | loop (b : CC)
  | rangeFunc (f : Operand) (params : List Nat) (assign body : CC)
  | exit (id : Nat)
  | ret
  | bad

structure CF where
  nt : Nat
  body : CC
  res : List ResultVar

def isDefer : Op → Bool
  | .defer _ => true
  | _ => false

/-- No call is put off there. -/
def noDef : CC → Bool
  | .reg ops => ops.all fun o => !isDefer o.op
  | .rdraw ops _ => ops.all fun o => !isDefer o.op
  | .seq a b => noDef a && noDef b
  | .cond _ a b => noDef a && noDef b
  | .block _ b => noDef b
  | .loop b => noDef b
  | _ => true

def wfC (nt : Nat) : CC → Bool
  | .reg ops => ops.all fun o => o.dst.all (· < nt)
  | .rdraw ops _ => ops.all fun o => o.dst.all (· < nt)
  | .seq a b => wfC nt a && wfC nt b
  | .cond _ a b => wfC nt a && wfC nt b
  | .block _ b => wfC nt b
  | .loop b => wfC nt b
  | .rangeFunc _ ps a b => ps.all (· < nt) && wfC nt a && wfC nt b && noDef a && noDef b
  | _ => true

def compGuard (ops : Array Oper) (o : Oper) : Option (Nat × Bool) :=
  match o.guard with
  | none => none
  | some (j, w) => some ((((ops[j]?).bind (·.dst)).getD 1000000), w)

def compOp (ops : Array Oper) (o : Oper) : COp := ⟨o.dst, o.op, o.type, compGuard ops o⟩

def compDeps (o : Oper) : List Nat := (o.after.toList.filter (Region.binds .any)).map (·.on)

def comp : Code → CC
  | .skip => .skip
  | .region _ ops false => .reg (ops.toList.map (compOp ops))
  | .region _ ops true => .rdraw (ops.toList.map (compOp ops)) (ops.toList.map compDeps)
  | .seq a b => .seq (comp a) (comp b)
  | .cond c a b => .cond c (comp a) (comp b)
  | .block id b => .block id (comp b)
  | .loop b => .loop (comp b)
  | .rangeFunc f params assign body => .rangeFunc f params.toList (comp assign) (comp body)
  | .exit id => .exit id
  | .ret => .ret
  | _ => .bad

def compF (f : Func) : CF := ⟨f.ntmps, (f.body.map comp).getD .bad, f.results.toList⟩

/-- What a loop over a function keeps while it runs: the temporaries where it began; what is to be done behind it. -/
structure LoopRec where
  fn : FuncId
  ρ : Nat → SV
  params : List Nat
  assign : CC
  body : CC
  dfr : Nat
  pending : Option CC
  busy : Bool

inductive SObj where
  | dead
  | cells (cs : List SV)
  | arr (sz : Nat) (cs : List SV)
  | own (sz len : Nat)
  | map (es : List (SV × SV))
  | dfr
  | loop (r : LoopRec)

structure St where
  next : Nat
  get : Nat → SObj
  floor : Nat

def St.alloc (S : St) (o : SObj) : St := { S with next := S.next + 1, get := fun i => if i = S.next then o else S.get i }
def St.put (S : St) (b : Nat) (o : SObj) : St := { S with get := fun i => if i = b then o else S.get i }

inductive Df where
  | coll (d : Nat)
  | call (f : FuncId) (args : List SV)

structure Fr where
  ρ : Nat → SV
  ds : List Df

def upd (ρ : Nat → SV) (t : Nat) (x : SV) : Nat → SV := fun i => if i = t then x else ρ i
def Fr.put (fr : Fr) (d : Option Nat) (x : SV) : Fr := match d with | some t => { fr with ρ := upd fr.ρ t x } | none => fr

inductive Ex where
  | normal
  | exit (id : Nat)
  | ret

/-- What is asked of the program: its tables; which functions are called in which way (0: it changes nothing and its results name nothing of the state; 1: its results may not be appended to; 2: as it is); where new slices lie (0: rows that may be appended to; 1: boxes; 2: rows that never change); which types '==' takes cell by cell; functions that are met by a contract; functions whose boxed parameters are never written. -/
structure K where
  P : Program
  fns : FuncId → Option CF
  mode : FuncId → Nat
  inBox : TypeId → Nat
  eqT : TypeId → Option (List IntKind)
  prim : FuncId → Option (List SV → St → Option (SV × St))
  boxF : FuncId → TypeId → Nat
  still : Bool
  stillF : FuncId → Bool
  pg : FuncId → Bool

/-- Which slices have a box of their own: told function by function. -/
def K.at (k : K) (f : FuncId) : K := { k with inBox := k.boxF f, still := k.stillF f }

def flatV : Value → Bool
  | .agg _ => false
  | .tuple _ => false
  | _ => true

def single : SV → Bool
  | .v u => flatV u
  | .agg _ | .tuple _ | .top => false
  | _ => true

/-- The cells of a value that may lie in memory. -/
def cellsOf : SV → Option (List SV)
  | .agg cs => some cs
  | x => if single x then some [x] else none

def ev (ρ : Nat → SV) : Operand → SV
  | .tmp t => ρ t
  | .const v => .v v
  | .func f => .func f [] []
  | .global _ => .top

/-- No slice and an empty one are told as one. -/
def weakV : Value → SV
  | .slice none 0 0 => .sl none 0 []
  | u => .v u

mutual
/-- What may be told of a value behind a call that leaves no trace: nothing of the state. -/
def erase (S : St) : SV → SV
  | .v u => weakV u
  | .emp => .sl none 0 []
  | .sl _ n cs => .sl none n (eraseL S cs)
  | .arr b n => if S.floor ≤ b then (match S.get b with
    | .arr _ cs => .sl none n (cs.map plainC)
    | _ => .top) else .top
  | .agg cs => .agg (eraseL S cs)
  | .tuple vs => .tuple (eraseL S vs)
  | .func _ _ _ | .ptr _ _ | .cp _ | .map _ | .yield _ | .top => .top
def eraseL (S : St) : List SV → List SV
  | [] => []
  | x :: r => erase S x :: eraseL S r
/-- A cell of a frozen box: scalars alone are told. -/
def plainC : SV → SV
  | .v u => weakV u
  | _ => .top
end

mutual
/-- A value that may not be appended to. -/
def weak : SV → SV
  | .v u => weakV u
  | .emp => .sl none 0 []
  | .sl _ n cs => .sl none n (weakL cs)
  | .arr b n => .arr b n
  | .ptr b o => .ptr b o
  | .cp cs => .cp cs
  | .map b => .map b
  | .func f a c => .func f a c
  | .yield l => .yield l
  | .agg cs => .agg (weakL cs)
  | .tuple vs => .tuple (weakL vs)
  | .top => .top
def weakL : List SV → List SV
  | [] => []
  | x :: r => weak x :: weakL r
end

mutual
/-- What a value says without the state. -/
def shut : SV → SV
  | .v u => .v u
  | .emp => .emp
  | .sl _ n cs => .sl none n (shutL cs)
  | .cp cs => .cp (shutL cs)
  | .func f a c => .func f (shutL a) (shutL c)
  | .agg cs => .agg (shutL cs)
  | .tuple vs => .tuple (shutL vs)
  | .arr _ _ | .ptr _ _ | .map _ | .yield _ | .top => .top
def shutL : List SV → List SV
  | [] => []
  | x :: r => shut x :: shutL r
end

/-- No boxes. -/
def St0 : St := { next := 0, get := fun _ => .dead, floor := 0 }

section ops
variable (k : K)

def size? (t : TypeId) : Option Nat := (k.P.info? t).map (·.size)
def agg? (t : TypeId) : Option Bool := match k.P.underlying t with | some (.struct _) | some (.array _ _) => some true | some _ => some false | none => none
def elem? (t : TypeId) : Option TypeId := match k.P.underlying t with | some (.slice e) => some e | _ => none
def zero? (t : TypeId) : Option (List SV) := ((k.P.info? t).bind (·.zero)).bind fun z => if z.cells.toList.all flatV then some (z.cells.toList.map .v) else none
def zflat? (t : TypeId) : Option Value := ((k.P.info? t).bind (·.zero)).bind fun z => if flatV z then some z else none
def bytes? (t : TypeId) : Option Nat := (k.P.info? t).map (·.bytes)

/-- Where the parts lie. -/
def places? (t : TypeId) : Option (Nat → Option (Nat × Nat)) :=
  match k.P.underlying t with
  | some (.struct fs) => (fs.toList.mapM fun f => (k.P.info? f.type).map fun i => (f.offset, i.size)).map fun l i => l[i]?
  | some (.array _ e) => (k.P.info? e).map fun i j => some (j * i.size, i.size)
  | some (.slice e) => (k.P.info? e).map fun i j => some (j * i.size, i.size)
  | _ => none

def splice (cs : List SV) (off : Nat) (ys : List SV) : List SV := cs.take off ++ ys ++ cs.drop (off + ys.length)

def fillC (pl : Nat → Option (Nat × Nat)) : List (Nat × SV) → List SV → Option (List SV)
  | [], cs => some cs
  | (i, x) :: r, cs => (pl i).bind fun p => (cellsOf x).bind fun ys => if ys.length = p.2 ∧ p.1 + ys.length ≤ cs.length then fillC pl r (splice cs p.1 ys) else none

/-- Cells of a box that is read. -/
def objCells : SObj → Option (List SV)
  | .cells cs => some cs
  | .arr _ cs => some cs
  | _ => none

def takeVal (ag : Bool) (sz : Nat) (cs : List SV) : Option SV :=
  if ag then (if sz ≤ cs.length then some (.agg (cs.take sz)) else none) else cs.head?

def loadE (t : TypeId) (a : SV) (S : St) : Option SV :=
  (agg? k t).bind fun ag => (size? k t).bind fun sz =>
  match a with
  | .ptr b off => (objCells (S.get b)).bind fun cs => takeVal ag sz (cs.drop off)
  | .cp cs => takeVal ag sz cs
  | _ => none

def storeE (t : TypeId) (a x : SV) (S : St) : Option St :=
  (size? k t).bind fun sz => (cellsOf x).bind fun ys =>
  match a with
  | .ptr b off =>
    if S.floor ≤ b ∧ ys.length = sz then
      match S.get b with
      | .cells cs => if off + ys.length ≤ cs.length then some (S.put b (.cells (splice cs off ys))) else none
      | .arr s cs => if off + ys.length ≤ cs.length then some (S.put b (.arr s (splice cs off ys))) else none
      | _ => none
    else none
  | _ => none

def intBin (op : BinOp) (q : IntKind) (a b : Int) : Option Value :=
  match op with
  | .add => some (.int q (q.wrap (a + b)))
  | .sub => some (.int q (q.wrap (a - b)))
  | .mul => some (.int q (q.wrap (a * b)))
  | .quo => if b = 0 then none else some (.int q (q.wrap (a.tdiv b)))
  | .rem => if b = 0 then none else some (.int q (a.tmod b))
  | .eql => some (.bool (a == b))
  | .neq => some (.bool (a != b))
  | .lss => some (.bool (decide (a < b)))
  | .leq => some (.bool (decide (a ≤ b)))
  | .gtr => some (.bool (decide (a > b)))
  | .geq => some (.bool (decide (a ≥ b)))
  | _ => none

def shrE (q : IntKind) (a b : Int) : Option Value := if b < 0 then none else some (.int q (a.fdiv (2 ^ (min b.toNat q.bits))))

/-- Equality cell by cell: whole numbers of these kinds. -/
def eqCells : List IntKind → List SV → List SV → Option Bool
  | [], [], [] => some true
  | q :: sh, .v (.int q1 a) :: r, .v (.int q2 b) :: s => if q1 = q ∧ q2 = q then (eqCells sh r s).map fun t => (a == b) && t else none
  | _, _, _ => none

def binE (op : BinOp) (t : TypeId) (x y : SV) : Option SV :=
  match x, y with
  | .v (.int q a), .v (.int q' b) =>
    match op with
    | .shr => (shrE q a b).map .v
    | .shl => none
    | _ => if q = q' then (intBin op q a b).map .v else none
  | .agg cs, .agg ds =>
    (k.eqT t).bind fun sh => (eqCells sh cs ds).bind fun b =>
      match op with
      | .eql => some (.v (.bool b))
      | .neq => some (.v (.bool (!b)))
      | _ => none
  | .v (.slice none 0 0), .v (.slice none 0 0) => if (elem? k t).isSome then (match op with | .eql => some (.v (.bool true)) | _ => none) else none
  | .v (.slice (some _) _ _), .v (.slice none 0 0) => if (elem? k t).isSome then (match op with | .eql => some (.v (.bool false)) | _ => none) else none
  | .sl _ n _, .v (.slice none 0 0) => if (elem? k t).isSome ∧ n ≠ 0 then (match op with | .eql => some (.v (.bool false)) | _ => none) else none
  | .arr _ _, .v (.slice none 0 0) => if (elem? k t).isSome then (match op with | .eql => some (.v (.bool false)) | _ => none) else none
  | _, _ => none

def lenE (t : TypeId) (x : SV) : Option SV :=
  (elem? k t).bind fun _ =>
  match x with
  | .v (.slice none n _) => some (.v (.int .i64 n))
  | .sl _ n _ => some (.v (.int .i64 n))
  | .arr _ n => some (.v (.int .i64 n))
  | .emp => some (.v (.int .i64 0))
  | _ => none

def indexAddrE (t : TypeId) (x i : SV) : Option SV :=
  match i with
  | .v (.int _ j) =>
    match k.P.underlying t with
    | some (.slice e) => (size? k e).bind fun sz =>
      match x with
      | .sl _ n cs => if 0 ≤ j ∧ j < n ∧ (j.toNat + 1) * sz ≤ cs.length then some (.cp ((cs.drop (j.toNat * sz)).take sz)) else none
      | .arr b n => if 0 ≤ j ∧ j < n then some (.ptr b (j.toNat * sz)) else none
      | _ => none
    | some (.array n e) => (size? k e).bind fun sz =>
      match x with
      | .ptr b off => if 0 ≤ j ∧ j < n then some (.ptr b (off + j.toNat * sz)) else none
      | .cp cs => if 0 ≤ j ∧ j < n then some (.cp (cs.drop (j.toNat * sz))) else none
      | _ => none
    | _ => none
  | _ => none

def fieldAddrE (t : TypeId) (x : SV) (i : Nat) : Option SV :=
  match k.P.underlying t with
  | some (.struct fs) => match fs[i]? with
    | some f => (size? k f.type).bind fun sz => if sz = 0 then none else match x with
      | .ptr b off => some (.ptr b (off + f.offset))
      | .cp cs => some (.cp (cs.drop f.offset))
      | _ => none
    | none => none
  | _ => none

/-- A key of a map that is found. -/
def findK (x : Int) : List (SV × SV) → Option SV
  | [] => none
  | (.v (.int _ y), e) :: r => if x = y then some e else findK x r
  | _ :: r => findK x r

def setK (x : Int) (e : SV) : List (SV × SV) → List (SV × SV)
  | [] => [(.v (.int .i64 x), e)]
  | (.v (.int q y), d) :: r => if x = y then (.v (.int q y), e) :: r else (.v (.int q y), d) :: setK x e r
  | p :: r => p :: setK x e r

/-- Maps with keys of kind int alone. -/
def intMap? (t : TypeId) : Option TypeId :=
  match k.P.underlying t with
  | some (.map q e) => match k.P.underlying q with | some (.int .i64) => some e | _ => none
  | _ => none

def lookupE (t : TypeId) (m key : SV) (ok : Bool) (S : St) : Option SV :=
  (intMap? k t).bind fun e => (zflat? k e).bind fun z =>
  match m, key with
  | .map b, .v (.int .i64 x) =>
    match S.get b with
    | .map es => match findK x es with
      | some y => some (if ok then .tuple [y, .v (.bool true)] else y)
      | none => some (if ok then .tuple [.v z, .v (.bool false)] else .v z)
    | _ => none
  | _, _ => none

def mapUpdateE (t : TypeId) (m key x : SV) (S : St) : Option St :=
  (intMap? k t).bind fun _ =>
  match m, key with
  | .map b, .v (.int .i64 y) =>
    match S.get b with
    | .map es => if S.floor ≤ b ∧ single x = true then some (S.put b (.map (setK y x es))) else none
    | _ => none
  | _, _ => none

/-- How many bytes a slice that grows may take. -/
def room : Nat := 70368744177664

def srcCells (x : SV) (S : St) (sz : Nat) : Option (Nat × List SV) :=
  match x with
  | .v (.slice none 0 0) => some (0, [])
  | .v (.slice (some _) 0 _) => some (0, [])
  | .emp => some (0, [])
  | .sl _ m ys => if ys.length = m * sz then some (m, ys) else none
  | .arr b m => match S.get b with
    | .arr _ ys => if ys.length = m * sz then some (m, ys) else none
    | _ => none
  | _ => none

def appendE (t : TypeId) (s x : SV) (S : St) : Option (SV × St) :=
  (elem? k t).bind fun e => (size? k e).bind fun sz => (bytes? k e).bind fun by_ => (zero? k e).bind fun z =>
  (srcCells x S sz).bind fun (m, ys) =>
  if sz = 0 ∨ by_ = 0 ∨ z.length ≠ sz then none else
  if m = 0 then
    match s with
    | .v (.slice none 0 0) => some (s, S)
    | .emp => some (s, S)
    | .sl _ _ _ => some (s, S)
    | .arr _ _ => some (s, S)
    | _ => none
  else
  match s with
  | .v (.slice none 0 0) | .emp =>
    if m * by_ ≤ room then
      if k.inBox e = 1 then some (.arr S.next m, S.alloc (.arr sz ys)) else some (.sl (some S.next) m ys, S.alloc (.own sz ys.length))
    else none
  | .sl (some b) n cs =>
    match S.get b with
    | .own sz' len => if S.floor ≤ b ∧ sz' = sz ∧ cs.length = len ∧ cs.length = n * sz ∧ (n + m) * by_ ≤ room ∧ k.inBox e ≠ 1 then some (.sl (some S.next) (n + m) (cs ++ ys), (S.put b .dead).alloc (.own sz (cs.length + ys.length))) else none
    | _ => none
  | .arr b n =>
    match S.get b with
    | .arr sz' cs => if S.floor ≤ b ∧ sz' = sz ∧ cs.length = n * sz ∧ (n + m) * by_ ≤ room ∧ k.inBox e = 1 then some (.arr S.next (n + m), (S.put b .dead).alloc (.arr sz (cs ++ ys))) else none
    | _ => none
  | _ => none

def maxE (x y : SV) : Option SV :=
  match x, y with
  | .v (.int q a), .v (.int q' b) => if q = q' then some (.v (.int q (if b > a then b else a))) else none
  | _, _ => none

def builtinE (b : Builtin) (ts : List TypeId) (args : List SV) (S : St) : Option (SV × St) :=
  match b, ts, args with
  | .len, [t], [x] => (lenE k t x).map fun r => (r, S)
  | .append, [t, t2], [s, x] => if (elem? k t2).isSome then appendE k t s x S else none
  | .max, _, [x, y] => (maxE x y).map fun r => (r, S)
  | _, _, _ => none

def sliceE (t : TypeId) (x : SV) (lo hi : Option SV) : Option SV :=
  (elem? k t).bind fun e => (size? k e).bind fun sz =>
  match x with
  | .sl _ n cs =>
    let l : Option Int := match lo with | none => some 0 | some (.v (.int _ j)) => some j | _ => none
    let h : Option Int := match hi with | none => some n | some (.v (.int _ j)) => some j | _ => none
    l.bind fun l => h.bind fun h =>
      if 0 ≤ l ∧ l ≤ h ∧ h ≤ n ∧ cs.length = n * sz then some (.sl none (h.toNat - l.toNat) ((cs.drop (l.toNat * sz)).take ((h.toNat - l.toNat) * sz))) else none
  | _ => none

/-- One operation that is no call. -/
def evOp (o : COp) (ρ : Nat → SV) (S : St) : Option (SV × St) :=
  match o.op with
  | .move x | .assign x => some (ev ρ x, S)
  | .pick c a b => match ev ρ c with | .v (.bool t) => some (if t then ev ρ a else ev ρ b, S) | _ => none
  | .alloc t => (zero? k t).map fun z => (.ptr S.next 0, S.alloc (.cells z))
  | .box _ x => (cellsOf (ev ρ x)).map fun cs => if k.still = true then (.cp cs, S) else (.ptr S.next 0, S.alloc (.cells cs))
  | .build t parts => (agg? k t).bind fun ag => if ag then (zero? k t).bind fun z => (places? k t).bind fun pl => (fillC pl (parts.toList.map fun p => (p.1, ev ρ p.2)) z).map fun cs => (.agg cs, S) else none
  | .buildSlice t len parts => (elem? k t).bind fun e => (zero? k e).bind fun z =>
      (size? k e).bind fun sz => (places? k t).bind fun pl =>
      if sz ≠ z.length ∨ z.length = 0 ∨ 1000 < len ∨ 1000 < z.length then none else
      (fillC pl (parts.toList.map fun p => (p.1, ev ρ p.2)) (List.replicate len z).flatten).map fun cs =>
        if len = 0 then (.emp, S) else
        if k.inBox e = 1 then (.arr S.next len, S.alloc (.arr z.length cs)) else (.sl (some S.next) len cs, S.alloc (.own z.length cs.length))
  | .load t a => (loadE k t (ev ρ a) S).map fun x => (x, S)
  | .store t a x => (storeE k t (ev ρ a) (ev ρ x) S).map fun S' => (.v undef, S')
  | .nilCheck x => match ev ρ x with
    | .ptr b off => some (.ptr b off, S)
    | .cp cs => some (.cp cs, S)
    | .map b => some (.map b, S)
    | _ => none
  | .binOp op t x y _ => (binE k op t (ev ρ x) (ev ρ y)).map fun r => (r, S)
  | .unOp .not _ x => match ev ρ x with | .v (.bool b) => some (.v (.bool (!b)), S) | _ => none
  | .convert src dst x => match k.P.underlying src, k.P.underlying dst, ev ρ x with | some _, some (.int q), .v (.int _ n) => some (.v (.int q (q.wrap n)), S) | _, _, _ => none
  | .makeFunc (.func f) fst cap => some (.func f (fst.toList.map (ev ρ)) (cap.toList.map (ev ρ)), S)
  | .makeMap _ none => some (.map S.next, S.alloc (.map []))
  | .makeSlice t l c => (elem? k t).bind fun e => (zero? k e).bind fun z => (bytes? k e).bind fun by_ => (size? k e).bind fun sz =>
      match ev ρ l, ev ρ c with
      | .v (.int .i64 n), .v (.int .i64 m) =>
        if n = m ∧ 0 ≤ n ∧ n.toNat * by_ ≤ room ∧ z.length ≠ 0 ∧ by_ ≠ 0 ∧ sz = z.length then some (.arr S.next n.toNat, S.alloc (.arr z.length (List.replicate n.toNat z).flatten)) else none
      | _, _ => none
  | .slice t x lo hi none => (sliceE k t (ev ρ x) (lo.map (ev ρ)) (hi.map (ev ρ))).map fun r => (r, S)
  | .fieldAddr t x i => (fieldAddrE k t (ev ρ x) i).map fun r => (r, S)
  | .indexAddr t x i => (indexAddrE k t (ev ρ x) (ev ρ i)).map fun r => (r, S)
  | .lookup t m x ok => (lookupE k t (ev ρ m) (ev ρ x) ok S).map fun r => (r, S)
  | .mapUpdate t m x y | .insert t m x y => (mapUpdateE k t (ev ρ m) (ev ρ x) (ev ρ y) S).map fun S' => (.v undef, S')
  | .extract t i => match ev ρ t with | .tuple vs => (vs[i]?).map fun x => (x, S) | _ => none
  | .call { callee := .builtin b, args, argTypes } => builtinE k b argTypes.toList (args.toList.map (ev ρ)) S
  | _ => none
end ops

section code
variable (k : K)

/-- A new slice that will never change. -/
def frozenT (t : TypeId) : Bool := match elem? k t with | some e => k.inBox e == 2 | none => false
def frozen (o : COp) : Bool :=
  match o.op with
  | .buildSlice t len _ => len != 0 && frozenT k t
  | .call { callee := .builtin .append, argTypes, .. } => match argTypes.toList with | t :: _ => frozenT k t | [] => false
  | _ => false

def evOpF (o : COp) (ρ : Nat → SV) (S : St) : Option (SV × St) :=
  if frozen k o then (evOp k o (fun t => shut (ρ t)) St0).map fun r => (erase r.2 r.1, S) else evOp k o ρ S

/-- A call of a value: a function with what it has captured, or a round of a loop. -/
abbrev CallF := SV → List SV → St → Option (SV × St)

def evOps (cf : CallF) : List COp → Fr → St → Option (Fr × St)
  | [], fr, S => some (fr, S)
  | o :: r, fr, S =>
    let go : Option (Fr × St) :=
      match o.op with
      | .call { callee := .value f, args, .. } => (cf (ev fr.ρ f) (args.toList.map (ev fr.ρ)) S).bind fun (x, S') => evOps cf r (fr.put o.dst x) S'
      | .defer { callee := .value f, args, .. } =>
        match ev fr.ρ f with
        | .func g fst cap => evOps cf r ({ fr with ds := .call g (fst ++ args.toList.map (ev fr.ρ) ++ cap) :: fr.ds }.put o.dst (.v undef)) S
        | _ => none
      | _ => (evOpF k o fr.ρ S).bind fun (x, S') => evOps cf r (fr.put o.dst x) S'
    match o.g with
    | none => go
    | some (t, w) =>
      match fr.ρ t with
      | .top => none
      | .v (.bool b) => if b = w then go else evOps cf r (fr.put o.dst (.v undef)) S
      | _ => evOps cf r (fr.put o.dst (.v undef)) S

/-- An order in which a region's operations may be carried out. -/
def LinExt (deps : List (List Nat)) (l : List Nat) : Prop :=
  l.Nodup ∧ (∀ i, i ∈ l ↔ i < deps.length) ∧ ∀ (l₁ : List Nat) (i : Nat) (l₂ : List Nat), l = l₁ ++ i :: l₂ → ∀ d ∈ deps.getD i [], d ∈ l₁

def pickOps (ops : List COp) (l : List Nat) : List COp := l.filterMap (ops[·]?)

def rdO : Operand → List Nat
  | .tmp t => [t]
  | _ => []

/-- The temporaries that an operation reads. -/
def opReads : Op → List Nat
  | .move x | .assign x | .box _ x | .load _ x | .nilCheck x | .unOp _ _ x | .convert _ _ x | .fieldAddr _ x _ | .extract x _ => rdO x
  | .pick c a b => rdO c ++ (rdO a ++ rdO b)
  | .build _ parts | .buildSlice _ _ parts => parts.toList.flatMap fun p => rdO p.2
  | .store _ a x => rdO a ++ rdO x
  | .binOp _ _ x y _ => rdO x ++ rdO y
  | .makeFunc _ fst cap => fst.toList.flatMap rdO ++ cap.toList.flatMap rdO
  | .makeSlice _ l c => rdO l ++ rdO c
  | .slice _ x lo hi _ => rdO x ++ ((lo.toList.flatMap rdO) ++ (hi.toList.flatMap rdO))
  | .indexAddr _ x i => rdO x ++ rdO i
  | .lookup _ m x _ => rdO m ++ rdO x
  | .mapUpdate _ m x y | .insert _ m x y => rdO m ++ (rdO x ++ rdO y)
  | .call c => (match c.callee with | .value f => rdO f | _ => []) ++ c.args.toList.flatMap rdO
  | _ => []

def reads (o : COp) : List Nat := (match o.g with | some (t, _) => [t] | none => []) ++ opReads o.op

/-- How an operation stands to the state: it does not look at it; it reads a place; it looks at it in any other way; it makes something new; anything else. -/
inductive Cl where
  | pure | load | peek | grow | wild
deriving DecidableEq

def cls (o : COp) : Cl :=
  match o.op with
  | .move _ | .assign _ | .pick _ _ _ | .build _ _ | .nilCheck _ | .binOp _ _ _ _ _ | .unOp _ _ _ | .convert _ _ _ | .makeFunc _ _ _ | .slice _ _ _ _ none | .fieldAddr _ _ _ | .indexAddr _ _ _ | .extract _ _ => .pure
  | .load _ _ => .load
  | .alloc _ => .grow
  | .box _ _ => if k.still = true then .pure else .grow
  | .buildSlice _ len _ => if frozen k o = true ∨ len = 0 then .pure else .grow
  | .lookup _ _ _ _ => .peek
  | .call { callee := .builtin .len, .. } | .call { callee := .builtin .max, .. } => .pure
  | .call { callee := .builtin .append, argTypes, .. } => if frozen k o then .pure else match argTypes.toList with
    | t :: _ => (match elem? k t with | some e => if k.inBox e = 1 then .wild else .grow | none => .wild)
    | [] => .wild
  | .call { callee := .value (.func f), .. } => if k.prim f = none ∧ k.mode f = 3 then .pure else if k.prim f = none ∧ k.mode f = 0 then .peek else if k.pg f = true then .grow else .wild
  | _ => .wild

def clash : Cl → Cl → Bool
  | .pure, _ | _, .pure | .load, .load | .load, .grow | .grow, .load | .load, .peek | .peek, .load | .peek, .peek => false
  | _, _ => true

def touch (a b : COp) : Bool :=
  (match a.dst with | some d => (reads b).contains d || b.dst == some d | none => false) || (match b.dst with | some d => (reads a).contains d | none => false)

def conflict (a b : COp) : Bool := clash (cls k a) (cls k b) || touch a b

/-- A place is read, and then something else is done that may write: it is asked at the time whether the place has stayed. -/
def soft (a b : COp) : Bool := cls k a == .load && cls k b == .wild && !touch a b

def closeRow (acc : List (List Nat)) (ds : List Nat) : List Nat := ds ++ (List.range acc.length).filter fun a => ds.any fun d => (acc.getD d []).contains a

/-- What stands ahead of what, through others too. -/
def closeD (deps : List (List Nat)) : List (List Nat) := deps.foldl (fun acc ds => acc ++ [closeRow acc ds]) []

/-- Every order that keeps to what is told of the order comes to the same. -/
def drawOK (ops : List COp) (deps : List (List Nat)) : Bool :=
  ops.length == deps.length && (ops.all fun o => !isDefer o.op) &&
  (List.range ops.length).all fun i => ((deps.getD i []).all fun d => d < i) && (List.range i).all fun a => (deps.getD i []).contains a ||
    match ops[a]?, ops[i]? with
    | some x, some y => !conflict k x y || soft k x y
    | _, _ => true

/-- Surely equal. -/
def eqV (u u' : Value) : Bool :=
  match u with
  | .int q a => (match u' with | .int q' b => q == q' && a == b | _ => false)
  | .bool a => (match u' with | .bool b => a == b | _ => false)
  | .slice none 0 0 => (match u' with | .slice none 0 0 => true | _ => false)
  | .pointer none => (match u' with | .pointer none => true | _ => false)
  | .map none => (match u' with | .map none => true | _ => false)
  | .nilFunc => (match u' with | .nilFunc => true | _ => false)
  | _ => false

mutual
def eqSV (x y : SV) : Bool :=
  match x with
  | .v u => (match y with | .v u' => eqV u u' | _ => false)
  | .sl i n cs => (match y with | .sl j m ds => i == j && (n == m && eqSVs cs ds) | _ => false)
  | .arr b n => (match y with | .arr c m => b == c && n == m | _ => false)
  | .ptr b n => (match y with | .ptr c m => b == c && n == m | _ => false)
  | .cp cs => (match y with | .cp ds => eqSVs cs ds | _ => false)
  | .map b => (match y with | .map c => b == c | _ => false)
  | .agg cs => (match y with | .agg ds => eqSVs cs ds | _ => false)
  | .emp => (match y with | .emp => true | _ => false)
  | _ => false
def eqSVs (l m : List SV) : Bool :=
  match l with
  | [] => (match m with | [] => true | _ => false)
  | x :: r => (match m with | y :: s => eqSV x y && eqSVs r s | _ => false)
end

def eqO : Option SV → Option SV → Bool
  | some x, some y => eqSV x y
  | _, _ => false

/-- What was read there is there still. -/
def kept (w : TypeId × SV) (S S' : St) : Bool := eqO (loadE k w.1 w.2 S) (loadE k w.1 w.2 S')

/-- Reads that are watched: an index, a type, a place. -/
abbrev Watch := List (Nat × TypeId × SV)

def isPtr : SV → Bool
  | .ptr _ _ => true
  | _ => false

/-- Those of them that an operation may disturb. -/
def askW (deps : List (List Nat)) (i : Nat) (o : COp) (W : Watch) : List (TypeId × SV) :=
  if cls k o = .wild then (W.filter fun p => !(deps.getD i []).contains p.1 && isPtr p.2.2).map (·.2) else []

def addW (i : Nat) (o : COp) (ρ : Nat → SV) (W : Watch) : Watch :=
  match o.op with
  | .load t a => (i, t, ev ρ a) :: W
  | _ => W

def asked (ws : List (TypeId × SV)) (S S' : St) : Bool := ws.all fun w => kept k w S S'

def loadOK (m : Nat) (o : COp) (ρ : Nat → SV) : Bool :=
  match o.op with
  | .load _ a => match ev ρ a with | .ptr b _ => decide (b < m) | _ => true
  | _ => true

/-- One operation of a region that is carried out in any order; m: the boxes there were when it began. -/
def evD1 (cf : CallF) (m : Nat) (o : COp) (fr : Fr) (S : St) : Option (Fr × St) :=
  if loadOK m o fr.ρ = true ∧ m ≤ S.next then (evOps k cf [o] fr S).bind fun r => if m ≤ r.2.next then some r else none else none

def evOpsD (cf : CallF) (deps : List (List Nat)) (m : Nat) : List (Nat × COp) → Watch → Fr → St → Option (Fr × St)
  | [], _, fr, S => some (fr, S)
  | o :: r, W, fr, S => (evD1 k cf m o.2 fr S).bind fun p => if asked k (askW k deps o.1 o.2 W) S p.2 = true then evOpsD cf deps m r (addW o.1 o.2 fr.ρ W) p.1 p.2 else none

def number {α : Type} (l : List α) : List (Nat × α) := (List.range l.length).zip l

def evDraw (cf : CallF) (ops : List COp) (deps : List (List Nat)) (fr : Fr) (S : St) : Option (Fr × St) :=
  if drawOK k ops (closeD deps) = true then evOpsD k cf (closeD deps) S.next (number ops) [] fr S else none

/-- Rounds of a loop: at most so many. -/
def rounds (f : Fr → St → Option (Ex × Fr × St)) : Nat → Fr → St → Option (Ex × Fr × St)
  | 0, _, _ => none
  | n + 1, fr, S => (f fr S).bind fun (e, fr', S') =>
    match e with
    | .normal => rounds f n fr' S'
    | e => some (e, fr', S')

def evCode (cf : CallF) (n : Nat) (fn : FuncId) (inRound : Bool) : CC → Fr → St → Option (Ex × Fr × St)
  | .skip, fr, S => some (.normal, fr, S)
  | .reg ops, fr, S => (evOps k cf ops fr S).map fun (fr', S') => (.normal, fr', S')
  | .rdraw ops deps, fr, S => (evDraw k cf ops deps fr S).map fun (fr', S') => (.normal, fr', S')
  | .seq a b, fr, S => (evCode cf n fn inRound a fr S).bind fun (e, fr', S') =>
    match e with
    | .normal => evCode cf n fn inRound b fr' S'
    | e => some (e, fr', S')
  | .cond x a b, fr, S =>
    match ev fr.ρ x with
    | .v (.bool true) => evCode cf n fn inRound a fr S
    | .v (.bool false) => evCode cf n fn inRound b fr S
    | _ => none
  | .block id b, fr, S => (evCode cf n fn inRound b fr S).map fun (e, fr', S') =>
    match e with
    | .exit id' => (if id' = id then .normal else .exit id', fr', S')
    | e => (e, fr', S')
  | .loop b, fr, S => rounds (evCode cf n fn inRound b) n fr S
  | .exit id, fr, S => some (.exit id, fr, S)
  | .ret, fr, S => some (.ret, fr, S)
  | .rangeFunc f params assign body, fr, S =>
    if inRound then none else
    let d := S.next
    let S1 := S.alloc .dfr
    let l := S1.next
    let S2 := S1.alloc (.loop ⟨fn, fr.ρ, params, assign, body, d, none, false⟩)
    (cf (ev fr.ρ f) [.yield l] S2).bind fun (_, S3) =>
      match S3.get l with
      | .loop r =>
        if r.busy then none else
        let fr' : Fr := { fr with ds := .coll d :: fr.ds }
        let S4 := S3.put l .dead
        match r.pending with
        | none => some (.normal, fr', S4)
        | some .ret => some (.ret, fr', S4)
        | some (.exit id) => some (.exit id, fr', S4)
        | _ => none
      | _ => none
  | .bad, _, _ => none

/-- The calls that are put off, the last one first. -/
def evDefers (cf : CallF) : List Df → St → Option St
  | [], S => some S
  | .coll d :: r, S => match S.get d with
    | .dfr => if S.floor ≤ d then evDefers cf r (S.put d .dead) else none
    | _ => none
  | .call f args :: r, S => if (k.prim f).isSome then none else (cf (.func f [] []) args S).bind fun (_, S') => evDefers cf r S'

def resE (r : ResultVar) (ρ : Nat → SV) (S : St) : Option SV :=
  match r with
  | .tmp t => some (ρ t)
  | .cell a t => loadE k t (ρ a) S

def resultsE (rs : List ResultVar) (ρ : Nat → SV) (S : St) : Option SV :=
  match rs with
  | [r] => resE k r ρ S
  | rs => (rs.mapM fun r => resE k r ρ S).map .tuple

def initρ (args : List SV) : Nat → SV := fun t => args.getD t (.v undef)

/-- A function's body, from its arguments to its results. -/
def evBody (cf : CallF) (n : Nat) (f : FuncId) (c : CF) (args : List SV) (S : St) : Option (SV × St) :=
  if args.length ≤ c.nt then
    (evCode k cf n f false c.body ⟨initρ args, []⟩ S).bind fun (e, fr, S') =>
      match e with
      | .exit _ => none
      | _ => (evDefers k cf fr.ds S').bind fun S'' => (resultsE k c.res fr.ρ S'').map fun x => (x, S'')
  else none

/-- A round: the loop variables are laid, the body is run; true: the loop goes on. -/
def evRound (cf : CallF) (n : Nat) (l : Nat) (r : LoopRec) (args : List SV) (S : St) : Option (SV × St) :=
  if r.busy = true ∨ args.length ≠ r.params.length ∨ ¬ S.floor ≤ l ∨ r.pending.isSome = true then none else
  let ρ := (r.params.zip args).foldl (fun ρ p => upd ρ p.1 p.2) r.ρ
  (evCode k cf n r.fn true r.assign ⟨ρ, []⟩ S).bind fun (e, fr, S1) =>
    match e with
    | .normal =>
      match S1.get l with
      | .loop r1 =>
        if r1.busy = true ∨ r1.pending.isSome = true then none else
        (evCode k cf n r.fn true r.body fr (S1.put l (.loop { r1 with busy := true }))).bind fun (e, fr', S2) =>
          match fr'.ds, S2.get l with
          | [], .loop r2 =>
            match e with
            | .normal => some (.v (.bool true), S2.put l (.loop { r2 with busy := false, pending := none }))
            | .ret => some (.v (.bool false), S2.put l (.loop { r2 with busy := false, pending := some .ret }))
            | .exit id => some (.v (.bool false), S2.put l (.loop { r2 with busy := false, pending := some (.exit id) }))
          | _, _ => none
      | _ => none
    | _ => none

/-- Calls, at most n deep. -/
def lvl : Nat → CallF
  | 0, _, _, _ => none
  | n + 1, x, args, S =>
    match x with
    | .func f fst cap =>
      let as := fst ++ args ++ cap
      match k.prim f with
      | some p => p as S
      | none =>
        (k.fns f).bind fun c =>
          if k.mode f = 0 then
            (evBody (k.at f) (lvl n) n f c (as.map weak) { S with floor := S.next }).map fun (x, S') => (erase S' x, S)
          else if k.mode f = 3 then
            (evBody (k.at f) (lvl n) n f c (as.map fun x => weak (shut x)) St0).map fun (x, S') => (erase S' x, S)
          else if k.mode f = 1 then
            (evBody (k.at f) (lvl n) n f c as S).map fun (x, S') => (weak x, S')
          else evBody (k.at f) (lvl n) n f c as S
    | .yield l => match S.get l with
      | .loop r => evRound (k.at r.fn) (lvl n) n l r args S
      | _ => none
    | _ => none
end code
end Go.Sv
end
