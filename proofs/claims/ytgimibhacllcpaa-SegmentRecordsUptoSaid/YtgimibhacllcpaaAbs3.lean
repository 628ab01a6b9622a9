/- Compact code: the machine's code with its types worked out, and how it is made of the machine's. -/
import Derived.Test.YtgimibhacllcpaaAbs2
namespace Go.Proofs.Abs
open Go

inductive Arg where
  | t (n : Nat)
  | k (x : AV)

inductive AOp where
  | mv (x : Arg)
  | pick (c a b : Arg)
  | bin (op : BinOp) (x y : Arg)
  | beq (neg : Bool) (x y : Arg)
  | nileq (cls : Nat) (neg : Bool) (x y : Arg)
  | aggeq (neg : Bool) (ks : List Nat) (x y : Arg)
  | un (op : UnOp) (x : Arg)
  | cvi (k : IntKind) (x : Arg)
  | bs2s (x : Arg)
  | s2bs (x : Arg)
  | s2rs (x : Arg)
  | i2s (x : Arg)
  | bs2bs (x : Arg)
  | ext (x : Arg) (i : Nat)
  | faddr (x : Arg) (off : Nat)
  | fld (x : Arg) (off sz : Nat) (agg : Bool)
  | idx (x i : Arg)
  | aidx (x i : Arg) (n z : Nat) (agg : Bool)
  | iaddr (x i : Arg) (z : Nat)
  | aaddr (x i : Arg) (n z : Nat)
  | ssl (x : Arg) (lo hi : Option Arg)
  | slc (x : Arg) (lo hi mx : Option Arg) (z : Nat)
  | len (x : Arg)
  | slen (x : Arg)
  | cap (x : Arg)
  | app (x y : Arg) (z bytes : Nat) (zero : List D)
  | grow (x n : Arg) (z bytes : Nat) (zero : List D)
  | copy (x y : Arg) (z : Nat)
  | mm (isMax : Bool) (x : List Arg)
  | call (f : Arg) (x : List Arg)
  | load (x : Arg) (z : Nat) (agg : Bool)
  | store (x v : Arg) (z : Nat)
  | alloc (zero : List D)
  | box (x : Arg)
  | build (zero : List D) (parts : List (Nat × Nat × Arg))
  | bslice (n z : Nat) (zero : List D) (parts : List (Nat × Arg))
  | mksl (len cap : Arg) (z bytes : Nat) (zero : List D)
  | mkfn (f : FuncId) (caps : List Arg)
  | nilchk (x : Arg)
  | bad

structure AOper where
  dst : Option Nat
  op : AOp
  guard : Option (Nat × Bool)
  after : List Nat

inductive ACode where
  | skip
  | region (draw : Bool) (ops : List AOper)
  | seq (a b : ACode)
  | cond (c : Arg) (x y : ACode)
  | block (id : Nat) (c : ACode)
  | loop (c : ACode)
  | rangeFunc (f : Arg) (params : List Nat) (assign body : ACode)
  | exit (id : Nat)
  | scope (c : ACode)
  | label (l : Nat)
  | goto (l : Nat)
  | ret
  | bad

inductive ARes where
  | tmp (t : Nat)
  | cell (t z : Nat) (agg : Bool)
  | bad

structure AFunc where
  n : Nat
  params : Nat
  res : List ARes
  body : ACode

section
variable (P : Program)
def und (t : TypeId) : TypeDesc := (P.underlying t).getD .invalid
def szK (t : TypeId) (k : Nat → AOp) : AOp := match P.info? t with
  | some i => k i.size
  | none => .bad
def sbK (t : TypeId) (k : Nat → Nat → AOp) : AOp := match P.info? t with
  | some i => k i.size i.bytes
  | none => .bad
def isAggD : TypeDesc → Bool
  | .struct _ => true
  | .array _ _ => true
  | _ => false
def aggK (t : TypeId) (k : Bool → AOp) : AOp := match P.underlying t with
  | some d => k (isAggD d)
  | none => .bad
/-- the cells of a type's zero value -/
def zeroA (t : TypeId) : Option (List D) := (P.info? t).bind fun i => i.zero.bind fun v => constDs v.cells.toList

def argA : Operand → Option Arg
  | .tmp t => some (.t t)
  | .const v => (constAV v).map .k
  | .func f => some (.k (.d (.fn f)))
  | .global _ => none
def argsA : List Operand → Option (List Arg)
  | [] => some []
  | x :: r => match argA x, argsA r with
    | some a, some l => some (a :: l)
    | _, _ => none
def oargA : Option Operand → Option (Option Arg)
  | none => some none
  | some x => (argA x).map some
def partsA : List (Nat × Operand) → Option (List (Nat × Arg))
  | [] => some []
  | (i, x) :: r => match argA x, partsA r with
    | some a, some l => some ((i, a) :: l)
    | _, _ => none
def placesA (fields : Array Field) : List (Nat × Arg) → Option (List (Nat × Nat × Arg))
  | [] => some []
  | (i, x) :: r => match fields[i]?, placesA fields r with
    | some f, some l => (P.info? f.type).map fun j => (f.offset, j.size, x) :: l
    | _, _ => none

/-- the fields' kinds, where all are of kinds that Go holds against each other plainly: 0 a number, 1 a text, 2 a truth -/
def plainKinds : List Field → Nat → Option (List Nat)
  | [], _ => some []
  | f :: r, n => if f.offset == n && f.name != "_" then (match und P f.type, plainKinds r (n + 1) with
    | .int _, some l => some (0 :: l)
    | .string, some l => some (1 :: l)
    | .bool, some l => some (2 :: l)
    | _, _ => none) else none

def compBin (op : BinOp) (t : TypeId) (x y : Arg) : AOp :=
  match und P t with
  | .int _ => .bin op x y
  | .string => .bin op x y
  | .bool => (match op with | .eql => .beq false x y | .neq => .beq true x y | _ => .bad)
  | .slice _ => (match op with | .eql => .nileq 0 false x y | .neq => .nileq 0 true x y | _ => .bad)
  | .pointer _ => (match op with | .eql => .nileq 1 false x y | .neq => .nileq 1 true x y | _ => .bad)
  | .func _ _ _ => (match op with | .eql => .nileq 2 false x y | .neq => .nileq 2 true x y | _ => .bad)
  | .map _ _ => (match op with | .eql => .nileq 3 false x y | .neq => .nileq 3 true x y | _ => .bad)
  | .struct fs => (match plainKinds P fs.toList 0 with
    | some ks => if !P.eqGuardType P.depth t && !P.stoodInHeld t then (match op with | .eql => .aggeq false ks x y | .neq => .aggeq true ks x y | _ => .bad) else .bad
    | none => .bad)
  | _ => .bad

def compConv (s d : TypeId) (x : Arg) : AOp :=
  match und P s, und P d with
  | .int _, .int k => .cvi k x
  | .slice e, .string => (match und P e with | .int .u8 => .bs2s x | _ => .bad)
  | .string, .slice e => (match und P e with | .int .u8 => .s2bs x | .int .i32 => .s2rs x | _ => .bad)
  | .int _, .string => .i2s x
  | .slice _, .slice e => (match und P e with | .int .u8 => if s = d then .bs2bs x else .bad | _ => .bad)
  | _, _ => .bad

def compCall (c : Call) : AOp :=
  match c.callee with
  | .value f => (match argA f, argsA c.args.toList with | some g, some l => .call g l | _, _ => .bad)
  | .invoke _ _ => .bad
  | .builtin b =>
    match b, argsA c.args.toList, c.argTypes.toList with
    | .len, some [x], t :: _ => (match und P t with | .string => .slen x | .slice _ => .len x | _ => .bad)
    | .cap, some [x], t :: _ => (match und P t with | .slice _ => .cap x | _ => .bad)
    | .append, some [x, y], t :: u :: _ =>
      (match und P t, und P u with
       | .slice e, .slice _ => (match zeroA P e with | some zz => sbK P e fun z b => .app x y z b zz | none => .bad)
       | .slice e, .string => (match zeroA P e with | some zz => sbK P e fun z b => .app x y z b zz | none => .bad)
       | .slice e, .int _ => (match zeroA P e with | some zz => sbK P e fun z b => .grow x y z b zz | none => .bad)
       | _, _ => .bad)
    | .copy, some [x, y], t :: _ => (match und P t with | .slice e => szK P e fun z => .copy x y z | _ => .bad)
    | .max, some l, _ => .mm true l
    | .min, some l, _ => .mm false l
    | _, _, _ => .bad

def compOp (op : Op) : AOp :=
  match op with
  | .move x | .assign x => (match argA x with | some a => .mv a | none => .bad)
  | .pick c a b => (match argA c, argA a, argA b with | some c, some a, some b => .pick c a b | _, _, _ => .bad)
  | .binOp op t x y _ => (match argA x, argA y with | some x, some y => compBin P op t x y | _, _ => .bad)
  | .unOp op _ x => (match argA x with | some x => .un op x | none => .bad)
  | .convert s d x => (match argA x with | some x => compConv P s d x | none => .bad)
  | .extract x i => (match argA x with | some x => .ext x i | none => .bad)
  | .fieldAddr s x f => (match argA x, und P s with
    | some x, .struct fs => (match fs[f]? with | some fd => szK P fd.type fun z => if z = 0 then .bad else .faddr x fd.offset | none => .bad)
    | _, _ => .bad)
  | .field s x f => (match argA x, und P s with
    | some x, .struct fs => (match fs[f]? with | some fd => szK P fd.type fun z => aggK P fd.type fun g => .fld x fd.offset z g | none => .bad)
    | _, _ => .bad)
  | .index t x i => (match argA x, argA i, und P t with
    | some x, some i, .string => .idx x i
    | some x, some i, .array n e => szK P e fun z => aggK P e fun g => .aidx x i n z g
    | _, _, _ => .bad)
  | .indexAddr t x i => (match argA x, argA i, und P t with
    | some x, some i, .slice e => szK P e fun z => .iaddr x i z
    | some x, some i, .array n e => szK P e fun z => .aaddr x i n z
    | _, _, _ => .bad)
  | .slice t x lo hi mx => (match argA x, oargA lo, oargA hi, oargA mx, und P t with
    | some x, some lo, some hi, some none, .string => .ssl x lo hi
    | some x, some lo, some hi, some mx, .slice e => szK P e fun z => .slc x lo hi mx z
    | _, _, _, _, _ => .bad)
  | .call c => compCall P c
  | .load t x => (match argA x with | some x => szK P t fun z => aggK P t fun g => .load x z g | none => .bad)
  | .store t x v => (match argA x, argA v with | some x, some v => szK P t fun z => .store x v z | _, _ => .bad)
  | .alloc t => (match zeroA P t with | some z => .alloc z | none => .bad)
  | .box _ x => (match argA x with | some x => .box x | none => .bad)
  | .build t parts => (match und P t, zeroA P t, partsA parts.toList with
    | .struct fs, some z, some ps => if fs.toList.all (fun f => (P.info? f.type).isSome) then (match placesA P fs ps with | some l => .build z l | none => .bad) else .bad
    | _, _, _ => .bad)
  | .buildSlice t n parts => (match und P t, partsA parts.toList with
    | .slice e, some ps => (match zeroA P e with | some zz => szK P e fun z => .bslice n z zz ps | none => .bad)
    | _, _ => .bad)
  | .makeSlice t l c => (match und P t, argA l, argA c with
    | .slice e, some l, some c => (match zeroA P e with | some zz => sbK P e fun z b => .mksl l c z b zz | none => .bad)
    | _, _, _ => .bad)
  | .makeFunc (.func f) first caps => if first.size = 0 then (match argsA caps.toList with | some l => .mkfn f l | none => .bad) else .bad
  | .nilCheck x => (match argA x with | some x => .nilchk x | none => .bad)
  | _ => .bad

def compOper (ops : Array Oper) (o : Oper) : AOper where
  dst := o.dst
  op := (match o.guard with
    | none => compOp P o.op
    | some (j, _) => (match (ops[j]?).bind (·.dst) with | some _ => compOp P o.op | none => .bad))
  guard := o.guard.bind fun (j, want) => ((ops[j]?).bind (·.dst)).map fun t => (t, want)
  after := ((o.after.toList.filter (Region.binds .any)).map (·.on)).eraseDups

def compCode : Code → ACode
  | .skip => .skip
  | .region _ ops draw => .region draw (ops.toList.map (compOper P ops))
  | .seq a b => .seq (compCode a) (compCode b)
  | .cond c x y => (match argA c with | some c => .cond c (compCode x) (compCode y) | none => .bad)
  | .block id c => .block id (compCode c)
  | .loop c => .loop (compCode c)
  | .rangeFunc f ps assign body => (match argA f with | some f => .rangeFunc f ps.toList (compCode assign) (compCode body) | none => .bad)
  | .exit id => .exit id
  | .scope c => .scope (compCode c)
  | .label l => .label l
  | .goto l => .goto l
  | .ret => .ret
  | .refuse _ => .bad

def compFunc (f : Func) : AFunc where
  n := f.ntmps
  params := f.params.size + f.nfree
  res := f.results.toList.map fun
    | .tmp t => .tmp t
    | .cell t ty => match P.info? ty, P.underlying ty with
      | some j, some d => .cell t j.size (isAggD d)
      | _, _ => .bad
  body := (f.body.map (compCode P)).getD .bad
end

/-- function k of the program is this one -/
def HasF (P : Program) (k : FuncId) (F : AFunc) : Prop := ∃ f, P.funcs[k]? = some f ∧ (f.name == "runtime.NumGoroutine") = false ∧ f.body.isSome = true ∧ compFunc P f = F
end Go.Proofs.Abs
