/- The engine: the loaded code of a function is read as a small intermediate form, and walked over a symbolic state. Plain definitions and theorems, over any program. -/
import Derived.WalkKit
import Derived.Deep.Quiet
import Derived.Deep.LoopGhost
namespace Go.Proofs.Ytaicmkocmnikjaa.Eng
set_option linter.all false
open Go Go.RowKit

/-! ## The intermediate form -/

inductive IOp where
  | mv (x : Operand)
  | pick (c a b : Operand)
  | bin (op : BinOp) (x y : Operand)
  | beq (neg : Bool) (x y : Operand)
  | un (op : UnOp) (x : Operand)
  | conv (k : IntKind) (x : Operand)
  | fld (agg : Bool) (off sz : Nat) (x : Operand)
  | ext (x : Operand) (i : Nat)
  | build (zero : List Value) (parts : List (Nat × Nat × Operand))
  | load (agg : Bool) (sz : Nat) (x : Operand)
  | nilck (x : Operand)
  | faddr (off : Nat) (x : Operand)
  | iaddr (sz : Nat) (x i : Operand)
  | idxs (x i : Operand)
  | len (str : Bool) (x : Operand)
  | max (x y : Operand)
  | min (x y : Operand)
  | slcs (x : Operand) (lo hi : Option Operand)
  | toStr (x : Operand)
  | apps (e : TypeId) (s x : Operand)
  | alloc (t : TypeId) (zero : List Value)
  | box (t : TypeId) (x : Operand)
  | store (sz : Nat) (x y : Operand)
  | call (f : Nat) (args : List Operand)
  | callv (x : Operand) (args : List Operand)
  | app (e : TypeId) (sz bytes : Nat) (s x : Operand)
  | bsl (e : TypeId) (sz n : Nat) (zero : List Value) (parts : List (Nat × Nat × Operand))
  | raw (o : Op) (t : TypeId)

structure IOper where
  dst : Option Nat
  op : IOp
  guard : Option (Nat × Bool)

inductive IC where
  | skip
  | reg (draw : Bool) (ops : List IOper)
  | seq (a b : IC)
  | cond (c : Operand) (a b : IC)
  | block (id : Nat) (a : IC)
  | loop (a : IC)
  | exit (id : Nat)
  | ret

def isAggD : Option TypeDesc → Bool
  | some (.struct _) | some (.array _ _) => true
  | _ => false

def fieldOf (P : Program) (s : TypeId) (f : Nat) : Option (Field × Nat) :=
  match P.underlying s with
  | some (.struct fields) =>
    match fields[f]? with
    | some fl => match P.info? fl.type with
      | some i => some (fl, i.size)
      | none => none
    | none => none
  | _ => none

/-- zero cells, and offset and size of each part -/
def partsOf (P : Program) (fields : Array Field) : List (Nat × Operand) → Option (List (Nat × Nat × Operand))
  | [] => some []
  | (f, x) :: rest =>
    match fields[f]? with
    | some fl => match P.info? fl.type, partsOf P fields rest with
      | some i, some r => some ((fl.offset, i.size, x) :: r)
      | _, _ => none
    | none => none

def scalarD : Option TypeDesc → Bool
  | some (.int _) | some .string => true
  | _ => false

def callable (P : Program) (f : Nat) : Bool :=
  match P.funcs[f]? with
  | some fn => !(fn.name == "runtime.NumGoroutine") && !fn.body.isNone
  | none => false

def compBuiltin (P : Program) (ty : TypeId) (c : Call) : Builtin → Option IOp
  | .len =>
    match c.argTypes.toList, c.args.toList with
    | [t], [x] => match P.underlying t with
      | some .string => some (.len true x)
      | some (.slice _) => some (.len false x)
      | _ => some (.raw (.call c) ty)
    | _, _ => some (.raw (.call c) ty)
  | .append =>
    match c.argTypes.toList, c.args.toList with
    | [t, t'], [s, x] =>
      if t = t' then
        match P.underlying t with
        | some (.slice e) => match P.info? e with
          | some i => match i.zero with
            | some z => if z.cells.size = i.size then some (.app e i.size i.bytes s x) else none
            | none => none
          | none => none
        | _ => none
      else match P.underlying t, P.underlying t' with
        | some (.slice e), some .string => match P.info? e with
          | some i => match i.zero with
            | some (.int .u8 0) => if i.size = 1 then if i.bytes = 1 then some (.apps e s x) else none else none
            | _ => none
          | none => none
        | _, _ => some (.raw (.call c) ty)
    | _, _ => none
  | .max =>
    match c.args.toList with
    | [x, y] => some (.max x y)
    | _ => some (.raw (.call c) ty)
  | .min =>
    match c.args.toList with
    | [x, y] => some (.min x y)
    | _ => some (.raw (.call c) ty)
  | _ => some (.raw (.call c) ty)

def compCall (P : Program) (ty : TypeId) (c : Call) : Option IOp :=
  match c.callee with
  | .value (.func f) => if callable P f then some (.call f c.args.toList) else none
  | .value x => some (.callv x c.args.toList)
  | .builtin b => compBuiltin P ty c b
  | _ => some (.raw (.call c) ty)

def compOp (P : Program) (ty : TypeId) : Op → Option IOp
  | .move x => some (.mv x)
  | .assign x => some (.mv x)
  | .pick c a b => some (.pick c a b)
  | .binOp op t x y _ =>
    match P.underlying t with
    | some (.int _) => some (.bin op x y)
    | some .string => some (.bin op x y)
    | some .bool => match op with
      | .eql => some (.beq false x y)
      | .neq => some (.beq true x y)
      | _ => none
    | _ => some (.raw (.binOp op t x y 0) ty)
  | .unOp op _ x => some (.un op x)
  | .convert s d x =>
    match P.underlying s, P.underlying d with
    | some (.int _), some (.int k) => some (.conv k x)
    | some (.slice e), some .string => match P.underlying e with
      | some (.int .u8) => some (.toStr x)
      | _ => some (.raw (.convert s d x) ty)
    | _, _ => some (.raw (.convert s d x) ty)
  | .field s x f =>
    match fieldOf P s f with
    | some (fl, sz) => match P.underlying fl.type with
      | some d => some (.fld (isAggD (some d)) fl.offset sz x)
      | none => none
    | none => none
  | .extract x i => some (.ext x i)
  | .build t ps =>
    match P.underlying t, P.info? t with
    | some (.struct fields), some i =>
      if fields.toList.all fun f => (P.info? f.type).isSome then
        match i.zero, partsOf P fields ps.toList with
        | some z, some r => some (.build z.cells.toList r)
        | _, _ => none
      else none
    | _, _ => none
  | .load t x =>
    match P.info? t, P.underlying t with
    | some i, some d => some (.load (isAggD (some d)) i.size x)
    | _, _ => none
  | .store t x y =>
    match P.info? t with
    | some i => some (.store i.size x y)
    | none => none
  | .nilCheck x => some (.nilck x)
  | .fieldAddr s x f =>
    match fieldOf P s f with
    | some (fl, sz) => if sz = 0 then none else some (.faddr fl.offset x)
    | none => none
  | .indexAddr t x i =>
    match P.underlying t with
    | some (.slice e) => match P.info? e with
      | some ie => some (.iaddr ie.size x i)
      | none => none
    | _ => some (.raw (.indexAddr t x i) ty)
  | .index t x i =>
    match P.underlying t with
    | some .string => some (.idxs x i)
    | _ => some (.raw (.index t x i) ty)
  | .slice t x lo hi mx =>
    match P.underlying t, mx with
    | some .string, none => some (.slcs x lo hi)
    | _, _ => some (.raw (.slice t x lo hi mx) ty)
  | .alloc t =>
    match P.info? t with
    | some i => match i.zero with
      | some z => some (.alloc t z.cells.toList)
      | none => none
    | none => none
  | .box t x => some (.box t x)
  | .buildSlice t n ps =>
    match P.underlying t with
    | some (.slice e) => match P.info? e with
      | some i => match i.zero with
        | some z => if n * i.size = 0 then none else some (.bsl e i.size n ((Array.range (n * i.size)).map fun j => z.cells[j % z.cells.size]!).toList (ps.toList.map fun (j, x) => (j * i.size, i.size, x)))
        | none => none
      | none => none
    | _ => none
  | .call c => compCall P ty c
  | o => some (.raw o ty)

def compGuard (ops : Array Oper) : Option (Nat × Bool) → Option (Option (Nat × Bool))
  | none => some none
  | some (j, want) => match (ops[j]?).bind (·.dst) with
    | some s => some (some (s, want))
    | none => none

def dstOK (N : Nat) : Option Nat → Bool
  | some d => decide (d < N)
  | none => true

def compOper (P : Program) (N : Nat) (ops : Array Oper) (o : Oper) : Option IOper :=
  if dstOK N o.dst then
    match compOp P o.type o.op, compGuard ops o.guard with
    | some io, some g => some ⟨o.dst, io, g⟩
    | _, _ => none
  else none

def compOps (P : Program) (N : Nat) (ops : Array Oper) : List Oper → Option (List IOper)
  | [] => some []
  | o :: r => match compOper P N ops o, compOps P N ops r with
    | some io, some ir => some (io :: ir)
    | _, _ => none

def comp (P : Program) (N : Nat) : Code → Option IC
  | .skip => some .skip
  | .region _ ops draw =>
    if draw && !(P.follows .mixedOrders && Region.lexB .any ops) then none else
    match compOps P N ops ops.toList with
    | some l => some (.reg draw l)
    | none => none
  | .seq a b => match comp P N a, comp P N b with
    | some x, some y => some (.seq x y)
    | _, _ => none
  | .cond c a b => match comp P N a, comp P N b with
    | some x, some y => some (.cond c x y)
    | _, _ => none
  | .block id a => match comp P N a with
    | some x => some (.block id x)
    | none => none
  | .loop a => match comp P N a with
    | some x => some (.loop x)
    | none => none
  | .exit id => some (.exit id)
  | .ret => some .ret
  | _ => none

structure IFun where
  ntmps : Nat
  results : List Nat
  body : IC

def resTmps : List ResultVar → Option (List Nat)
  | [] => some []
  | .tmp t :: r => match resTmps r with
    | some l => some (t :: l)
    | none => none
  | _ => none

def compF (P : Program) (f : Func) : Option IFun :=
  match f.body, resTmps f.results.toList with
  | some c, some rs => match comp P f.ntmps c with
    | some ic => some ⟨f.ntmps, rs, ic⟩
    | none => none
  | _, _ => none
end Go.Proofs.Ytaicmkocmnikjaa.Eng
