/- The engine: the loaded code of a function is read as a small intermediate form, and walked over a symbolic state. Plain definitions and theorems, over any program. -/
import Derived.WalkKit
import Derived.Deep.Quiet
import Derived.Deep.LoopGhost
import Derived.Deep.Slices
namespace Go.Proofs.YtaicmkocmnikjaaDoor.Eng
set_option linter.all false
open Go Go.RowKit

/-! ## The intermediate form -/

/-- a cell that can be compared -/
inductive LK where
  | i
  | s
  | b

inductive IOp where
  | mv (x : Operand)
  | pick (c a b : Operand)
  | bin (op : BinOp) (x y : Operand)
  | beq (neg : Bool) (x y : Operand)
  | un (op : UnOp) (x : Operand)
  | conv (k : IntKind) (x : Operand)
  | fld (agg : Bool) (off sz : Nat) (x : Operand)
  | ext (x : Operand) (i : Nat)
  | build (zero : List Value) (parts : List (Nat × Nat × Operand))
  | load (agg : Bool) (sz : Nat) (x : Operand)
  | nilck (x : Operand)
  | faddr (off : Nat) (x : Operand)
  | iaddr (sz : Nat) (x i : Operand)
  | idxs (x i : Operand)
  | len (str : Bool) (x : Operand)
  | max (x y : Operand)
  | min (x y : Operand)
  | slcs (x : Operand) (lo hi : Option Operand)
  | slcl (sz : Nat) (x : Operand) (lo hi : Option Operand)
  | toStr (x : Operand)
  | apps (e : TypeId) (s x : Operand)
  | alloc (t : TypeId) (zero : List Value)
  | box (t : TypeId) (x : Operand)
  | store (sz : Nat) (x y : Operand)
  | call (f : Nat) (args : List Operand)
  | callv (x : Operand) (args : List Operand)
  | app (e : TypeId) (sz bytes : Nat) (s x : Operand)
  | bsl (e : TypeId) (sz n : Nat) (zero : List Value) (parts : List (Nat × Operand))
  | mksl (e : TypeId) (bytes : Nat) (zero : List Value) (l c : Operand)
  | clo (f : Nat) (caps : List Operand)
  | mkmap (str : Bool)
  | lkp (str : Bool) (zero : Value) (ok : Bool) (m k : Operand)
  | mupd (str : Bool) (m k v : Operand)
  | zcap (x : Operand)
  | iaddra (sz n : Nat) (x i : Operand)
  | aeq (neg : Bool) (ks : List LK) (x y : Operand)
  | isnil (ifc neg : Bool) (x : Operand)
  | bsl0 (e : TypeId)
  | slca (sz n : Nat) (x : Operand)
  | cap (x : Operand)
  | sub64 (x y b : Operand)
  | appz (e : TypeId) (bytes : Nat) (zero : List Value) (s x : Operand)
  | raw (o : Op) (t : TypeId)

structure IOper where
  dst : Option Nat
  op : IOp
  guard : Option (Nat × Bool)

/-- how an operation of a drawn region stands to its effects: fixed among them, floating, a new variable, an effect (and the variable that it writes first) -/
inductive DT where
  | q
  | f
  | a
  | e (ad : Option Nat)

inductive IC where
  | skip
  | reg (ops : List IOper)
  | regd (tags : List DT) (ops : List IOper)
  | seq (a b : IC)
  | cond (c : Operand) (a b : IC)
  | block (id : Nat) (a : IC)
  | loop (a : IC)
  | exit (id : Nat)
  | ret

def isAggD : Option TypeDesc → Bool
  | some (.struct _) | some (.array _ _) => true
  | _ => false

def fieldOf (P : Program) (s : TypeId) (f : Nat) : Option (Field × Nat) :=
  match P.underlying s with
  | some (.struct fields) =>
    match fields[f]? with
    | some fl => match P.info? fl.type with
      | some i => some (fl, i.size)
      | none => none
    | none => none
  | _ => none

/-- zero cells, and offset and size of each part -/
def partsOf (P : Program) (fields : Array Field) : List (Nat × Operand) → Option (List (Nat × Nat × Operand))
  | [] => some []
  | (f, x) :: rest =>
    match fields[f]? with
    | some fl => match P.info? fl.type, partsOf P fields rest with
      | some i, some r => some ((fl.offset, i.size, x) :: r)
      | _, _ => none
    | none => none

def scalarD : Option TypeDesc → Bool
  | some (.int _) | some .string => true
  | _ => false

def callable (P : Program) (f : Nat) : Bool :=
  match P.funcs[f]? with
  | some fn => !(fn.name == "runtime.NumGoroutine") && !fn.body.isNone
  | none => false

/-- the library's difference with a borrow: an entry of the model -/
def sub64At (P : Program) (f : Nat) : Bool :=
  match P.funcs[f]? with
  | some fn => decide (fn.name = "math/bits.Sub64") && fn.body.isNone && (Extern.findNext fn).isNone
  | none => false

def isZeroSl : Option Operand → Option Operand → Option Operand → Bool
  | none, some (.const (.int _ 0)), some (.const (.int _ 0)) => true
  | _, _, _ => false

/-- string keys; integer keys -/
def keyKind (P : Program) (t : TypeId) : Option (Bool × TypeId) :=
  match P.underlying t with
  | some (.map k e) => match P.underlying k with
    | some .string => some (true, e)
    | some (.int _) => some (false, e)
    | _ => none
  | _ => none

/-- the cells of a struct of numbers, strings and bools -/
def leavesF (lf : TypeId → Option (List LK)) (P : Program) : Nat → List Field → Option (List LK)
  | _, [] => some []
  | off, f :: fs => if f.name == "_" then none else if f.offset = off then match lf f.type, P.info? f.type with
      | some ks, some i => if i.size = ks.length then match leavesF lf P (off + ks.length) fs with
          | some r => some (ks ++ r)
          | none => none
        else none
      | _, _ => none
    else none
def leaves (P : Program) : Nat → TypeId → Option (List LK)
  | 0, _ => none
  | d + 1, t => match P.underlying t with
    | some (.int _) => some [.i]
    | some .string => some [.s]
    | some .bool => some [.b]
    | some (.struct fs) => if P.stoodInHeld t then none else leavesF (leaves P d) P 0 fs.toList
    | _ => none

def compEq (P : Program) (neg : Bool) (t : TypeId) (x y : Operand) : Option IOp :=
  match P.underlying t, y with
  | some (.struct _), y => if P.eqGuardType P.depth t then none else match leaves P 20 t with
    | some ks => some (.aeq neg ks x y)
    | none => none
  | some (.interface _), .const .nilIface => some (.isnil true neg x)
  | some (.slice _), .const (.slice none 0 0) => some (.isnil false neg x)
  | _, _ => none

def compBuiltin (P : Program) (ty : TypeId) (c : Call) : Builtin → Option IOp
  | .len =>
    match c.argTypes.toList, c.args.toList with
    | [t], [x] => match P.underlying t with
      | some .string => some (.len true x)
      | some (.slice _) => some (.len false x)
      | _ => some (.raw (.call c) ty)
    | _, _ => some (.raw (.call c) ty)
  | .append =>
    match c.argTypes.toList, c.args.toList with
    | [t, t'], [s, x] =>
      if t = t' then
        match P.underlying t with
        | some (.slice e) => match P.info? e with
          | some i => match i.zero with
            | some z => if z.cells.size = i.size then some (.app e i.size i.bytes s x) else none
            | none => none
          | none => none
        | _ => none
      else match P.underlying t, P.underlying t' with
        | some (.slice e), some .string => match P.info? e with
          | some i => match i.zero with
            | some (.int .u8 0) => if i.size = 1 then if i.bytes = 1 then some (.apps e s x) else none else none
            | _ => none
          | none => none
        | some (.slice e), some (.int _) => match P.info? e with
          | some i => match i.zero with
            | some z => if z.cells.size = i.size then if 0 < i.size then some (.appz e i.bytes z.cells.toList s x) else none else none
            | none => none
          | none => none
        | _, _ => some (.raw (.call c) ty)
    | _, _ => none
  | .cap =>
    match c.argTypes.toList, c.args.toList with
    | [t], [x] => match P.underlying t with
      | some (.slice _) => some (.cap x)
      | _ => some (.raw (.call c) ty)
    | _, _ => some (.raw (.call c) ty)
  | .max =>
    match c.args.toList with
    | [x, y] => some (.max x y)
    | _ => some (.raw (.call c) ty)
  | .min =>
    match c.args.toList with
    | [x, y] => some (.min x y)
    | _ => some (.raw (.call c) ty)
  | _ => some (.raw (.call c) ty)

def compCall (P : Program) (ty : TypeId) (c : Call) : Option IOp :=
  match c.callee with
  | .value (.func f) => if callable P f then some (.call f c.args.toList) else if sub64At P f then match c.args.toList with
      | [x, y, b] => some (.sub64 x y b)
      | _ => none
    else none
  | .value x => some (.callv x c.args.toList)
  | .builtin b => compBuiltin P ty c b
  | _ => some (.raw (.call c) ty)

def compOp (P : Program) (ty : TypeId) : Op → Option IOp
  | .move x => some (.mv x)
  | .assign x => some (.mv x)
  | .pick c a b => some (.pick c a b)
  | .binOp op t x y yt =>
    match P.underlying t with
    | some (.int _) => some (.bin op x y)
    | some .string => some (.bin op x y)
    | some .bool => match op with
      | .eql => some (.beq false x y)
      | .neq => some (.beq true x y)
      | _ => none
    | _ => match op with
      | .eql => match compEq P false t x y with
        | some o => some o
        | none => some (.raw (.binOp .eql t x y yt) ty)
      | .neq => match compEq P true t x y with
        | some o => some o
        | none => some (.raw (.binOp .neq t x y yt) ty)
      | op => some (.raw (.binOp op t x y yt) ty)
  | .unOp op _ x => some (.un op x)
  | .convert s d x =>
    match P.underlying s, P.underlying d with
    | some (.int _), some (.int k) => some (.conv k x)
    | some (.slice e), some .string => match P.underlying e with
      | some (.int .u8) => some (.toStr x)
      | _ => some (.raw (.convert s d x) ty)
    | _, _ => some (.raw (.convert s d x) ty)
  | .field s x f =>
    match fieldOf P s f with
    | some (fl, sz) => match P.underlying fl.type with
      | some d => some (.fld (isAggD (some d)) fl.offset sz x)
      | none => none
    | none => none
  | .extract x i => some (.ext x i)
  | .build t ps =>
    match P.underlying t, P.info? t with
    | some (.struct fields), some i =>
      if fields.toList.all fun f => (P.info? f.type).isSome then
        match i.zero, partsOf P fields ps.toList with
        | some z, some r => some (.build z.cells.toList r)
        | _, _ => none
      else none
    | _, _ => none
  | .load t x =>
    match P.info? t, P.underlying t with
    | some i, some d => some (.load (isAggD (some d)) i.size x)
    | _, _ => none
  | .store t x y =>
    match P.info? t with
    | some i => some (.store i.size x y)
    | none => none
  | .nilCheck x => some (.nilck x)
  | .fieldAddr s x f =>
    match fieldOf P s f with
    | some (fl, sz) => if sz = 0 then none else some (.faddr fl.offset x)
    | none => none
  | .indexAddr t x i =>
    match P.underlying t with
    | some (.slice e) => match P.info? e with
      | some ie => some (.iaddr ie.size x i)
      | none => none
    | some (.array n e) => match P.info? e with
      | some ie => if 0 < ie.size then some (.iaddra ie.size n x i) else none
      | none => none
    | _ => some (.raw (.indexAddr t x i) ty)
  | .index t x i =>
    match P.underlying t with
    | some .string => some (.idxs x i)
    | _ => some (.raw (.index t x i) ty)
  | .slice t x lo hi mx =>
    match P.underlying t, mx with
    | some .string, none => some (.slcs x lo hi)
    | some (.slice e), none => match P.info? e with
      | some i => some (.slcl i.size x lo hi)
      | none => none
    | some (.slice e), some m => if isZeroSl lo hi (some m) then match P.info? e with
        | some _ => some (.zcap x)
        | none => none
      else some (.raw (.slice t x lo hi mx) ty)
    | some (.array n e), none => match lo, hi with
      | none, none => match P.info? e with
        | some i => some (.slca i.size n x)
        | none => none
      | _, _ => some (.raw (.slice t x lo hi mx) ty)
    | _, _ => some (.raw (.slice t x lo hi mx) ty)
  | .alloc t =>
    match P.info? t with
    | some i => match i.zero with
      | some z => some (.alloc t z.cells.toList)
      | none => none
    | none => none
  | .box t x => some (.box t x)
  | .buildSlice t n ps =>
    match P.underlying t with
    | some (.slice e) => match P.info? e with
      | some i => match i.zero with
        | some z => if n = 0 then (if ps.size = 0 then some (.bsl0 e) else none) else if n * i.size = 0 then none else if z.cells.size = i.size then some (.bsl e i.size n z.cells.toList ps.toList) else none
        | none => none
      | none => none
    | _ => none
  | .call c => compCall P ty c
  | .makeSlice t l c =>
    match P.underlying t with
    | some (.slice e) => match P.info? e with
      | some i => match i.zero with
        | some z => if z.cells.size = i.size then if 0 < i.size then some (.mksl e i.bytes z.cells.toList l c) else none else none
        | none => none
      | none => none
    | _ => none
  | .makeFunc (.func f) first caps => if first.size = 0 then some (.clo f caps.toList) else some (.raw (.makeFunc (.func f) first caps) ty)
  | .makeMap t none => match keyKind P t with
    | some (str, _) => some (.mkmap str)
    | none => none
  | .lookup t m k ok =>
    match keyKind P t with
    | some (str, e) => match P.info? e with
      | some i => match i.zero with
        | some z => some (.lkp str z ok m k)
        | none => none
      | none => none
    | none => some (.raw (.lookup t m k ok) ty)
  | .mapUpdate t m k v =>
    match keyKind P t with
    | some (str, _) => some (.mupd str m k v)
    | none => some (.raw (.mapUpdate t m k v) ty)
  | o => some (.raw o ty)

def compGuard (ops : Array Oper) : Option (Nat × Bool) → Option (Option (Nat × Bool))
  | none => some none
  | some (j, want) => match (ops[j]?).bind (·.dst) with
    | some s => some (some (s, want))
    | none => none

def dstOK (N : Nat) : Option Nat → Bool
  | some d => decide (d < N)
  | none => true

def compOper (P : Program) (N : Nat) (ops : Array Oper) (o : Oper) : Option IOper :=
  if dstOK N o.dst then
    match compOp P o.type o.op, compGuard ops o.guard with
    | some io, some g => some ⟨o.dst, io, g⟩
    | _, _ => none
  else none

def compOps (P : Program) (N : Nat) (ops : Array Oper) : List Oper → Option (List IOper)
  | [] => some []
  | o :: r => match compOper P N ops o, compOps P N ops r with
    | some io, some ir => some (io :: ir)
    | _, _ => none

/-! drawn regions -/
def maskOf (acc : List Nat) : List Edge → Nat
  | [] => 0
  | e :: es => if Region.binds .any e then (2 ^ e.on ||| acc.getD e.on 0) ||| maskOf acc es else maskOf acc es
def befL : List Oper → List Nat → List Nat
  | [], acc => acc
  | o :: r, acc => befL r (acc ++ [maskOf acc o.after.toList])
def DT.isE : DT → Bool
  | .e _ => true
  | _ => false
def DT.isQ : DT → Bool
  | .q => true
  | _ => false
def DT.isA : DT → Bool
  | .a => true
  | _ => false
def DT.ad : DT → List Nat
  | .e (some t) => [t]
  | _ => []
def wrs (o : Oper) (t : DT) : List Nat := o.dst.toList ++ t.ad
def disj (l m : List Nat) : Bool := l.all fun t => !m.contains t
/-- the operation i stands before j in the text; b: it runs before -/
def pairOK (ops : Array Oper) (b : Bool) (oi : Oper) (ti : DT) (oj : Oper) (tj : DT) : Bool :=
  (b || disj (wrs oi ti) (wrs oj tj)) && (b || disj (oi.looksAt ops) (wrs oj tj)) && (b || disj (oj.looksAt ops) (wrs oi ti)) &&
  (b || !(ti.isE && tj.isE || ti.isE && tj.isQ || ti.isQ && tj.isE)) &&
  (!(ti.isA || tj.isA) || disj oi.dst.toList oj.dst.toList) && disj ti.ad tj.ad &&
  (!(tj.isA) || disj ti.ad oj.dst.toList) && (!(ti.isA) || b || disj oi.dst.toList tj.ad)
def isAllocOp : Op → Bool
  | .alloc _ => true
  | _ => false
def opOKd (j : Nat) (o : Oper) (t : DT) : Bool :=
  o.after.toList.all (fun e => !Region.binds .any e || decide (e.on < j)) &&
  match t with
  | .a => o.guard.isNone && o.dst.isSome && isAllocOp o.op
  | .e _ => o.guard.isNone
  | _ => true
def chkD (ops : Array Oper) (tags : List DT) : Bool :=
  decide (tags.length = ops.size) && (List.range ops.size).all fun j =>
    match ops.toList[j]?, tags[j]?, (befL ops.toList [])[j]? with
    | some oj, some tj, some m => opOKd j oj tj && (List.range j).all fun i => match ops.toList[i]?, tags[i]? with
      | some oi, some ti => pairOK ops (m.testBit i) oi ti oj tj
      | _, _ => false
    | _, _, _ => false

def loud (eff : Nat → Bool) : Op → Bool
  | .store _ _ _ => true
  | .mapUpdate _ _ _ _ => true
  | .call c => match c.callee with
    | .value (.func f) => eff f
    | .value _ => false
    | .builtin .append => true
    | .builtin .copy => true
    | .builtin .clear => true
    | .builtin .delete => true
    | .builtin _ => false
    | _ => true
  | _ => false
def adOf (ops : List Oper) : Op → Option Nat
  | .store _ (.tmp t) _ => if ops.any fun o => isAllocOp o.op && (match o.dst with | some d => d == t | none => false) then some t else none
  | _ => none
def tagOf (eff : Nat → Bool) (ops : List Oper) (m : List Nat) (j : Nat) (o : Oper) : DT :=
  if isAllocOp o.op then .a else if loud eff o.op then .e (adOf ops o.op) else
  if (ops.zipIdx.all fun (x, i) => !loud eff x.op || (if i < j then (m.getD j 0).testBit i else (m.getD i 0).testBit j)) then .q else .f
def tagsOf (eff : Nat → Bool) (ops : List Oper) : List DT := ops.zipIdx.map fun (o, j) => tagOf eff ops (befL ops []) j o

def comp (eff : Nat → Bool) (P : Program) (N : Nat) : Code → Option IC
  | .skip => some .skip
  | .region _ ops false =>
    match compOps P N ops ops.toList with
    | some l => some (.reg l)
    | none => none
  | .region _ ops true =>
    if P.follows .mixedOrders && chkD ops (tagsOf eff ops.toList) then
      match compOps P N ops ops.toList with
      | some l => some (.regd (tagsOf eff ops.toList) l)
      | none => none
    else none
  | .seq a b => match comp eff P N a, comp eff P N b with
    | some x, some y => some (.seq x y)
    | _, _ => none
  | .cond c a b => match comp eff P N a, comp eff P N b with
    | some x, some y => some (.cond c x y)
    | _, _ => none
  | .block id a => match comp eff P N a with
    | some x => some (.block id x)
    | none => none
  | .loop a => match comp eff P N a with
    | some x => some (.loop x)
    | none => none
  | .exit id => some (.exit id)
  | .ret => some .ret
  | _ => none

inductive RV where
  | tmp (t : Nat)
  | cell (t : Nat) (agg : Bool) (sz : Nat)

structure IFun where
  ntmps : Nat
  results : List RV
  body : IC

def resTmps (P : Program) : List ResultVar → Option (List RV)
  | [] => some []
  | .tmp t :: r => match resTmps P r with
    | some l => some (.tmp t :: l)
    | none => none
  | .cell t ty :: r => match P.info? ty, P.underlying ty, resTmps P r with
    | some i, some d, some l => some (.cell t (isAggD (some d)) i.size :: l)
    | _, _, _ => none

def compF (eff : Nat → Bool) (P : Program) (f : Func) : Option IFun :=
  match f.body, resTmps P f.results.toList with
  | some c, some rs => match comp eff P f.ntmps c with
    | some ic => some ⟨f.ntmps, rs, ic⟩
    | none => none
  | _, _ => none
end Go.Proofs.YtaicmkocmnikjaaDoor.Eng
