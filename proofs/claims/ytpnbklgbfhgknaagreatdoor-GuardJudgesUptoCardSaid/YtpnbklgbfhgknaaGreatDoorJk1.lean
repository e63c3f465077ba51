/- A part of the proof: lemmas only, with the conditions that each names. -/
import Derived.WalkKit
import Derived.Deep.Quiet
import Derived.Deep.LoopGhost
import Derived.Deep.Slices
import Derived.Laws.StructEq
import Derived.Laws.Cover3
import Derived.Maps.AppendAt
import Derived.Lib.AppendStr
set_option linter.all false
def c8q:=@List.getElem?_eq_getElem
def c8r:=@List.length_map
def c8s:=@Option.map_some
def c8t:=@List.mem_of_getElem?
def c8u:=@Int.toNat_natCast
def c8v:=@List.getElem?_eq_some_iff
def c8w:=@Nat.zero_le
def c8x:=@List.getElem?_map
def c8y:=@Nat.le_trans
def c8A:=@List.length_append
def c8B:=@Nat.le_refl
def c8C:=@List.getD_eq_getElem?_getD
def c8D:=@decide_eq_true_eq
def c8E:=@List.length_take
def c8F:=@Bool.and_eq_true
def c8G:=@Nat.le_of_ble_eq_true
def c8H:=@List.getElem?_append_left
def c8I:=@decide_eq_false_iff_not
def c8J:=@List.take_length
def c8K:=@List.map_cons
def c8L:=@List.getElem_mem
def c8M:=@List.getElem?_append_right
def c8N:=@Nat.lt_or_ge
def c8O:=@List.map_nil
def c8P:=@List.take_of_length_le
def c8Q:=@Nat.eq_zero_or_pos
def c8R:=@List.length_cons
def c8S:=@Bool.or_eq_false_iff
def c8T:=@List.eq_of_mem_replicate
def c8U:=@Nat.lt_of_lt_of_le
def c8V:=@List.eq_nil_of_length_eq_zero
def c8W:=@List.getElem?_eq_none
def c8X:=@Nat.mul_le_mul_right
def c8Y:=@Nat.pow_le_pow_right
def c8Z:=@Nat.zero_add
def c9a:=@Nat.mul_assoc
def c9c:=@Nat.pow_succ
def c9d:=@Bool.false_eq_true
def c9e:=@List.getElem?_drop
def c9f:=@Bool.or_eq_true
def c9g:=@List.length_drop
def c9h:=@List.length_set
def c9i:=@List.map_append
def c9j:=@List.append_assoc
def c9k:=@List.take_succ_eq_append_getElem
namespace Go.Proofs.YtpnbklgbfhgknaaGreatDoor.Eng
open Go Go.RowKit
inductive LK where
 | i
 | s
 | b
inductive IOp where
 | mv (x:Operand)
 | pick (c a b:Operand)
 | bin (op:BinOp) (x y:Operand)
 | beq (neg:Bool) (x y:Operand)
 | un (op:UnOp) (x:Operand)
 | conv (k:IntKind) (x:Operand)
 | fld (agg:Bool) (off sz:Nat) (x:Operand)
 | ext (x:Operand) (i:Nat)
 | build (zero:List Value) (parts:List (Nat × Nat × Operand))
 | load (agg:Bool) (sz:Nat) (x:Operand)
 | nilck (x:Operand)
 | faddr (off:Nat) (x:Operand)
 | iaddr (sz:Nat) (x i:Operand)
 | idxs (x i:Operand)
 | len (str:Bool) (x:Operand)
 | max (x y:Operand)
 | min (x y:Operand)
 | slcs (x:Operand) (lo hi:Option Operand)
 | slcl (sz:Nat) (x:Operand) (lo hi:Option Operand)
 | toStr (x:Operand)
 | apps (e:TypeId) (s x:Operand)
 | alloc (t:TypeId) (zero:List Value)
 | box (t:TypeId) (x:Operand)
 | store (sz:Nat) (x y:Operand)
 | call (f:Nat) (args:List Operand)
 | a0a (x:Operand) (args:List Operand)
 | app (e:TypeId) (sz bytes:Nat) (s x:Operand)
 | bsl (e:TypeId) (sz n:Nat) (zero:List Value) (parts:List (Nat × Operand))
 | a5w (e:TypeId) (bytes:Nat) (zero:List Value) (l c:Operand)
 | clo (f:Nat) (caps:List Operand)
 | bnd (f:Nat) (x:Operand)
 | mkmap (str:Bool)
 | lkp (str:Bool) (zero:Value) (ok:Bool) (m k:Operand)
 | mupd (str:Bool) (m k v:Operand)
 | zcap (x:Operand)
 | iaddra (sz n:Nat) (x i:Operand)
 | aeq (neg:Bool) (ks:List LK) (x y:Operand)
 | isnil (ifc neg:Bool) (x:Operand)
 | a4s (e:TypeId)
 | slca (sz n:Nat) (x:Operand)
 | cap (x:Operand)
 | sub64 (x y b:Operand)
 | appz (e:TypeId) (bytes:Nat) (zero:List Value) (s x:Operand)
 | bytes (e:TypeId) (x:Operand)
 | clr (zero:List Value) (x:Operand)
 | raw (o:Op) (t:TypeId)
structure E9 where
 dst:Option Nat
 op:IOp
 guard:Option (Nat × Bool)
inductive DT where
 | q
 | f
 | l
 | m
 | n
 | a
 | e (ad:Option Nat) (sk:Bool)
inductive IC where
 | skip
 | reg (ops:List E9)
 | X4 (tags:List DT) (ops:List E9)
 | seq (a b:IC)
 | cond (c:Operand) (a b:IC)
 | block (id:Nat) (a:IC)
 | loop (a:IC)
 | exit (id:Nat)
 | ret
def M4:Option TypeDesc->Bool
 | some (.struct _)|some (.array _ _)=>true
 | _=>false
def a3B (P:Program) (s:TypeId) (f:Nat):Option (Field × Nat):=
 match P.underlying s with
 | some (.struct fields)=>
  match fields[f]? with
  | some fl=>match P.info? fl.type with
   | some i=>some (fl,i.size)
   | none=>none
  | none=>none
 | _=>none
def partsOf (P:Program) (fields:Array Field):List (Nat × Operand)->Option (List (Nat × Nat × Operand))
 | []=>some []
 | (f,x)::rest=>
  match fields[f]? with
  | some fl=>match P.info? fl.type,partsOf P fields rest with
   | some i,some r=>some ((fl.offset,i.size,x)::r)
   | _,_=>none
  | none=>none
def callable (P:Program) (f:Nat):Bool:=
 match P.funcs[f]? with
 | some fn=>!(fn.name == "runtime.NumGoroutine") && !fn.body.isNone
 | none=>false
def a8C (P:Program) (f:Nat):Bool:=
 match P.funcs[f]? with
 | some fn=>decide (fn.name= "math/bits.Sub64") && fn.body.isNone && (Extern.findNext fn).isNone
 | none=>false
def a6M:Option Operand->Option Operand->Option Operand->Bool
 | none,some (.const (.int _ 0)),some (.const (.int _ 0))=>true
 | _,_,_=>false
def a1O (P:Program) (t:TypeId):Option (Bool × TypeId):=
 match P.underlying t with
 | some (.map k e)=>match P.underlying k with
  | some .string=>some (true,e)
  | some (.int _)=>some (false,e)
  | _=>none
 | _=>none
def a6y (lf:TypeId->Option (List LK)) (P:Program):Nat->List Field->Option (List LK)
 | _,[]=>some []
 | off,f::fs=>if f.name == "_" then none else if f.offset=off then match lf f.type,P.info? f.type with
  | some ks,some i=>if i.size=ks.length then match a6y lf P (off+ks.length) fs with
   | some r=>some (ks++r)
   | none=>none
   else none
  | _,_=>none
  else none
def leaves (P:Program):Nat->TypeId->Option (List LK)
 | 0,_=>none
 | d+1,t=>match P.underlying t with
  | some (.int _)=>some [.i]
  | some .string=>some [.s]
  | some .bool=>some [.b]
  | some (.struct fs)=>if P.stoodInHeld t then none else a6y (leaves P d) P 0 fs.toList
  | _=>none
def a6g (P:Program) (neg:Bool) (t:TypeId) (x y:Operand):Option IOp:=
 match P.underlying t,y with
 | some (.struct _),y=>if P.eqGuardType P.depth t then none else match leaves P 20 t with
  | some ks=>some (.aeq neg ks x y)
  | none=>none
 | some (.interface _),.const .nilIface=>some (.isnil true neg x)
 | some (.slice _),.const (.slice none 0 0)=>some (.isnil false neg x)
 | _,_=>none
def a5Q (P:Program) (ty:TypeId) (c:Call):Builtin->Option IOp
 | .len=>
  match c.argTypes.toList,c.args.toList with
  | [t],[x]=>match P.underlying t with
   | some .string=>some (.len true x)
   | some (.slice _)=>some (.len false x)
   | _=>some (.raw (.call c) ty)
  | _,_=>some (.raw (.call c) ty)
 | .append=>
  match c.argTypes.toList,c.args.toList with
  | [t,t'],[s,x]=>
   if t=t' then
    match P.underlying t with
    | some (.slice e)=>match P.info? e with
     | some i=>match i.zero with
      | some z=>if z.cells.size=i.size then some (.app e i.size i.bytes s x) else none
      | none=>none
     | none=>none
    | _=>none
   else match P.underlying t,P.underlying t' with
    | some (.slice e),some .string=>match P.info? e with
     | some i=>match i.zero with
      | some (.int .u8 0)=>if i.size=1 then if i.bytes=1 then some (.apps e s x) else none else none
      | _=>none
     | none=>none
    | some (.slice e),some (.int _)=>match P.info? e with
     | some i=>match i.zero with
      | some z=>if z.cells.size=i.size then if 0 < i.size then some (.appz e i.bytes z.cells.toList s x) else none else none
      | none=>none
     | none=>none
    | _,_=>some (.raw (.call c) ty)
  | _,_=>none
 | .cap=>
  match c.argTypes.toList,c.args.toList with
  | [t],[x]=>match P.underlying t with
   | some (.slice _)=>some (.cap x)
   | _=>some (.raw (.call c) ty)
  | _,_=>some (.raw (.call c) ty)
 | .max=>
  match c.args.toList with
  | [x,y]=>some (.max x y)
  | _=>some (.raw (.call c) ty)
 | .min=>
  match c.args.toList with
  | [x,y]=>some (.min x y)
  | _=>some (.raw (.call c) ty)
 | .clear=>
  match c.argTypes.toList,c.args.toList with
  | [t],[x]=>match P.underlying t with
   | some (.slice e)=>match P.info? e with
    | some i=>match i.zero with
     | some z=>if z.cells.size=i.size then some (.clr z.cells.toList x) else none
     | none=>none
    | none=>none
   | _=>some (.raw (.call c) ty)
  | _,_=>some (.raw (.call c) ty)
 | _=>some (.raw (.call c) ty)
def a9g (P:Program) (ty:TypeId) (c:Call):Option IOp:=
 match c.callee with
 | .value (.func f)=>if callable P f then some (.call f c.args.toList) else if a8C P f then match c.args.toList with
  | [x,y,b]=>some (.sub64 x y b)
  | _=>none
  else none
 | .value x=>some (.a0a x c.args.toList)
 | .builtin b=>a5Q P ty c b
 | _=>some (.raw (.call c) ty)
def b3v (P:Program) (ty:TypeId):Op->Option IOp
 | .move x=>some (.mv x)
 | .assign x=>some (.mv x)
 | .pick c a b=>some (.pick c a b)
 | .binOp op t x y yt=>
  match P.underlying t with
  | some (.int _)=>some (.bin op x y)
  | some .string=>some (.bin op x y)
  | some .bool=>match op with
   | .eql=>some (.beq false x y)
   | .neq=>some (.beq true x y)
   | _=>none
  | _=>match op with
   | .eql=>match a6g P false t x y with
    | some o=>some o
    | none=>some (.raw (.binOp .eql t x y yt) ty)
   | .neq=>match a6g P true t x y with
    | some o=>some o
    | none=>some (.raw (.binOp .neq t x y yt) ty)
   | op=>some (.raw (.binOp op t x y yt) ty)
 | .unOp op _ x=>some (.un op x)
 | .convert s d x=>
  match P.underlying s,P.underlying d with
  | some (.int _),some (.int k)=>some (.conv k x)
  | some (.slice e),some .string=>match P.underlying e with
   | some (.int .u8)=>some (.toStr x)
   | _=>some (.raw (.convert s d x) ty)
  | some .string,some (.slice e)=>match P.underlying e with
   | some (.int .u8)=>some (.bytes e x)
   | _=>some (.raw (.convert s d x) ty)
  | _,_=>some (.raw (.convert s d x) ty)
 | .field s x f=>
  match a3B P s f with
  | some (fl,sz)=>match P.underlying fl.type with
   | some d=>some (.fld (M4 (some d)) fl.offset sz x)
   | none=>none
  | none=>none
 | .extract x i=>some (.ext x i)
 | .build t ps=>
  match P.underlying t,P.info? t with
  | some (.struct fields),some i=>
   if fields.toList.all fun f=>(P.info? f.type).isSome then
    match i.zero,partsOf P fields ps.toList with
    | some z,some r=>some (.build z.cells.toList r)
    | _,_=>none
   else none
  | _,_=>none
 | .load t x=>
  match P.info? t,P.underlying t with
  | some i,some d=>some (.load (M4 (some d)) i.size x)
  | _,_=>none
 | .store t x y=>
  match P.info? t with
  | some i=>some (.store i.size x y)
  | none=>none
 | .nilCheck x=>some (.nilck x)
 | .fieldAddr s x f=>
  match a3B P s f with
  | some (fl,sz)=>if sz=0 then none else some (.faddr fl.offset x)
  | none=>none
 | .indexAddr t x i=>
  match P.underlying t with
  | some (.slice e)=>match P.info? e with
   | some ie=>some (.iaddr ie.size x i)
   | none=>none
  | some (.array n e)=>match P.info? e with
   | some ie=>if 0 < ie.size then some (.iaddra ie.size n x i) else none
   | none=>none
  | _=>some (.raw (.indexAddr t x i) ty)
 | .index t x i=>
  match P.underlying t with
  | some .string=>some (.idxs x i)
  | _=>some (.raw (.index t x i) ty)
 | .slice t x lo hi mx=>
  match P.underlying t,mx with
  | some .string,none=>some (.slcs x lo hi)
  | some (.slice e),none=>match P.info? e with
   | some i=>some (.slcl i.size x lo hi)
   | none=>none
  | some (.slice e),some m=>if a6M lo hi (some m) then match P.info? e with
   | some _=>some (.zcap x)
   | none=>none
   else some (.raw (.slice t x lo hi mx) ty)
  | some (.array n e),none=>match lo,hi with
   | none,none=>match P.info? e with
    | some i=>some (.slca i.size n x)
    | none=>none
   | _,_=>some (.raw (.slice t x lo hi mx) ty)
  | _,_=>some (.raw (.slice t x lo hi mx) ty)
 | .alloc t=>
  match P.info? t with
  | some i=>match i.zero with
   | some z=>some (.alloc t z.cells.toList)
   | none=>none
  | none=>none
 | .box t x=>some (.box t x)
 | .buildSlice t n ps=>
  match P.underlying t with
  | some (.slice e)=>match P.info? e with
   | some i=>match i.zero with
    | some z=>if n=0 then (if ps.size=0 then some (.a4s e) else none) else if n*i.size=0 then none else if z.cells.size=i.size then some (.bsl e i.size n z.cells.toList ps.toList) else none
    | none=>none
   | none=>none
  | _=>none
 | .call c=>a9g P ty c
 | .makeSlice t l c=>
  match P.underlying t with
  | some (.slice e)=>match P.info? e with
   | some i=>match i.zero with
    | some z=>if z.cells.size=i.size then if 0 < i.size then some (.a5w e i.bytes z.cells.toList l c) else none else none
    | none=>none
   | none=>none
  | _=>none
 | .makeFunc (.func f) first caps=>if first.size=0 then some (.clo f caps.toList) else match first.toList,caps.toList with
  | [x],[]=>some (.bnd f x)
  | _,_=>some (.raw (.makeFunc (.func f) first caps) ty)
 | .makeMap t none=>match a1O P t with
  | some (str,_)=>some (.mkmap str)
  | none=>none
 | .lookup t m k ok=>
  match a1O P t with
  | some (str,e)=>match P.info? e with
   | some i=>match i.zero with
    | some z=>some (.lkp str z ok m k)
    | none=>none
   | none=>none
  | none=>some (.raw (.lookup t m k ok) ty)
 | .mapUpdate t m k v=>
  match a1O P t with
  | some (str,_)=>some (.mupd str m k v)
  | none=>some (.raw (.mapUpdate t m k v) ty)
 | o=>some (.raw o ty)
def b1q (ops:Array Oper):Option (Nat × Bool)->Option (Option (Nat × Bool))
 | none=>some none
 | some (j,want)=>match (ops[j]?).bind (·.dst) with
  | some s=>some (some (s,want))
  | none=>none
def a1e (N:Nat):Option Nat->Bool
 | some d=>decide (d < N)
 | none=>true
def a2N (P:Program) (N:Nat) (ops:Array Oper) (o:Oper):Option E9:=
 if a1e N o.dst then
  match b3v P o.type o.op,b1q ops o.guard with
  | some io,some g=>some ⟨o.dst,io,g⟩
  | _,_=>none
 else none
def U6 (P:Program) (N:Nat) (ops:Array Oper):List Oper->Option (List E9)
 | []=>some []
 | o::r=>match a2N P N ops o,U6 P N ops r with
  | some io,some ir=>some (io::ir)
  | _,_=>none
def a4k (acc:List Nat):List Edge->Nat
 | []=>0
 | e::es=>if Region.binds .any e then (2 ^ e.on ||| acc.getD e.on 0) ||| a4k acc es else a4k acc es
def a2O:List Oper->List Nat->List Nat
 | [],acc=>acc
 | o::r,acc=>a2O r (acc++[a4k acc o.after.toList])
def DT.isK:DT->Bool
 | .e _ sk=>sk
 | _=>false
def DT.isF:DT->Bool
 | .f=>true
 | _=>false
def DT.isE:DT->Bool
 | .e _ _=>true
 | _=>false
def DT.isQ:DT->Bool
 | .q=>true
 | _=>false
def DT.isL:DT->Bool
 | .l=>true
 | _=>false
def DT.isM:DT->Bool
 | .m=>true
 | _=>false
def c1L:Op->Bool
 | .fieldAddr _ _ _=>true
 | _=>false
def U7:Op->Bool
 | .store _ _ _=>true
 | .mapUpdate _ _ _ _=>true
 | .call c=>match c.callee with
  | .value _=>true
  | _=>false
 | _=>false
def b0u:IOp->Bool
 | .app _ _ _ _ _=>false
 | .apps _ _ _=>false
 | .appz _ _ _ _ _=>false
 | _=>true
def DT.isA:DT->Bool
 | .a=>true
 | _=>false
def DT.ad:DT->List Nat
 | .e (some t) _=>[t]
 | _=>[]
def wrs (o:Oper) (t:DT):List Nat:=o.dst.toList++t.ad
def a7B (l m:List Nat):Bool:=l.all fun t=>!m.contains t
def b0C (ops:Array Oper) (b:Bool) (oi:Oper) (ti:DT) (oj:Oper) (tj:DT):Bool:=
 (b || a7B (wrs oi ti) (wrs oj tj)) && (b || a7B (oi.looksAt ops) (wrs oj tj)) && (b || a7B (oj.looksAt ops) (wrs oi ti)) &&
 (b || !(ti.isE && tj.isE || ti.isE && tj.isQ || ti.isQ && tj.isE)) &&
 (!(ti.isA || tj.isA) || a7B oi.dst.toList oj.dst.toList) && a7B ti.ad tj.ad &&
 (!(tj.isA) || a7B ti.ad oj.dst.toList) && (!(ti.isA) || b || a7B oi.dst.toList tj.ad) &&
 (b || !(ti.isL && tj.isE && !U7 oj.op || ti.isE && tj.isL && !U7 oi.op)) &&
 (!(ti.isK) || !(tj.isF || tj.isL || tj.isM)) && (!(tj.isK) || b || !(ti.isF) && (!(ti.isL) || !U7 oj.op)) && (b || !(ti.isM && tj.isE))
def a5E:Op->Bool
 | .alloc _=>true
 | _=>false
def a8x (j:Nat) (o:Oper) (t:DT):Bool:=
 o.after.toList.all (fun e=>!Region.binds .any e || decide (e.on < j)) &&
 match t with
 | .a=>o.guard.isNone && o.dst.isSome && a5E o.op
 | .e _ _=>o.guard.isNone
 | _=>true
def b1e (ops:Array Oper) (tags:List DT):Bool:=
 decide (tags.length=ops.size) && (List.range ops.size).all fun j=>
  match ops.toList[j]?,tags[j]?,(a2O ops.toList [])[j]? with
  | some oj,some tj,some m=>a8x j oj tj && (List.range j).all fun i=>match ops.toList[i]?,tags[i]? with
   | some oi,some ti=>b0C ops (m.testBit i) oi ti oj tj
   | _,_=>false
  | _,_,_=>false
def loud (eff:Nat->Bool):Op->Bool
 | .store _ _ _=>true
 | .mapUpdate _ _ _ _=>true
 | .call c=>match c.callee with
  | .value (.func f)=>eff f
  | .value _=>false
  | .builtin .append=>true
  | .builtin .copy=>true
  | .builtin .clear=>true
  | .builtin .delete=>true
  | .builtin _=>false
  | _=>true
 | _=>false
def c7V (ops:List Oper):Op->Option Nat
 | .store _ (.tmp t) _=>if ops.any fun o=>a5E o.op && (match o.dst with|some d=>d == t|none=>false) then some t else none
 | _=>none
def c5o (eff:Nat->Bool) (ops:List Oper) (m:List Nat) (j:Nat):DT:=
 if (ops.zipIdx.all fun (x,i)=>!loud eff x.op || (if i < j then (m.getD j 0).testBit i else (m.getD i 0).testBit j)) then .q else
 if (ops.zipIdx.all fun (x,i)=>!loud eff x.op || U7 x.op || (if i < j then (m.getD j 0).testBit i else (m.getD i 0).testBit j)) then .l else
 if (match ops[j]? with|some o=>c1L o.op|none=>false) then .n else
 if (ops.zipIdx.all fun (x,i)=>!loud eff x.op || decide (i < j) || (m.getD i 0).testBit j) then .m else .f
def c7j (eff:Nat->Bool) (ops:List Oper) (m:List Nat) (j:Nat) (o:Oper):DT:=
 if a5E o.op then .a else if loud eff o.op then .e (c7V ops o.op) (ops.zipIdx.all fun (x,i)=>a5E x.op || loud eff x.op || (match c5o eff ops m i with
  | .q=>true
  | .n=>true
  | .l=>decide (i < j) && (!U7 o.op || (m.getD j 0).testBit i)
  | _=>decide (i < j) && (m.getD j 0).testBit i)) else c5o eff ops m j
def a7T (eff:Nat->Bool) (ops:List Oper):List DT:=ops.zipIdx.map fun (o,j)=>c7j eff ops (a2O ops []) j o
def comp (eff:Nat->Bool) (P:Program) (N:Nat):Code->Option IC
 | .skip=>some .skip
 | .region _ ops false=>
  match U6 P N ops ops.toList with
  | some l=>some (.reg l)
  | none=>none
 | .region _ ops true=>
  if P.follows .mixedOrders && b1e ops (a7T eff ops.toList) then
   match U6 P N ops ops.toList with
   | some l=>some (.X4 (a7T eff ops.toList) l)
   | none=>none
  else none
 | .seq a b=>match comp eff P N a,comp eff P N b with
  | some x,some y=>some (.seq x y)
  | _,_=>none
 | .cond c a b=>match comp eff P N a,comp eff P N b with
  | some x,some y=>some (.cond c x y)
  | _,_=>none
 | .block id a=>match comp eff P N a with
  | some x=>some (.block id x)
  | none=>none
 | .loop a=>match comp eff P N a with
  | some x=>some (.loop x)
  | none=>none
 | .exit id=>some (.exit id)
 | .ret=>some .ret
 | _=>none
inductive RV where
 | tmp (t:Nat)
 | cell (t:Nat) (agg:Bool) (sz:Nat)
structure a4V where
 ntmps:Nat
 results:List RV
 body:IC
def U4 (P:Program):List ResultVar->Option (List RV)
 | []=>some []
 | .tmp t::r=>match U4 P r with
  | some l=>some (.tmp t::l)
  | none=>none
 | .cell t ty::r=>match P.info? ty,P.underlying ty,U4 P r with
  | some i,some d,some l=>some (.cell t (M4 (some d)) i.size::l)
  | _,_,_=>none
def a2p (eff:Nat->Bool) (P:Program) (f:Func):Option a4V:=
 match f.body,U4 P f.results.toList with
 | some c,some rs=>match comp eff P f.ntmps c with
  | some ic=>some ⟨f.ntmps,rs,ic⟩
  | none=>none
 | _,_=>none
inductive C where
 | v (x:Value)
 | agg (cs:List C)
 | tup (cs:List C)
 | sl (sz:Nat) (es:List (List C))
 | nl
 | ep (cs:List C)
 | bp (k off:Nat)
 | rv (k:Nat)
 | rp (k sz i off:Nat)
 | mp (k:Nat)
 | wv (k sz lo n:Nat)
 | clo (f:Nat) (caps:List C)
 | bnd (f:Nat) (x:C)
 | g (p:Bool) (x:C)
 | any (S:Value->Prop)
 | junk
inductive Res where
 | gone
 | box (t:TypeId) (cs:List C)
 | row (e sz:Nat) (es:List (List C))
 | map (str:Bool) (es:List (Value × Value))
structure St where
 fr:List (Nat × C)
 rs:List Res
structure Ctx where
 P:Program
 eff:Nat->Bool
 N:Nat
 w0:World
 own0:Nat->Prop
 av:Nat->Prop
 nu0:List Value
 pk0:List Nat
def a4d:Value->Option Nat
 | .slice (some a) _ _=>some a.block
 | .pointer (some a)=>some a.block
 | _=>none
def capOf:Value->Nat->Prop
 | .slice _ _ c,n=>c=n
 | _,_=>True
mutual
def Fz (w:World) (O:Nat->Prop):C->Value->Prop
 | .v x,y=>y=x
 | .agg cs,y=>∃ vs,FzL w O cs vs/\y=.agg vs.toArray
 | .tup cs,y=>∃ vs,FzL w O cs vs/\y=.tuple vs.toArray
 | .sl sz es,y=>∃ A c,y=.slice A es.length c/\es.length<=c/\c<=maxLen/\(0 < es.length->∃ ad,A=some ad/\ad.block < w.heap.size/\¬ O ad.block/\FzE w O sz es ad 0)
 | .nl,y=>∃ A,y=.slice A 0 0
 | .ep cs,y=>∃ ad,y=.pointer (some ad)/\ad.block < w.heap.size/\¬ O ad.block/\FzA w O cs ad 0
 | .clo f caps,y=>∃ vs,FzL w O caps vs/\y=.func (.func f) #[] vs.toArray
 | .bnd f x,y=>∃ v,Fz w O x v/\y=.func (.func f) #[v] #[]
 | .bp _ _,_=>False
 | .rv _,_=>False
 | .rp _ _ _ _,_=>False
 | .mp _,_=>False
 | .wv _ _ _ _,_=>False
 | .g _ _,_=>False
 | .any S,y=>S y
 | .junk,_=>False
def FzL (w:World) (O:Nat->Prop):List C->List Value->Prop
 | [],vs=>vs=[]
 | c::cs,vs=>∃ y ys,vs=y::ys/\Fz w O c y/\FzL w O cs ys
def FzA (w:World) (O:Nat->Prop):List C->Addr->Nat->Prop
 | [],_,_=>True
 | c::cs,ad,j=>(∃ y,w.cell? (ad.add j)=some y/\y.oneCell'=true/\Fz w O c y)/\FzA w O cs ad (j+1)
def FzE (w:World) (O:Nat->Prop) (sz:Nat):List (List C)->Addr->Nat->Prop
 | [],_,_=>True
 | e::es,ad,i=>e.length=sz/\FzA w O e ad (i*sz)/\FzE w O sz es ad (i+1)
end
mutual
def Den (ν:List Value) (w:World) (O:Nat->Prop):C->Value->Prop
 | .v x,y=>y=x
 | .agg cs,y=>∃ vs,j6 ν w O cs vs/\y=.agg vs.toArray
 | .tup cs,y=>∃ vs,j6 ν w O cs vs/\y=.tuple vs.toArray
 | .sl sz es,y=>Fz w O (.sl sz es) y
 | .nl,y=>∃ A,y=.slice A 0 0
 | .ep cs,y=>Fz w O (.ep cs) y
 | .clo f caps,y=>∃ vs,j6 ν w O caps vs/\y=.func (.func f) #[] vs.toArray
 | .bnd f x,y=>∃ v,Den ν w O x v/\y=.func (.func f) #[v] #[]
 | .bp k off,y=>∃ b,ν[k]?=some (.pointer (some ⟨b,0,none⟩))/\y=.pointer (some ⟨b,off,none⟩)
 | .rv k,y=>ν[k]?=some y/\∃ A n c,y=.slice A n c
 | .rp k sz i off,y=>∃ b n c,ν[k]?=some (.slice (some ⟨b,0,none⟩) n c)/\y=.pointer (some ⟨b,i*sz+off,none⟩)
 | .mp k,y=>ν[k]?=some y/\∃ r,y=.map r
 | .wv k sz lo n,y=>∃ A c,y=.slice A n c/\n<=c/\c<=maxLen/\(0 < c->∃ x b,ν[k]?=some x/\a4d x=some b/\A=some ⟨b,lo*sz,none⟩/\capOf x (lo+c))
 | .g p x,y=>(p=true->Den ν w O x y)/\(p=false->y=undef)
 | .any S,y=>S y
 | .junk,_=>True
def j6 (ν:List Value) (w:World) (O:Nat->Prop):List C->List Value->Prop
 | [],vs=>vs=[]
 | c::cs,vs=>∃ y ys,vs=y::ys/\Den ν w O c y/\j6 ν w O cs ys
end
section
variable {ν:List Value} {w:World} {O:Nat->Prop}
theorem j6.length:∀ {cs:List C} {vs:List Value},j6 ν w O cs vs->vs.length=cs.length
 | [],vs,h=>by simp only [j6] at h;simp [h]
 | c::cs,vs,h=>by
  simp only [j6] at h;obtain ⟨y,ys,rfl,_,h2⟩:=h;simp [j6.length h2]
theorem j6.append:∀ {cs ds:List C} {vs us:List Value},j6 ν w O cs vs->j6 ν w O ds us->j6 ν w O (cs++ds) (vs++us)
 | [],ds,vs,us,h,k=>by simp only [j6] at h;subst h;simpa using k
 | c::cs,ds,vs,us,h,k=>by
  simp only [j6] at h;obtain ⟨y,ys,rfl,h1,h2⟩:=h;exact ⟨y,ys++us,rfl,h1,j6.append h2 k⟩
theorem j6.take:∀ {cs:List C} {vs:List Value} (n:Nat),j6 ν w O cs vs->j6 ν w O (cs.take n) (vs.take n)
 | [],vs,n,h=>by simp only [j6] at h;subst h;simp [j6]
 | c::cs,vs,0,h=>by simp [j6]
 | c::cs,vs,n+1,h=>by
  simp only [j6] at h;obtain ⟨y,ys,rfl,h1,h2⟩:=h;exact ⟨y,ys.take n,rfl,h1,j6.take n h2⟩
theorem j6.drop:∀ {cs:List C} {vs:List Value} (n:Nat),j6 ν w O cs vs->j6 ν w O (cs.drop n) (vs.drop n)
 | [],vs,n,h=>by simp only [j6] at h;subst h;simp [j6]
 | c::cs,vs,0,h=>by simpa using h
 | c::cs,vs,n+1,h=>by
  simp only [j6] at h;obtain ⟨y,ys,rfl,h1,h2⟩:=h;simpa using j6.drop n h2
theorem j6.get:∀ {cs:List C} {vs:List Value} {i:Nat} {s:C},j6 ν w O cs vs->cs[i]?=some s->∃ y,vs[i]?=some y/\Den ν w O s y
 | [],vs,i,s,h,hi=>by simp at hi
 | c::cs,vs,0,s,h,hi=>by
  simp only [j6] at h;obtain ⟨y,ys,rfl,h1,h2⟩:=h;simp at hi;subst hi;exact ⟨y,rfl,h1⟩
 | c::cs,vs,i+1,s,h,hi=>by
  simp only [j6] at h;obtain ⟨y,ys,rfl,h1,h2⟩:=h;have hi':cs[i]?=some s:=by simpa using hi
  obtain ⟨z,hz,hd⟩:=j6.get h2 hi';exact ⟨z,by simpa using hz,hd⟩
theorem j6.vs:∀ (xs:List Value),j6 ν w O (xs.map .v) xs
 | []=>by simp [j6]
 | x::xs=>⟨x,xs,rfl,by simp [Den],j6.vs xs⟩
theorem FzL.length:∀ {cs:List C} {vs:List Value},FzL w O cs vs->vs.length=cs.length
 | [],vs,h=>by simp only [FzL] at h;simp [h]
 | c::cs,vs,h=>by
  simp only [FzL] at h;obtain ⟨y,ys,rfl,_,h2⟩:=h;simp [FzL.length h2]
mutual
theorem Fz.den (ν:List Value):∀ {c:C} {y:Value},Fz w O c y->Den ν w O c y
 | .v _,y,h=>by simpa only [Fz,Den] using h
 | .agg cs,y,h=>by simp only [Fz,Den] at h ⊢;obtain ⟨vs,h1,h2⟩:=h;exact ⟨vs,FzL.den ν h1,h2⟩
 | .tup cs,y,h=>by simp only [Fz,Den] at h ⊢;obtain ⟨vs,h1,h2⟩:=h;exact ⟨vs,FzL.den ν h1,h2⟩
 | .sl _ _,y,h=>by simpa only [Den] using h
 | .nl,y,h=>by simpa only [Fz,Den] using h
 | .ep _,y,h=>by simpa only [Den] using h
 | .clo f cs,y,h=>by simp only [Fz,Den] at h ⊢;obtain ⟨vs,h1,h2⟩:=h;exact ⟨vs,FzL.den ν h1,h2⟩
 | .bnd f x,y,h=>by simp only [Fz,Den] at h ⊢;obtain ⟨v,h1,h2⟩:=h;exact ⟨v,Fz.den ν h1,h2⟩
 | .bp _ _,y,h=>by simp only [Fz] at h
 | .rv _,y,h=>by simp only [Fz] at h
 | .rp _ _ _ _,y,h=>by simp only [Fz] at h
 | .mp _,y,h=>by simp only [Fz] at h
 | .wv _ _ _ _,y,h=>by simp only [Fz] at h
 | .g _ _,y,h=>by simp only [Fz] at h
 | .any _,y,h=>by simpa only [Fz,Den] using h
 | .junk,y,h=>by simp only [Den]
theorem FzL.den (ν:List Value):∀ {cs:List C} {vs:List Value},FzL w O cs vs->j6 ν w O cs vs
 | [],vs,h=>by simpa only [FzL,j6] using h
 | c::cs,vs,h=>by
  simp only [FzL,j6] at h ⊢;obtain ⟨y,ys,e,h1,h2⟩:=h;exact ⟨y,ys,e,Fz.den ν h1,FzL.den ν h2⟩
end
mutual
def C.cl:C->Bool
 | .v _=>true
 | .agg cs=>C.clL cs
 | .tup cs=>C.clL cs
 | .sl _ _=>true
 | .nl=>true
 | .ep _=>true
 | .clo _ cs=>C.clL cs
 | .bnd _ x=>C.cl x
 | .any _=>true
 | _=>false
def C.clL:List C->Bool
 | []=>true
 | c::cs=>C.cl c && C.clL cs
end
mutual
theorem Den.fz:∀ {c:C} {y:Value},c.cl=true->Den ν w O c y->Fz w O c y
 | .v _,y,_,h=>by simpa only [Fz,Den] using h
 | .agg cs,y,hc,h=>by simp only [Fz,Den,C.cl] at h hc ⊢;obtain ⟨vs,h1,h2⟩:=h;exact ⟨vs,j6.fz hc h1,h2⟩
 | .tup cs,y,hc,h=>by simp only [Fz,Den,C.cl] at h hc ⊢;obtain ⟨vs,h1,h2⟩:=h;exact ⟨vs,j6.fz hc h1,h2⟩
 | .sl _ _,y,_,h=>by simpa only [Den] using h
 | .nl,y,_,h=>by simpa only [Fz,Den] using h
 | .ep _,y,_,h=>by simpa only [Den] using h
 | .clo f cs,y,hc,h=>by simp only [Fz,Den,C.cl] at h hc ⊢;obtain ⟨vs,h1,h2⟩:=h;exact ⟨vs,j6.fz hc h1,h2⟩
 | .bnd f x,y,hc,h=>by simp only [Fz,Den,C.cl] at h hc ⊢;obtain ⟨v,h1,h2⟩:=h;exact ⟨v,Den.fz hc h1,h2⟩
 | .bp _ _,y,hc,h=>by simp only [C.cl] at hc;cases hc
 | .rv _,y,hc,h=>by simp only [C.cl] at hc;cases hc
 | .rp _ _ _ _,y,hc,h=>by simp only [C.cl] at hc;cases hc
 | .mp _,y,hc,h=>by simp only [C.cl] at hc;cases hc
 | .wv _ _ _ _,y,hc,h=>by simp only [C.cl] at hc;cases hc
 | .g _ _,y,hc,h=>by simp only [C.cl] at hc;cases hc
 | .any _,y,_,h=>by simpa only [Fz,Den] using h
 | .junk,y,hc,h=>by simp only [C.cl] at hc;cases hc
theorem j6.fz:∀ {cs:List C} {vs:List Value},C.clL cs=true->j6 ν w O cs vs->FzL w O cs vs
 | [],vs,_,h=>by simpa only [FzL,j6] using h
 | c::cs,vs,hc,h=>by
  simp only [FzL,j6,C.clL,c8F] at h hc ⊢;obtain ⟨y,ys,e,h1,h2⟩:=h;exact ⟨y,ys,e,Den.fz hc.1 h1,j6.fz hc.2 h2⟩
end
theorem add_block (ad:Addr) (n:Nat):(ad.add n).block=ad.block:=by unfold Addr.add;split<;>rfl
def Keeps (O:Nat->Prop) (w:World) (O':Nat->Prop) (w':World):Prop:=∀ b,b < w.heap.size->¬ O b->b < w'.heap.size/\¬ O' b/\w'.heap[b]?=w.heap[b]?
section
variable {w':World} {O':Nat->Prop}
mutual
theorem Fz.keep:∀ {O O':Nat->Prop},Keeps O w O' w'->∀ {c:C} {y:Value},Fz w O c y->Fz w' O' c y
 | _,_,hk,.v _,y,h=>by simpa only [Fz] using h
 | _,_,hk,.agg cs,y,h=>by simp only [Fz] at h ⊢;obtain ⟨vs,h1,h2⟩:=h;exact ⟨vs,FzL.keep hk h1,h2⟩
 | _,_,hk,.tup cs,y,h=>by simp only [Fz] at h ⊢;obtain ⟨vs,h1,h2⟩:=h;exact ⟨vs,FzL.keep hk h1,h2⟩
 | _,_,hk,.sl sz es,y,h=>by
  simp only [Fz] at h ⊢;obtain ⟨A,c,h1,h2,h3,h4⟩:=h;refine ⟨A,c,h1,h2,h3,fun h0=>?_⟩;obtain ⟨ad,e,h5,h6,h7⟩:=h4 h0;obtain ⟨k1,k2,k3⟩:=hk _ h5 h6;exact ⟨ad,e,k1,k2,FzE.keep hk h5 h6 h7⟩
 | _,_,hk,.nl,y,h=>by simpa only [Fz] using h
 | _,_,hk,.ep cs,y,h=>by
  simp only [Fz] at h ⊢;obtain ⟨ad,h1,h2,h3,h4⟩:=h;obtain ⟨k1,k2,k3⟩:=hk _ h2 h3;exact ⟨ad,h1,k1,k2,FzA.keep hk h2 h3 h4⟩
 | _,_,hk,.clo f cs,y,h=>by simp only [Fz] at h ⊢;obtain ⟨vs,h1,h2⟩:=h;exact ⟨vs,FzL.keep hk h1,h2⟩
 | _,_,hk,.bnd f x,y,h=>by simp only [Fz] at h ⊢;obtain ⟨v,h1,h2⟩:=h;exact ⟨v,Fz.keep hk h1,h2⟩
 | _,_,hk,.bp _ _,y,h=>by simp only [Fz] at h
 | _,_,hk,.rv _,y,h=>by simp only [Fz] at h
 | _,_,hk,.rp _ _ _ _,y,h=>by simp only [Fz] at h
 | _,_,hk,.mp _,y,h=>by simp only [Fz] at h
 | _,_,hk,.wv _ _ _ _,y,h=>by simp only [Fz] at h
 | _,_,hk,.g _ _,y,h=>by simp only [Fz] at h
 | _,_,hk,.any _,y,h=>by simpa only [Fz] using h
 | _,_,hk,.junk,y,h=>by simp only [Fz] at h
theorem FzL.keep:∀ {O O':Nat->Prop},Keeps O w O' w'->∀ {cs:List C} {vs:List Value},FzL w O cs vs->FzL w' O' cs vs
 | _,_,hk,[],vs,h=>by simpa only [FzL] using h
 | _,_,hk,c::cs,vs,h=>by
  simp only [FzL] at h ⊢;obtain ⟨y,ys,e,h1,h2⟩:=h;exact ⟨y,ys,e,Fz.keep hk h1,FzL.keep hk h2⟩
theorem FzA.keep:∀ {O O':Nat->Prop},Keeps O w O' w'->∀ {cs:List C} {ad:Addr} {j:Nat},ad.block < w.heap.size->¬ O ad.block->FzA w O cs ad j->FzA w' O' cs ad j
 | _,_,hk,[],_,_,_,_,h=>by simp only [FzA]
 | _,_,hk,c::cs,ad,j,h1,h2,h=>by
  simp only [FzA] at h ⊢;obtain ⟨⟨y,h3,h4,h5⟩,h6⟩:=h;refine ⟨⟨y,?_,h4,Fz.keep hk h5⟩,FzA.keep hk h1 h2 h6⟩;rw [<- h3];exact World.cell?_of_block (by rw [add_block];exact (hk _ h1 h2).2.2)
theorem FzE.keep:∀ {O O':Nat->Prop},Keeps O w O' w'->∀ {sz:Nat} {es:List (List C)} {ad:Addr} {i:Nat},ad.block < w.heap.size->¬ O ad.block->FzE w O sz es ad i->FzE w' O' sz es ad i
 | _,_,hk,_,[],_,_,_,_,h=>by simp only [FzE]
 | _,_,hk,sz,e::es,ad,i,h1,h2,h=>by
  simp only [FzE] at h ⊢;exact ⟨h.1,FzA.keep hk h1 h2 h.2.1,FzE.keep hk h1 h2 h.2.2⟩
end
mutual
theorem Den.keep (hk:Keeps O w O' w'):∀ {c:C} {y:Value},Den ν w O c y->Den ν w' O' c y
 | .v _,y,h=>by simpa only [Den] using h
 | .agg cs,y,h=>by simp only [Den] at h ⊢;obtain ⟨vs,h1,h2⟩:=h;exact ⟨vs,j6.keep hk h1,h2⟩
 | .tup cs,y,h=>by simp only [Den] at h ⊢;obtain ⟨vs,h1,h2⟩:=h;exact ⟨vs,j6.keep hk h1,h2⟩
 | .sl _ _,y,h=>by simp only [Den] at h ⊢;exact Fz.keep hk h
 | .nl,y,h=>by simpa only [Den] using h
 | .ep _,y,h=>by simp only [Den] at h ⊢;exact Fz.keep hk h
 | .clo f cs,y,h=>by simp only [Den] at h ⊢;obtain ⟨vs,h1,h2⟩:=h;exact ⟨vs,j6.keep hk h1,h2⟩
 | .bnd f x,y,h=>by simp only [Den] at h ⊢;obtain ⟨v,h1,h2⟩:=h;exact ⟨v,Den.keep hk h1,h2⟩
 | .bp _ _,y,h=>by simpa only [Den] using h
 | .rv _,y,h=>by simpa only [Den] using h
 | .rp _ _ _ _,y,h=>by simpa only [Den] using h
 | .mp _,y,h=>by simpa only [Den] using h
 | .wv _ _ _ _,y,h=>by simpa only [Den] using h
 | .g _ _,y,h=>by simp only [Den] at h ⊢;exact ⟨fun hp=>Den.keep hk (h.1 hp),h.2⟩
 | .any _,y,h=>by simpa only [Den] using h
 | .junk,y,h=>by simp only [Den]
theorem j6.keep (hk:Keeps O w O' w'):∀ {cs:List C} {vs:List Value},j6 ν w O cs vs->j6 ν w' O' cs vs
 | [],vs,h=>by simpa only [j6] using h
 | c::cs,vs,h=>by
  simp only [j6] at h ⊢;obtain ⟨y,ys,e,h1,h2⟩:=h;exact ⟨y,ys,e,Den.keep hk h1,j6.keep hk h2⟩
end
end
end
def D5:Value->Option Nat
 | .pointer (some a)=>some a.block
 | .slice (some a) _ c=>if c=0 then none else some a.block
 | .map (some b)=>some b
 | _=>none
def fp (r:Res) (x:Value) (b:Nat):Prop:=
 match r with
 | .gone=>False
 | _=>D5 x=some b
def owned (rs:List Res) (ν:List Value) (b:Nat):Prop:=∃ (k:Nat) (r:Res) (x:Value),rs[k]?=some r/\ν[k]?=some x/\fp r x b
def OO (av:Nat->Prop) (rs:List Res) (ν:List Value) (b:Nat):Prop:=av b \/ owned rs ν b
def U9 (str:Bool):Value->Bool
 | .string _=>str
 | .int .i64 _=>!str
 | _=>false
def a1S:Value->Value->Bool
 | .int _ a,.int _ b=>a == b
 | .string a,.string b=>decide (a=b)
 | _,_=>false
def a1T (k:Value):List (Value × Value)->Option Value
 | []=>none
 | (k',v)::r=>if a1S k k' then some v else a1T k r
def a1Q (k v:Value):List (Value × Value)->List (Value × Value)
 | []=>[(k,v)]
 | (k',u)::r=>if a1S k k' then (k,v)::r else (k',u)::a1Q k v r
def rowAt (w:World) (e sz:Nat) (x:Value) (n:Nat) (vs:List Value):Prop:=
 vs.length=n*sz/\((n=0/\∃ A,x=.slice A 0 0) \/
  ∃ g cap cur,x=.slice (some ⟨g,0,none⟩) n cap/\0 < cap/\w.heap[g]?=some (.cells cur e (0,0))/\n<=cap/\cap<=maxLen/\cur.size=cap*sz/\cur.toList.take (n*sz)=vs)
theorem rowAt.of {w:World} {b e sz n:Nat} {x:Value} {vs:List Value} (h:w.ownsRow b e sz x n vs):rowAt w e sz x n vs:=by
 refine ⟨h.1,?_⟩;rcases h.2 with ⟨h1,h2⟩|⟨g,cap,cur,rfl,hb,hg,hnc,hcm,hcs,ht⟩
 ·exact .inl ⟨h2,none,h1⟩
 ·rcases c8Q cap with h0|h0
  ·subst h0;have:n=0:=by omega
   subst this;exact .inl ⟨rfl,_,rfl⟩
  ·exact .inr ⟨g,cap,cur,rfl,h0,hg,hnc,hcm,hcs,ht⟩
theorem rowAt.slice {w:World} {e sz n:Nat} {x:Value} {vs:List Value} (h:rowAt w e sz x n vs):∃ A c,x=.slice A n c:=by
 rcases h.2 with ⟨rfl,A,rfl⟩|⟨g,cap,cur,rfl,_⟩
 ·exact ⟨A,0,rfl⟩
 ·exact ⟨_,_,rfl⟩
theorem rowAt.cells {w:World} {e sz n c:Nat} {g:Nat} {vs:List Value} (h:rowAt w e sz (.slice (some ⟨g,0,none⟩) n c) n vs):∀ j u,vs[j]?=some u->w.cell? ((⟨g,0,none⟩:Addr).add j)=some u:=by
 intro j u hu;rcases h.2 with ⟨h0,A,hA⟩|⟨g',cap,cur,hx,h0,hg,hnc,hcm,hcs,ht⟩
 ·have hl:=h.1;rw [h0,Nat.zero_mul] at hl;rw [c8V hl] at hu;simp at hu
 ·injection hx with hx;injection hx with hx;injection hx with hx;subst hx;have hown:w.ownsRow 0 e sz (.slice (some ⟨g,0,none⟩) n cap) n vs:=⟨h.1,.inr ⟨g,cap,cur,rfl,c8w _,hg,hnc,hcm,hcs,ht⟩⟩
  exact hown.cells (g:=g) rfl j u hu
def P5 (ν:List Value) (w:World) (O:Nat->Prop) (x:Value):Res->Prop
 | .gone=>True
 | .box t cs=>∃ b vs,x=.pointer (some ⟨b,0,none⟩)/\j6 ν w O cs vs/\(∀ u ∈ vs,u.oneCell'=true)/\w.heap[b]?=some (.cells vs.toArray t (0,0))
 | .row e sz es=>(∀ c ∈ es,c.length=sz)/\∃ vs,FzL w O es.flatten vs/\(∀ u ∈ vs,u.oneCell'=true)/\rowAt w e sz x es.length vs
 | .map str es=>∃ b ents clock,x=.map (some b)/\w.heap[b]?=some (.map ents clock)/\ents.toList.map (fun e=>(e.key,e.val))=es/\∀ e ∈ es,U9 str e.1=true
def slot:List (Nat × C)->Nat->C
 | [],_=>.junk
 | (t,s)::r,n=>bif t == n then s else slot r n
structure Frm (own0:Nat->Prop) (w w':World):Prop where
 os:w'.os=w.os
 tape:w'.tape=w.tape
 output:w'.output=w.output
 size:w.heap.size<=w'.heap.size
 block:∀ b,b < w.heap.size->¬ own0 b->w'.heap[b]?=w.heap[b]?
structure RG (av own0:Nat->Prop) (n0:Nat) (ν:List Value) (rs:List Res) (w:World):Prop where
 len:ν.length=rs.length
 res:∀ (k:Nat) (r:Res),rs[k]?=some r->∃ x,ν[k]?=some x/\P5 ν w (OO av rs ν) x r
 dis:∀ (k l:Nat) (r r':Res) (x x':Value) (b:Nat),k ≠ l->rs[k]?=some r->rs[l]?=some r'->ν[k]?=some x->ν[l]?=some x'->fp r x b->¬ fp r' x' b
 low:∀ b,owned rs ν b->b < w.heap.size/\¬ av b/\(own0 b \/ n0<=b)
 av:∀ b,av b->b < w.heap.size
 n0:n0<=w.heap.size
def Y5 (pk:List Nat) (ν ν':List Value):Prop:=∀ k x,k ∉ pk->ν[k]?=some x->ν'[k]?=some x
def a4u (E:Ctx):List Nat->Prop
 | []=>True
 | k::pk=>(E.pk0.contains k=true \/ E.nu0.length<=k)/\a4u E pk
structure J6 (E:Ctx) (ν:List Value) (sf:Nat->C) (rs:List Res) (a:Act) (w:World):Prop where
 dfr:a.defers=[]
 size:a.tmps.size=E.N
 fr:∀ t,Den ν w (OO E.av rs ν) (sf t) (a.tmps.getD t undef)
 rg:RG E.av E.own0 E.w0.heap.size ν rs w
 frm:Frm E.own0 E.w0 w
 nu:Y5 E.pk0 E.nu0 ν
abbrev Good (E:Ctx) (ν:List Value) (st:St) (a:Act) (w:World):Prop:=J6 E ν (slot st.fr) st.rs a w
def opf (sf:Nat->C):Operand->C
 | .tmp t=>sf t
 | .const x=>.v x
 | .global g=>.v (.pointer (some ⟨g,0,none⟩))
 | .func f=>.v (.func (.func f) #[] #[])
def opv (fr:List (Nat × C)):Operand->C
 | .tmp t=>slot fr t
 | .const x=>.v x
 | .global g=>.v (.pointer (some ⟨g,0,none⟩))
 | .func f=>.v (.func (.func f) #[] #[])
theorem b6t (fr:List (Nat × C)):opv fr=opf (slot fr):=by funext x;cases x<;>rfl
theorem b9K {ν:List Value} {w:World} {O:Nat->Prop} {sf:Nat->C} {a:Act} (x:Operand) (h:∀ t,x=.tmp t->Den ν w O (sf t) (a.tmps.getD t undef)):Den ν w O (opf sf x) (a.eval x):=by
 cases x with
 | tmp t=>exact h t rfl
 | const x=>simp [opf,Den,Act.eval]
 | global g=>simp [opf,Den,Act.eval]
 | func f=>simp [opf,Den,Act.eval]
def strip:C->C
 | .g _ x=>x
 | x=>x
def req (p:Bool):C->Prop
 | .g q _=>p=true->q=true
 | _=>True
theorem c0l {ν:List Value} {w:World} {O:Nat->Prop} {p:Bool} {s:C} {y:Value} (hp:p=true) (hr:req p s) (h:Den ν w O s y):Den ν w O (strip s) y:=by
 cases s<;>first|exact h|(simp only [Den,req,strip] at *;exact h.1 (hr hp))
def cellsS:C->List C
 | .agg cs=>cs
 | .v (.agg cs)=>cs.toList.map .v
 | s=>[s]
def C.one:C->Bool
 | .v x=>x.oneCell'
 | .bp _ _=>true
 | .rv _=>true
 | .rp _ _ _ _=>true
 | .mp _=>true
 | .wv _ _ _ _=>true
 | .ep _=>true
 | .clo _ _=>true
 | .bnd _ _=>true
 | .sl _ _=>true
 | .nl=>true
 | _=>false
def C.ones:List C->Bool
 | []=>true
 | s::r=>C.one s && C.ones r
def IOp.uses:IOp->List Operand
 | .mv x=>[x]
 | .pick c a b=>[c,a,b]
 | .bin _ x y=>[x,y]
 | .beq _ x y=>[x,y]
 | .un _ x=>[x]
 | .conv _ x=>[x]
 | .fld _ _ _ x=>[x]
 | .ext x _=>[x]
 | .build _ ps=>ps.map (·.2.2)
 | .load _ _ x=>[x]
 | .nilck x=>[x]
 | .faddr _ x=>[x]
 | .iaddr _ x i=>[x,i]
 | .idxs x i=>[x,i]
 | .len _ x=>[x]
 | .max x y=>[x,y]
 | .min x y=>[x,y]
 | .slcs x lo hi=>[x]++lo.toList++hi.toList
 | .slcl _ x lo hi=>[x]++lo.toList++hi.toList
 | .toStr x=>[x]
 | .apps _ s x=>[s,x]
 | .alloc _ _=>[]
 | .box _ x=>[x]
 | .store _ x y=>[x,y]
 | .call _ l=>l
 | .a0a x l=>x::l
 | .app _ _ _ s x=>[s,x]
 | .bsl _ _ _ _ ps=>ps.map (·.2)
 | .a5w _ _ _ l c=>[l,c]
 | .clo _ l=>l
 | .bnd _ x=>[x]
 | .mkmap _=>[]
 | .lkp _ _ _ m k=>[m,k]
 | .mupd _ m k v=>[m,k,v]
 | .zcap x=>[x]
 | .iaddra _ _ x i=>[x,i]
 | .aeq _ _ x y=>[x,y]
 | .isnil _ _ x=>[x]
 | .a4s _=>[]
 | .slca _ _ x=>[x]
 | .cap x=>[x]
 | .sub64 x y b=>[x,y,b]
 | .appz _ _ _ s x=>[s,x]
 | .bytes _ x=>[x]
 | .clr _ x=>[x]
 | .raw o _=>o.operands.toList
def a9o (op:BinOp) (x y:Value) (p:Bool) (K:C->Prop):Prop:=
 match op,x,y with
 | .add,.int k a,.int k' b=>k=k'/\K (.v (.int k (k.wrap (a+b))))
 | .sub,.int k a,.int k' b=>k=k'/\K (.v (.int k (k.wrap (a-b))))
 | .mul,.int k a,.int k' b=>k=k'/\K (.v (.int k (k.wrap (a*b))))
 | .quo,.int k a,.int k' b=>k=k'/\(p=true->b ≠ 0)/\K (.v (.int k (k.wrap (a.tdiv b))))
 | .rem,.int k a,.int k' b=>k=k'/\(p=true->b ≠ 0)/\K (.v (.int k (a.tmod b)))
 | .and,.int k a,.int k' b=>k=k'/\K (.v (.int k (bits .and k a b)))
 | .or,.int k a,.int k' b=>k=k'/\K (.v (.int k (bits .or k a b)))
 | .xor,.int k a,.int k' b=>k=k'/\K (.v (.int k (bits .xor k a b)))
 | .shl,.int k a,.int _ b=>(p=true->0<=b)/\K (.v (.int k (k.wrap (a*2 ^ (min b.toNat k.bits)))))
 | .shr,.int k a,.int _ b=>(p=true->0<=b)/\K (.v (.int k (a.fdiv (2 ^ (min b.toNat k.bits)))))
 | .eql,.int k a,.int k' b=>k=k'/\K (.v (.bool (decide (a=b))))
 | .neq,.int k a,.int k' b=>k=k'/\K (.v (.bool (!decide (a=b))))
 | .lss,.int k a,.int k' b=>k=k'/\K (.v (.bool (decide (a < b))))
 | .leq,.int k a,.int k' b=>k=k'/\K (.v (.bool (decide (a<=b))))
 | .gtr,.int k a,.int k' b=>k=k'/\K (.v (.bool (decide (b < a))))
 | .geq,.int k a,.int k' b=>k=k'/\K (.v (.bool (decide (b<=a))))
 | .add,.string a,.string b=>(p=true->a.size+b.size<=9223372036854775807)/\K (.v (.string (a++b)))
 | .eql,.string a,.string b=>K (.v (.bool (decide (a=b))))
 | .neq,.string a,.string b=>K (.v (.bool (!decide (a=b))))
 | _,_,_=>False
def splice (cs:List C):List (Nat × Nat × C)->List C
 | []=>cs
 | (off,sz,x)::r=>splice (cs.take off++cellsS x++cs.drop (off+sz)) r
def a3c:C->Bool
 | .agg _=>true
 | .v (.agg _)=>true
 | s=>s.one
def a3G:C->Option (List C)
 | .agg cs=>some cs
 | .v (.agg cs)=>some (cs.toList.map .v)
 | _=>none
def a1A (cs:List C):List (Nat × Nat × C)->Prop
 | []=>True
 | (off,sz,x)::r=>a3c x=true/\(cellsS x).length=sz/\off+sz<=cs.length/\a1A (cs.take off++cellsS x++cs.drop (off+sz)) r
def reqs (p:Bool) (ov:Operand->C):List (Nat × Nat × Operand)->Prop
 | []=>True
 | (_,_,x)::r=>req p (ov x)/\reqs p ov r
def a1K (ov:Operand->C):List (Nat × Nat × Operand)->List (Nat × Nat × C)
 | []=>[]
 | (o,z,x)::r=>(o,z,strip (ov x))::a1K ov r
def a1v (ov:Operand->C):List Operand->List C
 | []=>[]
 | x::r=>strip (ov x)::a1v ov r
def a3t (p:Bool) (ov:Operand->C):List Operand->Prop
 | []=>True
 | x::r=>req p (ov x)/\a3t p ov r
def a8g (p c:Bool):C->C->(C->Prop)->Prop
 | .v (.bool a),.v (.bool b),K=>K (.v (.bool (bif c then a else b)))
 | .g q (.v (.bool a)),.v (.bool b),K=>(p=true->c=true->q=true)/\K (.v (.bool (bif c then a else b)))
 | .v (.bool a),.g q (.v (.bool b)),K=>(p=true->c=false->q=true)/\K (.v (.bool (bif c then a else b)))
 | .g q (.v (.bool a)),.g q' (.v (.bool b)),K=>(p=true->c=true->q=true)/\(p=true->c=false->q'=true)/\K (.v (.bool (bif c then a else b)))
 | _,_,_=>False
def a4n (agg:Bool) (sz:Nat) (cs:List C) (K:C->Prop):Prop:=
 match agg with
 | true=>sz<=cs.length/\K (.agg (cs.take sz))
 | false=>match cs with
  | c::_=>K c
  | []=>False
def a3Q (rs:List Res) (agg:Bool) (sz:Nat) (s:C) (K:C->Prop):Prop:=
 match s with
 | .bp k off=>match rs[k]? with
  | some (.box _ cs)=>a4n agg sz (cs.drop off) K
  | _=>False
 | .rp k z i off=>match rs[k]? with
  | some (.row _ z' es)=>z=z'/\match es[i]? with
   | some e=>a4n agg sz (e.drop off) K
   | none=>False
  | _=>False
 | .ep cs=>a4n agg sz cs K
 | _=>False
def a9Y (rs:List Res) (agg:Bool) (sz:Nat) (p:Bool) (s:C) (K:C->Prop):Prop:=
 match s with
 | .junk=>p=false/\K .junk
 | s=>a3Q rs agg sz s K
def I6 (b:UInt8):List C:=[.v (.int .u8 b.toNat)]
def a0r:List (List C)->Option (List UInt8)
 | []=>some []
 | [.v (.int .u8 n)]::r=>match a0r r with
  | some l=>some (UInt8.ofNat n.toNat::l)
  | none=>none
 | _=>none
theorem a0I (l:List UInt8):a0r (l.map I6)=some l:=by
 induction l with
 | nil=>rfl
 | cons b l ih=>simp [a0r,I6,ih]
def b0J (c:C):List C:=[c]
def z8 (ov:Operand->C) (d:Int):Option Operand->C
 | some x=>ov x
 | none=>.v (.int .i64 d)
def b2R (ok:Bool) (zero:Value):Option Value->C
 | some u=>match ok with
  | true=>.tup [.v u,.v (.bool true)]
  | false=>.v u
 | none=>match ok with
  | true=>.tup [.v zero,.v (.bool false)]
  | false=>.v zero
def eqC:List LK->List C->List C->(Bool->Prop)->Prop
 | [],[],[],K=>K true
 | .i::ks,.v (.int k a)::cs,.v (.int k' b)::ds,K=>k=k'/\eqC ks cs ds fun r=>K (decide (a=b) && r)
 | .s::ks,.v (.string a)::cs,.v (.string b)::ds,K=>eqC ks cs ds fun r=>K (decide (a=b) && r)
 | .b::ks,.v (.bool a)::cs,.v (.bool b)::ds,K=>eqC ks cs ds fun r=>K ((a == b) && r)
 | _,_,_,_=>False
def a4v:Value->Option Bool
 | .nilIface=>some true
 | .iface _ _=>some false
 | _=>none
def G8 (ov:Operand->C) (rs:List Res) (p:Bool) (o:IOp) (K:C->Prop):Prop:=
 match o with
 | .mv x=>req p (ov x)/\K (strip (ov x))
 | .pick c a b=>req p (ov c)/\match strip (ov c) with
  | .v (.bool bc)=>a8g p bc (ov a) (ov b) K
  | _=>False
 | .bin op x y=>req p (ov x)/\req p (ov y)/\match strip (ov x),strip (ov y) with
  | .v a,.v b=>a9o op a b p K
  | _,_=>False
 | .beq neg x y=>req p (ov x)/\req p (ov y)/\match strip (ov x),strip (ov y) with
  | .v (.bool a),.v (.bool b)=>K (.v (.bool (bif neg then (a != b) else (a == b))))
  | _,_=>False
 | .un op x=>req p (ov x)/\match op,strip (ov x) with
  | .not,.v (.bool b)=>K (.v (.bool (!b)))
  | .neg,.v (.int k a)=>K (.v (.int k (k.wrap (0-a))))
  | _,_=>False
 | .conv k x=>req p (ov x)/\match strip (ov x) with
  | .v (.int _ a)=>K (.v (.int k (k.wrap a)))
  | _=>False
 | .fld agg off sz x=>req p (ov x)/\match a3G (strip (ov x)) with
  | some cs=>match agg with
   | true=>K (.agg ((cs.drop off).take sz))
   | false=>match cs[off]? with
    | some s=>K s
    | none=>False
  | none=>False
 | .ext x i=>req p (ov x)/\match strip (ov x) with
  | .tup cs=>match cs[i]? with
   | some s=>K s
   | none=>False
  | _=>False
 | .build zero parts=>reqs p ov parts/\a1A (zero.map .v) (a1K ov parts)/\K (.agg (splice (zero.map .v) (a1K ov parts)))
 | .load agg sz x=>req p (ov x)/\a9Y rs agg sz p (strip (ov x)) K
 | .nilck x=>req p (ov x)/\match strip (ov x) with
  | .bp k o=>K (.bp k o)
  | .ep cs=>K (.ep cs)
  | .rp k z i o=>K (.rp k z i o)
  | .v (.func (.func f) u c)=>K (.v (.func (.func f) u c))
  | .clo f c=>K (.clo f c)
  | .bnd f c=>K (.bnd f c)
  | _=>False
 | .faddr off x=>req p (ov x)/\match strip (ov x) with
  | .bp k o=>K (.bp k (o+off))
  | .ep cs=>off<=cs.length/\K (.ep (cs.drop off))
  | .rp k z i o=>K (.rp k z i (o+off))
  | _=>False
 | .iaddr sz x i=>req p (ov x)/\req p (ov i)/\match strip (ov x),strip (ov i) with
  | .sl z es,.v (.int _ q)=>z=sz/\(p=true->0<=q/\q < es.length)/\match es[q.toNat]? with
   | some e=>K (.ep e)
   | none=>p=false/\K .junk
  | .rv k,.v (.int _ q)=>match rs[k]? with
   | some (.row _ z es)=>z=sz/\(p=true->0<=q/\q < es.length)/\K (.rp k sz q.toNat 0)
   | _=>False
  | .wv k z lo n,.v (.int _ q)=>z=sz/\match rs[k]? with
   | some (.row _ z' es)=>z'=sz/\(p=true->(0<=q/\q < n)/\lo+n<=es.length)/\K (.rp k sz (lo+q.toNat) 0)
   | some (.box _ _)=>(p=true->0<=q/\q < n)/\K (.bp k (lo*sz+q.toNat*sz))
   | _=>False
  | _,_=>False
 | .iaddra sz n x i=>req p (ov x)/\req p (ov i)/\match strip (ov x),strip (ov i) with
  | .bp k o,.v (.int _ q)=>(p=true->0<=q/\q < n)/\K (.bp k (o+q.toNat*sz))
  | _,_=>False
 | .idxs x i=>req p (ov x)/\req p (ov i)/\match strip (ov x),strip (ov i) with
  | .v (.string s),.v (.int _ q)=>(p=true->0<=q/\q < s.size)/\K (.v (.int .u8 ((s.data.toList.getD q.toNat 0).toNat)))
  | _,_=>False
 | .len true x=>req p (ov x)/\match strip (ov x) with
  | .v (.string s)=>K (.v (.int .i64 s.size))
  | _=>False
 | .len false x=>req p (ov x)/\match strip (ov x) with
  | .sl _ es=>K (.v (.int .i64 es.length))
  | .nl=>K (.v (.int .i64 0))
  | .rv k=>match rs[k]? with
   | some (.row _ _ es)=>K (.v (.int .i64 es.length))
   | _=>False
  | .v (.slice _ n _)=>K (.v (.int .i64 n))
  | .wv _ _ _ n=>K (.v (.int .i64 n))
  | _=>False
 | .toStr x=>req p (ov x)/\match strip (ov x) with
  | .rv k=>match rs[k]? with
   | some (.row _ _ es)=>match a0r es with
    | some l=>K (.v (.string ⟨l.toArray⟩))
    | none=>False
   | _=>False
  | .sl _ es=>match a0r es with
   | some l=>K (.v (.string ⟨l.toArray⟩))
   | none=>False
  | .nl=>K (.v (.string ⟨#[]⟩))
  | .v (.slice none 0 0)=>K (.v (.string ⟨#[]⟩))
  | .wv k z lo n=>z=1/\match rs[k]? with
   | some (.row _ z' es)=>z'=1/\(p=true->lo+n<=es.length)/\match a0r ((es.drop lo).take n) with
    | some l=>K (.v (.string ⟨l.toArray⟩))
    | none=>False
   | some (.box _ cs)=>(p=true->lo+n<=cs.length)/\match a0r (((cs.drop lo).take n).map b0J) with
    | some l=>K (.v (.string ⟨l.toArray⟩))
    | none=>False
   | _=>False
  | _=>False
 | .slcs x lo hi=>req p (ov x)/\match strip (ov x) with
  | .v (.string s)=>req p (z8 ov 0 lo)/\req p (z8 ov s.size hi)/\match strip (z8 ov 0 lo),strip (z8 ov s.size hi) with
   | .v (.int _ l),.v (.int _ h)=>(p=true->0<=l/\l<=h/\h<=s.size)/\K (.v (.string (s.extract l.toNat h.toNat)))
   | _,_=>False
  | _=>False
 | .slcl sz x lo hi=>req p (ov x)/\match strip (ov x) with
  | .sl z es=>z=sz/\req p (z8 ov 0 lo)/\req p (z8 ov es.length hi)/\match strip (z8 ov 0 lo),strip (z8 ov es.length hi) with
   | .v (.int _ l),.v (.int _ h)=>(p=true->0<=l/\l<=h/\h<=es.length)/\K (.sl sz ((es.drop l.toNat).take (h.toNat-l.toNat)))
   | _,_=>False
  | .wv k z lo' n=>z=sz/\req p (z8 ov 0 lo)/\req p (z8 ov n hi)/\match strip (z8 ov 0 lo),strip (z8 ov n hi) with
   | .v (.int _ l),.v (.int _ h)=>(p=true->0<=l/\l<=h/\h<=n)/\K (.wv k sz (lo'+l.toNat) (h.toNat-l.toNat))
   | _,_=>False
  | .rv k=>match rs[k]? with
   | some (.row _ z es)=>z=sz/\req p (z8 ov 0 lo)/\req p (z8 ov es.length hi)/\match strip (z8 ov 0 lo),strip (z8 ov es.length hi) with
    | .v (.int _ l),.v (.int _ h)=>(p=true->0<=l/\l<=h/\h<=es.length)/\K (.wv k sz l.toNat (h.toNat-l.toNat))
    | _,_=>False
   | _=>False
  | .v (.slice none 0 0)=>req p (z8 ov 0 lo)/\req p (z8 ov 0 hi)/\match strip (z8 ov 0 lo),strip (z8 ov 0 hi) with
   | .v (.int _ l),.v (.int _ h)=>(p=true->l=0/\h=0)/\K (.v (.slice none 0 0))
   | _,_=>False
  | _=>False
 | .sub64 x y b=>req p (ov x)/\req p (ov y)/\req p (ov b)/\match strip (ov x),strip (ov y),strip (ov b) with
  | .v (.int .u64 a),.v (.int .u64 c),.v (.int .u64 d)=>(p=true->0<=a/\(0<=c/\c < 18446744073709551616)/\(0<=d/\d<=1))/\K (.tup [.v (.int .u64 ((a+18446744073709551616-c-d) % 18446744073709551616)),.v (.int .u64 (if a < c+d then 1 else 0))])
  | _,_,_=>False
 | .cap x=>req p (ov x)/\match strip (ov x) with
  | .v (.slice none 0 0)=>K (.v (.int .i64 0))
  | .nl=>K (.v (.int .i64 0))
  | _=>False
 | .slca sz n x=>req p (ov x)/\match strip (ov x) with
  | .bp k 0=>n<=1000000/\K (.wv k sz 0 n)
  | _=>False
 | .zcap x=>req p (ov x)/\match strip (ov x) with
  | .sl _ _=>K .nl
  | .rv _=>K .nl
  | .nl=>K .nl
  | .v (.slice _ _ _)=>K .nl
  | _=>False
 | .max x y=>req p (ov x)/\req p (ov y)/\match strip (ov x),strip (ov y) with
  | .v (.int k a),.v (.int _ b)=>K (.v (.int k (if a < b then b else a)))
  | _,_=>False
 | .min x y=>req p (ov x)/\req p (ov y)/\match strip (ov x),strip (ov y) with
  | .v (.int k a),.v (.int _ b)=>K (.v (.int k (if b < a then b else a)))
  | _,_=>False
 | .aeq neg ks x y=>req p (ov x)/\req p (ov y)/\match a3G (strip (ov x)),a3G (strip (ov y)) with
  | some cs,some ds=>eqC ks cs ds fun r=>K (.v (.bool (bif neg then !r else r)))
  | _,_=>False
 | .isnil true neg x=>req p (ov x)/\match strip (ov x) with
  | .v .nilIface=>K (.v (.bool (!neg)))
  | .v (.iface _ _)=>K (.v (.bool neg))
  | .any S=>(∀ z,S z->(a4v z).isSome=true)/\K (.any fun y=>∃ z b,S z/\a4v z=some b/\y=.bool (bif neg then !b else b))
  | _=>False
 | .isnil false neg x=>req p (ov x)/\match strip (ov x) with
  | .v (.slice none 0 0)=>K (.v (.bool (!neg)))
  | .nl=>K (.any fun y=>∃ b,y=.bool b)
  | .sl _ es=>K (.any fun y=>∃ b,y=.bool b/\(es ≠ []->b=neg))
  | _=>False
 | .clo f caps=>a3t p ov caps/\K (.clo f (a1v ov caps))
 | .bnd f x=>req p (ov x)/\K (.bnd f (strip (ov x)))
 | .lkp str zero ok m k=>req p (ov m)/\req p (ov k)/\match strip (ov m),strip (ov k) with
  | .mp j,.v key=>match rs[j]? with
   | some (.map s es)=>s=str/\(p=true->U9 str key=true)/\K (b2R ok zero (a1T key es))
   | _=>False
  | _,_=>False
 | _=>False
inductive Is (P:Program) (ty:TypeId):Op->IOp->Prop where
 | mv (x:Operand):Is P ty (.move x) (.mv x)
 | asg (x:Operand):Is P ty (.assign x) (.mv x)
 | pick (c x y:Operand):Is P ty (.pick c x y) (.pick c x y)
 | bin (b:BinOp) (t yt:TypeId) (x y:Operand):Is P ty (.binOp b t x y yt) (.bin b x y)
 | beqT (t yt:TypeId) (x y:Operand) (h:P.underlying t=some .bool):Is P ty (.binOp .eql t x y yt) (.beq false x y)
 | beqF (t yt:TypeId) (x y:Operand) (h:P.underlying t=some .bool):Is P ty (.binOp .neq t x y yt) (.beq true x y)
 | un (u:UnOp) (t:TypeId) (x:Operand):Is P ty (.unOp u t x) (.un u x)
 | conv (s d:TypeId) (k k':IntKind) (x:Operand) (hs:P.underlying s=some (.int k')) (hd:P.underlying d=some (.int k)):Is P ty (.convert s d x) (.conv k x)
 | fld (s:TypeId) (f:Nat) (fl:Field) (sz:Nat) (x:Operand) (d:TypeDesc) (h:a3B P s f=some (fl,sz)) (hd:P.underlying fl.type=some d):Is P ty (.field s x f) (.fld (M4 (some d)) fl.offset sz x)
 | ext (x:Operand) (i:Nat):Is P ty (.extract x i) (.ext x i)
 | build (t:TypeId) (ps:Array (Nat × Operand)) (fields:Array Field) (i:TypeInfo) (z:Value) (r:List (Nat × Nat × Operand))
  (ht:P.underlying t=some (.struct fields)) (hi:P.info? t=some i) (hz:i.zero=some z) (hall:(fields.toList.all fun f=>(P.info? f.type).isSome)=true) (hp:partsOf P fields ps.toList=some r):Is P ty (.build t ps) (.build z.cells.toList r)
 | load (t:TypeId) (x:Operand) (i:TypeInfo) (d:TypeDesc) (hi:P.info? t=some i) (hd:P.underlying t=some d):Is P ty (.load t x) (.load (M4 (some d)) i.size x)
 | store (t:TypeId) (x y:Operand) (i:TypeInfo) (hi:P.info? t=some i):Is P ty (.store t x y) (.store i.size x y)
 | nilck (x:Operand):Is P ty (.nilCheck x) (.nilck x)
 | faddr (s:TypeId) (f:Nat) (fl:Field) (sz:Nat) (x:Operand) (h:a3B P s f=some (fl,sz)) (h0:sz ≠ 0):Is P ty (.fieldAddr s x f) (.faddr fl.offset x)
 | iaddr (t e:TypeId) (ie:TypeInfo) (x i:Operand) (ht:P.underlying t=some (.slice e)) (hi:P.info? e=some ie):Is P ty (.indexAddr t x i) (.iaddr ie.size x i)
 | idxs (t:TypeId) (x i:Operand) (ht:P.underlying t=some .string):Is P ty (.index t x i) (.idxs x i)
 | slcl (t e:TypeId) (ie:TypeInfo) (x:Operand) (lo hi:Option Operand) (ht:P.underlying t=some (.slice e)) (hi':P.info? e=some ie):Is P ty (.slice t x lo hi none) (.slcl ie.size x lo hi)
 | slcs (t:TypeId) (x:Operand) (lo hi:Option Operand) (ht:P.underlying t=some .string):Is P ty (.slice t x lo hi none) (.slcs x lo hi)
 | alloc (t:TypeId) (i:TypeInfo) (z:Value) (hi:P.info? t=some i) (hz:i.zero=some z):Is P ty (.alloc t) (.alloc t z.cells.toList)
 | box (t:TypeId) (x:Operand):Is P ty (.box t x) (.box t x)
 | bsl (t e:TypeId) (n:Nat) (ps:Array (Nat × Operand)) (i:TypeInfo) (z:Value) (ht:P.underlying t=some (.slice e)) (hi:P.info? e=some i) (hz:i.zero=some z) (hn:¬ n*i.size=0) (hzs:z.cells.size=i.size) :
  Is P ty (.buildSlice t n ps) (.bsl e i.size n z.cells.toList ps.toList)
 | a5w (t e:TypeId) (l c:Operand) (i:TypeInfo) (z:Value) (ht:P.underlying t=some (.slice e)) (hi:P.info? e=some i) (hz:i.zero=some z) (hzs:z.cells.size=i.size) (h0:0 < i.size):Is P ty (.makeSlice t l c) (.a5w e i.bytes z.cells.toList l c)
 | aeqT (t yt:TypeId) (x y:Operand) (ks:List LK) (hg:P.eqGuardType P.depth t=false) (hl:leaves P 20 t=some ks) (hs:∃ fs,P.underlying t=some (.struct fs)):Is P ty (.binOp .eql t x y yt) (.aeq false ks x y)
 | aeqF (t yt:TypeId) (x y:Operand) (ks:List LK) (hg:P.eqGuardType P.depth t=false) (hl:leaves P 20 t=some ks) (hs:∃ fs,P.underlying t=some (.struct fs)):Is P ty (.binOp .neq t x y yt) (.aeq true ks x y)
 | nilIT (t yt:TypeId) (x:Operand) (hs:∃ ms,P.underlying t=some (.interface ms)):Is P ty (.binOp .eql t x (.const .nilIface) yt) (.isnil true false x)
 | nilIF (t yt:TypeId) (x:Operand) (hs:∃ ms,P.underlying t=some (.interface ms)):Is P ty (.binOp .neq t x (.const .nilIface) yt) (.isnil true true x)
 | nilST (t yt:TypeId) (x:Operand) (hs:∃ e,P.underlying t=some (.slice e)):Is P ty (.binOp .eql t x (.const (.slice none 0 0)) yt) (.isnil false false x)
 | nilSF (t yt:TypeId) (x:Operand) (hs:∃ e,P.underlying t=some (.slice e)):Is P ty (.binOp .neq t x (.const (.slice none 0 0)) yt) (.isnil false true x)
 | a4s (t e:TypeId) (ps:Array (Nat × Operand)) (i:TypeInfo) (ht:P.underlying t=some (.slice e)) (hi:P.info? e=some i) (hps:ps.size=0):Is P ty (.buildSlice t 0 ps) (.a4s e)
 | clo (f:FuncId) (first caps:Array Operand) (h:first.size=0):Is P ty (.makeFunc (.func f) first caps) (.clo f caps.toList)
 | bnd (f:FuncId) (first caps:Array Operand) (x:Operand) (h:first.toList=[x]) (h2:caps.toList=[]):Is P ty (.makeFunc (.func f) first caps) (.bnd f x)
 | mkmap (t e:TypeId) (str:Bool) (hk:a1O P t=some (str,e)):Is P ty (.makeMap t none) (.mkmap str)
 | lkp (t e:TypeId) (str ok:Bool) (m k:Operand) (i:TypeInfo) (z:Value) (hk:a1O P t=some (str,e)) (hi:P.info? e=some i) (hz:i.zero=some z):Is P ty (.lookup t m k ok) (.lkp str z ok m k)
 | mupd (t e:TypeId) (str:Bool) (m k v:Operand) (hk:a1O P t=some (str,e)):Is P ty (.mapUpdate t m k v) (.mupd str m k v)
 | zcap (t e:TypeId) (x:Operand) (lo hi:Option Operand) (mx:Operand) (ie:TypeInfo) (ht:P.underlying t=some (.slice e)) (hi':P.info? e=some ie) (hb:a6M lo hi (some mx)=true):Is P ty (.slice t x lo hi (some mx)) (.zcap x)
 | iaddra (t e:TypeId) (n:Nat) (ie:TypeInfo) (x i:Operand) (ht:P.underlying t=some (.array n e)) (hi:P.info? e=some ie) (h0:0 < ie.size):Is P ty (.indexAddr t x i) (.iaddra ie.size n x i)
 | call (c:Call) (f:Nat) (hc:c.callee=.value (.func f)) (h:callable P f=true):Is P ty (.call c) (.call f c.args.toList)
 | a0a (c:Call) (x:Operand) (hc:c.callee=.value x):Is P ty (.call c) (.a0a x c.args.toList)
 | lenS (c:Call) (t:TypeId) (x:Operand) (hc:c.callee=.builtin .len) (hat:c.argTypes.toList=[t]) (ha:c.args.toList=[x]) (ht:P.underlying t=some .string):Is P ty (.call c) (.len true x)
 | lenL (c:Call) (t e:TypeId) (x:Operand) (hc:c.callee=.builtin .len) (hat:c.argTypes.toList=[t]) (ha:c.args.toList=[x]) (ht:P.underlying t=some (.slice e)):Is P ty (.call c) (.len false x)
 | app (c:Call) (t e:TypeId) (i:TypeInfo) (s x:Operand) (hc:c.callee=.builtin .append) (hat:c.argTypes.toList=[t,t]) (ha:c.args.toList=[s,x]) (ht:P.underlying t=some (.slice e)) (hi:P.info? e=some i) (z:Value) (hz:i.zero=some z) (hzs:z.cells.size=i.size) :
  Is P ty (.call c) (.app e i.size i.bytes s x)
 | apps (c:Call) (t t' e:TypeId) (i:TypeInfo) (s x:Operand) (hc:c.callee=.builtin .append) (hat:c.argTypes.toList=[t,t']) (ha:c.args.toList=[s,x]) (ht:P.underlying t=some (.slice e)) (ht':P.underlying t'=some .string) (hi:P.info? e=some i) (hz:i.zero=some (.int .u8 0)) (hs1:i.size=1) (hb1:i.bytes=1) :
  Is P ty (.call c) (.apps e s x)
 | toStr (s d e:TypeId) (x:Operand) (hs:P.underlying s=some (.slice e)) (he:P.underlying e=some (.int .u8)) (hd:P.underlying d=some .string):Is P ty (.convert s d x) (.toStr x)
 | bytes (s d e:TypeId) (x:Operand) (hs:P.underlying s=some .string) (hd:P.underlying d=some (.slice e)) (he:P.underlying e=some (.int .u8)):Is P ty (.convert s d x) (.bytes e x)
 | max (c:Call) (x y:Operand) (hc:c.callee=.builtin .max) (ha:c.args.toList=[x,y]):Is P ty (.call c) (.max x y)
 | min (c:Call) (x y:Operand) (hc:c.callee=.builtin .min) (ha:c.args.toList=[x,y]):Is P ty (.call c) (.min x y)
 | appz (c:Call) (t t':TypeId) (kn:IntKind) (e:TypeId) (i:TypeInfo) (s x:Operand) (hc:c.callee=.builtin .append) (hat:c.argTypes.toList=[t,t']) (ha:c.args.toList=[s,x]) (ht:P.underlying t=some (.slice e)) (ht':P.underlying t'=some (.int kn)) (hi:P.info? e=some i) (z:Value) (hz:i.zero=some z) (hzs:z.cells.size=i.size) (h0:0 < i.size) :
  Is P ty (.call c) (.appz e i.bytes z.cells.toList s x)
 | sub64 (c:Call) (f:Nat) (x y b:Operand) (hc:c.callee=.value (.func f)) (h:a8C P f=true) (ha:c.args.toList=[x,y,b]):Is P ty (.call c) (.sub64 x y b)
 | cap (c:Call) (t e:TypeId) (x:Operand) (hc:c.callee=.builtin .cap) (hat:c.argTypes.toList=[t]) (ha:c.args.toList=[x]) (ht:P.underlying t=some (.slice e)):Is P ty (.call c) (.cap x)
 | clr (c:Call) (t e:TypeId) (i:TypeInfo) (x:Operand) (hc:c.callee=.builtin .clear) (hat:c.argTypes.toList=[t]) (ha:c.args.toList=[x]) (ht:P.underlying t=some (.slice e)) (hi:P.info? e=some i) (z:Value) (hz:i.zero=some z) (hzs:z.cells.size=i.size) :
  Is P ty (.call c) (.clr z.cells.toList x)
 | slca (t e:TypeId) (n:Nat) (ie:TypeInfo) (x:Operand) (ht:P.underlying t=some (.array n e)) (hi:P.info? e=some ie):Is P ty (.slice t x none none none) (.slca ie.size n x)
 | raw (o:Op):Is P ty o (.raw o ty)
theorem b0b {P:Program} {ty:TypeId} {c:Call} {b:Builtin} {io:IOp} (hc:c.callee=.builtin b) (h:a5Q P ty c b=some io):Is P ty (.call c) io:=by
 unfold a5Q at h;split at h
 ·split at h
  ·split at h
   ·injection h with h;subst h;exact .lenS c _ _ hc (by assumption) (by assumption) (by assumption)
   ·injection h with h;subst h;exact .lenL c _ _ _ hc (by assumption) (by assumption) (by assumption)
   ·injection h with h;subst h;exact .raw ..
  ·injection h with h;subst h;exact .raw ..
 ·split at h
  ·split at h
   ·rename_i heq;subst heq;split at h
    ·split at h
     ·split at h
      ·split at h
       ·injection h with h;subst h;exact .app c _ _ _ _ _ hc (by assumption) (by assumption) (by assumption) (by assumption) _ (by assumption) (by assumption)
       ·cases h
      ·cases h
     ·cases h
    ·cases h
   ·split at h
    ·split at h
     ·split at h
      ·split at h
       ·split at h
        ·injection h with h;subst h;exact .apps c _ _ _ _ _ _ hc (by assumption) (by assumption) (by assumption) (by assumption) (by assumption) (by assumption) (by assumption) (by assumption)
        ·cases h
       ·cases h
      ·cases h
     ·cases h
    ·split at h
     ·split at h
      ·split at h
       ·split at h
        ·injection h with h;subst h;exact .appz c _ _ _ _ _ _ _ hc (by assumption) (by assumption) (by assumption) (by assumption) (by assumption) _ (by assumption) (by assumption) (by assumption)
        ·cases h
       ·cases h
      ·cases h
     ·cases h
    ·injection h with h;subst h;exact .raw ..
  ·cases h
 ·split at h
  ·split at h
   ·injection h with h;subst h;exact .cap c _ _ _ hc (by assumption) (by assumption) (by assumption)
   ·injection h with h;subst h;exact .raw ..
  ·injection h with h;subst h;exact .raw ..
 ·split at h
  ·injection h with h;subst h;exact .max c _ _ hc (by assumption)
  ·injection h with h;subst h;exact .raw ..
 ·split at h
  ·injection h with h;subst h;exact .min c _ _ hc (by assumption)
  ·injection h with h;subst h;exact .raw ..
 ·split at h
  ·split at h
   ·split at h
    ·split at h
     ·split at h
      ·injection h with h;subst h;exact .clr c _ _ _ _ hc (by assumption) (by assumption) (by assumption) (by assumption) _ (by assumption) (by assumption)
      ·cases h
     ·cases h
    ·cases h
   ·injection h with h;subst h;exact .raw ..
  ·injection h with h;subst h;exact .raw ..
 ·injection h with h;subst h;exact .raw ..
theorem b3U {P:Program} {ty:TypeId} {c:Call} {io:IOp} (h:a9g P ty c=some io):Is P ty (.call c) io:=by
 unfold a9g at h;split at h
 ·split at h
  ·injection h with h;subst h;exact .call c _ (by assumption) (by assumption)
  ·split at h
   ·split at h
    ·injection h with h;subst h;exact .sub64 c _ _ _ _ (by assumption) (by assumption) (by assumption)
    ·cases h
   ·cases h
 ·injection h with h;subst h;exact .a0a c _ (by assumption)
 ·exact b0b (by assumption) h
 ·injection h with h;subst h;exact .raw ..
theorem b5x {P:Program} {ty t yt:TypeId} {x y:Operand} {io:IOp} (h:a6g P false t x y=some io):Is P ty (.binOp .eql t x y yt) io:=by
 unfold a6g at h;split at h
 ·rename_i hu;split at h
  ·cases h
  ·rename_i hg;split at h
   ·rename_i hl;injection h with h;subst h;exact .aeqT _ _ _ _ _ (by simpa using hg) hl ⟨_,hu⟩
   ·cases h
 ·rename_i hu;injection h with h;subst h;exact .nilIT _ _ _ ⟨_,hu⟩
 ·rename_i hu;injection h with h;subst h;exact .nilST _ _ _ ⟨_,hu⟩
 ·cases h
theorem b5b {P:Program} {ty t yt:TypeId} {x y:Operand} {io:IOp} (h:a6g P true t x y=some io):Is P ty (.binOp .neq t x y yt) io:=by
 unfold a6g at h;split at h
 ·rename_i hu;split at h
  ·cases h
  ·rename_i hg;split at h
   ·rename_i hl;injection h with h;subst h;exact .aeqF _ _ _ _ _ (by simpa using hg) hl ⟨_,hu⟩
   ·cases h
 ·rename_i hu;injection h with h;subst h;exact .nilIF _ _ _ ⟨_,hu⟩
 ·rename_i hu;injection h with h;subst h;exact .nilSF _ _ _ ⟨_,hu⟩
 ·cases h
theorem c3z {P:Program} {ty:TypeId} {op:Op} {io:IOp} (h:b3v P ty op=some io):Is P ty op io:=by
 unfold b3v at h;split at h
 all_goals (repeat' split at h)
 all_goals first
  | (cases h;done)
  | exact b3U h
  | (injection h with h;subst h;first
   | (constructor<;>assumption)
   | exact .toStr _ _ _ _ (by assumption) (by assumption) (by assumption)
   | exact .bytes _ _ _ _ (by assumption) (by assumption) (by assumption)
   | exact .bsl _ _ _ _ _ _ (by assumption) (by assumption) (by assumption) (by assumption) (by assumption)
   | exact .a5w _ _ _ _ _ _ (by assumption) (by assumption) (by assumption) (by assumption) (by assumption)
   | exact .lkp _ _ _ _ _ _ _ _ (by assumption) (by assumption) (by assumption)
   | exact .mupd _ _ _ _ _ _ (by assumption)
   | exact .zcap _ _ _ _ _ _ _ (by assumption) (by assumption) (by assumption)
   | exact .iaddra _ _ _ _ _ _ (by assumption) (by assumption) (by assumption)
   | exact .slca _ _ _ _ _ (by assumption) (by assumption)
   | exact .mkmap _ _ _ (by assumption)
   | exact .clo _ _ _ (by assumption)
   | exact .bnd _ _ _ _ (by assumption) (by assumption)
   | exact b5x (by assumption)
   | exact b5b (by assumption)
   | (rename_i hz _;subst hz;exact .a4s _ _ _ _ (by assumption) (by assumption) (by assumption))
   | exact .fld _ _ _ _ _ _ (by assumption) (by assumption)
   | exact .load _ _ _ _ (by assumption) (by assumption)
   | exact .faddr _ _ _ _ _ (by assumption) (by assumption)
   | exact .asg _
   | exact .mv _
   | exact .beqT _ _ _ _ (by assumption)
   | exact .beqF _ _ _ _ (by assumption)
   | exact .raw ..)
def eqV:List LK->List Value->List Value->Option Bool
 | [],[],[]=>some true
 | .i::ks,.int k a::xs,.int k' b::ys=>if k=k' then (eqV ks xs ys).map fun r=>decide (a=b) && r else none
 | .s::ks,.string a::xs,.string b::ys=>(eqV ks xs ys).map fun r=>decide (a=b) && r
 | .b::ks,.bool a::xs,.bool b::ys=>(eqV ks xs ys).map fun r=>(a == b) && r
 | _,_,_=>none
theorem b1Y:∀ {ks:List LK} {cs ds:List C} {K:Bool->Prop},eqC ks cs ds K->∃ r,K r/\∀ (ν:List Value) (w:World) (O:Nat->Prop) xs ys,j6 ν w O cs xs->j6 ν w O ds ys->eqV ks xs ys=some r:=by
 intro ks
 induction ks with
 | nil=>
  intro cs ds K h;cases cs<;>cases ds<;>first|exact h.elim|skip
  refine ⟨true,h,fun ν w O xs ys hx hy=>?_⟩;simp only [j6] at hx hy;subst hx hy;rfl
 | cons q ks ih=>
  intro cs ds K h;unfold eqC at h;split at h
  ·rename_i e;cases e
  ·rename_i ks0 k a cs k' b ds e;injection e with e1 e2;subst e1 e2;obtain ⟨rfl,h⟩:=h;obtain ⟨r,hr,hall⟩:=ih h;refine ⟨_,hr,fun ν w O xs ys hx hy=>?_⟩;simp only [j6,Den] at hx hy;obtain ⟨_,xs',rfl,rfl,hx⟩:=hx;obtain ⟨_,ys',rfl,rfl,hy⟩:=hy;simp [eqV,hall ν w O xs' ys' hx hy]
  ·rename_i ks0 a cs b ds e;injection e with e1 e2;subst e1 e2;obtain ⟨r,hr,hall⟩:=ih h;refine ⟨_,hr,fun ν w O xs ys hx hy=>?_⟩;simp only [j6,Den] at hx hy;obtain ⟨_,xs',rfl,rfl,hx⟩:=hx;obtain ⟨_,ys',rfl,rfl,hy⟩:=hy;simp [eqV,hall ν w O xs' ys' hx hy]
  ·rename_i ks0 a cs b ds e;injection e with e1 e2;subst e1 e2;obtain ⟨r,hr,hall⟩:=ih h;refine ⟨_,hr,fun ν w O xs ys hx hy=>?_⟩;simp only [j6,Den] at hx hy;obtain ⟨_,xs',rfl,rfl,hx⟩:=hx;obtain ⟨_,ys',rfl,rfl,hy⟩:=hy;simp [eqV,hall ν w O xs' ys' hx hy]
  ·exact h.elim
theorem a6q:∀ {ks:List LK} {xs ys:List Value} {r:Bool},eqV ks xs ys=some r->xs.length=ks.length/\ys.length=ks.length:=by
 intro ks
 induction ks with
 | nil=>
  intro xs ys r h;cases xs<;>cases ys<;>simp [eqV] at h ⊢
 | cons q ks ih=>
  intro xs ys r h;unfold eqV at h;split at h
  ·rename_i e;cases e
  ·rename_i e;injection e with e1 e2;subst e1 e2;split at h
   ·rw [Option.map_eq_some_iff] at h;obtain ⟨r',h,_⟩:=h;have:=ih h;simp [this]
   ·cases h
  ·rename_i e;injection e with e1 e2;subst e1 e2;rw [Option.map_eq_some_iff] at h;obtain ⟨r',h,_⟩:=h;have:=ih h;simp [this]
  ·rename_i e;injection e with e1 e2;subst e1 e2;rw [Option.map_eq_some_iff] at h;obtain ⟨r',h,_⟩:=h;have:=ih h;simp [this]
  ·cases h
theorem b7i:∀ {ks ls:List LK} {xs ys:List Value} {r:Bool},eqV (ks++ls) xs ys=some r ->
  ∃ r1 r2,eqV ks (xs.take ks.length) (ys.take ks.length)=some r1/\eqV ls (xs.drop ks.length) (ys.drop ks.length)=some r2/\r=(r1 && r2):=by
 intro ks
 induction ks with
 | nil=>intro ls xs ys r h;exact ⟨true,r,by simp [eqV],by simpa using h,by simp⟩
 | cons q ks ih=>
  intro ls xs ys r h;rw [List.cons_append] at h;unfold eqV at h;split at h
  ·rename_i e;cases e
  ·rename_i e;injection e with e1 e2;subst e1 e2;split at h
   ·rw [Option.map_eq_some_iff] at h;obtain ⟨r',h,rfl⟩:=h;obtain ⟨r1,r2,g1,g2,rfl⟩:=ih h;rename_i hk;refine ⟨_,r2,?_,by simpa using g2,(Bool.and_assoc _ _ _).symm⟩;simp [eqV,hk,g1]
   ·cases h
  ·rename_i e;injection e with e1 e2;subst e1 e2;rw [Option.map_eq_some_iff] at h;obtain ⟨r',h,rfl⟩:=h;obtain ⟨r1,r2,g1,g2,rfl⟩:=ih h;refine ⟨_,r2,?_,by simpa using g2,(Bool.and_assoc _ _ _).symm⟩;simp [eqV,g1]
  ·rename_i e;injection e with e1 e2;subst e1 e2;rw [Option.map_eq_some_iff] at h;obtain ⟨r',h,rfl⟩:=h;obtain ⟨r1,r2,g1,g2,rfl⟩:=ih h;refine ⟨_,r2,?_,by simpa using g2,(Bool.and_assoc _ _ _).symm⟩;simp [eqV,g1]
  ·cases h
def asV (agg:Bool) (l:List Value):Value:=if agg then .agg l.toArray else l.headD undef
section
variable {P:Program}
theorem b2Y {w:World} {t:TypeId} {d:TypeDesc} {i:TypeInfo} {X:List Value} {off:Nat} {n:Nat} (hd:P.underlying t=some d) (hi:P.info? t=some i) (hn:i.size=n) (h1:M4 (some d)=false->n=1) (hl:((X.drop off).take n).length=n) :
  (part t X.toArray off).run P w=.ok (asV (M4 (some d)) ((X.drop off).take n)) w:=by
 have hagg:(isAgg t).run P w=.ok (M4 (some d)) w:=by
  unfold isAgg;rw [Sem.run_bind,run_underlying hd w];cases d<;>rfl
 unfold part;rw [Sem.run_bind,hagg];simp only [Result.andThen_ok];cases hb:M4 (some d) with
 | true=>
  simp only [if_true,Sem.run_bind,sizeOf,typeInfo,run_program,hi,Result.andThen_ok,Sem.run_pure,asV];congr 2;rw [hn];apply Array.ext';simp [List.take_drop]
 | false=>
  have hn1:=h1 hb;subst hn1;simp only [if_false,c9d,asV];cases hX:X.drop off with
  | nil=>rw [hX] at hl;simp at hl
  | cons v r=>
   have:X[off]?=some v:=by
    have:=congrArg (·[0]?) hX;simpa [c9e] using this
   simp [this]
def c5v (P:Program) (D:Nat) (t:TypeId) (ks:List LK):Prop:=
 (∃ d,P.underlying t=some d/\(M4 (some d)=false->ks.length=1)/\∀ xs ys r w,eqV ks xs ys=some r->(Op.equalIn D t (asV (M4 (some d)) xs) (asV (M4 (some d)) ys)).run P w=.ok r w)
theorem a8T {lf:TypeId->Option (List LK)} {D:Nat} (IH:∀ t ks,lf t=some ks->c5v P D t ks):∀ (fs:List Field) (off:Nat) (ks:List LK),a6y lf P off fs=some ks ->
  ∀ (X Y:List Value) (r:Bool) (w:World),eqV ks (X.drop off) (Y.drop off)=some r->(Op.eqFields D X.toArray Y.toArray fs).run P w=.ok r w
 | [],off,ks,h,X,Y,r,w,he=>by
  simp only [a6y,Option.some.injEq] at h;subst h;have hl:=a6q he;have h1:X.drop off=[]:=c8V hl.1;have h2:Y.drop off=[]:=c8V hl.2;rw [h1,h2] at he;simp only [eqV,Option.some.injEq] at he;subst he;simp [Op.eqFields]
 | f::fs,off,ks,h,X,Y,r,w,he=>by
  simp only [a6y] at h;split at h
  ·cases h
  ·rename_i hname;split at h
   ·rename_i hoff;split at h
    ·rename_i ks1 i hk1 hi;split at h
     ·rename_i hsz;split at h
      ·rename_i rest hrest;injection h with h;subst h;obtain ⟨r1,r2,g1,g2,rfl⟩:=b7i he;obtain ⟨d,hd,hd1,hrun⟩:=IH _ _ hk1;have hl:=a6q g1;have hX:=b2Y (w:=w) hd hi hsz hd1 hl.1;have hY:=b2Y (w:=w) hd hi hsz hd1 hl.2;have hne:f.name ≠ "_" := by simpa using hname
       rw [List.drop_drop] at g2;rw [List.drop_drop] at g2;have hrec:=a8T IH fs (off+ks1.length) rest hrest X Y r2 w g2;unfold Op.eqFields;rw [if_pos hne];simp only [Sem.run_bind,hoff,hX,hY,Result.andThen_ok,hrun _ _ _ w g1];cases r1 with
       | true=>simpa using hrec
       | false=>simp
      ·cases h
     ·cases h
    ·cases h
   ·cases h
theorem b0h:∀ (d e:Nat) (t:TypeId) (ks:List LK),leaves P d t=some ks->c5v P (d+e) t ks
 | 0,e,t,ks,h=>by cases h
 | d+1,e,t,ks,h=>by
  unfold leaves at h;have hD:d+1+e=(d+e)+1:=by omega
  rw [hD];split at h
  ·rename_i k hu;injection h with h;subst h;refine ⟨_,hu,fun _=>rfl,fun xs ys r w he=>?_⟩;unfold eqV at he;split at he
   ·rename_i e;cases e
   ·rename_i ks0 k1 a xs k2 b ys e;injection e with e1 e2;subst e2;split at he
    ·rename_i hk;subst hk;have hl:=a6q (ks:=[]) (r:=(eqV [] xs ys).getD true) (by
      rw [Option.map_eq_some_iff] at he;obtain ⟨r',hr',_⟩:=he;rw [hr'];rfl)
     have h1:xs=[]:=c8V hl.1;have h2:ys=[]:=c8V hl.2;subst h1 h2;simp only [eqV,c8s,Option.some.injEq,Bool.and_true] at he;subst he;have:=run_equalIn_int (P:=P) w (d+e) t k1 k a b hu;simp only [asV,M4,c9d,if_false,List.headD_cons];rw [this];rfl
    ·cases he
   ·rename_i e;injection e with e1 e2;cases e1
   ·rename_i e;injection e with e1 e2;cases e1
   ·cases he
  ·rename_i hu;injection h with h;subst h;refine ⟨_,hu,fun _=>rfl,fun xs ys r w he=>?_⟩;unfold eqV at he;split at he
   ·rename_i e;cases e
   ·rename_i e;injection e with e1 e2;cases e1
   ·rename_i ks0 a xs b ys e;injection e with e1 e2;subst e2;rw [Option.map_eq_some_iff] at he;obtain ⟨r',hr',rfl⟩:=he;have hl:=a6q hr';have h1:xs=[]:=c8V hl.1;have h2:ys=[]:=c8V hl.2;subst h1 h2;simp only [eqV,Option.some.injEq] at hr';subst hr';have:=run_equalIn_string (P:=P) w (d+e) t a b hu;simp only [asV,M4,c9d,if_false,List.headD_cons,Bool.and_true];rw [this];congr 1;rw [<- beq_toListBytes];by_cases hab:a=b
    ·subst hab;simp only [decide_true];rw [beq_toListBytes];simp
    ·simp only [hab,decide_false];rw [beq_toListBytes];rw [beq_eq_false_iff_ne];intro hh;apply hab;rw [ByteArray.toList_eq,ByteArray.toList_eq] at hh;obtain ⟨⟨x⟩⟩:=a;obtain ⟨⟨y⟩⟩:=b;simp only at hh;subst hh;rfl
   ·rename_i e;injection e with e1 e2;cases e1
   ·cases he
  ·rename_i hu;injection h with h;subst h;refine ⟨_,hu,fun _=>rfl,fun xs ys r w he=>?_⟩;unfold eqV at he;split at he
   ·rename_i e;cases e
   ·rename_i e;injection e with e1 e2;cases e1
   ·rename_i e;injection e with e1 e2;cases e1
   ·rename_i ks0 a xs b ys e;injection e with e1 e2;subst e2;rw [Option.map_eq_some_iff] at he;obtain ⟨r',hr',rfl⟩:=he;have hl:=a6q hr';have h1:xs=[]:=c8V hl.1;have h2:ys=[]:=c8V hl.2;subst h1 h2;simp only [eqV,Option.some.injEq] at hr';subst hr';have:=run_equalIn_bool' (P:=P) w (d+e) t a b hu;simp only [asV,M4,c9d,if_false,List.headD_cons,Bool.and_true];rw [this]
   ·cases he
  ·rename_i fs hu;split at h
   ·cases h
   ·rename_i hst;refine ⟨_,hu,(fun hh=>by cases hh),fun xs ys r w he=>?_⟩;have hfs:P.fieldsOf t=fs:=by simp [Program.fieldsOf,hu]
    have:=run_equalIn_struct (P:=P) w (d+e) t xs.toArray ys.toArray (by rw [hfs];exact hu) (by simpa using hst);simp only [asV,M4,if_true];rw [this,hfs];exact a8T (fun t ks h=>b0h d e t ks h) fs.toList 0 ks h xs ys r w (by simpa using he)
  ·cases h
theorem b5L {w:World} {t:TypeId} {ks:List LK} {xs ys:List Value} {r:Bool} (hl:leaves P 20 t=some ks) (hs:∃ fs,P.underlying t=some (.struct fs)) (he:eqV ks xs ys=some r) :
  (Op.equalIn 10000 t (.agg xs.toArray) (.agg ys.toArray)).run P w=.ok r w:=by
 obtain ⟨fs,hs⟩:=hs;obtain ⟨d,hd,_,h⟩:=b0h 20 9980 t ks hl;rw [hs] at hd;injection hd with hd;subst hd;exact h xs ys r w he
theorem a8L {w:World} {t:TypeId} {ms:Array (String × TypeId)} (hs:P.underlying t=some (.interface ms)) {z:Value} {b:Bool} (hb:a4v z=some b):(Op.equal t z .nilIface).run P w=.ok b w:=by
 have h:∀ d:Nat,(Op.equalIn (d+1) t z .nilIface).run P w=.ok b w:=fun d=>by
  unfold Op.equalIn;rw [Sem.run_bind,run_underlying hs];unfold a4v at hb;split at hb
  ·injection hb with hb;subst hb;rfl
  ·injection hb with hb;subst hb;rfl
  ·cases hb
 exact h 9999
theorem a7o {w:World} {t:TypeId} {op:BinOp} {x:Operand} {z:Value} {b:Bool} (hb:a4v z=some b):(eqGuard op t x (.const .nilIface) z .nilIface).run P w=.ok () w:=by
 unfold a4v at hb;split at hb
 ·cases op<;>simp [eqGuard]
 ·cases op<;>simp [eqGuard]
 ·cases hb
theorem b4X {w:World} {t:TypeId} {z:Value} {b:Bool} (hb:a4v z=some b) (h:(Op.equal t z .nilIface).run P w=.ok b w):(binOp .eql t z .nilIface).run P w=.ok (.bool b) w:=by
 unfold a4v at hb;split at hb
 ·simp only [binOp];simp [h]
 ·simp only [binOp];simp [h]
 ·cases hb
theorem b5e {w:World} {t:TypeId} {z:Value} {b:Bool} (hb:a4v z=some b) (h:(Op.equal t z .nilIface).run P w=.ok b w):(binOp .neq t z .nilIface).run P w=.ok (.bool (!b)) w:=by
 unfold a4v at hb;split at hb
 ·simp only [binOp];simp [h]
 ·simp only [binOp];simp [h]
 ·cases hb
end
def Yl (P:Program) (ν:List Value) (w:World) (O:Nat->Prop) (a:Act) (oo:Oper) (s:C):Prop:=
 ∃ y,Den ν w O s y/\(execOp a.eval oo).run P w=.ok (.value y) w
section
variable {P:Program} {ν:List Value} {rs:List Res} {a:Act} {w:World} {av own0:Nat->Prop} {n0:Nat} {ov:Operand->C}
def HR (ν:List Value) (w:World) (O:Nat->Prop) (rs:List Res):Prop:=∀ (k:Nat) (r:Res),rs[k]?=some r->∃ x,ν[k]?=some x/\P5 ν w O x r
theorem opS {O:Nat->Prop} {p:Bool} (hp:p=true) {x:Operand} (h:Den ν w O (ov x) (a.eval x)) (hr:req p (ov x)):Den ν w O (strip (ov x)) (a.eval x):=c0l hp hr h
theorem A8 {O:Nat->Prop} {x y:Value} (h:Den ν w O (.v x) y):y=x:=by simpa only [Den] using h
theorem b2c (a b:ByteArray):(a.toList == b.toList)=decide (a=b):=by
 rw [<- beq_toListBytes];by_cases h:a=b
 ·subst h;rw [beq_toListBytes];simp
 ·simp only [h,decide_false];rw [beq_toListBytes];cases he:(a.toList == b.toList) with
  | false=>rfl
  | true=>
   rw [<- beq_toListBytes] at he;exact absurd (show a=b by
    have h2:a.data=b.data:=by
     have:(a.data == b.data)=true:=he;exact eq_of_beq this
    cases a;cases b;simp_all) h
theorem c4m {P:Program} {t:TypeId} {X Y:Operand} (a b:ByteArray) (h:a.size+b.size<=9223372036854775807) (w':World) :
  (do eqGuard .add t X Y (.string a) (.string b);binOp .add t (.string a) (.string b):Sem Value).run P w'=.ok (.string (a++b)) w':=by
 have h':¬ ((a.size+b.size:Nat):Int) > IntKind.i64.max:=by
  simp only [IntKind.max,IntKind.signed,IntKind.bits,if_true];omega
 simp only [eqGuard,binOp,Op.stringOp,if_neg h'];simp
theorem b7W {op:BinOp} {x y:Value} {p:Bool} {K:C->Prop} (hp:p=true) (t:TypeId) (X Y:Operand) (P:Program) (h:a9o op x y p K) :
  ∃ r,K (.v r)/\∀ w',(do eqGuard op t X Y x y;binOp op t x y:Sem Value).run P w'=.ok r w':=by
 unfold a9o at h;split at h
 all_goals first
  | (exact h.elim)
  | (obtain ⟨hk,hz,h⟩:=h;subst hk;have hz:=hz hp;exact ⟨_,h,fun w'=>by simp [eqGuard,binOp,Op.intDiv,hz]⟩)
  | (obtain ⟨hk,h⟩:=h;subst hk;exact ⟨_,h,fun w'=>by simp [eqGuard,binOp,Op.intArith,Op.intCmp,go_sem];try rfl⟩)
  | (obtain ⟨hk,h⟩:=h;have hk:_<=(_:Int):=hk hp;exact ⟨_,h,fun w'=>by simp [eqGuard,binOp,Op.shift,Int.not_lt.2 hk]⟩)
  | (obtain ⟨hk,h⟩:=h;have hk:=hk hp;exact ⟨_,h,fun w'=>c4m _ _ hk w'⟩)
  | (refine ⟨_,h,fun w'=>?_⟩;simp [eqGuard,binOp,Op.stringOp,b2c])
theorem add_add' (ad:Addr) (i j:Nat):(ad.add i).add j=ad.add (i+j):=by
 unfold Addr.add;by_cases hi:i=0<;>by_cases hj:j=0<;>simp [hi,hj,Nat.add_assoc]
theorem I7 (b i j:Nat):(⟨b,i,none⟩:Addr).add j=⟨b,i+j,none⟩:=by
 unfold Addr.add;split<;>simp_all
theorem a8J {P:Program} (w:World) (t:TypeId) (i:TypeInfo) (ad:Addr) (vs:List Value) (d:TypeDesc) (hi:P.info? t=some i) (hu:P.underlying t=some d) (ha:M4 (some d)=true) (hl:vs.length=i.size)
  (hc:∀ j v,vs[j]?=some v->w.cell? (ad.add j)=some v):(loadVar t ad).run P w=.ok (.agg vs.toArray) w:=by
 have h2:=run_loadCells_list (P:=P) w ad vs hc;rw [hl] at h2;have hagg:(isAgg t).run P w=.ok true w:=by
  unfold isAgg;rw [Sem.run_bind,run_underlying hu w];cases d<;>simp_all [M4]
 simp [loadVar,Sem.run_bind,hagg,sizeOf,typeInfo,hi,h2]
theorem a9B {P:Program} (w:World) (t:TypeId) (d:TypeDesc) (ad:Addr) (v:Value) (hu:P.underlying t=some d) (ha:M4 (some d)=false) (hc:w.cell? ad=some v) :
  (loadVar t ad).run P w=.ok v w:=by
 have hagg:(isAgg t).run P w=.ok false w:=by
  unfold isAgg;rw [Sem.run_bind,run_underlying hu w];cases d<;>simp_all [M4]
 simp [loadVar,Sem.run_bind,hagg,hc]
theorem a5Y {P:Program} (w:World) (s:TypeId) (f:Nat) (fl:Field) (sz:Nat) (ad:Addr) (h:a3B P s f=some (fl,sz)) (h0:sz ≠ 0) :
  (Instr.fieldAt s (.pointer (some ad)) f).run P w=.ok (.pointer (some (ad.add fl.offset))) w:=by
 unfold a3B at h;split at h
 ·rename_i fields hu;split at h
  ·rename_i fl' hf;split at h
   ·rename_i i hi;injection h with h;injection h with h1 h2;subst h1;simp [Instr.fieldAt,run_underlying hu,hf,Instr.sureAddr,fieldPlace,sizeOf,typeInfo,hi,h2,h0]
   ·cases h
  ·cases h
 ·cases h
theorem b4Y {p c:Bool} {x y:C} {K:C->Prop} (h:a8g p c x y K) :
  ∃ s,K s/\∀ (ν:List Value) (w:World) (O:Nat->Prop) (vx vy:Value),p=true->Den ν w O x vx->Den ν w O y vy->Den ν w O s (if c then vx else vy):=by
 unfold a8g at h;split at h
 ·refine ⟨_,h,fun ν w O vx vy hp hx hy=>?_⟩;simp only [Den] at hx hy ⊢;subst hx hy;cases c<;>rfl
 ·obtain ⟨h1,h⟩:=h;refine ⟨_,h,fun ν w O vx vy hp hx hy=>?_⟩;simp only [Den] at hx hy ⊢;subst hy;cases c
  ·rfl
  ·simp [hx.1 (h1 hp rfl)]
 ·obtain ⟨h1,h⟩:=h;refine ⟨_,h,fun ν w O vx vy hp hx hy=>?_⟩;simp only [Den] at hx hy ⊢;subst hx;cases c
  ·simp [hy.1 (h1 hp rfl)]
  ·rfl
 ·obtain ⟨h1,h2,h⟩:=h;refine ⟨_,h,fun ν w O vx vy hp hx hy=>?_⟩;simp only [Den] at hx hy ⊢;cases c
  ·simp [hy.1 (h2 hp rfl)]
  ·simp [hx.1 (h1 hp rfl)]
 ·exact h.elim
theorem b2u {y:Value} (h:y.oneCell'=true):y.cells.toList=[y]:=by
 cases y<;>simp_all [Value.oneCell',Value.cells]
theorem one_den {O:Nat->Prop} {s:C} {y:Value} (h:Den ν w O s y) (ho:s.one=true):y.oneCell'=true:=by
 cases s with
 | v x=>simp only [Den] at h;subst h;exact ho
 | agg cs=>cases ho
 | tup cs=>cases ho
 | sl sz es=>simp only [Den,Fz] at h;obtain ⟨A,c,rfl,_⟩:=h;rfl
 | nl=>simp only [Den] at h;obtain ⟨A,rfl⟩:=h;rfl
 | ep cs=>simp only [Den,Fz] at h;obtain ⟨ad,rfl,_⟩:=h;rfl
 | bp k off=>simp only [Den] at h;obtain ⟨b,h1,rfl⟩:=h;rfl
 | rv k=>simp only [Den] at h;obtain ⟨_,A,n,c,rfl⟩:=h;rfl
 | rp k z i off=>simp only [Den] at h;obtain ⟨b,n,c,h1,rfl⟩:=h;rfl
 | mp k=>simp only [Den] at h;obtain ⟨_,r,rfl⟩:=h;rfl
 | wv k z lo n=>simp only [Den] at h;obtain ⟨A,c,rfl,_⟩:=h;rfl
 | clo f caps=>simp only [Den] at h;obtain ⟨vs,h1,rfl⟩:=h;rfl
 | bnd f x=>simp only [Den] at h;obtain ⟨v,h1,rfl⟩:=h;rfl
 | g p x=>cases ho
 | any S=>cases ho
 | junk=>cases ho
theorem a3K {O:Nat->Prop}:∀ {cs:List C} {vs:List Value},j6 ν w O cs vs->C.ones cs=true->∀ u ∈ vs,u.oneCell'=true
 | [],vs,h,_=>by simp only [j6] at h;subst h;simp
 | c::cs,vs,h,ho=>by
  simp only [j6,C.ones,c8F] at h ho;obtain ⟨y,ys,rfl,h1,h2⟩:=h;intro u hu;cases List.mem_cons.1 hu with
  | inl e=>subst e;exact one_den h1 ho.1
  | inr e=>exact a3K h2 ho.2 u e
theorem a2w {O:Nat->Prop} {s:C} {y:Value} (h:Den ν w O s y) (ho:a3c s=true):j6 ν w O (cellsS s) y.cells.toList:=by
 have one:cellsS s=[s]->s.one=true->j6 ν w O (cellsS s) y.cells.toList:=fun h1 h2=>by
  rw [h1,b2u (one_den h h2)];exact ⟨y,[],rfl,h,rfl⟩
 cases s with
 | agg cs=>
  simp only [Den] at h;obtain ⟨vs,h1,rfl⟩:=h;simpa [cellsS,Value.cells] using h1
 | v x=>
  simp only [Den] at h;subst h;cases y with
  | agg cs=>simp only [cellsS,Value.cells];exact j6.vs _
  | _=>exact one rfl ho
 | _=>exact one rfl ho
theorem a1n {O:Nat->Prop} {s:C} {y:Value} {cs:List C} (h:Den ν w O s y) (hc:a3G s=some cs):∃ vs,y=.agg vs/\j6 ν w O cs vs.toList:=by
 unfold a3G at hc;split at hc
 ·injection hc with hc;subst hc;simp only [Den] at h;obtain ⟨vs,h1,rfl⟩:=h;exact ⟨_,rfl,by simpa using h1⟩
 ·injection hc with hc;subst hc;simp only [Den] at h;subst h;exact ⟨_,rfl,j6.vs _⟩
 ·cases hc
def a4P (ν:List Value) (w:World) (O:Nat->Prop) (cs:List C) (ad:Addr):Prop:=∃ vs,j6 ν w O cs vs/\∀ j v,vs[j]?=some v->w.cell? (ad.add j)=some v
theorem a4P.drop {O:Nat->Prop} {cs:List C} {ad:Addr} (n:Nat) (h:a4P ν w O cs ad):a4P ν w O (cs.drop n) (ad.add n):=by
 obtain ⟨vs,h1,h2⟩:=h;refine ⟨vs.drop n,h1.drop n,fun j v hv=>?_⟩;rw [add_add'];exact h2 _ _ (by simpa [c9e] using hv)
theorem FzA.cells {O:Nat->Prop}:∀ {cs:List C} {ad:Addr} {j:Nat},FzA w O cs ad j->∃ vs,FzL w O cs vs/\(∀ u ∈ vs,u.oneCell'=true)/\∀ i v,vs[i]?=some v->w.cell? (ad.add (j+i))=some v
 | [],ad,j,_=>⟨[],by simp [FzL],by simp,by simp⟩
 | c::cs,ad,j,h=>by
  simp only [FzA] at h;obtain ⟨⟨y,h1,h2,h3⟩,h4⟩:=h;obtain ⟨vs,k1,k2,k3⟩:=FzA.cells h4;refine ⟨y::vs,⟨y,vs,rfl,h3,k1⟩,?_,?_⟩
  ·intro u hu;cases List.mem_cons.1 hu with
   | inl e=>subst e;exact h2
   | inr e=>exact k2 u e
  ·intro i v hv;cases i with
   | zero=>simp at hv;subst hv;exact h1
   | succ i=>
    have:=k3 i v (by simpa using hv);rw [<- this];congr 2;omega
theorem FzA.of {O:Nat->Prop}:∀ {cs:List C} {vs:List Value} {ad:Addr} {j:Nat},FzL w O cs vs->(∀ u ∈ vs,u.oneCell'=true)->(∀ i v,vs[i]?=some v->w.cell? (ad.add (j+i))=some v)->FzA w O cs ad j
 | [],vs,ad,j,_,_,_=>by simp only [FzA]
 | c::cs,vs,ad,j,h,h1,h2=>by
  simp only [FzL] at h;obtain ⟨y,ys,rfl,h3,h4⟩:=h;simp only [FzA];refine ⟨⟨y,h2 0 y rfl,h1 y (by simp),h3⟩,FzA.of h4 (fun u hu=>h1 u (by simp [hu])) fun i v hv=>?_⟩;have:=h2 (i+1) v (by simpa using hv);rw [<- this];congr 2;omega
theorem FzA.shift {O:Nat->Prop}:∀ {cs:List C} {ad:Addr} {i j:Nat},FzA w O cs ad (i+j)->FzA w O cs (ad.add i) j
 | [],_,_,_,_=>by simp only [FzA]
 | c::cs,ad,i,j,h=>by
  simp only [FzA] at h ⊢;obtain ⟨⟨y,h1,h2⟩,h3⟩:=h;exact ⟨⟨y,by rw [add_add'];exact h1,h2⟩,FzA.shift (by rw [<- Nat.add_assoc];exact h3)⟩
theorem FzE.get {O:Nat->Prop} {sz:Nat}:∀ {es:List (List C)} {ad:Addr} {i k:Nat} {e:List C},FzE w O sz es ad i->es[k]?=some e->e.length=sz/\FzA w O e ad ((i+k)*sz)
 | [],_,_,_,_,_,h=>by simp at h
 | e0::es,ad,i,0,e,h,he=>by
  simp only [FzE] at h;simp at he;subst he;exact ⟨h.1,h.2.1⟩
 | e0::es,ad,i,k+1,e,h,he=>by
  simp only [FzE] at h;obtain ⟨h1,h2⟩:=FzE.get h.2.2 (by simpa using he);exact ⟨h1,by rw [show i+(k+1)=i+1+k by omega];exact h2⟩
theorem FzE.of {O:Nat->Prop} {sz:Nat}:∀ {es:List (List C)} {ad:Addr} {i:Nat},(∀ k e,es[k]?=some e->e.length=sz/\FzA w O e ad ((i+k)*sz))->FzE w O sz es ad i
 | [],_,_,_=>by simp only [FzE]
 | e0::es,ad,i,h=>by
  simp only [FzE];obtain ⟨h1,h2⟩:=h 0 e0 rfl;refine ⟨h1,h2,FzE.of fun k e he=>?_⟩;obtain ⟨h3,h4⟩:=h (k+1) e (by simpa using he);exact ⟨h3,by rw [show i+1+k=i+(k+1) by omega];exact h4⟩
theorem FzE.cells {O:Nat->Prop} {sz:Nat} {es:List (List C)} {ad:Addr} (h:FzE w O sz es ad 0):(∀ e ∈ es,e.length=sz)/\∃ vs,FzL w O es.flatten vs/\(∀ u ∈ vs,u.oneCell'=true)/\∀ i v,vs[i]?=some v->w.cell? (ad.add i)=some v:=by
 have gen:∀ (es:List (List C)) (i:Nat),FzE w O sz es ad i->(∀ e ∈ es,e.length=sz)/\FzA w O es.flatten ad (i*sz):=by
  intro es
  induction es with
  | nil=>intro i _;exact ⟨by simp,by simp only [List.flatten_nil,FzA]⟩
  | cons e es ih=>
   intro i h;simp only [FzE] at h;obtain ⟨h1,h2,h3⟩:=h;obtain ⟨k1,k2⟩:=ih _ h3;refine ⟨by intro e' he';cases List.mem_cons.1 he' with|inl q=>subst q;exact h1|inr q=>exact k1 e' q,?_⟩;simp only [List.flatten_cons];have app:∀ (cs ds:List C) (j:Nat),FzA w O cs ad j->FzA w O ds ad (j+cs.length)->FzA w O (cs++ds) ad j:=by
    intro cs
    induction cs with
    | nil=>intro ds j _ hd;simpa using hd
    | cons c cs ihc=>
     intro ds j hc hd;simp only [List.cons_append,FzA] at hc ⊢;exact ⟨hc.1,ihc ds _ hc.2 (by rw [show j+1+cs.length=j+(c::cs).length by simp;omega];exact hd)⟩
   refine app _ _ _ h2 ?_;rw [h1,show i*sz+sz=(i+1)*sz by rw [Nat.add_mul];omega];exact k2
 obtain ⟨h1,h2⟩:=gen es 0 h;obtain ⟨vs,k1,k2,k3⟩:=FzA.cells h2;exact ⟨h1,vs,k1,k2,fun i v hv=>by have:=k3 i v hv;simpa using this⟩
theorem Q5 {α:Type} {sz:Nat}:∀ {es:List (List α)},(∀ e ∈ es,e.length=sz)->es.flatten.length=es.length*sz
 | [],_=>by simp
 | e::es,h=>by
  rw [List.flatten_cons,c8A,h e (by simp),Q5 (fun e' he=>h e' (by simp [he])),c8R,Nat.add_mul];omega
theorem a2X {α:Type} {sz:Nat}:∀ {es:List (List α)} {i:Nat} {e:List α},(∀ e ∈ es,e.length=sz)->es[i]?=some e->(es.flatten.drop (i*sz)).take sz=e
 | [],i,e,_,h=>by simp at h
 | e0::es,0,e,hl,h=>by
  simp at h;subst h;have:=hl e0 (by simp);simp [List.take_append,this]
 | e0::es,i+1,e,hl,h=>by
  have h0:=hl e0 (by simp);have:=a2X (es:=es) (i:=i) (e:=e) (fun e' he=>hl e' (by simp [he])) (by simpa using h);rw [List.flatten_cons,List.drop_append,h0,List.drop_eq_nil_of_le (by rw [h0,Nat.add_mul];omega),List.nil_append,show (i+1)*sz-sz=i*sz by rw [Nat.add_mul];omega];exact this
theorem a9l {α:Type} {sz:Nat}:∀ {es:List (List α)} {i:Nat} {c:List α},(∀ e ∈ es,e.length=sz)->i < es.length->(es.set i c).flatten=es.flatten.take (i*sz)++c++es.flatten.drop (i*sz+sz)
 | [],i,c,_,h=>by simp at h
 | e0::es,0,c,hl,_=>by
  have h0:=hl e0 (by simp);simp [List.drop_append,h0]
 | e0::es,i+1,c,hl,h=>by
  have h0:=hl e0 (by simp);have:=a9l (es:=es) (i:=i) (c:=c) (fun e' he=>hl e' (by simp [he])) (by simpa using h);have e1:(i+1)*sz=e0.length+i*sz:=by rw [Nat.add_mul];omega
  simp only [List.set_cons_succ,List.flatten_cons,this,e1,Nat.add_assoc,List.take_length_add_append,List.drop_length_add_append,c9j]
theorem b2b {α:Type} {sz:Nat}:∀ {es:List (List α)} {i:Nat},(∀ e ∈ es,e.length=sz)->(es.drop i).flatten=es.flatten.drop (i*sz)
 | [],i,_=>by simp
 | e::es,0,_=>by simp
 | e::es,i+1,h=>by
  have he:=h e (List.mem_cons_self ..);rw [List.drop_succ_cons,b2b fun q hq=>h q (List.mem_cons_of_mem _ hq),List.flatten_cons,List.drop_append,he];have h1:(i+1)*sz-sz=i*sz:=by rw [Nat.add_mul,Nat.one_mul];omega
  have h2:e.drop ((i+1)*sz)=[]:=List.drop_of_length_le (by rw [he,Nat.add_mul,Nat.one_mul];omega);rw [h1,h2,List.nil_append]
theorem a5F {α:Type} {sz:Nat}:∀ {es:List (List α)} {i:Nat},(∀ e ∈ es,e.length=sz)->(es.take i).flatten=es.flatten.take (i*sz)
 | [],i,_=>by simp
 | e::es,0,_=>by simp
 | e::es,i+1,h=>by
  have he:=h e (List.mem_cons_self ..);rw [List.take_succ_cons,List.flatten_cons,a5F fun q hq=>h q (List.mem_cons_of_mem _ hq),List.flatten_cons,List.take_append,he];have h1:(i+1)*sz-sz=i*sz:=by rw [Nat.add_mul,Nat.one_mul];omega
  have h2:e.take ((i+1)*sz)=e:=c8P (by rw [he,Nat.add_mul,Nat.one_mul];omega);rw [h1,h2]
theorem b2d {α:Type}:∀ (l:List α),(l.map fun c=>[c]).flatten=l
 | []=>rfl
 | c::l=>by simp [b2d l]
theorem j6.sub {O:Nat->Prop} {cs:List C} {vs:List Value} (h:j6 ν w O cs vs) (i n:Nat):j6 ν w O ((cs.drop i).take n) ((vs.drop i).take n):=(h.drop i).take n
theorem c0p {O:Nat->Prop} {t:TypeId} {cs:List C} {b off:Nat} (h:P5 ν w O (.pointer (some ⟨b,0,none⟩)) (.box t cs)):a4P ν w O (cs.drop off) ⟨b,off,none⟩:=by
 obtain ⟨b',vs,e,hD,_,hh⟩:=h;injection e with e;injection e with e;injection e with e;subst e;refine ⟨vs.drop off,hD.drop off,fun j v hv=>?_⟩;rw [I7,cell_of_row w b _ _ _ _ hh];simpa [c9e] using hv
theorem c0E {O:Nat->Prop} {e sz:Nat} {es:List (List C)} {b n c i off:Nat} {q:List C} (h:P5 ν w O (.slice (some ⟨b,0,none⟩) n c) (.row e sz es)) (hq:es[i]?=some q):a4P ν w O (q.drop off) ⟨b,i*sz+off,none⟩:=by
 obtain ⟨hl,vs,hD,_,hown⟩:=h;have hD:=hD.den ν;have hn:n=es.length:=by obtain ⟨A,c',e⟩:=hown.slice;injection e
 subst hn;have hcell:=hown.cells;refine ⟨((vs.drop (i*sz)).take sz).drop off,?_,fun j v hv=>?_⟩
 ·have:=((hD.drop (i*sz)).take sz).drop off;rwa [a2X hl hq] at this
 ·rw [c9e,List.getElem?_take] at hv;split at hv
  ·have:=hcell (i*sz+(off+j)) v (by simpa [c9e] using hv);rw [I7] at this ⊢;rw [<- this];congr 2;simp;omega
  ·cases hv
theorem a5h {agg:Bool} {sz:Nat} {cs:List C} {K:C->Prop} (h:a4n agg sz cs K) :
  ∃ r,K r/\∀ (P:Program) (t:TypeId) (i:TypeInfo) (d:TypeDesc) (ν:List Value) (w:World) (O:Nat->Prop) (ad:Addr),P.info? t=some i->P.underlying t=some d->M4 (some d)=agg->i.size=sz->a4P ν w O cs ad ->
   ∃ y,Den ν w O r y/\(Instr.loadAt t (.pointer (some ad))).run P w=.ok y w:=by
 cases agg with
 | true=>
  obtain ⟨hl,h⟩:=h;refine ⟨_,h,fun P t i d ν w O ad hi hd ha hs hc=>?_⟩;obtain ⟨vs,hD,hcell⟩:=hc;refine ⟨.agg (vs.take sz).toArray,⟨_,hD.take sz,rfl⟩,?_⟩;have:=a8J (P:=P) w t i ad (vs.take sz) d hi hd ha (by rw [c8E,hD.length,hs];omega) (fun j v hv=>hcell j v (by
   rw [List.getElem?_take] at hv;split at hv
   ·exact hv
   ·cases hv))
  simp [Instr.loadAt,Instr.sureAddr,this]
 | false=>
  cases cs with
  | nil=>exact h.elim
  | cons c cs=>
   refine ⟨c,h,fun P t i d ν w O ad hi hd ha hs hc=>?_⟩;obtain ⟨vs,hD,hcell⟩:=hc;simp only [j6] at hD;obtain ⟨y,ys,rfl,h1,h2⟩:=hD;refine ⟨y,h1,?_⟩;have:=a9B (P:=P) w t d ad y hd ha (by have:=hcell 0 y rfl;simpa [Addr.add] using this);simp [Instr.loadAt,Instr.sureAddr,this]
theorem a9a {agg:Bool} {sz:Nat} {s:C} {K:C->Prop} (h:a3Q rs agg sz s K) :
  ∃ r,K r/\∀ (P:Program) (t:TypeId) (i:TypeInfo) (d:TypeDesc) (ν:List Value) (w:World) (O:Nat->Prop) (x:Value),P.info? t=some i->P.underlying t=some d->M4 (some d)=agg->i.size=sz->HR ν w O rs ->
   Den ν w O s x->∃ y,Den ν w O r y/\(Instr.loadAt t x).run P w=.ok y w:=by
 unfold a3Q at h;split at h
 ·split at h
  ·rename_i k off _ _ cs hk;obtain ⟨r,hr,hall⟩:=a5h h;refine ⟨r,hr,fun P t i d ν w O x hi hd ha hs hG hx=>?_⟩;simp only [Den] at hx;obtain ⟨b,hb,rfl⟩:=hx;obtain ⟨x',hx',hok⟩:=hG _ _ hk;rw [hb] at hx';injection hx' with hx';subst hx';exact hall P t i d ν w _ _ hi hd ha hs (c0p hok)
  ·exact h.elim
 ·split at h
  ·rename_i k z i' off _ _ z' es hk;obtain ⟨hz,h⟩:=h;subst hz;split at h
   ·rename_i q hq;obtain ⟨r,hr,hall⟩:=a5h h;refine ⟨r,hr,fun P t i d ν w O x hi hd ha hs hG hx=>?_⟩;simp only [Den] at hx;obtain ⟨b,n,c,hb,rfl⟩:=hx;obtain ⟨x',hx',hok⟩:=hG _ _ hk;rw [hb] at hx';injection hx' with hx';subst hx';exact hall P t i d ν w _ _ hi hd ha hs (c0E hok hq)
   ·exact h.elim
  ·exact h.elim
 ·obtain ⟨r,hr,hall⟩:=a5h h;refine ⟨r,hr,fun P t i d ν w O x hi hd ha hs hG hx=>?_⟩;simp only [Den,Fz] at hx;obtain ⟨ad,rfl,_,_,hA⟩:=hx;obtain ⟨vs,h1,_,h3⟩:=FzA.cells hA;exact hall P t i d ν w _ _ hi hd ha hs ⟨vs,h1.den ν,fun j v hv=>by have:=h3 j v hv;simpa using this⟩
 ·exact h.elim
end
section
variable {P:Program} {ν:List Value} {rs:List Res} {a:Act} {w:World} {av own0:Nat->Prop} {n0:Nat} {ov:Operand->C}
theorem a4a {ν:List Value} {w:World} {O:Nat->Prop} (place:Nat->Option (Nat × Nat)):∀ (parts:List (Nat × Value)) (ps:List (Nat × Nat × C)) (cs:List C) (vs:List Value),
 parts.length=ps.length->(∀ (j i:Nat) (v:Value),parts[j]?=some (i,v)->∃ off sz s,ps[j]?=some (off,sz,s)/\place i=some (off,sz)/\j6 ν w O (cellsS s) v.cells.toList)->j6 ν w O cs vs->a1A cs ps ->
 ∃ us:List Value,Instr.fill place vs.toArray parts=some us.toArray/\j6 ν w O (splice cs ps) us
 | [],ps,cs,vs,hl,_,hD,_=>by
  have:ps=[]:=by cases ps<;>simp_all
  subst this;exact ⟨vs,rfl,hD⟩
 | (i,v)::parts,ps,cs,vs,hl,hp,hD,hok=>by
  cases ps with
  | nil=>simp at hl
  | cons q ps=>
   obtain ⟨off,sz,s⟩:=q;obtain ⟨off',sz',s',hq,hpl,hds⟩:=hp 0 i v rfl;simp at hq;obtain ⟨rfl,rfl,rfl⟩:=hq;simp only [a1A] at hok;obtain ⟨_,h1,h2,h3⟩:=hok;have hvl:v.cells.size=sz:=by rw [<- Array.length_toList,hds.length,h1]
   have hcl:vs.length=cs.length:=hD.length;have hset:(v.cells.zipIdx.foldl (fun cs (c,j)=>cs.setIfInBounds (off+j) c) vs.toArray)=(vs.take off++v.cells.toList++vs.drop (off+sz)).toArray:=by
    have key:∀ (l:List Value) (k:Nat) (us:List Value),off+k+l.length<=us.length ->
     (l.zipIdx k).foldl (fun (cs:Array Value) (x:Value × Nat)=>cs.setIfInBounds (off+x.2) x.1) us.toArray=(us.take (off+k)++l++us.drop (off+k+l.length)).toArray:=by
     intro l
     induction l with
     | nil=>intro k us h;simp
     | cons c l ih=>
      intro k us h;simp only [c8R] at h;simp only [List.zipIdx_cons,List.foldl_cons,List.setIfInBounds_toArray];rw [ih (k+1) _ (by simp;omega)];congr 1;apply List.ext_getElem?;intro m;simp only [c9j,List.getElem?_append,c8E,c9h,List.getElem?_take,List.getElem?_set,c8R,c9e];have e1:min (off+(k+1)) us.length=off+k+1:=by omega
      have e2:min (off+k) us.length=off+k:=by omega
      rw [e1,e2];by_cases c1:m < off+k
      ·have:m < off+k+1:=by omega
       have c2:¬ off+k=m:=by omega
       simp [c1,this,c2];omega
      ·by_cases c2:m=off+k
       ·subst c2;simp;omega
       ·have c3:¬ m < off+k+1:=by omega
        rw [if_neg c3,if_neg c1];have c4:m-(off+k)=(m-(off+k+1))+1:=by omega
        rw [c4];by_cases c5:m-(off+k+1) < l.length
        ·simp [c5]
        ·have c6:¬ (m-(off+k+1)+1 < l.length+1):=by omega
         rw [if_neg c5,if_neg c6];have c7:¬ off+k=off+(k+1)+l.length+(m-(off+k+1)-l.length):=by omega
         rw [if_neg c7];congr 1;omega
    have h0:=key v.cells.toList 0 vs (by rw [Array.length_toList,hvl,hcl];simpa using h2);rw [Array.length_toList,hvl,Nat.add_zero] at h0;rw [<- h0,<- Array.foldl_toList,Array.toList_zipIdx]
   obtain ⟨us,hf,hD'⟩:=a4a place parts ps _ (vs.take off++v.cells.toList++vs.drop (off+sz)) (by simpa using hl) (fun j i' v' hj=>hp (j+1) i' v' (by simpa using hj))
    (((hD.take off).append hds).append (hD.drop (off+sz))) h3
   refine ⟨us,?_,hD'⟩;have hbad:(v.cells.size ≠ sz || off+v.cells.size > vs.toArray.size)=false:=by
    have h4:¬ off+v.cells.size > vs.toArray.size:=by
     rw [hvl,List.size_toArray,hcl];omega
    simp [hvl] at h4 ⊢;omega
   simp only [Instr.fill,hpl,hbad,c9d,if_false,hset];exact hf
theorem c1d {P:Program} (t:TypeId) (i:TypeInfo) (d:TypeDesc) (cs:Array Value) (off:Nat) (hi:P.info? t=some i) (hd:P.underlying t=some d) (ha:M4 (some d)=true) (w:World) :
  (part t cs off).run P w=.ok (.agg (cs.extract off (off+i.size))) w:=by
 have hagg:(isAgg t).run P w=.ok true w:=by
  unfold isAgg;rw [Sem.run_bind,run_underlying hd w];cases d<;>simp_all [M4]
 simp [part,hagg,sizeOf,typeInfo,hi]
theorem c1m {P:Program} (t:TypeId) (d:TypeDesc) (cs:Array Value) (off:Nat) (v:Value) (hd:P.underlying t=some d) (ha:M4 (some d)=false) (hv:cs[off]?=some v) (w:World) :
  (part t cs off).run P w=.ok v w:=by
 have hagg:(isAgg t).run P w=.ok false w:=by
  unfold isAgg;rw [Sem.run_bind,run_underlying hd w];cases d<;>simp_all [M4]
 simp [part,hagg,hv]
theorem a8Y {P:Program} {fields:Array Field}:∀ {ps:List (Nat × Operand)} {r:List (Nat × Nat × Operand)},partsOf P fields ps=some r ->
  ps.length=r.length/\∀ (j f:Nat) (x:Operand),ps[j]?=some (f,x)->∃ (fl:Field) (i:TypeInfo),fields[f]?=some fl/\P.info? fl.type=some i/\r[j]?=some (fl.offset,i.size,x)
 | [],r,h=>by simp [partsOf] at h;subst h;simp
 | (f,x)::ps,r,h=>by
  simp only [partsOf] at h;split at h
  ·rename_i fl hf;split at h
   ·rename_i i r' hi hr;injection h with h;subst h;obtain ⟨h1,h2⟩:=a8Y hr;refine ⟨by simp [h1],fun j f' x' hj=>?_⟩;cases j with
    | zero=>simp at hj;obtain ⟨rfl,rfl⟩:=hj;exact ⟨fl,i,hf,hi,rfl⟩
    | succ j=>simp at hj;obtain ⟨fl',i',h3,h4,h5⟩:=h2 j f' x' hj;exact ⟨fl',i',h3,h4,by simpa using h5⟩
   ·cases h
  ·cases h
theorem b0x {p:Bool}:∀ {r:List (Nat × Nat × Operand)},reqs p ov r->(a1K ov r).length=r.length /\
  ∀ (j off sz:Nat) (x:Operand),r[j]?=some (off,sz,x)->req p (ov x)/\(a1K ov r)[j]?=some (off,sz,strip (ov x))
 | [],_=>by simp [a1K]
 | (o,z,x)::r,h=>by
  simp only [reqs] at h;obtain ⟨h1,h2⟩:=b0x (p:=p) h.2;refine ⟨by simp [a1K,h1],fun j off sz x' hj=>?_⟩;cases j with
  | zero=>simp at hj;obtain ⟨rfl,rfl,rfl⟩:=hj;exact ⟨h.1,rfl⟩
  | succ j=>simp at hj;obtain ⟨h3,h4⟩:=h2 j off sz x' hj;exact ⟨h3,by simpa [a1K] using h4⟩
theorem b0T {ps:List (Nat × Nat × C)}:∀ {cs:List C},a1A cs ps->∀ (j off sz:Nat) (s:C),ps[j]?=some (off,sz,s)->a3c s=true:=by
 induction ps with
 | nil=>intro cs h j off sz s hj;simp at hj
 | cons q ps ih=>
  obtain ⟨o,z,x⟩:=q;intro cs h j off sz s hj;simp only [a1A] at h;cases j with
  | zero=>simp at hj;obtain ⟨rfl,rfl,rfl⟩:=hj;exact h.1
  | succ j=>simp at hj;exact ih h.2.2.2 j off sz s hj
theorem b1H {P:Program} (w:World):∀ (fs:List Field),(∀ f ∈ fs,(P.info? f.type).isSome=true) ->
  (fs.mapM fun f=>do pure (f.offset,<- sizeOf f.type):Sem (List (Nat × Nat))).run P w=.ok (fs.map fun f=>(f.offset,P.cellsOf f.type)) w
 | [],_=>by simp
 | f::fs,h=>by
  have h1:=h f (by simp);obtain ⟨i,hi⟩:=Option.isSome_iff_exists.1 h1;have h2:=b1H w fs (fun g hg=>h g (by simp [hg]));simp only [List.mapM_cons,Sem.run_bind,sizeOf,typeInfo,run_program,Result.andThen_ok,hi,Sem.run_pure] at h2 ⊢;rw [h2];simp [Program.cellsOf,hi]
theorem b5C {O:Nat->Prop} {t:TypeId} {ps:Array (Nat × Operand)} {fields:Array Field} {i:TypeInfo} {z:Value} {r:List (Nat × Nat × Operand)} {p:Bool}
  (ht:P.underlying t=some (.struct fields)) (hi:P.info? t=some i) (hz:i.zero=some z) (hall:(fields.toList.all fun f=>(P.info? f.type).isSome)=true) (hpo:partsOf P fields ps.toList=some r)
  (hq:reqs p ov r) (hs:a1A (z.cells.toList.map .v) (a1K ov r)) (hO:∀ x ∈ r.map (·.2.2),Den ν w O (ov x) (a.eval x)) (hp:p=true) :
  ∃ y,Den ν w O (.agg (splice (z.cells.toList.map .v) (a1K ov r))) y/\(Instr.build t (ps.map fun (i,x)=>(i,a.eval x))).run P w=.ok y w:=by
 obtain ⟨hl,hg⟩:=a8Y hpo;obtain ⟨hl2,hg2⟩:=b0x hq;have hall':∀ f ∈ fields.toList,(P.info? f.type).isSome=true:=List.all_eq_true.1 hall;obtain ⟨us,hf,hD⟩:=a4a (ν:=ν) (w:=w) (O:=O) (((fields.toList.map fun f=>(f.offset,P.cellsOf f.type)).toArray)[·]?) (ps.toList.map fun (i,x)=>(i,a.eval x)) (a1K ov r) (z.cells.toList.map .v) z.cells.toList
  (by simp [hl,hl2]) (fun j f v hj=>by
   simp only [c8x,Option.map_eq_some_iff] at hj;obtain ⟨⟨f',x⟩,hj,he⟩:=hj;simp only [Prod.mk.injEq] at he;obtain ⟨rfl,rfl⟩:=he;obtain ⟨fl,i',hfl,hi',hrj⟩:=hg j f' x hj;obtain ⟨hrq,hpv⟩:=hg2 j _ _ x hrj;have hmem:x ∈ r.map (·.2.2):=List.mem_map.2 ⟨_,c8t hrj,rfl⟩;refine ⟨_,_,_,hpv,?_,a2w (opS hp (hO x hmem) hrq) (b0T hs j _ _ _ hpv)⟩;have hfl':fields.toList[f']?=some fl:=by simpa using hfl
   simp [hfl',Program.cellsOf,hi']) (j6.vs _) hs
 refine ⟨.agg us.toArray,⟨us,hD,rfl⟩,?_⟩;have hm:=b1H (P:=P) w fields.toList hall';have hm':(fields.mapM fun f=>do pure (f.offset,<- sizeOf f.type):Sem (Array (Nat × Nat))).run P w=.ok (fields.toList.map fun f=>(f.offset,P.cellsOf f.type)).toArray w:=by
  rw [Array.mapM_eq_mapM_toList,Sem.run_map,hm];rfl
 have hzr:(zeroValue t).run P w=.ok z w:=by simp [zeroValue,typeInfo,hi,hz]
 unfold Instr.build;simp only [Sem.run_bind,hzr,Result.andThen_ok,run_underlying ht w,hm'];have e1:(ps.map fun (i,x)=>(i,a.eval x)).toList=ps.toList.map fun (i,x)=>(i,a.eval x):=by simp
 rw [e1];simp only [Array.toArray_toList] at hf;rw [hf];rfl
theorem run_equal_bool {P:Program} (t:TypeId) (ht:P.underlying t=some .bool) (x y:Bool) (w':World):(Op.equal t (.bool x) (.bool y)).run P w'=.ok (x == y) w':=by
 have h:∀ d:Nat,(Op.equalIn (d+1) t (.bool x) (.bool y)).run P w'=.ok (x == y) w':=fun d=>by
  unfold Op.equalIn;rw [Sem.run_bind,run_underlying ht];rfl
 exact h 9999
theorem a3U {O:Nat->Prop}:∀ {es:List (List C)} {l:List UInt8},a0r es=some l->(∀ e ∈ es,e.length=1)/\∀ vs,j6 ν w O es.flatten vs->∃ ns:List Int,vs=ns.map (Value.int .u8)/\ns.map (fun n=>UInt8.ofNat n.toNat)=l
 | [],l,h=>by
  simp only [a0r,Option.some.injEq] at h;subst h;exact ⟨by simp,fun vs hv=>by simp only [List.flatten_nil,j6] at hv;exact ⟨[],by simp [hv],rfl⟩⟩
 | e::es,l,h=>by
  unfold a0r at h;split at h
  ·rename_i heq;cases heq
  ·rename_i n r heq;injection heq with e1 e2;subst e1 e2;split at h
   ·rename_i l' hl';injection h with h;subst h;obtain ⟨h0,h1⟩:=a3U hl';refine ⟨by intro e he;cases List.mem_cons.1 he with|inl q=>subst q;rfl|inr q=>exact h0 e q,fun vs hv=>?_⟩;simp only [List.flatten_cons,List.cons_append,List.nil_append,j6,Den] at hv;obtain ⟨y,ys,rfl,rfl,h2⟩:=hv;obtain ⟨ns,h3,h4⟩:=h1 ys h2;exact ⟨n::ns,by rw [h3];rfl,by simp [h4]⟩
   ·cases h
  ·cases h
theorem b9W (ns:List Int):∀ (s:ByteArray),ns.foldl (fun (r:ByteArray) n=>r.push (UInt8.ofNat n.toNat)) s=⟨s.data++(ns.map (fun n=>UInt8.ofNat n.toNat)).toArray⟩:=by
 induction ns with
 | nil=>intro s;simp
 | cons n ns ih=>
  intro s;rw [List.foldl_cons,ih];simp [ByteArray.push]
theorem a1X (s d e:TypeId) (hs:P.underlying s=some (.slice e)) (he:P.underlying e=some (.int .u8)) (hd:P.underlying d=some .string)
  (A:Option Addr) (m c:Nat) (ns:List Int) (hl:ns.length=m) (hc:0 < m->∃ ad,A=some ad/\∀ j u,(ns.map (Value.int .u8))[j]?=some u->w.cell? (ad.add j)=some u) :
  (convert s d (.slice A m c)).run P w=.ok (.string ⟨(ns.map (fun n=>UInt8.ofNat n.toNat)).toArray⟩) w:=by
 rw [run_convert_bytes_string w s d e A m c hs he hd];cases A with
 | none=>
  have hm:m=0:=by
   rcases c8Q m with h0|h0
   ·exact h0
   ·obtain ⟨ad,h,_⟩:=hc h0;cases h
  have hns:ns=[]:=c8V (by omega);subst hns;rfl
 | some ad=>
  have hcells:∀ j u,(ns.map (Value.int .u8))[j]?=some u->w.cell? (ad.add j)=some u:=by
   intro j u hu;rcases c8Q m with h0|h0
   ·have hns:ns=[]:=c8V (by omega);subst hns;simp at hu
   ·obtain ⟨ad',h,hcc⟩:=hc h0;injection h with h;subst h;exact hcc j u hu
  have h2:=run_loadCells_list (P:=P) w ad (ns.map (Value.int .u8)) hcells;simp only [c8r] at h2;rw [hl] at h2;rw [run_bytesToString w ad m c ns h2,b9W];simp
theorem b2q {P:Program} (w:World) (t:TypeId) (ht:P.underlying t=some .string) (s:ByteArray) (lo hi:Option Value) (l h:Int) (k1 k2:IntKind)
  (hlo:(lo=none/\l=0) \/ lo=some (.int k1 l)) (hhi:(hi=none/\h=s.size) \/ hi=some (.int k2 h)) (h0:0<=l) (h1:l<=h) (h2:h<=s.size) :
  (Instr.sliceAt t (.string s) lo hi none).run P w=.ok (.string (s.extract l.toNat h.toNat)) w:=by
 have e2:((h.toNat:Nat):Int)=h:=by omega
 have hb:(Instr.sliceBounds false s.size s.size lo hi none).run P w=.ok (l.toNat,h.toNat,s.size) w:=by
  rcases hlo with ⟨rfl,rfl⟩|rfl<;>rcases hhi with ⟨rfl,rfl⟩|rfl
  ·simp [Instr.sliceBounds]
  ·have c1:0<=h/\h<=(s.size:Int):=⟨by omega,h2⟩
   simp [Instr.sliceBounds,Instr.sliceBound,asIntOf,c1]
  ·have c1:0<=l/\l<=(s.size:Int):=⟨h0,by omega⟩
   simp [Instr.sliceBounds,Instr.sliceBound,asIntOf,c1]
  ·have c1:0<=h/\h<=(s.size:Int):=⟨by omega,h2⟩
   have c2:0<=l/\l<=h:=⟨h0,h1⟩
   have c3:0<=h:=by omega
   have c4:max h 0=h:=by omega
   simp [Instr.sliceBounds,Instr.sliceBound,asIntOf,c1,c2,c3,h0,h1,e2,c4]
 unfold Instr.sliceAt;simp only [Sem.run_bind,run_underlying ht,Result.andThen_ok];unfold Instr.slice;simp only [Sem.run_bind,run_underlying ht,Result.andThen_ok,Option.isSome_none,c9d,if_false,hb,Sem.run_pure]
theorem a2J {P:Program} (w:World) (t e:TypeId) (ie:TypeInfo) (ht:P.underlying t=some (.slice e)) (hi':P.info? e=some ie) (A:Option Addr) (n c:Nat) (lo hi:Option Value) (l h:Int) (k1 k2:IntKind)
  (hlo:(lo=none/\l=0) \/ lo=some (.int k1 l)) (hhi:(hi=none/\h=n) \/ hi=some (.int k2 h)) (h0:0<=l) (h1:l<=h) (h2:h<=n) (hn:n<=c) :
  (Instr.sliceAt t (.slice A n c) lo hi none).run P w=.ok (sliced A l.toNat h.toNat c ie.size) w:=by
 have he:P.elem t=e:=by simp [Program.elem,ht]
 have ht':P.underlying t=some (.slice (P.elem t)):=by rw [he];exact ht
 have e2:((h.toNat:Nat):Int)=h:=by omega
 have hb:(Instr.sliceBounds true n c lo hi none).run P w=.ok (l.toNat,h.toNat,c) w:=by
  rcases hlo with ⟨rfl,rfl⟩|rfl<;>rcases hhi with ⟨rfl,rfl⟩|rfl
  ·simp [Instr.sliceBounds]
  ·have c1:0<=h/\h<=(c:Int):=⟨by omega,by omega⟩
   simp [Instr.sliceBounds,Instr.sliceBound,asIntOf,c1]
  ·have c1:0<=l/\l<=(n:Int):=⟨h0,by omega⟩
   simp [Instr.sliceBounds,Instr.sliceBound,asIntOf,c1]
  ·have c1:0<=h/\h<=(c:Int):=⟨by omega,by omega⟩
   have c2:0<=l/\l<=h:=⟨h0,h1⟩
   have c3:0<=h:=by omega
   have c4:max h 0=h:=by omega
   simp [Instr.sliceBounds,Instr.sliceBound,asIntOf,c1,c2,c3,h0,h1,e2,c4]
 rw [run_sliceAt_slice w t _ lo hi none ht',run_slice_any w t A n c ht' lo hi none,hb];simp [sizeOf,typeInfo,he,hi',Result.andThen]
theorem W9 {O:Nat->Prop} {p:Bool} (hp:p=true):∀ {xs:List Operand},a3t p ov xs->(∀ x ∈ xs,Den ν w O (ov x) (a.eval x))->j6 ν w O (a1v ov xs) (xs.map a.eval)
 | [],_,_=>by simp [a1v,j6]
 | x::xs,hr,hO=>⟨a.eval x,xs.map a.eval,rfl,opS hp (hO x (by simp)) hr.1,W9 hp hr.2 fun y hy=>hO y (by simp [hy])⟩
theorem bytes_beq (a b:ByteArray):(a == b)=decide (a=b):=by rw [beq_toListBytes];exact b2c a b
theorem a2b {x:Value} (h:U9 true x=true):∃ s,x=.string s:=by
 unfold U9 at h;split at h
 ·exact ⟨_,rfl⟩
 ·cases h
 ·cases h
theorem a1W {x:Value} (h:U9 false x=true):∃ n,x=.int .i64 n:=by
 unfold U9 at h;split at h
 ·cases h
 ·exact ⟨_,rfl⟩
 ·cases h
theorem findNow_spec {kd:TypeDesc} {str:Bool} (hk:(str=true/\kd=.string) \/ (str=false/\∃ k,kd=.int k)) {key:Value} (h0:U9 str key=true):∀ (es:List MapEntry) (i:Nat),(∀ e ∈ es,U9 str e.key=true) ->
  ∃ r,Instr.findNow kd key es i=some r/\r.map (·.2)=a1T key (es.map fun e=>(e.key,e.val))
 | [],i,_=>⟨none,rfl,rfl⟩
 | e::es,i,h=>by
  have h1:=h e (by simp);obtain ⟨r,h2,h3⟩:=findNow_spec hk h0 es (i+1) (fun e' he=>h e' (by simp [he]));have same:∃ b,Instr.sameNow kd key e.key=some b/\b=a1S key e.key:=by
   rcases hk with ⟨rfl,rfl⟩|⟨rfl,k,rfl⟩
   ·obtain ⟨a,rfl⟩:=a2b h0;obtain ⟨b,hb⟩:=a2b h1;rw [hb];exact ⟨_,rfl,bytes_beq a b⟩
   ·obtain ⟨a,rfl⟩:=a1W h0;obtain ⟨b,hb⟩:=a1W h1;rw [hb];exact ⟨_,rfl,rfl⟩
  obtain ⟨b,hs,hb⟩:=same;cases hkb:b with
  | true=>
   refine ⟨some (i,e.val),?_,?_⟩
   ·simp [Instr.findNow,hs,hkb]
   ·simp [a1T,<- hb,hkb]
  | false=>
   refine ⟨r,?_,?_⟩
   ·simp [Instr.findNow,hs,hkb,h2]
   ·simp [a1T,<- hb,hkb,h3]
theorem a5p {t e:TypeId} {str:Bool} (h:a1O P t=some (str,e)):∃ k kd,P.underlying t=some (.map k e)/\P.underlying k=some kd/\((str=true/\kd=.string) \/ (str=false/\∃ i,kd=.int i)):=by
 unfold a1O at h;split at h
 ·rename_i k e' hu;split at h
  ·rename_i hk;injection h with h;injection h with h1 h2;subst h1 h2;exact ⟨k,_,hu,hk,.inl ⟨rfl,rfl⟩⟩
  ·rename_i i hk;injection h with h;injection h with h1 h2;subst h1 h2;exact ⟨k,_,hu,hk,.inr ⟨rfl,i,rfl⟩⟩
  ·cases h
 ·cases h
theorem run_checkKey {k:TypeId} {kd:TypeDesc} {str:Bool} (hk:P.underlying k=some kd) (hkd:(str=true/\kd=.string) \/ (str=false/\∃ i,kd=.int i)) (em:Bool) (key:Value):(Instr.checkKey em 10000 k key).run P w=.ok () w:=by
 show (Instr.checkKey em (9999+1) k key).run P w=.ok () w;unfold Instr.checkKey;rw [Sem.run_bind,run_underlying hk];rcases hkd with ⟨_,rfl⟩|⟨_,i,rfl⟩<;>rfl
theorem b7F {t e:TypeId} {str ok:Bool} {i:TypeInfo} {z:Value} (hk:a1O P t=some (str,e)) (hi:P.info? e=some i) (hz:i.zero=some z) {b:Nat} {ents:Array MapEntry} {clock:Nat} {key:Value}
  (hb:w.heap[b]?=some (.map ents clock)) (hks:∀ x ∈ ents.toList,U9 str x.key=true) (h0:U9 str key=true) :
  (Instr.lookup t (.map (some b)) key ok).run P w=.ok (match a1T key (ents.toList.map fun e=>(e.key,e.val)),ok with
   | some u,true=>.tuple #[u,.bool true]
   | some u,false=>u
   | none,true=>.tuple #[z,.bool false]
   | none,false=>z) w:=by
 obtain ⟨k,kd,h1,h2,h3⟩:=a5p hk;obtain ⟨r,h4,h5⟩:=findNow_spec h3 h0 ents.toList 0 hks;have hg:(getObj b).run P w=.ok (.map ents clock) w:=by simp [getObj,Sem.run,hb]
 have hf:(Instr.findKey k key ents.toList).run P w=.ok r w:=by
  unfold Instr.findKey;simp [Sem.run_bind,run_underlying h2,h4]
 have hc:=run_checkKey (w:=w) h2 h3 ents.isEmpty key;rw [<- h5];unfold Instr.lookup;simp only [Sem.run_bind,run_underlying h1,Result.andThen_ok,hg,Sem.run_pure,hc,hf];cases r with
 | none=>cases ok<;>simp [zeroValue,typeInfo,hi,hz]
 | some q=>cases ok<;>simp
set_option maxHeartbeats 1000000 in
def b8w:Array Value->Sem Value:=fun args=>do
 let (x,y,b) <- Extern.MathBitsCarry.three "Sub64" args
 pure (Extern.MathBitsCarry.pair ((x+Extern.MathBitsCarry.m64-y-b) % Extern.MathBitsCarry.m64) (if x < y+b then 1 else 0))
theorem b7u {fn:Func} (h:fn.name= "math/bits.Sub64"):Extern.find fn=some b8w:=by
 obtain ⟨name⟩:=fn;simp only at h;subst h
 kernel_rfl
theorem run_sub64 (x y b:Nat) (hb:b<=1) (w:World):(b8w #[.int .u64 x,.int .u64 y,.int .u64 b]).run P w =
  .ok (.tuple #[.int .u64 (((x+18446744073709551616-y-b) % 18446744073709551616:Nat):Int),.int .u64 ((if x < y+b then 1 else 0:Nat):Int)]) w:=by
 have:b=0 \/ b=1:=by omega
 rcases this with rfl|rfl<;>rfl
theorem b6T {f:Nat} (h:a8C P f=true) (x y b:Nat) (hb:b<=1) (w:World):(callFunc f #[.int .u64 x,.int .u64 y,.int .u64 b]).run P w =
  .ok (.value (.tuple #[.int .u64 (((x+18446744073709551616-y-b) % 18446744073709551616:Nat):Int),.int .u64 ((if x < y+b then 1 else 0:Nat):Int)])) w:=by
 unfold a8C at h;split at h
 ·rename_i fn hf;simp only [c8F,c8D] at h;obtain ⟨⟨h1,h2⟩,h3⟩:=h;rw [run_callFunc_extern hf (by rw [h1];rfl) h2 (by simpa using h3) (b7u h1),run_sub64 x y b hb];rfl
 ·cases h
theorem a3V {p:Bool} {o:IOp} {K:C->Prop} {oo:Oper} (his:Is P oo.type oo.op o) (h:G8 ov rs p o K) :
 ∃ s,K s/\∀ ν a w O,HR ν w O rs->(∀ x ∈ o.uses,Den ν w O (ov x) (a.eval x))->p=true->Yl P ν w O a oo s:=by
 obtain ⟨dst,op,ty,pos,after,guard⟩:=oo;simp only at his;cases his with
 | mv x=>exact ⟨_,h.2,fun ν a w O hR hO hp=>⟨_,opS hp (hO _ (by simp [IOp.uses])) h.1,rfl⟩⟩
 | asg x=>exact ⟨_,h.2,fun ν a w O hR hO hp=>⟨_,opS hp (hO _ (by simp [IOp.uses])) h.1,rfl⟩⟩
 | pick c x y=>
  simp only [G8] at h;obtain ⟨h1,h⟩:=h;split at h
  ·rename_i bc hbc;obtain ⟨s,hs,hd⟩:=b4Y h;refine ⟨s,hs,fun ν a w O hR hO hp=>⟨_,(hd ν w _ _ _ hp (hO _ (by simp [IOp.uses])) (hO _ (by simp [IOp.uses]))),?_⟩⟩;have h2:=(opS hp (hO _ (by simp [IOp.uses])) h1)
   rw [hbc] at h2;have h3:=A8 h2;simp [execOp,h3,asBool]
  ·exact h.elim
 | bin b t yt x y=>
  simp only [G8] at h;obtain ⟨h1,h2,h⟩:=h;split at h
  ·rename_i vx vy hx hy;cases hpp:p with
   | false=>
    rw [hpp] at h;have:∃ r,K r:=by
     unfold a9o at h;split at h<;>first|(exact h.elim)|(exact ⟨_,h⟩)|(exact ⟨_,h.2⟩)|(exact ⟨_,h.2.2⟩)
    obtain ⟨r,hr⟩:=this;exact ⟨r,hr,fun ν a w O hR hO hp=>by cases hp⟩
   | true=>
    obtain ⟨r,hr,hrun⟩:=b7W hpp t x y P h;refine ⟨_,hr,fun ν a w O hR hO _=>⟨r,rfl,?_⟩⟩;have e1:=(opS hpp (hO _ (by simp [IOp.uses])) h1)
    have e2:=(opS hpp (hO _ (by simp [IOp.uses])) h2)
    rw [hx] at e1;rw [hy] at e2;have e1:=A8 e1;have e2:=A8 e2;have:=hrun w;simp only [execOp,e1,e2,Sem.run_bind,Sem.run_pure] at this ⊢;rw [this];rfl
  ·exact h.elim
 | beqT t yt x y ht=>
  simp only [G8] at h;obtain ⟨h1,h2,h⟩:=h;split at h
  ·rename_i vx vy hx hy;refine ⟨_,h,fun ν a w O hR hO hp=>⟨(.bool (vx == vy)),rfl,?_⟩⟩;have e1:=(opS hp (hO _ (by simp [IOp.uses])) h1)
   have e2:=(opS hp (hO _ (by simp [IOp.uses])) h2)
   rw [hx] at e1;rw [hy] at e2;have e1:=A8 e1;have e2:=A8 e2;simp [execOp,e1,e2,eqGuard,binOp,run_equal_bool t ht]
  ·exact h.elim
 | beqF t yt x y ht=>
  simp only [G8] at h;obtain ⟨h1,h2,h⟩:=h;split at h
  ·rename_i vx vy hx hy;refine ⟨_,h,fun ν a w O hR hO hp=>⟨(.bool (vx != vy)),rfl,?_⟩⟩;have e1:=(opS hp (hO _ (by simp [IOp.uses])) h1)
   have e2:=(opS hp (hO _ (by simp [IOp.uses])) h2)
   rw [hx] at e1;rw [hy] at e2;have e1:=A8 e1;have e2:=A8 e2;simp [execOp,e1,e2,eqGuard,binOp,run_equal_bool t ht];cases vx<;>cases vy<;>rfl
  ·exact h.elim
 | un u t x=>
  simp only [G8] at h;obtain ⟨h1,h⟩:=h;split at h
  ·rename_i b hb;refine ⟨_,h,fun ν a w O hR hO hp=>⟨_,rfl,?_⟩⟩;have e1:=(opS hp (hO _ (by simp [IOp.uses])) h1)
   rw [hb] at e1;have e1:=A8 e1;simp [execOp,e1,Op.unary]
  ·rename_i k q hb;refine ⟨_,h,fun ν a w O hR hO hp=>⟨_,rfl,?_⟩⟩;have e1:=(opS hp (hO _ (by simp [IOp.uses])) h1)
   rw [hb] at e1;have e1:=A8 e1;simp [execOp,e1,Op.unary,Op.intArith]
  ·exact h.elim
 | conv s d k k' x hs hd=>
  simp only [G8] at h;obtain ⟨h1,h⟩:=h;split at h
  ·rename_i kk q hb;refine ⟨_,h,fun ν a w O hR hO hp=>⟨_,rfl,?_⟩⟩;have e1:=(opS hp (hO _ (by simp [IOp.uses])) h1)
   rw [hb] at e1;have e1:=A8 e1;simp [execOp,e1,convert,run_underlying hs,run_underlying hd,Conv.intToInt]
  ·exact h.elim
 | fld s f fl sz x d hf hd=>
  simp only [G8] at h;obtain ⟨h1,h⟩:=h;split at h
  ·rename_i cs hcs;obtain ⟨fields,i,hu,hfl,hi,hsz⟩:∃ fields i,P.underlying s=some (.struct fields)/\fields[f]?=some fl/\P.info? fl.type=some i/\i.size=sz:=by
    unfold a3B at hf;(repeat' split at hf)<;>simp_all
   cases hA:M4 (some d) with
   | true=>
    simp only [hA,cond_true] at h;refine ⟨_,h,fun ν a w O hR hO hp=>?_⟩;obtain ⟨vs,e1,hD⟩:=a1n ((opS hp (hO _ (by simp [IOp.uses])) h1)) hcs;refine ⟨.agg (((vs.toList.drop fl.offset).take sz)).toArray,⟨_,(hD.drop _).take _,rfl⟩,?_⟩;simp only [execOp,e1,Instr.field,run_underlying hu,Sem.run_bind,Result.andThen_ok,hfl,asAgg,Sem.run_pure,c1d fl.type i d vs fl.offset hi hd hA w,hsz];congr 3;apply Array.ext';simp
   | false=>
    simp only [hA,cond_false] at h;split at h
    ·rename_i r hr;refine ⟨_,h,fun ν a w O hR hO hp=>?_⟩;obtain ⟨vs,e1,hD⟩:=a1n ((opS hp (hO _ (by simp [IOp.uses])) h1)) hcs;obtain ⟨y,hy,hyd⟩:=hD.get hr;refine ⟨y,hyd,?_⟩;have hy':vs[fl.offset]?=some y:=by simpa using hy
     simp only [execOp,e1,Instr.field,run_underlying hu,Sem.run_bind,Result.andThen_ok,hfl,asAgg,Sem.run_pure,c1m fl.type d vs fl.offset y hd hA hy' w]
    ·exact h.elim
  ·exact h.elim
 | ext x i=>
  simp only [G8] at h;obtain ⟨h1,h⟩:=h;split at h
  ·rename_i cs hcs;split at h
   ·rename_i r hr;refine ⟨_,h,fun ν a w O hR hO hp=>?_⟩;have e1:=(opS hp (hO _ (by simp [IOp.uses])) h1)
    rw [hcs] at e1;simp only [Den] at e1;obtain ⟨vs,hD,e1⟩:=e1;obtain ⟨y,hy,hyd⟩:=hD.get hr;refine ⟨y,hyd,?_⟩;simp [execOp,e1,Instr.extract,hy]
   ·exact h.elim
  ·exact h.elim
 | idxs t x i ht=>
  simp only [G8] at h;obtain ⟨h1,h2,h⟩:=h;split at h
  ·rename_i s kk q hx hq;obtain ⟨hb,h⟩:=h;refine ⟨_,h,fun ν a w O hR hO hp=>?_⟩;have e1:=(opS hp (hO _ (by simp [IOp.uses])) h1)
   have e2:=(opS hp (hO _ (by simp [IOp.uses])) h2)
   rw [hx] at e1;rw [hq] at e2;have e1:=A8 e1;have e2:=A8 e2;obtain ⟨hb0,hbn⟩:=hb hp;have hlt:q.toNat < s.size:=by omega
   refine ⟨_,rfl,?_⟩;have hg:s[q.toNat]?=some s[q.toNat]:=by simp [hlt]
   have hd:s.data.toList.getD q.toNat 0=s[q.toNat]:=by
    have hl:q.toNat < s.data.toList.length:=by simpa using hlt
    rw [c8C,c8q hl];rfl
   simp only [execOp,e1,e2,Instr.index,asIntOf,run_underlying ht,Sem.run_bind,Result.andThen_ok,Sem.run_pure,hb0,if_true,hg,hd]
  ·exact h.elim
 | lenS c t x hc hat ha ht=>
  simp only [G8] at h;obtain ⟨h1,h⟩:=h;obtain ⟨cal,⟨args⟩,⟨ats⟩⟩:=c;simp only at hc hat ha;subst hc hat ha;split at h
  ·rename_i s hx;refine ⟨_,h,fun ν a w O hR hO hp=>?_⟩;have e1:=(opS hp (hO _ (by simp [IOp.uses])) h1)
   rw [hx] at e1;have e1:=A8 e1;refine ⟨_,rfl,?_⟩;simp [execOp,resolve,invoke,builtin,Builtin.len_,run_underlying ht,e1,goInt]
  ·exact h.elim
 | slcs t x lo hi ht=>
  simp only [G8] at h;obtain ⟨h1,h⟩:=h;split at h
  ·rename_i s hx;obtain ⟨h2,h3,h⟩:=h;split at h
   ·rename_i k1 l k2 hh hl hhh;obtain ⟨hb,h⟩:=h;refine ⟨_,h,fun ν a w O hR hO hp=>?_⟩;have e1:=(opS hp (hO _ (by simp [IOp.uses])) h1)
    rw [hx] at e1;have e1:=A8 e1;obtain ⟨b0,b1,b2⟩:=hb hp;refine ⟨_,rfl,?_⟩;have elo:(lo.map a.eval=none/\l=0) \/ lo.map a.eval=some (.int k1 l):=by
     cases lo with
     | none=>simp only [z8,strip] at hl;injection hl with hl;injection hl with _ hl;exact .inl ⟨rfl,hl.symm⟩
     | some o=>
      have e2:=opS hp (hO o (by simp [IOp.uses])) h2;simp only [z8] at hl;rw [hl] at e2;exact .inr (by rw [c8s,A8 e2])
    have ehi:(hi.map a.eval=none/\hh=s.size) \/ hi.map a.eval=some (.int k2 hh):=by
     cases hi with
     | none=>simp only [z8,strip] at hhh;injection hhh with hl;injection hl with _ hl;exact .inl ⟨rfl,hl.symm⟩
     | some o=>
      have e2:=opS hp (hO o (by simp [IOp.uses])) h3;simp only [z8] at hhh;rw [hhh] at e2;exact .inr (by rw [c8s,A8 e2])
    have hrun:=b2q (P:=P) w t ht s _ _ l hh k1 k2 elo ehi b0 b1 b2;simp [execOp,e1,hrun]
   ·exact h.elim
  ·exact h.elim
 | max c x y hc ha=>
  simp only [G8] at h;obtain ⟨h1,h2,h⟩:=h;obtain ⟨cal,⟨args⟩,ats⟩:=c;simp only at hc ha;subst hc ha;split at h
  ·rename_i k q k' q' hx hy;refine ⟨_,h,fun ν a w O hR hO hp=>?_⟩;have e1:=(opS hp (hO _ (by simp [IOp.uses])) h1)
   have e2:=(opS hp (hO _ (by simp [IOp.uses])) h2)
   rw [hx] at e1;rw [hy] at e2;have e1:=A8 e1;have e2:=A8 e2;refine ⟨_,rfl,?_⟩;simp [execOp,resolve,invoke,builtin,Builtin.max_,Builtin.max2,e1,e2]
  ·exact h.elim
 | min c x y hc ha=>
  simp only [G8] at h;obtain ⟨h1,h2,h⟩:=h;obtain ⟨cal,⟨args⟩,ats⟩:=c;simp only at hc ha;subst hc ha;split at h
  ·rename_i k q k' q' hx hy;refine ⟨_,h,fun ν a w O hR hO hp=>?_⟩;have e1:=(opS hp (hO _ (by simp [IOp.uses])) h1)
   have e2:=(opS hp (hO _ (by simp [IOp.uses])) h2)
   rw [hx] at e1;rw [hy] at e2;have e1:=A8 e1;have e2:=A8 e2;refine ⟨_,rfl,?_⟩;simp [execOp,resolve,invoke,builtin,Builtin.min_,Builtin.min2,e1,e2]
  ·exact h.elim
 | build t ps fields i z r ht hi hz hall hpo=>
  simp only [G8] at h;obtain ⟨h1,h2,h⟩:=h;refine ⟨_,h,fun ν a w O hR hO hp=>?_⟩;obtain ⟨y,hd,hrun⟩:=b5C (w:=w) (a:=a) ht hi hz hall hpo h1 h2 (by simpa [IOp.uses] using hO) hp;exact ⟨y,hd,by simp [execOp,hrun]⟩
 | load t x i d hi hd=>
  simp only [G8] at h;obtain ⟨h1,h⟩:=h;unfold a9Y at h;split at h
  ·obtain ⟨hf,h⟩:=h;exact ⟨_,h,fun ν a w O hR hO hp=>by rw [hf] at hp;cases hp⟩
  obtain ⟨r,hr,hall⟩:=a9a h;refine ⟨r,hr,fun ν a w O hR hO hp=>?_⟩;obtain ⟨y,hy,hrun⟩:=hall P t i d ν w O _ hi hd rfl rfl hR (opS hp (hO _ (by simp [IOp.uses])) h1);exact ⟨y,hy,by simp [execOp,hrun]⟩
 | nilck x=>
  simp only [G8] at h;obtain ⟨h1,h⟩:=h;have fin:∀ (s:C),strip (ov x)=s->(∀ ν w O y,Den ν w O s y->(∃ ad,y=.pointer (some ad)) \/ ∃ f u c,y=.func (.func f) u c)->∀ ν a w O,HR ν w O rs->(∀ z ∈ (IOp.nilck x).uses,Den ν w O (ov z) (a.eval z))->p=true ->
   Yl P ν w O a { dst,op:=.nilCheck x,type:=ty,pos,after,guard } s:=fun s he hk ν a w O hR hO hp=>by
   have e1:=opS hp (hO x (by simp [IOp.uses])) h1;rw [he] at e1;refine ⟨_,e1,?_⟩;rcases hk ν _ _ _ e1 with ⟨ad,e2⟩|⟨f,u,c,e2⟩<;>simp [execOp,e2]
  split at h
  ·rename_i he;exact ⟨_,h,fin _ he fun ν w O y hy=>by simp only [Den] at hy;obtain ⟨b,_,rfl⟩:=hy;exact .inl ⟨_,rfl⟩⟩
  ·rename_i he;exact ⟨_,h,fin _ he fun ν w O y hy=>by simp only [Den,Fz] at hy;obtain ⟨ad,rfl,_⟩:=hy;exact .inl ⟨_,rfl⟩⟩
  ·rename_i he;exact ⟨_,h,fin _ he fun ν w O y hy=>by simp only [Den] at hy;obtain ⟨b,n,c,_,rfl⟩:=hy;exact .inl ⟨_,rfl⟩⟩
  ·rename_i he;exact ⟨_,h,fin _ he fun ν w O y hy=>by simp only [Den] at hy;exact .inr ⟨_,_,_,hy⟩⟩
  ·rename_i he;exact ⟨_,h,fin _ he fun ν w O y hy=>by simp only [Den] at hy;obtain ⟨vs,_,rfl⟩:=hy;exact .inr ⟨_,_,_,rfl⟩⟩
  ·rename_i he;exact ⟨_,h,fin _ he fun ν w O y hy=>by simp only [Den] at hy;obtain ⟨vs,_,rfl⟩:=hy;exact .inr ⟨_,_,_,rfl⟩⟩
  ·exact h.elim
 | faddr s f fl sz x hf h0=>
  simp only [G8] at h;obtain ⟨h1,h⟩:=h;split at h
  ·rename_i k o he;refine ⟨_,h,fun ν a w O hR hO hp=>?_⟩;have e1:=opS hp (hO x (by simp [IOp.uses])) h1;rw [he] at e1;simp only [Den] at e1;obtain ⟨b,hb,e1⟩:=e1;refine ⟨.pointer (some ⟨b,o+fl.offset,none⟩),⟨b,hb,rfl⟩,?_⟩;have:=a5Y (P:=P) w s f fl sz ⟨b,o,none⟩ hf h0;rw [I7] at this;simp [execOp,e1,this]
  ·rename_i cs he;obtain ⟨hoff,h⟩:=h;refine ⟨_,h,fun ν a w O hR hO hp=>?_⟩;have e1:=opS hp (hO x (by simp [IOp.uses])) h1;rw [he] at e1;simp only [Den,Fz] at e1;obtain ⟨ad,e1,hlt,hno,hA⟩:=e1;refine ⟨.pointer (some (ad.add fl.offset)),?_,?_⟩
   ·simp only [Den,Fz];refine ⟨_,rfl,by rw [add_block];exact hlt,by rw [add_block];exact hno,?_⟩;obtain ⟨vs,k1,k2,k3⟩:=FzA.cells hA;have hvl:=k1.length;refine FzA.of (vs:=vs.drop fl.offset) ?_ (fun u hu=>k2 u (List.mem_of_mem_drop hu)) fun i v hv=>?_
    ·have:∀ (n:Nat) (cs:List C) (vs:List Value),FzL w O cs vs->FzL w O (cs.drop n) (vs.drop n):=by
      intro n
      induction n with
      | zero=>intro cs vs h;simpa using h
      | succ n ih=>
       intro cs vs h;cases cs with
       | nil=>simp only [FzL] at h;subst h;simp [FzL]
       | cons c cs=>simp only [FzL] at h;obtain ⟨y,ys,rfl,_,h2⟩:=h;simpa using ih cs ys h2
     exact this _ _ _ k1
    ·rw [c9e] at hv;have:=k3 _ _ hv;rw [add_add'];rw [<- this];congr 2;omega
   ·have:=a5Y (P:=P) w s f fl sz ad hf h0;simp [execOp,e1,this]
  ·rename_i k z i o he;refine ⟨_,h,fun ν a w O hR hO hp=>?_⟩;have e1:=opS hp (hO x (by simp [IOp.uses])) h1;rw [he] at e1;simp only [Den] at e1;obtain ⟨b,n,c,hb,e1⟩:=e1;refine ⟨.pointer (some ⟨b,i*z+(o+fl.offset),none⟩),⟨b,n,c,hb,rfl⟩,?_⟩;have:=a5Y (P:=P) w s f fl sz ⟨b,i*z+o,none⟩ hf h0;rw [I7,Nat.add_assoc] at this;simp [execOp,e1,this]
  ·exact h.elim
 | iaddr t e ie x i ht hi=>
  simp only [G8] at h;obtain ⟨h1,h2,h⟩:=h;split at h
  ·rename_i z es kk q hx hq;obtain ⟨hsz,hb,h⟩:=h;subst hsz;split at h
   ·rename_i el hel;refine ⟨_,h,fun ν a w O hR hO hp=>?_⟩;have e1:=opS hp (hO x (by simp [IOp.uses])) h1;have e2:=opS hp (hO i (by simp [IOp.uses])) h2;rw [hx] at e1;rw [hq] at e2;have e2:=A8 e2;simp only [Den,Fz] at e1;obtain ⟨A,c,e1,hnc,hcm,hA⟩:=e1;obtain ⟨hb0,hbn⟩:=hb hp;obtain ⟨ad,rfl,hlt,hno,hE⟩:=hA (by omega);obtain ⟨hlen,hEl⟩:=FzE.get hE hel;refine ⟨.pointer (some (ad.add (q.toNat*ie.size))),?_,?_⟩
    ·simp only [Den,Fz];refine ⟨_,rfl,by rw [add_block];exact hlt,by rw [add_block];exact hno,?_⟩;refine FzA.shift (i:=q.toNat*ie.size) (j:=0) ?_;simpa using hEl
    ·simp [execOp,e1,e2,Instr.indexAt,asIntOf,run_underlying ht,hb0,hbn,sizeOf,typeInfo,hi]
   ·obtain ⟨hpf,h⟩:=h;exact ⟨_,h,fun ν a w O hR hO hp=>by rw [hpf] at hp;cases hp⟩
  ·rename_i k kk q hx hq;split at h
   ·rename_i te z es hk;obtain ⟨hsz,hb,h⟩:=h;refine ⟨_,h,fun ν a w O hR hO hp=>?_⟩;have e1:=opS hp (hO x (by simp [IOp.uses])) h1;have e2:=opS hp (hO i (by simp [IOp.uses])) h2;rw [hx] at e1;rw [hq] at e2;have e2:=A8 e2;simp only [Den] at e1;obtain ⟨hb0,hbn⟩:=hb hp;obtain ⟨xk,hxk,hl,vs,hD,_,hown⟩:=hR k _ hk;rw [hxk] at e1;obtain ⟨e1,_⟩:=e1;injection e1 with e1;rcases hown.2 with ⟨hn0,_⟩|⟨g,cap,cur,hv,_⟩
    ·omega
    ·rw [hv] at e1 hxk;have e1:=e1.symm;refine ⟨.pointer (some ⟨g,q.toNat*ie.size,none⟩),⟨g,es.length,cap,hxk,rfl⟩,?_⟩;have:=I7 g 0 (q.toNat*ie.size);rw [c8Z] at this;simp [execOp,e1,e2,Instr.indexAt,asIntOf,run_underlying ht,hb0,hbn,sizeOf,typeInfo,hi,this]
   ·exact h.elim
  ·rename_i k z lo n kk q hx hq;obtain ⟨hz,h⟩:=h;subst hz;split at h
   ·rename_i te z' es hk;obtain ⟨hz',hb,h⟩:=h;refine ⟨_,h,fun ν a w O hR hO hp=>?_⟩;have e1:=opS hp (hO x (by simp [IOp.uses])) h1;have e2:=opS hp (hO i (by simp [IOp.uses])) h2;rw [hx] at e1;rw [hq] at e2;have e2:=A8 e2;simp only [Den] at e1;obtain ⟨A,c,e1,hnc,hcm,hA⟩:=e1;obtain ⟨⟨hb0,hbn⟩,hlo⟩:=hb hp;obtain ⟨xv,b,hxv,hhead,hAe,_⟩:=hA (by omega);obtain ⟨xk,hxk,hl,vs,hD,_,hown⟩:=hR k _ hk;rw [hxv] at hxk;injection hxk with hxk;subst hxk;rcases hown.2 with ⟨hn0,_⟩|⟨g,cap,cur,hv,_⟩
    ·omega
    ·subst hv;simp only [a4d,Option.some.injEq] at hhead;subst hhead;refine ⟨.pointer (some ⟨g,(lo+q.toNat)*ie.size,none⟩),⟨g,es.length,cap,hxv,rfl⟩,?_⟩;have:=I7 g (lo*ie.size) (q.toNat*ie.size);rw [<- Nat.add_mul] at this;simp [execOp,e1,hAe,e2,Instr.indexAt,asIntOf,run_underlying ht,hb0,hbn,sizeOf,typeInfo,hi,this]
   ·rename_i te cs hk;obtain ⟨hb,h⟩:=h;refine ⟨_,h,fun ν a w O hR hO hp=>?_⟩;have e1:=opS hp (hO x (by simp [IOp.uses])) h1;have e2:=opS hp (hO i (by simp [IOp.uses])) h2;rw [hx] at e1;rw [hq] at e2;have e2:=A8 e2;simp only [Den] at e1;obtain ⟨A,c,e1,hnc,hcm,hA⟩:=e1;obtain ⟨hb0,hbn⟩:=hb hp;obtain ⟨xv,b,hxv,hhead,hAe,_⟩:=hA (by omega);obtain ⟨xk,hxk,b',vs,hv,_⟩:=hR k _ hk;rw [hxv] at hxk;injection hxk with hxk;subst hxk;subst hv;simp only [a4d,Option.some.injEq] at hhead;subst hhead;refine ⟨.pointer (some ⟨b',lo*ie.size+q.toNat*ie.size,none⟩),⟨b',hxv,rfl⟩,?_⟩;have:=I7 b' (lo*ie.size) (q.toNat*ie.size)
    simp [execOp,e1,hAe,e2,Instr.indexAt,asIntOf,run_underlying ht,hb0,hbn,sizeOf,typeInfo,hi,this]
   ·exact h.elim
  ·exact h.elim
 | iaddra t e n ie x i ht hi h0=>
  simp only [G8] at h;obtain ⟨h1,h2,h⟩:=h;split at h
  ·rename_i k o kk q hx hq;obtain ⟨hb,h⟩:=h;refine ⟨_,h,fun ν a w O hR hO hp=>?_⟩;have e1:=opS hp (hO x (by simp [IOp.uses])) h1;have e2:=opS hp (hO i (by simp [IOp.uses])) h2;rw [hx] at e1;rw [hq] at e2;have e2:=A8 e2;simp only [Den] at e1;obtain ⟨hb0,hbn⟩:=hb hp;obtain ⟨b,hb',e1⟩:=e1;refine ⟨.pointer (some ⟨b,o+q.toNat*ie.size,none⟩),⟨b,hb',rfl⟩,?_⟩;have:=I7 b o (q.toNat*ie.size);simp [execOp,e1,e2,Instr.indexAt,asIntOf,run_underlying ht,hb0,hbn,sizeOf,typeInfo,hi,this,Instr.sureAddr]
  ·exact h.elim
 | lenL c t e x hc hat ha ht=>
  simp only [G8] at h;obtain ⟨h1,h⟩:=h;obtain ⟨cal,⟨args⟩,⟨ats⟩⟩:=c;simp only at hc hat ha;subst hc hat ha;have fin:∀ (n:Nat) (y:Value) (a:Act) (w:World),a.eval x=y->(∃ A c,y=.slice A n c)->(execOp a.eval { dst,op:=.call ⟨.builtin .len,⟨[x]⟩,⟨[t]⟩⟩,type:=ty,pos,after,guard }).run P w=.ok (.value (.int .i64 n)) w:=by
   rintro n y a w e1 ⟨A,c,rfl⟩;simp [execOp,resolve,invoke,builtin,Builtin.len_,run_underlying ht,e1,goInt]
  split at h
  ·rename_i z es hx;refine ⟨_,h,fun ν a w O hR hO hp=>?_⟩;have e1:=opS hp (hO x (by simp [IOp.uses])) h1;rw [hx] at e1;simp only [Den,Fz] at e1;obtain ⟨A,c,e1,_⟩:=e1;exact ⟨_,rfl,fin _ _ a w e1 ⟨A,c,rfl⟩⟩
  ·rename_i hx;refine ⟨_,h,fun ν a w O hR hO hp=>?_⟩;have e1:=opS hp (hO x (by simp [IOp.uses])) h1;rw [hx] at e1;simp only [Den] at e1;obtain ⟨A,e1⟩:=e1;exact ⟨_,rfl,fin 0 _ a w e1 ⟨A,0,rfl⟩⟩
  ·rename_i k hx;split at h
   ·rename_i te sz es hk;refine ⟨_,h,fun ν a w O hR hO hp=>?_⟩;have e1:=opS hp (hO x (by simp [IOp.uses])) h1;rw [hx] at e1;simp only [Den] at e1;obtain ⟨xk,hxk,_,vs,_,_,hown⟩:=hR k _ hk;rw [hxk] at e1;obtain ⟨e1,_⟩:=e1;injection e1 with e1;refine ⟨_,rfl,fin _ _ a w e1.symm ?_⟩;exact hown.slice
   ·exact h.elim
  ·rename_i hx;refine ⟨_,h,fun ν a w O hR hO hp=>?_⟩;have e1:=opS hp (hO x (by simp [IOp.uses])) h1;rw [hx] at e1;have e1:=A8 e1;exact ⟨_,rfl,fin _ _ a w e1 ⟨_,_,rfl⟩⟩
  ·rename_i k z lo n hx;refine ⟨_,h,fun ν a w O hR hO hp=>?_⟩;have e1:=opS hp (hO x (by simp [IOp.uses])) h1;rw [hx] at e1;simp only [Den] at e1;obtain ⟨A,c,e1,_⟩:=e1;exact ⟨_,rfl,fin _ _ a w e1 ⟨A,c,rfl⟩⟩
  ·exact h.elim
 | toStr s d e x hs he hd=>
  simp only [G8] at h;obtain ⟨h1,h⟩:=h;split at h
  ·rename_i k hx;split at h
   ·rename_i te sz es hk;split at h
    ·rename_i l hl;refine ⟨_,h,fun ν a w O hR hO hp=>?_⟩;have e1:=opS hp (hO x (by simp [IOp.uses])) h1;rw [hx] at e1;simp only [Den] at e1;obtain ⟨xk,hxk,hlen,vs,hD,_,hown⟩:=hR k _ hk;rw [hxk] at e1;obtain ⟨e1,_⟩:=e1;injection e1 with e1;obtain ⟨hone,hbu⟩:=a3U (w:=w) (ν:=ν) (O:=O) hl;obtain ⟨ns,rfl,rfl⟩:=hbu vs (hD.den ν);have hl1:ns.length=es.length:=by have h1:=hD.length;rw [Q5 hone] at h1;simpa using h1
     refine ⟨_,rfl,?_⟩;have hrun:(convert s d xk).run P w=.ok (.string ⟨(ns.map (fun n=>UInt8.ofNat n.toNat)).toArray⟩) w:=by
      rcases hown.2 with ⟨hn,A,hv⟩|⟨g,cap,cur,hv,_⟩
      ·rw [hv];exact a1X s d e hs he hd A 0 0 ns (by omega) (fun h0=>absurd h0 (by omega))
      ·have hown':=hown;rw [hv] at hown';have hc:=hown'.cells;rw [hv];exact a1X s d e hs he hd _ es.length cap ns hl1 (fun _=>⟨_,rfl,fun j u hu=>hc j u hu⟩)
     simp [execOp,<- e1,hrun]
    ·exact h.elim
   ·exact h.elim
  ·rename_i z es hx;split at h
   ·rename_i l hl;refine ⟨_,h,fun ν a w O hR hO hp=>?_⟩;have e1:=opS hp (hO x (by simp [IOp.uses])) h1;rw [hx] at e1;simp only [Den,Fz] at e1;obtain ⟨A,c,e1,hnc,hcm,hA⟩:=e1;obtain ⟨hone,hbu⟩:=a3U (w:=w) (ν:=ν) (O:=O) hl;rcases c8Q es.length with h0|h0
    ·have he:es=[]:=c8V h0;subst he;simp only [a0r,Option.some.injEq] at hl;subst hl;refine ⟨_,rfl,?_⟩;have:=a1X (P:=P) (w:=w) s d e hs he hd A 0 c [] rfl (fun h=>absurd h (by omega));simp only [c8O] at this;simp only [List.length_nil] at e1;simp [execOp,e1,this]
    ·obtain ⟨ad,rfl,hlt,hno,hE⟩:=hA h0;obtain ⟨k0,vs,k1,k2,k3⟩:=FzE.cells hE;obtain ⟨ns,rfl,rfl⟩:=hbu vs (k1.den ν);have hl1:ns.length=es.length:=by have h1:=k1.length;rw [Q5 hone] at h1;simpa using h1
     refine ⟨_,rfl,?_⟩;have:=a1X (P:=P) (w:=w) s d e hs he hd (some ad) es.length c ns hl1 (fun _=>⟨ad,rfl,k3⟩);simp [execOp,e1,this]
   ·exact h.elim
  ·rename_i hx;refine ⟨_,h,fun ν a w O hR hO hp=>?_⟩;have e1:=opS hp (hO x (by simp [IOp.uses])) h1;rw [hx] at e1;simp only [Den] at e1;obtain ⟨A,e1⟩:=e1;refine ⟨_,rfl,?_⟩;have:=a1X (P:=P) (w:=w) s d e hs he hd A 0 0 [] rfl (fun h=>absurd h (by omega));simp only [c8O] at this;simp [execOp,e1,this]
  ·rename_i hx;refine ⟨_,h,fun ν a w O hR hO hp=>?_⟩;have e1:=opS hp (hO x (by simp [IOp.uses])) h1;rw [hx] at e1;have e1:=A8 e1;refine ⟨_,rfl,?_⟩;have:=a1X (P:=P) (w:=w) s d e hs he hd none 0 0 [] rfl (fun h=>absurd h (by omega));simp only [c8O] at this;simp [execOp,e1,this]
  ·rename_i k z lo n hx;obtain ⟨hz,h⟩:=h;subst hz;have fin:∀ (l:List UInt8) (es:List (List C)) (ν:List Value) (a:Act) (w:World) (O:Nat->Prop) (A:Option Addr) (c:Nat) (vs:List Value),a0r es=some l->es.length=n->a.eval x=.slice A n c->j6 ν w O es.flatten vs->(0 < n->∃ ad,A=some ad/\∀ j u,vs[j]?=some u->w.cell? (ad.add j)=some u) ->
    Yl P ν w O a { dst,op:=.convert s d x,type:=ty,pos,after,guard } (.v (.string ⟨l.toArray⟩)):=by
    intro l es ν a w O A c vs hl hen e1 hD hc;obtain ⟨hone,hbu⟩:=a3U (w:=w) (ν:=ν) (O:=O) hl;obtain ⟨ns,rfl,rfl⟩:=hbu vs hD;have hl1:ns.length=es.length:=by have h1:=hD.length;rw [Q5 hone] at h1;simpa using h1
    refine ⟨_,rfl,?_⟩;have:=a1X (P:=P) (w:=w) s d e hs he hd A n c ns (by omega) hc;simp [execOp,e1,this]
   split at h
   ·rename_i te z' es hk;obtain ⟨hz',hlo,h⟩:=h;subst hz';split at h
    ·rename_i l hl;refine ⟨_,h,fun ν a w O hR hO hp=>?_⟩;have hlo:=hlo hp;have e1:=opS hp (hO x (by simp [IOp.uses])) h1;rw [hx] at e1;simp only [Den] at e1;obtain ⟨A,c,e1,hnc,hcm,hA⟩:=e1;obtain ⟨xk,hxk,hlen,vs,hD,_,hown⟩:=hR k _ hk;have hD:=hD.den ν;refine fin l _ ν a w O A c ((vs.drop lo).take n) hl (by rw [c8E,c9g];omega) e1 ?_ fun h0=>?_
     ·rw [a5F fun q hq=>hlen q (List.mem_of_mem_drop hq),b2b hlen,Nat.mul_one,Nat.mul_one];exact hD.sub lo n
     ·obtain ⟨xv,b,hxv,hhead,hAe,_⟩:=hA (by omega);rw [hxv] at hxk;injection hxk with hxk;subst hxk;rcases hown.2 with ⟨hn0,_⟩|⟨g,cap,cur,hv,_⟩
      ·omega
      ·subst hv;simp only [a4d,Option.some.injEq] at hhead;subst hhead;refine ⟨_,hAe,fun j u hu=>?_⟩;rw [List.getElem?_take] at hu;split at hu
       ·rw [c9e] at hu;have:=hown.cells _ _ hu;rw [I7] at this ⊢;rw [<- this];congr 2;omega
       ·cases hu
    ·exact h.elim
   ·rename_i te cs hk;obtain ⟨hlo,h⟩:=h;split at h
    ·rename_i l hl;refine ⟨_,h,fun ν a w O hR hO hp=>?_⟩;have hlo:=hlo hp;have e1:=opS hp (hO x (by simp [IOp.uses])) h1;rw [hx] at e1;simp only [Den] at e1;obtain ⟨A,c,e1,hnc,hcm,hA⟩:=e1;obtain ⟨xk,hxk,b',vs,hv,hD,_,hh⟩:=hR k _ hk;refine fin l _ ν a w O A c ((vs.drop lo).take n) hl (by rw [c8r,c8E,c9g];omega) e1 ?_ fun h0=>?_
     ·have:(((cs.drop lo).take n).map b0J).flatten=(cs.drop lo).take n:=b2d _;rw [this];exact hD.sub lo n
     ·obtain ⟨xv,b,hxv,hhead,hAe,_⟩:=hA (by omega);rw [hxv] at hxk;injection hxk with hxk;subst hxk;subst hv;simp only [a4d,Option.some.injEq] at hhead;subst hhead;refine ⟨_,hAe,fun j u hu=>?_⟩;rw [List.getElem?_take] at hu;split at hu
      ·rw [c9e] at hu;rw [I7,Nat.mul_one,cell_of_row _ b' (lo+j) _ _ _ hh];simpa using hu
      ·cases hu
    ·exact h.elim
   ·exact h.elim
  ·exact h.elim
 | slcl t e ie x lo hi ht hi'=>
  simp only [G8] at h;obtain ⟨h1,h⟩:=h;split at h
  ·rename_i z es hx;obtain ⟨hsz,h2,h3,h⟩:=h;subst hsz;split at h
   ·rename_i k1 l k2 hh hl hhh;obtain ⟨hb,h⟩:=h;refine ⟨_,h,fun ν a w O hR hO hp=>?_⟩;obtain ⟨b0,b1,b2⟩:=hb hp;have e1:=opS hp (hO x (by simp [IOp.uses])) h1;rw [hx] at e1;simp only [Den,Fz] at e1;obtain ⟨A,c,e1,hnc,hcm,hA⟩:=e1;have elo:(lo.map a.eval=none/\l=0) \/ lo.map a.eval=some (.int k1 l):=by
     cases lo with
     | none=>simp only [z8,strip] at hl;injection hl with hl;injection hl with _ hl;exact .inl ⟨rfl,hl.symm⟩
     | some o=>
      have e2:=opS hp (hO o (by simp [IOp.uses])) h2;simp only [z8] at hl;rw [hl] at e2;exact .inr (by rw [c8s,A8 e2])
    have ehi:(hi.map a.eval=none/\hh=es.length) \/ hi.map a.eval=some (.int k2 hh):=by
     cases hi with
     | none=>simp only [z8,strip] at hhh;injection hhh with hl;injection hl with _ hl;exact .inl ⟨rfl,hl.symm⟩
     | some o=>
      have e2:=opS hp (hO o (by simp [IOp.uses])) h3;simp only [z8] at hhh;rw [hhh] at e2;exact .inr (by rw [c8s,A8 e2])
    have hrun:=a2J (P:=P) w t e ie ht hi' A es.length c (lo.map a.eval) (hi.map a.eval) l hh k1 k2 elo ehi b0 b1 b2 hnc;have hlen:((es.drop l.toNat).take (hh.toNat-l.toNat)).length=hh.toNat-l.toNat:=by
     rw [c8E,c9g];omega
    refine ⟨sliced A l.toNat hh.toNat c ie.size,?_,?_⟩
    ·simp only [Den,Fz];refine ⟨(if c=l.toNat then A else A.map (·.add (l.toNat*ie.size))),c-l.toNat,?_,by rw [hlen];omega,by omega,fun h0=>?_⟩
     ·rw [hlen];rfl
     ·rw [hlen] at h0;have hne:¬ c=l.toNat:=by omega
      have hpos:0 < es.length:=by omega
      obtain ⟨ad,rfl,hlt,hno,hE⟩:=hA hpos;refine ⟨ad.add (l.toNat*ie.size),by rw [if_neg hne];rfl,by rw [add_block];exact hlt,by rw [add_block];exact hno,FzE.of fun k q hq=>?_⟩;rw [List.getElem?_take] at hq;split at hq
      ·rw [c9e] at hq;obtain ⟨g1,g2⟩:=FzE.get hE hq;refine ⟨g1,FzA.shift ?_⟩;have:(0+(l.toNat+k))*ie.size=l.toNat*ie.size+(0+k)*ie.size:=by rw [c8Z,c8Z,Nat.add_mul]
       rw [<- this];exact g2
      ·cases hq
    ·simp only [execOp,e1];cases lo<;>cases hi<;>(simp only [Option.map_none,c8s] at hrun ⊢;simp [hrun])
   ·exact h.elim
  ·rename_i k z lo' n hx;obtain ⟨hsz,h2,h3,h⟩:=h;subst hsz;split at h
   ·rename_i k1 l k2 hh hl hhh;obtain ⟨hb,h⟩:=h;refine ⟨_,h,fun ν a w O hR hO hp=>?_⟩;obtain ⟨b0,b1,b2⟩:=hb hp;have e1:=opS hp (hO x (by simp [IOp.uses])) h1;rw [hx] at e1;simp only [Den] at e1;obtain ⟨A,c,e1,hnc,hcm,hA⟩:=e1;have elo:(lo.map a.eval=none/\l=0) \/ lo.map a.eval=some (.int k1 l):=by
     cases lo with
     | none=>simp only [z8,strip] at hl;injection hl with hl;injection hl with _ hl;exact .inl ⟨rfl,hl.symm⟩
     | some o=>
      have e2:=opS hp (hO o (by simp [IOp.uses])) h2;simp only [z8] at hl;rw [hl] at e2;exact .inr (by rw [c8s,A8 e2])
    have ehi:(hi.map a.eval=none/\hh=n) \/ hi.map a.eval=some (.int k2 hh):=by
     cases hi with
     | none=>simp only [z8,strip] at hhh;injection hhh with hl;injection hl with _ hl;exact .inl ⟨rfl,hl.symm⟩
     | some o=>
      have e2:=opS hp (hO o (by simp [IOp.uses])) h3;simp only [z8] at hhh;rw [hhh] at e2;exact .inr (by rw [c8s,A8 e2])
    have hrun:=a2J (P:=P) w t e ie ht hi' A n c (lo.map a.eval) (hi.map a.eval) l hh k1 k2 elo ehi b0 b1 b2 hnc;refine ⟨sliced A l.toNat hh.toNat c ie.size,?_,?_⟩
    ·simp only [Den];refine ⟨(if c=l.toNat then A else A.map (·.add (l.toNat*ie.size))),c-l.toNat,rfl,by omega,by omega,fun h0=>?_⟩;have hne:¬ c=l.toNat:=by omega
     obtain ⟨xv,b,g1,g2,rfl,g3⟩:=hA (by omega);refine ⟨xv,b,g1,g2,?_,by rw [show lo'+l.toNat+(c-l.toNat)=lo'+c by omega];exact g3⟩;rw [if_neg hne,c8s,I7,<- Nat.add_mul]
    ·simp only [execOp,e1];cases lo<;>cases hi<;>(simp only [Option.map_none,c8s] at hrun ⊢;simp [hrun])
   ·exact h.elim
  ·rename_i k hx;split at h
   ·rename_i te z es hk;obtain ⟨hsz,h2,h3,h⟩:=h;subst hsz;split at h
    ·rename_i k1 l k2 hh hl hhh;obtain ⟨hb,h⟩:=h;refine ⟨_,h,fun ν a w O hR hO hp=>?_⟩;obtain ⟨b0,b1,b2⟩:=hb hp;have e1:=opS hp (hO x (by simp [IOp.uses])) h1;rw [hx] at e1;simp only [Den] at e1;obtain ⟨xk,hxk,hlen,vs,hD,_,hown⟩:=hR k _ hk;obtain ⟨e0,_⟩:=e1;have hxe:=hxk;rw [e0] at hxe;injection hxe with hxe;obtain ⟨A,c,e1,hnc,hcm,hA⟩:∃ A c,a.eval x=.slice A es.length c/\es.length<=c/\c<=maxLen/\(0 < c->∃ g,xk=.slice (some ⟨g,0,none⟩) es.length c/\A=some ⟨g,0,none⟩):=by
      rcases hown.2 with ⟨hn0,A,hv⟩|⟨g,cap,cur,hv,_,_,hnc,hcm,_⟩
      ·exact ⟨A,0,by rw [hxe,hv,hn0],by omega,c8w _,fun h=>by omega⟩
      ·exact ⟨_,cap,by rw [hxe,hv],hnc,hcm,fun _=>⟨g,hv,rfl⟩⟩
     have elo:(lo.map a.eval=none/\l=0) \/ lo.map a.eval=some (.int k1 l):=by
      cases lo with
      | none=>simp only [z8,strip] at hl;injection hl with hl;injection hl with _ hl;exact .inl ⟨rfl,hl.symm⟩
      | some o=>
       have e2:=opS hp (hO o (by simp [IOp.uses])) h2;simp only [z8] at hl;rw [hl] at e2;exact .inr (by rw [c8s,A8 e2])
     have ehi:(hi.map a.eval=none/\hh=es.length) \/ hi.map a.eval=some (.int k2 hh):=by
      cases hi with
      | none=>simp only [z8,strip] at hhh;injection hhh with hl;injection hl with _ hl;exact .inl ⟨rfl,hl.symm⟩
      | some o=>
       have e2:=opS hp (hO o (by simp [IOp.uses])) h3;simp only [z8] at hhh;rw [hhh] at e2;exact .inr (by rw [c8s,A8 e2])
     have hrun:=a2J (P:=P) w t e ie ht hi' A es.length c (lo.map a.eval) (hi.map a.eval) l hh k1 k2 elo ehi b0 b1 b2 hnc;refine ⟨sliced A l.toNat hh.toNat c ie.size,?_,?_⟩
     ·simp only [Den];refine ⟨(if c=l.toNat then A else A.map (·.add (l.toNat*ie.size))),c-l.toNat,rfl,by omega,by omega,fun h0=>?_⟩;have hne:¬ c=l.toNat:=by omega
      obtain ⟨g,hv,rfl⟩:=hA (by omega);refine ⟨xk,g,hxk,by rw [hv];rfl,?_,by rw [hv];show c=_;omega⟩;rw [if_neg hne,c8s,I7,c8Z]
     ·simp only [execOp,e1];cases lo<;>cases hi<;>(simp only [Option.map_none,c8s] at hrun ⊢;simp [hrun])
    ·exact h.elim
   ·exact h.elim
  ·rename_i hx;obtain ⟨h2,h3,h⟩:=h;split at h
   ·rename_i k1 l k2 hh hl hhh;obtain ⟨hb,h⟩:=h;refine ⟨_,h,fun ν a w O hR hO hp=>?_⟩;obtain ⟨rfl,rfl⟩:=hb hp;have e1:=opS hp (hO x (by simp [IOp.uses])) h1;rw [hx] at e1;have e1:=A8 e1;have elo:(lo.map a.eval=none/\(0:Int)=0) \/ lo.map a.eval=some (.int k1 0):=by
     cases lo with
     | none=>exact .inl ⟨rfl,rfl⟩
     | some o=>
      have e2:=opS hp (hO o (by simp [IOp.uses])) h2;simp only [z8] at hl;rw [hl] at e2;exact .inr (by rw [c8s,A8 e2])
    have ehi:(hi.map a.eval=none/\(0:Int)=((0:Nat):Int)) \/ hi.map a.eval=some (.int k2 0):=by
     cases hi with
     | none=>exact .inl ⟨rfl,rfl⟩
     | some o=>
      have e2:=opS hp (hO o (by simp [IOp.uses])) h3;simp only [z8] at hhh;rw [hhh] at e2;exact .inr (by rw [c8s,A8 e2])
    have hrun:=a2J (P:=P) w t e ie ht hi' none 0 0 (lo.map a.eval) (hi.map a.eval) 0 0 k1 k2 elo ehi (by omega) (by omega) (by omega) (c8B _);refine ⟨sliced none (0:Int).toNat (0:Int).toNat 0 ie.size,by simp [Den,sliced],?_⟩;simp only [execOp,e1];cases lo<;>cases hi<;>(simp only [Option.map_none,c8s] at hrun ⊢;simp [hrun])
   ·exact h.elim
  ·exact h.elim
 | sub64 c f x y b hc hcl ha=>
  simp only [G8] at h;obtain ⟨h1,h2,h3,h⟩:=h;obtain ⟨cal,⟨args⟩,ats⟩:=c;simp only at hc ha;subst hc ha;split at h
  ·rename_i va vc vd hx hy hb;obtain ⟨hbd,h⟩:=h;refine ⟨_,h,fun ν a w O hR hO hp=>?_⟩;obtain ⟨b1,⟨b2,b3⟩,b4,b5⟩:=hbd hp;have e1:=opS hp (hO x (by simp [IOp.uses])) h1;have e2:=opS hp (hO y (by simp [IOp.uses])) h2;have e3:=opS hp (hO b (by simp [IOp.uses])) h3;rw [hx] at e1;rw [hy] at e2;rw [hb] at e3;have e1:=A8 e1;have e2:=A8 e2;have e3:=A8 e3;obtain ⟨na,rfl⟩:=Int.eq_ofNat_of_zero_le b1;obtain ⟨nc,rfl⟩:=Int.eq_ofNat_of_zero_le b2;obtain ⟨nd,rfl⟩:=Int.eq_ofNat_of_zero_le b4;have hrun:=b6T hcl na nc nd (by omega) w;have w1:((na:Int)+18446744073709551616-(nc:Int)-(nd:Int)) % 18446744073709551616=(((na+18446744073709551616-nc-nd) % 18446744073709551616:Nat):Int):=by omega
   have w2:(if (na:Int) < (nc:Int)+(nd:Int) then (1:Int) else 0)=((if na < nc+nd then 1 else 0:Nat):Int):=by
    split<;>split<;>omega
   rw [w1,w2];refine ⟨_,⟨_,j6.vs [_,_],rfl⟩,?_⟩;have hex:execOp a.eval { dst,op:=.call { callee:=.value (.func f),args:=⟨[x,y,b]⟩,argTypes:=ats },type:=ty,pos,after,guard }=callFunc f #[a.eval x,a.eval y,a.eval b]:=by
    have:execOp a.eval { dst,op:=.call { callee:=.value (.func f),args:=⟨[x,y,b]⟩,argTypes:=ats },type:=ty,pos,after,guard }=callFunc f (#[]++Array.map a.eval ⟨[x,y,b]⟩++#[]):=rfl;rw [this];simp
   rw [hex,e1,e2,e3];exact hrun
  ·exact h.elim
 | cap c t e x hc hat ha ht=>
  simp only [G8] at h;obtain ⟨h1,h⟩:=h;obtain ⟨cal,⟨args⟩,⟨ats⟩⟩:=c;simp only at hc hat ha;subst hc hat ha;have fin:∀ (y:Value) (a:Act) (w:World),a.eval x=y->(∃ A,y=.slice A 0 0)->(execOp a.eval { dst,op:=.call ⟨.builtin .cap,⟨[x]⟩,⟨[t]⟩⟩,type:=ty,pos,after,guard }).run P w=.ok (.value (.int .i64 0)) w:=by
   rintro y a w e1 ⟨A,rfl⟩;simp [execOp,resolve,invoke,builtin,Builtin.cap_,run_underlying ht,e1,goInt]
  split at h
  ·rename_i hx;refine ⟨_,h,fun ν a w O hR hO hp=>?_⟩;have e1:=opS hp (hO x (by simp [IOp.uses])) h1;rw [hx] at e1;have e1:=A8 e1;exact ⟨_,rfl,fin _ a w e1 ⟨_,rfl⟩⟩
  ·rename_i hx;refine ⟨_,h,fun ν a w O hR hO hp=>?_⟩;have e1:=opS hp (hO x (by simp [IOp.uses])) h1;rw [hx] at e1;simp only [Den] at e1;obtain ⟨A,e1⟩:=e1;exact ⟨_,rfl,fin _ a w e1 ⟨A,rfl⟩⟩
  ·exact h.elim
 | slca t e n ie x ht hi=>
  simp only [G8] at h;obtain ⟨h1,h⟩:=h;split at h
  ·rename_i k hx;obtain ⟨hn,h⟩:=h;refine ⟨_,h,fun ν a w O hR hO hp=>?_⟩;have e1:=opS hp (hO x (by simp [IOp.uses])) h1;rw [hx] at e1;simp only [Den] at e1;obtain ⟨b,hb,e1⟩:=e1;refine ⟨.slice (some ⟨b,0,none⟩) n n,⟨_,n,rfl,c8B _,by unfold maxLen;omega,fun _=>⟨_,b,hb,rfl,by rw [Nat.zero_mul],trivial⟩⟩,?_⟩;have hbd:(Instr.sliceBounds false n n none none none).run P w=.ok (0,n,n) w:=by simp [Instr.sliceBounds]
   have h2:(Instr.sliceAt t (.pointer (some ⟨b,0,none⟩)) none none none).run P w=.ok (.slice (some ⟨b,0,none⟩) n n) w:=by
    unfold Instr.sliceAt;simp only [Sem.run_bind,run_underlying ht,Result.andThen_ok,Instr.sureAddr,Sem.run_pure,hbd,sizeOf,typeInfo,run_program,hi];have:=I7 b 0 (0*ie.size);rw [this];simp
   simp [execOp,e1,h2]
  ·exact h.elim
 | zcap t e x lo hi mx ie ht hi' hb=>
  simp only [G8] at h;obtain ⟨h1,h⟩:=h;obtain ⟨rfl,⟨k1,rfl⟩,⟨k2,rfl⟩⟩:lo=none/\(∃ k,hi=some (.const (.int k 0)))/\∃ k,mx=.const (.int k 0):=by
   unfold a6M at hb;split at hb
   ·rename_i e1 e2 e3;injection e3 with e3;exact ⟨rfl,⟨_,rfl⟩,⟨_,e3⟩⟩
   ·cases hb
  have he:P.elem t=e:=by simp [Program.elem,ht]
  have fin:∀ (y:Value) (a:Act) (w:World),a.eval x=y->(∃ A n c,y=.slice A n c)->∃ A,(execOp a.eval { dst,op:=.slice t x none (some (.const (.int k1 0))) (some (.const (.int k2 0))),type:=ty,pos,after,guard }).run P w=.ok (.value (.slice A 0 0)) w:=by
   rintro y a w e1 ⟨A,n,c,rfl⟩;have ht':P.underlying t=some (.slice (P.elem t)):=by rw [he];exact ht
   refine ⟨A,?_⟩;have hbd:(Instr.sliceBounds true n c none (some (.int k1 0)) (some (.int k2 0))).run P w=.ok (0,0,0) w:=by
    have c1:(0:Int)<=(c:Int):=by omega
    simp [Instr.sliceBounds,Instr.sliceBound,asIntOf]
   have h2:(Instr.sliceAt t (.slice A n c) none (some (.int k1 0)) (some (.int k2 0))).run P w=.ok (.slice A 0 0) w:=by
    unfold Instr.sliceAt;simp only [Sem.run_bind,run_underlying ht,Result.andThen_ok];unfold Instr.slice;simp only [Sem.run_bind,run_underlying ht,Result.andThen_ok,hbd,sizeOf,typeInfo,run_program,hi',Sem.run_pure];simp
   have h3:(execOp a.eval { dst,op:=.slice t x none (some (.const (.int k1 0))) (some (.const (.int k2 0))),type:=ty,pos,after,guard })=(do pure (.value (<- Instr.sliceAt t (a.eval x) none (some (.int k1 0)) (some (.int k2 0))))):=rfl;rw [h3,e1,Sem.run_bind,h2];rfl
  have done:∀ (s:C),strip (ov x)=s->(∀ ν w O y,Den ν w O s y->∃ A n c,y=.slice A n c)->∀ ν a w O,HR ν w O rs->(∀ z ∈ (IOp.zcap x).uses,Den ν w O (ov z) (a.eval z))->p=true ->
   Yl P ν w O a { dst,op:=.slice t x none (some (.const (.int k1 0))) (some (.const (.int k2 0))),type:=ty,pos,after,guard } .nl:=fun s he hk ν a w O hR hO hp=>by
   have e1:=opS hp (hO x (by simp [IOp.uses])) h1;rw [he] at e1;obtain ⟨A,hrun⟩:=fin _ a w rfl (hk _ _ _ _ e1);exact ⟨_,⟨A,rfl⟩,hrun⟩
  split at h
  ·rename_i hx;exact ⟨_,h,done _ hx fun ν w O y hy=>by simp only [Den,Fz] at hy;obtain ⟨A,c,rfl,_⟩:=hy;exact ⟨_,_,_,rfl⟩⟩
  ·rename_i hx;exact ⟨_,h,done _ hx fun ν w O y hy=>by simp only [Den] at hy;exact hy.2⟩
  ·rename_i hx;exact ⟨_,h,done _ hx fun ν w O y hy=>by simp only [Den] at hy;obtain ⟨A,rfl⟩:=hy;exact ⟨_,_,_,rfl⟩⟩
  ·rename_i hx;exact ⟨_,h,done _ hx fun ν w O y hy=>by simp only [Den] at hy;exact ⟨_,_,_,hy⟩⟩
  ·exact h.elim
 | aeqT t yt x y ks hg hl hs=>
  simp only [G8] at h;obtain ⟨h1,h2,h⟩:=h;split at h
  ·rename_i cs ds hx hy;obtain ⟨r,hr,hall⟩:=b1Y h;refine ⟨_,hr,fun ν a w O hR hO hp=>?_⟩;obtain ⟨⟨xs⟩,e1,hD1⟩:=a1n (opS hp (hO x (by simp [IOp.uses])) h1) hx;obtain ⟨⟨ys⟩,e2,hD2⟩:=a1n (opS hp (hO y (by simp [IOp.uses])) h2) hy;have hrun:=b5L (P:=P) (w:=w) hl hs (hall ν w O _ _ hD1 hD2);refine ⟨.bool r,rfl,?_⟩;simp only [execOp,e1,e2,Sem.run_bind,run_eqGuard_agg _ _ _ _ _ _ _ hg,run_eql_struct,hrun,Result.andThen_ok];rfl
  ·exact h.elim
 | aeqF t yt x y ks hg hl hs=>
  simp only [G8] at h;obtain ⟨h1,h2,h⟩:=h;split at h
  ·rename_i cs ds hx hy;obtain ⟨r,hr,hall⟩:=b1Y h;refine ⟨_,hr,fun ν a w O hR hO hp=>?_⟩;obtain ⟨⟨xs⟩,e1,hD1⟩:=a1n (opS hp (hO x (by simp [IOp.uses])) h1) hx;obtain ⟨⟨ys⟩,e2,hD2⟩:=a1n (opS hp (hO y (by simp [IOp.uses])) h2) hy;have hrun:=b5L (P:=P) (w:=w) hl hs (hall ν w O _ _ hD1 hD2);refine ⟨.bool (!r),rfl,?_⟩;simp only [execOp,e1,e2,Sem.run_bind,run_eqGuard_agg _ _ _ _ _ _ _ hg,run_neq_struct,hrun,Result.andThen_ok];rfl
  ·exact h.elim
 | nilIT t yt x hs=>
  obtain ⟨ms,hs⟩:=hs;simp only [G8] at h;obtain ⟨h1,h⟩:=h;have hrun:∀ (a:Act) (w:World) z b,a.eval x=z->a4v z=some b->(execOp a.eval { dst,op:=.binOp .eql t x (.const .nilIface) yt,type:=ty,pos,after,guard }).run P w=.ok (.value (.bool b)) w:=by
   intro a w z b hz hb;have h0:a.eval (.const .nilIface)=.nilIface:=rfl;simp [execOp,hz,h0,a7o (P:=P) hb,b4X hb (a8L (P:=P) (w:=w) hs hb)]
  split at h
  ·rename_i hx;refine ⟨_,h,fun ν a w O hR hO hp=>⟨.bool true,rfl,?_⟩⟩;have e1:=opS hp (hO x (by simp [IOp.uses])) h1;rw [hx] at e1;exact hrun a w _ true (A8 e1) rfl
  ·rename_i q1 q2 hx;refine ⟨_,h,fun ν a w O hR hO hp=>⟨.bool false,rfl,?_⟩⟩;have e1:=opS hp (hO x (by simp [IOp.uses])) h1;rw [hx] at e1;exact hrun a w _ false (A8 e1) rfl
  ·rename_i S hx;obtain ⟨hS,h⟩:=h;refine ⟨_,h,fun ν a w O hR hO hp=>?_⟩;have e1:=opS hp (hO x (by simp [IOp.uses])) h1;rw [hx] at e1;simp only [Den] at e1;obtain ⟨b,hb⟩:=Option.isSome_iff_exists.1 (hS _ e1);exact ⟨.bool b,⟨_,b,e1,hb,rfl⟩,hrun a w _ b rfl hb⟩
  ·exact h.elim
 | nilIF t yt x hs=>
  obtain ⟨ms,hs⟩:=hs;simp only [G8] at h;obtain ⟨h1,h⟩:=h;have hrun:∀ (a:Act) (w:World) z b,a.eval x=z->a4v z=some b->(execOp a.eval { dst,op:=.binOp .neq t x (.const .nilIface) yt,type:=ty,pos,after,guard }).run P w=.ok (.value (.bool (!b))) w:=by
   intro a w z b hz hb;have h0:a.eval (.const .nilIface)=.nilIface:=rfl;simp [execOp,hz,h0,a7o (P:=P) hb,b5e hb (a8L (P:=P) (w:=w) hs hb)]
  split at h
  ·rename_i hx;refine ⟨_,h,fun ν a w O hR hO hp=>⟨.bool false,rfl,?_⟩⟩;have e1:=opS hp (hO x (by simp [IOp.uses])) h1;rw [hx] at e1;exact hrun a w _ true (A8 e1) rfl
  ·rename_i q1 q2 hx;refine ⟨_,h,fun ν a w O hR hO hp=>⟨.bool true,rfl,?_⟩⟩;have e1:=opS hp (hO x (by simp [IOp.uses])) h1;rw [hx] at e1;exact hrun a w _ false (A8 e1) rfl
  ·rename_i S hx;obtain ⟨hS,h⟩:=h;refine ⟨_,h,fun ν a w O hR hO hp=>?_⟩;have e1:=opS hp (hO x (by simp [IOp.uses])) h1;rw [hx] at e1;simp only [Den] at e1;obtain ⟨b,hb⟩:=Option.isSome_iff_exists.1 (hS _ e1);exact ⟨.bool (!b),⟨_,b,e1,hb,rfl⟩,hrun a w _ b rfl hb⟩
  ·exact h.elim
 | nilST t yt x hs=>
  obtain ⟨e,hs⟩:=hs;simp only [G8] at h;obtain ⟨h1,h⟩:=h;have hrun:∀ (a:Act) (w:World) A l c,a.eval x=.slice A l c->(execOp a.eval { dst,op:=.binOp .eql t x (.const (.slice none 0 0)) yt,type:=ty,pos,after,guard }).run P w=.ok (.value (.bool A.isNone)) w:=by
   intro a w A l c hz;have h0:a.eval (.const (.slice none 0 0))=.slice none 0 0:=rfl;simp [execOp,hz,h0,eqGuard,binOp,run_equal_slice_nil w t e A l c hs]
  split at h
  ·rename_i hx;refine ⟨_,h,fun ν a w O hR hO hp=>⟨.bool true,rfl,?_⟩⟩;have e1:=opS hp (hO x (by simp [IOp.uses])) h1;rw [hx] at e1;exact hrun a w _ _ _ (A8 e1)
  ·rename_i hx;refine ⟨_,h,fun ν a w O hR hO hp=>?_⟩;have e1:=opS hp (hO x (by simp [IOp.uses])) h1;rw [hx] at e1;simp only [Den] at e1;obtain ⟨A,e1⟩:=e1;exact ⟨_,⟨_,rfl⟩,hrun a w _ _ _ e1⟩
  ·rename_i es hx;refine ⟨_,h,fun ν a w O hR hO hp=>?_⟩;have e1:=opS hp (hO x (by simp [IOp.uses])) h1;rw [hx] at e1;simp only [Den,Fz] at e1;obtain ⟨A,c,e1,_,_,hA⟩:=e1;refine ⟨_,⟨_,rfl,fun hne=>?_⟩,hrun a w _ _ _ e1⟩;obtain ⟨ad,rfl,_⟩:=hA (List.length_pos_iff.2 hne);rfl
  ·exact h.elim
 | nilSF t yt x hs=>
  obtain ⟨e,hs⟩:=hs;simp only [G8] at h;obtain ⟨h1,h⟩:=h;have hrun:∀ (a:Act) (w:World) A l c,a.eval x=.slice A l c->(execOp a.eval { dst,op:=.binOp .neq t x (.const (.slice none 0 0)) yt,type:=ty,pos,after,guard }).run P w=.ok (.value (.bool (!A.isNone))) w:=by
   intro a w A l c hz;have h0:a.eval (.const (.slice none 0 0))=.slice none 0 0:=rfl;simp [execOp,hz,h0,eqGuard,binOp,run_equal_slice_nil w t e A l c hs]
  split at h
  ·rename_i hx;refine ⟨_,h,fun ν a w O hR hO hp=>⟨.bool false,rfl,?_⟩⟩;have e1:=opS hp (hO x (by simp [IOp.uses])) h1;rw [hx] at e1;exact hrun a w _ _ _ (A8 e1)
  ·rename_i hx;refine ⟨_,h,fun ν a w O hR hO hp=>?_⟩;have e1:=opS hp (hO x (by simp [IOp.uses])) h1;rw [hx] at e1;simp only [Den] at e1;obtain ⟨A,e1⟩:=e1;exact ⟨_,⟨_,rfl⟩,hrun a w _ _ _ e1⟩
  ·rename_i es hx;refine ⟨_,h,fun ν a w O hR hO hp=>?_⟩;have e1:=opS hp (hO x (by simp [IOp.uses])) h1;rw [hx] at e1;simp only [Den,Fz] at e1;obtain ⟨A,c,e1,_,_,hA⟩:=e1;refine ⟨_,⟨_,rfl,fun hne=>?_⟩,hrun a w _ _ _ e1⟩;obtain ⟨ad,rfl,_⟩:=hA (List.length_pos_iff.2 hne);rfl
  ·exact h.elim
 | bnd f first caps x hf hf2=>
  simp only [G8] at h;obtain ⟨h1,h⟩:=h;refine ⟨_,h,fun ν a w O hR hO hp=>?_⟩;refine ⟨.func (.func f) #[a.eval x] #[],⟨_,opS hp (hO x (by simp [IOp.uses])) h1,rfl⟩,?_⟩;obtain ⟨caps⟩:=caps;obtain ⟨first⟩:=first
  simp only at hf hf2;subst hf hf2;simp [execOp,Instr.makeFunc]
 | clo f first caps hf=>
  simp only [G8] at h;obtain ⟨h1,h⟩:=h;refine ⟨_,h,fun ν a w O hR hO hp=>?_⟩;have hf0:first=#[]:=Array.eq_empty_of_size_eq_zero hf
  subst hf0;refine ⟨.func (.func f) #[] (caps.toList.map a.eval).toArray,⟨_,W9 hp h1 hO,rfl⟩,?_⟩;obtain ⟨caps⟩:=caps;simp [execOp,Instr.makeFunc]
 | lkp t e str ok m k i z hk hi hz=>
  simp only [G8] at h;obtain ⟨h1,h2,h⟩:=h;split at h
  ·rename_i j key hm hkey;split at h
   ·rename_i s es hj;obtain ⟨hs,hko,h⟩:=h;subst hs;refine ⟨_,h,fun ν a w O hR hO hp=>?_⟩;have e1:=opS hp (hO m (by simp [IOp.uses])) h1;have e2:=opS hp (hO k (by simp [IOp.uses])) h2;rw [hm] at e1;rw [hkey] at e2;have e2:=A8 e2;simp only [Den] at e1;obtain ⟨xk,hxk,b,ents,clock,rfl,hb,rfl,hks⟩:=hR j _ hj;rw [hxk] at e1;obtain ⟨e1,_⟩:=e1;injection e1 with e1;have hrun:=b7F (P:=P) (w:=w) (ok:=ok) hk hi hz hb (fun x hx=>hks _ (List.mem_map.2 ⟨x,hx,rfl⟩)) (hko hp);refine ⟨_,?_,by simp only [execOp,<- e1,e2,Sem.run_bind,hrun];rfl⟩;cases hf:a1T key (ents.toList.map fun e=>(e.key,e.val)) with
    | none=>cases ok<;>simp only [b2R,Den,j6]<;>simp
    | some u=>cases ok<;>simp only [b2R,Den,j6]<;>simp
   ·exact h.elim
  ·exact h.elim
 | _=>exact (h:False).elim
end
mutual
def C.has (k:Nat):C->Bool
 | .rv l=>l == k
 | .rp l _ _ _=>l == k
 | .bp l _=>l == k
 | .mp l=>l == k
 | .wv l _ _ _=>l == k
 | .agg cs=>C.a7u k cs
 | .tup cs=>C.a7u k cs
 | .g _ x=>C.has k x
 | .clo _ cs=>C.a7u k cs
 | .bnd _ x=>C.has k x
 | _=>false
def C.a7u (k:Nat):List C->Bool
 | []=>false
 | c::cs=>C.has k c || C.a7u k cs
end
def C.a2f (c:C):List Nat->Bool
 | []=>false
 | k::pk=>c.has k || C.a2f c pk
def C.y8 (pk:List Nat) (c:C):C:=
 match pk with
 | []=>c
 | _=>bif c.a2f pk then .junk else c
def a0m (pk:List Nat) (fr:List (Nat × C)):List (Nat × C):=
 match pk with
 | []=>fr
 | _=>fr.map fun (t,c)=>(t,c.y8 pk)
def Res.y8 (pk:List Nat):Res->Res
 | .box t cs=>.box t (cs.map (C.y8 pk))
 | r=>r
def a1j (pk:List Nat) (rs:List Res):List Res:=
 match pk with
 | []=>rs
 | _=>rs.map (Res.y8 pk)
theorem a4D (pk:List Nat) (t:Nat):∀ (fr:List (Nat × C)),slot (a0m pk fr) t=(slot fr t).y8 pk:=by
 cases pk with
 | nil=>intro fr;rfl
 | cons k pk=>
  intro fr
  show slot (fr.map _) t=_
  induction fr with
  | nil=>simp only [c8O,slot,C.y8];cases hh:C.junk.a2f (k::pk)<;>rfl
  | cons p fr ih=>
   obtain ⟨n,c⟩:=p;simp only [c8K,slot,ih];cases hb:(n == t)<;>rfl
section
variable {ν ν':List Value} {w:World} {O:Nat->Prop}
mutual
theorem Den.nu {pk:List Nat} (h:Y5 pk ν ν'):∀ {c:C} {y:Value},(∀ k ∈ pk,c.has k=false)->Den ν w O c y->Den ν' w O c y
 | .v _,y,_,hd=>by simpa only [Den] using hd
 | .agg cs,y,hk,hd=>by simp only [Den] at hd ⊢;obtain ⟨vs,h1,h2⟩:=hd;exact ⟨vs,j6.nu h (fun k hk'=>by simpa only [C.has] using hk k hk') h1,h2⟩
 | .tup cs,y,hk,hd=>by simp only [Den] at hd ⊢;obtain ⟨vs,h1,h2⟩:=hd;exact ⟨vs,j6.nu h (fun k hk'=>by simpa only [C.has] using hk k hk') h1,h2⟩
 | .sl _ _,y,_,hd=>by simpa only [Den] using hd
 | .nl,y,_,hd=>by simpa only [Den] using hd
 | .ep _,y,_,hd=>by simpa only [Den] using hd
 | .clo f cs,y,hk,hd=>by simp only [Den] at hd ⊢;obtain ⟨vs,h1,h2⟩:=hd;exact ⟨vs,j6.nu h (fun k hk'=>by simpa only [C.has] using hk k hk') h1,h2⟩
 | .bnd f x,y,hk,hd=>by simp only [Den] at hd ⊢;obtain ⟨v,h1,h2⟩:=hd;exact ⟨v,Den.nu h (fun k hk'=>by simpa only [C.has] using hk k hk') h1,h2⟩
 | .bp l off,y,hk,hd=>by
  simp only [Den] at hd ⊢;obtain ⟨b,h1,h2⟩:=hd;exact ⟨b,h l _ (fun hm=>by have:=hk l hm;simp [C.has] at this) h1,h2⟩
 | .rv l,y,hk,hd=>by
  simp only [Den] at hd ⊢;exact ⟨h l _ (fun hm=>by have:=hk l hm;simp [C.has] at this) hd.1,hd.2⟩
 | .rp l z i off,y,hk,hd=>by
  simp only [Den] at hd ⊢;obtain ⟨b,n,c,h1,h2⟩:=hd;exact ⟨b,n,c,h l _ (fun hm=>by have:=hk l hm;simp [C.has] at this) h1,h2⟩
 | .mp l,y,hk,hd=>by
  simp only [Den] at hd ⊢;exact ⟨h l _ (fun hm=>by have:=hk l hm;simp [C.has] at this) hd.1,hd.2⟩
 | .wv l z lo n,y,hk,hd=>by
  simp only [Den] at hd ⊢;obtain ⟨A,c,h1,h2,h2b,h3⟩:=hd;refine ⟨A,c,h1,h2,h2b,fun h0=>?_⟩;obtain ⟨x,b,g1,g2⟩:=h3 h0;exact ⟨x,b,h l _ (fun hm=>by have:=hk l hm;simp [C.has] at this) g1,g2⟩
 | .g p x,y,hk,hd=>by
  simp only [Den] at hd ⊢;exact ⟨fun hp=>Den.nu h (fun k hk'=>by simpa only [C.has] using hk k hk') (hd.1 hp),hd.2⟩
 | .any _,y,_,hd=>by simpa only [Den] using hd
 | .junk,y,_,_=>by simp only [Den]
theorem j6.nu {pk:List Nat} (h:Y5 pk ν ν'):∀ {cs:List C} {vs:List Value},(∀ k ∈ pk,C.a7u k cs=false)->j6 ν w O cs vs->j6 ν' w O cs vs
 | [],vs,_,hd=>by simpa only [j6] using hd
 | c::cs,vs,hk,hd=>by
  simp only [j6] at hd ⊢;obtain ⟨y,ys,e,h1,h2⟩:=hd;exact ⟨y,ys,e,Den.nu h (fun k hk'=>by have:=hk k hk';simp only [C.a7u,c8S] at this;exact this.1) h1,
   j6.nu h (fun k hk'=>by have:=hk k hk';simp only [C.a7u,c8S] at this;exact this.2) h2⟩
end
theorem a5t {c:C}:∀ {pk:List Nat},c.a2f pk=false->∀ k ∈ pk,c.has k=false
 | [],_,k,hk=>by cases hk
 | l::pk,h,k,hk=>by
  simp only [C.a2f,c8S] at h;cases List.mem_cons.1 hk with
  | inl e=>subst e;exact h.1
  | inr e=>exact a5t h.2 k e
theorem Den.y8 {pk:List Nat} (h:Y5 pk ν ν') {c:C} {y:Value} (hd:Den ν w O c y):Den ν' w O (c.y8 pk) y:=by
 cases pk with
 | nil=>exact Den.nu h (by simp) hd
 | cons k pk=>
  simp only [C.y8];cases hh:c.a2f (k::pk) with
  | true=>simp only [cond_true,Den]
  | false=>exact Den.nu h (a5t hh) hd
theorem j6.y8 {pk:List Nat} (h:Y5 pk ν ν'):∀ {cs:List C} {vs:List Value},j6 ν w O cs vs->j6 ν' w O (cs.map (C.y8 pk)) vs
 | [],vs,hd=>by simpa only [c8O,j6] using hd
 | c::cs,vs,hd=>by
  simp only [c8K,j6] at hd ⊢;obtain ⟨y,ys,e,h1,h2⟩:=hd;exact ⟨y,ys,e,Den.y8 h h1,j6.y8 h h2⟩
end
structure Mv (rs:List Res) (ν:List Value) (w:World) (pk:List Nat) (rs':List Res) (ν':List Value) (w':World):Prop where
 os:w'.os=w.os
 tape:w'.tape=w.tape
 output:w'.output=w.output
 size:w.heap.size<=w'.heap.size
 block:∀ b,b < w.heap.size->¬ owned rs ν b->w'.heap[b]?=w.heap[b]?
 own:∀ b,owned rs' ν' b->owned rs ν b \/ w.heap.size<=b
 nu:Y5 pk ν ν'
section
variable {ν ν':List Value} {w w':World} {rs rs':List Res} {av own0:Nat->Prop} {n0:Nat} {pk:List Nat}
theorem Mv.keeps (h:Mv rs ν w pk rs' ν' w'):Keeps (OO av rs ν) w (OO av rs' ν') w':=by
 intro b hb hO;refine ⟨c8U hb h.size,fun h'=>?_,h.block b hb fun ho=>hO (.inr ho)⟩;rcases h' with h'|h'
 ·exact hO (.inl h')
 ·rcases h.own b h' with h'|h'
  ·exact hO (.inr h')
  ·omega
theorem Mv.of_below (hb:Below w.heap.size w w'):Mv rs ν w [] rs ν w':=⟨hb.os,hb.tape,hb.output,hb.size,fun b h _=>hb.block b h,fun b h=>.inl h,fun _ _ _ h=>h⟩
theorem Mv.trans {ν'':List Value} {rs'':List Res} {w'':World} {pk':List Nat} (h:Mv rs ν w pk rs' ν' w') (h':Mv rs' ν' w' pk' rs'' ν'' w''):Mv rs ν w (pk++pk') rs'' ν'' w'':=by
 refine ⟨h'.os.trans h.os,h'.tape.trans h.tape,h'.output.trans h.output,c8y h.size h'.size,fun b hb hn=>?_,fun b hb=>?_,fun k x hk hx=>?_⟩
 ·rw [h'.block b (c8U hb h.size) (fun ho=>by rcases h.own b ho with h1|h1;exact hn h1;omega)];exact h.block b hb hn
 ·rcases h'.own b hb with h1|h1
  ·exact h.own b h1
  ·exact .inr (c8y h.size h1)
 ·simp only [List.mem_append,not_or] at hk;exact h'.nu k x hk.2 (h.nu k x hk.1 hx)
theorem P5.mv {x:Value} {r:Res} {O O':Nat->Prop} (h:P5 ν w O x r) (hk:Keeps O w O' w') (hn:Y5 pk ν ν') (hb:∀ b,fp r x b->w'.heap[b]?=w.heap[b]?):P5 ν' w' O' x (r.y8 pk):=by
 cases r with
 | gone=>trivial
 | box t cs=>
  obtain ⟨b,vs,rfl,h1,h2,h3⟩:=h;exact ⟨b,vs,rfl,j6.y8 hn (j6.keep hk h1),h2,(hb b rfl).trans h3⟩
 | row e sz es=>
  obtain ⟨h0,vs,h1,h2,h3⟩:=h;refine ⟨h0,vs,FzL.keep hk h1,h2,h3.1,?_⟩;rcases h3.2 with h4|⟨g,cap,cur,rfl,hg,hh,rest⟩
  ·exact .inl h4
  ·exact .inr ⟨g,cap,cur,rfl,hg,(hb g (by simp only [fp,D5];rw [if_neg (by omega)])).trans hh,rest⟩
 | map s es=>
  obtain ⟨b,ents,clock,rfl,h1,h2,h3⟩:=h;exact ⟨b,ents,clock,rfl,(hb b rfl).trans h1,h2,h3⟩
theorem a1s (r:Res) (x:Value) (b:Nat):fp (r.y8 pk) x b=fp r x b:=by cases r<;>rfl
theorem a5L (rs:List Res):rs.map (Res.y8 [])=rs:=by
 have:∀ r:Res,r.y8 []=r:=fun r=>by
  cases r with
  | box t cs=>simp only [Res.y8];congr 1;exact List.map_id' cs
  | _=>rfl
 rw [show (Res.y8 []:Res->Res)=id from funext this];simp
theorem b7Z (pk:List Nat) (rs:List Res):a1j pk rs=rs.map (Res.y8 pk):=by
 cases pk with
 | nil=>exact (a5L rs).symm
 | cons k pk=>rfl
theorem RG.lt (h:RG av own0 n0 ν rs w) {k:Nat} {r:Res} {x:Value} {b:Nat} (hk:rs[k]?=some r) (hx:ν[k]?=some x) (hf:fp r x b):b < w.heap.size:=(h.low b ⟨k,r,x,hk,hx,hf⟩).1
theorem RG.get (h:RG av own0 n0 ν rs w) {k:Nat} {r:Res} {x:Value} (hk:rs[k]?=some r) (hx:ν[k]?=some x):P5 ν w (OO av rs ν) x r:=by
 obtain ⟨x',hx',hr⟩:=h.res k r hk;rw [hx] at hx';injection hx' with hx';subst hx';exact hr
theorem RG.below (h:RG av own0 n0 ν rs w) (hb:Below w.heap.size w w'):RG av own0 n0 ν rs w':=by
 have hk:Keeps (OO av rs ν) w (OO av rs ν) w':=(Mv.of_below (rs:=rs) (ν:=ν) hb).keeps;refine ⟨h.len,fun k r hr=>?_,h.dis,fun b ho=>?_,fun b ha=>c8U (h.av b ha) hb.size,c8y h.n0 hb.size⟩
 ·obtain ⟨x,hx,hok⟩:=h.res k r hr;refine ⟨x,hx,?_⟩;have:=P5.mv (pk:=[]) hok hk (fun _ _ _ h=>h) fun b hf=>hb.block b (h.lt hr hx hf);have e:r.y8 []=r:=by have:=a5L [r];simpa using this
  rwa [e] at this
 ·obtain ⟨h1,h2,h3⟩:=h.low b ho;exact ⟨c8U h1 hb.size,h2,h3⟩
theorem RG.add (h:RG av own0 n0 ν rs w) {x:Value} {r:Res} (hb:Below w.heap.size w w') (hx:∀ b,fp r x b->w.heap.size<=b/\b < w'.heap.size)
  (hr:(Keeps (OO av rs ν) w (OO av (rs++[r]) (ν++[x])) w')->Y5 [] ν (ν++[x])->P5 (ν++[x]) w' (OO av (rs++[r]) (ν++[x])) x r) :
  RG av own0 n0 (ν++[x]) (rs++[r]) w'/\Mv rs ν w [] (rs++[r]) (ν++[x]) w':=by
 have old:∀ {k:Nat} {q:Res},(rs++[r])[k]?=some q->(k < rs.length/\rs[k]?=some q) \/ (k=rs.length/\q=r):=by
  intro k q hk;rcases c8N k rs.length with hlt|hge
  ·rw [c8H hlt] at hk;exact .inl ⟨hlt,hk⟩
  ·rw [c8M hge] at hk;have:k-rs.length=0:=by
    rcases c8Q (k-rs.length) with h0|h0
    ·exact h0
    ·rw [c8W (by simp;omega)] at hk;cases hk
   rw [this] at hk;simp at hk;exact .inr ⟨by omega,hk.symm⟩
 have vold:∀ {k},k < rs.length->(ν++[x])[k]?=ν[k]?:=fun hk=>c8H (by rw [h.len];exact hk);have vnew:(ν++[x])[rs.length]?=some x:=by rw [<- h.len];simp
 have own:∀ b,owned (rs++[r]) (ν++[x]) b->owned rs ν b \/ fp r x b:=by
  rintro b ⟨k,q,y,hk,hy,hf⟩;rcases old hk with ⟨hlt,hk'⟩|⟨rfl,rfl⟩
  ·rw [vold hlt] at hy;exact .inl ⟨k,q,y,hk',hy,hf⟩
  ·rw [vnew] at hy;injection hy with hy;subst hy;exact .inr hf
 have nu:Y5 [] ν (ν++[x]):=fun k y _ hy=>by
  rw [c8H (c8v.1 hy).1];exact hy
 have mv:Mv rs ν w [] (rs++[r]) (ν++[x]) w':=
  ⟨hb.os,hb.tape,hb.output,hb.size,fun b hlt _=>hb.block b hlt,fun b ho=>(own b ho).imp id fun hf=>(hx b hf).1,nu⟩
 refine ⟨⟨by simp [h.len],fun k q hk=>?_,?_,?_,fun b ha=>c8U (h.av b ha) hb.size,c8y h.n0 hb.size⟩,mv⟩
 ·rcases old hk with ⟨hlt,hk'⟩|⟨rfl,rfl⟩
  ·obtain ⟨y,hy,hok⟩:=h.res k q hk';refine ⟨y,by rw [vold hlt];exact hy,?_⟩;have:=P5.mv (pk:=[]) hok mv.keeps nu fun b hf=>hb.block b (h.lt hk' hy hf);have e:q.y8 []=q:=by have:=a5L [q];simpa using this
   rwa [e] at this
  ·exact ⟨x,vnew,hr mv.keeps nu⟩
 ·intro k l q q' y y' b hne hk hl hy hy' hf hf';rcases old hk with ⟨hlt,hk'⟩|⟨rfl,rfl⟩
  ·rw [vold hlt] at hy;rcases old hl with ⟨hlt',hl'⟩|⟨rfl,rfl⟩
   ·rw [vold hlt'] at hy';exact h.dis k l q q' y y' b hne hk' hl' hy hy' hf hf'
   ·rw [vnew] at hy';injection hy' with hy';subst hy';have h1:=h.lt hk' hy hf;have h2:=(hx b hf').1;omega
  ·rw [vnew] at hy;injection hy with hy;subst hy;have h2:=(hx b hf).1;rcases old hl with ⟨hlt',hl'⟩|⟨rfl,rfl⟩
   ·rw [vold hlt'] at hy';have h1:=h.lt hl' hy' hf';omega
   ·exact absurd rfl hne
 ·intro b ho;rcases own b ho with ho|hf
  ·obtain ⟨h1,h2,h3⟩:=h.low b ho;exact ⟨c8U h1 hb.size,h2,h3⟩
  ·obtain ⟨h1,h2⟩:=hx b hf;have h3:=h.n0;exact ⟨h2,fun ha=>by have:=h.av b ha;omega,.inr (by omega)⟩
structure Turned (w w':World) (F:Nat->Prop):Prop where
 os:w'.os=w.os
 tape:w'.tape=w.tape
 output:w'.output=w.output
 size:w.heap.size<=w'.heap.size
 block:∀ b,b < w.heap.size->¬ F b->w'.heap[b]?=w.heap[b]?
theorem RG.b7H (h:RG av own0 n0 ν rs w) {k:Nat} {x x':Value} {r r':Res} (hk:rs[k]?=some r) (hx:ν[k]?=some x) (ht:Turned w w' (fp r x)) (hn:Y5 pk ν (ν.set k x'))
 (hf:∀ b,fp r' x' b->fp r x b \/ (w.heap.size<=b/\b < w'.heap.size))
 (hr:(Keeps (OO av rs ν) w (OO av (a1j pk (rs.set k r')) (ν.set k x')) w')->P5 (ν.set k x') w' (OO av (a1j pk (rs.set k r')) (ν.set k x')) x' (r'.y8 pk)) :
 RG av own0 n0 (ν.set k x') (a1j pk (rs.set k r')) w'/\Mv rs ν w pk (a1j pk (rs.set k r')) (ν.set k x') w':=by
 rw [b7Z] at *;have hkl:k < ν.length:=(c8v.1 hx).1;have hkr:k < rs.length:=(c8v.1 hk).1;have vk:(ν.set k x')[k]?=some x':=by rw [List.getElem?_set];simp [hkl]
 have vl:∀ {l},l ≠ k->(ν.set k x')[l]?=ν[l]?:=fun hne=>List.getElem?_set_ne (Ne.symm hne);have get:∀ {l:Nat} {q:Res},((rs.set k r').map (Res.y8 pk))[l]?=some q->(l=k/\q=r'.y8 pk) \/ (l ≠ k/\∃ q0,rs[l]?=some q0/\q=q0.y8 pk):=by
  intro l q hq;rw [c8x,Option.map_eq_some_iff] at hq;obtain ⟨q0,hq0,rfl⟩:=hq;rw [List.getElem?_set] at hq0;split at hq0
  ·rename_i e
   first
    | (injection hq0 with hq0;subst hq0;exact .inl ⟨e.symm,rfl⟩)
    | (rw [if_pos (by rw [<- e];exact hkr)] at hq0;injection hq0 with hq0;subst hq0;exact .inl ⟨e.symm,rfl⟩)
  ·rename_i e;exact .inr ⟨fun e'=>e e'.symm,q0,hq0,rfl⟩
 have own:∀ b,owned ((rs.set k r').map (Res.y8 pk)) (ν.set k x') b->(∃ l q y,l ≠ k/\rs[l]?=some q/\ν[l]?=some y/\fp q y b) \/ fp r' x' b:=by
  rintro b ⟨l,q,y,hl,hy,hfb⟩;rcases get hl with ⟨rfl,rfl⟩|⟨hne,q0,hq0,rfl⟩
  ·rw [vk] at hy;injection hy with hy;subst hy;rw [a1s] at hfb;exact .inr hfb
  ·rw [vl hne] at hy;rw [a1s] at hfb;exact .inl ⟨l,q0,y,hne,hq0,hy,hfb⟩
 have mv:Mv rs ν w pk ((rs.set k r').map (Res.y8 pk)) (ν.set k x') w':=by
  refine ⟨ht.os,ht.tape,ht.output,ht.size,fun b hb hno=>ht.block b hb fun hfb=>hno ⟨k,r,x,hk,hx,hfb⟩,fun b ho=>?_,hn⟩;rcases own b ho with ⟨l,q,y,_,h1,h2,h3⟩|hfb
  ·exact .inl ⟨l,q,y,h1,h2,h3⟩
  ·rcases hf b hfb with h1|h1
   ·exact .inl ⟨k,r,x,hk,hx,h1⟩
   ·exact .inr h1.1
 refine ⟨⟨by simp [h.len],fun l q hq=>?_,?_,?_,fun b ha=>c8U (h.av b ha) ht.size,c8y h.n0 ht.size⟩,mv⟩
 ·rcases get hq with ⟨rfl,rfl⟩|⟨hne,q0,hq0,rfl⟩
  ·exact ⟨x',vk,hr mv.keeps⟩
  ·obtain ⟨y,hy,hok⟩:=h.res l q0 hq0;exact ⟨y,by rw [vl hne];exact hy,P5.mv hok mv.keeps hn fun b hfb=>ht.block b (h.lt hq0 hy hfb) fun hfb'=>h.dis l k q0 r y x b hne hq0 hk hy hx hfb hfb'⟩
 ·have half:∀ (l:Nat) (q:Res) (y:Value) (b:Nat),l ≠ k->rs[l]?=some q->ν[l]?=some y->fp r' x' b->¬ fp q y b:=by
   intro l q y b hne hq hy hfk hfl;rcases hf b hfk with hfk|hfk
   ·exact h.dis l k q r y x b hne hq hk hy hx hfl hfk
   ·have:=h.lt hq hy hfl;omega
  intro l m q q' y y' b hne hq hm hy hy' hfl hfm;rcases get hq with ⟨rfl,rfl⟩|⟨hlk,q0,hq0,rfl⟩
  ·rw [vk] at hy;injection hy with hy;subst hy
   rw [a1s] at hfl;rcases get hm with ⟨rfl,rfl⟩|⟨hmk,q1,hq1,rfl⟩
   ·exact absurd rfl hne
   ·rw [vl hmk] at hy';rw [a1s] at hfm;exact half m q1 y' b hmk hq1 hy' hfl hfm
  ·rw [vl hlk] at hy;rw [a1s] at hfl;rcases get hm with ⟨rfl,rfl⟩|⟨hmk,q1,hq1,rfl⟩
   ·rw [vk] at hy';injection hy' with hy';subst hy'
    rw [a1s] at hfm;exact half l q0 y b hlk hq0 hy hfm hfl
   ·rw [vl hmk] at hy';rw [a1s] at hfm;exact h.dis l m q0 q1 y y' b hne hq0 hq1 hy hy' hfl hfm
 ·intro b ho;rcases own b ho with ⟨l,q,y,_,h1,h2,h3⟩|hfb
  ·obtain ⟨g1,g2,g3⟩:=h.low b ⟨l,q,y,h1,h2,h3⟩;exact ⟨c8U g1 ht.size,g2,g3⟩
  ·rcases hf b hfb with h1|h1
   ·obtain ⟨g1,g2,g3⟩:=h.low b ⟨k,r,x,hk,hx,h1⟩;exact ⟨c8U g1 ht.size,g2,g3⟩
   ·have h3:=h.n0;exact ⟨h1.2,fun ha=>by have:=h.av b ha;omega,.inr (by omega)⟩
end
section
variable {ν ν':List Value} {w w':World} {rs rs':List Res} {av own0:Nat->Prop} {n0:Nat} {pk:List Nat}
theorem set_self {α:Type} {l:List α} {k:Nat} {x:α} (h:l[k]?=some x):l.set k x=l:=by
 apply List.ext_getElem?;intro j;rw [List.getElem?_set];split
 ·rename_i e;subst e;split
  ·exact h.symm
  ·rename_i hge;rw [c8W (by omega)]
 ·rfl
theorem a3p (r:Res):r.y8 []=r:=by have:=a5L [r];simpa using this
theorem RG.upd (h:RG av own0 n0 ν rs w) {k:Nat} {x:Value} {r r':Res} (hk:rs[k]?=some r) (hx:ν[k]?=some x) (ht:Turned w w' (fp r x)) (hf:∀ b,fp r' x b->fp r x b)
  (hr:(Keeps (OO av rs ν) w (OO av (rs.set k r') ν) w')->P5 ν w' (OO av (rs.set k r') ν) x r') :
  RG av own0 n0 ν (rs.set k r') w'/\Mv rs ν w [] (rs.set k r') ν w':=by
 have:=h.b7H (pk:=[]) (x':=x) (r':=r') hk hx ht (fun l y _ hy=>by rw [set_self hx];exact hy) (fun b hb=>.inl (hf b hb)) (fun hkp=>by
  rw [set_self hx] at hkp ⊢;rw [a3p];exact hr hkp)
 rwa [set_self hx] at this
end
section
variable {E:Ctx} {ν ν':List Value} {sf:Nat->C} {rs rs':List Res} {a:Act} {w w':World} {pk:List Nat}
theorem b1p:∀ {pk:List Nat},a4u E pk->∀ k ∈ pk,k ∈ E.pk0 \/ E.nu0.length<=k
 | [],_,k,hk=>by cases hk
 | q::pk,h,k,hk=>by
  rcases List.mem_cons.1 hk with rfl|hk
  ·exact h.1.imp (fun h=>by simpa using h) id
  ·exact b1p h.2 k hk
theorem Y5.step (h:Y5 E.pk0 E.nu0 ν) (hm:Y5 pk ν ν') (hp:a4u E pk):Y5 E.pk0 E.nu0 ν':=by
 intro k x hk hx;refine hm k x (fun hkp=>?_) (h k x hk hx);rcases b1p hp k hkp with h1|h1
 ·exact hk h1
 ·have:=(c8v.1 hx).1;omega
theorem J6.mv (h:J6 E ν sf rs a w) (hr:RG E.av E.own0 E.w0.heap.size ν' rs' w') (hm:Mv rs ν w pk rs' ν' w') (hp:a4u E pk):J6 E ν' (fun t=>(sf t).y8 pk) rs' a w':=by
 refine ⟨h.dfr,h.size,fun t=>Den.y8 hm.nu (Den.keep hm.keeps (h.fr t)),hr,⟨hm.os.trans h.frm.os,hm.tape.trans h.frm.tape,hm.output.trans h.frm.output,c8y h.frm.size hm.size,fun b hb hn=>?_⟩,h.nu.step hm.nu hp⟩;rw [hm.block b (c8U hb h.frm.size) (fun ho=>by
  rcases (h.rg.low b ho).2.2 with h1|h1
  ·exact hn h1
  ·omega)]
 exact h.frm.block b hb hn
theorem J6.below (h:J6 E ν sf rs a w) (hb:Below w.heap.size w w'):J6 E ν sf rs a w':=h.mv (h.rg.below hb) (Mv.of_below hb) trivial
theorem V5 {a:Act} {N d t:Nat} {y:Value} (hs:a.tmps.size=N) (hlt:d < N):(a.put (some d) y).tmps.getD t undef=if d=t then y else a.tmps.getD t undef:=by
 by_cases e:d=t
 ·subst e;have hl:d < a.tmps.size:=by rw [hs];exact hlt
  simp [Act.put,hl]
 ·simp [Act.put,Array.getElem?_setIfInBounds_ne e,e]
def a0s (sf:Nat->C) (d:Option Nat) (s:C):Nat->C:=fun t=>if d=some t then s else sf t
theorem J6.put (h:J6 E ν sf rs a w) {d:Option Nat} (hd:a1e E.N d=true) {s:C} {y:Value} (hs:Den ν w (OO E.av rs ν) s y):J6 E ν (a0s sf d s) rs (a.put d y) w:=by
 cases d with
 | none=>
  refine ⟨h.dfr,h.size,fun t=>?_,h.rg,h.frm,h.nu⟩;simp only [a0s];rw [if_neg (by intro e;cases e)];exact h.fr t
 | some d=>
  have hlt:d < E.N:=by simpa [a1e] using hd
  refine ⟨h.dfr,by simp [Act.put,h.size],fun t=>?_,h.rg,h.frm,h.nu⟩;rw [V5 h.size hlt];simp only [a0s];by_cases e:d=t
  ·subst e;rw [if_pos rfl,if_pos rfl];exact hs
  ·rw [if_neg (fun q=>e (Option.some.inj q)),if_neg e];exact h.fr t
def Q6 (fr:List (Nat × C)) (d:Option Nat) (s:C):List (Nat × C):=
 match d with
 | some t=>(t,s)::fr
 | none=>fr
theorem V4 (fr:List (Nat × C)) (d:Option Nat) (s:C):slot (Q6 fr d s)=a0s (slot fr) d s:=by
 funext t
 cases d with
 | none=>simp [Q6,a0s]
 | some d=>
  simp only [Q6,slot,a0s,Option.some.injEq];by_cases e:d=t
  ·simp [e]
  ·have:(d == t)=false:=by simpa using e
   simp [this,e]
end
def l7 (E:Ctx) (rs:List Res) (f:Nat) (args:List C) (s:C) (rs':List Res) (pk:List Nat):Prop:=
 ∀ av ν w vs,RG av E.own0 E.w0.heap.size ν rs w->(∀ b,E.av b->av b)->Frm E.own0 E.w0 w->j6 ν w (OO av rs ν) args vs ->
  Calls E.P f vs.toArray w fun e w'=>∃ y ν',e=.returned y/\RG av E.own0 E.w0.heap.size ν' rs' w'/\Mv rs ν w pk rs' ν' w'/\Den ν' w' (OO av rs' ν') s y
def l9 (E:Ctx) (rs:List Res) (f:Nat) (args:List C) (K:C->List Res->List Nat->Prop):Prop:=∃ s rs' pk,K s rs' pk/\l7 E rs f args s rs' pk
def a4F (rs:List Res) (sz:Nat) (c:C) (k:Option Nat) (K:List (List C)->Prop):Prop:=
 match c with
 | .rv l=>some l ≠ k/\match rs[l]? with
  | some (.row _ z es)=>z=sz/\K es
  | _=>False
 | .sl z es=>z=sz/\K es
 | .nl=>K []
 | .v (.slice none 0 0)=>K []
 | _=>False
def Q0 (es:List (List C)):List (Nat × C)->List (List C)
 | []=>es
 | (j,c)::r=>Q0 (es.set j (cellsS c)) r
def P8 (ov:Operand->C):List (Nat × Operand)->List (Nat × C)
 | []=>[]
 | (j,x)::r=>(j,strip (ov x))::P8 ov r
def a2v (n sz:Nat):List (Nat × C)->Prop
 | []=>True
 | (j,c)::r=>a3c c=true/\C.clL (cellsS c)=true/\C.ones (cellsS c)=true/\(cellsS c).length=sz/\j < n/\a2v n sz r
def a9u (p:Bool) (ov:Operand->C):List (Nat × Operand)->Prop
 | []=>True
 | (_,x)::r=>req p (ov x)/\a9u p ov r
def Z8:List Value->Bool
 | []=>true
 | x::r=>x.oneCell' && Z8 r
theorem a0j:∀ {l:List Value},Z8 l=true->∀ u ∈ l,u.oneCell'=true
 | [],_,u,hu=>by cases hu
 | x::l,h,u,hu=>by
  simp only [Z8,c8F] at h;cases List.mem_cons.1 hu with
  | inl e=>subst e;exact h.1
  | inr e=>exact a0j h.2 u e
def evE (E:Ctx) (ov:Operand->C) (rs:List Res) (o:IOp) (K:C->List Res->List Nat->Prop):Prop:=
 match o with
 | .alloc t zero=>Z8 zero=true/\K (.bp rs.length 0) (rs++[.box t (zero.map .v)]) []
 | .box t x=>req true (ov x)/\a3c (strip (ov x))=true/\C.ones (cellsS (strip (ov x)))=true/\K (.bp rs.length 0) (rs++[.box t (cellsS (strip (ov x)))]) []
 | .bsl e sz n zero parts=>Z8 zero=true/\zero.length=sz/\0 < sz/\a9u true ov parts/\a2v n sz (P8 ov parts)/\(n*sz<=16777216/\n<=16777216) /\
  K (.rv rs.length) (rs++[.row e sz (Q0 (List.replicate n (zero.map .v)) (P8 ov parts))]) []
 | .a5w e bytes zero l c=>Z8 zero=true/\0 < zero.length/\req true (ov l)/\req true (ov c)/\match strip (ov l),strip (ov c) with
  | .v (.int .i64 l),.v (.int .i64 c)=>(0<=l/\l<=c/\c<=140737488355328/\c.toNat*bytes<=140737488355328)/\K (.rv rs.length) (rs++[.row e zero.length (List.replicate l.toNat (zero.map .v))]) []
  | _,_=>False
 | .store sz x y=>req true (ov x)/\req true (ov y)/\a3c (strip (ov y))=true/\C.ones (cellsS (strip (ov y)))=true/\(cellsS (strip (ov y))).length=sz/\match strip (ov x) with
  | .bp k off=>match rs[k]? with
   | some (.box t cs)=>off+sz<=cs.length/\K (.v undef) (rs.set k (.box t (cs.take off++cellsS (strip (ov y))++cs.drop (off+sz)))) []
   | _=>False
  | .rp k z i off=>match rs[k]? with
   | some (.row e z' es)=>z=z'/\C.clL (cellsS (strip (ov y)))=true/\match es[i]? with
    | some q=>off+sz<=q.length/\K (.v undef) (rs.set k (.row e z' (es.set i (q.take off++cellsS (strip (ov y))++q.drop (off+sz))))) []
    | none=>False
   | _=>False
  | _=>False
 | .call f args=>a3t true ov args/\l9 E rs f (a1v ov args) K
 | .a0a x args=>req true (ov x)/\a3t true ov args/\match strip (ov x) with
  | .v (.func (.func f) ⟨[]⟩ ⟨caps⟩)=>callable E.P f=true/\l9 E rs f (a1v ov args++caps.map .v) K
  | .clo f caps=>callable E.P f=true/\l9 E rs f (a1v ov args++caps) K
  | .bnd f c=>callable E.P f=true/\l9 E rs f (c::a1v ov args) K
  | _=>False
 | .app e sz bytes s x=>req true (ov s)/\req true (ov x)/\0 < sz/\match strip (ov s) with
  | .rv k=>match rs[k]? with
   | some (.row e' z es)=>e'=e/\z=sz/\a4F rs sz (strip (ov x)) (some k) fun ys=>
    (es.length+ys.length<=140737488355328/\(es.length+ys.length)*bytes<=140737488355328)/\K (.rv k) (a1j [k] (rs.set k (.row e sz (es++ys)))) [k]
   | _=>False
  | .nl=>a4F rs sz (strip (ov x)) none fun ys=>(ys.length<=140737488355328/\ys.length*bytes<=140737488355328)/\K (.rv rs.length) (rs++[.row e sz ys]) []
  | .v (.slice none 0 0)=>a4F rs sz (strip (ov x)) none fun ys=>(ys.length<=140737488355328/\ys.length*bytes<=140737488355328)/\K (.rv rs.length) (rs++[.row e sz ys]) []
  | _=>False
 | .apps e s x=>req true (ov s)/\req true (ov x)/\match strip (ov x) with
  | .v (.string b)=>match strip (ov s) with
   | .rv k=>match rs[k]? with
    | some (.row e' z es)=>e'=e/\z=1/\es.length+b.size<=140737488355328/\K (.rv k) (a1j [k] (rs.set k (.row e 1 (es++b.data.toList.map I6)))) [k]
    | _=>False
   | .v (.slice none 0 0)=>b.size<=140737488355328/\K (.rv rs.length) (rs++[.row e 1 (b.data.toList.map I6)]) []
   | _=>False
  | _=>False
 | .appz e bytes zero s x=>Z8 zero=true/\0 < zero.length/\req true (ov s)/\req true (ov x)/\match strip (ov s),strip (ov x) with
  | .v (.slice none 0 0),.v (.int .i64 n)=>(0 < n/\n<=140737488355328/\n.toNat*bytes<=140737488355328)/\K (.rv rs.length) (rs++[.row e zero.length (List.replicate n.toNat (zero.map .v))]) []
  | _,_=>False
 | .clr zero x=>Z8 zero=true/\req true (ov x)/\match strip (ov x) with
  | .wv k sz lo n=>match rs[k]? with
   | some (.row e z es)=>(z=sz/\zero.length=sz)/\lo+n=es.length/\K (.v (.tuple #[])) (rs.set k (.row e z (es.take lo++List.replicate n (zero.map .v)))) []
   | _=>False
  | _=>False
 | .bytes _ x=>req true (ov x)/\match strip (ov x) with
  | .v (.string b)=>b.size<=140737488355328/\K (.sl 1 (b.data.toList.map I6)) rs []
  | _=>False
 | .a4s _=>K .nl rs []
 | .mkmap str=>K (.mp rs.length) (rs++[.map str []]) []
 | .mupd str m k v=>req true (ov m)/\req true (ov k)/\req true (ov v)/\match strip (ov m),strip (ov k),strip (ov v) with
  | .mp j,.v key,.v u=>match rs[j]? with
   | some (.map s es)=>s=str/\U9 str key=true/\K (.v undef) (rs.set j (.map str (a1Q key u es))) []
   | _=>False
  | _,_,_=>False
 | _=>False
section
variable {E:Ctx} {P:Program} {ν:List Value} {rs:List Res} {a:Act} {w:World} {av own0:Nat->Prop} {n0:Nat} {ov:Operand->C}
def Holds (w:World) (y:Value) (m sz:Nat) (news:List Value):Prop:=
 ∃ A c,y=.slice A m c/\news.length=m*sz/\(0 < m->∃ ad,A=some ad/\∀ j u,news[j]?=some u->w.cell? (ad.add j)=some u)
theorem b0r {P:Program} (w:World) (t ty e:TypeId) (i:TypeInfo) (ht:P.underlying t=some (.slice e)) (hi:P.info? e=some i) (B:Option Addr) (n cap:Nat) (hn:n<=cap) (A:Option Addr) (c:Nat) :
  (Builtin.append_ #[t,t] ty #[.slice B n cap,.slice A 0 c]).run P w=.ok (.slice B n cap) w:=by
 cases B<;>cases A<;>simp [Builtin.append_,run_underlying ht,sizeOf,typeInfo,hi,Builtin.lenOf,Builtin.firstCells,hn,storeCells,loadCells,loadCellsFrom]
theorem a0R {w w':World} {x:Value} {F:Nat->Prop} (hg:w.grownBy w' x.ownBlock) (hF:∀ b,x.ownBlock=some b->F b):Turned w w' F:=
 ⟨hg.os,hg.tape,hg.output,hg.size,fun b hb hn=>hg.block b hb fun e=>hn (hF b e.symm)⟩
theorem a8U {A:Option Addr} {n c b:Nat} (h:D5 (.slice A n c)=some b):(Value.slice A n c).ownBlock=some b:=by
 cases A with
 | none=>cases h
 | some ad=>simp only [D5] at h;split at h;cases h;exact h
theorem a6E {P:Program} (w:World) (t ty e:TypeId) (i:TypeInfo) (z:Value) (ht:P.underlying t=some (.slice e)) (hi:P.info? e=some i) (hz:i.zero=some z)
  (hzs:z.cells.size=i.size) (hsz:0 < i.size)
  (x:Value) (n:Nat) (xs:List Value) (hx:rowAt w e i.size x n xs)
  (y:Value) (m:Nat) (news:List Value) (hr:Holds w y m i.size news) (h1:∀ u ∈ news,u.oneCell'=true)
  (h63:n+m<=140737488355328) (hbytes:(n+m)*i.bytes<=140737488355328) :
  ∃ x' w',(Builtin.append_ #[t,t] ty #[x,y]).run P w=.ok x' w'/\rowAt w' e i.size x' (n+m) (xs++news)/\Turned w w' (fun b=>D5 x=some b) /\
   ∀ b,D5 x'=some b->D5 x=some b \/ (w.heap.size<=b/\b < w'.heap.size):=by
 obtain ⟨A,c,rfl,hl,hr⟩:=hr;rcases c8Q m with hm|hm
 ·subst hm;have hn0:news=[]:=c8V (by simpa using hl);subst hn0;have hcap:∃ B cap,x=.slice B n cap/\n<=cap:=by
   rcases hx.2 with ⟨rfl,B,rfl⟩|⟨g,cap,cur,rfl,_,_,hnc,_⟩
   ·exact ⟨B,0,rfl,c8B _⟩
   ·exact ⟨_,cap,rfl,hnc⟩
  obtain ⟨B,cap,rfl,hnc⟩:=hcap;exact ⟨_,w,b0r w t ty e i ht hi B n cap hnc A c,by simpa using hx,⟨rfl,rfl,rfl,c8B _,fun _ _ _=>rfl⟩,fun b hb=>.inl hb⟩
 ·obtain ⟨ad,rfl,hcells⟩:=hr hm;rcases hx.2 with ⟨rfl,B,rfl⟩|⟨g,cap,cur,rfl,hc0,hg,hnc,hcm,hcs,htake⟩
  ·have hx0:xs=[]:=c8V (by simpa using hx.1);subst hx0;simp only [c8Z,List.nil_append] at h63 hbytes ⊢;have fin:(Builtin.append_ #[t,t] ty #[.slice B 0 0,.slice (some ad) m c]).run P w=.ok (.slice (some ⟨w.heap.size,0,none⟩) m (grownCap w m 0 e)) (w.drew.alloc (.cells (news.toArray++Builtin.zeroCells z.cells (grownCap w m 0 e-m)) e)):=by
    cases B with
    | none=>exact run_append_nil (P:=P) w t ty e i z ht hi hz ad m c news hl hcells hm (by omega) (by omega)
    | some b=>
     have:=run_append_grow (P:=P) w t ty e i z ht hi hz b 0 0 [] (by simp) (by simp) ad m c news hl hcells (by omega) (by omega) (by rw [c8Z,nextslicecap_zero hm];omega);simpa using this
   have hge:=grownCap_ge w m 0 e;have hcm:grownCap w m 0 e<=maxLen:=grownCap_le_maxLen w m 0 e (by simp only [maxLen];omega);refine ⟨_,_,fin,⟨hl,.inr ⟨w.heap.size,_,_,rfl,by omega,heap_alloc_new w.drew _,hge,hcm,?_,?_⟩⟩,⟨rfl,rfl,rfl,by simp,fun b hb _=>heap_alloc_old w.drew _ hb⟩,fun b hb=>?_⟩
   ·simp only [Array.size_append,List.size_toArray,size_zeroCells,hzs,hl,<- Nat.add_mul];congr 1;omega
   ·simp only [Array.toList_append];rw [<- hl];exact List.take_left
   ·simp only [D5] at hb;split at hb
    ·cases hb
    ·injection hb with hb;subst hb;exact .inr ⟨c8B _,by simp⟩
  ·have hown:w.ownsRow 0 e i.size (.slice (some ⟨g,0,none⟩) n cap) n xs:=⟨hx.1,.inr ⟨g,cap,cur,rfl,c8w _,hg,hnc,hcm,hcs,htake⟩⟩
   obtain ⟨v',w',hrun,h2,h3,_,h5⟩:=run_append_own_at (P:=P) w 0 t ty e i z i.size i.bytes ht hi hz rfl rfl hzs hsz _ n xs hown ad m c news hl hcells h1 (by simp only [maxLen];omega) hbytes (c8w _);have hb:D5 (.slice (some ⟨g,0,none⟩) n cap)=some g:=by simp only [D5];rw [if_neg (by omega)]
   refine ⟨v',w',hrun,.of h2,a0R h3 (fun b hb'=>by simp only [Value.ownBlock] at hb';rw [hb];exact hb'),fun b hb'=>?_⟩;obtain ⟨A',c',rfl⟩:=(rowAt.of h2).slice;have:=a8U hb';rcases h5 with h5|h5
   ·rw [this] at h5;left;rw [hb];exact h5.symm
   ·rw [this] at h5;injection h5 with h5;subst h5;refine .inr ⟨c8B _,?_⟩;rcases h2.2 with ⟨hbad,_⟩|⟨g',cap',cur',he,_,hh,_⟩
    ·omega
    ·injection he with he;subst he;simp only [Value.ownBlock] at this;injection this with this;subst this;exact (Array.getElem?_eq_some_iff.1 hh).1
theorem b1j {P:Program} (w:World) (base:Nat) (t u ty e:TypeId) (i:TypeInfo) (ht:P.underlying t=some (.slice e)) (hu:P.underlying u=some .string) (hi:P.info? e=some i) (hz:i.zero=some (.int .u8 0))
  (hsize:i.size=1) (hby:i.bytes=1) (v:Value) (n:Nat) (xs:List Value) (hown:w.ownsRow base e 1 v n xs) (s:ByteArray) (hb:n+s.size<=140737488355328) (hbase:base<=w.heap.size) :
  ∃ v' w',(Builtin.append_ #[t,u] ty #[v,.string s]).run P w=.ok v' w'/\w'.ownsRow base e 1 v' (n+s.size) (xs++Lib.strCells s)/\w.grownBy w' (Value.ownBlock v)/\(Value.ownBlock v'=Value.ownBlock v \/ Value.ownBlock v'=some w.heap.size):=by
 obtain ⟨v',w',hrun,h1,h2,_⟩:=Lib.run_append_own_string w base t u ty e i ht hu hi hz hsize hby v n xs hown s (by simp only [maxLen];omega) hb hbase;refine ⟨v',w',hrun,h1,h2,?_⟩;have same:∀ {v'':Value} {w'':World},(Builtin.append_ #[t,u] ty #[v,.string s]).run P w=.ok v'' w''->v'=v'':=fun h=>by
  rw [hrun] at h;injection h
 rcases hown.2 with ⟨rfl,rfl⟩|⟨g,cap,cur,rfl,hbg,hg,hnc,hcm,hcs,htake⟩
 ·by_cases hm:s.size=0
  ·refine .inl ?_;rcases h1.2 with ⟨rfl,_⟩|⟨g',cap',cur',rfl,_⟩
   ·rfl
   ·have hf:=Lib.run_firstCells_string (P:=P) w 1 s;rw [hm] at hf;have:(Builtin.append_ #[t,u] ty #[.slice none 0 0,.string s]).run P w=.ok (.slice none 0 0) w:=by
     simp [Builtin.append_,run_underlying ht,run_underlying hu,sizeOf,typeInfo,hi,hsize,Builtin.lenOf,hm,hf]
    have:=same this;cases this
  ·have:=same (run_append_nil_string (P:=P) w t u ty e i (.int .u8 0) ht hu hi hz s (by omega) (by omega) (by rw [hby];omega));subst this;exact .inr rfl
 ·by_cases hroom:n+s.size<=cap
  ·have hcs':cur.size=cap:=by simpa using hcs
   have:=same (Lib.run_append_room_string (P:=P) w t u ty e i ht hu hi hsize g n cap cur hg s hroom (by omega));subst this;exact .inl rfl
  ·have holds:∀ j u,xs[j]?=some u->w.cell? ((⟨g,0,none⟩:Addr).add j)=some u:=hown.cells (g:=g) rfl;have:=same (Lib.run_append_grow_string (P:=P) w t u ty e i (.int .u8 0) ht hu hi hz ⟨g,0,none⟩ n cap xs (by rw [hsize];simpa using hown.1) holds s (by omega) (by omega) (by rw [hby];exact growslice_fits (by omega) (by omega)));subst this;exact .inr rfl
theorem c0z {e sz m:Nat} {y:Value} {vs:List Value} (h:rowAt w e sz y m vs):Holds w y m sz vs:=by
 obtain ⟨A,c,rfl⟩:=h.slice;refine ⟨A,c,rfl,h.1,fun h0=>?_⟩;rcases h.2 with ⟨hm,_⟩|⟨g,cap,cur,hx,_⟩
 ·omega
 ·injection hx with h1 h2 h3;subst h1;exact ⟨_,rfl,h.cells⟩
theorem a9d {sz:Nat} {c:C} {k:Option Nat} {K:List (List C)->Prop} (h:a4F rs sz c k K):∃ ys,K ys/\∀ av own0 n0 ν w,RG av own0 n0 ν rs w->∀ y,Den ν w (OO av rs ν) c y ->
  (∀ q ∈ ys,q.length=sz)/\∃ vs,FzL w (OO av rs ν) ys.flatten vs/\(∀ u ∈ vs,u.oneCell'=true)/\Holds w y ys.length sz vs:=by
 have empty:∀ (A:Option Addr) (c':Nat) (w:World) (O:Nat->Prop),(∀ q ∈ ([]:List (List C)),q.length=sz)/\∃ vs,FzL w O ([]:List (List C)).flatten vs/\(∀ u ∈ vs,u.oneCell'=true)/\Holds w (.slice A 0 c') ([]:List (List C)).length sz vs:=
  fun A c' w O=>⟨by simp,[],by simp [FzL],by simp,A,c',rfl,by simp,fun h0=>absurd h0 (by simp)⟩
 unfold a4F at h;split at h
 ·rename_i l;obtain ⟨_,h⟩:=h;split at h
  ·rename_i te z es hl;obtain ⟨rfl,h⟩:=h;refine ⟨_,h,fun av own0 n0 ν w hR y hy=>?_⟩;simp only [Den] at hy;obtain ⟨h0,vs,hD,h1,hown⟩:=hR.get hl hy.1;exact ⟨h0,vs,hD,h1,c0z hown⟩
  ·exact h.elim
 ·rename_i z es;obtain ⟨rfl,h⟩:=h;refine ⟨_,h,fun av own0 n0 ν w hR y hy=>?_⟩;simp only [Den,Fz] at hy;obtain ⟨A,c',rfl,h1,h2,h3⟩:=hy;rcases c8Q es.length with h0|h0
  ·have he:es=[]:=c8V h0;subst he;exact empty A c' w _
  ·obtain ⟨ad,rfl,_,_,hE⟩:=h3 h0;obtain ⟨k0,vs,k1,k2,k3⟩:=FzE.cells hE;exact ⟨k0,vs,k1,k2,some ad,c',rfl,by rw [k1.length,Q5 k0],fun _=>⟨ad,rfl,k3⟩⟩
 ·refine ⟨_,h,fun av own0 n0 ν w hR y hy=>?_⟩;simp only [Den] at hy;obtain ⟨A,rfl⟩:=hy;exact empty A 0 w _
 ·refine ⟨_,h,fun av own0 n0 ν w hR y hy=>?_⟩;simp only [Den] at hy;subst hy;exact empty none 0 w _
 ·exact h.elim
theorem FzL.append {O:Nat->Prop}:∀ {cs ds:List C} {vs us:List Value},FzL w O cs vs->FzL w O ds us->FzL w O (cs++ds) (vs++us)
 | [],ds,vs,us,h,k=>by simp only [FzL] at h;subst h;simpa using k
 | c::cs,ds,vs,us,h,k=>by
  simp only [FzL] at h;obtain ⟨y,ys,rfl,h1,h2⟩:=h;exact ⟨y,ys++us,rfl,h1,FzL.append h2 k⟩
theorem FzL.take {O:Nat->Prop}:∀ {cs:List C} {vs:List Value} (n:Nat),FzL w O cs vs->FzL w O (cs.take n) (vs.take n)
 | [],vs,n,h=>by simp only [FzL] at h;subst h;simp [FzL]
 | c::cs,vs,0,h=>by simp [FzL]
 | c::cs,vs,n+1,h=>by
  simp only [FzL] at h;obtain ⟨y,ys,rfl,h1,h2⟩:=h;exact ⟨y,ys.take n,rfl,h1,FzL.take n h2⟩
theorem FzL.drop {O:Nat->Prop}:∀ {cs:List C} {vs:List Value} (n:Nat),FzL w O cs vs->FzL w O (cs.drop n) (vs.drop n)
 | [],vs,n,h=>by simp only [FzL] at h;subst h;simp [FzL]
 | c::cs,vs,0,h=>by simpa using h
 | c::cs,vs,n+1,h=>by
  simp only [FzL] at h;obtain ⟨y,ys,rfl,h1,h2⟩:=h;simpa using FzL.drop n h2
theorem FzL.vs {O:Nat->Prop}:∀ (xs:List Value),FzL w O (xs.map .v) xs
 | []=>by simp [FzL]
 | x::xs=>⟨x,xs,rfl,by simp [Fz],FzL.vs xs⟩
theorem a4b {α:Type} (l:List α):∀ (n j:Nat),j < n*l.length->(List.replicate n l).flatten[j]?=l[j % l.length]?
 | 0,j,h=>by omega
 | n+1,j,h=>by
  rw [List.replicate_succ,List.flatten_cons,List.getElem?_append];split
  ·rename_i hlt;rw [Nat.mod_eq_of_lt hlt]
  ·rename_i hge;have hpos:0 < l.length:=by
    rcases c8Q l.length with h0|h0
    ·rw [h0] at h;omega
    ·exact h0
   have e1:(n+1)*l.length=n*l.length+l.length:=by rw [Nat.add_mul];omega
   rw [a4b l n (j-l.length) (by omega)];rw [show j % l.length=(j-l.length) % l.length by rw [Nat.mod_eq_sub_mod (by omega)]]
theorem a2n (z:Array Value) (n:Nat) (hz:0 < z.size):((Array.range (n*z.size)).map fun j=>z[j % z.size]!).toList=(List.replicate n z.toList).flatten:=by
 apply List.ext_getElem?;intro j;rcases c8N j (n*z.size) with h|h
 ·rw [a4b z.toList n j (by simpa using h)];have hm:=Nat.mod_lt j hz;simp [h,hm]
 ·rw [c8W (by simpa using h),c8W];rw [Q5 (sz:=z.size) (fun e he=>by rw [c8T he];simp)];simpa using h
theorem a6W {sz:Nat}:∀ (ps:List (Nat × C)) (es:List (List C)) (n:Nat),es.length=n->(∀ e ∈ es,e.length=sz)->a2v n sz ps ->
  splice es.flatten (ps.map fun (j,c)=>(j*sz,sz,c))=(Q0 es ps).flatten/\a1A es.flatten (ps.map fun (j,c)=>(j*sz,sz,c))/\(Q0 es ps).length=n/\(∀ e ∈ Q0 es ps,e.length=sz)
 | [],es,n,hn,hl,_=>⟨rfl,trivial,hn,hl⟩
 | (j,c)::ps,es,n,hn,hl,h=>by
  simp only [a2v] at h;obtain ⟨h1,_,_,h2,h3,h4⟩:=h;have hf:=a9l (c:=cellsS c) hl (show j < es.length by omega);obtain ⟨k1,k2,k3,k4⟩:=a6W (sz:=sz) ps (es.set j (cellsS c)) n (by simpa using hn) (fun e he=>by
   rcases List.mem_or_eq_of_mem_set he with h'|h'
   ·exact hl e h'
   ·rw [h'];exact h2) h4
  have hlen:=Q5 hl;refine ⟨?_,⟨h1,h2,?_,?_⟩,k3,k4⟩
  ·simp only [c8K,splice,Q0];rw [<- hf];exact k1
  ·rw [hlen,hn];have:(j+1)*sz<=n*sz:=c8X _ h3;rw [Nat.add_mul] at this;omega
  ·rw [<- hf];exact k2
theorem a6R {p:Bool}:∀ {r:List (Nat × Operand)},a9u p ov r->(P8 ov r).length=r.length /\
  ∀ (j i:Nat) (x:Operand),r[j]?=some (i,x)->req p (ov x)/\(P8 ov r)[j]?=some (i,strip (ov x))
 | [],_=>by simp [P8]
 | (o,x)::r,h=>by
  simp only [a9u] at h;obtain ⟨h1,h2⟩:=a6R (p:=p) h.2;refine ⟨by simp [P8,h1],fun j i x' hj=>?_⟩;cases j with
  | zero=>simp at hj;obtain ⟨rfl,rfl⟩:=hj;exact ⟨h.1,rfl⟩
  | succ j=>simp at hj;obtain ⟨h3,h4⟩:=h2 j i x' hj;exact ⟨h3,by simpa [P8] using h4⟩
theorem a7J {n sz:Nat}:∀ {ps:List (Nat × C)},a2v n sz ps->∀ (j i:Nat) (c:C),ps[j]?=some (i,c)->a3c c=true
 | [],_,j,i,c,h=>by simp at h
 | (i0,c0)::ps,h,0,i,c,hj=>by simp at hj;obtain ⟨rfl,rfl⟩:=hj;exact h.1
 | (i0,c0)::ps,h,j+1,i,c,hj=>by simp only [a2v] at h;exact a7J h.2.2.2.2.2 j i c (by simpa using hj)
theorem b6D:∀ {cs:List C},C.clL cs=true->∀ c ∈ cs,c.cl=true
 | [],_,c,hc=>by cases hc
 | c0::cs,h,c,hc=>by
  simp only [C.clL,c8F] at h;cases List.mem_cons.1 hc with
  | inl e=>subst e;exact h.1
  | inr e=>exact b6D h.2 c e
theorem b4R:∀ {cs:List C},(∀ c ∈ cs,c.cl=true)->C.clL cs=true
 | [],_=>rfl
 | c0::cs,h=>by simp only [C.clL,c8F];exact ⟨h c0 (by simp),b4R fun c hc=>h c (by simp [hc])⟩
theorem a5Z {n sz:Nat}:∀ {ps:List (Nat × C)} {es:List (List C)},a2v n sz ps->(∀ e ∈ es,C.clL e=true)->∀ e ∈ Q0 es ps,C.clL e=true
 | [],es,_,h,e,he=>h e he
 | (i0,c0)::ps,es,hb,h,e,he=>by
  simp only [a2v] at hb;refine a5Z (es:=es.set i0 (cellsS c0)) hb.2.2.2.2.2 (fun e' he'=>?_) e he;rcases List.mem_or_eq_of_mem_set he' with h'|h'
  ·exact h e' h'
  ·rw [h'];exact hb.2.1
theorem a4t {n sz:Nat}:∀ {ps:List (Nat × C)} {es:List (List C)},a2v n sz ps->(∀ e ∈ es,C.ones e=true)->∀ e ∈ Q0 es ps,C.ones e=true
 | [],es,_,h,e,he=>h e he
 | (i0,c0)::ps,es,hb,h,e,he=>by
  simp only [a2v] at hb;refine a4t (es:=es.set i0 (cellsS c0)) hb.2.2.2.2.2 (fun e' he'=>?_) e he;rcases List.mem_or_eq_of_mem_set he' with h'|h'
  ·exact h e' h'
  ·rw [h'];exact hb.2.2.1
theorem b3i:∀ {cs:List C},C.ones cs=true->∀ c ∈ cs,c.one=true
 | [],_,c,hc=>by cases hc
 | c0::cs,h,c,hc=>by
  simp only [C.ones,c8F] at h;cases List.mem_cons.1 hc with
  | inl e=>subst e;exact h.1
  | inr e=>exact b3i h.2 c e
theorem b1c:∀ {cs:List C},(∀ c ∈ cs,c.one=true)->C.ones cs=true
 | [],_=>rfl
 | c0::cs,h=>by simp only [C.ones,c8F];exact ⟨h c0 (by simp),b1c fun c hc=>h c (by simp [hc])⟩
theorem b6z {es:List (List C)} (h:∀ e ∈ es,C.clL e=true):C.clL es.flatten=true:=b4R fun c hc=>by
 obtain ⟨e,he,hce⟩:=List.mem_flatten.1 hc;exact b6D (h e he) c hce
theorem b1L {es:List (List C)} (h:∀ e ∈ es,C.ones e=true):C.ones es.flatten=true:=b1c fun c hc=>by
 obtain ⟨e,he,hce⟩:=List.mem_flatten.1 hc;exact b3i (h e he) c hce
theorem c3t (l:List Value):C.clL (l.map .v)=true:=b4R fun c hc=>by obtain ⟨x,_,rfl⟩:=List.mem_map.1 hc;rfl
theorem b6L {l:List Value} (h:Z8 l=true):C.ones (l.map .v)=true:=b1c fun c hc=>by obtain ⟨x,hx,rfl⟩:=List.mem_map.1 hc;exact a0j h x hx
end
end Go.Proofs.YtpnbklgbfhgknaaGreatDoor.Eng
