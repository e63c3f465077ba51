/- A part of the proof: lemmas only, with the conditions that each names. -/
import Derived.WalkKit
import Derived.Deep.Quiet
import Derived.Deep.LoopGhost
import Derived.Deep.Slices
import Derived.Laws.StructEq
import Derived.Laws.Cover3
import Derived.Maps.AppendAt
import Derived.Lib.AppendStr
set_option linter.all false
def d0b:=@List.getElem?_eq_getElem
def d0c:=@List.length_append
def d0d:=@List.length_map
def d0e:=@Option.map_some
def d0f:=@Nat.le_trans
def d0g:=@List.mem_of_getElem?
def d0h:=@Int.toNat_natCast
def d0i:=@List.getElem?_eq_some_iff
def d0j:=@List.length_cons
def d0k:=@Nat.zero_le
def d0l:=@List.map_cons
def d0m:=@Nat.le_refl
def d0n:=@Nat.le_of_ble_eq_true
def d0o:=@List.append_assoc
def d0p:=@List.map_nil
def d0q:=@List.getElem?_map
def d0r:=@List.length_take
def d0s:=@Bool.and_eq_true
def d0t:=@decide_eq_true_eq
def d0u:=@List.map_append
def d0v:=@List.getElem?_append_left
def d0w:=@List.take_length
def d0x:=@decide_eq_false_iff_not
def d0y:=@List.take_of_length_le
def d0z:=@List.getElem_mem
def d0A:=@Nat.zero_add
def d0B:=@Nat.lt_or_ge
def d0C:=@List.getD_eq_getElem?_getD
def d0D:=@List.getElem?_append_right
def d0E:=@Nat.lt_of_lt_of_le
def d0F:=@Bool.or_eq_false_iff
def d0G:=@Nat.pow_le_pow_right
def d0H:=@List.eq_of_mem_replicate
def d0I:=@List.eq_nil_of_length_eq_zero
def d0J:=@List.getElem?_eq_none
def d0K:=@Nat.eq_zero_or_pos
def d0L:=@List.length_drop
def d0M:=@Nat.mul_le_mul_right
def d0N:=@Nat.mul_assoc
def d0O:=@Nat.pow_succ
def d0P:=@Bool.false_eq_true
def d0Q:=@List.getElem?_drop
def d0R:=@Bool.or_eq_true
def d0S:=@List.length_set
def d0T:=@List.take_succ_eq_append_getElem
namespace Go.Proofs.YtfkipfnkpeobjaaGreatDoor.Eng
open Go Go.RowKit
inductive LK where
 | i
 | s
 | b
inductive IOp where
 | mv (x:Operand)
 | pick (c a b:Operand)
 | bin (op:BinOp) (x y:Operand)
 | beq (neg:Bool) (x y:Operand)
 | un (op:UnOp) (x:Operand)
 | conv (k:IntKind) (x:Operand)
 | fld (agg:Bool) (off sz:Nat) (x:Operand)
 | ext (x:Operand) (i:Nat)
 | build (zero:List Value) (parts:List (Nat×Nat×Operand))
 | load (agg:Bool) (sz:Nat) (x:Operand)
 | nilck (x:Operand)
 | faddr (off:Nat) (x:Operand)
 | iaddr (sz:Nat) (x i:Operand)
 | idxs (x i:Operand)
 | len (str:Bool) (x:Operand)
 | max (x y:Operand)
 | min (x y:Operand)
 | slcs (x:Operand) (lo hi:Option Operand)
 | slcl (sz:Nat) (x:Operand) (lo hi:Option Operand)
 | toStr (x:Operand)
 | apps (e:TypeId) (s x:Operand)
 | alloc (t:TypeId) (zero:List Value)
 | box (t:TypeId) (x:Operand)
 | store (sz:Nat) (x y:Operand)
 | call (f:Nat) (args:List Operand)
 | Z4 (x:Operand) (args:List Operand)
 | app (e:TypeId) (sz bytes:Nat) (s x:Operand)
 | bsl (e:TypeId) (sz n:Nat) (zero:List Value) (parts:List (Nat×Operand))
 | a6F (e:TypeId) (bytes:Nat) (zero:List Value) (l c:Operand)
 | clo (f:Nat) (caps:List Operand)
 | bnd (f:Nat) (x:Operand)
 | mkmap (str:Bool)
 | lkp (str:Bool) (zero:Value) (ok:Bool) (m k:Operand)
 | mupd (str:Bool) (m k v:Operand)
 | zcap (x:Operand)
 | iaddra (sz n:Nat) (x i:Operand)
 | aeq (neg:Bool) (ks:List LK) (x y:Operand)
 | isnil (ifc neg:Bool) (x:Operand)
 | a5t (e:TypeId)
 | slca (sz n:Nat) (x:Operand)
 | cap (x:Operand)
 | sub64 (x y b:Operand)
 | appz (e:TypeId) (bytes:Nat) (zero:List Value) (s x:Operand)
 | bytes (e:TypeId) (x:Operand)
 | clr (zero:List Value) (x:Operand)
 | mark (x:Operand)
 | raw (o:Op) (t:TypeId)
structure G6 where
 dst:Option Nat
 op:IOp
 guard:Option (Nat×Bool)
inductive DT where
 | q
 | f
 | l
 | m
 | n
 | a
 | e (ad:Option Nat) (sk:Bool)
inductive IC where
 | skip
 | reg (ops:List G6)
 | a1d (tags:List DT) (ops:List G6)
 | seq (a b:IC)
 | cond (c:Operand) (a b:IC)
 | block (id:Nat) (a:IC)
 | loop (a:IC)
 | exit (id:Nat)
 | ret
def O7:Option TypeDesc->Bool
 | some (.struct _)|some (.array _ _)=>true
 | _=>false
def a4y(P:Program)(s:TypeId)(f:Nat):Option (Field×Nat):=
 match P.underlying s with
 | some (.struct fields)=>
  match fields[f]? with
  | some fl=>match P.info? fl.type with
   | some i=>some (fl,i.size)
   | none=>none
  | none=>none
 | _=>none
def partsOf(P:Program)(fields:Array Field):List (Nat×Operand)->Option (List (Nat×Nat×Operand))
 | []=>some []
 | (f,x)::rest=>
  match fields[f]? with
  | some fl=>match P.info? fl.type,partsOf P fields rest with
   | some i,some r=>some ((fl.offset,i.size,x)::r)
   | _,_=>none
  | none=>none
def callable(P:Program)(f:Nat):Bool:=
 match P.funcs[f]? with
 | some fn=>!(fn.name == "runtime.NumGoroutine") && !fn.body.isNone
 | none=>false
def a9Z(P:Program)(f:Nat):Bool:=
 match P.funcs[f]? with
 | some fn=>decide (fn.name= "math/bits.Sub64")&&fn.body.isNone&&(Extern.findNext fn).isNone
 | none=>false
def a8k:Option Operand->Option Operand->Option Operand->Bool
 | none,some (.const (.int _ 0)),some (.const (.int _ 0))=>true
 | _,_,_=>false
def a2o(P:Program)(t:TypeId):Option (Bool×TypeId):=
 match P.underlying t with
 | some (.map k e)=>match P.underlying k with
  | some .string=>some (true,e)
  | some (.int _)=>some (false,e)
  | _=>none
 | _=>none
def a7N(lf:TypeId->Option (List LK))(P:Program):Nat->List Field->Option (List LK)
 | _,[]=>some []
 | off,f::fs=>if f.name == "_" then none else if f.offset=off then match lf f.type,P.info? f.type with
  | some ks,some i=>if i.size=ks.length then match a7N lf P (off+ks.length) fs with
   | some r=>some (ks++r)
   | none=>none
   else none
  | _,_=>none
  else none
def leaves(P:Program):Nat->TypeId->Option (List LK)
 | 0,_=>none
 | d+1,t=>match P.underlying t with
  | some (.int _)=>some [.i]
  | some .string=>some [.s]
  | some .bool=>some [.b]
  | some (.struct fs)=>if P.stoodInHeld t then none else a7N (leaves P d) P 0 fs.toList
  | _=>none
def a7O(P:Program)(neg:Bool)(t:TypeId)(x y:Operand):Option IOp:=
 match P.underlying t,y with
 | some (.struct _),y=>if P.eqGuardType P.depth t then none else match leaves P 20 t with
  | some ks=>some (.aeq neg ks x y)
  | none=>none
 | some (.interface _),.const .nilIface=>some (.isnil true neg x)
 | some (.slice _),.const (.slice none 0 0)=>some (.isnil false neg x)
 | _,_=>none
def a7m(P:Program)(ty:TypeId)(c:Call):Builtin->Option IOp
 | .len=>
  match c.argTypes.toList,c.args.toList with
  | [t],[x]=>match P.underlying t with
   | some .string=>some (.len true x)
   | some (.slice _)=>some (.len false x)
   | _=>some (.raw (.call c) ty)
  | _,_=>some (.raw (.call c) ty)
 | .append=>
  match c.argTypes.toList,c.args.toList with
  | [t,t'],[s,x]=>
   if t=t' then
    match P.underlying t with
    | some (.slice e)=>match P.info? e with
     | some i=>match i.zero with
      | some z=>if z.cells.size=i.size then some (.app e i.size i.bytes s x) else none
      | none=>none
     | none=>none
    | _=>none
   else match P.underlying t,P.underlying t' with
    | some (.slice e),some .string=>match P.info? e with
     | some i=>match i.zero with
      | some (.int .u8 0)=>if i.size=1 then if i.bytes=1 then some (.apps e s x) else none else none
      | _=>none
     | none=>none
    | some (.slice e),some (.int _)=>match P.info? e with
     | some i=>match i.zero with
      | some z=>if z.cells.size=i.size then if 0<i.size then some (.appz e i.bytes z.cells.toList s x) else none else none
      | none=>none
     | none=>none
    | _,_=>some (.raw (.call c) ty)
  | _,_=>none
 | .cap=>
  match c.argTypes.toList,c.args.toList with
  | [t],[x]=>match P.underlying t with
   | some (.slice _)=>some (.cap x)
   | _=>some (.raw (.call c) ty)
  | _,_=>some (.raw (.call c) ty)
 | .max=>
  match c.args.toList with
  | [x,y]=>some (.max x y)
  | _=>some (.raw (.call c) ty)
 | .min=>
  match c.args.toList with
  | [x,y]=>some (.min x y)
  | _=>some (.raw (.call c) ty)
 | .clear=>
  match c.argTypes.toList,c.args.toList with
  | [t],[x]=>match P.underlying t with
   | some (.slice e)=>match P.info? e with
    | some i=>match i.zero with
     | some z=>if z.cells.size=i.size then some (.clr z.cells.toList x) else none
     | none=>none
    | none=>none
   | _=>some (.raw (.call c) ty)
  | _,_=>some (.raw (.call c) ty)
 | _=>some (.raw (.call c) ty)
def b0R(P:Program)(ty:TypeId)(c:Call):Option IOp:=
 match c.callee with
 | .value (.func f)=>if callable P f then some (.call f c.args.toList) else if a9Z P f then match c.args.toList with
  | [x,y,b]=>some (.sub64 x y b)
  | _=>none
  else none
 | .value x=>some (.Z4 x c.args.toList)
 | .builtin b=>a7m P ty c b
 | _=>some (.raw (.call c) ty)
def b6v(P:Program)(ty:TypeId):Op->Option IOp
 | .move x=>some (.mv x)
 | .assign x=>some (.mv x)
 | .pick c a b=>some (.pick c a b)
 | .binOp op t x y yt=>
  match P.underlying t with
  | some (.int _)=>some (.bin op x y)
  | some .string=>some (.bin op x y)
  | some .bool=>match op with
   | .eql=>some (.beq false x y)
   | .neq=>some (.beq true x y)
   | _=>none
  | _=>match op with
   | .eql=>match a7O P false t x y with
    | some o=>some o
    | none=>some (.raw (.binOp .eql t x y yt) ty)
   | .neq=>match a7O P true t x y with
    | some o=>some o
    | none=>some (.raw (.binOp .neq t x y yt) ty)
   | op=>some (.raw (.binOp op t x y yt) ty)
 | .unOp op _ x=>some (.un op x)
 | .convert s d x=>
  match P.underlying s,P.underlying d with
  | some (.int _),some (.int k)=>some (.conv k x)
  | some (.slice e),some .string=>match P.underlying e with
   | some (.int .u8)=>some (.toStr x)
   | _=>some (.raw (.convert s d x) ty)
  | some .string,some (.slice e)=>match P.underlying e with
   | some (.int .u8)=>some (.bytes e x)
   | _=>some (.raw (.convert s d x) ty)
  | some (.slice e),some (.slice _)=>if s=d then match P.underlying e with
   | some (.int .u8)=>some (.mark x)
   | _=>some (.raw (.convert s d x) ty)
   else some (.raw (.convert s d x) ty)
  | _,_=>some (.raw (.convert s d x) ty)
 | .field s x f=>
  match a4y P s f with
  | some (fl,sz)=>match P.underlying fl.type with
   | some d=>some (.fld (O7 (some d)) fl.offset sz x)
   | none=>none
  | none=>none
 | .extract x i=>some (.ext x i)
 | .build t ps=>
  match P.underlying t,P.info? t with
  | some (.struct fields),some i=>
   if fields.toList.all λf=>(P.info? f.type).isSome then
    match i.zero,partsOf P fields ps.toList with
    | some z,some r=>some (.build z.cells.toList r)
    | _,_=>none
   else none
  | _,_=>none
 | .load t x=>
  match P.info? t,P.underlying t with
  | some i,some d=>some (.load (O7 (some d)) i.size x)
  | _,_=>none
 | .store t x y=>
  match P.info? t with
  | some i=>some (.store i.size x y)
  | none=>none
 | .nilCheck x=>some (.nilck x)
 | .fieldAddr s x f=>
  match a4y P s f with
  | some (fl,sz)=>if sz=0 then none else some (.faddr fl.offset x)
  | none=>none
 | .indexAddr t x i=>
  match P.underlying t with
  | some (.slice e)=>match P.info? e with
   | some ie=>some (.iaddr ie.size x i)
   | none=>none
  | some (.array n e)=>match P.info? e with
   | some ie=>if 0<ie.size then some (.iaddra ie.size n x i) else none
   | none=>none
  | _=>some (.raw (.indexAddr t x i) ty)
 | .index t x i=>
  match P.underlying t with
  | some .string=>some (.idxs x i)
  | _=>some (.raw (.index t x i) ty)
 | .slice t x lo hi mx=>
  match P.underlying t,mx with
  | some .string,none=>some (.slcs x lo hi)
  | some (.slice e),none=>match P.info? e with
   | some i=>some (.slcl i.size x lo hi)
   | none=>none
  | some (.slice e),some m=>if a8k lo hi (some m) then match P.info? e with
   | some _=>some (.zcap x)
   | none=>none
   else some (.raw (.slice t x lo hi mx) ty)
  | some (.array n e),none=>match lo,hi with
   | none,none=>match P.info? e with
    | some i=>some (.slca i.size n x)
    | none=>none
   | _,_=>some (.raw (.slice t x lo hi mx) ty)
  | _,_=>some (.raw (.slice t x lo hi mx) ty)
 | .alloc t=>
  match P.info? t with
  | some i=>match i.zero with
   | some z=>some (.alloc t z.cells.toList)
   | none=>none
  | none=>none
 | .box t x=>some (.box t x)
 | .buildSlice t n ps=>
  match P.underlying t with
  | some (.slice e)=>match P.info? e with
   | some i=>match i.zero with
    | some z=>if n=0 then(if ps.size=0 then some (.a5t e) else none) else if n*i.size=0 then none else if z.cells.size=i.size then some (.bsl e i.size n z.cells.toList ps.toList) else none
    | none=>none
   | none=>none
  | _=>none
 | .call c=>b0R P ty c
 | .makeSlice t l c=>
  match P.underlying t with
  | some (.slice e)=>match P.info? e with
   | some i=>match i.zero with
    | some z=>if z.cells.size=i.size then if 0<i.size then some (.a6F e i.bytes z.cells.toList l c) else none else none
    | none=>none
   | none=>none
  | _=>none
 | .makeFunc (.func f) first caps=>if first.size=0 then some (.clo f caps.toList) else match first.toList,caps.toList with
  | [x],[]=>some (.bnd f x)
  | _,_=>some (.raw (.makeFunc (.func f) first caps) ty)
 | .makeMap t none=>match a2o P t with
  | some (str,_)=>some (.mkmap str)
  | none=>none
 | .lookup t m k ok=>
  match a2o P t with
  | some (str,e)=>match P.info? e with
   | some i=>match i.zero with
    | some z=>some (.lkp str z ok m k)
    | none=>none
   | none=>none
  | none=>some (.raw (.lookup t m k ok) ty)
 | .mapUpdate t m k v=>
  match a2o P t with
  | some (str,_)=>some (.mupd str m k v)
  | none=>some (.raw (.mapUpdate t m k v) ty)
 | o=>some (.raw o ty)
def b3g(ops:Array Oper):Option (Nat×Bool)->Option (Option (Nat×Bool))
 | none=>some none
 | some (j,want)=>match(ops[j]?).bind (·.dst) with
  | some s=>some (some (s,want))
  | none=>none
def a1I(N:Nat):Option Nat->Bool
 | some d=>decide (d<N)
 | none=>true
def a3u(P:Program)(N:Nat)(ops:Array Oper)(o:Oper):Option G6:=
 if a1I N o.dst then
  match b6v P o.type o.op,b3g ops o.guard with
  | some io,some g=>some ⟨o.dst,io,g⟩
  | _,_=>none
 else none
def a0z(P:Program)(N:Nat)(ops:Array Oper):List Oper->Option (List G6)
 | []=>some []
 | o::r=>match a3u P N ops o,a0z P N ops r with
  | some io,some ir=>some (io::ir)
  | _,_=>none
def a5e(acc:List Nat):List Edge->Nat
 | []=>0
 | e::es=>if Region.binds .any e then(2^e.on ||| acc.getD e.on 0) ||| a5e acc es else a5e acc es
def a3y:List Oper->List Nat->List Nat
 | [],acc=>acc
 | o::r,acc=>a3y r (acc++[a5e acc o.after.toList])
def DT.isK:DT->Bool
 | .e _ sk=>sk
 | _=>false
def DT.isF:DT->Bool
 | .f=>true
 | _=>false
def DT.isE:DT->Bool
 | .e _ _=>true
 | _=>false
def DT.isQ:DT->Bool
 | .q=>true
 | _=>false
def DT.isL:DT->Bool
 | .l=>true
 | _=>false
def DT.isM:DT->Bool
 | .m=>true
 | _=>false
def c2S:Op->Bool
 | .fieldAddr _ _ _=>true
 | _=>false
def turns(eff:Nat->Bool)(f:Nat):Bool:=eff (2000000+f)
def U8(eff:Nat->Bool):Op->Bool
 | .store _ _ _=>true
 | .mapUpdate _ _ _ _=>true
 | .call c=>match c.callee with
  | .value (.func f)=>!(turns eff f)
  | .value _=>true
  | _=>false
 | _=>false
def a9r(eff:Nat->Bool):IOp->Bool
 | .call f _=>!(turns eff f)
 | .app _ _ _ _ _=>false
 | .apps _ _ _=>false
 | .appz _ _ _ _ _=>false
 | _=>true
def DT.isA:DT->Bool
 | .a=>true
 | _=>false
def DT.ad:DT->List Nat
 | .e (some t) _=>[t]
 | _=>[]
def wrs(o:Oper)(t:DT):List Nat:=o.dst.toList++t.ad
def a9o(l m:List Nat):Bool:=l.all λt=>!m.contains t
def b1K(eff:Nat->Bool)(ops:Array Oper)(b:Bool)(oi:Oper)(ti:DT)(oj:Oper)(tj:DT):Bool:=
 (b||a9o (wrs oi ti) (wrs oj tj))&&(b||a9o (oi.looksAt ops) (wrs oj tj))&&(b||a9o (oj.looksAt ops) (wrs oi ti)) &&
 (b || !(ti.isE&&tj.isE||ti.isE&&tj.isQ||ti.isQ&&tj.isE)) &&
 (!(ti.isA||tj.isA)||a9o oi.dst.toList oj.dst.toList)&&a9o ti.ad tj.ad &&
 (!(tj.isA)||a9o ti.ad oj.dst.toList)&&(!(ti.isA)||b||a9o oi.dst.toList tj.ad) &&
 (b || !(ti.isL&&tj.isE && !U8 eff oj.op||ti.isE&&tj.isL && !U8 eff oi.op)) &&
 (!(ti.isK) || !(tj.isF||tj.isL||tj.isM))&&(!(tj.isK)||b || !(ti.isF)&&(!(ti.isL) || !U8 eff oj.op))&&(b || !(ti.isM&&tj.isE))
def a6Z:Op->Bool
 | .alloc _=>true
 | _=>false
def a9K(j:Nat)(o:Oper)(t:DT):Bool:=
 o.after.toList.all (λe=>!Region.binds .any e||decide (e.on<j)) &&
 match t with
 | .a=>o.guard.isNone&&o.dst.isSome&&a6Z o.op
 | .e _ _=>o.guard.isNone
 | _=>true
def b2y(eff:Nat->Bool)(ops:Array Oper)(tags:List DT):Bool:=
 decide (tags.length=ops.size)&&(List.range ops.size).all λj=>
  match ops.toList[j]?,tags[j]?,(a3y ops.toList [])[j]? with
  | some oj,some tj,some m=>a9K j oj tj&&(List.range j).all λi=>match ops.toList[i]?,tags[i]? with
   | some oi,some ti=>b1K eff ops (m.testBit i) oi ti oj tj
   | _,_=>false
  | _,_,_=>false
def loud(eff:Nat->Bool):Op->Bool
 | .store _ _ _=>true
 | .mapUpdate _ _ _ _=>true
 | .buildSlice t _ _=>eff (1000000+t)
 | .call c=>match c.callee with
  | .value (.func f)=>eff f
  | .value _=>false
  | .builtin .append=>true
  | .builtin .copy=>true
  | .builtin .clear=>true
  | .builtin .delete=>true
  | .builtin _=>false
  | _=>true
 | _=>false
def c9V(ops:List Oper):Op->Option Nat
 | .store _ (.tmp t) _=>if ops.any λo=>a6Z o.op&&(match o.dst with|some d=>d==t|none=>false) then some t else none
 | _=>none
def c6S(eff:Nat->Bool)(ops:List Oper)(m:List Nat)(j:Nat):DT:=
 if(ops.zipIdx.all λ(x,i)=>!loud eff x.op||(if i<j then(m.getD j 0).testBit i else(m.getD i 0).testBit j)) then .q else
 if(ops.zipIdx.all λ(x,i)=>!loud eff x.op||U8 eff x.op||(if i<j then(m.getD j 0).testBit i else(m.getD i 0).testBit j)) then .l else
 if(match ops[j]? with|some o=>c2S o.op|none=>false) then .n else
 if(ops.zipIdx.all λ(x,i)=>!loud eff x.op||decide (i<j)||(m.getD i 0).testBit j) then .m else .f
def c9i(eff:Nat->Bool)(ops:List Oper)(m:List Nat)(j:Nat)(o:Oper):DT:=
 if a6Z o.op then .a else if loud eff o.op then .e (c9V ops o.op) (ops.zipIdx.all λ(x,i)=>a6Z x.op||loud eff x.op||(match c6S eff ops m i with
  | .q=>true
  | .n=>true
  | .l=>decide (i<j)&&(!U8 eff o.op||(m.getD j 0).testBit i)
  | _=>decide (i<j)&&(m.getD j 0).testBit i)) else c6S eff ops m j
def a8Q(eff:Nat->Bool)(ops:List Oper):List DT:=ops.zipIdx.map λ(o,j)=>c9i eff ops (a3y ops []) j o
def comp(eff:Nat->Bool)(P:Program)(N:Nat):Code->Option IC
 | .skip=>some .skip
 | .region _ ops false=>
  match a0z P N ops ops.toList with
  | some l=>some (.reg l)
  | none=>none
 | .region _ ops true=>
  if P.follows .mixedOrders&&b2y eff ops (a8Q eff ops.toList) then
   match a0z P N ops ops.toList with
   | some l=>some (.a1d (a8Q eff ops.toList) l)
   | none=>none
  else none
 | .seq a b=>match comp eff P N a,comp eff P N b with
  | some x,some y=>some (.seq x y)
  | _,_=>none
 | .cond c a b=>match comp eff P N a,comp eff P N b with
  | some x,some y=>some (.cond c x y)
  | _,_=>none
 | .block id a=>match comp eff P N a with
  | some x=>some (.block id x)
  | none=>none
 | .loop a=>match comp eff P N a with
  | some x=>some (.loop x)
  | none=>none
 | .exit id=>some (.exit id)
 | .ret=>some .ret
 | _=>none
inductive RV where
 | tmp (t:Nat)
 | cell (t:Nat) (agg:Bool) (sz:Nat)
structure a3N where
 ntmps:Nat
 results:List RV
 body:IC
def X7(P:Program):List ResultVar->Option (List RV)
 | []=>some []
 | .tmp t::r=>match X7 P r with
  | some l=>some (.tmp t::l)
  | none=>none
 | .cell t ty::r=>match P.info? ty,P.underlying ty,X7 P r with
  | some i,some d,some l=>some (.cell t (O7 (some d)) i.size::l)
  | _,_,_=>none
def a0D(eff:Nat->Bool)(P:Program)(f:Func):Option a3N:=
 match f.body,X7 P f.results.toList with
 | some c,some rs=>match comp eff P f.ntmps c with
  | some ic=>some ⟨f.ntmps,rs,ic⟩
  | none=>none
 | _,_=>none
inductive C where
 | v (x:Value)
 | agg (cs:List C)
 | tup (cs:List C)
 | sl (sz:Nat) (es:List (List C))
 | nl
 | ep (cs:List C)
 | bp (k off:Nat)
 | rv (k:Nat)
 | rp (k sz i off:Nat)
 | mp (k:Nat)
 | wv (k sz lo n:Nat)
 | clo (f:Nat) (caps:List C)
 | bnd (f:Nat) (x:C)
 | g (p:Bool) (x:C)
 | any (S:Value->Prop)
 | junk
inductive Res where
 | gone
 | box (t:TypeId) (cs:List C)
 | row (e sz:Nat) (es:List (List C))
 | map (str:Bool) (es:List (Value×Value))
 | fb (e:TypeId) (bs:List UInt8)
structure St where
 fr:List (Nat×C)
 rs:List Res
structure Ctx where
 P:Program
 eff:Nat->Bool
 N:Nat
 w0:World
 own0:Nat->Prop
 av:Nat->Prop
 nu0:List Value
 pk0:List Nat
def a5g:Value->Option Nat
 | .slice (some a) _ _=>some a.block
 | .pointer (some a)=>some a.block
 | _=>none
def capOf:Value->Nat->Prop
 | .slice _ _ c,n=>c=n
 | _,_=>True
mutual
def Fz(w:World)(O:Nat->Prop):C->Value->Prop
 | .v x,y=>y=x
 | .agg cs,y=>∃vs,FzL w O cs vs/\y=.agg vs.toArray
 | .tup cs,y=>∃vs,FzL w O cs vs/\y=.tuple vs.toArray
 | .sl sz es,y=>∃A c,y=.slice A es.length c/\es.length<=c/\c<=maxLen/\(0<es.length->∃ad,A=some ad/\ad.block<w.heap.size/\¬O ad.block/\FzE w O sz es ad 0)
 | .nl,y=>∃A,y=.slice A 0 0
 | .ep cs,y=>∃ad,y=.pointer (some ad)/\ad.block<w.heap.size/\¬O ad.block/\FzA w O cs ad 0
 | .clo f caps,y=>∃vs,FzL w O caps vs/\y=.func (.func f) #[] vs.toArray
 | .bnd f x,y=>∃v,Fz w O x v/\y=.func (.func f) #[v] #[]
 | .bp _ _,_=>False
 | .rv _,_=>False
 | .rp _ _ _ _,_=>False
 | .mp _,_=>False
 | .wv _ _ _ _,_=>False
 | .g _ _,_=>False
 | .any S,y=>S y
 | .junk,_=>False
def FzL(w:World)(O:Nat->Prop):List C->List Value->Prop
 | [],vs=>vs=[]
 | c::cs,vs=>∃y ys,vs=y::ys/\Fz w O c y/\FzL w O cs ys
def FzA(w:World)(O:Nat->Prop):List C->Addr->Nat->Prop
 | [],_,_=>True
 | c::cs,ad,j=>(∃y,w.cell? (ad.add j)=some y/\y.oneCell'=true/\Fz w O c y)/\FzA w O cs ad (j+1)
def FzE(w:World)(O:Nat->Prop)(sz:Nat):List (List C)->Addr->Nat->Prop
 | [],_,_=>True
 | e::es,ad,i=>e.length=sz/\FzA w O e ad (i*sz)/\FzE w O sz es ad (i+1)
end
mutual
def Den(ν:List Value)(w:World)(O:Nat->Prop):C->Value->Prop
 | .v x,y=>y=x
 | .agg cs,y=>∃vs,l6 ν w O cs vs/\y=.agg vs.toArray
 | .tup cs,y=>∃vs,l6 ν w O cs vs/\y=.tuple vs.toArray
 | .sl sz es,y=>Fz w O (.sl sz es) y
 | .nl,y=>∃A,y=.slice A 0 0
 | .ep cs,y=>Fz w O (.ep cs) y
 | .clo f caps,y=>∃vs,l6 ν w O caps vs/\y=.func (.func f) #[] vs.toArray
 | .bnd f x,y=>∃v,Den ν w O x v/\y=.func (.func f) #[v] #[]
 | .bp k off,y=>∃b,ν[k]?=some (.pointer (some ⟨b,0,none⟩))/\y=.pointer (some ⟨b,off,none⟩)
 | .rv k,y=>ν[k]?=some y/\∃A n c,y=.slice A n c
 | .rp k sz i off,y=>∃b n c,ν[k]?=some (.slice (some ⟨b,0,none⟩) n c)/\y=.pointer (some ⟨b,i*sz+off,none⟩)
 | .mp k,y=>ν[k]?=some y/\∃r,y=.map r
 | .wv k sz lo n,y=>∃A c,y=.slice A n c/\n<=c/\c<=maxLen/\(0<c->∃x b,ν[k]?=some x/\a5g x=some b/\A=some ⟨b,lo*sz,none⟩/\capOf x (lo+c))
 | .g p x,y=>(p=true->Den ν w O x y)/\(p=false->y=undef)
 | .any S,y=>S y
 | .junk,_=>True
def l6(ν:List Value)(w:World)(O:Nat->Prop):List C->List Value->Prop
 | [],vs=>vs=[]
 | c::cs,vs=>∃y ys,vs=y::ys/\Den ν w O c y/\l6 ν w O cs ys
end
section
variable {ν:List Value} {w:World} {O:Nat->Prop}
theorem l6.length:∀{cs:List C} {vs:List Value},l6 ν w O cs vs->vs.length=cs.length
 | [],vs,h=>by simp only[l6]at h;simp[h]
 | c::cs,vs,h=>by
  simp only[l6]at h;obtain⟨y,ys,rfl,_,h2⟩:=h;simp[l6.length h2]
theorem l6.append:∀{cs u:List C} {vs us:List Value},l6 ν w O cs vs->l6 ν w O u us->l6 ν w O (cs++u) (vs++us)
 | [],u,vs,us,h,k=>by simp only[l6]at h;subst h;simpa using k
 | c::cs,u,vs,us,h,k=>by
  simp only[l6]at h;obtain⟨y,ys,rfl,h1,h2⟩:=h;exact⟨y,ys++us,rfl,h1,l6.append h2 k⟩
theorem l6.take:∀{cs:List C} {vs:List Value} (n:Nat),l6 ν w O cs vs->l6 ν w O (cs.take n) (vs.take n)
 | [],vs,n,h=>by simp only[l6]at h;subst h;simp[l6]
 | c::cs,vs,0,h=>by simp[l6]
 | c::cs,vs,n+1,h=>by
  simp only[l6]at h;obtain⟨y,ys,rfl,h1,h2⟩:=h;exact⟨y,ys.take n,rfl,h1,l6.take n h2⟩
theorem l6.drop:∀{cs:List C} {vs:List Value} (n:Nat),l6 ν w O cs vs->l6 ν w O (cs.drop n) (vs.drop n)
 | [],vs,n,h=>by simp only[l6]at h;subst h;simp[l6]
 | c::cs,vs,0,h=>by simpa using h
 | c::cs,vs,n+1,h=>by
  simp only[l6]at h;obtain⟨y,ys,rfl,h1,h2⟩:=h;simpa using l6.drop n h2
theorem l6.get:∀{cs:List C} {vs:List Value} {i:Nat} {s:C},l6 ν w O cs vs->cs[i]?=some s->∃y,vs[i]?=some y/\Den ν w O s y
 | [],vs,i,s,h,hi=>by simp at hi
 | c::cs,vs,0,s,h,hi=>by
  simp only[l6]at h;obtain⟨y,ys,rfl,h1,h2⟩:=h;simp at hi;subst hi;exact⟨y,rfl,h1⟩
 | c::cs,vs,i+1,s,h,hi=>by
  simp only[l6]at h;obtain⟨y,ys,rfl,h1,h2⟩:=h;have u:cs[i]?=some s:=by simpa using hi
  obtain⟨z,A,B⟩:=l6.get h2 u;exact⟨z,by simpa using A,B⟩
theorem l6.vs:∀(xs:List Value),l6 ν w O (xs.map .v) xs
 | []=>by simp[l6]
 | x::xs=>⟨x,xs,rfl,by simp[Den],l6.vs xs⟩
theorem FzL.length:∀{cs:List C} {vs:List Value},FzL w O cs vs->vs.length=cs.length
 | [],vs,h=>by simp only[FzL]at h;simp[h]
 | c::cs,vs,h=>by
  simp only[FzL]at h;obtain⟨y,ys,rfl,_,h2⟩:=h;simp[FzL.length h2]
mutual
theorem Fz.den(ν:List Value):∀{c:C} {y:Value},Fz w O c y->Den ν w O c y
 | .v _,y,h=>by simpa only[Fz,Den] using h
 | .agg cs,y,h=>by simp only[Fz,Den]at h ⊢;obtain⟨vs,h1,h2⟩:=h;exact⟨vs,FzL.den ν h1,h2⟩
 | .tup cs,y,h=>by simp only[Fz,Den]at h ⊢;obtain⟨vs,h1,h2⟩:=h;exact⟨vs,FzL.den ν h1,h2⟩
 | .sl _ _,y,h=>by simpa only[Den] using h
 | .nl,y,h=>by simpa only[Fz,Den] using h
 | .ep _,y,h=>by simpa only[Den] using h
 | .clo f cs,y,h=>by simp only[Fz,Den]at h ⊢;obtain⟨vs,h1,h2⟩:=h;exact⟨vs,FzL.den ν h1,h2⟩
 | .bnd f x,y,h=>by simp only[Fz,Den]at h ⊢;obtain⟨v,h1,h2⟩:=h;exact⟨v,Fz.den ν h1,h2⟩
 | .bp _ _,y,h=>by simp only[Fz]at h
 | .rv _,y,h=>by simp only[Fz]at h
 | .rp _ _ _ _,y,h=>by simp only[Fz]at h
 | .mp _,y,h=>by simp only[Fz]at h
 | .wv _ _ _ _,y,h=>by simp only[Fz]at h
 | .g _ _,y,h=>by simp only[Fz]at h
 | .any _,y,h=>by simpa only[Fz,Den] using h
 | .junk,y,h=>by simp only[Den]
theorem FzL.den(ν:List Value):∀{cs:List C} {vs:List Value},FzL w O cs vs->l6 ν w O cs vs
 | [],vs,h=>by simpa only[FzL,l6] using h
 | c::cs,vs,h=>by
  simp only[FzL,l6]at h ⊢;obtain⟨y,ys,e,h1,h2⟩:=h;exact⟨y,ys,e,Fz.den ν h1,FzL.den ν h2⟩
end
mutual
def C.cl:C->Bool
 | .v _=>true
 | .agg cs=>C.clL cs
 | .tup cs=>C.clL cs
 | .sl _ _=>true
 | .nl=>true
 | .ep _=>true
 | .clo _ cs=>C.clL cs
 | .bnd _ x=>C.cl x
 | .any _=>true
 | _=>false
def C.clL:List C->Bool
 | []=>true
 | c::cs=>C.cl c&&C.clL cs
end
mutual
theorem Den.fz:∀{c:C} {y:Value},c.cl=true->Den ν w O c y->Fz w O c y
 | .v _,y,_,h=>by simpa only[Fz,Den] using h
 | .agg cs,y,hc,h=>by simp only[Fz,Den,C.cl]at h hc ⊢;obtain⟨vs,h1,h2⟩:=h;exact⟨vs,l6.fz hc h1,h2⟩
 | .tup cs,y,hc,h=>by simp only[Fz,Den,C.cl]at h hc ⊢;obtain⟨vs,h1,h2⟩:=h;exact⟨vs,l6.fz hc h1,h2⟩
 | .sl _ _,y,_,h=>by simpa only[Den] using h
 | .nl,y,_,h=>by simpa only[Fz,Den] using h
 | .ep _,y,_,h=>by simpa only[Den] using h
 | .clo f cs,y,hc,h=>by simp only[Fz,Den,C.cl]at h hc ⊢;obtain⟨vs,h1,h2⟩:=h;exact⟨vs,l6.fz hc h1,h2⟩
 | .bnd f x,y,hc,h=>by simp only[Fz,Den,C.cl]at h hc ⊢;obtain⟨v,h1,h2⟩:=h;exact⟨v,Den.fz hc h1,h2⟩
 | .bp _ _,y,hc,h=>by simp only[C.cl]at hc;cases hc
 | .rv _,y,hc,h=>by simp only[C.cl]at hc;cases hc
 | .rp _ _ _ _,y,hc,h=>by simp only[C.cl]at hc;cases hc
 | .mp _,y,hc,h=>by simp only[C.cl]at hc;cases hc
 | .wv _ _ _ _,y,hc,h=>by simp only[C.cl]at hc;cases hc
 | .g _ _,y,hc,h=>by simp only[C.cl]at hc;cases hc
 | .any _,y,_,h=>by simpa only[Fz,Den] using h
 | .junk,y,hc,h=>by simp only[C.cl]at hc;cases hc
theorem l6.fz:∀{cs:List C} {vs:List Value},C.clL cs=true->l6 ν w O cs vs->FzL w O cs vs
 | [],vs,_,h=>by simpa only[FzL,l6] using h
 | c::cs,vs,hc,h=>by
  simp only[FzL,l6,C.clL,d0s]at h hc ⊢;obtain⟨y,ys,e,h1,h2⟩:=h;exact⟨y,ys,e,Den.fz hc.1 h1,l6.fz hc.2 h2⟩
end
def add_block(ad:Addr)(n:Nat):(ad.add n).block=ad.block:=by unfold Addr.add;split<;>rfl
def Keeps(O:Nat->Prop)(w:World)(O':Nat->Prop)(w':World):Prop:=∀b,b<w.heap.size->¬O b->b<w'.heap.size/\¬O' b/\w'.heap[b]?=w.heap[b]?
section
variable {w':World} {O':Nat->Prop}
mutual
theorem Fz.keep:∀{O O':Nat->Prop},Keeps O w O' w'->∀{c:C} {y:Value},Fz w O c y->Fz w' O' c y
 | _,_,hk,.v _,y,h=>by simpa only[Fz] using h
 | _,_,hk,.agg cs,y,h=>by simp only[Fz]at h ⊢;obtain⟨vs,h1,h2⟩:=h;exact⟨vs,FzL.keep hk h1,h2⟩
 | _,_,hk,.tup cs,y,h=>by simp only[Fz]at h ⊢;obtain⟨vs,h1,h2⟩:=h;exact⟨vs,FzL.keep hk h1,h2⟩
 | _,_,hk,.sl sz es,y,h=>by
  simp only[Fz]at h ⊢;obtain⟨A,c,h1,h2,u,E⟩:=h;refine⟨A,c,h1,h2,u,λJ=>?_⟩;obtain⟨ad,e,F,G,H⟩:=E J;obtain⟨D,B,I⟩:=hk _ F G;exact⟨ad,e,D,B,FzE.keep hk F G H⟩
 | _,_,hk,.nl,y,h=>by simpa only[Fz] using h
 | _,_,hk,.ep cs,y,h=>by
  simp only[Fz]at h ⊢;obtain⟨ad,h1,h2,u,E⟩:=h;obtain⟨D,B,I⟩:=hk _ h2 u;exact⟨ad,h1,D,B,FzA.keep hk h2 u E⟩
 | _,_,hk,.clo f cs,y,h=>by simp only[Fz]at h ⊢;obtain⟨vs,h1,h2⟩:=h;exact⟨vs,FzL.keep hk h1,h2⟩
 | _,_,hk,.bnd f x,y,h=>by simp only[Fz]at h ⊢;obtain⟨v,h1,h2⟩:=h;exact⟨v,Fz.keep hk h1,h2⟩
 | _,_,hk,.bp _ _,y,h=>by simp only[Fz]at h
 | _,_,hk,.rv _,y,h=>by simp only[Fz]at h
 | _,_,hk,.rp _ _ _ _,y,h=>by simp only[Fz]at h
 | _,_,hk,.mp _,y,h=>by simp only[Fz]at h
 | _,_,hk,.wv _ _ _ _,y,h=>by simp only[Fz]at h
 | _,_,hk,.g _ _,y,h=>by simp only[Fz]at h
 | _,_,hk,.any _,y,h=>by simpa only[Fz] using h
 | _,_,hk,.junk,y,h=>by simp only[Fz]at h
theorem FzL.keep:∀{O O':Nat->Prop},Keeps O w O' w'->∀{cs:List C} {vs:List Value},FzL w O cs vs->FzL w' O' cs vs
 | _,_,hk,[],vs,h=>by simpa only[FzL] using h
 | _,_,hk,c::cs,vs,h=>by
  simp only[FzL]at h ⊢;obtain⟨y,ys,e,h1,h2⟩:=h;exact⟨y,ys,e,Fz.keep hk h1,FzL.keep hk h2⟩
theorem FzA.keep:∀{O O':Nat->Prop},Keeps O w O' w'->∀{cs:List C} {ad:Addr} {j:Nat},ad.block<w.heap.size->¬O ad.block->FzA w O cs ad j->FzA w' O' cs ad j
 | _,_,hk,[],_,_,_,_,h=>by simp only[FzA]
 | _,_,hk,c::cs,ad,j,h1,h2,h=>by
  simp only[FzA]at h ⊢;obtain⟨⟨y,h3,h4,h5⟩,h6⟩:=h;refine⟨⟨y,?_,h4,Fz.keep hk h5⟩,FzA.keep hk h1 h2 h6⟩;rw[<- h3];exact World.cell?_of_block (by rw[add_block];exact(hk _ h1 h2).2.2)
theorem FzE.keep:∀{O O':Nat->Prop},Keeps O w O' w'->∀{sz:Nat} {es:List (List C)} {ad:Addr} {i:Nat},ad.block<w.heap.size->¬O ad.block->FzE w O sz es ad i->FzE w' O' sz es ad i
 | _,_,hk,_,[],_,_,_,_,h=>by simp only[FzE]
 | _,_,hk,sz,e::es,ad,i,h1,h2,h=>by
  simp only[FzE]at h ⊢;exact⟨h.1,FzA.keep hk h1 h2 h.2.1,FzE.keep hk h1 h2 h.2.2⟩
end
mutual
theorem Den.keep(u:Keeps O w O' w'):∀{c:C} {y:Value},Den ν w O c y->Den ν w' O' c y
 | .v _,y,h=>by simpa only[Den] using h
 | .agg cs,y,h=>by simp only[Den]at h ⊢;obtain⟨vs,h1,h2⟩:=h;exact⟨vs,l6.keep u h1,h2⟩
 | .tup cs,y,h=>by simp only[Den]at h ⊢;obtain⟨vs,h1,h2⟩:=h;exact⟨vs,l6.keep u h1,h2⟩
 | .sl _ _,y,h=>by simp only[Den]at h ⊢;exact Fz.keep u h
 | .nl,y,h=>by simpa only[Den] using h
 | .ep _,y,h=>by simp only[Den]at h ⊢;exact Fz.keep u h
 | .clo f cs,y,h=>by simp only[Den]at h ⊢;obtain⟨vs,h1,h2⟩:=h;exact⟨vs,l6.keep u h1,h2⟩
 | .bnd f x,y,h=>by simp only[Den]at h ⊢;obtain⟨v,h1,h2⟩:=h;exact⟨v,Den.keep u h1,h2⟩
 | .bp _ _,y,h=>by simpa only[Den] using h
 | .rv _,y,h=>by simpa only[Den] using h
 | .rp _ _ _ _,y,h=>by simpa only[Den] using h
 | .mp _,y,h=>by simpa only[Den] using h
 | .wv _ _ _ _,y,h=>by simpa only[Den] using h
 | .g _ _,y,h=>by simp only[Den]at h ⊢;exact⟨λA=>Den.keep u (h.1 A),h.2⟩
 | .any _,y,h=>by simpa only[Den] using h
 | .junk,y,h=>by simp only[Den]
theorem l6.keep(u:Keeps O w O' w'):∀{cs:List C} {vs:List Value},l6 ν w O cs vs->l6 ν w' O' cs vs
 | [],vs,h=>by simpa only[l6] using h
 | c::cs,vs,h=>by
  simp only[l6]at h ⊢;obtain⟨y,ys,e,h1,h2⟩:=h;exact⟨y,ys,e,Den.keep u h1,l6.keep u h2⟩
end
end
end
def E8:Value->Option Nat
 | .pointer (some a)=>some a.block
 | .slice (some a) _ c=>if c=0 then none else some a.block
 | .map (some b)=>some b
 | _=>none
def fp(r:Res)(x:Value)(b:Nat):Prop:=
 match r with
 | .gone=>False
 | _=>E8 x=some b
def owned(rs:List Res)(ν:List Value)(b:Nat):Prop:=∃(k:Nat) (r:Res) (x:Value),rs[k]?=some r/\ν[k]?=some x/\fp r x b
def OO(av:Nat->Prop)(rs:List Res)(ν:List Value)(b:Nat):Prop:=av b\/owned rs ν b
def Y3(str:Bool):Value->Bool
 | .string _=>str
 | .int .i64 _=>!str
 | _=>false
def a0Z:Value->Value->Bool
 | .int _ a,.int _ b=>a==b
 | .string a,.string b=>decide (a=b)
 | _,_=>false
def a0d(k:Value):List (Value×Value)->Option Value
 | []=>none
 | (k',v)::r=>if a0Z k k' then some v else a0d k r
def a0u(k v:Value):List (Value×Value)->List (Value×Value)
 | []=>[(k,v)]
 | (k',u)::r=>if a0Z k k' then(k,v)::r else(k',u)::a0u k v r
def rowAt(w:World)(e sz:Nat)(x:Value)(n:Nat)(vs:List Value):Prop:=
 vs.length=n*sz/\((n=0/\∃A,x=.slice A 0 0) \/
  ∃g cap cur,x=.slice (some ⟨g,0,none⟩) n cap/\0<cap/\w.heap[g]?=some (.cells cur e (0,0))/\n<=cap/\cap<=maxLen/\cur.size=cap*sz/\cur.toList.take (n*sz)=vs)
def rowAt.of{w:World}{b e sz n:Nat}{x:Value}{vs:List Value}(h:w.ownsRow b e sz x n vs):rowAt w e sz x n vs:=by
 refine⟨h.1,?_⟩;rcases h.2 with⟨I,G⟩|⟨g,cap,D,rfl,J,F,A,u,B,H⟩
 ·exact .inl ⟨G,none,I⟩
 ·rcases d0K cap with E|E
  ·subst E;have:n=0:=by omega
   subst this;exact .inl ⟨rfl,_,rfl⟩
  ·exact .inr ⟨g,cap,D,rfl,E,F,A,u,B,H⟩
theorem rowAt.slice{w:World}{e sz n:Nat}{x:Value}{vs:List Value}(h:rowAt w e sz x n vs):∃A c,x=.slice A n c:=by
 rcases h.2 with⟨rfl,A,rfl⟩|⟨g,cap,u,rfl,_⟩
 ·exact⟨A,0,rfl⟩
 ·exact⟨_,_,rfl⟩
theorem rowAt.cells{w:World}{e sz n c:Nat}{g:Nat}{vs:List Value}(h:rowAt w e sz (.slice (some ⟨g,0,none⟩) n c) n vs):∀j u,vs[j]?=some u->w.cell? ((⟨g,0,none⟩:Addr).add j)=some u:=by
 intro j u F;rcases h.2 with⟨K,A,O⟩|⟨P,cap,I,B,K,M,G,E,H,N⟩
 ·have J:=h.1;rw[K,Nat.zero_mul]at J;rw[d0I J]at F;simp at F
 ·injection B with B;injection B with B;injection B with B;subst B;have D:w.ownsRow 0 e sz (.slice (some ⟨g,0,none⟩) n cap) n vs:=⟨h.1,.inr ⟨g,cap,I,rfl,d0k _,M,G,E,H,N⟩⟩
  exact D.cells (g:=g) rfl j u F
def N8(ν:List Value)(w:World)(O:Nat->Prop)(x:Value):Res->Prop
 | .gone=>True
 | .box t cs=>∃b vs,x=.pointer (some ⟨b,0,none⟩)/\l6 ν w O cs vs/\(∀u∈vs,u.oneCell'=true)/\w.heap[b]?=some (.cells vs.toArray t (0,0))
 | .row e sz es=>(∀c∈es,c.length=sz)/\∃vs,FzL w O es.flatten vs/\(∀u∈vs,u.oneCell'=true)/\rowAt w e sz x es.length vs
 | .fb e bs=>∃g mk,x=.slice (some ⟨g,0,none⟩) bs.length bs.length/\0<bs.length/\bs.length<=16777216/\w.heap[g]?=some (.cells (bs.map λb=>Value.int .u8 b.toNat).toArray e mk)
 | .map str es=>∃b ents clock,x=.map (some b)/\w.heap[b]?=some (.map ents clock)/\ents.toList.map (λe=>(e.key,e.val))=es/\∀e∈es,Y3 str e.1=true
def slot:List (Nat×C)->Nat->C
 | [],_=>.junk
 | (t,s)::r,n=>bif t==n then s else slot r n
structure Frm(own0:Nat->Prop)(w w':World):Prop where
 os:w'.os=w.os
 tape:w'.tape=w.tape
 output:w'.output=w.output
 size:w.heap.size<=w'.heap.size
 block:∀b,b<w.heap.size->¬own0 b->w'.heap[b]?=w.heap[b]?
structure RG(av own0:Nat->Prop)(n0:Nat)(ν:List Value)(rs:List Res)(w:World):Prop where
 len:ν.length=rs.length
 res:∀(k:Nat) (r:Res),rs[k]?=some r->∃x,ν[k]?=some x/\N8 ν w (OO av rs ν) x r
 dis:∀(k l:Nat) (r r':Res) (x x':Value) (b:Nat),k≠l->rs[k]?=some r->rs[l]?=some r'->ν[k]?=some x->ν[l]?=some x'->fp r x b->¬fp r' x' b
 low:∀b,owned rs ν b->b<w.heap.size/\¬av b/\(own0 b\/n0<=b)
 av:∀b,av b->b<w.heap.size
 n0:n0<=w.heap.size
def a0t(pk:List Nat)(ν ν':List Value):Prop:=∀k x,k∉pk->ν[k]?=some x->ν'[k]?=some x
def a5s(E:Ctx):List Nat->Prop
 | []=>True
 | k::pk=>(E.pk0.contains k=true\/E.nu0.length<=k)/\a5s E pk
structure L9(E:Ctx)(ν:List Value)(sf:Nat->C)(rs:List Res)(a:Act)(w:World):Prop where
 dfr:a.defers=[]
 size:a.tmps.size=E.N
 fr:∀t,Den ν w (OO E.av rs ν) (sf t) (a.tmps.getD t undef)
 rg:RG E.av E.own0 E.w0.heap.size ν rs w
 frm:Frm E.own0 E.w0 w
 nu:a0t E.pk0 E.nu0 ν
abbrev Good(E:Ctx)(ν:List Value)(st:St)(a:Act)(w:World):Prop:=L9 E ν (slot st.fr) st.rs a w
def opf(sf:Nat->C):Operand->C
 | .tmp t=>sf t
 | .const x=>.v x
 | .global g=>.v (.pointer (some ⟨g,0,none⟩))
 | .func f=>.v (.func (.func f) #[] #[])
def opv(fr:List (Nat×C)):Operand->C
 | .tmp t=>slot fr t
 | .const x=>.v x
 | .global g=>.v (.pointer (some ⟨g,0,none⟩))
 | .func f=>.v (.func (.func f) #[] #[])
def b8u(fr:List (Nat×C)):opv fr=opf (slot fr):=by funext x;cases x<;>rfl
def c1y{ν:List Value}{w:World}{O:Nat->Prop}{sf:Nat->C}{a:Act}(x:Operand)(h:∀t,x=.tmp t->Den ν w O (sf t) (a.tmps.getD t undef)):Den ν w O (opf sf x) (a.eval x):=by
 cases x with
 | tmp t=>exact h t rfl
 | const x=>simp[opf,Den,Act.eval]
 | global g=>simp[opf,Den,Act.eval]
 | func f=>simp[opf,Den,Act.eval]
def strip:C->C
 | .g _ x=>x
 | x=>x
def req(p:Bool):C->Prop
 | .g q _=>p=true->q=true
 | _=>True
def c1e{ν:List Value}{w:World}{O:Nat->Prop}{p:Bool}{s:C}{y:Value}(u:p=true)(hr:req p s)(h:Den ν w O s y):Den ν w O (strip s) y:=by
 cases s<;>first|exact h|(simp only[Den,req,strip]at*;exact h.1 (hr u))
def cellsS:C->List C
 | .agg cs=>cs
 | .v (.agg cs)=>cs.toList.map .v
 | s=>[s]
def C.one:C->Bool
 | .v x=>x.oneCell'
 | .bp _ _=>true
 | .rv _=>true
 | .rp _ _ _ _=>true
 | .mp _=>true
 | .wv _ _ _ _=>true
 | .ep _=>true
 | .clo _ _=>true
 | .bnd _ _=>true
 | .sl _ _=>true
 | .nl=>true
 | _=>false
def C.ones:List C->Bool
 | []=>true
 | s::r=>C.one s&&C.ones r
def IOp.uses:IOp->List Operand
 | .mv x=>[x]
 | .pick c a b=>[c,a,b]
 | .bin _ x y=>[x,y]
 | .beq _ x y=>[x,y]
 | .un _ x=>[x]
 | .conv _ x=>[x]
 | .fld _ _ _ x=>[x]
 | .ext x _=>[x]
 | .build _ ps=>ps.map (·.2.2)
 | .load _ _ x=>[x]
 | .nilck x=>[x]
 | .faddr _ x=>[x]
 | .iaddr _ x i=>[x,i]
 | .idxs x i=>[x,i]
 | .len _ x=>[x]
 | .max x y=>[x,y]
 | .min x y=>[x,y]
 | .slcs x lo hi=>[x]++lo.toList++hi.toList
 | .slcl _ x lo hi=>[x]++lo.toList++hi.toList
 | .toStr x=>[x]
 | .apps _ s x=>[s,x]
 | .alloc _ _=>[]
 | .box _ x=>[x]
 | .store _ x y=>[x,y]
 | .call _ l=>l
 | .Z4 x l=>x::l
 | .app _ _ _ s x=>[s,x]
 | .bsl _ _ _ _ ps=>ps.map (·.2)
 | .a6F _ _ _ l c=>[l,c]
 | .clo _ l=>l
 | .bnd _ x=>[x]
 | .mkmap _=>[]
 | .lkp _ _ _ m k=>[m,k]
 | .mupd _ m k v=>[m,k,v]
 | .zcap x=>[x]
 | .iaddra _ _ x i=>[x,i]
 | .aeq _ _ x y=>[x,y]
 | .isnil _ _ x=>[x]
 | .a5t _=>[]
 | .slca _ _ x=>[x]
 | .cap x=>[x]
 | .sub64 x y b=>[x,y,b]
 | .appz _ _ _ s x=>[s,x]
 | .bytes _ x=>[x]
 | .clr _ x=>[x]
 | .mark x=>[x]
 | .raw o _=>o.operands.toList
def a8a(op:BinOp)(x y:Value)(p:Bool)(K:C->Prop):Prop:=
 match op,x,y with
 | .add,.int k a,.int k' b=>k=k'/\K (.v (.int k (k.wrap (a+b))))
 | .sub,.int k a,.int k' b=>k=k'/\K (.v (.int k (k.wrap (a-b))))
 | .mul,.int k a,.int k' b=>k=k'/\K (.v (.int k (k.wrap (a*b))))
 | .quo,.int k a,.int k' b=>k=k'/\(p=true->b≠0)/\K (.v (.int k (k.wrap (a.tdiv b))))
 | .rem,.int k a,.int k' b=>k=k'/\(p=true->b≠0)/\K (.v (.int k (a.tmod b)))
 | .and,.int k a,.int k' b=>k=k'/\K (.v (.int k (bits .and k a b)))
 | .or,.int k a,.int k' b=>k=k'/\K (.v (.int k (bits .or k a b)))
 | .xor,.int k a,.int k' b=>k=k'/\K (.v (.int k (bits .xor k a b)))
 | .shl,.int k a,.int _ b=>(p=true->0<=b)/\K (.v (.int k (k.wrap (a*2^(min b.toNat k.bits)))))
 | .shr,.int k a,.int _ b=>(p=true->0<=b)/\K (.v (.int k (a.fdiv (2^(min b.toNat k.bits)))))
 | .eql,.int k a,.int k' b=>k=k'/\K (.v (.bool (decide (a=b))))
 | .neq,.int k a,.int k' b=>k=k'/\K (.v (.bool (!decide (a=b))))
 | .lss,.int k a,.int k' b=>k=k'/\K (.v (.bool (decide (a<b))))
 | .leq,.int k a,.int k' b=>k=k'/\K (.v (.bool (decide (a<=b))))
 | .gtr,.int k a,.int k' b=>k=k'/\K (.v (.bool (decide (b<a))))
 | .geq,.int k a,.int k' b=>k=k'/\K (.v (.bool (decide (b<=a))))
 | .add,.string a,.string b=>(p=true->a.size+b.size<=9223372036854775807)/\K (.v (.string (a++b)))
 | .eql,.string a,.string b=>K (.v (.bool (decide (a=b))))
 | .neq,.string a,.string b=>K (.v (.bool (!decide (a=b))))
 | _,_,_=>False
def splice(cs:List C):List (Nat×Nat×C)->List C
 | []=>cs
 | (off,sz,x)::r=>splice (cs.take off++cellsS x++cs.drop (off+sz)) r
def a2S:C->Bool
 | .agg _=>true
 | .v (.agg _)=>true
 | s=>s.one
def a4q:C->Option (List C)
 | .agg cs=>some cs
 | .v (.agg cs)=>some (cs.toList.map .v)
 | _=>none
def a1V(cs:List C):List (Nat×Nat×C)->Prop
 | []=>True
 | (off,sz,x)::r=>a2S x=true/\(cellsS x).length=sz/\off+sz<=cs.length/\a1V (cs.take off++cellsS x++cs.drop (off+sz)) r
def reqs(p:Bool)(ov:Operand->C):List (Nat×Nat×Operand)->Prop
 | []=>True
 | (_,_,x)::r=>req p (ov x)/\reqs p ov r
def a2m(ov:Operand->C):List (Nat×Nat×Operand)->List (Nat×Nat×C)
 | []=>[]
 | (o,z,x)::r=>(o,z,strip (ov x))::a2m ov r
def a1U(ov:Operand->C):List Operand->List C
 | []=>[]
 | x::r=>strip (ov x)::a1U ov r
def a4j(p:Bool)(ov:Operand->C):List Operand->Prop
 | []=>True
 | x::r=>req p (ov x)/\a4j p ov r
def a9J(p c:Bool):C->C->(C->Prop)->Prop
 | .v (.bool a),.v (.bool b),K=>K (.v (.bool (bif c then a else b)))
 | .g q (.v (.bool a)),.v (.bool b),K=>(p=true->c=true->q=true)/\K (.v (.bool (bif c then a else b)))
 | .v (.bool a),.g q (.v (.bool b)),K=>(p=true->c=false->q=true)/\K (.v (.bool (bif c then a else b)))
 | .g q (.v (.bool a)),.g q' (.v (.bool b)),K=>(p=true->c=true->q=true)/\(p=true->c=false->q'=true)/\K (.v (.bool (bif c then a else b)))
 | _,_,_=>False
def a5d(agg:Bool)(sz:Nat)(cs:List C)(K:C->Prop):Prop:=
 match agg with
 | true=>sz<=cs.length/\K (.agg (cs.take sz))
 | false=>match cs with
  | c::_=>K c
  | []=>False
def a4O(rs:List Res)(agg:Bool)(sz:Nat)(s:C)(K:C->Prop):Prop:=
 match s with
 | .bp k off=>match rs[k]? with
  | some (.box _ cs)=>a5d agg sz (cs.drop off) K
  | _=>False
 | .rp k z i off=>match rs[k]? with
  | some (.row _ z' es)=>z=z'/\match es[i]? with
   | some e=>a5d agg sz (e.drop off) K
   | none=>False
  | _=>False
 | .ep cs=>a5d agg sz cs K
 | _=>False
def b1F(rs:List Res)(agg:Bool)(sz:Nat)(p:Bool)(s:C)(K:C->Prop):Prop:=
 match s with
 | .junk=>p=false/\K .junk
 | s=>a4O rs agg sz s K
def u7(b:UInt8):List C:=[.v (.int .u8 b.toNat)]
def a0L:List (List C)->Option (List UInt8)
 | []=>some []
 | [.v (.int .u8 n)]::r=>match a0L r with
  | some l=>some (UInt8.ofNat n.toNat::l)
  | none=>none
 | _=>none
def Q8(l:List UInt8):a0L (l.map u7)=some l:=by
 induction l with
 | nil=>rfl
 | cons b l ih=>simp[a0L,u7,ih]
def b2I(c:C):List C:=[c]
def F5(ov:Operand->C)(d:Int):Option Operand->C
 | some x=>ov x
 | none=>.v (.int .i64 d)
def b6i(ok:Bool)(zero:Value):Option Value->C
 | some u=>match ok with
  | true=>.tup [.v u,.v (.bool true)]
  | false=>.v u
 | none=>match ok with
  | true=>.tup [.v zero,.v (.bool false)]
  | false=>.v zero
def eqC:List LK->List C->List C->(Bool->Prop)->Prop
 | [],[],[],K=>K true
 | .i::ks,.v (.int k a)::cs,.v (.int k' b)::ds,K=>k=k'/\eqC ks cs ds λr=>K (decide (a=b)&&r)
 | .s::ks,.v (.string a)::cs,.v (.string b)::ds,K=>eqC ks cs ds λr=>K (decide (a=b)&&r)
 | .b::ks,.v (.bool a)::cs,.v (.bool b)::ds,K=>eqC ks cs ds λr=>K ((a==b)&&r)
 | _,_,_,_=>False
def a5u:Value->Option Bool
 | .nilIface=>some true
 | .iface _ _=>some false
 | _=>none
def G9(ov:Operand->C)(rs:List Res)(p:Bool)(o:IOp)(K:C->Prop):Prop:=
 match o with
 | .mv x=>req p (ov x)/\K (strip (ov x))
 | .pick c a b=>req p (ov c)/\match strip (ov c) with
  | .v (.bool bc)=>a9J p bc (ov a) (ov b) K
  | _=>False
 | .bin op x y=>req p (ov x)/\req p (ov y)/\match strip (ov x),strip (ov y) with
  | .v a,.v b=>a8a op a b p K
  | _,_=>False
 | .beq neg x y=>req p (ov x)/\req p (ov y)/\match strip (ov x),strip (ov y) with
  | .v (.bool a),.v (.bool b)=>K (.v (.bool (bif neg then(a != b) else(a==b))))
  | _,_=>False
 | .un op x=>req p (ov x)/\match op,strip (ov x) with
  | .not,.v (.bool b)=>K (.v (.bool (!b)))
  | .neg,.v (.int k a)=>K (.v (.int k (k.wrap (0-a))))
  | _,_=>False
 | .conv k x=>req p (ov x)/\match strip (ov x) with
  | .v (.int _ a)=>K (.v (.int k (k.wrap a)))
  | _=>False
 | .fld agg off sz x=>req p (ov x)/\match a4q (strip (ov x)) with
  | some cs=>match agg with
   | true=>K (.agg ((cs.drop off).take sz))
   | false=>match cs[off]? with
    | some s=>K s
    | none=>False
  | none=>False
 | .ext x i=>req p (ov x)/\match strip (ov x) with
  | .tup cs=>match cs[i]? with
   | some s=>K s
   | none=>False
  | _=>False
 | .build zero parts=>reqs p ov parts/\a1V (zero.map .v) (a2m ov parts)/\K (.agg (splice (zero.map .v) (a2m ov parts)))
 | .load agg sz x=>req p (ov x)/\b1F rs agg sz p (strip (ov x)) K
 | .nilck x=>req p (ov x)/\match strip (ov x) with
  | .bp k o=>K (.bp k o)
  | .ep cs=>K (.ep cs)
  | .rp k z i o=>K (.rp k z i o)
  | .v (.func (.func f) u c)=>K (.v (.func (.func f) u c))
  | .clo f c=>K (.clo f c)
  | .bnd f c=>K (.bnd f c)
  | _=>False
 | .faddr off x=>req p (ov x)/\match strip (ov x) with
  | .bp k o=>K (.bp k (o+off))
  | .ep cs=>off<=cs.length/\K (.ep (cs.drop off))
  | .rp k z i o=>K (.rp k z i (o+off))
  | _=>False
 | .iaddr sz x i=>req p (ov x)/\req p (ov i)/\match strip (ov x),strip (ov i) with
  | .sl z es,.v (.int _ q)=>z=sz/\(p=true->0<=q/\q<es.length)/\match es[q.toNat]? with
   | some e=>K (.ep e)
   | none=>p=false/\K .junk
  | .rv k,.v (.int _ q)=>match rs[k]? with
   | some (.row _ z es)=>z=sz/\(p=true->0<=q/\q<es.length)/\K (.rp k sz q.toNat 0)
   | _=>False
  | .wv k z lo n,.v (.int _ q)=>z=sz/\match rs[k]? with
   | some (.row _ z' es)=>z'=sz/\(p=true->(0<=q/\q<n)/\lo+n<=es.length)/\K (.rp k sz (lo+q.toNat) 0)
   | some (.box _ _)=>(p=true->0<=q/\q<n)/\K (.bp k (lo*sz+q.toNat*sz))
   | _=>False
  | _,_=>False
 | .iaddra sz n x i=>req p (ov x)/\req p (ov i)/\match strip (ov x),strip (ov i) with
  | .bp k o,.v (.int _ q)=>(p=true->0<=q/\q<n)/\K (.bp k (o+q.toNat*sz))
  | _,_=>False
 | .idxs x i=>req p (ov x)/\req p (ov i)/\match strip (ov x),strip (ov i) with
  | .v (.string s),.v (.int _ q)=>(p=true->0<=q/\q<s.size)/\K (.v (.int .u8 ((s.data.toList.getD q.toNat 0).toNat)))
  | _,_=>False
 | .len true x=>req p (ov x)/\match strip (ov x) with
  | .v (.string s)=>K (.v (.int .i64 s.size))
  | _=>False
 | .len false x=>req p (ov x)/\match strip (ov x) with
  | .sl _ es=>K (.v (.int .i64 es.length))
  | .nl=>K (.v (.int .i64 0))
  | .rv k=>match rs[k]? with
   | some (.row _ _ es)=>K (.v (.int .i64 es.length))
   | _=>False
  | .v (.slice _ n _)=>K (.v (.int .i64 n))
  | .wv _ _ _ n=>K (.v (.int .i64 n))
  | _=>False
 | .toStr x=>req p (ov x)/\match strip (ov x) with
  | .rv k=>match rs[k]? with
   | some (.row _ _ es)=>match a0L es with
    | some l=>K (.v (.string ⟨l.toArray⟩))
    | none=>False
   | _=>False
  | .sl _ es=>match a0L es with
   | some l=>K (.v (.string ⟨l.toArray⟩))
   | none=>False
  | .nl=>K (.v (.string ⟨#[]⟩))
  | .v (.slice none 0 0)=>K (.v (.string ⟨#[]⟩))
  | .wv k z lo n=>z=1/\match rs[k]? with
   | some (.row _ z' es)=>z'=1/\(p=true->lo+n<=es.length)/\match a0L ((es.drop lo).take n) with
    | some l=>K (.v (.string ⟨l.toArray⟩))
    | none=>False
   | some (.box _ cs)=>(p=true->lo+n<=cs.length)/\match a0L (((cs.drop lo).take n).map b2I) with
    | some l=>K (.v (.string ⟨l.toArray⟩))
    | none=>False
   | _=>False
  | _=>False
 | .slcs x lo hi=>req p (ov x)/\match strip (ov x) with
  | .v (.string s)=>req p (F5 ov 0 lo)/\req p (F5 ov s.size hi)/\match strip (F5 ov 0 lo),strip (F5 ov s.size hi) with
   | .v (.int _ l),.v (.int _ h)=>(p=true->0<=l/\l<=h/\h<=s.size)/\K (.v (.string (s.extract l.toNat h.toNat)))
   | _,_=>False
  | _=>False
 | .slcl sz x lo hi=>req p (ov x)/\match strip (ov x) with
  | .sl z es=>z=sz/\req p (F5 ov 0 lo)/\req p (F5 ov es.length hi)/\match strip (F5 ov 0 lo),strip (F5 ov es.length hi) with
   | .v (.int _ l),.v (.int _ h)=>(p=true->0<=l/\l<=h/\h<=es.length)/\K (.sl sz ((es.drop l.toNat).take (h.toNat-l.toNat)))
   | _,_=>False
  | .wv k z lo' n=>z=sz/\req p (F5 ov 0 lo)/\req p (F5 ov n hi)/\match strip (F5 ov 0 lo),strip (F5 ov n hi) with
   | .v (.int _ l),.v (.int _ h)=>(p=true->0<=l/\l<=h/\h<=n)/\K (.wv k sz (lo'+l.toNat) (h.toNat-l.toNat))
   | _,_=>False
  | .rv k=>match rs[k]? with
   | some (.row _ z es)=>z=sz/\req p (F5 ov 0 lo)/\req p (F5 ov es.length hi)/\match strip (F5 ov 0 lo),strip (F5 ov es.length hi) with
    | .v (.int _ l),.v (.int _ h)=>(p=true->0<=l/\l<=h/\h<=es.length)/\K (.wv k sz l.toNat (h.toNat-l.toNat))
    | _,_=>False
   | _=>False
  | .v (.slice none 0 0)=>req p (F5 ov 0 lo)/\req p (F5 ov 0 hi)/\match strip (F5 ov 0 lo),strip (F5 ov 0 hi) with
   | .v (.int _ l),.v (.int _ h)=>(p=true->l=0/\h=0)/\K (.v (.slice none 0 0))
   | _,_=>False
  | _=>False
 | .sub64 x y b=>req p (ov x)/\req p (ov y)/\req p (ov b)/\match strip (ov x),strip (ov y),strip (ov b) with
  | .v (.int .u64 a),.v (.int .u64 c),.v (.int .u64 d)=>(p=true->0<=a/\(0<=c/\c<18446744073709551616)/\(0<=d/\d<=1))/\K (.tup [.v (.int .u64 ((a+18446744073709551616-c-d)%18446744073709551616)),.v (.int .u64 (if a<c+d then 1 else 0))])
  | _,_,_=>False
 | .cap x=>req p (ov x)/\match strip (ov x) with
  | .v (.slice none 0 0)=>K (.v (.int .i64 0))
  | .nl=>K (.v (.int .i64 0))
  | _=>False
 | .slca sz n x=>req p (ov x)/\match strip (ov x) with
  | .bp k 0=>n<=1000000/\K (.wv k sz 0 n)
  | _=>False
 | .zcap x=>req p (ov x)/\match strip (ov x) with
  | .sl _ _=>K .nl
  | .rv _=>K .nl
  | .nl=>K .nl
  | .v (.slice _ _ _)=>K .nl
  | _=>False
 | .max x y=>req p (ov x)/\req p (ov y)/\match strip (ov x),strip (ov y) with
  | .v (.int k a),.v (.int _ b)=>K (.v (.int k (if a<b then b else a)))
  | _,_=>False
 | .min x y=>req p (ov x)/\req p (ov y)/\match strip (ov x),strip (ov y) with
  | .v (.int k a),.v (.int _ b)=>K (.v (.int k (if b<a then b else a)))
  | _,_=>False
 | .aeq neg ks x y=>req p (ov x)/\req p (ov y)/\match a4q (strip (ov x)),a4q (strip (ov y)) with
  | some cs,some ds=>eqC ks cs ds λr=>K (.v (.bool (bif neg then !r else r)))
  | _,_=>False
 | .isnil true neg x=>req p (ov x)/\match strip (ov x) with
  | .v .nilIface=>K (.v (.bool (!neg)))
  | .v (.iface _ _)=>K (.v (.bool neg))
  | .any S=>(∀z,S z->(a5u z).isSome=true)/\K (.any λy=>∃z b,S z/\a5u z=some b/\y=.bool (bif neg then !b else b))
  | _=>False
 | .isnil false neg x=>req p (ov x)/\match strip (ov x) with
  | .v (.slice none 0 0)=>K (.v (.bool (!neg)))
  | .nl=>K (.any λy=>∃b,y=.bool b)
  | .sl _ es=>K (.any λy=>∃b,y=.bool b/\(es≠[]->b=neg))
  | _=>False
 | .clo f caps=>a4j p ov caps/\K (.clo f (a1U ov caps))
 | .bnd f x=>req p (ov x)/\K (.bnd f (strip (ov x)))
 | .lkp str zero ok m k=>req p (ov m)/\req p (ov k)/\match strip (ov m),strip (ov k) with
  | .mp j,.v key=>match rs[j]? with
   | some (.map s es)=>s=str/\(p=true->Y3 str key=true)/\K (b6i ok zero (a0d key es))
   | _=>False
  | _,_=>False
 | _=>False
inductive Is (P:Program) (ty:TypeId):Op->IOp->Prop where
 | mv (x:Operand):Is P ty (.move x) (.mv x)
 | asg (x:Operand):Is P ty (.assign x) (.mv x)
 | pick (c x y:Operand):Is P ty (.pick c x y) (.pick c x y)
 | bin (b:BinOp) (t yt:TypeId) (x y:Operand):Is P ty (.binOp b t x y yt) (.bin b x y)
 | beqT (t yt:TypeId) (x y:Operand) (h:P.underlying t=some .bool):Is P ty (.binOp .eql t x y yt) (.beq false x y)
 | beqF (t yt:TypeId) (x y:Operand) (h:P.underlying t=some .bool):Is P ty (.binOp .neq t x y yt) (.beq true x y)
 | un (u:UnOp) (t:TypeId) (x:Operand):Is P ty (.unOp u t x) (.un u x)
 | conv (s d:TypeId) (k k':IntKind) (x:Operand) (hs:P.underlying s=some (.int k')) (hd:P.underlying d=some (.int k)):Is P ty (.convert s d x) (.conv k x)
 | fld (s:TypeId) (f:Nat) (fl:Field) (sz:Nat) (x:Operand) (d:TypeDesc) (h:a4y P s f=some (fl,sz)) (hd:P.underlying fl.type=some d):Is P ty (.field s x f) (.fld (O7 (some d)) fl.offset sz x)
 | ext (x:Operand) (i:Nat):Is P ty (.extract x i) (.ext x i)
 | build (t:TypeId) (ps:Array (Nat×Operand)) (fields:Array Field) (i:TypeInfo) (z:Value) (r:List (Nat×Nat×Operand))
  (ht:P.underlying t=some (.struct fields)) (hi:P.info? t=some i) (hz:i.zero=some z) (hall:(fields.toList.all λf=>(P.info? f.type).isSome)=true) (hp:partsOf P fields ps.toList=some r):Is P ty (.build t ps) (.build z.cells.toList r)
 | load (t:TypeId) (x:Operand) (i:TypeInfo) (d:TypeDesc) (hi:P.info? t=some i) (hd:P.underlying t=some d):Is P ty (.load t x) (.load (O7 (some d)) i.size x)
 | store (t:TypeId) (x y:Operand) (i:TypeInfo) (hi:P.info? t=some i):Is P ty (.store t x y) (.store i.size x y)
 | nilck (x:Operand):Is P ty (.nilCheck x) (.nilck x)
 | faddr (s:TypeId) (f:Nat) (fl:Field) (sz:Nat) (x:Operand) (h:a4y P s f=some (fl,sz)) (h0:sz≠0):Is P ty (.fieldAddr s x f) (.faddr fl.offset x)
 | iaddr (t e:TypeId) (ie:TypeInfo) (x i:Operand) (ht:P.underlying t=some (.slice e)) (hi:P.info? e=some ie):Is P ty (.indexAddr t x i) (.iaddr ie.size x i)
 | idxs (t:TypeId) (x i:Operand) (ht:P.underlying t=some .string):Is P ty (.index t x i) (.idxs x i)
 | slcl (t e:TypeId) (ie:TypeInfo) (x:Operand) (lo hi:Option Operand) (ht:P.underlying t=some (.slice e)) (hi':P.info? e=some ie):Is P ty (.slice t x lo hi none) (.slcl ie.size x lo hi)
 | slcs (t:TypeId) (x:Operand) (lo hi:Option Operand) (ht:P.underlying t=some .string):Is P ty (.slice t x lo hi none) (.slcs x lo hi)
 | alloc (t:TypeId) (i:TypeInfo) (z:Value) (hi:P.info? t=some i) (hz:i.zero=some z):Is P ty (.alloc t) (.alloc t z.cells.toList)
 | box (t:TypeId) (x:Operand):Is P ty (.box t x) (.box t x)
 | bsl (t e:TypeId) (n:Nat) (ps:Array (Nat×Operand)) (i:TypeInfo) (z:Value) (ht:P.underlying t=some (.slice e)) (hi:P.info? e=some i) (hz:i.zero=some z) (hn:¬n*i.size=0) (hzs:z.cells.size=i.size) :
  Is P ty (.buildSlice t n ps) (.bsl e i.size n z.cells.toList ps.toList)
 | a6F (t e:TypeId) (l c:Operand) (i:TypeInfo) (z:Value) (ht:P.underlying t=some (.slice e)) (hi:P.info? e=some i) (hz:i.zero=some z) (hzs:z.cells.size=i.size) (h0:0<i.size):Is P ty (.makeSlice t l c) (.a6F e i.bytes z.cells.toList l c)
 | aeqT (t yt:TypeId) (x y:Operand) (ks:List LK) (hg:P.eqGuardType P.depth t=false) (hl:leaves P 20 t=some ks) (hs:∃fs,P.underlying t=some (.struct fs)):Is P ty (.binOp .eql t x y yt) (.aeq false ks x y)
 | aeqF (t yt:TypeId) (x y:Operand) (ks:List LK) (hg:P.eqGuardType P.depth t=false) (hl:leaves P 20 t=some ks) (hs:∃fs,P.underlying t=some (.struct fs)):Is P ty (.binOp .neq t x y yt) (.aeq true ks x y)
 | nilIT (t yt:TypeId) (x:Operand) (hs:∃ms,P.underlying t=some (.interface ms)):Is P ty (.binOp .eql t x (.const .nilIface) yt) (.isnil true false x)
 | nilIF (t yt:TypeId) (x:Operand) (hs:∃ms,P.underlying t=some (.interface ms)):Is P ty (.binOp .neq t x (.const .nilIface) yt) (.isnil true true x)
 | nilST (t yt:TypeId) (x:Operand) (hs:∃e,P.underlying t=some (.slice e)):Is P ty (.binOp .eql t x (.const (.slice none 0 0)) yt) (.isnil false false x)
 | nilSF (t yt:TypeId) (x:Operand) (hs:∃e,P.underlying t=some (.slice e)):Is P ty (.binOp .neq t x (.const (.slice none 0 0)) yt) (.isnil false true x)
 | a5t (t e:TypeId) (ps:Array (Nat×Operand)) (i:TypeInfo) (ht:P.underlying t=some (.slice e)) (hi:P.info? e=some i) (hps:ps.size=0):Is P ty (.buildSlice t 0 ps) (.a5t e)
 | clo (f:FuncId) (first caps:Array Operand) (h:first.size=0):Is P ty (.makeFunc (.func f) first caps) (.clo f caps.toList)
 | bnd (f:FuncId) (first caps:Array Operand) (x:Operand) (h:first.toList=[x]) (h2:caps.toList=[]):Is P ty (.makeFunc (.func f) first caps) (.bnd f x)
 | mkmap (t e:TypeId) (str:Bool) (hk:a2o P t=some (str,e)):Is P ty (.makeMap t none) (.mkmap str)
 | lkp (t e:TypeId) (str ok:Bool) (m k:Operand) (i:TypeInfo) (z:Value) (hk:a2o P t=some (str,e)) (hi:P.info? e=some i) (hz:i.zero=some z):Is P ty (.lookup t m k ok) (.lkp str z ok m k)
 | mupd (t e:TypeId) (str:Bool) (m k v:Operand) (hk:a2o P t=some (str,e)):Is P ty (.mapUpdate t m k v) (.mupd str m k v)
 | zcap (t e:TypeId) (x:Operand) (lo hi:Option Operand) (mx:Operand) (ie:TypeInfo) (ht:P.underlying t=some (.slice e)) (hi':P.info? e=some ie) (hb:a8k lo hi (some mx)=true):Is P ty (.slice t x lo hi (some mx)) (.zcap x)
 | iaddra (t e:TypeId) (n:Nat) (ie:TypeInfo) (x i:Operand) (ht:P.underlying t=some (.array n e)) (hi:P.info? e=some ie) (h0:0<ie.size):Is P ty (.indexAddr t x i) (.iaddra ie.size n x i)
 | call (c:Call) (f:Nat) (hc:c.callee=.value (.func f)) (h:callable P f=true):Is P ty (.call c) (.call f c.args.toList)
 | Z4 (c:Call) (x:Operand) (hc:c.callee=.value x):Is P ty (.call c) (.Z4 x c.args.toList)
 | lenS (c:Call) (t:TypeId) (x:Operand) (hc:c.callee=.builtin .len) (hat:c.argTypes.toList=[t]) (ha:c.args.toList=[x]) (ht:P.underlying t=some .string):Is P ty (.call c) (.len true x)
 | lenL (c:Call) (t e:TypeId) (x:Operand) (hc:c.callee=.builtin .len) (hat:c.argTypes.toList=[t]) (ha:c.args.toList=[x]) (ht:P.underlying t=some (.slice e)):Is P ty (.call c) (.len false x)
 | app (c:Call) (t e:TypeId) (i:TypeInfo) (s x:Operand) (hc:c.callee=.builtin .append) (hat:c.argTypes.toList=[t,t]) (ha:c.args.toList=[s,x]) (ht:P.underlying t=some (.slice e)) (hi:P.info? e=some i) (z:Value) (hz:i.zero=some z) (hzs:z.cells.size=i.size) :
  Is P ty (.call c) (.app e i.size i.bytes s x)
 | apps (c:Call) (t t' e:TypeId) (i:TypeInfo) (s x:Operand) (hc:c.callee=.builtin .append) (hat:c.argTypes.toList=[t,t']) (ha:c.args.toList=[s,x]) (ht:P.underlying t=some (.slice e)) (ht':P.underlying t'=some .string) (hi:P.info? e=some i) (hz:i.zero=some (.int .u8 0)) (hs1:i.size=1) (hb1:i.bytes=1) :
  Is P ty (.call c) (.apps e s x)
 | toStr (s d e:TypeId) (x:Operand) (hs:P.underlying s=some (.slice e)) (he:P.underlying e=some (.int .u8)) (hd:P.underlying d=some .string):Is P ty (.convert s d x) (.toStr x)
 | bytes (s d e:TypeId) (x:Operand) (hs:P.underlying s=some .string) (hd:P.underlying d=some (.slice e)) (he:P.underlying e=some (.int .u8)):Is P ty (.convert s d x) (.bytes e x)
 | max (c:Call) (x y:Operand) (hc:c.callee=.builtin .max) (ha:c.args.toList=[x,y]):Is P ty (.call c) (.max x y)
 | min (c:Call) (x y:Operand) (hc:c.callee=.builtin .min) (ha:c.args.toList=[x,y]):Is P ty (.call c) (.min x y)
 | appz (c:Call) (t t':TypeId) (kn:IntKind) (e:TypeId) (i:TypeInfo) (s x:Operand) (hc:c.callee=.builtin .append) (hat:c.argTypes.toList=[t,t']) (ha:c.args.toList=[s,x]) (ht:P.underlying t=some (.slice e)) (ht':P.underlying t'=some (.int kn)) (hi:P.info? e=some i) (z:Value) (hz:i.zero=some z) (hzs:z.cells.size=i.size) (h0:0<i.size) :
  Is P ty (.call c) (.appz e i.bytes z.cells.toList s x)
 | sub64 (c:Call) (f:Nat) (x y b:Operand) (hc:c.callee=.value (.func f)) (h:a9Z P f=true) (ha:c.args.toList=[x,y,b]):Is P ty (.call c) (.sub64 x y b)
 | cap (c:Call) (t e:TypeId) (x:Operand) (hc:c.callee=.builtin .cap) (hat:c.argTypes.toList=[t]) (ha:c.args.toList=[x]) (ht:P.underlying t=some (.slice e)):Is P ty (.call c) (.cap x)
 | clr (c:Call) (t e:TypeId) (i:TypeInfo) (x:Operand) (hc:c.callee=.builtin .clear) (hat:c.argTypes.toList=[t]) (ha:c.args.toList=[x]) (ht:P.underlying t=some (.slice e)) (hi:P.info? e=some i) (z:Value) (hz:i.zero=some z) (hzs:z.cells.size=i.size) :
  Is P ty (.call c) (.clr z.cells.toList x)
 | mark (s d e:TypeId) (x:Operand) (hsd:s=d) (hs:P.underlying s=some (.slice e)) (he:P.underlying e=some (.int .u8)):Is P ty (.convert s d x) (.mark x)
 | slca (t e:TypeId) (n:Nat) (ie:TypeInfo) (x:Operand) (ht:P.underlying t=some (.array n e)) (hi:P.info? e=some ie):Is P ty (.slice t x none none none) (.slca ie.size n x)
 | raw (o:Op):Is P ty o (.raw o ty)
def b1U{P:Program}{B:TypeId}{c:Call}{b:Builtin}{D:IOp}(u:c.callee=.builtin b)(h:a7m P B c b=some D):Is P B (.call c) D:=by
 unfold a7m at h;split at h
 ·split at h
  ·split at h
   ·injection h with h;subst h;exact .lenS c _ _ u (by assumption) (by assumption) (by assumption)
   ·injection h with h;subst h;exact .lenL c _ _ _ u (by assumption) (by assumption) (by assumption)
   ·injection h with h;subst h;exact .raw ..
  ·injection h with h;subst h;exact .raw ..
 ·split at h
  ·split at h
   ·rename_i A;subst A;split at h
    ·split at h
     ·split at h
      ·split at h
       ·injection h with h;subst h;exact .app c _ _ _ _ _ u (by assumption) (by assumption) (by assumption) (by assumption) _ (by assumption) (by assumption)
       ·cases h
      ·cases h
     ·cases h
    ·cases h
   ·split at h
    ·split at h
     ·split at h
      ·split at h
       ·split at h
        ·injection h with h;subst h;exact .apps c _ _ _ _ _ _ u (by assumption) (by assumption) (by assumption) (by assumption) (by assumption) (by assumption) (by assumption) (by assumption)
        ·cases h
       ·cases h
      ·cases h
     ·cases h
    ·split at h
     ·split at h
      ·split at h
       ·split at h
        ·injection h with h;subst h;exact .appz c _ _ _ _ _ _ _ u (by assumption) (by assumption) (by assumption) (by assumption) (by assumption) _ (by assumption) (by assumption) (by assumption)
        ·cases h
       ·cases h
      ·cases h
     ·cases h
    ·injection h with h;subst h;exact .raw ..
  ·cases h
 ·split at h
  ·split at h
   ·injection h with h;subst h;exact .cap c _ _ _ u (by assumption) (by assumption) (by assumption)
   ·injection h with h;subst h;exact .raw ..
  ·injection h with h;subst h;exact .raw ..
 ·split at h
  ·injection h with h;subst h;exact .max c _ _ u (by assumption)
  ·injection h with h;subst h;exact .raw ..
 ·split at h
  ·injection h with h;subst h;exact .min c _ _ u (by assumption)
  ·injection h with h;subst h;exact .raw ..
 ·split at h
  ·split at h
   ·split at h
    ·split at h
     ·split at h
      ·injection h with h;subst h;exact .clr c _ _ _ _ u (by assumption) (by assumption) (by assumption) (by assumption) _ (by assumption) (by assumption)
      ·cases h
     ·cases h
    ·cases h
   ·injection h with h;subst h;exact .raw ..
  ·injection h with h;subst h;exact .raw ..
 ·injection h with h;subst h;exact .raw ..
def b6h{P:Program}{A:TypeId}{c:Call}{u:IOp}(h:b0R P A c=some u):Is P A (.call c) u:=by
 unfold b0R at h;split at h
 ·split at h
  ·injection h with h;subst h;exact .call c _ (by assumption) (by assumption)
  ·split at h
   ·split at h
    ·injection h with h;subst h;exact .sub64 c _ _ _ _ (by assumption) (by assumption) (by assumption)
    ·cases h
   ·cases h
 ·injection h with h;subst h;exact .Z4 c _ (by assumption)
 ·exact b1U (by assumption) h
 ·injection h with h;subst h;exact .raw ..
def b7o{P:Program}{F t B:TypeId}{x y:Operand}{A:IOp}(h:a7O P false t x y=some A):Is P F (.binOp .eql t x y B) A:=by
 unfold a7O at h;split at h
 ·rename_i u;split at h
  ·cases h
  ·rename_i D;split at h
   ·rename_i E;injection h with h;subst h;exact .aeqT _ _ _ _ _ (by simpa using D) E ⟨_,u⟩
   ·cases h
 ·rename_i u;injection h with h;subst h;exact .nilIT _ _ _ ⟨_,u⟩
 ·rename_i u;injection h with h;subst h;exact .nilST _ _ _ ⟨_,u⟩
 ·cases h
def b6Z{P:Program}{F t B:TypeId}{x y:Operand}{A:IOp}(h:a7O P true t x y=some A):Is P F (.binOp .neq t x y B) A:=by
 unfold a7O at h;split at h
 ·rename_i u;split at h
  ·cases h
  ·rename_i D;split at h
   ·rename_i E;injection h with h;subst h;exact .aeqF _ _ _ _ _ (by simpa using D) E ⟨_,u⟩
   ·cases h
 ·rename_i u;injection h with h;subst h;exact .nilIF _ _ _ ⟨_,u⟩
 ·rename_i u;injection h with h;subst h;exact .nilSF _ _ _ ⟨_,u⟩
 ·cases h
def c5m{P:Program}{u:TypeId}{A:Op}{B:IOp}(h:b6v P u A=some B):Is P u A B:=by
 unfold b6v at h;split at h
 all_goals (repeat' split at h)
 all_goals first
  | (cases h;done)
  | exact b6h h
  | (injection h with h;subst h;first
   | (constructor<;>assumption)
   | exact .toStr _ _ _ _ (by assumption) (by assumption) (by assumption)
   | exact .bytes _ _ _ _ (by assumption) (by assumption) (by assumption)
   | exact .mark _ _ _ _ (by assumption) (by assumption) (by assumption)
   | exact .bsl _ _ _ _ _ _ (by assumption) (by assumption) (by assumption) (by assumption) (by assumption)
   | exact .a6F _ _ _ _ _ _ (by assumption) (by assumption) (by assumption) (by assumption) (by assumption)
   | exact .lkp _ _ _ _ _ _ _ _ (by assumption) (by assumption) (by assumption)
   | exact .mupd _ _ _ _ _ _ (by assumption)
   | exact .zcap _ _ _ _ _ _ _ (by assumption) (by assumption) (by assumption)
   | exact .iaddra _ _ _ _ _ _ (by assumption) (by assumption) (by assumption)
   | exact .slca _ _ _ _ _ (by assumption) (by assumption)
   | exact .mkmap _ _ _ (by assumption)
   | exact .clo _ _ _ (by assumption)
   | exact .bnd _ _ _ _ (by assumption) (by assumption)
   | exact b7o (by assumption)
   | exact b6Z (by assumption)
   | (rename_i D _;subst D;exact .a5t _ _ _ _ (by assumption) (by assumption) (by assumption))
   | exact .fld _ _ _ _ _ _ (by assumption) (by assumption)
   | exact .load _ _ _ _ (by assumption) (by assumption)
   | exact .faddr _ _ _ _ _ (by assumption) (by assumption)
   | exact .asg _
   | exact .mv _
   | exact .beqT _ _ _ _ (by assumption)
   | exact .beqF _ _ _ _ (by assumption)
   | exact .raw ..)
def eqV:List LK->List Value->List Value->Option Bool
 | [],[],[]=>some true
 | .i::ks,.int k a::xs,.int k' b::ys=>if k=k' then(eqV ks xs ys).map λr=>decide (a=b)&&r else none
 | .s::ks,.string a::xs,.string b::ys=>(eqV ks xs ys).map λr=>decide (a=b)&&r
 | .b::ks,.bool a::xs,.bool b::ys=>(eqV ks xs ys).map λr=>(a==b)&&r
 | _,_,_=>none
def b2Y:∀{ks:List LK} {cs F:List C} {K:Bool->Prop},eqC ks cs F K->∃r,K r/\∀(ν:List Value) (w:World) (O:Nat->Prop) xs ys,l6 ν w O cs xs->l6 ν w O F ys->eqV ks xs ys=some r:=by
 intro ks
 induction ks with
 | nil=>
  intro cs F K h;cases cs<;>cases F<;>first|exact h.elim|skip
  refine⟨true,h,λν w O xs ys A B=>?_⟩;simp only[l6]at A B;subst A B;rfl
 | cons q ks ih=>
  intro cs F K h;unfold eqC at h;split at h
  ·rename_i e;cases e
  ·rename_i I k a cs J b F e;injection e with G H;subst G H;obtain⟨rfl,h⟩:=h;obtain⟨r,hr,u⟩:=ih h;refine⟨_,hr,λν w O xs ys A B=>?_⟩;simp only[l6,Den]at A B;obtain⟨_,D,rfl,rfl,A⟩:=A;obtain⟨_,E,rfl,rfl,B⟩:=B;simp[eqV,u ν w O D E A B]
  ·rename_i I a cs b F e;injection e with G H;subst G H;obtain⟨r,hr,u⟩:=ih h;refine⟨_,hr,λν w O xs ys A B=>?_⟩;simp only[l6,Den]at A B;obtain⟨_,D,rfl,rfl,A⟩:=A;obtain⟨_,E,rfl,rfl,B⟩:=B;simp[eqV,u ν w O D E A B]
  ·rename_i I a cs b F e;injection e with G H;subst G H;obtain⟨r,hr,u⟩:=ih h;refine⟨_,hr,λν w O xs ys A B=>?_⟩;simp only[l6,Den]at A B;obtain⟨_,D,rfl,rfl,A⟩:=A;obtain⟨_,E,rfl,rfl,B⟩:=B;simp[eqV,u ν w O D E A B]
  ·exact h.elim
def a7I:∀{ks:List LK} {u B:List Value} {r:Bool},eqV ks u B=some r->u.length=ks.length/\B.length=ks.length:=by
 intro ks
 induction ks with
 | nil=>
  intro u B r h;cases u<;>cases B<;>simp[eqV]at h ⊢
 | cons q ks ih=>
  intro u B r h;unfold eqV at h;split at h
  ·rename_i e;cases e
  ·rename_i e;injection e with D A;subst D A;split at h
   ·rw[Option.map_eq_some_iff]at h;obtain⟨E,h,_⟩:=h;have:=ih h;simp[this]
   ·cases h
  ·rename_i e;injection e with D A;subst D A;rw[Option.map_eq_some_iff]at h;obtain⟨E,h,_⟩:=h;have:=ih h;simp[this]
  ·rename_i e;injection e with D A;subst D A;rw[Option.map_eq_some_iff]at h;obtain⟨E,h,_⟩:=h;have:=ih h;simp[this]
  ·cases h
def b9k:∀{ks ls:List LK} {u F:List Value} {r:Bool},eqV (ks++ls) u F=some r ->
  ∃r1 r2,eqV ks (u.take ks.length) (F.take ks.length)=some r1/\eqV ls (u.drop ks.length) (F.drop ks.length)=some r2/\r=(r1&&r2):=by
 intro ks
 induction ks with
 | nil=>intro ls u F r h;exact⟨true,r,by simp[eqV],by simpa using h,by simp⟩
 | cons q ks ih=>
  intro ls u F r h;rw[List.cons_append]at h;unfold eqV at h;split at h
  ·rename_i e;cases e
  ·rename_i e;injection e with A B;subst A B;split at h
   ·rw[Option.map_eq_some_iff]at h;obtain⟨G,h,rfl⟩:=h;obtain⟨r1,r2,D,E,rfl⟩:=ih h;rename_i H;refine⟨_,r2,?_,by simpa using E,(Bool.and_assoc _ _ _).symm⟩;simp[eqV,H,D]
   ·cases h
  ·rename_i e;injection e with A B;subst A B;rw[Option.map_eq_some_iff]at h;obtain⟨G,h,rfl⟩:=h;obtain⟨r1,r2,D,E,rfl⟩:=ih h;refine⟨_,r2,?_,by simpa using E,(Bool.and_assoc _ _ _).symm⟩;simp[eqV,D]
  ·rename_i e;injection e with A B;subst A B;rw[Option.map_eq_some_iff]at h;obtain⟨G,h,rfl⟩:=h;obtain⟨r1,r2,D,E,rfl⟩:=ih h;refine⟨_,r2,?_,by simpa using E,(Bool.and_assoc _ _ _).symm⟩;simp[eqV,D]
  ·cases h
def asV(agg:Bool)(l:List Value):Value:=if agg then .agg l.toArray else l.headD undef
section
variable {P:Program}
def b5C{w:World}{t:TypeId}{d:TypeDesc}{i:TypeInfo}{X:List Value}{off:Nat}{n:Nat}(F:P.underlying t=some d)(G:P.info? t=some i)(H:i.size=n)(E:O7 (some d)=false->n=1)(B:((X.drop off).take n).length=n) :
  (part t X.toArray off).run P w=.ok (asV (O7 (some d)) ((X.drop off).take n)) w:=by
 have h:(isAgg t).run P w=.ok (O7 (some d)) w:=by
  unfold isAgg;rw[Sem.run_bind,run_underlying F w];cases d<;>rfl
 unfold part;rw[Sem.run_bind,h];simp only[Result.andThen_ok];cases D:O7 (some d) with
 | true=>
  simp only[if_true,Sem.run_bind,sizeOf,typeInfo,run_program,G,Result.andThen_ok,Sem.run_pure,asV];congr 2;rw[H];apply Array.ext';simp[List.take_drop]
 | false=>
  have u:=E D;subst u;simp only[if_false,d0P,asV];cases A:X.drop off with
  | nil=>rw[A]at B;simp at B
  | cons v r=>
   have:X[off]?=some v:=by
    have:=congrArg (·[0]?) A;simpa[d0Q] using this
   simp[this]
def c7a(P:Program)(D:Nat)(t:TypeId)(ks:List LK):Prop:=
 (∃d,P.underlying t=some d/\(O7 (some d)=false->ks.length=1)/\∀xs ys r w,eqV ks xs ys=some r->(Op.equalIn D t (asV (O7 (some d)) xs) (asV (O7 (some d)) ys)).run P w=.ok r w)
theorem b0p{lf:TypeId->Option (List LK)}{D:Nat}(IH:∀t ks,lf t=some ks->c7a P D t ks):∀(fs:List Field) (off:Nat) (ks:List LK),a7N lf P off fs=some ks ->
  ∀(X Y:List Value) (r:Bool) (w:World),eqV ks (X.drop off) (Y.drop off)=some r->(Op.eqFields D X.toArray Y.toArray fs).run P w=.ok r w
 | [],off,ks,h,X,Y,r,w,he=>by
  simp only[a7N,Option.some.injEq]at h;subst h;have hl:=a7I he;have h1:X.drop off=[]:=d0I hl.1;have h2:Y.drop off=[]:=d0I hl.2;rw[h1,h2]at he;simp only[eqV,Option.some.injEq]at he;subst he;simp[Op.eqFields]
 | f::fs,off,ks,h,X,Y,r,w,he=>by
  simp only[a7N]at h;split at h
  ·cases h
  ·rename_i hname;split at h
   ·rename_i hoff;split at h
    ·rename_i ks1 i hk1 hi;split at h
     ·rename_i hsz;split at h
      ·rename_i rest hrest;injection h with h;subst h;obtain⟨r1,r2,g1,g2,rfl⟩:=b9k he;obtain⟨d,hd,hd1,hrun⟩:=IH _ _ hk1;have hl:=a7I g1;have hX:=b5C (w:=w) hd hi hsz hd1 hl.1;have hY:=b5C (w:=w) hd hi hsz hd1 hl.2;have hne:f.name ≠ "_" := by simpa using hname
       rw[List.drop_drop]at g2;rw[List.drop_drop]at g2;have hrec:=b0p IH fs (off+ks1.length) rest hrest X Y r2 w g2;unfold Op.eqFields;rw[if_pos hne];simp only[Sem.run_bind,hoff,hX,hY,Result.andThen_ok,hrun _ _ _ w g1];cases r1 with
       | true=>simpa using hrec
       | false=>simp
      ·cases h
     ·cases h
    ·cases h
   ·cases h
theorem b2d:∀(d e:Nat) (t:TypeId) (ks:List LK),leaves P d t=some ks->c7a P (d+e) t ks
 | 0,e,t,ks,h=>by cases h
 | d+1,e,t,ks,h=>by
  unfold leaves at h;have hD:d+1+e=(d+e)+1:=by omega
  rw[hD];split at h
  ·rename_i k E;injection h with h;subst h;refine⟨_,E,λ_=>rfl,λD F r w u=>?_⟩;unfold eqV at u;split at u
   ·rename_i e;cases e
   ·rename_i O V a D X b F e;injection e with B G;subst G;split at u
    ·rename_i W;subst W;have H:=a7I (ks:=[]) (r:=(eqV [] D F).getD true) (by
      rw[Option.map_eq_some_iff]at u;obtain⟨T,A,_⟩:=u;rw[A];rfl)
     have J:D=[]:=d0I H.1;have N:F=[]:=d0I H.2;subst J N;simp only[eqV,d0e,Option.some.injEq,Bool.and_true]at u;subst u;have:=run_equalIn_int (P:=P) w (d+e) t V k a b E;simp only[asV,O7,d0P,if_false,List.headD_cons];rw[this];rfl
    ·cases u
   ·rename_i e;injection e with B G;cases B
   ·rename_i e;injection e with B G;cases B
   ·cases u
  ·rename_i E;injection h with h;subst h;refine⟨_,E,λ_=>rfl,λD F r w u=>?_⟩;unfold eqV at u;split at u
   ·rename_i e;cases e
   ·rename_i e;injection e with B G;cases B
   ·rename_i O a D b F e;injection e with B G;subst G;rw[Option.map_eq_some_iff]at u;obtain⟨T,A,rfl⟩:=u;have H:=a7I A;have J:D=[]:=d0I H.1;have N:F=[]:=d0I H.2;subst J N;simp only[eqV,Option.some.injEq]at A;subst A;have:=run_equalIn_string (P:=P) w (d+e) t a b E;simp only[asV,O7,d0P,if_false,List.headD_cons,Bool.and_true];rw[this];congr 1;rw[<- beq_toListBytes];by_cases I:a=b
    ·subst I;simp only[decide_true];rw[beq_toListBytes];simp
    ·simp only[I,decide_false];rw[beq_toListBytes];rw[beq_eq_false_iff_ne];intro M;apply I;rw[ByteArray.toList_eq,ByteArray.toList_eq]at M;obtain⟨⟨x⟩⟩:=a;obtain⟨⟨y⟩⟩:=b;simp only at M;subst M;rfl
   ·rename_i e;injection e with B G;cases B
   ·cases u
  ·rename_i E;injection h with h;subst h;refine⟨_,E,λ_=>rfl,λD F r w u=>?_⟩;unfold eqV at u;split at u
   ·rename_i e;cases e
   ·rename_i e;injection e with B G;cases B
   ·rename_i e;injection e with B G;cases B
   ·rename_i O a D b F e;injection e with B G;subst G;rw[Option.map_eq_some_iff]at u;obtain⟨T,A,rfl⟩:=u;have H:=a7I A;have J:D=[]:=d0I H.1;have N:F=[]:=d0I H.2;subst J N;simp only[eqV,Option.some.injEq]at A;subst A;have:=run_equalIn_bool' (P:=P) w (d+e) t a b E;simp only[asV,O7,d0P,if_false,List.headD_cons,Bool.and_true];rw[this]
   ·cases u
  ·rename_i U E;split at h
   ·cases h
   ·rename_i R;refine⟨_,E,(λM=>by cases M),λD F r w u=>?_⟩;have K:P.fieldsOf t=U:=by simp[Program.fieldsOf,E]
    have:=run_equalIn_struct (P:=P) w (d+e) t D.toArray F.toArray (by rw[K];exact E) (by simpa using R);simp only[asV,O7,if_true];rw[this,K];exact b0p (λt ks h=>b2d d e t ks h) U.toList 0 ks h D F r w (by simpa using u)
  ·cases h
def b7P{w:World}{t:TypeId}{ks:List LK}{B D:List Value}{r:Bool}(F:leaves P 20 t=some ks)(A:∃fs,P.underlying t=some (.struct fs))(E:eqV ks B D=some r) :
  (Op.equalIn 10000 t (.agg B.toArray) (.agg D.toArray)).run P w=.ok r w:=by
 obtain⟨fs,A⟩:=A;obtain⟨d,u,_,h⟩:=b2d 20 9980 t ks F;rw[A]at u;injection u with u;subst u;exact h B D r w E
def b0l{w:World}{t:TypeId}{B:Array (String×TypeId)}(A:P.underlying t=some (.interface B)){z:Value}{b:Bool}(u:a5u z=some b):(Op.equal t z .nilIface).run P w=.ok b w:=by
 have h:∀d:Nat,(Op.equalIn (d+1) t z .nilIface).run P w=.ok b w:=λd=>by
  unfold Op.equalIn;rw[Sem.run_bind,run_underlying A];unfold a5u at u;split at u
  ·injection u with u;subst u;rfl
  ·injection u with u;subst u;rfl
  ·cases u
 exact h 9999
def a8L{w:World}{t:TypeId}{u:BinOp}{x:Operand}{z:Value}{b:Bool}(h:a5u z=some b):(eqGuard u t x (.const .nilIface) z .nilIface).run P w=.ok () w:=by
 unfold a5u at h;split at h
 ·cases u<;>simp[eqGuard]
 ·cases u<;>simp[eqGuard]
 ·cases h
def b6M{w:World}{t:TypeId}{z:Value}{b:Bool}(u:a5u z=some b)(h:(Op.equal t z .nilIface).run P w=.ok b w):(binOp .eql t z .nilIface).run P w=.ok (.bool b) w:=by
 unfold a5u at u;split at u
 ·simp only[binOp];simp[h]
 ·simp only[binOp];simp[h]
 ·cases u
def b7n{w:World}{t:TypeId}{z:Value}{b:Bool}(u:a5u z=some b)(h:(Op.equal t z .nilIface).run P w=.ok b w):(binOp .neq t z .nilIface).run P w=.ok (.bool (!b)) w:=by
 unfold a5u at u;split at u
 ·simp only[binOp];simp[h]
 ·simp only[binOp];simp[h]
 ·cases u
end
def Yl(P:Program)(ν:List Value)(w:World)(O:Nat->Prop)(a:Act)(oo:Oper)(s:C):Prop:=
 ∃y,Den ν w O s y/\(execOp a.eval oo).run P w=.ok (.value y) w
section
variable {P:Program} {ν:List Value} {rs:List Res} {a:Act} {w:World} {av own0:Nat->Prop} {n0:Nat} {ov:Operand->C}
def HR(ν:List Value)(w:World)(O:Nat->Prop)(rs:List Res):Prop:=∀(k:Nat) (r:Res),rs[k]?=some r->∃x,ν[k]?=some x/\N8 ν w O x r
def opS{O:Nat->Prop}{p:Bool}(hp:p=true){x:Operand}(h:Den ν w O (ov x) (a.eval x))(hr:req p (ov x)):Den ν w O (strip (ov x)) (a.eval x):=c1e hp hr h
def F6{O:Nat->Prop}{x y:Value}(h:Den ν w O (.v x) y):y=x:=by simpa only[Den] using h
def b3K(a b:ByteArray):(a.toList==b.toList)=decide (a=b):=by
 rw[<- beq_toListBytes];by_cases h:a=b
 ·subst h;rw[beq_toListBytes];simp
 ·simp only[h,decide_false];rw[beq_toListBytes];cases u:(a.toList==b.toList) with
  | false=>rfl
  | true=>
   rw[<- beq_toListBytes]at u;exact absurd (show a=b by
    have A:a.data=b.data:=by
     have:(a.data==b.data)=true:=u;exact eq_of_beq this
    cases a;cases b;simp_all) h
def c5X{P:Program}{t:TypeId}{X Y:Operand}(a b:ByteArray)(h:a.size+b.size<=9223372036854775807)(w':World) :
  (do eqGuard .add t X Y (.string a) (.string b);binOp .add t (.string a) (.string b):Sem Value).run P w'=.ok (.string (a++b)) w':=by
 have u:¬((a.size+b.size:Nat):Int)>IntKind.i64.max:=by
  simp only[IntKind.max,IntKind.signed,IntKind.bits,if_true];omega
 simp only[eqGuard,binOp,Op.stringOp,if_neg u];simp
def b9C{D:BinOp}{x y:Value}{p:Bool}{K:C->Prop}(A:p=true)(t:TypeId)(X Y:Operand)(P:Program)(h:a8a D x y p K) :
  ∃r,K (.v r)/\∀w',(do eqGuard D t X Y x y;binOp D t x y:Sem Value).run P w'=.ok r w':=by
 unfold a8a at h;split at h
 all_goals first
  | (exact h.elim)
  | (obtain⟨u,B,h⟩:=h;subst u;have B:=B A;exact⟨_,h,λw'=>by simp[eqGuard,binOp,Op.intDiv,B]⟩)
  | (obtain⟨u,h⟩:=h;subst u;exact⟨_,h,λw'=>by simp[eqGuard,binOp,Op.intArith,Op.intCmp,go_sem];try rfl⟩)
  | (obtain⟨u,h⟩:=h;have u:_<=(_:Int):=u A;exact⟨_,h,λw'=>by simp[eqGuard,binOp,Op.shift,Int.not_lt.2 u]⟩)
  | (obtain⟨u,h⟩:=h;have u:=u A;exact⟨_,h,λw'=>c5X _ _ u w'⟩)
  | (refine⟨_,h,λw'=>?_⟩;simp[eqGuard,binOp,Op.stringOp,b3K])
def add_add'(ad:Addr)(i j:Nat):(ad.add i).add j=ad.add (i+j):=by
 unfold Addr.add;by_cases u:i=0<;>by_cases h:j=0<;>simp[u,h,Nat.add_assoc]
def K4(b i j:Nat):(⟨b,i,none⟩:Addr).add j=⟨b,i+j,none⟩:=by
 unfold Addr.add;split<;>simp_all
def b0g{P:Program}(w:World)(t:TypeId)(i:TypeInfo)(ad:Addr)(vs:List Value)(d:TypeDesc)(B:P.info? t=some i)(D:P.underlying t=some d)(F:O7 (some d)=true)(A:vs.length=i.size)
  (E:∀j v,vs[j]?=some v->w.cell? (ad.add j)=some v):(loadVar t ad).run P w=.ok (.agg vs.toArray) w:=by
 have u:=run_loadCells_list (P:=P) w ad vs E;rw[A]at u;have h:(isAgg t).run P w=.ok true w:=by
  unfold isAgg;rw[Sem.run_bind,run_underlying D w];cases d<;>simp_all[O7]
 simp[loadVar,Sem.run_bind,h,sizeOf,typeInfo,B,u]
def b0M{P:Program}(w:World)(t:TypeId)(d:TypeDesc)(ad:Addr)(v:Value)(u:P.underlying t=some d)(B:O7 (some d)=false)(A:w.cell? ad=some v) :
  (loadVar t ad).run P w=.ok v w:=by
 have h:(isAgg t).run P w=.ok false w:=by
  unfold isAgg;rw[Sem.run_bind,run_underlying u w];cases d<;>simp_all[O7]
 simp[loadVar,Sem.run_bind,h,A]
def a7j{P:Program}(w:World)(s:TypeId)(f:Nat)(A:Field)(sz:Nat)(ad:Addr)(h:a4y P s f=some (A,sz))(I:sz≠0) :
  (Instr.fieldAt s (.pointer (some ad)) f).run P w=.ok (.pointer (some (ad.add A.offset))) w:=by
 unfold a4y at h;split at h
 ·rename_i u B;split at h
  ·rename_i G H;split at h
   ·rename_i i F;injection h with h;injection h with E D;subst E;simp[Instr.fieldAt,run_underlying B,H,Instr.sureAddr,fieldPlace,sizeOf,typeInfo,F,D,I]
   ·cases h
  ·cases h
 ·cases h
def b7b{p c:Bool}{x y:C}{K:C->Prop}(h:a9J p c x y K) :
  ∃s,K s/\∀(ν:List Value) (w:World) (O:Nat->Prop) (E D:Value),p=true->Den ν w O x E->Den ν w O y D->Den ν w O s (if c then E else D):=by
 unfold a9J at h;split at h
 ·refine⟨_,h,λν w O E D B u A=>?_⟩;simp only[Den]at u A ⊢;subst u A;cases c<;>rfl
 ·obtain⟨F,h⟩:=h;refine⟨_,h,λν w O E D B u A=>?_⟩;simp only[Den]at u A ⊢;subst A;cases c
  ·rfl
  ·simp[u.1 (F B rfl)]
 ·obtain⟨F,h⟩:=h;refine⟨_,h,λν w O E D B u A=>?_⟩;simp only[Den]at u A ⊢;subst u;cases c
  ·simp[A.1 (F B rfl)]
  ·rfl
 ·obtain⟨F,G,h⟩:=h;refine⟨_,h,λν w O E D B u A=>?_⟩;simp only[Den]at u A ⊢;cases c
  ·simp[A.1 (G B rfl)]
  ·simp[u.1 (F B rfl)]
 ·exact h.elim
def b4c{y:Value}(h:y.oneCell'=true):y.cells.toList=[y]:=by
 cases y<;>simp_all[Value.oneCell',Value.cells]
def one_den{O:Nat->Prop}{s:C}{y:Value}(h:Den ν w O s y)(u:s.one=true):y.oneCell'=true:=by
 cases s with
 | v x=>simp only[Den]at h;subst h;exact u
 | agg cs=>cases u
 | tup cs=>cases u
 | sl sz es=>simp only[Den,Fz]at h;obtain⟨A,c,rfl,_⟩:=h;rfl
 | nl=>simp only[Den]at h;obtain⟨A,rfl⟩:=h;rfl
 | ep cs=>simp only[Den,Fz]at h;obtain⟨ad,rfl,_⟩:=h;rfl
 | bp k off=>simp only[Den]at h;obtain⟨b,B,rfl⟩:=h;rfl
 | rv k=>simp only[Den]at h;obtain⟨_,A,n,c,rfl⟩:=h;rfl
 | rp k z i off=>simp only[Den]at h;obtain⟨b,n,c,B,rfl⟩:=h;rfl
 | mp k=>simp only[Den]at h;obtain⟨_,r,rfl⟩:=h;rfl
 | wv k z lo n=>simp only[Den]at h;obtain⟨A,c,rfl,_⟩:=h;rfl
 | clo f caps=>simp only[Den]at h;obtain⟨vs,B,rfl⟩:=h;rfl
 | bnd f x=>simp only[Den]at h;obtain⟨v,B,rfl⟩:=h;rfl
 | g p x=>cases u
 | any S=>cases u
 | junk=>cases u
theorem a3C{O:Nat->Prop}:∀{cs:List C} {vs:List Value},l6 ν w O cs vs->C.ones cs=true->∀u∈vs,u.oneCell'=true
 | [],vs,h,_=>by simp only[l6]at h;subst h;simp
 | c::cs,vs,h,ho=>by
  simp only[l6,C.ones,d0s]at h ho;obtain⟨y,ys,rfl,h1,h2⟩:=h;intro u A;cases List.mem_cons.1 A with
  | inl e=>subst e;exact one_den h1 ho.1
  | inr e=>exact a3C h2 ho.2 u e
def a2L{O:Nat->Prop}{s:C}{y:Value}(h:Den ν w O s y)(A:a2S s=true):l6 ν w O (cellsS s) y.cells.toList:=by
 have one:cellsS s=[s]->s.one=true->l6 ν w O (cellsS s) y.cells.toList:=λu B=>by
  rw[u,b4c (one_den h B)];exact⟨y,[],rfl,h,rfl⟩
 cases s with
 | agg cs=>
  simp only[Den]at h;obtain⟨vs,u,rfl⟩:=h;simpa[cellsS,Value.cells] using u
 | v x=>
  simp only[Den]at h;subst h;cases y with
  | agg cs=>simp only[cellsS,Value.cells];exact l6.vs _
  | _=>exact one rfl A
 | _=>exact one rfl A
def a1R{O:Nat->Prop}{s:C}{y:Value}{cs:List C}(h:Den ν w O s y)(u:a4q s=some cs):∃vs,y=.agg vs/\l6 ν w O cs vs.toList:=by
 unfold a4q at u;split at u
 ·injection u with u;subst u;simp only[Den]at h;obtain⟨vs,A,rfl⟩:=h;exact⟨_,rfl,by simpa using A⟩
 ·injection u with u;subst u;simp only[Den]at h;subst h;exact⟨_,rfl,l6.vs _⟩
 ·cases u
def a5M(ν:List Value)(w:World)(O:Nat->Prop)(cs:List C)(ad:Addr):Prop:=∃vs,l6 ν w O cs vs/\∀j v,vs[j]?=some v->w.cell? (ad.add j)=some v
theorem a5M.drop{O:Nat->Prop}{cs:List C}{ad:Addr}(n:Nat)(h:a5M ν w O cs ad):a5M ν w O (cs.drop n) (ad.add n):=by
 obtain⟨vs,B,A⟩:=h;refine⟨vs.drop n,B.drop n,λj v u=>?_⟩;rw[add_add'];exact A _ _ (by simpa[d0Q] using u)
theorem FzA.cells{O:Nat->Prop}:∀{cs:List C} {ad:Addr} {j:Nat},FzA w O cs ad j->∃vs,FzL w O cs vs/\(∀u∈vs,u.oneCell'=true)/\∀i v,vs[i]?=some v->w.cell? (ad.add (j+i))=some v
 | [],ad,j,_=>⟨[],by simp[FzL],by simp,by simp⟩
 | c::cs,ad,j,h=>by
  simp only[FzA]at h;obtain⟨⟨y,h1,h2,h3⟩,h4⟩:=h;obtain⟨vs,E,B,F⟩:=FzA.cells h4;refine⟨y::vs,⟨y,vs,rfl,h3,E⟩,?_,?_⟩
  ·intro u D;cases List.mem_cons.1 D with
   | inl e=>subst e;exact h2
   | inr e=>exact B u e
  ·intro i v A;cases i with
   | zero=>simp at A;subst A;exact h1
   | succ i=>
    have:=F i v (by simpa using A);rw[<- this];congr 2;omega
theorem FzA.of{O:Nat->Prop}:∀{cs:List C} {vs:List Value} {ad:Addr} {j:Nat},FzL w O cs vs->(∀u∈vs,u.oneCell'=true)->(∀i v,vs[i]?=some v->w.cell? (ad.add (j+i))=some v)->FzA w O cs ad j
 | [],vs,ad,j,_,_,_=>by simp only[FzA]
 | c::cs,vs,ad,j,h,h1,h2=>by
  simp only[FzL]at h;obtain⟨y,ys,rfl,h3,h4⟩:=h;simp only[FzA];refine⟨⟨y,h2 0 y rfl,h1 y (by simp),h3⟩,FzA.of h4 (λu B=>h1 u (by simp[B])) λi v A=>?_⟩;have:=h2 (i+1) v (by simpa using A);rw[<- this];congr 2;omega
theorem FzA.shift{O:Nat->Prop}:∀{cs:List C} {ad:Addr} {i j:Nat},FzA w O cs ad (i+j)->FzA w O cs (ad.add i) j
 | [],_,_,_,_=>by simp only[FzA]
 | c::cs,ad,i,j,h=>by
  simp only[FzA]at h ⊢;obtain⟨⟨y,h1,h2⟩,h3⟩:=h;exact⟨⟨y,by rw[add_add'];exact h1,h2⟩,FzA.shift (by rw[<- Nat.add_assoc];exact h3)⟩
theorem FzE.get{O:Nat->Prop}{sz:Nat}:∀{es:List (List C)} {ad:Addr} {i k:Nat} {e:List C},FzE w O sz es ad i->es[k]?=some e->e.length=sz/\FzA w O e ad ((i+k)*sz)
 | [],_,_,_,_,_,h=>by simp at h
 | e0::es,ad,i,0,e,h,he=>by
  simp only[FzE]at h;simp at he;subst he;exact⟨h.1,h.2.1⟩
 | e0::es,ad,i,k+1,e,h,he=>by
  simp only[FzE]at h;obtain⟨h1,h2⟩:=FzE.get h.2.2 (by simpa using he);exact⟨h1,by rw[show i+(k+1)=i+1+k by omega];exact h2⟩
theorem FzE.of{O:Nat->Prop}{sz:Nat}:∀{es:List (List C)} {ad:Addr} {i:Nat},(∀k e,es[k]?=some e->e.length=sz/\FzA w O e ad ((i+k)*sz))->FzE w O sz es ad i
 | [],_,_,_=>by simp only[FzE]
 | e0::es,ad,i,h=>by
  simp only[FzE];obtain⟨h1,h2⟩:=h 0 e0 rfl;refine⟨h1,h2,FzE.of λk e B=>?_⟩;obtain⟨u,A⟩:=h (k+1) e (by simpa using B);exact⟨u,by rw[show i+1+k=i+(k+1) by omega];exact A⟩
theorem FzE.cells{O:Nat->Prop}{sz:Nat}{es:List (List C)}{ad:Addr}(h:FzE w O sz es ad 0):(∀e∈es,e.length=sz)/\∃vs,FzL w O es.flatten vs/\(∀u∈vs,u.oneCell'=true)/\∀i v,vs[i]?=some v->w.cell? (ad.add i)=some v:=by
 have E:∀(es:List (List C)) (i:Nat),FzE w O sz es ad i->(∀e∈es,e.length=sz)/\FzA w O es.flatten ad (i*sz):=by
  intro es
  induction es with
  | nil=>intro i _;exact⟨by simp,by simp only[List.flatten_nil,FzA]⟩
  | cons e es ih=>
   intro i h;simp only[FzE]at h;obtain⟨B,I,M⟩:=h;obtain⟨D,G⟩:=ih _ M;refine⟨by intro N H;cases List.mem_cons.1 H with|inl q=>subst q;exact B|inr q=>exact D N q,?_⟩;simp only[List.flatten_cons];have app:∀(cs A:List C) (j:Nat),FzA w O cs ad j->FzA w O A ad (j+cs.length)->FzA w O (cs++A) ad j:=by
    intro cs
    induction cs with
    | nil=>intro A j _ J;simpa using J
    | cons c cs ihc=>
     intro A j F J;simp only[List.cons_append,FzA]at F ⊢;exact⟨F.1,ihc A _ F.2 (by rw[show j+1+cs.length=j+(c::cs).length by simp;omega];exact J)⟩
   refine app _ _ _ I ?_;rw[B,show i*sz+sz=(i+1)*sz by rw[Nat.add_mul];omega];exact G
 obtain⟨B,I⟩:=E es 0 h;obtain⟨vs,D,G,P⟩:=FzA.cells I;exact⟨B,vs,D,G,λi v K=>by have:=P i v K;simpa using this⟩
theorem Q9{α:Type}{sz:Nat}:∀{es:List (List α)},(∀e∈es,e.length=sz)->es.flatten.length=es.length*sz
 | [],_=>by simp
 | e::es,h=>by
  rw[List.flatten_cons,d0c,h e (by simp),Q9 (λe' he=>h e' (by simp[he])),d0j,Nat.add_mul];omega
theorem a3B{α:Type}{sz:Nat}:∀{es:List (List α)} {i:Nat} {e:List α},(∀e∈es,e.length=sz)->es[i]?=some e->(es.flatten.drop (i*sz)).take sz=e
 | [],i,e,_,h=>by simp at h
 | e0::es,0,e,hl,h=>by
  simp at h;subst h;have:=hl e0 (by simp);simp[List.take_append,this]
 | e0::es,i+1,e,hl,h=>by
  have u:=hl e0 (by simp);have:=a3B (es:=es) (i:=i) (e:=e) (λB A=>hl B (by simp[A])) (by simpa using h);rw[List.flatten_cons,List.drop_append,u,List.drop_eq_nil_of_le (by rw[u,Nat.add_mul];omega),List.nil_append,show(i+1)*sz-sz=i*sz by rw[Nat.add_mul];omega];exact this
theorem b0Y{α:Type}{sz:Nat}:∀{es:List (List α)} {i:Nat} {c:List α},(∀e∈es,e.length=sz)->i<es.length->(es.set i c).flatten=es.flatten.take (i*sz)++c++es.flatten.drop (i*sz+sz)
 | [],i,c,_,h=>by simp at h
 | e0::es,0,c,hl,_=>by
  have h0:=hl e0 (by simp);simp[List.drop_append,h0]
 | e0::es,i+1,c,hl,h=>by
  have h0:=hl e0 (by simp);have:=b0Y (es:=es) (i:=i) (c:=c) (λu A=>hl u (by simp[A])) (by simpa using h);have B:(i+1)*sz=e0.length+i*sz:=by rw[Nat.add_mul];omega
  simp only[List.set_cons_succ,List.flatten_cons,this,B,Nat.add_assoc,List.take_length_add_append,List.drop_length_add_append,d0o]
theorem b2U{α:Type}{sz:Nat}:∀{es:List (List α)} {i:Nat},(∀e∈es,e.length=sz)->(es.drop i).flatten=es.flatten.drop (i*sz)
 | [],i,_=>by simp
 | e::es,0,_=>by simp
 | e::es,i+1,h=>by
  have he:=h e (List.mem_cons_self ..);rw[List.drop_succ_cons,b2U λq B=>h q (List.mem_cons_of_mem _ B),List.flatten_cons,List.drop_append,he];have A:(i+1)*sz-sz=i*sz:=by rw[Nat.add_mul,Nat.one_mul];omega
  have u:e.drop ((i+1)*sz)=[]:=List.drop_of_length_le (by rw[he,Nat.add_mul,Nat.one_mul];omega);rw[A,u,List.nil_append]
theorem a7b{α:Type}{sz:Nat}:∀{es:List (List α)} {i:Nat},(∀e∈es,e.length=sz)->(es.take i).flatten=es.flatten.take (i*sz)
 | [],i,_=>by simp
 | e::es,0,_=>by simp
 | e::es,i+1,h=>by
  have he:=h e (List.mem_cons_self ..);rw[List.take_succ_cons,List.flatten_cons,a7b λq B=>h q (List.mem_cons_of_mem _ B),List.flatten_cons,List.take_append,he];have A:(i+1)*sz-sz=i*sz:=by rw[Nat.add_mul,Nat.one_mul];omega
  have u:e.take ((i+1)*sz)=e:=d0y (by rw[he,Nat.add_mul,Nat.one_mul];omega);rw[A,u]
theorem b3L{α:Type}:∀(l:List α),(l.map λc=>[c]).flatten=l
 | []=>rfl
 | c::l=>by simp[b3L l]
def l6.sub{O:Nat->Prop}{cs:List C}{vs:List Value}(h:l6 ν w O cs vs)(i n:Nat):l6 ν w O ((cs.drop i).take n) ((vs.drop i).take n):=(h.drop i).take n
def c0Z{O:Nat->Prop}{t:TypeId}{cs:List C}{b off:Nat}(h:N8 ν w O (.pointer (some ⟨b,0,none⟩)) (.box t cs)):a5M ν w O (cs.drop off) ⟨b,off,none⟩:=by
 obtain⟨D,vs,e,A,_,B⟩:=h;injection e with e;injection e with e;injection e with e;subst e;refine⟨vs.drop off,A.drop off,λj v u=>?_⟩;rw[K4,cell_of_row w b _ _ _ _ B];simpa[d0Q] using u
def c1W{O:Nat->Prop}{e sz:Nat}{es:List (List C)}{b n c i off:Nat}{q:List C}(h:N8 ν w O (.slice (some ⟨b,0,none⟩) n c) (.row e sz es))(H:es[i]?=some q):a5M ν w O (q.drop off) ⟨b,i*sz+off,none⟩:=by
 obtain⟨F,vs,E,_,u⟩:=h;have E:=E.den ν;have G:n=es.length:=by obtain⟨A,I,e⟩:=u.slice;injection e
 subst G;have B:=u.cells;refine⟨((vs.drop (i*sz)).take sz).drop off,?_,λj v D=>?_⟩
 ·have:=((E.drop (i*sz)).take sz).drop off;rwa[a3B F H]at this
 ·rw[d0Q,List.getElem?_take]at D;split at D
  ·have:=B (i*sz+(off+j)) v (by simpa[d0Q] using D);rw[K4]at this ⊢;rw[<- this];congr 2;simp;omega
  ·cases D
def a6e{agg:Bool}{sz:Nat}{cs:List C}{K:C->Prop}(h:a5d agg sz cs K) :
  ∃r,K r/\∀(P:Program) (t:TypeId) (i:TypeInfo) (d:TypeDesc) (ν:List Value) (w:World) (O:Nat->Prop) (ad:Addr),P.info? t=some i->P.underlying t=some d->O7 (some d)=agg->i.size=sz->a5M ν w O cs ad ->
   ∃y,Den ν w O r y/\(Instr.loadAt t (.pointer (some ad))).run P w=.ok y w:=by
 cases agg with
 | true=>
  obtain⟨M,h⟩:=h;refine⟨_,h,λP t i d ν w O ad H F E G D=>?_⟩;obtain⟨vs,A,u⟩:=D;refine⟨.agg (vs.take sz).toArray,⟨_,A.take sz,rfl⟩,?_⟩;have:=b0g (P:=P) w t i ad (vs.take sz) d H F E (by rw[d0r,A.length,G];omega) (λj v B=>u j v (by
   rw[List.getElem?_take]at B;split at B
   ·exact B
   ·cases B))
  simp[Instr.loadAt,Instr.sureAddr,this]
 | false=>
  cases cs with
  | nil=>exact h.elim
  | cons c cs=>
   refine⟨c,h,λP t i d ν w O ad H F E G D=>?_⟩;obtain⟨vs,A,u⟩:=D;simp only[l6]at A;obtain⟨y,N,rfl,I,J⟩:=A;refine⟨y,I,?_⟩;have:=b0M (P:=P) w t d ad y F E (by have:=u 0 y rfl;simpa[Addr.add] using this);simp[Instr.loadAt,Instr.sureAddr,this]
def b0k{agg:Bool}{sz:Nat}{s:C}{K:C->Prop}(h:a4O rs agg sz s K) :
  ∃r,K r/\∀(P:Program) (t:TypeId) (i:TypeInfo) (d:TypeDesc) (ν:List Value) (w:World) (O:Nat->Prop) (x:Value),P.info? t=some i->P.underlying t=some d->O7 (some d)=agg->i.size=sz->HR ν w O rs ->
   Den ν w O s x->∃y,Den ν w O r y/\(Instr.loadAt t x).run P w=.ok y w:=by
 unfold a4O at h;split at h
 ·split at h
  ·rename_i k off _ _ cs M;obtain⟨r,hr,A⟩:=a6e h;refine⟨r,hr,λP t i d ν w O x H G F E I B=>?_⟩;simp only[Den]at B;obtain⟨b,J,rfl⟩:=B;obtain⟨R,u,D⟩:=I _ _ M;rw[J]at u;injection u with u;subst u;exact A P t i d ν w _ _ H G F E (c0Z D)
  ·exact h.elim
 ·split at h
  ·rename_i k z Y off _ _ z' Z M;obtain⟨W,h⟩:=h;subst W;split at h
   ·rename_i q X;obtain⟨r,hr,A⟩:=a6e h;refine⟨r,hr,λP t i d ν w O x H G F E I B=>?_⟩;simp only[Den]at B;obtain⟨b,n,c,J,rfl⟩:=B;obtain⟨R,u,D⟩:=I _ _ M;rw[J]at u;injection u with u;subst u;exact A P t i d ν w _ _ H G F E (c1W D X)
   ·exact h.elim
  ·exact h.elim
 ·obtain⟨r,hr,A⟩:=a6e h;refine⟨r,hr,λP t i d ν w O x H G F E I B=>?_⟩;simp only[Den,Fz]at B;obtain⟨ad,rfl,_,_,U⟩:=B;obtain⟨vs,T,_,V⟩:=FzA.cells U;exact A P t i d ν w _ _ H G F E ⟨vs,T.den ν,λj v N=>by have:=V j v N;simpa using this⟩
 ·exact h.elim
end
section
variable {P:Program} {ν:List Value} {rs:List Res} {a:Act} {w:World} {av own0:Nat->Prop} {n0:Nat} {ov:Operand->C}
theorem a4Q{ν:List Value}{w:World}{O:Nat->Prop}(A:Nat->Option (Nat×Nat)):∀(u:List (Nat×Value)) (B:List (Nat×Nat×C)) (cs:List C) (vs:List Value),
 u.length=B.length->(∀(j i:Nat) (v:Value),u[j]?=some (i,v)->∃off sz s,B[j]?=some (off,sz,s)/\A i=some (off,sz)/\l6 ν w O (cellsS s) v.cells.toList)->l6 ν w O cs vs->a1V cs B ->
 ∃us:List Value,Instr.fill A vs.toArray u=some us.toArray/\l6 ν w O (splice cs B) us
 | [],B,cs,vs,hl,_,hD,_=>by
  have:B=[]:=by cases B<;>simp_all
  subst this;exact⟨vs,rfl,hD⟩
 | (i,v)::u,B,cs,vs,hl,hp,hD,hok=>by
  cases B with
  | nil=>simp at hl
  | cons q B=>
   obtain⟨off,sz,s⟩:=q;obtain⟨N,Z,s',T,I,E⟩:=hp 0 i v rfl;simp at T;obtain⟨rfl,rfl,rfl⟩:=T;simp only[a1V]at hok;obtain⟨_,W,h2,Y⟩:=hok;have D:v.cells.size=sz:=by rw[<- Array.length_toList,E.length,W]
   have F:vs.length=cs.length:=hD.length;have H:(v.cells.zipIdx.foldl (λcs (c,j)=>cs.setIfInBounds (off+j) c) vs.toArray)=(vs.take off++v.cells.toList++vs.drop (off+sz)).toArray:=by
    have K:∀(l:List Value) (k:Nat) (us:List Value),off+k+l.length<=us.length ->
     (l.zipIdx k).foldl (λ(cs:Array Value) (x:Value×Nat)=>cs.setIfInBounds (off+x.2) x.1) us.toArray=(us.take (off+k)++l++us.drop (off+k+l.length)).toArray:=by
     intro l
     induction l with
     | nil=>intro k us h;simp
     | cons c l ih=>
      intro k us h;simp only[d0j]at h;simp only[List.zipIdx_cons,List.foldl_cons,List.setIfInBounds_toArray];rw[ih (k+1) _ (by simp;omega)];congr 1;apply List.ext_getElem?;intro m;simp only[d0o,List.getElem?_append,d0r,d0S,List.getElem?_take,List.getElem?_set,d0j,d0Q];have e1:min (off+(k+1)) us.length=off+k+1:=by omega
      have e2:min (off+k) us.length=off+k:=by omega
      rw[e1,e2];by_cases U:m<off+k
      ·have:m<off+k+1:=by omega
       have M:¬off+k=m:=by omega
       simp[U,this,M];omega
      ·by_cases M:m=off+k
       ·subst M;simp;omega
       ·have c3:¬m<off+k+1:=by omega
        rw[if_neg c3,if_neg U];have c4:m-(off+k)=(m-(off+k+1))+1:=by omega
        rw[c4];by_cases R:m-(off+k+1)<l.length
        ·simp[R]
        ·have X:¬(m-(off+k+1)+1<l.length+1):=by omega
         rw[if_neg R,if_neg X];have c7:¬off+k=off+(k+1)+l.length+(m-(off+k+1)-l.length):=by omega
         rw[if_neg c7];congr 1;omega
    have P:=K v.cells.toList 0 vs (by rw[Array.length_toList,D,F];simpa using h2);rw[Array.length_toList,D,Nat.add_zero]at P;rw[<- P,<- Array.foldl_toList,Array.toList_zipIdx]
   obtain⟨us,V,J⟩:=a4Q A u B _ (vs.take off++v.cells.toList++vs.drop (off+sz)) (by simpa using hl) (λj i' v' hj=>hp (j+1) i' v' (by simpa using hj))
    (((hD.take off).append E).append (hD.drop (off+sz))) Y
   refine⟨us,?_,J⟩;have G:(v.cells.size≠sz||off+v.cells.size>vs.toArray.size)=false:=by
    have h4:¬off+v.cells.size>vs.toArray.size:=by
     rw[D,List.size_toArray,F];omega
    simp[D]at h4 ⊢;omega
   simp only[Instr.fill,I,G,d0P,if_false,H];exact V
def c3J{P:Program}(t:TypeId)(i:TypeInfo)(d:TypeDesc)(cs:Array Value)(off:Nat)(A:P.info? t=some i)(u:P.underlying t=some d)(B:O7 (some d)=true)(w:World) :
  (part t cs off).run P w=.ok (.agg (cs.extract off (off+i.size))) w:=by
 have h:(isAgg t).run P w=.ok true w:=by
  unfold isAgg;rw[Sem.run_bind,run_underlying u w];cases d<;>simp_all[O7]
 simp[part,h,sizeOf,typeInfo,A]
def c2U{P:Program}(t:TypeId)(d:TypeDesc)(cs:Array Value)(off:Nat)(v:Value)(u:P.underlying t=some d)(B:O7 (some d)=false)(A:cs[off]?=some v)(w:World) :
  (part t cs off).run P w=.ok v w:=by
 have h:(isAgg t).run P w=.ok false w:=by
  unfold isAgg;rw[Sem.run_bind,run_underlying u w];cases d<;>simp_all[O7]
 simp[part,h,A]
theorem b0r{P:Program}{u:Array Field}:∀{D:List (Nat×Operand)} {r:List (Nat×Nat×Operand)},partsOf P u D=some r ->
  D.length=r.length/\∀(j f:Nat) (x:Operand),D[j]?=some (f,x)->∃(A:Field) (i:TypeInfo),u[f]?=some A/\P.info? A.type=some i/\r[j]?=some (A.offset,i.size,x)
 | [],r,h=>by simp[partsOf]at h;subst h;simp
 | (f,x)::D,r,h=>by
  simp only[partsOf]at h;split at h
  ·rename_i A hf;split at h
   ·rename_i i r' hi hr;injection h with h;subst h;obtain⟨h1,h2⟩:=b0r hr;refine⟨by simp[h1],λj I J B=>?_⟩;cases j with
    | zero=>simp at B;obtain⟨rfl,rfl⟩:=B;exact⟨A,i,hf,hi,rfl⟩
    | succ j=>simp at B;obtain⟨E,H,G,K,F⟩:=h2 j I J B;exact⟨E,H,G,K,by simpa using F⟩
   ·cases h
  ·cases h
theorem b1I{p:Bool}:∀{r:List (Nat×Nat×Operand)},reqs p ov r->(a2m ov r).length=r.length /\
  ∀(j off sz:Nat) (x:Operand),r[j]?=some (off,sz,x)->req p (ov x)/\(a2m ov r)[j]?=some (off,sz,strip (ov x))
 | [],_=>by simp[a2m]
 | (o,z,x)::r,h=>by
  simp only[reqs]at h;obtain⟨h1,h2⟩:=b1I (p:=p) h.2;refine⟨by simp[a2m,h1],λj off sz B u=>?_⟩;cases j with
  | zero=>simp at u;obtain⟨rfl,rfl,rfl⟩:=u;exact⟨h.1,rfl⟩
  | succ j=>simp at u;obtain⟨A,D⟩:=h2 j off sz B u;exact⟨A,by simpa[a2m] using D⟩
def b2G{A:List (Nat×Nat×C)}:∀{cs:List C},a1V cs A->∀(j off sz:Nat) (s:C),A[j]?=some (off,sz,s)->a2S s=true:=by
 induction A with
 | nil=>intro cs h j off sz s u;simp at u
 | cons q A ih=>
  obtain⟨o,z,x⟩:=q;intro cs h j off sz s u;simp only[a1V]at h;cases j with
  | zero=>simp at u;obtain⟨rfl,rfl,rfl⟩:=u;exact h.1
  | succ j=>simp at u;exact ih h.2.2.2 j off sz s u
theorem b3I{P:Program}(w:World):∀(u:List Field),(∀f∈u,(P.info? f.type).isSome=true) ->
  (u.mapM λf=>do pure (f.offset,<- sizeOf f.type):Sem (List (Nat×Nat))).run P w=.ok (u.map λf=>(f.offset,P.cellsOf f.type)) w
 | [],_=>by simp
 | f::u,h=>by
  have h1:=h f (by simp);obtain⟨i,B⟩:=Option.isSome_iff_exists.1 h1;have A:=b3I w u (λg D=>h g (by simp[D]));simp only[List.mapM_cons,Sem.run_bind,sizeOf,typeInfo,run_program,Result.andThen_ok,B,Sem.run_pure]at A ⊢;rw[A];simp[Program.cellsOf,B]
def b7m{O:Nat->Prop}{t:TypeId}{F:Array (Nat×Operand)}{h:Array Field}{i:TypeInfo}{z:Value}{r:List (Nat×Nat×Operand)}{p:Bool}
  (ht:P.underlying t=some (.struct h)) (hi:P.info? t=some i) (hz:i.zero=some z) (A:(h.toList.all λf=>(P.info? f.type).isSome)=true) (K:partsOf P h F.toList=some r)
  (hq:reqs p ov r) (X:a1V (z.cells.toList.map .v) (a2m ov r)) (hO:∀x∈r.map (·.2.2),Den ν w O (ov x) (a.eval x)) (hp:p=true) :
  ∃y,Den ν w O (.agg (splice (z.cells.toList.map .v) (a2m ov r))) y/\(Instr.build t (F.map λ(i,x)=>(i,a.eval x))).run P w=.ok y w:=by
 obtain⟨hl,hg⟩:=b0r K;obtain⟨I,T⟩:=b1I hq;have u:∀f∈h.toList,(P.info? f.type).isSome=true:=List.all_eq_true.1 A;obtain⟨V,Z,hD⟩:=a4Q (ν:=ν) (w:=w) (O:=O) (((h.toList.map λf=>(f.offset,P.cellsOf f.type)).toArray)[·]?) (F.toList.map λ(i,x)=>(i,a.eval x)) (a2m ov r) (z.cells.toList.map .v) z.cells.toList
  (by simp[hl,I]) (λj f v H=>by
   simp only[d0q,Option.map_eq_some_iff]at H;obtain⟨⟨Y,x⟩,H,W⟩:=H;simp only[Prod.mk.injEq]at W;obtain⟨rfl,rfl⟩:=W;obtain⟨fl,i',U,M,D⟩:=hg j Y x H;obtain⟨N,E⟩:=T j _ _ x D;have B:x∈r.map (·.2.2):=List.mem_map.2 ⟨_,d0g D,rfl⟩;refine⟨_,_,_,E,?_,a2L (opS hp (hO x B) N) (b2G X j _ _ _ E)⟩;have G:h.toList[Y]?=some fl:=by simpa using U
   simp[G,Program.cellsOf,M]) (l6.vs _) X
 refine⟨.agg V.toArray,⟨V,hD,rfl⟩,?_⟩;have hm:=b3I (P:=P) w h.toList u;have R:(h.mapM λf=>do pure (f.offset,<- sizeOf f.type):Sem (Array (Nat×Nat))).run P w=.ok (h.toList.map λf=>(f.offset,P.cellsOf f.type)).toArray w:=by
  rw[Array.mapM_eq_mapM_toList,Sem.run_map,hm];rfl
 have J:(zeroValue t).run P w=.ok z w:=by simp[zeroValue,typeInfo,hi,hz]
 unfold Instr.build;simp only[Sem.run_bind,J,Result.andThen_ok,run_underlying ht w,R];have e1:(F.map λ(i,x)=>(i,a.eval x)).toList=F.toList.map λ(i,x)=>(i,a.eval x):=by simp
 rw[e1];simp only[Array.toArray_toList]at Z;rw[Z];rfl
def run_equal_bool{P:Program}(t:TypeId)(u:P.underlying t=some .bool)(x y:Bool)(w':World):(Op.equal t (.bool x) (.bool y)).run P w'=.ok (x==y) w':=by
 have h:∀d:Nat,(Op.equalIn (d+1) t (.bool x) (.bool y)).run P w'=.ok (x==y) w':=λd=>by
  unfold Op.equalIn;rw[Sem.run_bind,run_underlying u];rfl
 exact h 9999
theorem a4M{O:Nat->Prop}:∀{es:List (List C)} {l:List UInt8},a0L es=some l->(∀e∈es,e.length=1)/\∀vs,l6 ν w O es.flatten vs->∃ns:List Int,vs=ns.map (Value.int .u8)/\ns.map (λn=>UInt8.ofNat n.toNat)=l
 | [],l,h=>by
  simp only[a0L,Option.some.injEq]at h;subst h;exact⟨by simp,λvs hv=>by simp only[List.flatten_nil,l6]at hv;exact⟨[],by simp[hv],rfl⟩⟩
 | e::es,l,h=>by
  unfold a0L at h;split at h
  ·rename_i heq;cases heq
  ·rename_i n r heq;injection heq with e1 e2;subst e1 e2;split at h
   ·rename_i l' hl';injection h with h;subst h;obtain⟨h0,h1⟩:=a4M hl';refine⟨by intro e E;cases List.mem_cons.1 E with|inl q=>subst q;rfl|inr q=>exact h0 e q,λvs hv=>?_⟩;simp only[List.flatten_cons,List.cons_append,List.nil_append,l6,Den]at hv;obtain⟨y,D,rfl,rfl,A⟩:=hv;obtain⟨ns,u,B⟩:=h1 D A;exact⟨n::ns,by rw[u];rfl,by simp[B]⟩
   ·cases h
  ·cases h
def c0A(h:List Int):∀(s:ByteArray),h.foldl (λ(r:ByteArray) n=>r.push (UInt8.ofNat n.toNat)) s=⟨s.data++(h.map (λn=>UInt8.ofNat n.toNat)).toArray⟩:=by
 induction h with
 | nil=>intro s;simp
 | cons n h ih=>
  intro s;rw[List.foldl_cons,ih];simp[ByteArray.push]
def a2v(s d e:TypeId)(K:P.underlying s=some (.slice e))(M:P.underlying e=some (.int .u8))(O:P.underlying d=some .string)
  (A:Option Addr) (m c:Nat) (D:List Int) (R:D.length=m) (I:0<m->∃ad,A=some ad/\∀j u,(D.map (Value.int .u8))[j]?=some u->w.cell? (ad.add j)=some u) :
  (convert s d (.slice A m c)).run P w=.ok (.string ⟨(D.map (λn=>UInt8.ofNat n.toNat)).toArray⟩) w:=by
 rw[run_convert_bytes_string w s d e A m c K M O];cases A with
 | none=>
  have T:m=0:=by
   rcases d0K m with F|F
   ·exact F
   ·obtain⟨ad,h,_⟩:=I F;cases h
  have E:D=[]:=d0I (by omega);subst E;rfl
 | some ad=>
  have B:∀j u,(D.map (Value.int .u8))[j]?=some u->w.cell? (ad.add j)=some u:=by
   intro j u J;rcases d0K m with F|F
   ·have E:D=[]:=d0I (by omega);subst E;simp at J
   ·obtain⟨N,h,G⟩:=I F;injection h with h;subst h;exact G j u J
  have H:=run_loadCells_list (P:=P) w ad (D.map (Value.int .u8)) B;simp only[d0d]at H;rw[R]at H;rw[run_bytesToString w ad m c D H,c0A];simp
def b4b{P:Program}(w:World)(t:TypeId)(H:P.underlying t=some .string)(s:ByteArray)(A B:Option Value)(l h:Int)(N K:IntKind)
  (D:(A=none/\l=0)\/A=some (.int N l)) (E:(B=none/\h=s.size)\/B=some (.int K h)) (F:0<=l) (I:l<=h) (G:h<=s.size) :
  (Instr.sliceAt t (.string s) A B none).run P w=.ok (.string (s.extract l.toNat h.toNat)) w:=by
 have O:((h.toNat:Nat):Int)=h:=by omega
 have J:(Instr.sliceBounds false s.size s.size A B none).run P w=.ok (l.toNat,h.toNat,s.size) w:=by
  rcases D with⟨rfl,rfl⟩|rfl<;>rcases E with⟨rfl,rfl⟩|rfl
  ·simp[Instr.sliceBounds]
  ·have u:0<=h/\h<=(s.size:Int):=⟨by omega,G⟩
   simp[Instr.sliceBounds,Instr.sliceBound,asIntOf,u]
  ·have u:0<=l/\l<=(s.size:Int):=⟨F,by omega⟩
   simp[Instr.sliceBounds,Instr.sliceBound,asIntOf,u]
  ·have u:0<=h/\h<=(s.size:Int):=⟨by omega,G⟩
   have T:0<=l/\l<=h:=⟨F,I⟩
   have R:0<=h:=by omega
   have M:max h 0=h:=by omega
   simp[Instr.sliceBounds,Instr.sliceBound,asIntOf,u,T,R,F,I,O,M]
 unfold Instr.sliceAt;simp only[Sem.run_bind,run_underlying H,Result.andThen_ok];unfold Instr.slice;simp only[Sem.run_bind,run_underlying H,Result.andThen_ok,Option.isSome_none,d0P,if_false,J,Sem.run_pure]
def a3i{P:Program}(w:World)(t e:TypeId)(N:TypeInfo)(J:P.underlying t=some (.slice e))(I:P.info? e=some N)(A:Option Addr)(n c:Nat)(u B:Option Value)(l h:Int)(R T:IntKind)
  (H:(u=none/\l=0)\/u=some (.int R l)) (F:(B=none/\h=n)\/B=some (.int T h)) (G:0<=l) (K:l<=h) (Z:h<=n) (Y:n<=c) :
  (Instr.sliceAt t (.slice A n c) u B none).run P w=.ok (sliced A l.toNat h.toNat c N.size) w:=by
 have M:P.elem t=e:=by simp[Program.elem,J]
 have D:P.underlying t=some (.slice (P.elem t)):=by rw[M];exact J
 have U:((h.toNat:Nat):Int)=h:=by omega
 have O:(Instr.sliceBounds true n c u B none).run P w=.ok (l.toNat,h.toNat,c) w:=by
  rcases H with⟨rfl,rfl⟩|rfl<;>rcases F with⟨rfl,rfl⟩|rfl
  ·simp[Instr.sliceBounds]
  ·have E:0<=h/\h<=(c:Int):=⟨by omega,by omega⟩
   simp[Instr.sliceBounds,Instr.sliceBound,asIntOf,E]
  ·have E:0<=l/\l<=(n:Int):=⟨G,by omega⟩
   simp[Instr.sliceBounds,Instr.sliceBound,asIntOf,E]
  ·have E:0<=h/\h<=(c:Int):=⟨by omega,by omega⟩
   have W:0<=l/\l<=h:=⟨G,K⟩
   have X:0<=h:=by omega
   have V:max h 0=h:=by omega
   simp[Instr.sliceBounds,Instr.sliceBound,asIntOf,E,W,X,G,K,U,V]
 rw[run_sliceAt_slice w t _ u B none D,run_slice_any w t A n c D u B none,O];simp[sizeOf,typeInfo,M,I,Result.andThen]
theorem a0b{O:Nat->Prop}{p:Bool}(hp:p=true):∀{xs:List Operand},a4j p ov xs->(∀x∈xs,Den ν w O (ov x) (a.eval x))->l6 ν w O (a1U ov xs) (xs.map a.eval)
 | [],_,_=>by simp[a1U,l6]
 | x::xs,hr,hO=>⟨a.eval x,xs.map a.eval,rfl,opS hp (hO x (by simp)) hr.1,a0b hp hr.2 λy hy=>hO y (by simp[hy])⟩
def bytes_beq(a b:ByteArray):(a==b)=decide (a=b):=by rw[beq_toListBytes];exact b3K a b
def a2z{x:Value}(h:Y3 true x=true):∃s,x=.string s:=by
 unfold Y3 at h;split at h
 ·exact⟨_,rfl⟩
 ·cases h
 ·cases h
def a2t{x:Value}(h:Y3 false x=true):∃n,x=.int .i64 n:=by
 unfold Y3 at h;split at h
 ·cases h
 ·exact⟨_,rfl⟩
 ·cases h
theorem findNow_spec{F:TypeDesc}{B:Bool}(I:(B=true/\F=.string)\/(B=false/\∃k,F=.int k)){u:Value}(G:Y3 B u=true):∀(es:List MapEntry) (i:Nat),(∀e∈es,Y3 B e.key=true) ->
  ∃r,Instr.findNow F u es i=some r/\r.map (·.2)=a0d u (es.map λe=>(e.key,e.val))
 | [],i,_=>⟨none,rfl,rfl⟩
 | e::es,i,h=>by
  have h1:=h e (by simp);obtain⟨r,M,N⟩:=findNow_spec I G es (i+1) (λJ K=>h J (by simp[K]));have E:∃b,Instr.sameNow F u e.key=some b/\b=a0Z u e.key:=by
   rcases I with⟨rfl,rfl⟩|⟨rfl,k,rfl⟩
   ·obtain⟨a,rfl⟩:=a2z G;obtain⟨b,D⟩:=a2z h1;rw[D];exact⟨_,rfl,bytes_beq a b⟩
   ·obtain⟨a,rfl⟩:=a2t G;obtain⟨b,D⟩:=a2t h1;rw[D];exact⟨_,rfl,rfl⟩
  obtain⟨b,H,D⟩:=E;cases A:b with
  | true=>
   refine⟨some (i,e.val),?_,?_⟩
   ·simp[Instr.findNow,H,A]
   ·simp[a0d,<- D,A]
  | false=>
   refine⟨r,?_,?_⟩
   ·simp[Instr.findNow,H,A,M]
   ·simp[a0d,<- D,A,N]
def a6w{t e:TypeId}{u:Bool}(h:a2o P t=some (u,e)):∃k kd,P.underlying t=some (.map k e)/\P.underlying k=some kd/\((u=true/\kd=.string)\/(u=false/\∃i,kd=.int i)):=by
 unfold a2o at h;split at h
 ·rename_i k F E;split at h
  ·rename_i D;injection h with h;injection h with B A;subst B A;exact⟨k,_,E,D,.inl ⟨rfl,rfl⟩⟩
  ·rename_i i D;injection h with h;injection h with B A;subst B A;exact⟨k,_,E,D,.inr ⟨rfl,i,rfl⟩⟩
  ·cases h
 ·cases h
def run_checkKey{k:TypeId}{B:TypeDesc}{u:Bool}(E:P.underlying k=some B)(A:(u=true/\B=.string)\/(u=false/\∃i,B=.int i))(D:Bool)(h:Value):(Instr.checkKey D 10000 k h).run P w=.ok () w:=by
 show(Instr.checkKey D (9999+1) k h).run P w=.ok () w;unfold Instr.checkKey;rw[Sem.run_bind,run_underlying E];rcases A with⟨_,rfl⟩|⟨_,i,rfl⟩<;>rfl
def b8G{t e:TypeId}{D ok:Bool}{i:TypeInfo}{z:Value}(K:a2o P t=some (D,e))(U:P.info? e=some i)(N:i.zero=some z){b:Nat}{h:Array MapEntry}{A:Nat}{B:Value}
  (H:w.heap[b]?=some (.map h A)) (E:∀x∈h.toList,Y3 D x.key=true) (R:Y3 D B=true) :
  (Instr.lookup t (.map (some b)) B ok).run P w=.ok (match a0d B (h.toList.map λe=>(e.key,e.val)),ok with
   | some u,true=>.tuple #[u,.bool true]
   | some u,false=>u
   | none,true=>.tuple #[z,.bool false]
   | none,false=>z) w:=by
 obtain⟨k,W,I,G,F⟩:=a6w K;obtain⟨r,J,O⟩:=findNow_spec F R h.toList 0 E;have T:(getObj b).run P w=.ok (.map h A) w:=by simp[getObj,Sem.run,H]
 have V:(Instr.findKey k B h.toList).run P w=.ok r w:=by
  unfold Instr.findKey;simp[Sem.run_bind,run_underlying G,J]
 have M:=run_checkKey (w:=w) G F h.isEmpty B;rw[<- O];unfold Instr.lookup;simp only[Sem.run_bind,run_underlying I,Result.andThen_ok,T,Sem.run_pure,M,V];cases r with
 | none=>cases ok<;>simp[zeroValue,typeInfo,U,N]
 | some q=>cases ok<;>simp
set_option maxHeartbeats 1000000 in
def c1Z:Array Value->Sem Value:=λargs=>do
 let (x,y,b) <- Extern.MathBitsCarry.three "Sub64" args
 pure (Extern.MathBitsCarry.pair ((x+Extern.MathBitsCarry.m64-y-b)%Extern.MathBitsCarry.m64) (if x<y+b then 1 else 0))
def b8M {fn:Func} (h:fn.name= "math/bits.Sub64"):Extern.find fn=some c1Z:=by
 obtain⟨name⟩:=fn;simp only at h;subst h
 kernel_rfl
def run_sub64(x y b:Nat)(h:b<=1)(w:World):(c1Z #[.int .u64 x,.int .u64 y,.int .u64 b]).run P w =
  .ok (.tuple #[.int .u64 (((x+18446744073709551616-y-b)%18446744073709551616:Nat):Int),.int .u64 ((if x<y+b then 1 else 0:Nat):Int)]) w:=by
 have:b=0\/b=1:=by omega
 rcases this with rfl|rfl<;>rfl
def b9g{f:Nat}(h:a9Z P f=true)(x y b:Nat)(A:b<=1)(w:World):(callFunc f #[.int .u64 x,.int .u64 y,.int .u64 b]).run P w =
  .ok (.value (.tuple #[.int .u64 (((x+18446744073709551616-y-b)%18446744073709551616:Nat):Int),.int .u64 ((if x<y+b then 1 else 0:Nat):Int)])) w:=by
 unfold a9Z at h;split at h
 ·rename_i F E;simp only[d0s,d0t]at h;obtain⟨⟨u,D⟩,B⟩:=h;rw[run_callFunc_extern E (by rw[u];rfl) D (by simpa using B) (b8M u),run_sub64 x y b A];rfl
 ·cases h
def a4N{p:Bool}{o:IOp}{K:C->Prop}{oo:Oper}(aL:Is P oo.type oo.op o)(h:G9 ov rs p o K) :
 ∃s,K s/\∀ν a w O,HR ν w O rs->(∀x∈o.uses,Den ν w O (ov x) (a.eval x))->p=true->Yl P ν w O a oo s:=by
 obtain⟨dst,op,ty,pos,after,guard⟩:=oo;simp only at aL;cases aL with
 | mv x=>exact⟨_,h.2,λν a w O J E D=>⟨_,opS D (E _ (by simp[IOp.uses])) h.1,rfl⟩⟩
 | asg x=>exact⟨_,h.2,λν a w O J E D=>⟨_,opS D (E _ (by simp[IOp.uses])) h.1,rfl⟩⟩
 | pick c x y=>
  simp only[G9]at h;obtain⟨G,h⟩:=h;split at h
  ·rename_i bc aZ;obtain⟨s,hs,hd⟩:=b7b h;refine⟨s,hs,λν a w O J E D=>⟨_,(hd ν w _ _ _ D (E _ (by simp[IOp.uses])) (E _ (by simp[IOp.uses]))),?_⟩⟩;have U:=(opS D (E _ (by simp[IOp.uses])) G)
   rw[aZ]at U;have h3:=F6 U;simp[execOp,h3,asBool]
  ·exact h.elim
 | bin b t yt x y=>
  simp only[G9]at h;obtain⟨G,U,h⟩:=h;split at h
  ·rename_i vx vy I T;cases aD:p with
   | false=>
    rw[aD]at h;have:∃r,K r:=by
     unfold a8a at h;split at h<;>first|(exact h.elim)|(exact⟨_,h⟩)|(exact⟨_,h.2⟩)|(exact⟨_,h.2.2⟩)
    obtain⟨r,hr⟩:=this;exact⟨r,hr,λν a w O J E D=>by cases D⟩
   | true=>
    obtain⟨r,hr,F⟩:=b9C aD t x y P h;refine⟨_,hr,λν a w O J E _=>⟨r,rfl,?_⟩⟩;have B:=(opS aD (E _ (by simp[IOp.uses])) G)
    have H:=(opS aD (E _ (by simp[IOp.uses])) U)
    rw[I]at B;rw[T]at H;have B:=F6 B;have H:=F6 H;have:=F w;simp only[execOp,B,H,Sem.run_bind,Sem.run_pure]at this ⊢;rw[this];rfl
  ·exact h.elim
 | beqT t yt x y ht=>
  simp only[G9]at h;obtain⟨G,U,h⟩:=h;split at h
  ·rename_i vx vy I T;refine⟨_,h,λν a w O J E D=>⟨(.bool (vx==vy)),rfl,?_⟩⟩;have B:=(opS D (E _ (by simp[IOp.uses])) G)
   have H:=(opS D (E _ (by simp[IOp.uses])) U)
   rw[I]at B;rw[T]at H;have B:=F6 B;have H:=F6 H;simp[execOp,B,H,eqGuard,binOp,run_equal_bool t ht]
  ·exact h.elim
 | beqF t yt x y ht=>
  simp only[G9]at h;obtain⟨G,U,h⟩:=h;split at h
  ·rename_i vx vy I T;refine⟨_,h,λν a w O J E D=>⟨(.bool (vx != vy)),rfl,?_⟩⟩;have B:=(opS D (E _ (by simp[IOp.uses])) G)
   have H:=(opS D (E _ (by simp[IOp.uses])) U)
   rw[I]at B;rw[T]at H;have B:=F6 B;have H:=F6 H;simp[execOp,B,H,eqGuard,binOp,run_equal_bool t ht];cases vx<;>cases vy<;>rfl
  ·exact h.elim
 | un u t x=>
  simp only[G9]at h;obtain⟨G,h⟩:=h;split at h
  ·rename_i b R;refine⟨_,h,λν a w O J E D=>⟨_,rfl,?_⟩⟩;have B:=(opS D (E _ (by simp[IOp.uses])) G)
   rw[R]at B;have B:=F6 B;simp[execOp,B,Op.unary]
  ·rename_i k q R;refine⟨_,h,λν a w O J E D=>⟨_,rfl,?_⟩⟩;have B:=(opS D (E _ (by simp[IOp.uses])) G)
   rw[R]at B;have B:=F6 B;simp[execOp,B,Op.unary,Op.intArith]
  ·exact h.elim
 | conv s d k k' x hs hd=>
  simp only[G9]at h;obtain⟨G,h⟩:=h;split at h
  ·rename_i kk q R;refine⟨_,h,λν a w O J E D=>⟨_,rfl,?_⟩⟩;have B:=(opS D (E _ (by simp[IOp.uses])) G)
   rw[R]at B;have B:=F6 B;simp[execOp,B,convert,run_underlying hs,run_underlying hd,Conv.intToInt]
  ·exact h.elim
 | fld s f fl sz x d hf hd=>
  simp only[G9]at h;obtain⟨G,h⟩:=h;split at h
  ·rename_i cs aB;obtain⟨ac,i,hu,aJ,X,ag⟩:∃ac i,P.underlying s=some (.struct ac)/\ac[f]?=some fl/\P.info? fl.type=some i/\i.size=sz:=by
    unfold a4y at hf;(repeat' split at hf)<;>simp_all
   cases hA:O7 (some d) with
   | true=>
    simp only[hA,cond_true]at h;refine⟨_,h,λν a w O J E D=>?_⟩;obtain⟨vs,B,hD⟩:=a1R ((opS D (E _ (by simp[IOp.uses])) G)) aB;refine⟨.agg (((vs.toList.drop fl.offset).take sz)).toArray,⟨_,(hD.drop _).take _,rfl⟩,?_⟩;simp only[execOp,B,Instr.field,run_underlying hu,Sem.run_bind,Result.andThen_ok,aJ,asAgg,Sem.run_pure,c3J fl.type i d vs fl.offset X hd hA w,ag];congr 3;apply Array.ext';simp
   | false=>
    simp only[hA,cond_false]at h;split at h
    ·rename_i r hr;refine⟨_,h,λν a w O J E D=>?_⟩;obtain⟨vs,B,hD⟩:=a1R ((opS D (E _ (by simp[IOp.uses])) G)) aB;obtain⟨y,T,aG⟩:=hD.get hr;refine⟨y,aG,?_⟩;have aY:vs[fl.offset]?=some y:=by simpa using T
     simp only[execOp,B,Instr.field,run_underlying hu,Sem.run_bind,Result.andThen_ok,aJ,asAgg,Sem.run_pure,c2U fl.type d vs fl.offset y hd hA aY w]
    ·exact h.elim
  ·exact h.elim
 | ext x i=>
  simp only[G9]at h;obtain⟨G,h⟩:=h;split at h
  ·rename_i cs aB;split at h
   ·rename_i r hr;refine⟨_,h,λν a w O J E D=>?_⟩;have B:=(opS D (E _ (by simp[IOp.uses])) G)
    rw[aB]at B;simp only[Den]at B;obtain⟨vs,hD,B⟩:=B;obtain⟨y,T,aG⟩:=hD.get hr;refine⟨y,aG,?_⟩;simp[execOp,B,Instr.extract,T]
   ·exact h.elim
  ·exact h.elim
 | idxs t x i ht=>
  simp only[G9]at h;obtain⟨G,U,h⟩:=h;split at h
  ·rename_i s kk q I hq;obtain⟨R,h⟩:=h;refine⟨_,h,λν a w O J E D=>?_⟩;have B:=(opS D (E _ (by simp[IOp.uses])) G)
   have H:=(opS D (E _ (by simp[IOp.uses])) U)
   rw[I]at B;rw[hq]at H;have B:=F6 B;have H:=F6 H;obtain⟨af,ah⟩:=R D;have am:q.toNat<s.size:=by omega
   refine⟨_,rfl,?_⟩;have hg:s[q.toNat]?=some s[q.toNat]:=by simp[am]
   have hd:s.data.toList.getD q.toNat 0=s[q.toNat]:=by
    have M:q.toNat<s.data.toList.length:=by simpa using am
    rw[d0C,d0b M];rfl
   simp only[execOp,B,H,Instr.index,asIntOf,run_underlying ht,Sem.run_bind,Result.andThen_ok,Sem.run_pure,af,if_true,hg,hd]
  ·exact h.elim
 | lenS c t x hc hat ha ht=>
  simp only[G9]at h;obtain⟨G,h⟩:=h;obtain⟨aw,⟨args⟩,⟨ats⟩⟩:=c;simp only at hc hat ha;subst hc hat ha;split at h
  ·rename_i s I;refine⟨_,h,λν a w O J E D=>?_⟩;have B:=(opS D (E _ (by simp[IOp.uses])) G)
   rw[I]at B;have B:=F6 B;refine⟨_,rfl,?_⟩;simp[execOp,resolve,invoke,builtin,Builtin.len_,run_underlying ht,B,goInt]
  ·exact h.elim
 | slcs t x Z X ht=>
  simp only[G9]at h;obtain⟨G,h⟩:=h;split at h
  ·rename_i s I;obtain⟨U,h3,h⟩:=h;split at h
   ·rename_i k1 l k2 hh M W;obtain⟨R,h⟩:=h;refine⟨_,h,λν a w O J E D=>?_⟩;have B:=(opS D (E _ (by simp[IOp.uses])) G)
    rw[I]at B;have B:=F6 B;obtain⟨b0,b1,b2⟩:=R D;refine⟨_,rfl,?_⟩;have al:(Z.map a.eval=none/\l=0)\/Z.map a.eval=some (.int k1 l):=by
     cases Z with
     | none=>simp only[F5,strip]at M;injection M with M;injection M with _ M;exact .inl ⟨rfl,M.symm⟩
     | some o=>
      have H:=opS D (E o (by simp[IOp.uses])) U;simp only[F5]at M;rw[M]at H;exact .inr (by rw[d0e,F6 H])
    have an:(X.map a.eval=none/\hh=s.size)\/X.map a.eval=some (.int k2 hh):=by
     cases X with
     | none=>simp only[F5,strip]at W;injection W with M;injection M with _ M;exact .inl ⟨rfl,M.symm⟩
     | some o=>
      have H:=opS D (E o (by simp[IOp.uses])) h3;simp only[F5]at W;rw[W]at H;exact .inr (by rw[d0e,F6 H])
    have F:=b4b (P:=P) w t ht s _ _ l hh k1 k2 al an b0 b1 b2;simp[execOp,B,F]
   ·exact h.elim
  ·exact h.elim
 | max c x y hc ha=>
  simp only[G9]at h;obtain⟨G,U,h⟩:=h;obtain⟨aw,⟨args⟩,ats⟩:=c;simp only at hc ha;subst hc ha;split at h
  ·rename_i k q k' q' I T;refine⟨_,h,λν a w O J E D=>?_⟩;have B:=(opS D (E _ (by simp[IOp.uses])) G)
   have H:=(opS D (E _ (by simp[IOp.uses])) U)
   rw[I]at B;rw[T]at H;have B:=F6 B;have H:=F6 H;refine⟨_,rfl,?_⟩;simp[execOp,resolve,invoke,builtin,Builtin.max_,Builtin.max2,B,H]
  ·exact h.elim
 | min c x y hc ha=>
  simp only[G9]at h;obtain⟨G,U,h⟩:=h;obtain⟨aw,⟨args⟩,ats⟩:=c;simp only at hc ha;subst hc ha;split at h
  ·rename_i k q k' q' I T;refine⟨_,h,λν a w O J E D=>?_⟩;have B:=(opS D (E _ (by simp[IOp.uses])) G)
   have H:=(opS D (E _ (by simp[IOp.uses])) U)
   rw[I]at B;rw[T]at H;have B:=F6 B;have H:=F6 H;refine⟨_,rfl,?_⟩;simp[execOp,resolve,invoke,builtin,Builtin.min_,Builtin.min2,B,H]
  ·exact h.elim
 | build t ps ac i z r ht X hz ae hpo=>
  simp only[G9]at h;obtain⟨G,U,h⟩:=h;refine⟨_,h,λν a w O J E D=>?_⟩;obtain⟨y,hd,F⟩:=b7m (w:=w) (a:=a) ht X hz ae hpo G U (by simpa[IOp.uses] using E) D;exact⟨y,hd,by simp[execOp,F]⟩
 | load t x i d X hd=>
  simp only[G9]at h;obtain⟨G,h⟩:=h;unfold b1F at h;split at h
  ·obtain⟨hf,h⟩:=h;exact⟨_,h,λν a w O J E D=>by rw[hf]at D;cases D⟩
  obtain⟨r,hr,ae⟩:=b0k h;refine⟨r,hr,λν a w O J E D=>?_⟩;obtain⟨y,T,F⟩:=ae P t i d ν w O _ X hd rfl rfl J (opS D (E _ (by simp[IOp.uses])) G);exact⟨y,T,by simp[execOp,F]⟩
 | nilck x=>
  simp only[G9]at h;obtain⟨G,h⟩:=h;have fin:∀(s:C),strip (ov x)=s->(∀ν w O y,Den ν w O s y->(∃ad,y=.pointer (some ad))\/∃f u c,y=.func (.func f) u c)->∀ν a w O,HR ν w O rs->(∀z∈(IOp.nilck x).uses,Den ν w O (ov z) (a.eval z))->p=true ->
   Yl P ν w O a { dst,op:=.nilCheck x,type:=ty,pos,after,guard } s:=λs he hk ν a w O J E D=>by
   have B:=opS D (E x (by simp[IOp.uses])) G;rw[he]at B;refine⟨_,B,?_⟩;rcases hk ν _ _ _ B with⟨ad,H⟩|⟨f,u,c,H⟩<;>simp[execOp,H]
  split at h
  ·rename_i he;exact⟨_,h,fin _ he λν w O y T=>by simp only[Den]at T;obtain⟨b,_,rfl⟩:=T;exact .inl ⟨_,rfl⟩⟩
  ·rename_i he;exact⟨_,h,fin _ he λν w O y T=>by simp only[Den,Fz]at T;obtain⟨ad,rfl,_⟩:=T;exact .inl ⟨_,rfl⟩⟩
  ·rename_i he;exact⟨_,h,fin _ he λν w O y T=>by simp only[Den]at T;obtain⟨b,n,c,_,rfl⟩:=T;exact .inl ⟨_,rfl⟩⟩
  ·rename_i he;exact⟨_,h,fin _ he λν w O y T=>by simp only[Den]at T;exact .inr ⟨_,_,_,T⟩⟩
  ·rename_i he;exact⟨_,h,fin _ he λν w O y T=>by simp only[Den]at T;obtain⟨vs,_,rfl⟩:=T;exact .inr ⟨_,_,_,rfl⟩⟩
  ·rename_i he;exact⟨_,h,fin _ he λν w O y T=>by simp only[Den]at T;obtain⟨vs,_,rfl⟩:=T;exact .inr ⟨_,_,_,rfl⟩⟩
  ·exact h.elim
 | faddr s f fl sz x hf h0=>
  simp only[G9]at h;obtain⟨G,h⟩:=h;split at h
  ·rename_i k o he;refine⟨_,h,λν a w O J E D=>?_⟩;have B:=opS D (E x (by simp[IOp.uses])) G;rw[he]at B;simp only[Den]at B;obtain⟨b,R,B⟩:=B;refine⟨.pointer (some ⟨b,o+fl.offset,none⟩),⟨b,R,rfl⟩,?_⟩;have:=a7j (P:=P) w s f fl sz ⟨b,o,none⟩ hf h0;rw[K4]at this;simp[execOp,B,this]
  ·rename_i cs he;obtain⟨a1,h⟩:=h;refine⟨_,h,λν a w O J E D=>?_⟩;have B:=opS D (E x (by simp[IOp.uses])) G;rw[he]at B;simp only[Den,Fz]at B;obtain⟨ad,B,am,as,hA⟩:=B;refine⟨.pointer (some (ad.add fl.offset)),?_,?_⟩
   ·simp only[Den,Fz];refine⟨_,rfl,by rw[add_block];exact am,by rw[add_block];exact as,?_⟩;obtain⟨vs,k1,k2,k3⟩:=FzA.cells hA;have a3:=k1.length;refine FzA.of (vs:=vs.drop fl.offset) ?_ (λu hu=>k2 u (List.mem_of_mem_drop hu)) λi v hv=>?_
    ·have:∀(n:Nat) (cs:List C) (vs:List Value),FzL w O cs vs->FzL w O (cs.drop n) (vs.drop n):=by
      intro n
      induction n with
      | zero=>intro cs vs h;simpa using h
      | succ n ih=>
       intro cs vs h;cases cs with
       | nil=>simp only[FzL]at h;subst h;simp[FzL]
       | cons c cs=>simp only[FzL]at h;obtain⟨y,ys,rfl,_,U⟩:=h;simpa using ih cs ys U
     exact this _ _ _ k1
    ·rw[d0Q]at hv;have:=k3 _ _ hv;rw[add_add'];rw[<- this];congr 2;omega
   ·have:=a7j (P:=P) w s f fl sz ad hf h0;simp[execOp,B,this]
  ·rename_i k z i o he;refine⟨_,h,λν a w O J E D=>?_⟩;have B:=opS D (E x (by simp[IOp.uses])) G;rw[he]at B;simp only[Den]at B;obtain⟨b,n,c,R,B⟩:=B;refine⟨.pointer (some ⟨b,i*z+(o+fl.offset),none⟩),⟨b,n,c,R,rfl⟩,?_⟩;have:=a7j (P:=P) w s f fl sz ⟨b,i*z+o,none⟩ hf h0;rw[K4,Nat.add_assoc]at this;simp[execOp,B,this]
  ·exact h.elim
 | iaddr t e ie x i ht X=>
  simp only[G9]at h;obtain⟨G,U,h⟩:=h;split at h
  ·rename_i z es kk q I hq;obtain⟨ag,R,h⟩:=h;subst ag;split at h
   ·rename_i el a0;refine⟨_,h,λν a w O J E D=>?_⟩;have B:=opS D (E x (by simp[IOp.uses])) G;have H:=opS D (E i (by simp[IOp.uses])) U;rw[I]at B;rw[hq]at H;have H:=F6 H;simp only[Den,Fz]at B;obtain⟨A,c,B,ab,ai,hA⟩:=B;obtain⟨af,ah⟩:=R D;obtain⟨ad,rfl,am,as,hE⟩:=hA (by omega);obtain⟨aa,aR⟩:=FzE.get hE a0;refine⟨.pointer (some (ad.add (q.toNat*ie.size))),?_,?_⟩
    ·simp only[Den,Fz];refine⟨_,rfl,by rw[add_block];exact am,by rw[add_block];exact as,?_⟩;refine FzA.shift (i:=q.toNat*ie.size) (j:=0) ?_;simpa using aR
    ·simp[execOp,B,H,Instr.indexAt,asIntOf,run_underlying ht,af,ah,sizeOf,typeInfo,X]
   ·obtain⟨aO,h⟩:=h;exact⟨_,h,λν a w O J E D=>by rw[aO]at D;cases D⟩
  ·rename_i k kk q I hq;split at h
   ·rename_i te z es hk;obtain⟨ag,R,h⟩:=h;refine⟨_,h,λν a w O J E D=>?_⟩;have B:=opS D (E x (by simp[IOp.uses])) G;have H:=opS D (E i (by simp[IOp.uses])) U;rw[I]at B;rw[hq]at H;have H:=F6 H;simp only[Den]at B;obtain⟨af,ah⟩:=R D;obtain⟨xk,N,M,vs,hD,_,Y⟩:=J k _ hk;rw[N]at B;obtain⟨B,_⟩:=B;injection B with B;rcases Y.2 with⟨az,_⟩|⟨g,cap,aC,hv,_⟩
    ·omega
    ·rw[hv]at B N;have B:=B.symm;refine⟨.pointer (some ⟨g,q.toNat*ie.size,none⟩),⟨g,es.length,cap,N,rfl⟩,?_⟩;have:=K4 g 0 (q.toNat*ie.size);rw[d0A]at this;simp[execOp,B,H,Instr.indexAt,asIntOf,run_underlying ht,af,ah,sizeOf,typeInfo,X,this]
   ·exact h.elim
  ·rename_i k z Z n kk q I hq;obtain⟨hz,h⟩:=h;subst hz;split at h
   ·rename_i te z' es hk;obtain⟨aN,R,h⟩:=h;refine⟨_,h,λν a w O J E D=>?_⟩;have B:=opS D (E x (by simp[IOp.uses])) G;have H:=opS D (E i (by simp[IOp.uses])) U;rw[I]at B;rw[hq]at H;have H:=F6 H;simp only[Den]at B;obtain⟨A,c,B,ab,ai,hA⟩:=B;obtain⟨⟨af,ah⟩,ar⟩:=R D;obtain⟨xv,b,ak,V,aq,_⟩:=hA (by omega);obtain⟨xk,N,M,vs,hD,_,Y⟩:=J k _ hk;rw[ak]at N;injection N with N;subst N;rcases Y.2 with⟨az,_⟩|⟨g,cap,aC,hv,_⟩
    ·omega
    ·subst hv;simp only[a5g,Option.some.injEq]at V;subst V;refine⟨.pointer (some ⟨g,(Z+q.toNat)*ie.size,none⟩),⟨g,es.length,cap,ak,rfl⟩,?_⟩;have:=K4 g (Z*ie.size) (q.toNat*ie.size);rw[<- Nat.add_mul]at this;simp[execOp,B,aq,H,Instr.indexAt,asIntOf,run_underlying ht,af,ah,sizeOf,typeInfo,X,this]
   ·rename_i te cs hk;obtain⟨R,h⟩:=h;refine⟨_,h,λν a w O J E D=>?_⟩;have B:=opS D (E x (by simp[IOp.uses])) G;have H:=opS D (E i (by simp[IOp.uses])) U;rw[I]at B;rw[hq]at H;have H:=F6 H;simp only[Den]at B;obtain⟨A,c,B,ab,ai,hA⟩:=B;obtain⟨af,ah⟩:=R D;obtain⟨xv,b,ak,V,aq,_⟩:=hA (by omega);obtain⟨xk,N,b',vs,hv,_⟩:=J k _ hk;rw[ak]at N;injection N with N;subst N;subst hv;simp only[a5g,Option.some.injEq]at V;subst V;refine⟨.pointer (some ⟨b',Z*ie.size+q.toNat*ie.size,none⟩),⟨b',ak,rfl⟩,?_⟩;have:=K4 b' (Z*ie.size) (q.toNat*ie.size)
    simp[execOp,B,aq,H,Instr.indexAt,asIntOf,run_underlying ht,af,ah,sizeOf,typeInfo,X,this]
   ·exact h.elim
  ·exact h.elim
 | iaddra t e n ie x i ht X h0=>
  simp only[G9]at h;obtain⟨G,U,h⟩:=h;split at h
  ·rename_i k o kk q I hq;obtain⟨R,h⟩:=h;refine⟨_,h,λν a w O J E D=>?_⟩;have B:=opS D (E x (by simp[IOp.uses])) G;have H:=opS D (E i (by simp[IOp.uses])) U;rw[I]at B;rw[hq]at H;have H:=F6 H;simp only[Den]at B;obtain⟨af,ah⟩:=R D;obtain⟨b,aU,B⟩:=B;refine⟨.pointer (some ⟨b,o+q.toNat*ie.size,none⟩),⟨b,aU,rfl⟩,?_⟩;have:=K4 b o (q.toNat*ie.size);simp[execOp,B,H,Instr.indexAt,asIntOf,run_underlying ht,af,ah,sizeOf,typeInfo,X,this,Instr.sureAddr]
  ·exact h.elim
 | lenL c t e x hc hat ha ht=>
  simp only[G9]at h;obtain⟨G,h⟩:=h;obtain⟨aw,⟨args⟩,⟨ats⟩⟩:=c;simp only at hc hat ha;subst hc hat ha;have fin:∀(n:Nat) (y:Value) (a:Act) (w:World),a.eval x=y->(∃A c,y=.slice A n c)->(execOp a.eval { dst,op:=.call ⟨.builtin .len,⟨[x]⟩,⟨[t]⟩⟩,type:=ty,pos,after,guard }).run P w=.ok (.value (.int .i64 n)) w:=by
   rintro n y a w B ⟨A,c,rfl⟩;simp[execOp,resolve,invoke,builtin,Builtin.len_,run_underlying ht,B,goInt]
  split at h
  ·rename_i z es I;refine⟨_,h,λν a w O J E D=>?_⟩;have B:=opS D (E x (by simp[IOp.uses])) G;rw[I]at B;simp only[Den,Fz]at B;obtain⟨A,c,B,_⟩:=B;exact⟨_,rfl,fin _ _ a w B ⟨A,c,rfl⟩⟩
  ·rename_i I;refine⟨_,h,λν a w O J E D=>?_⟩;have B:=opS D (E x (by simp[IOp.uses])) G;rw[I]at B;simp only[Den]at B;obtain⟨A,B⟩:=B;exact⟨_,rfl,fin 0 _ a w B ⟨A,0,rfl⟩⟩
  ·rename_i k I;split at h
   ·rename_i te sz es hk;refine⟨_,h,λν a w O J E D=>?_⟩;have B:=opS D (E x (by simp[IOp.uses])) G;rw[I]at B;simp only[Den]at B;obtain⟨xk,N,_,vs,_,_,Y⟩:=J k _ hk;rw[N]at B;obtain⟨B,_⟩:=B;injection B with B;refine⟨_,rfl,fin _ _ a w B.symm ?_⟩;exact Y.slice
   ·exact h.elim
  ·rename_i I;refine⟨_,h,λν a w O J E D=>?_⟩;have B:=opS D (E x (by simp[IOp.uses])) G;rw[I]at B;have B:=F6 B;exact⟨_,rfl,fin _ _ a w B ⟨_,_,rfl⟩⟩
  ·rename_i k z Z n I;refine⟨_,h,λν a w O J E D=>?_⟩;have B:=opS D (E x (by simp[IOp.uses])) G;rw[I]at B;simp only[Den]at B;obtain⟨A,c,B,_⟩:=B;exact⟨_,rfl,fin _ _ a w B ⟨A,c,rfl⟩⟩
  ·exact h.elim
 | toStr s d e x hs he hd=>
  simp only[G9]at h;obtain⟨G,h⟩:=h;split at h
  ·rename_i k I;split at h
   ·rename_i te sz es hk;split at h
    ·rename_i l M;refine⟨_,h,λν a w O J E D=>?_⟩;have B:=opS D (E x (by simp[IOp.uses])) G;rw[I]at B;simp only[Den]at B;obtain⟨xk,N,aa,vs,hD,_,Y⟩:=J k _ hk;rw[N]at B;obtain⟨B,_⟩:=B;injection B with B;obtain⟨ap,ay⟩:=a4M (w:=w) (ν:=ν) (O:=O) M;obtain⟨ns,rfl,rfl⟩:=ay vs (hD.den ν);have aA:ns.length=es.length:=by have G:=hD.length;rw[Q9 ap]at G;simpa using G
     refine⟨_,rfl,?_⟩;have F:(convert s d xk).run P w=.ok (.string ⟨(ns.map (λn=>UInt8.ofNat n.toNat)).toArray⟩) w:=by
      rcases Y.2 with⟨hn,A,hv⟩|⟨g,cap,aC,hv,_⟩
      ·rw[hv];exact a2v s d e hs he hd A 0 0 ns (by omega) (λh0=>absurd h0 (by omega))
      ·have ax:=Y;rw[hv]at ax;have hc:=ax.cells;rw[hv];exact a2v s d e hs he hd _ es.length cap ns aA (λ_=>⟨_,rfl,λj u hu=>hc j u hu⟩)
     simp[execOp,<- B,F]
    ·exact h.elim
   ·exact h.elim
  ·rename_i z es I;split at h
   ·rename_i l M;refine⟨_,h,λν a w O J E D=>?_⟩;have B:=opS D (E x (by simp[IOp.uses])) G;rw[I]at B;simp only[Den,Fz]at B;obtain⟨A,c,B,ab,ai,hA⟩:=B;obtain⟨ap,ay⟩:=a4M (w:=w) (ν:=ν) (O:=O) M;rcases d0K es.length with h0|h0
    ·have he:es=[]:=d0I h0;subst he;simp only[a0L,Option.some.injEq]at M;subst M;refine⟨_,rfl,?_⟩;have:=a2v (P:=P) (w:=w) s d e hs he hd A 0 c [] rfl (λh=>absurd h (by omega));simp only[d0p]at this;simp only[List.length_nil]at B;simp[execOp,B,this]
    ·obtain⟨ad,rfl,am,as,hE⟩:=hA h0;obtain⟨k0,vs,k1,k2,k3⟩:=FzE.cells hE;obtain⟨ns,rfl,rfl⟩:=ay vs (k1.den ν);have aA:ns.length=es.length:=by have G:=k1.length;rw[Q9 ap]at G;simpa using G
     refine⟨_,rfl,?_⟩;have:=a2v (P:=P) (w:=w) s d e hs he hd (some ad) es.length c ns aA (λ_=>⟨ad,rfl,k3⟩);simp[execOp,B,this]
   ·exact h.elim
  ·rename_i I;refine⟨_,h,λν a w O J E D=>?_⟩;have B:=opS D (E x (by simp[IOp.uses])) G;rw[I]at B;simp only[Den]at B;obtain⟨A,B⟩:=B;refine⟨_,rfl,?_⟩;have:=a2v (P:=P) (w:=w) s d e hs he hd A 0 0 [] rfl (λh=>absurd h (by omega));simp only[d0p]at this;simp[execOp,B,this]
  ·rename_i I;refine⟨_,h,λν a w O J E D=>?_⟩;have B:=opS D (E x (by simp[IOp.uses])) G;rw[I]at B;have B:=F6 B;refine⟨_,rfl,?_⟩;have:=a2v (P:=P) (w:=w) s d e hs he hd none 0 0 [] rfl (λh=>absurd h (by omega));simp only[d0p]at this;simp[execOp,B,this]
  ·rename_i k z Z n I;obtain⟨hz,h⟩:=h;subst hz;have fin:∀(l:List UInt8) (es:List (List C)) (ν:List Value) (a:Act) (w:World) (O:Nat->Prop) (A:Option Addr) (c:Nat) (vs:List Value),a0L es=some l->es.length=n->a.eval x=.slice A n c->l6 ν w O es.flatten vs->(0<n->∃ad,A=some ad/\∀j u,vs[j]?=some u->w.cell? (ad.add j)=some u) ->
    Yl P ν w O a { dst,op:=.convert s d x,type:=ty,pos,after,guard } (.v (.string ⟨l.toArray⟩)):=by
    intro l es ν a w O A c vs M a2 B hD hc;obtain⟨ap,ay⟩:=a4M (w:=w) (ν:=ν) (O:=O) M;obtain⟨ns,rfl,rfl⟩:=ay vs hD;have aA:ns.length=es.length:=by have G:=hD.length;rw[Q9 ap]at G;simpa using G
    refine⟨_,rfl,?_⟩;have:=a2v (P:=P) (w:=w) s d e hs he hd A n c ns (by omega) hc;simp[execOp,B,this]
   split at h
   ·rename_i te z' es hk;obtain⟨aN,ar,h⟩:=h;subst aN;split at h
    ·rename_i l M;refine⟨_,h,λν a w O J E D=>?_⟩;have ar:=ar D;have B:=opS D (E x (by simp[IOp.uses])) G;rw[I]at B;simp only[Den]at B;obtain⟨A,c,B,ab,ai,hA⟩:=B;obtain⟨xk,N,aa,vs,hD,_,Y⟩:=J k _ hk;have hD:=hD.den ν;refine fin l _ ν a w O A c ((vs.drop Z).take n) M (by rw[d0r,d0L];omega) B ?_ λh0=>?_
     ·rw[a7b λq hq=>aa q (List.mem_of_mem_drop hq),b2U aa,Nat.mul_one,Nat.mul_one];exact hD.sub Z n
     ·obtain⟨xv,b,ak,V,aq,_⟩:=hA (by omega);rw[ak]at N;injection N with N;subst N;rcases Y.2 with⟨az,_⟩|⟨g,cap,aC,hv,_⟩
      ·omega
      ·subst hv;simp only[a5g,Option.some.injEq]at V;subst V;refine⟨_,aq,λj u hu=>?_⟩;rw[List.getElem?_take]at hu;split at hu
       ·rw[d0Q]at hu;have:=Y.cells _ _ hu;rw[K4]at this ⊢;rw[<- this];congr 2;omega
       ·cases hu
    ·exact h.elim
   ·rename_i te cs hk;obtain⟨ar,h⟩:=h;split at h
    ·rename_i l M;refine⟨_,h,λν a w O J E D=>?_⟩;have ar:=ar D;have B:=opS D (E x (by simp[IOp.uses])) G;rw[I]at B;simp only[Den]at B;obtain⟨A,c,B,ab,ai,hA⟩:=B;obtain⟨xk,N,b',vs,hv,hD,_,hh⟩:=J k _ hk;refine fin l _ ν a w O A c ((vs.drop Z).take n) M (by rw[d0d,d0r,d0L];omega) B ?_ λh0=>?_
     ·have:(((cs.drop Z).take n).map b2I).flatten=(cs.drop Z).take n:=b3L _;rw[this];exact hD.sub Z n
     ·obtain⟨xv,b,ak,V,aq,_⟩:=hA (by omega);rw[ak]at N;injection N with N;subst N;subst hv;simp only[a5g,Option.some.injEq]at V;subst V;refine⟨_,aq,λj u hu=>?_⟩;rw[List.getElem?_take]at hu;split at hu
      ·rw[d0Q]at hu;rw[K4,Nat.mul_one,cell_of_row _ b' (Z+j) _ _ _ hh];simpa using hu
      ·cases hu
    ·exact h.elim
   ·exact h.elim
  ·exact h.elim
 | slcl t e ie x Z X ht hi'=>
  simp only[G9]at h;obtain⟨G,h⟩:=h;split at h
  ·rename_i z es I;obtain⟨ag,U,h3,h⟩:=h;subst ag;split at h
   ·rename_i k1 l k2 hh M W;obtain⟨R,h⟩:=h;refine⟨_,h,λν a w O J E D=>?_⟩;obtain⟨b0,b1,b2⟩:=R D;have B:=opS D (E x (by simp[IOp.uses])) G;rw[I]at B;simp only[Den,Fz]at B;obtain⟨A,c,B,ab,ai,hA⟩:=B;have al:(Z.map a.eval=none/\l=0)\/Z.map a.eval=some (.int k1 l):=by
     cases Z with
     | none=>simp only[F5,strip]at M;injection M with M;injection M with _ M;exact .inl ⟨rfl,M.symm⟩
     | some o=>
      have H:=opS D (E o (by simp[IOp.uses])) U;simp only[F5]at M;rw[M]at H;exact .inr (by rw[d0e,F6 H])
    have an:(X.map a.eval=none/\hh=es.length)\/X.map a.eval=some (.int k2 hh):=by
     cases X with
     | none=>simp only[F5,strip]at W;injection W with M;injection M with _ M;exact .inl ⟨rfl,M.symm⟩
     | some o=>
      have H:=opS D (E o (by simp[IOp.uses])) h3;simp only[F5]at W;rw[W]at H;exact .inr (by rw[d0e,F6 H])
    have F:=a3i (P:=P) w t e ie ht hi' A es.length c (Z.map a.eval) (X.map a.eval) l hh k1 k2 al an b0 b1 b2 ab;have aa:((es.drop l.toNat).take (hh.toNat-l.toNat)).length=hh.toNat-l.toNat:=by
     rw[d0r,d0L];omega
    refine⟨sliced A l.toNat hh.toNat c ie.size,?_,?_⟩
    ·simp only[Den,Fz];refine⟨(if c=l.toNat then A else A.map (·.add (l.toNat*ie.size))),c-l.toNat,?_,by rw[aa];omega,by omega,λh0=>?_⟩
     ·rw[aa];rfl
     ·rw[aa]at h0;have ao:¬c=l.toNat:=by omega
      have aK:0<es.length:=by omega
      obtain⟨ad,rfl,am,as,hE⟩:=hA aK;refine⟨ad.add (l.toNat*ie.size),by rw[if_neg ao];rfl,by rw[add_block];exact am,by rw[add_block];exact as,FzE.of λk q hq=>?_⟩;rw[List.getElem?_take]at hq;split at hq
      ·rw[d0Q]at hq;obtain⟨g1,g2⟩:=FzE.get hE hq;refine⟨g1,FzA.shift ?_⟩;have:(0+(l.toNat+k))*ie.size=l.toNat*ie.size+(0+k)*ie.size:=by rw[d0A,d0A,Nat.add_mul]
       rw[<- this];exact g2
      ·cases hq
    ·simp only[execOp,B];cases Z<;>cases X<;>(simp only[Option.map_none,d0e]at F ⊢;simp[F])
   ·exact h.elim
  ·rename_i k z aH n I;obtain⟨ag,U,h3,h⟩:=h;subst ag;split at h
   ·rename_i k1 l k2 hh M W;obtain⟨R,h⟩:=h;refine⟨_,h,λν a w O J E D=>?_⟩;obtain⟨b0,b1,b2⟩:=R D;have B:=opS D (E x (by simp[IOp.uses])) G;rw[I]at B;simp only[Den]at B;obtain⟨A,c,B,ab,ai,hA⟩:=B;have al:(Z.map a.eval=none/\l=0)\/Z.map a.eval=some (.int k1 l):=by
     cases Z with
     | none=>simp only[F5,strip]at M;injection M with M;injection M with _ M;exact .inl ⟨rfl,M.symm⟩
     | some o=>
      have H:=opS D (E o (by simp[IOp.uses])) U;simp only[F5]at M;rw[M]at H;exact .inr (by rw[d0e,F6 H])
    have an:(X.map a.eval=none/\hh=n)\/X.map a.eval=some (.int k2 hh):=by
     cases X with
     | none=>simp only[F5,strip]at W;injection W with M;injection M with _ M;exact .inl ⟨rfl,M.symm⟩
     | some o=>
      have H:=opS D (E o (by simp[IOp.uses])) h3;simp only[F5]at W;rw[W]at H;exact .inr (by rw[d0e,F6 H])
    have F:=a3i (P:=P) w t e ie ht hi' A n c (Z.map a.eval) (X.map a.eval) l hh k1 k2 al an b0 b1 b2 ab;refine⟨sliced A l.toNat hh.toNat c ie.size,?_,?_⟩
    ·simp only[Den];refine⟨(if c=l.toNat then A else A.map (·.add (l.toNat*ie.size))),c-l.toNat,rfl,by omega,by omega,λh0=>?_⟩;have ao:¬c=l.toNat:=by omega
     obtain⟨xv,b,g1,g2,rfl,g3⟩:=hA (by omega);refine⟨xv,b,g1,g2,?_,by rw[show aH+l.toNat+(c-l.toNat)=aH+c by omega];exact g3⟩;rw[if_neg ao,d0e,K4,<- Nat.add_mul]
    ·simp only[execOp,B];cases Z<;>cases X<;>(simp only[Option.map_none,d0e]at F ⊢;simp[F])
   ·exact h.elim
  ·rename_i k I;split at h
   ·rename_i te z es hk;obtain⟨ag,U,h3,h⟩:=h;subst ag;split at h
    ·rename_i k1 l k2 hh M W;obtain⟨R,h⟩:=h;refine⟨_,h,λν a w O J E D=>?_⟩;obtain⟨b0,b1,b2⟩:=R D;have B:=opS D (E x (by simp[IOp.uses])) G;rw[I]at B;simp only[Den]at B;obtain⟨xk,N,aa,vs,hD,_,Y⟩:=J k _ hk;obtain⟨e0,_⟩:=B;have au:=N;rw[e0]at au;injection au with au;obtain⟨A,c,B,ab,ai,hA⟩:∃A c,a.eval x=.slice A es.length c/\es.length<=c/\c<=maxLen/\(0<c->∃g,xk=.slice (some ⟨g,0,none⟩) es.length c/\A=some ⟨g,0,none⟩):=by
      rcases Y.2 with⟨az,A,hv⟩|⟨g,cap,aC,hv,_,_,ab,ai,_⟩
      ·exact⟨A,0,by rw[au,hv,az],by omega,d0k _,λh=>by omega⟩
      ·exact⟨_,cap,by rw[au,hv],ab,ai,λ_=>⟨g,hv,rfl⟩⟩
     have al:(Z.map a.eval=none/\l=0)\/Z.map a.eval=some (.int k1 l):=by
      cases Z with
      | none=>simp only[F5,strip]at M;injection M with M;injection M with _ M;exact .inl ⟨rfl,M.symm⟩
      | some o=>
       have H:=opS D (E o (by simp[IOp.uses])) U;simp only[F5]at M;rw[M]at H;exact .inr (by rw[d0e,F6 H])
     have an:(X.map a.eval=none/\hh=es.length)\/X.map a.eval=some (.int k2 hh):=by
      cases X with
      | none=>simp only[F5,strip]at W;injection W with M;injection M with _ M;exact .inl ⟨rfl,M.symm⟩
      | some o=>
       have H:=opS D (E o (by simp[IOp.uses])) h3;simp only[F5]at W;rw[W]at H;exact .inr (by rw[d0e,F6 H])
     have F:=a3i (P:=P) w t e ie ht hi' A es.length c (Z.map a.eval) (X.map a.eval) l hh k1 k2 al an b0 b1 b2 ab;refine⟨sliced A l.toNat hh.toNat c ie.size,?_,?_⟩
     ·simp only[Den];refine⟨(if c=l.toNat then A else A.map (·.add (l.toNat*ie.size))),c-l.toNat,rfl,by omega,by omega,λh0=>?_⟩;have ao:¬c=l.toNat:=by omega
      obtain⟨g,hv,rfl⟩:=hA (by omega);refine⟨xk,g,N,by rw[hv];rfl,?_,by rw[hv];show c=_;omega⟩;rw[if_neg ao,d0e,K4,d0A]
     ·simp only[execOp,B];cases Z<;>cases X<;>(simp only[Option.map_none,d0e]at F ⊢;simp[F])
    ·exact h.elim
   ·exact h.elim
  ·rename_i I;obtain⟨U,h3,h⟩:=h;split at h
   ·rename_i k1 l k2 hh M W;obtain⟨R,h⟩:=h;refine⟨_,h,λν a w O J E D=>?_⟩;obtain⟨rfl,rfl⟩:=R D;have B:=opS D (E x (by simp[IOp.uses])) G;rw[I]at B;have B:=F6 B;have al:(Z.map a.eval=none/\(0:Int)=0)\/Z.map a.eval=some (.int k1 0):=by
     cases Z with
     | none=>exact .inl ⟨rfl,rfl⟩
     | some o=>
      have H:=opS D (E o (by simp[IOp.uses])) U;simp only[F5]at M;rw[M]at H;exact .inr (by rw[d0e,F6 H])
    have an:(X.map a.eval=none/\(0:Int)=((0:Nat):Int))\/X.map a.eval=some (.int k2 0):=by
     cases X with
     | none=>exact .inl ⟨rfl,rfl⟩
     | some o=>
      have H:=opS D (E o (by simp[IOp.uses])) h3;simp only[F5]at W;rw[W]at H;exact .inr (by rw[d0e,F6 H])
    have F:=a3i (P:=P) w t e ie ht hi' none 0 0 (Z.map a.eval) (X.map a.eval) 0 0 k1 k2 al an (by omega) (by omega) (by omega) (d0m _);refine⟨sliced none (0:Int).toNat (0:Int).toNat 0 ie.size,by simp[Den,sliced],?_⟩;simp only[execOp,B];cases Z<;>cases X<;>(simp only[Option.map_none,d0e]at F ⊢;simp[F])
   ·exact h.elim
  ·exact h.elim
 | sub64 c f x y b hc hcl ha=>
  simp only[G9]at h;obtain⟨G,U,h3,h⟩:=h;obtain⟨aw,⟨args⟩,ats⟩:=c;simp only at hc ha;subst hc ha;split at h
  ·rename_i va vc vd I T R;obtain⟨av,h⟩:=h;refine⟨_,h,λν a w O J E D=>?_⟩;obtain⟨b1,⟨b2,b3⟩,b4,b5⟩:=av D;have B:=opS D (E x (by simp[IOp.uses])) G;have H:=opS D (E y (by simp[IOp.uses])) U;have e3:=opS D (E b (by simp[IOp.uses])) h3;rw[I]at B;rw[T]at H;rw[R]at e3;have B:=F6 B;have H:=F6 H;have e3:=F6 e3;obtain⟨na,rfl⟩:=Int.eq_ofNat_of_zero_le b1;obtain⟨nc,rfl⟩:=Int.eq_ofNat_of_zero_le b2;obtain⟨nd,rfl⟩:=Int.eq_ofNat_of_zero_le b4;have F:=b9g hcl na nc nd (by omega) w;have w1:((na:Int)+18446744073709551616-(nc:Int)-(nd:Int))%18446744073709551616=(((na+18446744073709551616-nc-nd)%18446744073709551616:Nat):Int):=by omega
   have w2:(if(na:Int)<(nc:Int)+(nd:Int) then(1:Int) else 0)=((if na<nc+nd then 1 else 0:Nat):Int):=by
    split<;>split<;>omega
   rw[w1,w2];refine⟨_,⟨_,l6.vs [_,_],rfl⟩,?_⟩;have aV:execOp a.eval { dst,op:=.call { callee:=.value (.func f),args:=⟨[x,y,b]⟩,argTypes:=ats },type:=ty,pos,after,guard }=callFunc f #[a.eval x,a.eval y,a.eval b]:=by
    have:execOp a.eval { dst,op:=.call { callee:=.value (.func f),args:=⟨[x,y,b]⟩,argTypes:=ats },type:=ty,pos,after,guard }=callFunc f (#[]++Array.map a.eval ⟨[x,y,b]⟩++#[]):=rfl;rw[this];simp
   rw[aV,B,H,e3];exact F
  ·exact h.elim
 | cap c t e x hc hat ha ht=>
  simp only[G9]at h;obtain⟨G,h⟩:=h;obtain⟨aw,⟨args⟩,⟨ats⟩⟩:=c;simp only at hc hat ha;subst hc hat ha;have fin:∀(y:Value) (a:Act) (w:World),a.eval x=y->(∃A,y=.slice A 0 0)->(execOp a.eval { dst,op:=.call ⟨.builtin .cap,⟨[x]⟩,⟨[t]⟩⟩,type:=ty,pos,after,guard }).run P w=.ok (.value (.int .i64 0)) w:=by
   rintro y a w B ⟨A,rfl⟩;simp[execOp,resolve,invoke,builtin,Builtin.cap_,run_underlying ht,B,goInt]
  split at h
  ·rename_i I;refine⟨_,h,λν a w O J E D=>?_⟩;have B:=opS D (E x (by simp[IOp.uses])) G;rw[I]at B;have B:=F6 B;exact⟨_,rfl,fin _ a w B ⟨_,rfl⟩⟩
  ·rename_i I;refine⟨_,h,λν a w O J E D=>?_⟩;have B:=opS D (E x (by simp[IOp.uses])) G;rw[I]at B;simp only[Den]at B;obtain⟨A,B⟩:=B;exact⟨_,rfl,fin _ a w B ⟨A,rfl⟩⟩
  ·exact h.elim
 | slca t e n ie x ht X=>
  simp only[G9]at h;obtain⟨G,h⟩:=h;split at h
  ·rename_i k I;obtain⟨hn,h⟩:=h;refine⟨_,h,λν a w O J E D=>?_⟩;have B:=opS D (E x (by simp[IOp.uses])) G;rw[I]at B;simp only[Den]at B;obtain⟨b,R,B⟩:=B;refine⟨.slice (some ⟨b,0,none⟩) n n,⟨_,n,rfl,d0m _,by unfold maxLen;omega,λ_=>⟨_,b,R,rfl,by rw[Nat.zero_mul],trivial⟩⟩,?_⟩;have av:(Instr.sliceBounds false n n none none none).run P w=.ok (0,n,n) w:=by simp[Instr.sliceBounds]
   have U:(Instr.sliceAt t (.pointer (some ⟨b,0,none⟩)) none none none).run P w=.ok (.slice (some ⟨b,0,none⟩) n n) w:=by
    unfold Instr.sliceAt;simp only[Sem.run_bind,run_underlying ht,Result.andThen_ok,Instr.sureAddr,Sem.run_pure,av,sizeOf,typeInfo,run_program,X];have:=K4 b 0 (0*ie.size);rw[this];simp
   simp[execOp,B,U]
  ·exact h.elim
 | zcap t e x Z X mx ie ht hi' R=>
  simp only[G9]at h;obtain⟨G,h⟩:=h;obtain⟨rfl,⟨k1,rfl⟩,⟨k2,rfl⟩⟩:Z=none/\(∃k,X=some (.const (.int k 0)))/\∃k,mx=.const (.int k 0):=by
   unfold a8k at R;split at R
   ·rename_i B H e3;injection e3 with e3;exact⟨rfl,⟨_,rfl⟩,⟨_,e3⟩⟩
   ·cases R
  have he:P.elem t=e:=by simp[Program.elem,ht]
  have fin:∀(y:Value) (a:Act) (w:World),a.eval x=y->(∃A n c,y=.slice A n c)->∃A,(execOp a.eval { dst,op:=.slice t x none (some (.const (.int k1 0))) (some (.const (.int k2 0))),type:=ty,pos,after,guard }).run P w=.ok (.value (.slice A 0 0)) w:=by
   rintro y a w B ⟨A,n,c,rfl⟩;have a4:P.underlying t=some (.slice (P.elem t)):=by rw[he];exact ht
   refine⟨A,?_⟩;have av:(Instr.sliceBounds true n c none (some (.int k1 0)) (some (.int k2 0))).run P w=.ok (0,0,0) w:=by
    have c1:(0:Int)<=(c:Int):=by omega
    simp[Instr.sliceBounds,Instr.sliceBound,asIntOf]
   have U:(Instr.sliceAt t (.slice A n c) none (some (.int k1 0)) (some (.int k2 0))).run P w=.ok (.slice A 0 0) w:=by
    unfold Instr.sliceAt;simp only[Sem.run_bind,run_underlying ht,Result.andThen_ok];unfold Instr.slice;simp only[Sem.run_bind,run_underlying ht,Result.andThen_ok,av,sizeOf,typeInfo,run_program,hi',Sem.run_pure];simp
   have h3:(execOp a.eval { dst,op:=.slice t x none (some (.const (.int k1 0))) (some (.const (.int k2 0))),type:=ty,pos,after,guard })=(do pure (.value (<- Instr.sliceAt t (a.eval x) none (some (.int k1 0)) (some (.int k2 0))))):=rfl;rw[h3,B,Sem.run_bind,U];rfl
  have done:∀(s:C),strip (ov x)=s->(∀ν w O y,Den ν w O s y->∃A n c,y=.slice A n c)->∀ν a w O,HR ν w O rs->(∀z∈(IOp.zcap x).uses,Den ν w O (ov z) (a.eval z))->p=true ->
   Yl P ν w O a { dst,op:=.slice t x none (some (.const (.int k1 0))) (some (.const (.int k2 0))),type:=ty,pos,after,guard } .nl:=λs he hk ν a w O J E D=>by
   have B:=opS D (E x (by simp[IOp.uses])) G;rw[he]at B;obtain⟨A,F⟩:=fin _ a w rfl (hk _ _ _ _ B);exact⟨_,⟨A,rfl⟩,F⟩
  split at h
  ·rename_i I;exact⟨_,h,done _ I λν w O y T=>by simp only[Den,Fz]at T;obtain⟨A,c,rfl,_⟩:=T;exact⟨_,_,_,rfl⟩⟩
  ·rename_i I;exact⟨_,h,done _ I λν w O y T=>by simp only[Den]at T;exact T.2⟩
  ·rename_i I;exact⟨_,h,done _ I λν w O y T=>by simp only[Den]at T;obtain⟨A,rfl⟩:=T;exact⟨_,_,_,rfl⟩⟩
  ·rename_i I;exact⟨_,h,done _ I λν w O y T=>by simp only[Den]at T;exact⟨_,_,_,T⟩⟩
  ·exact h.elim
 | aeqT t yt x y ks hg M hs=>
  simp only[G9]at h;obtain⟨G,U,h⟩:=h;split at h
  ·rename_i cs ds I T;obtain⟨r,hr,ae⟩:=b2Y h;refine⟨_,hr,λν a w O J E D=>?_⟩;obtain⟨⟨xs⟩,B,aE⟩:=a1R (opS D (E x (by simp[IOp.uses])) G) I;obtain⟨⟨ys⟩,H,aF⟩:=a1R (opS D (E y (by simp[IOp.uses])) U) T;have F:=b7P (P:=P) (w:=w) M hs (ae ν w O _ _ aE aF);refine⟨.bool r,rfl,?_⟩;simp only[execOp,B,H,Sem.run_bind,run_eqGuard_agg _ _ _ _ _ _ _ hg,run_eql_struct,F,Result.andThen_ok];rfl
  ·exact h.elim
 | aeqF t yt x y ks hg M hs=>
  simp only[G9]at h;obtain⟨G,U,h⟩:=h;split at h
  ·rename_i cs ds I T;obtain⟨r,hr,ae⟩:=b2Y h;refine⟨_,hr,λν a w O J E D=>?_⟩;obtain⟨⟨xs⟩,B,aE⟩:=a1R (opS D (E x (by simp[IOp.uses])) G) I;obtain⟨⟨ys⟩,H,aF⟩:=a1R (opS D (E y (by simp[IOp.uses])) U) T;have F:=b7P (P:=P) (w:=w) M hs (ae ν w O _ _ aE aF);refine⟨.bool (!r),rfl,?_⟩;simp only[execOp,B,H,Sem.run_bind,run_eqGuard_agg _ _ _ _ _ _ _ hg,run_neq_struct,F,Result.andThen_ok];rfl
  ·exact h.elim
 | nilIT t yt x hs=>
  obtain⟨ms,hs⟩:=hs;simp only[G9]at h;obtain⟨G,h⟩:=h;have F:∀(a:Act) (w:World) z b,a.eval x=z->a5u z=some b->(execOp a.eval { dst,op:=.binOp .eql t x (.const .nilIface) yt,type:=ty,pos,after,guard }).run P w=.ok (.value (.bool b)) w:=by
   intro a w z b hz R;have h0:a.eval (.const .nilIface)=.nilIface:=rfl;simp[execOp,hz,h0,a8L (P:=P) R,b6M R (b0l (P:=P) (w:=w) hs R)]
  split at h
  ·rename_i I;refine⟨_,h,λν a w O J E D=>⟨.bool true,rfl,?_⟩⟩;have B:=opS D (E x (by simp[IOp.uses])) G;rw[I]at B;exact F a w _ true (F6 B) rfl
  ·rename_i q1 q2 I;refine⟨_,h,λν a w O J E D=>⟨.bool false,rfl,?_⟩⟩;have B:=opS D (E x (by simp[IOp.uses])) G;rw[I]at B;exact F a w _ false (F6 B) rfl
  ·rename_i S I;obtain⟨hS,h⟩:=h;refine⟨_,h,λν a w O J E D=>?_⟩;have B:=opS D (E x (by simp[IOp.uses])) G;rw[I]at B;simp only[Den]at B;obtain⟨b,R⟩:=Option.isSome_iff_exists.1 (hS _ B);exact⟨.bool b,⟨_,b,B,R,rfl⟩,F a w _ b rfl R⟩
  ·exact h.elim
 | nilIF t yt x hs=>
  obtain⟨ms,hs⟩:=hs;simp only[G9]at h;obtain⟨G,h⟩:=h;have F:∀(a:Act) (w:World) z b,a.eval x=z->a5u z=some b->(execOp a.eval { dst,op:=.binOp .neq t x (.const .nilIface) yt,type:=ty,pos,after,guard }).run P w=.ok (.value (.bool (!b))) w:=by
   intro a w z b hz R;have h0:a.eval (.const .nilIface)=.nilIface:=rfl;simp[execOp,hz,h0,a8L (P:=P) R,b7n R (b0l (P:=P) (w:=w) hs R)]
  split at h
  ·rename_i I;refine⟨_,h,λν a w O J E D=>⟨.bool false,rfl,?_⟩⟩;have B:=opS D (E x (by simp[IOp.uses])) G;rw[I]at B;exact F a w _ true (F6 B) rfl
  ·rename_i q1 q2 I;refine⟨_,h,λν a w O J E D=>⟨.bool true,rfl,?_⟩⟩;have B:=opS D (E x (by simp[IOp.uses])) G;rw[I]at B;exact F a w _ false (F6 B) rfl
  ·rename_i S I;obtain⟨hS,h⟩:=h;refine⟨_,h,λν a w O J E D=>?_⟩;have B:=opS D (E x (by simp[IOp.uses])) G;rw[I]at B;simp only[Den]at B;obtain⟨b,R⟩:=Option.isSome_iff_exists.1 (hS _ B);exact⟨.bool (!b),⟨_,b,B,R,rfl⟩,F a w _ b rfl R⟩
  ·exact h.elim
 | nilST t yt x hs=>
  obtain⟨e,hs⟩:=hs;simp only[G9]at h;obtain⟨G,h⟩:=h;have F:∀(a:Act) (w:World) A l c,a.eval x=.slice A l c->(execOp a.eval { dst,op:=.binOp .eql t x (.const (.slice none 0 0)) yt,type:=ty,pos,after,guard }).run P w=.ok (.value (.bool A.isNone)) w:=by
   intro a w A l c hz;have h0:a.eval (.const (.slice none 0 0))=.slice none 0 0:=rfl;simp[execOp,hz,h0,eqGuard,binOp,run_equal_slice_nil w t e A l c hs]
  split at h
  ·rename_i I;refine⟨_,h,λν a w O J E D=>⟨.bool true,rfl,?_⟩⟩;have B:=opS D (E x (by simp[IOp.uses])) G;rw[I]at B;exact F a w _ _ _ (F6 B)
  ·rename_i I;refine⟨_,h,λν a w O J E D=>?_⟩;have B:=opS D (E x (by simp[IOp.uses])) G;rw[I]at B;simp only[Den]at B;obtain⟨A,B⟩:=B;exact⟨_,⟨_,rfl⟩,F a w _ _ _ B⟩
  ·rename_i es I;refine⟨_,h,λν a w O J E D=>?_⟩;have B:=opS D (E x (by simp[IOp.uses])) G;rw[I]at B;simp only[Den,Fz]at B;obtain⟨A,c,B,_,_,hA⟩:=B;refine⟨_,⟨_,rfl,λao=>?_⟩,F a w _ _ _ B⟩;obtain⟨ad,rfl,_⟩:=hA (List.length_pos_iff.2 ao);rfl
  ·exact h.elim
 | nilSF t yt x hs=>
  obtain⟨e,hs⟩:=hs;simp only[G9]at h;obtain⟨G,h⟩:=h;have F:∀(a:Act) (w:World) A l c,a.eval x=.slice A l c->(execOp a.eval { dst,op:=.binOp .neq t x (.const (.slice none 0 0)) yt,type:=ty,pos,after,guard }).run P w=.ok (.value (.bool (!A.isNone))) w:=by
   intro a w A l c hz;have h0:a.eval (.const (.slice none 0 0))=.slice none 0 0:=rfl;simp[execOp,hz,h0,eqGuard,binOp,run_equal_slice_nil w t e A l c hs]
  split at h
  ·rename_i I;refine⟨_,h,λν a w O J E D=>⟨.bool false,rfl,?_⟩⟩;have B:=opS D (E x (by simp[IOp.uses])) G;rw[I]at B;exact F a w _ _ _ (F6 B)
  ·rename_i I;refine⟨_,h,λν a w O J E D=>?_⟩;have B:=opS D (E x (by simp[IOp.uses])) G;rw[I]at B;simp only[Den]at B;obtain⟨A,B⟩:=B;exact⟨_,⟨_,rfl⟩,F a w _ _ _ B⟩
  ·rename_i es I;refine⟨_,h,λν a w O J E D=>?_⟩;have B:=opS D (E x (by simp[IOp.uses])) G;rw[I]at B;simp only[Den,Fz]at B;obtain⟨A,c,B,_,_,hA⟩:=B;refine⟨_,⟨_,rfl,λao=>?_⟩,F a w _ _ _ B⟩;obtain⟨ad,rfl,_⟩:=hA (List.length_pos_iff.2 ao);rfl
  ·exact h.elim
 | bnd f first aj x hf hf2=>
  simp only[G9]at h;obtain⟨G,h⟩:=h;refine⟨_,h,λν a w O J E D=>?_⟩;refine⟨.func (.func f) #[a.eval x] #[],⟨_,opS D (E x (by simp[IOp.uses])) G,rfl⟩,?_⟩;obtain⟨aj⟩:=aj;obtain⟨first⟩:=first
  simp only at hf hf2;subst hf hf2;simp[execOp,Instr.makeFunc]
 | clo f first aj hf=>
  simp only[G9]at h;obtain⟨G,h⟩:=h;refine⟨_,h,λν a w O J E D=>?_⟩;have aT:first=#[]:=Array.eq_empty_of_size_eq_zero hf
  subst aT;refine⟨.func (.func f) #[] (aj.toList.map a.eval).toArray,⟨_,a0b D G E,rfl⟩,?_⟩;obtain⟨aj⟩:=aj;simp[execOp,Instr.makeFunc]
 | lkp t e str ok m k i z hk X hz=>
  simp only[G9]at h;obtain⟨G,U,h⟩:=h;split at h
  ·rename_i j aW hm aI;split at h
   ·rename_i s es hj;obtain⟨hs,aP,h⟩:=h;subst hs;refine⟨_,h,λν a w O J E D=>?_⟩;have B:=opS D (E m (by simp[IOp.uses])) G;have H:=opS D (E k (by simp[IOp.uses])) U;rw[hm]at B;rw[aI]at H;have H:=F6 H;simp only[Den]at B;obtain⟨xk,N,b,aM,aX,rfl,R,rfl,aS⟩:=J j _ hj;rw[N]at B;obtain⟨B,_⟩:=B;injection B with B;have F:=b8G (P:=P) (w:=w) (ok:=ok) hk X hz R (λx I=>aS _ (List.mem_map.2 ⟨x,I,rfl⟩)) (aP D);refine⟨_,?_,by simp only[execOp,<- B,H,Sem.run_bind,F];rfl⟩;cases hf:a0d aW (aM.toList.map λe=>(e.key,e.val)) with
    | none=>cases ok<;>simp only[b6i,Den,l6]<;>simp
    | some u=>cases ok<;>simp only[b6i,Den,l6]<;>simp
   ·exact h.elim
  ·exact h.elim
 | _=>exact(h:False).elim
end
mutual
def C.has(k:Nat):C->Bool
 | .rv l=>l==k
 | .rp l _ _ _=>l==k
 | .bp l _=>l==k
 | .mp l=>l==k
 | .wv l _ _ _=>l==k
 | .agg cs=>C.a7p k cs
 | .tup cs=>C.a7p k cs
 | .g _ x=>C.has k x
 | .clo _ cs=>C.a7p k cs
 | .bnd _ x=>C.has k x
 | _=>false
def C.a7p(k:Nat):List C->Bool
 | []=>false
 | c::cs=>C.has k c||C.a7p k cs
end
def C.a1N(c:C):List Nat->Bool
 | []=>false
 | k::pk=>c.has k||C.a1N c pk
def C.y9(pk:List Nat)(c:C):C:=
 match pk with
 | []=>c
 | _=>bif c.a1N pk then .junk else c
def a0R(pk:List Nat)(fr:List (Nat×C)):List (Nat×C):=
 match pk with
 | []=>fr
 | _=>fr.map λ(t,c)=>(t,c.y9 pk)
def Res.y9(pk:List Nat):Res->Res
 | .box t cs=>.box t (cs.map (C.y9 pk))
 | r=>r
def a1h(pk:List Nat)(rs:List Res):List Res:=
 match pk with
 | []=>rs
 | _=>rs.map (Res.y9 pk)
def a5z(pk:List Nat)(t:Nat):∀(fr:List (Nat×C)),slot (a0R pk fr) t=(slot fr t).y9 pk:=by
 cases pk with
 | nil=>intro fr;rfl
 | cons k pk=>
  intro fr
  show slot (fr.map _) t=_
  induction fr with
  | nil=>simp only[d0p,slot,C.y9];cases u:C.junk.a1N (k::pk)<;>rfl
  | cons p fr ih=>
   obtain⟨n,c⟩:=p;simp only[d0l,slot,ih];cases h:(n==t)<;>rfl
section
variable {ν ν':List Value} {w:World} {O:Nat->Prop}
mutual
theorem Den.nu{pk:List Nat}(h:a0t pk ν ν'):∀{c:C} {y:Value},(∀k∈pk,c.has k=false)->Den ν w O c y->Den ν' w O c y
 | .v _,y,_,hd=>by simpa only[Den] using hd
 | .agg cs,y,hk,hd=>by simp only[Den]at hd ⊢;obtain⟨vs,h1,h2⟩:=hd;exact⟨vs,l6.nu h (λk u=>by simpa only[C.has] using hk k u) h1,h2⟩
 | .tup cs,y,hk,hd=>by simp only[Den]at hd ⊢;obtain⟨vs,h1,h2⟩:=hd;exact⟨vs,l6.nu h (λk u=>by simpa only[C.has] using hk k u) h1,h2⟩
 | .sl _ _,y,_,hd=>by simpa only[Den] using hd
 | .nl,y,_,hd=>by simpa only[Den] using hd
 | .ep _,y,_,hd=>by simpa only[Den] using hd
 | .clo f cs,y,hk,hd=>by simp only[Den]at hd ⊢;obtain⟨vs,h1,h2⟩:=hd;exact⟨vs,l6.nu h (λk u=>by simpa only[C.has] using hk k u) h1,h2⟩
 | .bnd f x,y,hk,hd=>by simp only[Den]at hd ⊢;obtain⟨v,h1,h2⟩:=hd;exact⟨v,Den.nu h (λk u=>by simpa only[C.has] using hk k u) h1,h2⟩
 | .bp l off,y,hk,hd=>by
  simp only[Den]at hd ⊢;obtain⟨b,h1,h2⟩:=hd;exact⟨b,h l _ (λB=>by have:=hk l B;simp[C.has]at this) h1,h2⟩
 | .rv l,y,hk,hd=>by
  simp only[Den]at hd ⊢;exact⟨h l _ (λB=>by have:=hk l B;simp[C.has]at this) hd.1,hd.2⟩
 | .rp l z i off,y,hk,hd=>by
  simp only[Den]at hd ⊢;obtain⟨b,n,c,h1,h2⟩:=hd;exact⟨b,n,c,h l _ (λB=>by have:=hk l B;simp[C.has]at this) h1,h2⟩
 | .mp l,y,hk,hd=>by
  simp only[Den]at hd ⊢;exact⟨h l _ (λB=>by have:=hk l B;simp[C.has]at this) hd.1,hd.2⟩
 | .wv l z lo n,y,hk,hd=>by
  simp only[Den]at hd ⊢;obtain⟨A,c,h1,h2,D,E⟩:=hd;refine⟨A,c,h1,h2,D,λI=>?_⟩;obtain⟨x,b,G,H⟩:=E I;exact⟨x,b,h l _ (λB=>by have:=hk l B;simp[C.has]at this) G,H⟩
 | .g p x,y,hk,hd=>by
  simp only[Den]at hd ⊢;exact⟨λF=>Den.nu h (λk u=>by simpa only[C.has] using hk k u) (hd.1 F),hd.2⟩
 | .any _,y,_,hd=>by simpa only[Den] using hd
 | .junk,y,_,_=>by simp only[Den]
theorem l6.nu{pk:List Nat}(h:a0t pk ν ν'):∀{cs:List C} {vs:List Value},(∀k∈pk,C.a7p k cs=false)->l6 ν w O cs vs->l6 ν' w O cs vs
 | [],vs,_,hd=>by simpa only[l6] using hd
 | c::cs,vs,hk,hd=>by
  simp only[l6]at hd ⊢;obtain⟨y,ys,e,h1,h2⟩:=hd;exact⟨y,ys,e,Den.nu h (λk u=>by have:=hk k u;simp only[C.a7p,d0F]at this;exact this.1) h1,
   l6.nu h (λk u=>by have:=hk k u;simp only[C.a7p,d0F]at this;exact this.2) h2⟩
end
theorem a6z{c:C}:∀{pk:List Nat},c.a1N pk=false->∀k∈pk,c.has k=false
 | [],_,k,hk=>by cases hk
 | l::pk,h,k,hk=>by
  simp only[C.a1N,d0F]at h;cases List.mem_cons.1 hk with
  | inl e=>subst e;exact h.1
  | inr e=>exact a6z h.2 k e
theorem Den.y9{pk:List Nat}(h:a0t pk ν ν'){c:C}{y:Value}(u:Den ν w O c y):Den ν' w O (c.y9 pk) y:=by
 cases pk with
 | nil=>exact Den.nu h (by simp) u
 | cons k pk=>
  simp only[C.y9];cases A:c.a1N (k::pk) with
  | true=>simp only[cond_true,Den]
  | false=>exact Den.nu h (a6z A) u
theorem l6.y9{pk:List Nat}(h:a0t pk ν ν'):∀{cs:List C} {vs:List Value},l6 ν w O cs vs->l6 ν' w O (cs.map (C.y9 pk)) vs
 | [],vs,hd=>by simpa only[d0p,l6] using hd
 | c::cs,vs,hd=>by
  simp only[d0l,l6]at hd ⊢;obtain⟨y,ys,e,h1,h2⟩:=hd;exact⟨y,ys,e,Den.y9 h h1,l6.y9 h h2⟩
end
structure Mv(rs:List Res)(ν:List Value)(w:World)(pk:List Nat)(rs':List Res)(ν':List Value)(w':World):Prop where
 os:w'.os=w.os
 tape:w'.tape=w.tape
 output:w'.output=w.output
 size:w.heap.size<=w'.heap.size
 block:∀b,b<w.heap.size->¬owned rs ν b->w'.heap[b]?=w.heap[b]?
 own:∀b,owned rs' ν' b->owned rs ν b\/w.heap.size<=b
 nu:a0t pk ν ν'
section
variable {ν ν':List Value} {w w':World} {rs rs':List Res} {av own0:Nat->Prop} {n0:Nat} {pk:List Nat}
def Mv.keeps(h:Mv rs ν w pk rs' ν' w'):Keeps (OO av rs ν) w (OO av rs' ν') w':=by
 intro b B A;refine⟨d0E B h.size,λu=>?_,h.block b B λD=>A (.inr D)⟩;rcases u with u|u
 ·exact A (.inl u)
 ·rcases h.own b u with u|u
  ·exact A (.inr u)
  ·omega
def Mv.of_below(hb:Below w.heap.size w w'):Mv rs ν w [] rs ν w':=⟨hb.os,hb.tape,hb.output,hb.size,λb h _=>hb.block b h,λb h=>.inl h,λ_ _ _ h=>h⟩
theorem Mv.trans{A:List Value}{u:List Res}{E:World}{F:List Nat}(h:Mv rs ν w pk rs' ν' w')(B:Mv rs' ν' w' F u A E):Mv rs ν w (pk++F) u A E:=by
 refine⟨B.os.trans h.os,B.tape.trans h.tape,B.output.trans h.output,d0f h.size B.size,λb G I=>?_,λb G=>?_,λk x H J=>?_⟩
 ·rw[B.block b (d0E G h.size) (λK=>by rcases h.own b K with D|D;exact I D;omega)];exact h.block b G I
 ·rcases B.own b G with D|D
  ·exact h.own b D
  ·exact .inr (d0f h.size D)
 ·simp only[List.mem_append,not_or]at H;exact B.nu k x H.2 (h.nu k x H.1 J)
def N8.mv{x:Value}{r:Res}{O O':Nat->Prop}(h:N8 ν w O x r)(H:Keeps O w O' w')(I:a0t pk ν ν')(F:∀b,fp r x b->w'.heap[b]?=w.heap[b]?):N8 ν' w' O' x (r.y9 pk):=by
 cases r with
 | gone=>trivial
 | box t cs=>
  obtain⟨b,vs,rfl,A,D,u⟩:=h;exact⟨b,vs,rfl,l6.y9 I (l6.keep H A),D,(F b rfl).trans u⟩
 | row e sz es=>
  obtain⟨J,vs,A,D,u⟩:=h;refine⟨J,vs,FzL.keep H A,D,u.1,?_⟩;rcases u.2 with N|⟨g,cap,G,rfl,K,M,rest⟩
  ·exact .inl N
  ·exact .inr ⟨g,cap,G,rfl,K,(F g (by simp only[fp,E8];rw[if_neg (by omega)])).trans M,rest⟩
 | map s es=>
  obtain⟨b,E,B,rfl,A,D,u⟩:=h;exact⟨b,E,B,rfl,(F b rfl).trans A,D,u⟩
 | fb e bs=>
  obtain⟨g,mk,rfl,A,D,u⟩:=h;exact⟨g,mk,rfl,A,D,(F g (by simp only[fp,E8];rw[if_neg (by omega)])).trans u⟩
def a0I(r:Res)(x:Value)(b:Nat):fp (r.y9 pk) x b=fp r x b:=by cases r<;>rfl
def a6L(rs:List Res):rs.map (Res.y9 [])=rs:=by
 have:∀r:Res,r.y9 []=r:=λr=>by
  cases r with
  | box t cs=>simp only[Res.y9];congr 1;exact List.map_id' cs
  | _=>rfl
 rw[show(Res.y9 []:Res->Res)=id from funext this];simp
def b9b(pk:List Nat)(rs:List Res):a1h pk rs=rs.map (Res.y9 pk):=by
 cases pk with
 | nil=>exact(a6L rs).symm
 | cons k pk=>rfl
def RG.lt(h:RG av own0 n0 ν rs w){k:Nat}{r:Res}{x:Value}{b:Nat}(hk:rs[k]?=some r)(hx:ν[k]?=some x)(hf:fp r x b):b<w.heap.size:=(h.low b ⟨k,r,x,hk,hx,hf⟩).1
def RG.get(h:RG av own0 n0 ν rs w){k:Nat}{r:Res}{x:Value}(B:rs[k]?=some r)(A:ν[k]?=some x):N8 ν w (OO av rs ν) x r:=by
 obtain⟨D,u,hr⟩:=h.res k r B;rw[A]at u;injection u with u;subst u;exact hr
def RG.below(h:RG av own0 n0 ν rs w)(u:Below w.heap.size w w'):RG av own0 n0 ν rs w':=by
 have J:Keeps (OO av rs ν) w (OO av rs ν) w':=(Mv.of_below (rs:=rs) (ν:=ν) u).keeps;refine⟨h.len,λk r hr=>?_,h.dis,λb G=>?_,λb D=>d0E (h.av b D) u.size,d0f h.n0 u.size⟩
 ·obtain⟨x,B,A⟩:=h.res k r hr;refine⟨x,B,?_⟩;have:=N8.mv (pk:=[]) A J (λ_ _ _ h=>h) λb H=>u.block b (h.lt hr B H);have e:r.y9 []=r:=by have:=a6L [r];simpa using this
  rwa[e]at this
 ·obtain⟨I,E,F⟩:=h.low b G;exact⟨d0E I u.size,E,F⟩
def RG.add(h:RG av own0 n0 ν rs w){x:Value}{r:Res}(K:Below w.heap.size w w')(U:∀b,fp r x b->w.heap.size<=b/\b<w'.heap.size)
  (hr:(Keeps (OO av rs ν) w (OO av (rs++[r]) (ν++[x])) w')->a0t [] ν (ν++[x])->N8 (ν++[x]) w' (OO av (rs++[r]) (ν++[x])) x r) :
  RG av own0 n0 (ν++[x]) (rs++[r]) w'/\Mv rs ν w [] (rs++[r]) (ν++[x]) w':=by
 have I:∀{k:Nat} {q:Res},(rs++[r])[k]?=some q->(k<rs.length/\rs[k]?=some q)\/(k=rs.length/\q=r):=by
  intro k q E;rcases d0B k rs.length with u|V
  ·rw[d0v u]at E;exact .inl ⟨u,E⟩
  ·rw[d0D V]at E;have:k-rs.length=0:=by
    rcases d0K (k-rs.length) with Z|Z
    ·exact Z
    ·rw[d0J (by simp;omega)]at E;cases E
   rw[this]at E;simp at E;exact .inr ⟨by omega,E.symm⟩
 have B:∀{k},k<rs.length->(ν++[x])[k]?=ν[k]?:=λE=>d0v (by rw[h.len];exact E);have G:(ν++[x])[rs.length]?=some x:=by rw[<- h.len];simp
 have own:∀b,owned (rs++[r]) (ν++[x]) b->owned rs ν b\/fp r x b:=by
  rintro b ⟨k,q,y,E,A,H⟩;rcases I E with⟨u,F⟩|⟨rfl,rfl⟩
  ·rw[B u]at A;exact .inl ⟨k,q,y,F,A,H⟩
  ·rw[G]at A;injection A with A;subst A;exact .inr H
 have nu:a0t [] ν (ν++[x]):=λk y _ A=>by
  rw[d0v (d0i.1 A).1];exact A
 have mv:Mv rs ν w [] (rs++[r]) (ν++[x]) w':=
  ⟨K.os,K.tape,K.output,K.size,λb u _=>K.block b u,λb R=>(own b R).imp id λH=>(U b H).1,nu⟩
 refine⟨⟨by simp[h.len],λk q E=>?_,?_,?_,λb W=>d0E (h.av b W) K.size,d0f h.n0 K.size⟩,mv⟩
 ·rcases I E with⟨u,F⟩|⟨rfl,rfl⟩
  ·obtain⟨y,A,X⟩:=h.res k q F;refine⟨y,by rw[B u];exact A,?_⟩;have:=N8.mv (pk:=[]) X mv.keeps nu λb H=>K.block b (h.lt F A H);have e:q.y9 []=q:=by have:=a6L [q];simpa using this
   rwa[e]at this
  ·exact⟨x,G,hr mv.keeps nu⟩
 ·intro k l q q' y y' b O E hl A D H M;rcases I E with⟨u,F⟩|⟨rfl,rfl⟩
  ·rw[B u]at A;rcases I hl with⟨J,N⟩|⟨rfl,rfl⟩
   ·rw[B J]at D;exact h.dis k l q q' y y' b O F N A D H M
   ·rw[G]at D;injection D with D;subst D;have T:=h.lt F A H;have P:=(U b M).1;omega
  ·rw[G]at A;injection A with A;subst A;have P:=(U b H).1;rcases I hl with⟨J,N⟩|⟨rfl,rfl⟩
   ·rw[B J]at D;have T:=h.lt N D M;omega
   ·exact absurd rfl O
 ·intro b R;rcases own b R with R|H
  ·obtain⟨T,P,Y⟩:=h.low b R;exact⟨d0E T K.size,P,Y⟩
  ·obtain⟨T,P⟩:=U b H;have Y:=h.n0;exact⟨P,λW=>by have:=h.av b W;omega,.inr (by omega)⟩
structure Turned(w w':World)(F:Nat->Prop):Prop where
 os:w'.os=w.os
 tape:w'.tape=w.tape
 output:w'.output=w.output
 size:w.heap.size<=w'.heap.size
 block:∀b,b<w.heap.size->¬F b->w'.heap[b]?=w.heap[b]?
def RG.b4z(h:RG av own0 n0 ν rs w){k:Nat}{x x':Value}{r r':Res}(T:rs[k]?=some r)(R:ν[k]?=some x)(J:Turned w w' (fp r x))(hn:a0t pk ν (ν.set k x'))
 (hf:∀b,fp r' x' b->fp r x b\/(w.heap.size<=b/\b<w'.heap.size))
 (hr:(Keeps (OO av rs ν) w (OO av (a1h pk (rs.set k r')) (ν.set k x')) w')->N8 (ν.set k x') w' (OO av (a1h pk (rs.set k r')) (ν.set k x')) x' (r'.y9 pk)) :
 RG av own0 n0 (ν.set k x') (a1h pk (rs.set k r')) w'/\Mv rs ν w pk (a1h pk (rs.set k r')) (ν.set k x') w':=by
 rw[b9b]at*;have ac:k<ν.length:=(d0i.1 R).1;have ae:k<rs.length:=(d0i.1 T).1;have X:(ν.set k x')[k]?=some x':=by rw[List.getElem?_set];simp[ac]
 have V:∀{l},l≠k->(ν.set k x')[l]?=ν[l]?:=λB=>List.getElem?_set_ne (Ne.symm B);have get:∀{l:Nat} {q:Res},((rs.set k r').map (Res.y9 pk))[l]?=some q->(l=k/\q=r'.y9 pk)\/(l≠k/\∃H,rs[l]?=some H/\q=H.y9 pk):=by
  intro l q N;rw[d0q,Option.map_eq_some_iff]at N;obtain⟨H,u,rfl⟩:=N;rw[List.getElem?_set]at u;split at u
  ·rename_i e
   first
    | (injection u with u;subst u;exact .inl ⟨e.symm,rfl⟩)
    | (rw[if_pos (by rw[<- e];exact ae)]at u;injection u with u;subst u;exact .inl ⟨e.symm,rfl⟩)
  ·rename_i e;exact .inr ⟨λe'=>e e'.symm,H,u,rfl⟩
 have own:∀b,owned ((rs.set k r').map (Res.y9 pk)) (ν.set k x') b->(∃l q y,l≠k/\rs[l]?=some q/\ν[l]?=some y/\fp q y b)\/fp r' x' b:=by
  rintro b ⟨l,q,y,hl,D,A⟩;rcases get hl with⟨rfl,rfl⟩|⟨B,H,u,rfl⟩
  ·rw[X]at D;injection D with D;subst D;rw[a0I]at A;exact .inr A
  ·rw[V B]at D;rw[a0I]at A;exact .inl ⟨l,H,y,B,u,D,A⟩
 have mv:Mv rs ν w pk ((rs.set k r').map (Res.y9 pk)) (ν.set k x') w':=by
  refine⟨J.os,J.tape,J.output,J.size,λb hb ab=>J.block b hb λA=>ab ⟨k,r,x,T,R,A⟩,λb ho=>?_,hn⟩;rcases own b ho with⟨l,q,y,_,I,h2,Y⟩|A
  ·exact .inl ⟨l,q,y,I,h2,Y⟩
  ·rcases hf b A with I|I
   ·exact .inl ⟨k,r,x,T,R,I⟩
   ·exact .inr I.1
 refine⟨⟨by simp[h.len],λl q N=>?_,?_,?_,λb ha=>d0E (h.av b ha) J.size,d0f h.n0 J.size⟩,mv⟩
 ·rcases get N with⟨rfl,rfl⟩|⟨B,H,u,rfl⟩
  ·exact⟨x',X,hr mv.keeps⟩
  ·obtain⟨y,D,aa⟩:=h.res l H u;exact⟨y,by rw[V B];exact D,N8.mv aa mv.keeps hn λb A=>J.block b (h.lt u D A) λU=>h.dis l k H r y x b B u T D R A U⟩
 ·have O:∀(l:Nat) (q:Res) (y:Value) (b:Nat),l≠k->rs[l]?=some q->ν[l]?=some y->fp r' x' b->¬fp q y b:=by
   intro l q y b B N D K F;rcases hf b K with K|K
   ·exact h.dis l k q r y x b B N T D R F K
   ·have:=h.lt N D F;omega
  intro l m q q' y y' b B N hm D E F G;rcases get N with⟨rfl,rfl⟩|⟨W,H,u,rfl⟩
  ·rw[X]at D;injection D with D;subst D
   rw[a0I]at F;rcases get hm with⟨rfl,rfl⟩|⟨M,q1,P,rfl⟩
   ·exact absurd rfl B
   ·rw[V M]at E;rw[a0I]at G;exact O m q1 y' b M P E F G
  ·rw[V W]at D;rw[a0I]at F;rcases get hm with⟨rfl,rfl⟩|⟨M,q1,P,rfl⟩
   ·rw[X]at E;injection E with E;subst E
    rw[a0I]at G;exact O l H y b W u D G F
   ·rw[V M]at E;rw[a0I]at G;exact h.dis l m H q1 y y' b B u P D E F G
 ·intro b ho;rcases own b ho with⟨l,q,y,_,I,h2,Y⟩|A
  ·obtain⟨Z,g2,g3⟩:=h.low b ⟨l,q,y,I,h2,Y⟩;exact⟨d0E Z J.size,g2,g3⟩
  ·rcases hf b A with I|I
   ·obtain⟨Z,g2,g3⟩:=h.low b ⟨k,r,x,T,R,I⟩;exact⟨d0E Z J.size,g2,g3⟩
   ·have Y:=h.n0;exact⟨I.2,λha=>by have:=h.av b ha;omega,.inr (by omega)⟩
end
section
variable {ν ν':List Value} {w w':World} {rs rs':List Res} {av own0:Nat->Prop} {n0:Nat} {pk:List Nat}
def set_self{α:Type}{l:List α}{k:Nat}{x:α}(h:l[k]?=some x):l.set k x=l:=by
 apply List.ext_getElem?;intro j;rw[List.getElem?_set];split
 ·rename_i e;subst e;split
  ·exact h.symm
  ·rename_i u;rw[d0J (by omega)]
 ·rfl
def a3T(r:Res):r.y9 []=r:=by have:=a6L [r];simpa using this
def RG.upd(h:RG av own0 n0 ν rs w){k:Nat}{x:Value}{r r':Res}(E:rs[k]?=some r)(A:ν[k]?=some x)(D:Turned w w' (fp r x))(G:∀b,fp r' x b->fp r x b)
  (hr:(Keeps (OO av rs ν) w (OO av (rs.set k r') ν) w')->N8 ν w' (OO av (rs.set k r') ν) x r') :
  RG av own0 n0 ν (rs.set k r') w'/\Mv rs ν w [] (rs.set k r') ν w':=by
 have:=h.b4z (pk:=[]) (x':=x) (r':=r') E A D (λl y _ F=>by rw[set_self A];exact F) (λb B=>.inl (G b B)) (λu=>by
  rw[set_self A]at u ⊢;rw[a3T];exact hr u)
 rwa[set_self A]at this
end
section
variable {E:Ctx} {ν ν':List Value} {sf:Nat->C} {rs rs':List Res} {a:Act} {w w':World} {pk:List Nat}
theorem b3f:∀{pk:List Nat},a5s E pk->∀k∈pk,k∈E.pk0\/E.nu0.length<=k
 | [],_,k,hk=>by cases hk
 | q::pk,h,k,hk=>by
  rcases List.mem_cons.1 hk with rfl|hk
  ·exact h.1.imp (λh=>by simpa using h) id
  ·exact b3f h.2 k hk
def a0t.step(h:a0t E.pk0 E.nu0 ν)(G:a0t pk ν ν')(F:a5s E pk):a0t E.pk0 E.nu0 ν':=by
 intro k x D A;refine G k x (λu=>?_) (h k x D A);rcases b3f F k u with B|B
 ·exact D B
 ·have:=(d0i.1 A).1;omega
def L9.mv(h:L9 E ν sf rs a w)(hr:RG E.av E.own0 E.w0.heap.size ν' rs' w')(u:Mv rs ν w pk rs' ν' w')(D:a5s E pk):L9 E ν' (λt=>(sf t).y9 pk) rs' a w':=by
 refine⟨h.dfr,h.size,λt=>Den.y9 u.nu (Den.keep u.keeps (h.fr t)),hr,⟨u.os.trans h.frm.os,u.tape.trans h.frm.tape,u.output.trans h.frm.output,d0f h.frm.size u.size,λb A B=>?_⟩,h.nu.step u.nu D⟩;rw[u.block b (d0E A h.frm.size) (λF=>by
  rcases(h.rg.low b F).2.2 with h1|h1
  ·exact B h1
  ·omega)]
 exact h.frm.block b A B
theorem L9.below(h:L9 E ν sf rs a w)(u:Below w.heap.size w w'):L9 E ν sf rs a w':=h.mv (h.rg.below u) (Mv.of_below u) trivial
def a0a{a:Act}{N d t:Nat}{y:Value}(u:a.tmps.size=N)(h:d<N):(a.put (some d) y).tmps.getD t undef=if d=t then y else a.tmps.getD t undef:=by
 by_cases e:d=t
 ·subst e;have A:d<a.tmps.size:=by rw[u];exact h
  simp[Act.put,A]
 ·simp[Act.put,Array.getElem?_setIfInBounds_ne e,e]
def a0T(sf:Nat->C)(d:Option Nat)(s:C):Nat->C:=λt=>if d=some t then s else sf t
theorem L9.put(h:L9 E ν sf rs a w){d:Option Nat}(B:a1I E.N d=true){s:C}{y:Value}(A:Den ν w (OO E.av rs ν) s y):L9 E ν (a0T sf d s) rs (a.put d y) w:=by
 cases d with
 | none=>
  refine⟨h.dfr,h.size,λt=>?_,h.rg,h.frm,h.nu⟩;simp only[a0T];rw[if_neg (by intro e;cases e)];exact h.fr t
 | some d=>
  have u:d<E.N:=by simpa[a1I] using B
  refine⟨h.dfr,by simp[Act.put,h.size],λt=>?_,h.rg,h.frm,h.nu⟩;rw[a0a h.size u];simp only[a0T];by_cases e:d=t
  ·subst e;rw[if_pos rfl,if_pos rfl];exact A
  ·rw[if_neg (λq=>e (Option.some.inj q)),if_neg e];exact h.fr t
def U5(fr:List (Nat×C))(d:Option Nat)(s:C):List (Nat×C):=
 match d with
 | some t=>(t,s)::fr
 | none=>fr
def Y8(fr:List (Nat×C))(d:Option Nat)(s:C):slot (U5 fr d s)=a0T (slot fr) d s:=by
 funext t
 cases d with
 | none=>simp[U5,a0T]
 | some d=>
  simp only[U5,slot,a0T,Option.some.injEq];by_cases e:d=t
  ·simp[e]
  ·have:(d==t)=false:=by simpa using e
   simp[this,e]
end
def l5(E:Ctx)(rs:List Res)(f:Nat)(args:List C)(s:C)(rs':List Res)(pk:List Nat):Prop:=
 ∀av ν w vs,RG av E.own0 E.w0.heap.size ν rs w->(∀b,E.av b->av b)->Frm E.own0 E.w0 w->l6 ν w (OO av rs ν) args vs ->
  Calls E.P f vs.toArray w λe h=>∃y ν',e=.returned y/\RG av E.own0 E.w0.heap.size ν' rs' h/\Mv rs ν w pk rs' ν' h/\Den ν' h (OO av rs' ν') s y
def j5(E:Ctx)(rs:List Res)(f:Nat)(args:List C)(K:C->List Res->List Nat->Prop):Prop:=∃s rs' pk,K s rs' pk/\l5 E rs f args s rs' pk
def a4R(rs:List Res)(sz:Nat)(c:C)(k:Option Nat)(K:List (List C)->Prop):Prop:=
 match c with
 | .rv l=>some l≠k/\match rs[l]? with
  | some (.row _ z es)=>z=sz/\K es
  | _=>False
 | .sl z es=>z=sz/\K es
 | .nl=>K []
 | .v (.slice none 0 0)=>K []
 | _=>False
def K8(es:List (List C)):List (Nat×C)->List (List C)
 | []=>es
 | (j,c)::r=>K8 (es.set j (cellsS c)) r
def K9(ov:Operand->C):List (Nat×Operand)->List (Nat×C)
 | []=>[]
 | (j,x)::r=>(j,strip (ov x))::K9 ov r
def a7g(n sz:Nat):List (Nat×C)->Prop
 | []=>True
 | (j,c)::r=>a2S c=true/\C.clL (cellsS c)=true/\C.ones (cellsS c)=true/\(cellsS c).length=sz/\j<n/\a7g n sz r
def a5W(n sz:Nat):List (Nat×C)->Prop
 | []=>True
 | (j,c)::r=>a2S c=true/\C.ones (cellsS c)=true/\(cellsS c).length=sz/\j<n/\a5W n sz r
theorem a5L{n sz:Nat}:∀{ps:List (Nat×C)},a7g n sz ps->a5W n sz ps
 | [],_=>trivial
 | (_,_)::_,h=>⟨h.1,h.2.2.1,h.2.2.2.1,h.2.2.2.2.1,a5L h.2.2.2.2.2⟩
def a8F(p:Bool)(ov:Operand->C):List (Nat×Operand)->Prop
 | []=>True
 | (_,x)::r=>req p (ov x)/\a8F p ov r
def a0g:List Value->Bool
 | []=>true
 | x::r=>x.oneCell'&&a0g r
theorem a0P:∀{l:List Value},a0g l=true->∀u∈l,u.oneCell'=true
 | [],_,u,hu=>by cases hu
 | x::l,h,u,hu=>by
  simp only[a0g,d0s]at h;cases List.mem_cons.1 hu with
  | inl e=>subst e;exact h.1
  | inr e=>exact a0P h.2 u e
def evE(E:Ctx)(ov:Operand->C)(rs:List Res)(o:IOp)(K:C->List Res->List Nat->Prop):Prop:=
 match o with
 | .alloc t zero=>a0g zero=true/\K (.bp rs.length 0) (rs++[.box t (zero.map .v)]) []
 | .box t x=>req true (ov x)/\a2S (strip (ov x))=true/\C.ones (cellsS (strip (ov x)))=true/\K (.bp rs.length 0) (rs++[.box t (cellsS (strip (ov x)))]) []
 | .bsl e sz n zero parts=>match zero,parts with
  | [.pointer none],parts=>sz=1/\a8F true ov parts/\a5W n 1 (K9 ov parts)/\n<=16777216/\K (.wv rs.length 1 0 n) (rs++[.box e (K8 (List.replicate n [C.v (.pointer none)]) (K9 ov parts)).flatten]) []
  | _,[(i,.const (.int .u8 a)),(j,.const (.int .u8 b))]=>(i=0/\j=1/\n=2/\sz=1/\((strip (ov (.const (.int .u8 a)))=.v (.int .u8 a)/\req true (ov (.const (.int .u8 a))))/\strip (ov (.const (.int .u8 b)))=.v (.int .u8 b)/\req true (ov (.const (.int .u8 b))))/\(0<=a/\a<=255)/\(0<=b/\b<=255))/\K (.rv rs.length) (rs++[.fb e [UInt8.ofNat a.toNat,UInt8.ofNat b.toNat]]) []
  | zero,parts=>a0g zero=true/\zero.length=sz/\0<sz/\a8F true ov parts/\a7g n sz (K9 ov parts)/\(n*sz<=16777216/\n<=16777216) /\
   K (.rv rs.length) (rs++[.row e sz (K8 (List.replicate n (zero.map .v)) (K9 ov parts))]) []
 | .a6F e bytes zero l c=>a0g zero=true/\0<zero.length/\req true (ov l)/\req true (ov c)/\match strip (ov l),strip (ov c) with
  | .v (.int .i64 l),.v (.int .i64 c)=>(0<=l/\l<=c/\c<=140737488355328/\c.toNat*bytes<=140737488355328)/\K (.rv rs.length) (rs++[.row e zero.length (List.replicate l.toNat (zero.map .v))]) []
  | _,_=>False
 | .store sz x y=>req true (ov x)/\req true (ov y)/\a2S (strip (ov y))=true/\C.ones (cellsS (strip (ov y)))=true/\(cellsS (strip (ov y))).length=sz/\match strip (ov x) with
  | .bp k off=>match rs[k]? with
   | some (.box t cs)=>off+sz<=cs.length/\K (.v undef) (rs.set k (.box t (cs.take off++cellsS (strip (ov y))++cs.drop (off+sz)))) []
   | _=>False
  | .rp k z i off=>match rs[k]? with
   | some (.row e z' es)=>z=z'/\C.clL (cellsS (strip (ov y)))=true/\match es[i]? with
    | some q=>off+sz<=q.length/\K (.v undef) (rs.set k (.row e z' (es.set i (q.take off++cellsS (strip (ov y))++q.drop (off+sz))))) []
    | none=>False
   | _=>False
  | _=>False
 | .call f args=>a4j true ov args/\j5 E rs f (a1U ov args) K
 | .Z4 x args=>req true (ov x)/\a4j true ov args/\match strip (ov x) with
  | .v (.func (.func f) ⟨[]⟩ ⟨caps⟩)=>callable E.P f=true/\j5 E rs f (a1U ov args++caps.map .v) K
  | .clo f caps=>callable E.P f=true/\j5 E rs f (a1U ov args++caps) K
  | .bnd f c=>callable E.P f=true/\j5 E rs f (c::a1U ov args) K
  | _=>False
 | .app e sz bytes s x=>req true (ov s)/\req true (ov x)/\0<sz/\match strip (ov s) with
  | .rv k=>match rs[k]? with
   | some (.row e' z es)=>e'=e/\z=sz/\a4R rs sz (strip (ov x)) (some k) λh=>
    (es.length+h.length<=140737488355328/\(es.length+h.length)*bytes<=140737488355328)/\K (.rv k) (a1h [k] (rs.set k (.row e sz (es++h)))) [k]
   | some (.fb e' bs)=>e'=e/\sz=1/\a4R rs sz (strip (ov x)) (some k) λh=>
    (0<h.length/\bs.length+h.length<=16777216/\bytes<=1)/\K (.rv k) (a1h [k] (rs.set k (.row e 1 (bs.map u7++h)))) [k]
   | _=>False
  | .nl=>a4R rs sz (strip (ov x)) none λh=>(h.length<=140737488355328/\h.length*bytes<=140737488355328)/\K (.rv rs.length) (rs++[.row e sz h]) []
  | .v (.slice none 0 0)=>a4R rs sz (strip (ov x)) none λh=>(h.length<=140737488355328/\h.length*bytes<=140737488355328)/\K (.rv rs.length) (rs++[.row e sz h]) []
  | _=>False
 | .apps e s x=>req true (ov s)/\req true (ov x)/\match strip (ov x) with
  | .v (.string b)=>match strip (ov s) with
   | .rv k=>match rs[k]? with
    | some (.row e' z es)=>e'=e/\z=1/\es.length+b.size<=140737488355328/\K (.rv k) (a1h [k] (rs.set k (.row e 1 (es++b.data.toList.map u7)))) [k]
    | _=>False
   | .v (.slice none 0 0)=>b.size<=140737488355328/\K (.rv rs.length) (rs++[.row e 1 (b.data.toList.map u7)]) []
   | _=>False
  | _=>False
 | .appz e bytes zero s x=>a0g zero=true/\0<zero.length/\req true (ov s)/\req true (ov x)/\match strip (ov s),strip (ov x) with
  | .v (.slice none 0 0),.v (.int .i64 n)=>(0<n/\n<=140737488355328/\n.toNat*bytes<=140737488355328)/\K (.rv rs.length) (rs++[.row e zero.length (List.replicate n.toNat (zero.map .v))]) []
  | _,_=>False
 | .clr zero x=>a0g zero=true/\req true (ov x)/\match strip (ov x) with
  | .wv k sz lo n=>match rs[k]? with
   | some (.row e z es)=>(z=sz/\zero.length=sz)/\lo+n=es.length/\K (.v (.tuple #[])) (rs.set k (.row e z (es.take lo++List.replicate n (zero.map .v)))) []
   | _=>False
  | _=>False
 | .bytes _ x=>req true (ov x)/\match strip (ov x) with
  | .v (.string b)=>b.size<=140737488355328/\K (.sl 1 (b.data.toList.map u7)) rs []
  | _=>False
 | .a5t _=>K .nl rs []
 | .mark x=>req true (ov x)/\match strip (ov x) with
  | .rv k=>match rs[k]? with
   | some (.fb _ _)=>K (.rv k) rs []
   | _=>False
  | _=>False
 | .mkmap str=>K (.mp rs.length) (rs++[.map str []]) []
 | .mupd str m k v=>req true (ov m)/\req true (ov k)/\req true (ov v)/\match strip (ov m),strip (ov k),strip (ov v) with
  | .mp j,.v key,.v u=>match rs[j]? with
   | some (.map s es)=>s=str/\Y3 str key=true/\K (.v undef) (rs.set j (.map str (a0u key u es))) []
   | _=>False
  | _,_,_=>False
 | _=>False
section
variable {E:Ctx} {P:Program} {ν:List Value} {rs:List Res} {a:Act} {w:World} {av own0:Nat->Prop} {n0:Nat} {ov:Operand->C}
def Holds(w:World)(y:Value)(m sz:Nat)(news:List Value):Prop:=
 ∃A c,y=.slice A m c/\news.length=m*sz/\(0<m->∃ad,A=some ad/\∀j u,news[j]?=some u->w.cell? (ad.add j)=some u)
def b1m{P:Program}(w:World)(t u e:TypeId)(i:TypeInfo)(E:P.underlying t=some (.slice e))(h:P.info? e=some i)(B:Option Addr)(n cap:Nat)(D:n<=cap)(A:Option Addr)(c:Nat) :
  (Builtin.append_ #[t,t] u #[.slice B n cap,.slice A 0 c]).run P w=.ok (.slice B n cap) w:=by
 cases B<;>cases A<;>simp[Builtin.append_,run_underlying E,sizeOf,typeInfo,h,Builtin.lenOf,Builtin.firstCells,D,storeCells,loadCells,loadCellsFrom]
def a1p{w w':World}{x:Value}{F:Nat->Prop}(hg:w.grownBy w' x.ownBlock)(hF:∀b,x.ownBlock=some b->F b):Turned w w' F:=
 ⟨hg.os,hg.tape,hg.output,hg.size,λb h u=>hg.block b h λe=>u (hF b e.symm)⟩
def b0h{A:Option Addr}{n c b:Nat}(h:E8 (.slice A n c)=some b):(Value.slice A n c).ownBlock=some b:=by
 cases A with
 | none=>cases h
 | some ad=>simp only[E8]at h;split at h;cases h;exact h
def a7E{P:Program}(w:World)(t N e:TypeId)(i:TypeInfo)(z:Value)(Z:P.underlying t=some (.slice e))(hi:P.info? e=some i)(hz:i.zero=some z)
  (Y:z.cells.size=i.size) (aa:0<i.size)
  (x:Value) (n:Nat) (U:List Value) (W:rowAt w e i.size x n U)
  (y:Value) (m:Nat) (h:List Value) (hr:Holds w y m i.size h) (h1:∀u∈h,u.oneCell'=true)
  (ag:n+m<=140737488355328) (E:(n+m)*i.bytes<=140737488355328) :
  ∃x' w',(Builtin.append_ #[t,t] N #[x,y]).run P w=.ok x' w'/\rowAt w' e i.size x' (n+m) (U++h)/\Turned w w' (λb=>E8 x=some b) /\
   ∀b,E8 x'=some b->E8 x=some b\/(w.heap.size<=b/\b<w'.heap.size):=by
 obtain⟨A,c,rfl,M,hr⟩:=hr;rcases d0K m with V|V
 ·subst V;have ab:h=[]:=d0I (by simpa using M);subst ab;have R:∃B cap,x=.slice B n cap/\n<=cap:=by
   rcases W.2 with⟨rfl,B,rfl⟩|⟨g,cap,T,rfl,_,_,G,_⟩
   ·exact⟨B,0,rfl,d0m _⟩
   ·exact⟨_,cap,rfl,G⟩
  obtain⟨B,cap,rfl,G⟩:=R;exact⟨_,w,b1m w t N e i Z hi B n cap G A c,by simpa using W,⟨rfl,rfl,rfl,d0m _,λ_ _ _=>rfl⟩,λb F=>.inl F⟩
 ·obtain⟨ad,rfl,D⟩:=hr V;rcases W.2 with⟨rfl,B,rfl⟩|⟨g,cap,T,rfl,ak,hg,G,J,af,K⟩
  ·have ae:U=[]:=d0I (by simpa using W.1);subst ae;simp only[d0A,List.nil_append]at ag E ⊢;have fin:(Builtin.append_ #[t,t] N #[.slice B 0 0,.slice (some ad) m c]).run P w=.ok (.slice (some ⟨w.heap.size,0,none⟩) m (grownCap w m 0 e)) (w.drew.alloc (.cells (h.toArray++Builtin.zeroCells z.cells (grownCap w m 0 e-m)) e)):=by
    cases B with
    | none=>exact run_append_nil (P:=P) w t N e i z Z hi hz ad m c h M D V (by omega) (by omega)
    | some b=>
     have:=run_append_grow (P:=P) w t N e i z Z hi hz b 0 0 [] (by simp) (by simp) ad m c h M D (by omega) (by omega) (by rw[d0A,nextslicecap_zero V];omega);simpa using this
   have ac:=grownCap_ge w m 0 e;have J:grownCap w m 0 e<=maxLen:=grownCap_le_maxLen w m 0 e (by simp only[maxLen];omega);refine⟨_,_,fin,⟨M,.inr ⟨w.heap.size,_,_,rfl,by omega,heap_alloc_new w.drew _,ac,J,?_,?_⟩⟩,⟨rfl,rfl,rfl,by simp,λb F _=>heap_alloc_old w.drew _ F⟩,λb F=>?_⟩
   ·simp only[Array.size_append,List.size_toArray,size_zeroCells,Y,M,<- Nat.add_mul];congr 1;omega
   ·simp only[Array.toList_append];rw[<- M];exact List.take_left
   ·simp only[E8]at F;split at F
    ·cases F
    ·injection F with F;subst F;exact .inr ⟨d0m _,by simp⟩
  ·have X:w.ownsRow 0 e i.size (.slice (some ⟨g,0,none⟩) n cap) n U:=⟨W.1,.inr ⟨g,cap,T,rfl,d0k _,hg,G,J,af,K⟩⟩
   obtain⟨v',w',O,h2,h3,_,I⟩:=run_append_own_at (P:=P) w 0 t N e i z i.size i.bytes Z hi hz rfl rfl Y aa _ n U X ad m c h M D h1 (by simp only[maxLen];omega) E (d0k _);have F:E8 (.slice (some ⟨g,0,none⟩) n cap)=some g:=by simp only[E8];rw[if_neg (by omega)]
   refine⟨v',w',O,.of h2,a1p h3 (λb H=>by simp only[Value.ownBlock]at H;rw[F];exact H),λb H=>?_⟩;obtain⟨A',c',rfl⟩:=(rowAt.of h2).slice;have:=b0h H;rcases I with I|I
   ·rw[this]at I;left;rw[F];exact I.symm
   ·rw[this]at I;injection I with I;subst I;refine .inr ⟨d0m _,?_⟩;rcases h2.2 with⟨aj,_⟩|⟨g',ah,ai,he,_,hh,_⟩
    ·omega
    ·injection he with he;subst he;simp only[Value.ownBlock]at this;injection this with this;subst this;exact(Array.getElem?_eq_some_iff.1 hh).1
def b2C{P:Program}(w:World)(base:Nat)(t u G e:TypeId)(i:TypeInfo)(K:P.underlying t=some (.slice e))(O:P.underlying u=some .string)(R:P.info? e=some i)(T:i.zero=some (.int .u8 0))
  (A:i.size=1) (F:i.bytes=1) (v:Value) (n:Nat) (N:List Value) (D:w.ownsRow base e 1 v n N) (s:ByteArray) (hb:n+s.size<=140737488355328) (H:base<=w.heap.size) :
  ∃v' w',(Builtin.append_ #[t,u] G #[v,.string s]).run P w=.ok v' w'/\w'.ownsRow base e 1 v' (n+s.size) (N++Lib.strCells s)/\w.grownBy w' (Value.ownBlock v)/\(Value.ownBlock v'=Value.ownBlock v\/Value.ownBlock v'=some w.heap.size):=by
 obtain⟨v',w',E,W,h2,_⟩:=Lib.run_append_own_string w base t u G e i K O R T A F v n N D s (by simp only[maxLen];omega) hb H;refine⟨v',w',E,W,h2,?_⟩;have B:∀{v'':Value} {w'':World},(Builtin.append_ #[t,u] G #[v,.string s]).run P w=.ok v'' w''->v'=v'':=λh=>by
  rw[E]at h;injection h
 rcases D.2 with⟨rfl,rfl⟩|⟨g,cap,M,rfl,aa,hg,ab,ac,U,V⟩
 ·by_cases hm:s.size=0
  ·refine .inl ?_;rcases W.2 with⟨rfl,_⟩|⟨g',X,Y,rfl,_⟩
   ·rfl
   ·have hf:=Lib.run_firstCells_string (P:=P) w 1 s;rw[hm]at hf;have:(Builtin.append_ #[t,u] G #[.slice none 0 0,.string s]).run P w=.ok (.slice none 0 0) w:=by
     simp[Builtin.append_,run_underlying K,run_underlying O,sizeOf,typeInfo,R,A,Builtin.lenOf,hm,hf]
    have:=B this;cases this
  ·have:=B (run_append_nil_string (P:=P) w t u G e i (.int .u8 0) K O R T s (by omega) (by omega) (by rw[F];omega));subst this;exact .inr rfl
 ·by_cases J:n+s.size<=cap
  ·have Z:M.size=cap:=by simpa using U
   have:=B (Lib.run_append_room_string (P:=P) w t u G e i K O R A g n cap M hg s J (by omega));subst this;exact .inl rfl
  ·have I:∀j u,N[j]?=some u->w.cell? ((⟨g,0,none⟩:Addr).add j)=some u:=D.cells (g:=g) rfl;have:=B (Lib.run_append_grow_string (P:=P) w t u G e i (.int .u8 0) K O R T ⟨g,0,none⟩ n cap N (by rw[A];simpa using D.1) I s (by omega) (by omega) (by rw[F];exact growslice_fits (by omega) (by omega)));subst this;exact .inr rfl
def c0O{e sz m:Nat}{y:Value}{vs:List Value}(h:rowAt w e sz y m vs):Holds w y m sz vs:=by
 obtain⟨A,c,rfl⟩:=h.slice;refine⟨A,c,rfl,h.1,λH=>?_⟩;rcases h.2 with⟨G,_⟩|⟨g,cap,D,u,_⟩
 ·omega
 ·injection u with B F E;subst B;exact⟨_,rfl,h.cells⟩
def a7k{sz:Nat}{c:C}{k:Option Nat}{K:List (List C)->Prop}(h:a4R rs sz c k K):∃ys,K ys/\∀av own0 n0 ν w,RG av own0 n0 ν rs w->∀y,Den ν w (OO av rs ν) c y ->
  (∀q∈ys,q.length=sz)/\∃vs,FzL w (OO av rs ν) ys.flatten vs/\(∀u∈vs,u.oneCell'=true)/\Holds w y ys.length sz vs:=by
 have B:∀(A:Option Addr) (F:Nat) (w:World) (O:Nat->Prop),(∀q∈([]:List (List C)),q.length=sz)/\∃vs,FzL w O ([]:List (List C)).flatten vs/\(∀u∈vs,u.oneCell'=true)/\Holds w (.slice A 0 F) ([]:List (List C)).length sz vs:=
  λA F w O=>⟨by simp,[],by simp[FzL],by simp,A,F,rfl,by simp,λE=>absurd E (by simp)⟩
 unfold a4R at h;split at h
 ·rename_i l;obtain⟨_,h⟩:=h;split at h
  ·rename_i Y z I W;obtain⟨rfl,h⟩:=h;refine⟨_,h,λav own0 n0 ν w H y D=>?_⟩;simp only[Den]at D;obtain⟨E,vs,T,N,G⟩:=H.get W D.1;exact⟨E,vs,T,N,c0O G⟩
  ·exact h.elim
 ·rename_i z I;obtain⟨rfl,h⟩:=h;refine⟨_,h,λav own0 n0 ν w H y D=>?_⟩;simp only[Den,Fz]at D;obtain⟨A,F,rfl,N,Z,R⟩:=D;rcases d0K I.length with E|E
  ·have P:I=[]:=d0I E;subst P;exact B A F w _
  ·obtain⟨ad,rfl,_,_,V⟩:=R E;obtain⟨J,vs,M,U,X⟩:=FzE.cells V;exact⟨J,vs,M,U,some ad,F,rfl,by rw[M.length,Q9 J],λ_=>⟨ad,rfl,X⟩⟩
 ·refine⟨_,h,λav own0 n0 ν w H y D=>?_⟩;simp only[Den]at D;obtain⟨A,rfl⟩:=D;exact B A 0 w _
 ·refine⟨_,h,λav own0 n0 ν w H y D=>?_⟩;simp only[Den]at D;subst D;exact B none 0 w _
 ·exact h.elim
theorem FzL.append{O:Nat->Prop}:∀{cs u:List C} {vs us:List Value},FzL w O cs vs->FzL w O u us->FzL w O (cs++u) (vs++us)
 | [],u,vs,us,h,k=>by simp only[FzL]at h;subst h;simpa using k
 | c::cs,u,vs,us,h,k=>by
  simp only[FzL]at h;obtain⟨y,ys,rfl,h1,h2⟩:=h;exact⟨y,ys++us,rfl,h1,FzL.append h2 k⟩
theorem FzL.take{O:Nat->Prop}:∀{cs:List C} {vs:List Value} (n:Nat),FzL w O cs vs->FzL w O (cs.take n) (vs.take n)
 | [],vs,n,h=>by simp only[FzL]at h;subst h;simp[FzL]
 | c::cs,vs,0,h=>by simp[FzL]
 | c::cs,vs,n+1,h=>by
  simp only[FzL]at h;obtain⟨y,ys,rfl,h1,h2⟩:=h;exact⟨y,ys.take n,rfl,h1,FzL.take n h2⟩
theorem FzL.drop{O:Nat->Prop}:∀{cs:List C} {vs:List Value} (n:Nat),FzL w O cs vs->FzL w O (cs.drop n) (vs.drop n)
 | [],vs,n,h=>by simp only[FzL]at h;subst h;simp[FzL]
 | c::cs,vs,0,h=>by simpa using h
 | c::cs,vs,n+1,h=>by
  simp only[FzL]at h;obtain⟨y,ys,rfl,h1,h2⟩:=h;simpa using FzL.drop n h2
theorem FzL.vs{O:Nat->Prop}:∀(xs:List Value),FzL w O (xs.map .v) xs
 | []=>by simp[FzL]
 | x::xs=>⟨x,xs,rfl,by simp[Fz],FzL.vs xs⟩
theorem a5h{α:Type}(l:List α):∀(n j:Nat),j<n*l.length->(List.replicate n l).flatten[j]?=l[j%l.length]?
 | 0,j,h=>by omega
 | n+1,j,h=>by
  rw[List.replicate_succ,List.flatten_cons,List.getElem?_append];split
  ·rename_i hlt;rw[Nat.mod_eq_of_lt hlt]
  ·rename_i hge;have hpos:0<l.length:=by
    rcases d0K l.length with u|u
    ·rw[u]at h;omega
    ·exact u
   have A:(n+1)*l.length=n*l.length+l.length:=by rw[Nat.add_mul];omega
   rw[a5h l n (j-l.length) (by omega)];rw[show j%l.length=(j-l.length)%l.length by rw[Nat.mod_eq_sub_mod (by omega)]]
def a2T(z:Array Value)(n:Nat)(u:0<z.size):((Array.range (n*z.size)).map λj=>z[j%z.size]!).toList=(List.replicate n z.toList).flatten:=by
 apply List.ext_getElem?;intro j;rcases d0B j (n*z.size) with h|h
 ·rw[a5h z.toList n j (by simpa using h)];have A:=Nat.mod_lt j u;simp[h,A]
 ·rw[d0J (by simpa using h),d0J];rw[Q9 (sz:=z.size) (λe B=>by rw[d0H B];simp)];simpa using h
theorem a8m{sz:Nat}:∀(u:List (Nat×C)) (es:List (List C)) (n:Nat),es.length=n->(∀e∈es,e.length=sz)->a5W n sz u ->
  splice es.flatten (u.map λ(j,c)=>(j*sz,sz,c))=(K8 es u).flatten/\a1V es.flatten (u.map λ(j,c)=>(j*sz,sz,c))/\(K8 es u).length=n/\(∀e∈K8 es u,e.length=sz)
 | [],es,n,hn,hl,_=>⟨rfl,trivial,hn,hl⟩
 | (j,c)::u,es,n,hn,hl,h=>by
  simp only[a5W]at h;obtain⟨h1,_,h2,h3,h4⟩:=h;have D:=b0Y (c:=cellsS c) hl (show j<es.length by omega);obtain⟨G,F,H,E⟩:=a8m (sz:=sz) u (es.set j (cellsS c)) n (by simpa using hn) (λe I=>by
   rcases List.mem_or_eq_of_mem_set I with B|B
   ·exact hl e B
   ·rw[B];exact h2) h4
  have A:=Q9 hl;refine⟨?_,⟨h1,h2,?_,?_⟩,H,E⟩
  ·simp only[d0l,splice,K8];rw[<- D];exact G
  ·rw[A,hn];have:(j+1)*sz<=n*sz:=d0M _ h3;rw[Nat.add_mul]at this;omega
  ·rw[<- D];exact F
theorem a8d{p:Bool}:∀{r:List (Nat×Operand)},a8F p ov r->(K9 ov r).length=r.length /\
  ∀(j i:Nat) (x:Operand),r[j]?=some (i,x)->req p (ov x)/\(K9 ov r)[j]?=some (i,strip (ov x))
 | [],_=>by simp[K9]
 | (o,x)::r,h=>by
  simp only[a8F]at h;obtain⟨h1,h2⟩:=a8d (p:=p) h.2;refine⟨by simp[K9,h1],λj i B u=>?_⟩;cases j with
  | zero=>simp at u;obtain⟨rfl,rfl⟩:=u;exact⟨h.1,rfl⟩
  | succ j=>simp at u;obtain⟨A,D⟩:=h2 j i B u;exact⟨A,by simpa[K9] using D⟩
theorem a9m{n sz:Nat}:∀{u:List (Nat×C)},a5W n sz u->∀(j i:Nat) (c:C),u[j]?=some (i,c)->a2S c=true
 | [],_,j,i,c,h=>by simp at h
 | (i0,c0)::u,h,0,i,c,hj=>by simp at hj;obtain⟨rfl,rfl⟩:=hj;exact h.1
 | (i0,c0)::u,h,j+1,i,c,hj=>by simp only[a5W]at h;exact a9m h.2.2.2.2 j i c (by simpa using hj)
theorem b7E:∀{cs:List C},C.clL cs=true->∀c∈cs,c.cl=true
 | [],_,c,hc=>by cases hc
 | c0::cs,h,c,hc=>by
  simp only[C.clL,d0s]at h;cases List.mem_cons.1 hc with
  | inl e=>subst e;exact h.1
  | inr e=>exact b7E h.2 c e
theorem b5D:∀{cs:List C},(∀c∈cs,c.cl=true)->C.clL cs=true
 | [],_=>rfl
 | c0::cs,h=>by simp only[C.clL,d0s];exact⟨h c0 (by simp),b5D λc hc=>h c (by simp[hc])⟩
theorem a7x{n sz:Nat}:∀{ps:List (Nat×C)} {es:List (List C)},a7g n sz ps->(∀e∈es,C.clL e=true)->∀e∈K8 es ps,C.clL e=true
 | [],es,_,h,e,he=>h e he
 | (i0,c0)::ps,es,hb,h,e,he=>by
  simp only[a7g]at hb;refine a7x (es:=es.set i0 (cellsS c0)) hb.2.2.2.2.2 (λe' he'=>?_) e he;rcases List.mem_or_eq_of_mem_set he' with h'|h'
  ·exact h e' h'
  ·rw[h'];exact hb.2.1
theorem a3n{n sz:Nat}:∀{ps:List (Nat×C)} {es:List (List C)},a5W n sz ps->(∀e∈es,C.ones e=true)->∀e∈K8 es ps,C.ones e=true
 | [],es,_,h,e,he=>h e he
 | (i0,c0)::ps,es,hb,h,e,he=>by
  simp only[a5W]at hb;refine a3n (es:=es.set i0 (cellsS c0)) hb.2.2.2.2 (λe' he'=>?_) e he;rcases List.mem_or_eq_of_mem_set he' with h'|h'
  ·exact h e' h'
  ·rw[h'];exact hb.2.1
theorem b4S:∀{cs:List C},C.ones cs=true->∀c∈cs,c.one=true
 | [],_,c,hc=>by cases hc
 | c0::cs,h,c,hc=>by
  simp only[C.ones,d0s]at h;cases List.mem_cons.1 hc with
  | inl e=>subst e;exact h.1
  | inr e=>exact b4S h.2 c e
theorem b2w:∀{cs:List C},(∀c∈cs,c.one=true)->C.ones cs=true
 | [],_=>rfl
 | c0::cs,h=>by simp only[C.ones,d0s];exact⟨h c0 (by simp),b2w λc hc=>h c (by simp[hc])⟩
def b8g{es:List (List C)}(h:∀e∈es,C.clL e=true):C.clL es.flatten=true:=b5D λc A=>by
 obtain⟨e,B,u⟩:=List.mem_flatten.1 A;exact b7E (h e B) c u
def a9n{es:List (List C)}(h:∀e∈es,C.ones e=true):C.ones es.flatten=true:=b2w λc A=>by
 obtain⟨e,B,u⟩:=List.mem_flatten.1 A;exact b4S (h e B) c u
def c4I(l:List Value):C.clL (l.map .v)=true:=b5D λc h=>by obtain⟨x,_,rfl⟩:=List.mem_map.1 h;rfl
def b7L{l:List Value}(h:a0g l=true):C.ones (l.map .v)=true:=b2w λc A=>by obtain⟨x,u,rfl⟩:=List.mem_map.1 A;exact a0P h x u
end
end Go.Proofs.YtfkipfnkpeobjaaGreatDoor.Eng
