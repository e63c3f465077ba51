/- A part of the proof: lemmas only, with the conditions that each names. -/
import Derived.Lib.AppendZeros
import Derived.IntWalk
import Derived.Lib.ConvBytes
import Derived.Test.YtfkipfnkpeobjaaGreatDoorRk1
set_option linter.all false
namespace Go.Proofs.YtfkipfnkpeobjaaGreatDoor.Eng
open Go Go.RowKit
section
variable {E:Ctx} {P:Program} {ν:List Value} {rs:List Res} {a:Act} {w:World} {av own0:Nat->Prop} {n0:Nat} {ov:Operand->C}
def a5j{P:Program}(w:World)(t u M e:TypeId)(i:TypeInfo)(T:P.underlying t=some (.slice e))(U:P.underlying u=some .string)(V:P.info? e=some i)(Z:i.zero=some (.int .u8 0))
 (D:i.size=1) (F:i.bytes=1) (x:Value) (n:Nat) (N:List Value) (hx:rowAt w e 1 x n N) (s:ByteArray) (h:n+s.size<=140737488355328) :
 ∃x' w',(Builtin.append_ #[t,u] M #[x,.string s]).run P w=.ok x' w'/\rowAt w' e 1 x' (n+s.size) (N++Lib.strCells s)/\Turned w w' (λb=>E8 x=some b) /\
  ∀b,E8 x'=some b->E8 x=some b\/(w.heap.size<=b/\b<w'.heap.size):=by
 rcases hx.2 with⟨rfl,B,rfl⟩|⟨g,cap,X,rfl,af,hg,W,H,I,J⟩
 ·have ab:N=[]:=d0I (by simpa using hx.1);subst ab;simp only[d0A,List.nil_append]at h ⊢;rcases d0K s.size with G|G
  ·refine⟨.slice B 0 0,w,?_,⟨by rw[Lib.strCells_length];omega,.inl ⟨G,B,rfl⟩⟩,⟨rfl,rfl,rfl,d0m _,λ_ _ _=>rfl⟩,λb h=>.inl h⟩;have hf:=Lib.run_firstCells_string (P:=P) w 1 s;rw[G]at hf;have I:Lib.strCells s=[]:=d0I (by rw[Lib.strCells_length,G]);cases B<;>simp[Builtin.append_,run_underlying T,run_underlying U,sizeOf,typeInfo,V,D,Builtin.lenOf,G,hf,I,storeCells]
  ·have fin:(Builtin.append_ #[t,u] M #[.slice B 0 0,.string s]).run P w=.ok (.slice (some ⟨w.heap.size,0,none⟩) s.size (grownCap w s.size 0 e)) (w.drew.alloc (.cells ((Lib.strCells s).toArray++Builtin.zeroCells #[.int .u8 0] (grownCap w s.size 0 e-s.size)) e)):=by
    cases B with
    | none=>
     have:=run_append_nil_string (P:=P) w t u M e i (.int .u8 0) T U V Z s G (by omega) (by rw[F];omega);have e1:s.data.map (λb=>Value.int .u8 b.toNat)=(Lib.strCells s).toArray:=by apply Array.ext';simp[Lib.strCells]
     rw[e1]at this;exact this
    | some b=>
     have:=Lib.run_append_grow_string (P:=P) w t u M e i (.int .u8 0) T U V Z b 0 0 [] (by simp) (by simp) s (by omega) (by omega) (by rw[d0A,nextslicecap_zero G,F];omega);have e2:(Value.int .u8 0).cells=#[.int .u8 0]:=rfl;rw[e2]at this;simpa using this
   have aa:=grownCap_ge w s.size 0 e;have H:grownCap w s.size 0 e<=maxLen:=grownCap_le_maxLen w s.size 0 e (by simp only[maxLen];omega);refine⟨_,_,fin,⟨by rw[Lib.strCells_length];omega,.inr ⟨w.heap.size,_,_,rfl,by omega,heap_alloc_new w.drew _,aa,H,?_,?_⟩⟩,⟨rfl,rfl,rfl,by simp,λb h _=>heap_alloc_old w.drew _ h⟩,λb h=>?_⟩
   ·simp only[Array.size_append,List.size_toArray,size_zeroCells,Lib.strCells_length];simp;omega
   ·simp only[Array.toList_append,Nat.mul_one];rw[<- Lib.strCells_length];exact List.take_left
   ·simp only[E8]at h;split at h
    ·cases h
    ·injection h with h;subst h;exact .inr ⟨d0m _,by simp⟩
 ·have O:w.ownsRow 0 e 1 (.slice (some ⟨g,0,none⟩) n cap) n N:=⟨hx.1,.inr ⟨g,cap,X,rfl,d0k _,hg,W,H,I,J⟩⟩
  obtain⟨v',w',K,h2,h3,E⟩:=b2C (P:=P) w 0 t u M e i T U V Z D F _ n N O s h (d0k _);have h:E8 (.slice (some ⟨g,0,none⟩) n cap)=some g:=by simp only[E8];rw[if_neg (by omega)]
  refine⟨v',w',K,.of h2,a1p h3 (λb A=>by simp only[Value.ownBlock]at A;rw[h];exact A),λb A=>?_⟩;obtain⟨A',c',rfl⟩:=(rowAt.of h2).slice;have:=b0h A;rcases E with E|E
  ·rw[this]at E;left;rw[h];exact E.symm
  ·rw[this]at E;injection E with E;subst E;refine .inr ⟨d0m _,?_⟩;rcases h2.2 with⟨R,_⟩|⟨g',ac,ae,Y,_,hh,_⟩
   ·injection R with q1 _ q3;subst q1;cases A
   ·injection Y with Y;subst Y;simp only[Value.ownBlock]at this;injection this with this;subst this;exact(Array.getElem?_eq_some_iff.1 hh).1
def b0m{O:Nat->Prop}(s:ByteArray):FzL w O (s.data.toList.map u7).flatten (Lib.strCells s):=by
 unfold Lib.strCells
 induction s.data.toList with
 | nil=>simp[FzL]
 | cons b l ih=>exact⟨_,_,rfl,rfl,ih⟩
def V8(w:World)(o:Obj):Below w.heap.size w (w.alloc o):=(Below.refl _ _).alloc (d0m _) _
def a2s{w w':World}{F:Nat->Prop}(h:Turned w w' F)(hF:∀b,b<w.heap.size->¬F b):Below w.heap.size w w':=⟨h.os,h.tape,h.output,h.size,λb u=>h.block b u (hF b u)⟩
def run_mark{P:Program}(w:World)(t e:TypeId){u:TypeId}(g n c:Nat){cs:Array Value}{mk:Nat×Nat}(D:P.underlying t=some (.slice e))(B:P.underlying e=some (.int .u8))(A:w.heap[g]?=some (.cells cs u mk)) :
  (convert t t (.slice (some ⟨g,0,none⟩) n c)).run P w=.ok (.slice (some ⟨g,0,none⟩) n c) (w.freeze ⟨g,cs.size,none⟩ 1):=by
 have h:w.shape? g=some (u,cs.size):=by simp[World.shape?,A]
 simp[convert,run_underlying D,run_underlying B,markStringish,h]
def b6O{w:World}{g h:Nat}{cs:Array Value}{mk:Nat×Nat}(u:w.heap[g]?=some (.cells cs h mk))(k:Nat) :
  ((w.freeze ⟨g,k,none⟩ 1).os=w.os/\(w.freeze ⟨g,k,none⟩ 1).tape=w.tape/\(w.freeze ⟨g,k,none⟩ 1).output=w.output) /\
   ((w.freeze ⟨g,k,none⟩ 1).heap.size=w.heap.size/\∀b,b≠g->(w.freeze ⟨g,k,none⟩ 1).heap[b]?=w.heap[b]?)/\∃mk',(w.freeze ⟨g,k,none⟩ 1).heap[g]?=some (.cells cs h mk'):=by
 unfold World.freeze;rw[if_neg (by decide)];refine⟨⟨rfl,rfl,rfl⟩,⟨by simp,λb A=>by simp[Array.getElem?_modify,Ne.symm A]⟩,?_⟩;obtain⟨B,D⟩:=mk;simp[Array.getElem?_modify,u]
theorem b5n{w:World}{O:Nat->Prop}:∀bs:List UInt8,FzL w O (bs.map u7).flatten (bs.map λb=>Value.int .u8 b.toNat)
 | []=>by simp[FzL]
 | b::bs=>by
  rw[d0l,d0l,List.flatten_cons];exact⟨_,_,rfl,by simp only[Fz],b5n bs⟩
def b3W{P:Program}(w:World)(t R e:TypeId)(i:TypeInfo)(z:Value)(V:P.underlying t=some (.slice e))(hi:P.info? e=some i)(X:i.zero=some z)
  (N:z.cells.size=i.size) (D:i.size=1) (J:i.bytes<=1) (bs:List UInt8) (mk:Nat×Nat) {g:Nat} (Z:w.heap[g]?=some (.cells (bs.map λb=>Value.int .u8 b.toNat).toArray e mk))
  (y:Value) (m:Nat) (h:List Value) (hr:Holds w y m i.size h) (Y:0<m) (u:bs.length+m<=16777216) :
  ∃x' w',(Builtin.append_ #[t,t] R #[.slice (some ⟨g,0,none⟩) bs.length bs.length,y]).run P w=.ok x' w'/\rowAt w' e 1 x' (bs.length+m) (bs.map (λb=>Value.int .u8 b.toNat)++h)/\Turned w w' (λ_=>False) /\
   ∀b,E8 x'=some b->w.heap.size<=b/\b<w'.heap.size:=by
 obtain⟨A,c,rfl,U,hr⟩:=hr;obtain⟨ad,rfl,B⟩:=hr Y;have I:∀j v,(bs.map λb=>Value.int .u8 b.toNat)[j]?=some v->w.cell? ((⟨g,0,none⟩:Addr).add j)=some v:=λj v T=>by
  have O:=(d0i.1 T).1;rw[d0d]at O;have F:(⟨g,0,none⟩:Addr).add j=⟨g,j,none⟩:=by
   simp only[Addr.add,d0A];by_cases j0:j=0<;>simp[j0]
  have W:w.cell? ⟨g,j,none⟩=(bs.map λb=>Value.int .u8 b.toNat)[j]?:=by simp[World.cell?,Z]
  rw[F,W];exact T
 have H:Builtin.nextslicecap (bs.length+m) bs.length*i.bytes<=281474976710656:=growslice_fits (by omega) (by
  have:(bs.length+m)*i.bytes<=(bs.length+m)*1:=Nat.mul_le_mul_left _ J;omega)
 have G:=run_append_grow (P:=P) (w:=w) t R e i z V hi X ⟨g,0,none⟩ bs.length bs.length (bs.map λb=>Value.int .u8 b.toNat) (by rw[D];simp) I ad m c h U B (by omega) (by omega) H;have K:=grownCap_ge w (bs.length+m) bs.length e;have M:grownCap w (bs.length+m) bs.length e<=maxLen:=grownCap_le_maxLen w (bs.length+m) bs.length e (by simp only[maxLen];omega);have E:h.length=m:=by rw[U,D,Nat.mul_one]
 refine⟨_,_,G,⟨by simp[E],.inr ⟨w.heap.size,_,_,rfl,by omega,heap_alloc_new w.drew _,K,M,?_,?_⟩⟩,⟨rfl,rfl,rfl,by simp,λb u _=>heap_alloc_old w.drew _ u⟩,λb u=>?_⟩
 ·simp only[Array.size_append,List.size_toArray,d0d,size_zeroCells,N,D,E,Nat.mul_one];omega
 ·simp only[Array.toList_append,Nat.mul_one];rw[show bs.length+m=(List.map (λb=>Value.int IntKind.u8 ↑(UInt8.toNat b)) bs++h).length by simp[E]];exact List.take_left
 ·simp only[E8]at u;split at u
  ·cases u
  ·injection u with u;subst u;exact⟨d0m _,by simp⟩
def b6Y(w:World)(e:TypeId)(b:ByteArray):Below w.heap.size w (Lib.bytesWorld w e b):=
 a2s (F:=λ_=>False) ⟨rfl,rfl,rfl,by rw[Lib.bytesWorld_size];omega,λj h _=>Lib.bytesWorld_at_old w e b j h⟩ λ_ _=>id
def c3q{w:World}{O:Nat->Prop}(F:∀c,O c->c<w.heap.size)(e:TypeId)(b:ByteArray)(H:b.size<=140737488355328):Fz (Lib.bytesWorld w e b) O (.sl 1 (b.data.toList.map u7)) (.slice (some ⟨w.heap.size,0,none⟩) b.size (grownCap w b.size 0 e)):=by
 have B:(b.data.toList.map u7).length=b.size:=by simp
 simp only[Fz];refine⟨_,_,by rw[B],by rw[B];exact grownCap_ge w b.size 0 e,grownCap_le_maxLen w b.size 0 e (by simp only[maxLen];omega),λI=>⟨_,rfl,by show w.heap.size<_;rw[Lib.bytesWorld_size];omega,λh=>Nat.lt_irrefl _ (F _ h),FzE.of λk q u=>?_⟩⟩;have E:k<b.size:=by have:=(d0i.1 u).1;omega
 rw[d0q,Option.map_eq_some_iff]at u;obtain⟨c,G,rfl⟩:=u;refine⟨rfl,?_⟩;simp only[u7,FzA,and_true,Fz];refine⟨_,?_,rfl,rfl⟩;have D:=Lib.bytesWorld_cell w e b k E;rw[show b.data.toList.getD k 0=c by rw[d0C,G];rfl]at D;rw[<- D];simp only[Addr.add,Nat.mul_one,d0A,Nat.add_zero];by_cases A:k=0
 ·subst A;simp
 ·simp[A]
def O9{P:Program}{f:Nat}(h:callable P f=true)(u:Array Value)(w:World):(callFunc f u).run P w=.ok (.enter f u) w:=by
 unfold callable at h;split at h
 ·rename_i B A;simp only[d0s,Bool.not_eq_true']at h;simp only[callFunc,Sem.run_bind,run_program,Result.andThen_ok,A,h.1,h.2,d0P,if_false,Sem.run_pure]
 ·cases h
def a9p{a:Act}{c:Call}{f:Nat}{ty:TypeId}{dst:Option Tmp}{pos:String}{after:Array Edge}{guard:Option (Nat×Bool)}(h:c.callee=.value (.func f)) :
  execOp a.eval { dst,op:=.call c,type:=ty,pos,after,guard }=callFunc f (c.args.toList.map a.eval).toArray:=by
 obtain⟨u,args,ats⟩:=c;simp only at h;subst h;have:execOp a.eval { dst,op:=.call { callee:=.value (.func f),args,argTypes:=ats },type:=ty,pos,after,guard }=callFunc f (#[]++args.map a.eval++#[]):=rfl;rw[this];obtain⟨args⟩:=args;simp
def a6Y{P:Program}{t:TypeId}{i:TypeInfo}{b off:Nat}{E:TypeId}{h:Array Value}{y:Value}(I:P.info? t=some i)(F:w.heap[b]?=some (.cells h E (0,0)))
  (D:y.cells.toList.length=i.size) (A:off+i.size<=h.size) (H:∀u∈y.cells.toList,u.oneCell'=true) :
  (Instr.storeAt t (.pointer (some ⟨b,off,none⟩)) y).run P w=.ok () (w.setRow b (h.toList.take off++y.cells.toList++h.toList.drop (off+i.size)).toArray):=by
 have B:=run_storeCells_at P b off E y.cells.toList 0 h w F (by rw[D];simpa using A) H;simp only[Nat.add_zero,D]at B;have G:y.cells.size=i.size:=by simpa using D
 simp[Instr.storeAt,Instr.sureAddr,storeVar,sizeOf,typeInfo,I,G,B]
def a2X{a:Act}{c:Call}{x:Operand}{f:Nat}{h:List Value}{ty:TypeId}{dst:Option Tmp}{pos:String}{after:Array Edge}{guard:Option (Nat×Bool)}(u:c.callee=.value x)(A:a.eval x=.func (.func f) #[] h.toArray) :
  execOp a.eval { dst,op:=.call c,type:=ty,pos,after,guard }=callFunc f (c.args.toList.map a.eval++h).toArray:=by
 obtain⟨D,args,ats⟩:=c;simp only at u;subst u;have:execOp a.eval { dst,op:=.call { callee:=.value x,args,argTypes:=ats },type:=ty,pos,after,guard }=(Deferred.ofValue (a.eval x) (args.map a.eval) >>= λd=>invoke d.target d.args):=rfl;rw[this,A];obtain⟨args⟩:=args;have B:(Deferred.ofValue (.func (.func f) #[] h.toArray) ((⟨args⟩:Array Operand).map a.eval) >>= λd=>invoke d.target d.args)=callFunc f (#[]++(⟨args⟩:Array Operand).map a.eval++h.toArray):=rfl;rw[B];simp
def c2w{a:Act}{c:Call}{x:Operand}{f:Nat}{v:Value}{ty:TypeId}{dst:Option Tmp}{pos:String}{after:Array Edge}{guard:Option (Nat×Bool)}(h:c.callee=.value x)(u:a.eval x=.func (.func f) #[v] #[]) :
  execOp a.eval { dst,op:=.call c,type:=ty,pos,after,guard }=callFunc f (v::c.args.toList.map a.eval).toArray:=by
 obtain⟨A,args,ats⟩:=c;simp only at h;subst h;have:execOp a.eval { dst,op:=.call { callee:=.value x,args,argTypes:=ats },type:=ty,pos,after,guard }=(Deferred.ofValue (a.eval x) (args.map a.eval) >>= λd=>invoke d.target d.args):=rfl;rw[this,u];obtain⟨args⟩:=args;have B:(Deferred.ofValue (.func (.func f) #[v] #[]) ((⟨args⟩:Array Operand).map a.eval) >>= λd=>invoke d.target d.args)=callFunc f (#[v]++(⟨args⟩:Array Operand).map a.eval++#[]):=rfl;rw[B];simp
theorem b3n:∀(es:List MapEntry) (i:Nat) (E:TypeDesc) (A:Bool) (key u:Value),((A=true/\E=.string)\/(A=false/\∃k,E=.int k))->Y3 A key=true->(∀e∈es,Y3 A e.key=true) ->
  (Instr.findNow E key es i=some none->a0u key u (es.map λe=>(e.key,e.val))=(es.map λe=>(e.key,e.val))++[(key,u)]) /\
  (∀j v,Instr.findNow E key es i=some (some (j,v))->i<=j/\∃e,es[j-i]?=some e/\a0Z key e.key=true/\a0u key u (es.map λe=>(e.key,e.val))=(es.modify (j-i) λe=>{ e with key,val:=u }).map λe=>(e.key,e.val))
 | [],i,E,A,key,u,_,_,_=>⟨λ_=>rfl,λj v h=>by simp[Instr.findNow]at h⟩
 | e::es,i,E,A,key,u,hk,h0,h=>by
  have h1:=h e (by simp);obtain⟨J,N⟩:=b3n es (i+1) E A key u hk h0 (λI M=>h I (by simp[M]));have G:∃b,Instr.sameNow E key e.key=some b/\b=a0Z key e.key:=by
   rcases hk with⟨rfl,rfl⟩|⟨rfl,k,rfl⟩
   ·obtain⟨a,rfl⟩:=a2z h0;obtain⟨b,B⟩:=a2z h1;rw[B];exact⟨_,rfl,bytes_beq a b⟩
   ·obtain⟨a,rfl⟩:=a2t h0;obtain⟨b,B⟩:=a2t h1;rw[B];exact⟨_,rfl,rfl⟩
  obtain⟨b,F,B⟩:=G;cases H:b with
  | true=>
   rw[H]at F B;refine⟨λD=>by simp[Instr.findNow,F]at D,λj v D=>?_⟩;simp[Instr.findNow,F]at D;obtain⟨rfl,rfl⟩:=D;refine⟨d0m _,e,by simp,B.symm,?_⟩;simp[a0u,<- B]
  | false=>
   rw[H]at F B;refine⟨λD=>?_,λj v D=>?_⟩
   ·simp[Instr.findNow,F]at D;simp[a0u,<- B,J D]
   ·simp[Instr.findNow,F]at D;obtain⟨R,I,P,O,K⟩:=N j v D;refine⟨by omega,I,?_,O,?_⟩
    ·rw[show j-i=(j-(i+1))+1 by omega];simpa using P
    ·rw[show j-i=(j-(i+1))+1 by omega];simp[a0u,<- B,K]
def b9w{u:Bool}{a b:Value}(B:Y3 u a=true)(A:Y3 u b=true)(h:a0Z a b=true):a=b:=by
 cases u with
 | true=>
  obtain⟨x,rfl⟩:=a2z B;obtain⟨y,rfl⟩:=a2z A;simp[a0Z]at h;rw[h]
 | false=>
  obtain⟨x,rfl⟩:=a2t B;obtain⟨y,rfl⟩:=a2t A;simp[a0Z]at h;rw[h]
def b6a{h:Bool}{a:Value}(u:Y3 h a=true):Instr.sameBits 10000 a a=true:=by
 cases h with
 | true=>obtain⟨x,rfl⟩:=a2z u;show(x==x)=true;rw[bytes_beq];simp
 | false=>obtain⟨x,rfl⟩:=a2t u;show(IntKind.i64==IntKind.i64&&x==x)=true;simp
theorem b3t{str:Bool}{key u:Value}(h0:Y3 str key=true):∀{es:List (Value×Value)},(∀e∈es,Y3 str e.1=true)->∀e∈a0u key u es,Y3 str e.1=true
 | [],_,e,he=>by simp[a0u]at he;subst he;exact h0
 | (k',v')::es,h,e,he=>by
  simp only[a0u]at he;split at he
  ·cases List.mem_cons.1 he with
   | inl q=>subst q;exact h0
   | inr q=>exact h e (by simp[q])
  ·cases List.mem_cons.1 he with
   | inl q=>subst q;exact h (k',v') (by simp)
   | inr q=>exact b3t h0 (λe he=>h e (by simp[he])) e q
def b3R{t e:TypeId}{A:Bool}(Z:a2o P t=some (A,e)){b:Nat}{h:Array MapEntry}{clock:Nat}{key u:Value}
  (O:w.heap[b]?=some (.map h clock)) (E:∀x∈h.toList,Y3 A x.key=true) (H:Y3 A key=true) :
  ∃ents' clock',(Instr.mapUpdate t (.map (some b)) key u).run P w=.ok () { w with heap:=w.heap.setIfInBounds b (.map ents' clock') }/\ents'.toList.map (λe=>(e.key,e.val))=a0u key u (h.toList.map λe=>(e.key,e.val)):=by
 obtain⟨k,kd,R,V,J⟩:=a6w Z;obtain⟨r,I,_⟩:=findNow_spec J H h.toList 0 E;obtain⟨X,Y⟩:=b3n h.toList 0 kd A key u J H E;have U:(getObj b).run P w=.ok (.map h clock) w:=by simp[getObj,Sem.run,O]
 have W:(Instr.findKey k key h.toList).run P w=.ok r w:=by
  unfold Instr.findKey;simp[Sem.run_bind,run_underlying V,I]
 have T:=run_checkKey (w:=w) V J false key;have B:∀es' c',(setObj b (.map es' c')).run P w=.ok () { w with heap:=w.heap.setIfInBounds b (.map es' c') }:=λes' c'=>by simp[setObj,Sem.run,O]
 cases r with
 | none=>
  refine⟨h.push { key,val:=u,born:=clock },clock+1,?_,?_⟩
  ·unfold Instr.mapUpdate;simp only[Sem.run_bind,run_underlying R,Result.andThen_ok,U,T,W,B]
  ·rw[X I];simp
 | some q=>
  obtain⟨j,v⟩:=q;obtain⟨_,K,G,N,hm⟩:=Y j v I;have M:Y3 A K.key=true:=E K (d0g G);have F:=b9w H M N;have D:(Instr.keyThatStays (((h[j]?).map (·.key)).getD key) key).run P w=.ok key w:=by
   have:((h[j]?).map (·.key)).getD key=key:=by
    have:h[j]?=some K:=by simpa using G
    rw[this];simp[<- F]
   rw[this];unfold Instr.keyThatStays;rw[if_pos (b6a H)];rfl
  refine⟨h.modify j λe=>{ e with key,val:=u },clock,?_,?_⟩
  ·unfold Instr.mapUpdate;simp only[Sem.run_bind,run_underlying R,Result.andThen_ok,U,T,W,D,B]
  ·rw[hm];simp
def V5(E:Ctx)(ov:Operand->C)(rs:List Res)(io:IOp)(oo:Oper)(s:C)(rs':List Res)(pk:List Nat):Prop:=
 ∀(av:Nat->Prop) (ν:List Value) (a:Act) (w:World),RG av E.own0 E.w0.heap.size ν rs w->(∀b,E.av b->av b)->Frm E.own0 E.w0 w->(∀x∈io.uses,Den ν w (OO av rs ν) (ov x) (a.eval x)) ->
  ∀(K':Act->World->Prop) (Q:Exit->Act->World->Prop),(∀y ν' w',RG av E.own0 E.w0.heap.size ν' rs' w'->Mv rs ν w pk rs' ν' w'->Den ν' w' (OO av rs' ν') s y->K' (a.put oo.dst y) w')->oo.wp E.P a w K' Q
def V5.val{A:IOp}{u:Oper}{s:C}{rs':List Res}{pk:List Nat}(h:∀(av:Nat->Prop) (ν:List Value) (a:Act) (w:World),RG av E.own0 E.w0.heap.size ν rs w->Frm E.own0 E.w0 w->(∀x∈A.uses,Den ν w (OO av rs ν) (ov x) (a.eval x)) ->
  ∃w' y ν',(execOp a.eval u).run E.P w=.ok (.value y) w'/\(RG av E.own0 E.w0.heap.size ν' rs' w'/\Mv rs ν w pk rs' ν' w')/\Den ν' w' (OO av rs' ν') s y):V5 E ov rs A u s rs' pk:=by
 intro av ν a w I _ H F K Q J;obtain⟨w',y,ν',D,B,G⟩:=h av ν a w I H F;unfold Oper.wp;rw[D];exact J y ν' w' B.1 B.2 G
theorem V5.skip{B:IOp}{u:Oper}{s:C}{rs':List Res}{pk:List Nat}(h:∀(av:Nat->Prop) (ν:List Value) (a:Act) (w:World),RG av E.own0 E.w0.heap.size ν rs w->Frm E.own0 E.w0 w->(∀x∈B.uses,Den ν w (OO av rs ν) (ov x) (a.eval x)) ->
  ∃w' ν',(execOp a.eval u).run E.P w=.ok .skip w'/\(RG av E.own0 E.w0.heap.size ν' rs' w'/\Mv rs ν w pk rs' ν' w')/\Den ν' w' (OO av rs' ν') s undef):V5 E ov rs B u s rs' pk:=by
 intro av ν a w J _ I H K Q F;obtain⟨w',ν',G,A,D⟩:=h av ν a w J I H;unfold Oper.wp;rw[G];exact F undef ν' w' A.1 A.2 D
def V5.call{D:IOp}{B:Oper}{s:C}{rs':List Res}{pk:List Nat}{f:Nat}{cs:List C}(I:l5 E rs f cs s rs' pk)(h:∀(av:Nat->Prop) (ν:List Value) (a:Act) (w:World),RG av E.own0 E.w0.heap.size ν rs w->(∀x∈D.uses,Den ν w (OO av rs ν) (ov x) (a.eval x)) ->
  ∃vs:List Value,(execOp a.eval B).run E.P w=.ok (.enter f vs.toArray) w/\l6 ν w (OO av rs ν) cs vs):V5 E ov rs D B s rs' pk:=by
 intro av ν a w F A K H T Q O;obtain⟨vs,G,N⟩:=h av ν a w F H;unfold Oper.wp;rw[G];refine(I av ν w vs F A K N).mono ?_;rintro e M ⟨y,u,rfl,hr,J,R⟩;exact O y u M hr J R
def b2r(F:RG av own0 n0 ν rs w)(t:TypeId)(cs:List C)(vs:List Value)(D:l6 ν w (OO av rs ν) cs vs)(E:∀u∈vs,u.oneCell'=true) :
  RG av own0 n0 (ν++[.pointer (some ⟨w.heap.size,0,none⟩)]) (rs++[.box t cs]) (w.alloc (.cells vs.toArray t))/\Mv rs ν w [] (rs++[.box t cs]) (ν++[.pointer (some ⟨w.heap.size,0,none⟩)]) (w.alloc (.cells vs.toArray t)):=by
 refine F.add (V8 w _) (λb B=>?_) (λA h=>?_)
 ·simp only[fp,E8,Option.some.injEq]at B;subst B;exact⟨d0m _,by simp⟩
 ·exact⟨w.heap.size,vs,rfl,l6.nu h (by simp) (l6.keep A D),E,by simpa using heap_alloc_new w (.cells vs.toArray t)⟩
def b9Q(h:RG av own0 n0 ν rs w)(b:Nat)(t:TypeId)(cs:List C)(w':World)(O:Nat->Prop):Den (ν++[.pointer (some ⟨b,0,none⟩)]) w' O (.bp rs.length 0) (.pointer (some ⟨b,0,none⟩)):=by
 simp only[Den];exact⟨b,by rw[<- h.len];simp,rfl⟩
set_option maxHeartbeats 2000000 in
theorem b2P{oo:Oper}{io:IOp}(br:Is E.P oo.type oo.op io){K:C->List Res->List Nat->Prop}(h:evE E ov rs io K):∃s rs' pk,K s rs' pk/\V5 E ov rs io oo s rs' pk:=by
 obtain⟨dst,op,ty,pos,after,guard⟩:=oo;simp only at br;cases br with
 | alloc t i z hi hz=>
  obtain⟨Y,h⟩:=h;refine⟨_,_,_,h,V5.val λU ν a w H hF J=>?_⟩;refine⟨w.alloc (.cells z.cells t),.pointer (some ⟨w.heap.size,0,none⟩),_,?_,?_,b9Q H _ t [] _ _⟩
  ·simp[execOp,Instr.alloc,newVar,newRow,zeroValue,typeInfo,hi,hz]
  ·have:=b2r H t (z.cells.toList.map .v) z.cells.toList (l6.vs _) (a0P Y);simpa using this
 | box t x=>
  obtain⟨h0,Y,h2,h⟩:=h;refine⟨_,_,_,h,V5.val λU ν a w H hF J=>?_⟩;have X:=a2L (opS rfl (J x (by simp[IOp.uses])) h0) Y;refine⟨w.alloc (.cells (a.eval x).cells t),.pointer (some ⟨w.heap.size,0,none⟩),_,?_,?_,b9Q H _ t [] _ _⟩
  ·simp[execOp,Instr.box,newVar,newRow]
  ·have:=b2r H t _ _ X (a3C X h2);simpa using this
 | store t x y i hi=>
  obtain⟨h0,Y,h2,h3,h4,h⟩:=h;split at h
  ·rename_i k off hx;split at h
   ·rename_i tb cs hk;obtain⟨au,h⟩:=h;refine⟨_,_,_,h,V5.skip λU ν a w H hF J=>?_⟩;have D:=opS rfl (J x (by simp[IOp.uses])) h0;have X:=a2L (opS rfl (J y (by simp[IOp.uses])) Y) h2;have ho:=a3C X h3;have M:(a.eval y).cells.toList.length=i.size:=by rw[X.length,h4]
    rw[hx]at D;simp only[Den]at D;obtain⟨b,I,D⟩:=D;obtain⟨b',vs,eb,hD,aa,hh⟩:=H.get hk I;injection eb with eb;injection eb with eb;injection eb with eb;subst eb;have B:=a6Y (P:=E.P) (w:=w) (y:=a.eval y) (off:=off) hi hh M (by simp[hD.length];exact au) ho;have ag:=H.upd (r':=.box tb (cs.take off++cellsS (strip (ov y))++cs.drop (off+i.size))) hk I
     (a1p (w':=w.setRow b (vs.toArray.toList.take off++(a.eval y).cells.toList++vs.toArray.toList.drop (off+i.size)).toArray) (x:=.slice (some ⟨b,0,none⟩) 0 0) ⟨rfl,rfl,rfl,by simp,λk _ hk=>setRow_other w b k _ (λe=>hk (by rw[e];rfl))⟩ (λb' R=>by simp only[Value.ownBlock]at R;simpa[fp,E8] using R))
     (λb' ar=>ar) (λT=>by
      refine⟨b,vs.take off++(a.eval y).cells.toList++vs.drop (off+i.size),rfl,l6.keep T (((hD.take _).append X).append (hD.drop _)),?_,?_⟩
      ·intro u N;simp only[d0o,List.mem_append]at N;rcases N with N|N|N
       ·exact aa u (List.mem_of_mem_take N)
       ·exact ho u N
       ·exact aa u (List.mem_of_mem_drop N)
      ·rw[setRow_heap w b _ _ tb (0,0) hh])
    exact⟨_,_,(by simp only[execOp,D,Sem.run_bind,B];rfl),ag,by simp[Den]⟩
   ·exact h.elim
  ·rename_i k z Z off hx;split at h
   ·rename_i te z' es hk;obtain⟨hz,af,h⟩:=h;subst hz;split at h
    ·rename_i q hq;obtain⟨au,h⟩:=h;refine⟨_,_,_,h,V5.skip λU ν a w H hF J=>?_⟩;have D:=opS rfl (J x (by simp[IOp.uses])) h0;have X:=a2L (opS rfl (J y (by simp[IOp.uses])) Y) h2;have ho:=a3C X h3;have M:(a.eval y).cells.toList.length=i.size:=by rw[X.length,h4]
     rw[hx]at D;simp only[Den]at D;obtain⟨b,n',c,I,D⟩:=D;obtain⟨hl,vs,hD,aa,G⟩:=H.get hk I;have bU:=hD.length;have aL:=Q9 hl;have aN:Z<es.length:=(d0i.1 hq).1;have bF:=hl q (d0g hq);have aE:(Z+1)*z<=es.length*z:=d0M _ aN;rw[Nat.add_mul]at aE;obtain⟨bG,aY⟩:=G;rcases aY with⟨ba,_⟩|⟨g,cap,W,hv,aq,hg,a5,aI,aD,aj⟩
     ·omega
     ·injection hv with hv bI bt;injection hv with hv;injection hv with hv;subst hv bI bt;have bV:es.length*z<=W.size:=by rw[aD];exact d0M _ a5
      have B:=a6Y (P:=E.P) (w:=w) (y:=a.eval y) (off:=Z*z+off) hi hg M (by omega) ho;have bb:=b0Y (c:=q.take off++cellsS (strip (ov y))++q.drop (off+i.size)) hl aN;have be:=X.fz af;have aP:FzL w (OO U rs ν) q ((vs.drop (Z*z)).take z):=by
       have:=(hD.drop (Z*z)).take z;rwa[a3B hl hq]at this
      have aB:FzL w (OO U rs ν) (es.set Z (q.take off++cellsS (strip (ov y))++q.drop (off+i.size))).flatten (vs.take (Z*z+off)++(a.eval y).cells.toList++vs.drop (Z*z+off+i.size)):=by
       rw[bb];have Y:=hD.take (Z*z);have h2:=aP.take off;have h3:=aP.drop (off+i.size);have h4:=hD.drop (Z*z+z);have:=(Y.append ((h2.append be).append h3)).append h4;have e5:vs.take (Z*z)++(((vs.drop (Z*z)).take z).take off++(a.eval y).cells.toList++((vs.drop (Z*z)).take z).drop (off+i.size))++vs.drop (Z*z+z)=vs.take (Z*z+off)++(a.eval y).cells.toList++vs.drop (Z*z+off+i.size):=by
        have e6:((vs.drop (Z*z)).take z).take off=(vs.drop (Z*z)).take off:=by rw[List.take_take,Nat.min_eq_left (by omega)]
        have e7:((vs.drop (Z*z)).take z).drop (off+i.size)++vs.drop (Z*z+z)=vs.drop (Z*z+off+i.size):=by
         rw[List.drop_take,List.drop_drop];have e8:vs.drop (Z*z+z)=(vs.drop (Z*z+(off+i.size))).drop (z-(off+i.size)):=by
          rw[List.drop_drop];congr 1;omega
         rw[e8,List.take_append_drop];congr 1;omega
        rw[e6,d0o,d0o,e7,<- d0o,<- d0o,<- List.take_add,d0o]
       rw[<- e5];simpa using this
      have ag:=H.upd (r':=.row te z (es.set Z (q.take off++cellsS (strip (ov y))++q.drop (off+i.size)))) hk I
       (a1p (w':=w.setRow b (W.toList.take (Z*z+off)++(a.eval y).cells.toList++W.toList.drop (Z*z+off+i.size)).toArray) (x:=.slice (some ⟨b,0,none⟩) 0 0) ⟨rfl,rfl,rfl,by simp,λk _ hk=>setRow_other w b k _ (λe=>hk (by rw[e];rfl))⟩ (λb' R=>by simp only[Value.ownBlock]at R;simp only[fp,E8];rw[if_neg (by omega)];exact R))
       (λb' ar=>ar) (λT=>by
        refine⟨λe he=>?_,_,FzL.keep T aB,?_,?_,.inr ⟨b,c,_,by rw[d0S],aq,setRow_heap w b _ _ te (0,0) hg,by rw[d0S];exact a5,aI,?_,?_⟩⟩
        ·rcases List.mem_or_eq_of_mem_set he with R|R
         ·exact hl e R
         ·rw[R];simp only[d0c,d0r,d0L,bF,h4];omega
        ·intro u N;simp only[d0o,List.mem_append]at N;rcases N with N|N|N
         ·exact aa u (List.mem_of_mem_take N)
         ·exact ho u N
         ·exact aa u (List.mem_of_mem_drop N)
        ·simp only[d0c,d0r,d0L,M,d0S];omega
        ·simp only[List.size_toArray,d0c,d0r,d0L,M,Array.length_toList];omega
        ·rw[d0S];have aF:W.toList.take (Z*z+off)=vs.take (Z*z+off):=by
          rw[<- aj,List.take_take,Nat.min_eq_left (by omega)]
         have bu:(W.toList.drop (Z*z+off+i.size)).take (es.length*z-(Z*z+off+i.size))=vs.drop (Z*z+off+i.size):=by
          rw[<- aj,List.drop_take]
         have aV:(W.toList.take (Z*z+off)++(a.eval y).cells.toList).length=Z*z+off+i.size:=by
          simp only[d0c,d0r,Array.length_toList,M];omega
         show((W.toList.take (Z*z+off)++(a.eval y).cells.toList++W.toList.drop (Z*z+off+i.size)).take (es.length*z))=_;rw[List.take_append,aV,d0y (by omega),bu,aF])
      exact⟨_,_,(by simp only[execOp,D,Sem.run_bind,B];rfl),ag,by simp[Den]⟩
    ·exact h.elim
   ·exact h.elim
  ·exact h.elim
 | call c f X af=>
  obtain⟨Y,s,rs',pk,h,hT⟩:=h;exact⟨s,rs',pk,h,V5.call hT λU ν a w H J=>⟨_,by rw[a9p X,O9 af],a0b rfl Y J⟩⟩
 | Z4 c x X=>
  obtain⟨h0,Y,h⟩:=h;have aZ:∀{U ν w} {a:Act},(∀y∈(IOp.Z4 x c.args.toList).uses,Den ν w (OO U rs ν) (ov y) (a.eval y))->∀y∈c.args.toList,Den ν w (OO U rs ν) (ov y) (a.eval y):=λJ y hy=>J y (by simp only[IOp.uses,List.mem_cons];exact .inr hy);split at h
  ·rename_i f bi hx;obtain⟨af,s,rs',pk,h,hT⟩:=h;refine⟨s,rs',pk,h,V5.call hT λU ν a w H J=>?_⟩;have D:=opS rfl (J x (by simp[IOp.uses])) h0;rw[hx]at D;have D:=F6 D;exact⟨_,by rw[a2X X D,O9 af],(a0b rfl Y (aZ J)).append (l6.vs _)⟩
  ·rename_i f bi hx;obtain⟨af,s,rs',pk,h,hT⟩:=h;refine⟨s,rs',pk,h,V5.call hT λU ν a w H J=>?_⟩;have D:=opS rfl (J x (by simp[IOp.uses])) h0;rw[hx]at D;simp only[Den]at D;obtain⟨vs,hD,D⟩:=D;exact⟨_,by rw[a2X X D,O9 af],(a0b rfl Y (aZ J)).append hD⟩
  ·rename_i f c' hx;obtain⟨af,s,rs',pk,h,hT⟩:=h;refine⟨s,rs',pk,h,V5.call hT λU ν a w H J=>?_⟩;have D:=opS rfl (J x (by simp[IOp.uses])) h0;rw[hx]at D;simp only[Den]at D;obtain⟨v,hD,D⟩:=D;exact⟨_,by rw[c2w X D,O9 af],⟨_,_,rfl,hD,a0b rfl Y (aZ J)⟩⟩
  ·exact h.elim
 | mkmap t e str hk=>
  obtain⟨k,kd,Y,h2,h3⟩:=a6w hk;refine⟨_,_,_,h,V5.val λU ν a w H hF J=>?_⟩;have V:=H.add (w':=w.alloc (.map #[] 0)) (x:=.map (some w.heap.size)) (r:=.map str []) (V8 w _) (λb I=>by
   simp only[fp,E8,Option.some.injEq]at I;subst I;exact⟨d0m _,by simp⟩) (λ_ _=>⟨w.heap.size,#[],0,rfl,by simpa using heap_alloc_new w (.map #[] 0),rfl,by simp⟩)
  refine⟨w.alloc (.map #[] 0),.map (some w.heap.size),_,?_,V,?_⟩
  ·simp only[execOp,Instr.makeMap];rfl
  ·simp only[Den];exact⟨by rw[<- H.len];simp,_,rfl⟩
 | mupd t e str m k v hk=>
  obtain⟨Y,h2,h3,h⟩:=h;split at h
  ·rename_i j bJ u hm bc hv;split at h
   ·rename_i s es hj;obtain⟨hs,a9,h⟩:=h;subst hs;refine⟨_,_,_,h,V5.skip λU ν a w H hF J=>?_⟩;have D:=opS rfl (J m (by simp[IOp.uses])) Y;have e2:=opS rfl (J k (by simp[IOp.uses])) h2;have e3:=opS rfl (J v (by simp[IOp.uses])) h3;rw[hm]at D;rw[bc]at e2;rw[hv]at e3;have e2:=F6 e2;have e3:=F6 e3;simp only[Den]at D;obtain⟨b,aS,bP,ex,I,bz,bg⟩:=H.get hj D.1;subst bz;have a8:∀x∈aS.toList,Y3 s x.key=true:=λx hx=>bg _ (List.mem_map.2 ⟨x,hx,rfl⟩);obtain⟨ents',clock',B,bR⟩:=b3R (P:=E.P) (u:=u) hk I a8 a9;have bf:b<w.heap.size:=(Array.getElem?_eq_some_iff.1 I).1
    have ag:=H.upd (w':={ w with heap:=w.heap.setIfInBounds b (.map ents' clock') }) (r':=.map s (a0u bJ u (aS.toList.map λe=>(e.key,e.val)))) hj D.1
     ⟨rfl,rfl,rfl,by simp,λb' _ hn=>by
      have:b≠b':=λe=>hn (by subst e;rw[ex];rfl);simp[Array.getElem?_setIfInBounds_ne this]⟩ (λ_ I=>I) (λ_=>⟨b,ents',clock',ex,by simp[bf],bR,b3t a9 bg⟩)
    exact⟨_,_,(by simp only[execOp,ex,e2,e3,Sem.run_bind,B];rfl),ag,by simp[Den]⟩
   ·exact h.elim
  ·exact h.elim
 | app c t e i s x X hat ha ht hi z hz hzs=>
  obtain⟨Y,h2,h3,h⟩:=h;obtain⟨a2,⟨az⟩,⟨a0⟩⟩:=c;simp only at X hat ha;subst X hat ha;have ai:∀(a:Act) (w:World) (y:Value) (w':World),(Builtin.append_ #[t,t] ty #[a.eval s,a.eval x]).run E.P w=.ok y w'->(execOp a.eval { dst,op:=.call ⟨.builtin .append,⟨[s,x]⟩,⟨[t,t]⟩⟩,type:=ty,pos,after,guard }).run E.P w=.ok (.value y) w':=λa w y w' hy=>by
   simp[execOp,resolve,invoke,builtin,hy]
  have ah:∀(K2:List (List C)->Prop),(∀ν w O y,Den ν w O (strip (ov s)) y->∃A,y=.slice A 0 0)->a4R rs i.size (strip (ov x)) none K2->(∀ys,K2 ys->(ys.length<=140737488355328/\ys.length*i.bytes<=140737488355328)/\K (.rv rs.length) (rs++[.row e i.size ys]) []) ->
   ∃s' rs' pk,K s' rs' pk/\V5 E ov rs (.app e i.size i.bytes s x) { dst,op:=.call ⟨.builtin .append,⟨[s,x]⟩,⟨[t,t]⟩⟩,type:=ty,pos,after,guard } s' rs' pk:=by
   intro K2 aX bk bB;obtain⟨ys,ay,ak⟩:=a7k bk;obtain⟨⟨ao,aC⟩,hk⟩:=bB ys ay;refine⟨_,_,_,hk,V5.val λU ν a w H hF J=>?_⟩;have D:=opS rfl (J s (by simp[IOp.uses])) Y;have e2:=opS rfl (J x (by simp[IOp.uses])) h2;obtain⟨A,aX⟩:=aX _ _ _ _ D;obtain⟨g0,us,g1,g2,g3⟩:=ak _ _ _ _ _ H _ e2;obtain⟨x',w',B,G,ab,ac⟩:=a7E (P:=E.P) w t ty e i z ht hi hz hzs h3 (.slice A 0 0) 0 [] ⟨by simp,.inl ⟨rfl,A,rfl⟩⟩ _ _ _ g3 g2 (by omega) (by simpa using aC);simp only[d0A,List.nil_append]at G;have bj:∀b,E8 (.slice A 0 0)≠some b:=λb=>by cases A<;>simp[E8]
   have V:=H.add (x:=x') (r:=.row e i.size ys) (a2s ab λb _ I=>bj b I) (λb I=>by
    rcases ac b I with R|R
    ·exact absurd R (bj b)
    ·exact R) (λT _=>⟨g0,us,FzL.keep T g1,g2,G⟩)
   refine⟨w',x',_,(ai a w _ _ (by rw[aX];exact B)),V,?_⟩;simp only[Den];exact⟨by rw[<- H.len];simp,G.slice.elim λA h=>h.elim λc h=>⟨A,_,c,h⟩⟩
  split at h
  ·rename_i k hs;split at h
   ·rename_i te zz es hk;obtain⟨rfl,rfl,h⟩:=h;obtain⟨ys,⟨⟨ao,aC⟩,aW⟩,ak⟩:=a7k h;refine⟨_,_,_,aW,V5.val λU ν a w H hF J=>?_⟩;have D:=opS rfl (J s (by simp[IOp.uses])) Y;have e2:=opS rfl (J x (by simp[IOp.uses])) h2;rw[hs]at D;simp only[Den]at D;obtain⟨g0,us,g1,g2,g3⟩:=ak _ _ _ _ _ H _ e2;obtain⟨l0,vs,l1,l2,l3⟩:=H.get hk D.1;obtain⟨x',w',B,G,ab,ac⟩:=a7E (P:=E.P) w t ty te i z ht hi hz hzs h3 _ _ _ l3 _ _ _ g3 g2 ao aC;have an:=H.b4z (pk:=[k]) (x':=x') (r':=.row te i.size (es++ys)) hk D.1 ab (λl y hl hy=>by
     have:l≠k:=λe=>hl (by simp[e]);rw[List.getElem?_set_ne (Ne.symm this)];exact hy) (λb I=>ac b I) (λT=>by
      refine⟨λq hq=>?_,vs++us,?_,?_,?_⟩
      ·rcases List.mem_append.1 hq with R|R
       ·exact l0 q R
       ·exact g0 q R
      ·rw[List.flatten_append];exact FzL.keep T (l1.append g1)
      ·intro u N;rcases List.mem_append.1 N with R|R
       ·exact l2 u R
       ·exact g2 u R
      ·rw[d0c];exact G)
    refine⟨w',x',_,(ai a w _ _ B),an,?_⟩;simp only[Den];have aG:k<ν.length:=(d0i.1 D.1).1;exact⟨by rw[List.getElem?_set];simp[aG],G.slice.elim λA h=>h.elim λc h=>⟨A,_,c,h⟩⟩
   ·rename_i te bs hk;obtain⟨rfl,ae,h⟩:=h;obtain⟨ys,⟨⟨bM,ao,aC⟩,aW⟩,ak⟩:=a7k h;refine⟨_,_,_,aW,V5.val λU ν a w H hF J=>?_⟩;have D:=opS rfl (J s (by simp[IOp.uses])) Y;have e2:=opS rfl (J x (by simp[IOp.uses])) h2;rw[hs]at D;simp only[Den]at D;obtain⟨g0,us,g1,g2,g3⟩:=ak _ _ _ _ _ H _ e2;obtain⟨g,mk,hy,b1,b2,hh⟩:=H.get hk D.1;obtain⟨x',w',B,G,ab,ac⟩:=b3W (P:=E.P) w t ty te i z ht hi hz hzs ae aC bs mk hh _ ys.length us g3 bM ao;rw[<- hy]at B;have an:=H.b4z (pk:=[k]) (x':=x') (r':=.row te 1 (bs.map u7++ys)) hk D.1 ⟨ab.1,ab.2,ab.3,ab.4,λb I _=>ab.5 b I id⟩ (λl y hl hy=>by
     have:l≠k:=λe=>hl (by simp[e]);rw[List.getElem?_set_ne (Ne.symm this)];exact hy) (λb I=>.inr (ac b I)) (λT=>by
      refine⟨λq hq=>?_,bs.map (λb=>Value.int .u8 b.toNat)++us,?_,?_,?_⟩
      ·rcases List.mem_append.1 hq with R|R
       ·obtain⟨y,_,rfl⟩:=List.mem_map.1 R;rfl
       ·rw[<- ae];exact g0 q R
      ·rw[List.flatten_append];exact FzL.keep T ((b5n bs).append g1)
      ·intro u N;rcases List.mem_append.1 N with R|R
       ·obtain⟨y,_,rfl⟩:=List.mem_map.1 R;rfl
       ·exact g2 u R
      ·rw[d0c,d0d];exact G)
    refine⟨w',x',_,(ai a w _ _ B),an,?_⟩;simp only[Den];have aG:k<ν.length:=(d0i.1 D.1).1;exact⟨by rw[List.getElem?_set];simp[aG],G.slice.elim λA h=>h.elim λc h=>⟨A,_,c,h⟩⟩
   ·exact h.elim
  ·rename_i hs;exact ah _ (λν w O y hy=>by rw[hs]at hy;simpa only[Den] using hy) h λys ay=>ay
  ·rename_i hs;exact ah _ (λν w O y hy=>by rw[hs]at hy;exact⟨none,F6 hy⟩) h λys ay=>ay
  ·exact h.elim
 | apps c t t' e i s x X hat ha ht ht' hi hz ae ao=>
  obtain⟨Y,h2,h⟩:=h;obtain⟨a2,⟨az⟩,⟨a0⟩⟩:=c;simp only at X hat ha;subst X hat ha;have ai:∀(a:Act) (w:World) (y:Value) (w':World),(Builtin.append_ #[t,t'] ty #[a.eval s,a.eval x]).run E.P w=.ok y w'->(execOp a.eval { dst,op:=.call ⟨.builtin .append,⟨[s,x]⟩,⟨[t,t']⟩⟩,type:=ty,pos,after,guard }).run E.P w=.ok (.value y) w':=λa w y w' hy=>by
   simp[execOp,resolve,invoke,builtin,hy]
  have aO:∀(b:ByteArray),∀q∈b.data.toList.map u7,q.length=1:=λb q hq=>by obtain⟨y,_,rfl⟩:=List.mem_map.1 hq;rfl
  split at h
  ·rename_i b hx;split at h
   ·rename_i k hs;split at h
    ·rename_i te zz es hk;obtain⟨rfl,rfl,bl,h⟩:=h;refine⟨_,_,_,h,V5.val λU ν a w H hF J=>?_⟩;have D:=opS rfl (J s (by simp[IOp.uses])) Y;have e2:=opS rfl (J x (by simp[IOp.uses])) h2;rw[hx]at e2;have e2:=F6 e2;rw[hs]at D;simp only[Den]at D;obtain⟨l0,vs,l1,l2,l3⟩:=H.get hk D.1;obtain⟨x',w',B,G,ab,ac⟩:=a5j (P:=E.P) w t t' ty te i ht ht' hi hz ae ao _ _ _ l3 b bl;have an:=H.b4z (pk:=[k]) (x':=x') (r':=.row te 1 (es++b.data.toList.map u7)) hk D.1 ab (λl y hl hy=>by
      have:l≠k:=λe=>hl (by simp[e]);rw[List.getElem?_set_ne (Ne.symm this)];exact hy) (λb I=>ac b I) (λT=>by
       refine⟨λq hq=>?_,vs++Lib.strCells b,?_,?_,?_⟩
       ·rcases List.mem_append.1 hq with R|R
        ·exact l0 q R
        ·exact aO b q R
       ·rw[List.flatten_append];exact FzL.keep T (l1.append (b0m b))
       ·intro u N;rcases List.mem_append.1 N with R|R
        ·exact l2 u R
        ·exact Lib.strCells_oneCell b u R
       ·rw[d0c,d0d];exact G)
     refine⟨w',x',_,(ai a w _ _ (by rw[e2];exact B)),an,?_⟩;simp only[Den];have aG:k<ν.length:=(d0i.1 D.1).1;exact⟨by rw[List.getElem?_set];simp[aG],G.slice.elim λA h=>h.elim λc h=>⟨A,_,c,h⟩⟩
    ·exact h.elim
   ·rename_i hs;obtain⟨bl,h⟩:=h;refine⟨_,_,_,h,V5.val λU ν a w H hF J=>?_⟩;have D:=opS rfl (J s (by simp[IOp.uses])) Y;have e2:=opS rfl (J x (by simp[IOp.uses])) h2;rw[hx]at e2;have e2:=F6 e2;rw[hs]at D;have D:=F6 D;obtain⟨x',w',B,G,ab,ac⟩:=a5j (P:=E.P) w t t' ty e i ht ht' hi hz ae ao (.slice none 0 0) 0 [] ⟨by simp,.inl ⟨rfl,none,rfl⟩⟩ b (by omega);simp only[d0A,List.nil_append]at G;have V:=H.add (x:=x') (r:=.row e 1 (b.data.toList.map u7)) (a2s ab λb _ I=>by cases I) (λb I=>by
     rcases ac b I with R|R
     ·cases R
     ·exact R) (λT _=>⟨aO b,_,FzL.keep T (b0m b),Lib.strCells_oneCell b,by rw[d0d];exact G⟩)
    refine⟨w',x',_,(ai a w _ _ (by rw[D,e2];exact B)),V,?_⟩;simp only[Den];exact⟨by rw[<- H.len];simp,G.slice.elim λA h=>h.elim λc h=>⟨A,_,c,h⟩⟩
   ·exact h.elim
  ·exact h.elim
 | bytes s d e x hs hd he=>
  obtain⟨Y,h⟩:=h;split at h
  ·rename_i b hx;obtain⟨I,h⟩:=h;refine⟨_,_,_,h,V5.val λU ν a w H hF J=>?_⟩;have e2:=opS rfl (J x (by simp[IOp.uses])) Y;rw[hx]at e2;have e2:=F6 e2;have ac:=b6Y w e b;refine⟨Lib.bytesWorld w e b,_,ν,?_,⟨H.below ac,Mv.of_below ac⟩,Fz.den ν (c3q (λc X=>by
    rcases X with X|X
    ·exact H.av c X
    ·exact(H.low c X).1) e b I)⟩
   simp[execOp,e2,Lib.run_convert_string_bytes w s d e b hs hd he]
  ·exact h.elim
 | a5t t e ps i ht hi aK=>
  have bo:ps=#[]:=Array.eq_empty_of_size_eq_zero aK;subst bo;refine⟨_,_,_,h,V5.val λU ν a w H hF J=>?_⟩;refine⟨w.alloc (.cells #[] e),.slice (some ⟨w.heap.size,0,none⟩) 0 0,ν,?_,⟨H.below (V8 w _),Mv.of_below (V8 w _)⟩,⟨_,rfl⟩⟩;simp[execOp,Instr.buildSlice,run_underlying ht w,sizeOf,typeInfo,hi,Instr.fill,newRow,show(Array.range 0:Array Nat)=#[] from rfl]
 | bsl t e n ps i z ht hi hz hn hzs=>
  have aH:0<i.size->a8F true ov ps.toList->a5W n i.size (K9 ov ps.toList)->n*i.size<=16777216->∀(U:Nat->Prop) (ν:List Value) (a:Act) (w:World),(∀x∈(IOp.bsl e i.size n z.cells.toList ps.toList).uses,Den ν w (OO U rs ν) (ov x) (a.eval x)) ->
   ∃us:List Value,l6 ν w (OO U rs ν) (K8 (List.replicate n (z.cells.toList.map C.v)) (K9 ov ps.toList)).flatten us/\us.length=n*i.size /\
    (execOp a.eval { dst,op:=.buildSlice t n ps,type:=ty,pos,after,guard }).run E.P w=.ok (.value (.slice (some ⟨w.heap.size,0,none⟩) n n)) (w.alloc (.cells us.toArray e)) /\
    (K8 (List.replicate n (z.cells.toList.map C.v)) (K9 ov ps.toList)).length=n/\(∀q∈K8 (List.replicate n (z.cells.toList.map C.v)) (K9 ov ps.toList),q.length=i.size):=by
   intro aU h2 h3 h5 U ν a w J;have am:0<z.cells.size:=by rw[hzs];exact aU
   obtain⟨bL,bx⟩:=a8d h2;have bQ:∀q∈List.replicate n (z.cells.toList.map C.v),q.length=i.size:=λq hq=>by rw[d0H hq];simpa using hzs
   obtain⟨p1,p2,p3,p4⟩:=a8m (K9 ov ps.toList) (List.replicate n (z.cells.toList.map C.v)) n (by simp) bQ h3;have bE:FzL w (OO U rs ν) (List.replicate n (z.cells.toList.map C.v)).flatten (List.replicate n z.cells.toList).flatten:=by
    have:∀n,FzL w (OO U rs ν) (List.replicate n (z.cells.toList.map C.v)).flatten (List.replicate n z.cells.toList).flatten:=λn=>by
     induction n with
     | zero=>simp[FzL]
     | succ n ih=>rw[List.replicate_succ,List.replicate_succ,List.flatten_cons,List.flatten_cons];exact(FzL.vs _).append ih
    exact this n
   obtain⟨us,hf,hD⟩:=a4Q (ν:=ν) (w:=w) (O:=OO U rs ν) (λj=>some (j*i.size,i.size)) (ps.toList.map λ(j,x)=>(j,a.eval x)) ((K9 ov ps.toList).map λ(j,c)=>(j*i.size,i.size,c)) _ _
    (by simp[bL]) (λj f v hj=>by
     simp only[d0q,Option.map_eq_some_iff]at hj;obtain⟨⟨f',x⟩,hj,he⟩:=hj;simp only[Prod.mk.injEq]at he;obtain⟨rfl,rfl⟩:=he;obtain⟨bH,bh⟩:=bx j _ x hj;have a7:x∈(IOp.bsl e i.size n z.cells.toList ps.toList).uses:=List.mem_map.2 ⟨_,d0g hj,rfl⟩;exact⟨_,_,_,by rw[d0q,bh];rfl,rfl,a2L (opS rfl (J x a7) bH) (a9m h3 j _ _ bh)⟩) (bE.den ν) p2
   rw[p1]at hD;have ap:us.length=n*i.size:=by rw[hD.length,Q9 p4,p3]
   refine⟨us,hD,ap,?_,p3,p4⟩;have a6:(zeroValue e).run E.P w=.ok z w:=by simp[zeroValue,typeInfo,hi,hz]
   have bN:¬n*i.size>2^24:=by omega
   have as:=a2T z.cells n am;rw[hzs]at as;have a1:((Array.range (n*i.size)).map λj=>z.cells[j%z.cells.size]!)=(List.replicate n z.cells.toList).flatten.toArray:=by
    apply Array.ext';rw[hzs,as]
   have D:(ps.map λ(i,x)=>(i,a.eval x)).toList=ps.toList.map λ(i,x)=>(i,a.eval x):=by simp
   simp only[execOp,Instr.buildSlice,Sem.run_bind,run_underlying ht w,Result.andThen_ok,sizeOf,typeInfo,run_program,hi,Sem.run_pure,bN,if_false,hn,a6,a1,D,hf];simp[newRow]
  have a3:0<n:=by
   rcases d0K n with h0|h0
   ·subst h0;simp at hn
   ·exact h0
  have aR:∀(w:World) (us:List Value) (b:Nat),E8 (.slice (some ⟨w.heap.size,0,none⟩) n n)=some b->w.heap.size<=b/\b<(w.alloc (.cells us.toArray e)).heap.size:=λw us b I=>by
   simp only[E8]at I;rw[if_neg (by omega)]at I;injection I with I;subst I;exact⟨d0m _,by simp⟩
  simp only[evE]at h;split at h
  ·rename_i a4;obtain⟨ae,h2,h3,h6,h⟩:=h;refine⟨_,_,_,h,V5.val λU ν a w H hF J=>?_⟩;obtain⟨us,hD,ap,B,_,_⟩:=aH (by omega) h2 (by rw[ae];exact h3) (by rw[ae];omega) U ν a w J;rw[a4]at hD;have aT:C.ones (K8 (List.replicate n ([Value.pointer none].map C.v)) (K9 ov ps.toList)).flatten=true:=a9n (a3n h3 λe he=>by rw[d0H he];rfl);have aB:=b2r H e _ us hD (a3C hD aT);refine⟨w.alloc (.cells us.toArray e),.slice (some ⟨w.heap.size,0,none⟩) n n,_,B,aB,?_⟩;simp only[Den];exact⟨_,n,rfl,d0m _,by simp only[maxLen];omega,λ_=>⟨.pointer (some ⟨w.heap.size,0,none⟩),w.heap.size,by rw[<- H.len];simp,rfl,by simp,trivial⟩⟩
  ·rename_i i0 ax j0 aw aK _;obtain⟨⟨rfl,rfl,bA,ae,⟨⟨q1,q2⟩,q3,q4⟩,ha,I⟩,h⟩:=h;subst bA;refine⟨_,_,_,h,V5.val λU ν a w H hF J=>?_⟩;have bm:K9 ov ps.toList=[(0,.v (.int .u8 ax)),(1,.v (.int .u8 aw))]:=by rw[aK];simp only[K9,q1,q3]
   obtain⟨us,hD,ap,B,_,_⟩:=aH (by omega) (by rw[aK];exact⟨q2,q4,trivial⟩) (by rw[bm,ae];exact⟨rfl,rfl,rfl,by decide,rfl,rfl,rfl,by decide,trivial⟩) (by rw[ae];decide) U ν a w J;rw[bm]at hD;have aD:(K8 (List.replicate 2 (z.cells.toList.map C.v)) [(0,.v (.int .u8 ax)),(1,.v (.int .u8 aw))]).flatten=[.v (.int .u8 ax),.v (.int .u8 aw)]:=by
    simp[K8,cellsS,List.replicate]
   rw[aD]at hD;simp only[l6,Den]at hD;obtain⟨y1,l1,rfl,rfl,y2,l2,rfl,rfl,rfl⟩:=hD;have D:∀v:Int,0<=v/\v<=255->Value.int .u8 (((UInt8.ofNat v.toNat).toNat:Nat):Int)=.int .u8 v:=λv hv=>by
    rw[UInt8.toNat_ofNat',Nat.mod_eq_of_lt (by omega),Int.toNat_of_nonneg hv.1]
   have V:=H.add (w':=w.alloc (.cells [Value.int .u8 ax,.int .u8 aw].toArray e)) (x:=.slice (some ⟨w.heap.size,0,none⟩) 2 2) (r:=.fb e [UInt8.ofNat ax.toNat,UInt8.ofNat aw.toNat]) (V8 w _) (λb I=>aR w _ b I) (λ_ _=>⟨w.heap.size,(0,0),rfl,by simp,by simp,by
    simp only[d0l,d0p,D ax ha,D aw I];exact heap_alloc_new w _⟩)
   refine⟨_,.slice (some ⟨w.heap.size,0,none⟩) 2 2,_,B,V,?_⟩;simp only[Den];exact⟨by rw[<- H.len];simp,_,_,_,rfl⟩
  ·obtain⟨Y,bT,aU,h2,h3,⟨h5,h6⟩,h⟩:=h;refine⟨_,_,_,h,V5.val λU ν a w H hF J=>?_⟩;obtain⟨us,hD,ap,B,p3,p4⟩:=aH aU h2 (a5L h3) h5 U ν a w J;have af:C.clL (K8 (List.replicate n (z.cells.toList.map C.v)) (K9 ov ps.toList)).flatten=true:=b8g (a7x h3 λe he=>by rw[d0H he];exact c4I _);have aT:C.ones (K8 (List.replicate n (z.cells.toList.map C.v)) (K9 ov ps.toList)).flatten=true:=a9n (a3n (a5L h3) λe he=>by rw[d0H he];exact b7L Y);have G:rowAt (w.alloc (.cells us.toArray e)) e i.size (.slice (some ⟨w.heap.size,0,none⟩) n n) n us:=
    ⟨ap,.inr ⟨w.heap.size,n,us.toArray,rfl,a3,heap_alloc_new w _,d0m _,by simp only[maxLen];omega,by simp[ap],by show us.take (n*i.size)=us;rw[<- ap];exact d0w⟩⟩
   have V:=H.add (w':=w.alloc (.cells us.toArray e)) (x:=.slice (some ⟨w.heap.size,0,none⟩) n n) (r:=.row e i.size (K8 (List.replicate n (z.cells.toList.map C.v)) (K9 ov ps.toList))) (V8 w _) (λb I=>aR w us b I) (λT _=>⟨p4,us,FzL.keep T (hD.fz af),a3C hD aT,by rw[p3];exact G⟩);refine⟨w.alloc (.cells us.toArray e),.slice (some ⟨w.heap.size,0,none⟩) n n,_,B,V,?_⟩;simp only[Den];exact⟨by rw[<- H.len];simp,_,_,_,rfl⟩
 | mark s d e x hsd hs he=>
  subst hsd;obtain⟨Y,h⟩:=h;split at h
  ·rename_i k hx;split at h
   ·rename_i te bs hk;refine⟨_,_,_,h,V5.val λU ν a w H hF J=>?_⟩;have D:=opS rfl (J x (by simp[IOp.uses])) Y;rw[hx]at D;simp only[Den]at D;obtain⟨g,mk,hy,b1,b2,hh⟩:=H.get hk D.1;obtain⟨f1,f2,bw,f3⟩:=b6O hh (bs.map λb=>Value.int .u8 b.toNat).toArray.size;have ag:=H.upd (w':=w.freeze ⟨g,(bs.map λb=>Value.int .u8 b.toNat).toArray.size,none⟩ 1) (r':=.fb te bs) hk D.1
     ⟨f1.1,f1.2.1,f1.2.2,Nat.le_of_eq f2.1.symm,λb I hn=>f2.2 b λe=>hn (by
      subst e;simp only[fp,hy,E8];rw[if_neg (by omega)])⟩ (λ_ I=>I) (λ_=>⟨g,bw,hy,b1,b2,f3⟩)
    rw[set_self hk]at ag;refine⟨_,a.eval x,ν,?_,ag,?_⟩
    ·rw[hy];have:=run_mark (P:=E.P) w s e g bs.length bs.length hs he hh;simp only[execOp,hy,Sem.run_bind,this];rfl
    ·simp only[Den];exact D
   ·exact h.elim
  ·exact h.elim
 | appz c t t' kn e i s x X hat ha ht ht' hi z hz hzs h0=>
  obtain⟨Y,h2,h3,h4,h⟩:=h;obtain⟨a2,⟨az⟩,⟨a0⟩⟩:=c;simp only at X hat ha;subst X hat ha;split at h
  ·rename_i n hs hx;obtain⟨⟨b0,b1,b2⟩,h⟩:=h;have al:z.cells.toList.length=i.size:=by simpa using hzs
   have am:0<z.cells.size:=by simpa using h2
   have h:K (.rv rs.length) (rs++[.row e i.size (List.replicate n.toNat (z.cells.toList.map .v))]) []:=by rw[<- al];exact h
   refine⟨_,_,_,h,V5.val λU ν a w H hF J=>?_⟩;have D:=opS rfl (J s (by simp[IOp.uses])) h3;have e2:=opS rfl (J x (by simp[IOp.uses])) h4;rw[hs]at D;rw[hx]at e2;have D:=F6 D;have e2:=F6 e2;have aL:∀n,FzL w (OO U rs ν) (List.replicate n (z.cells.toList.map C.v)).flatten (List.replicate n z.cells.toList).flatten:=λn=>by
    induction n with
    | zero=>simp[FzL]
    | succ n ih=>rw[List.replicate_succ,List.replicate_succ,List.flatten_cons,List.flatten_cons];exact(FzL.vs _).append ih
   have M:∀n,(List.replicate n z.cells.toList).flatten.length=n*i.size:=λn=>by
    rw[Q9 (sz:=i.size) (λq hq=>by rw[d0H hq];exact al),List.length_replicate]
   obtain⟨m,rfl⟩:∃m:Nat,n=m:=⟨n.toNat,by omega⟩
   simp only[d0h]at*;have aa:∀u∈(List.replicate m z.cells.toList).flatten,u.oneCell'=true:=λu N=>by
    obtain⟨q,hq,N⟩:=List.mem_flatten.1 N;rw[d0H hq]at N;exact a0P Y u N
   have B:=Lib.run_append_nil_zeros w t t' ty e i z .i64 kn ht ht' hi hz m (by omega) h0 (by omega) (by omega);have bD:=grownCap_ge w m 0 e;have aI:grownCap w m 0 e<=maxLen:=grownCap_le_maxLen w m 0 e (by simp only[maxLen];omega);have G:rowAt (w.drew.alloc (.cells (Builtin.zeroCells z.cells m++Builtin.zeroCells z.cells (grownCap w m 0 e-m)) e)) e i.size (.slice (some ⟨w.heap.size,0,none⟩) m (grownCap w m 0 e)) m (List.replicate m z.cells.toList).flatten:=by
    refine⟨M _,.inr ⟨w.heap.size,_,_,rfl,by omega,heap_alloc_new w.drew _,bD,aI,?_,?_⟩⟩
    ·simp only[Array.size_append,size_zeroCells,hzs,<- Nat.add_mul];congr 1;omega
    ·rw[Array.toList_append,show(Builtin.zeroCells z.cells m).toList=(List.replicate m z.cells.toList).flatten from a2T z.cells m am,<- M m];exact List.take_left
   have V:=H.add (w':=w.drew.alloc (.cells (Builtin.zeroCells z.cells m++Builtin.zeroCells z.cells (grownCap w m 0 e-m)) e)) (x:=.slice (some ⟨w.heap.size,0,none⟩) m (grownCap w m 0 e)) (r:=.row e i.size (List.replicate m (z.cells.toList.map .v)))
    (a2s (F:=λ_=>False) ⟨rfl,rfl,rfl,by simp,λb I _=>heap_alloc_old w.drew _ I⟩ λ_ _=>id) (λb I=>by
    simp only[fp,E8]at I;split at I
    ·cases I
    ·injection I with I;subst I;exact⟨d0m _,by simp⟩) (λT _=>⟨λq hq=>by rw[d0H hq];simpa using hzs,_,FzL.keep T (aL _),aa,by rw[List.length_replicate];exact G⟩)
   refine⟨_,.slice (some ⟨w.heap.size,0,none⟩) m (grownCap w m 0 e),_,?_,V,?_⟩
   ·simp[execOp,resolve,invoke,builtin,D,e2,B]
   ·simp only[Den];exact⟨by rw[<- H.len];simp,_,_,_,rfl⟩
  ·exact h.elim
 | clr c t e i x X hat ha ht hi z hz hzs=>
  obtain⟨Y,h3,h⟩:=h;obtain⟨a2,⟨az⟩,⟨a0⟩⟩:=c;simp only at X hat ha;subst X hat ha;split at h
  ·rename_i k sz lo n hx;split at h
   ·rename_i te z' es hk;obtain⟨⟨rfl,bK⟩,au,h⟩:=h;refine⟨_,_,_,h,V5.val λU ν a w H hF J=>?_⟩;have D:=opS rfl (J x (by simp[IOp.uses])) h3;rw[hx]at D;simp only[Den]at D;obtain⟨A,cp,hy,a5,_,hA⟩:=D;rcases d0K n with h0|h0
    ·subst h0;have bv:es.take lo++List.replicate 0 (z.cells.toList.map C.v)=es:=by simp[d0y (show es.length<=lo by omega)]
     rw[bv,set_self hk];refine⟨w,.tuple #[],ν,?_,⟨H,Mv.of_below (Below.refl _ _)⟩,by simp[Den]⟩;cases A<;>simp[execOp,resolve,invoke,builtin,hy,Builtin.clear_,run_underlying ht]
    ·obtain⟨x0,b,I,aA,rfl,_⟩:=hA (by omega);obtain⟨hl,vs,hD,aa,bG,G⟩:=H.get hk I;rcases G with⟨ba,_⟩|⟨g,cap,W,rfl,aq,hg,aM,aI,aD,aj⟩
     ·omega
     ·simp only[a5g,Option.some.injEq]at aA;subst aA;have al:z.cells.toList.length=z':=bK;have bO:0<z.cells.size\/z.cells.size=0:=by omega
      have as:(Builtin.zeroCells z.cells n).toList=(List.replicate n z.cells.toList).flatten:=by
       rcases bO with hp|hp
       ·exact a2T z.cells n hp
       ·have e0:z.cells=#[]:=Array.eq_empty_of_size_eq_zero hp;rw[e0];simp[Builtin.zeroCells]
      have aJ:(List.replicate n z.cells.toList).flatten.length=n*z':=by
       rw[Q9 (sz:=z') (λq hq=>by rw[d0H hq];exact al),List.length_replicate]
      have bq:∀u∈(List.replicate n z.cells.toList).flatten,u.oneCell'=true:=λu N=>by
       obtain⟨q,hq,N⟩:=List.mem_flatten.1 N;rw[d0H hq]at N;exact a0P Y u N
      have bC:FzL w (OO U rs ν) (List.replicate n (z.cells.toList.map C.v)).flatten (List.replicate n z.cells.toList).flatten:=by
       have:∀n,FzL w (OO U rs ν) (List.replicate n (z.cells.toList.map C.v)).flatten (List.replicate n z.cells.toList).flatten:=λn=>by
        induction n with
        | zero=>simp[FzL]
        | succ n ih=>rw[List.replicate_succ,List.replicate_succ,List.flatten_cons,List.flatten_cons];exact(FzL.vs _).append ih
       exact this n
      have aE:lo*z'+n*z'=es.length*z':=by rw[<- Nat.add_mul,au]
      have bS:es.length*z'<=W.size:=by rw[aD];exact d0M _ aM
      have bn:=run_storeCells_at (P:=E.P) g (lo*z') te (List.replicate n z.cells.toList).flatten 0 W w hg (by rw[aJ];omega) bq;rw[Nat.add_zero,aJ,aE]at bn;obtain⟨m,rfl⟩:∃m,n=m+1:=⟨n-1,by omega⟩
      have B:(Builtin.clear_ #[t] ty #[a.eval x]).run E.P w=.ok (.tuple #[]) (w.setRow g (W.toList.take (lo*z')++(List.replicate (m+1) z.cells.toList).flatten++W.toList.drop (es.length*z')).toArray):=by
       rw[hy];simp[Builtin.clear_,run_underlying ht,zeroValue,typeInfo,hi,hz,as,bn]
      have M:(es.take lo++List.replicate (m+1) (z.cells.toList.map C.v)).length=es.length:=by simp;omega
      have ag:=H.upd (r':=.row te z' (es.take lo++List.replicate (m+1) (z.cells.toList.map C.v))) hk I
       (a1p (w':=w.setRow g (W.toList.take (lo*z')++(List.replicate (m+1) z.cells.toList).flatten++W.toList.drop (es.length*z')).toArray) (x:=.slice (some ⟨g,0,none⟩) 0 0) ⟨rfl,rfl,rfl,by simp,λk _ hk=>setRow_other w g k _ (λe=>hk (by rw[e];rfl))⟩ (λb' R=>by simp only[Value.ownBlock]at R;simp only[fp,E8];rw[if_neg (by omega)];exact R))
       (λb' ar=>ar) (λT=>by
        refine⟨λq hq=>?_,vs.take (lo*z')++(List.replicate (m+1) z.cells.toList).flatten,FzL.keep T ?_,λu N=>?_,?_⟩
        ·rcases List.mem_append.1 hq with hq|hq
         ·exact hl q (List.mem_of_mem_take hq)
         ·rw[d0H hq,d0d];exact al
        ·rw[List.flatten_append,a7b hl];exact(hD.take _).append bC
        ·rcases List.mem_append.1 N with N|N
         ·exact aa u (List.mem_of_mem_take N)
         ·exact bq u N
        ·rw[M];refine⟨by rw[d0c,d0r,aJ];omega,.inr ⟨g,cap,_,rfl,aq,setRow_heap w g _ _ te (0,0) hg,aM,aI,?_,?_⟩⟩
         ·simp only[List.size_toArray,d0c,d0r,d0L,aJ,Array.length_toList];omega
         ·have aF:W.toList.take (lo*z')=vs.take (lo*z'):=by
           rw[<- aj,List.take_take,Nat.min_eq_left (by omega)]
          have aV:(W.toList.take (lo*z')++(List.replicate (m+1) z.cells.toList).flatten).length=es.length*z':=by
           simp only[d0c,d0r,Array.length_toList,aJ];omega
          show((W.toList.take (lo*z')++(List.replicate (m+1) z.cells.toList).flatten++W.toList.drop (es.length*z')).take (es.length*z'))=_;rw[<- aV,List.take_left,aF])
      exact⟨_,.tuple #[],_,(by simp[execOp,resolve,invoke,builtin,B]),ag,by simp[Den]⟩
   ·exact h.elim
  ·exact h.elim
 | a6F t e l c i z ht hi hz hzs h0=>
  obtain⟨Y,h2,h3,h4,h⟩:=h;have am:0<z.cells.size:=by simpa using h2
  split at h
  ·rename_i lv cv hl X;obtain⟨⟨b0,b1,b2,b3⟩,h⟩:=h;have al:z.cells.toList.length=i.size:=by simpa using hzs
   have h:K (.rv rs.length) (rs++[.row e i.size (List.replicate lv.toNat (z.cells.toList.map .v))]) []:=by rw[<- al];exact h
   refine⟨_,_,_,h,V5.val λU ν a w H hF J=>?_⟩;have D:=opS rfl (J l (by simp[IOp.uses])) h3;have e2:=opS rfl (J c (by simp[IOp.uses])) h4;rw[hl]at D;rw[X]at e2;have D:=F6 D;have e2:=F6 e2;have aL:∀n,FzL w (OO U rs ν) (List.replicate n (z.cells.toList.map C.v)).flatten (List.replicate n z.cells.toList).flatten:=λn=>by
    induction n with
    | zero=>simp[FzL]
    | succ n ih=>rw[List.replicate_succ,List.replicate_succ,List.flatten_cons,List.flatten_cons];exact(FzL.vs _).append ih
   have M:∀n,(List.replicate n z.cells.toList).flatten.length=n*i.size:=λn=>by
    rw[Q9 (sz:=i.size) (λq hq=>by rw[d0H hq];exact al),List.length_replicate]
   have aF:((List.replicate cv.toNat z.cells.toList).flatten.take (lv.toNat*i.size))=(List.replicate lv.toNat z.cells.toList).flatten:=by
    have:List.replicate cv.toNat z.cells.toList=List.replicate lv.toNat z.cells.toList++List.replicate (cv.toNat-lv.toNat) z.cells.toList:=by
     rw[List.replicate_append_replicate];congr 1;omega
    rw[this,List.flatten_append,<- M lv.toNat];exact List.take_left
   have aa:∀u∈(List.replicate lv.toNat z.cells.toList).flatten,u.oneCell'=true:=λu N=>by
    obtain⟨q,hq,N⟩:=List.mem_flatten.1 N;rw[d0H hq]at N;exact a0P Y u N
   have G:rowAt (w.alloc (.cells (List.replicate cv.toNat z.cells.toList).flatten.toArray e)) e i.size (.slice (some ⟨w.heap.size,0,none⟩) lv.toNat cv.toNat) lv.toNat (List.replicate lv.toNat z.cells.toList).flatten:=by
    refine⟨M _,?_⟩;rcases d0K cv.toNat with aq|aq
    ·exact .inl ⟨by omega,_,by rw[aq];congr 1;omega⟩
    ·exact .inr ⟨w.heap.size,_,_,rfl,aq,heap_alloc_new w _,by omega,by simp only[maxLen];omega,by rw[List.size_toArray,M],aF⟩
   have V:=H.add (w':=w.alloc (.cells (List.replicate cv.toNat z.cells.toList).flatten.toArray e)) (x:=.slice (some ⟨w.heap.size,0,none⟩) lv.toNat cv.toNat) (r:=.row e i.size (List.replicate lv.toNat (z.cells.toList.map .v))) (V8 w _) (λb I=>by
    simp only[fp,E8]at I;split at I
    ·cases I
    ·injection I with I;subst I;exact⟨d0m _,by simp⟩) (λT _=>⟨λq hq=>by rw[d0H hq];simpa using hzs,_,FzL.keep T (aL _),aa,by rw[List.length_replicate];exact G⟩)
   refine⟨w.alloc (.cells (List.replicate cv.toNat z.cells.toList).flatten.toArray e),.slice (some ⟨w.heap.size,0,none⟩) lv.toNat cv.toNat,_,?_,V,?_⟩
   ·have a6:(zeroValue e).run E.P w=.ok z w:=by simp[zeroValue,typeInfo,hi,hz]
    have as:=a2T z.cells cv.toNat am;rw[hzs]at as;have a1:((Array.range (cv.toNat*i.size)).map λj=>z.cells[j%z.cells.size]!)=(List.replicate cv.toNat z.cells.toList).flatten.toArray:=by
     apply Array.ext';rw[hzs,as]
    have ar:(i.bytes:Int)*cv<=281474976710656:=by
     have h3:(((i.bytes*cv.toNat:Nat):Int))<=140737488355328:=by rw[Nat.mul_comm];omega
     rw[Int.natCast_mul,show((cv.toNat:Nat):Int)=cv by omega]at h3;omega
    have B:=run_make (P:=E.P) w t e i z ht hi hz .i64 .i64 lv cv b0 b1 ar (by omega);unfold madeCells at B;rw[a1]at B;simp only[execOp,D,e2,Sem.run_bind,B];rfl
   ·simp only[Den];exact⟨by rw[<- H.len];simp,_,_,_,rfl⟩
  ·exact h.elim
 | _=>exact(h:False).elim
end
def W9(E:Ctx)(rs:List Res)(p:Bool)(f:Nat)(args:List C)(r:C):Prop:=
 p=true->∀av ν w vs,RG av E.own0 E.w0.heap.size ν rs w->(∀b,E.av b->av b)->Frm E.own0 E.w0 w->l6 ν w (OO av rs ν) args vs ->
  Calls E.P f vs.toArray w λe h=>∃y,e=.returned y/\Below w.heap.size w h/\Den ν h (OO av rs ν) r y
def b1D:IOp->Bool
 | .alloc _ _=>true
 | .box _ _=>true
 | .bsl _ _ _ _ _=>true
 | .a5t _=>true
 | .a6F _ _ _ _ _=>true
 | .store _ _ _=>true
 | .call _ _=>true
 | .Z4 _ _=>true
 | .app _ _ _ _ _=>true
 | .apps _ _ _=>true
 | .appz _ _ _ _ _=>true
 | .bytes _ _=>true
 | .clr _ _=>true
 | .mark _=>true
 | .mkmap _=>true
 | .mupd _ _ _ _=>true
 | _=>false
def KE(E:Ctx)(st:St)(d:Option Nat)(K:St->Prop)(s:C)(rs':List Res)(pk:List Nat):Prop:=a5s E pk/\K ⟨U5 (a0R pk st.fr) d s,rs'⟩
def KP(st:St)(d:Option Nat)(K:St->Prop)(s:C):Prop:=K ⟨U5 st.fr d s,st.rs⟩
def KPg(st:St)(p:Bool)(d:Option Nat)(K:St->Prop)(s:C):Prop:=K ⟨U5 st.fr d (.g p s),st.rs⟩
def KU(st:St)(d:Option Nat)(K:St->Prop):Prop:=K ⟨U5 st.fr d (.v undef),st.rs⟩
def c4L(E:Ctx)(st:St)(p:Bool)(f:Nat)(args:List C)(d:Option Nat)(K:St->Prop):Prop:=
 (p=true/\j5 E st.rs f args (KE E st d K))\/(p=false/\KU st d K)\/∃r,W9 E st.rs p f args r/\KPg st p d K r
def a1F(E:Ctx)(st:St)(p:Bool)(f:Nat)(args:List C)(ok:Prop)(d:Option Nat)(K:St->Prop):Prop:=(p=false/\KU st d K)\/ok/\c4L E st p f args d K
def evU(E:Ctx)(st:St)(d:Option Nat)(o:IOp)(K:St->Prop):Prop:=
 match b1D o with
 | true=>evE E (opv st.fr) st.rs o (KE E st d K)
 | false=>G9 (opv st.fr) st.rs true o (KP st d K)
def evG(E:Ctx)(st:St)(p:Bool)(d:Option Nat)(o:IOp)(K:St->Prop):Prop:=
 match o with
 | .call f args=>a1F E st p f (a1U (opv st.fr) args) (a4j p (opv st.fr) args) d K
 | .Z4 x args=>match strip (opv st.fr x) with
  | .v (.func (.func f) ⟨[]⟩ ⟨caps⟩)=>a1F E st p f (a1U (opv st.fr) args++caps.map .v) (req p (opv st.fr x)/\a4j p (opv st.fr) args/\callable E.P f=true) d K
  | .clo f caps=>a1F E st p f (a1U (opv st.fr) args++caps) (req p (opv st.fr x)/\a4j p (opv st.fr) args/\callable E.P f=true) d K
  | _=>p=false/\KU st d K
 | o=>match b1D o with
  | true=>(p=true->evE E (opv st.fr) st.rs o (KE E st d K))/\(p=false->KU st d K)
  | false=>G9 (opv st.fr) st.rs p o (KPg st p d K)
def ev1(E:Ctx)(o:G6)(st:St)(K:St->Prop):Prop:=
 match o.guard with
 | none=>evU E st o.dst o.op K
 | some (s,want)=>match slot st.fr s with
  | .v (.bool b)=>evG E st (b==want) o.dst o.op K
  | .g q (.v (.bool b))=>evG E st (q&&(b==want)) o.dst o.op K
  | _=>False
def ev(E:Ctx):List G6->St->(St->Prop)->Prop
 | [],st,K=>K st
 | o::r,st,K=>ev1 E o st λst'=>ev E r st' K
def KR(E:Ctx)(r:List G6)(K:St->Prop)(st:St):Prop:=ev E r st K
def c8u(E:Ctx)(st:St)(K:St->Prop):ev E [] st K=K st:=rfl
def c5Y(E:Ctx)(o:G6)(r:List G6)(st:St)(K:St->Prop):ev E (o::r) st K=ev1 E o st (KR E r K):=rfl
section
variable {E:Ctx} {ν:List Value} {st:St} {a:Act} {w:World} {rs:List Res}
def RG.hr{av own0:Nat->Prop}{n0:Nat}(h:RG av own0 n0 ν rs w):HR ν w (OO av rs ν) rs:=λk r u=>h.res k r u
def a2H(h:Good E ν st a w)(x:Operand):Den ν w (OO E.av st.rs ν) (opv st.fr x) (a.eval x):=by
 rw[b8u];exact c1y x λt _=>h.fr t
def a3r(h:Good E ν st a w){d:Option Nat}(A:a1I E.N d=true){s:C}{y:Value}(u:Den ν w (OO E.av st.rs ν) s y):Good E ν ⟨U5 st.fr d s,st.rs⟩ (a.put d y) w:=by
 show L9 E ν (slot (U5 st.fr d s)) st.rs (a.put d y) w;rw[Y8];exact L9.put h A u
def b4Q(h:Good E ν st a w){d:Option Nat}(A:a1I E.N d=true){s:C}{y:Value}{rs':List Res}{pk:List Nat}{u:List Value}{w':World}(hr:RG E.av E.own0 E.w0.heap.size u rs' w')(F:Mv st.rs ν w pk rs' u w')
  (D:Den u w' (OO E.av rs' u) s y) (B:a5s E pk):Good E u ⟨U5 (a0R pk st.fr) d s,rs'⟩ (a.put d y) w':=by
 show L9 E u (slot (U5 (a0R pk st.fr) d s)) rs' (a.put d y) w';rw[Y8];refine L9.put ?_ A D;have:=L9.mv h hr F B;have e:slot (a0R pk st.fr)=λt=>(slot st.fr t).y9 pk:=funext λt=>a5z pk t st.fr;rw[e];exact this
def b5t{u:Oper}{G:IOp}(F:Is E.P u.type u.op G)(R:a1I E.N u.dst=true){K:St->Prop}(h:evE E (opv st.fr) st.rs G (KE E st u.dst K))(B:Good E ν st a w)
    {D:Act->World->Prop} {Q:Exit->Act->World->Prop} (O:∀st' ν' a' w',K st'->Good E ν' st' a' w'->D a' w'):u.wp E.P a w D Q:=by
  obtain⟨s,T,U,H,A⟩:=b2P F h;refine A E.av ν a w B.rg (λ_ I=>I) B.frm (λx _=>a2H B x) D Q λy ν' w' hr M J=>?_;exact O _ ν' _ _ H.2 (b4Q B R hr M J H.1)
def b2L{u:Oper}{H:IOp}(F:Is E.P u.type u.op H)(V:a1I E.N u.dst=true){p:Bool}{J:C->Prop}{K:St->Prop}{wr:C->C}(M:∀s,J s->K ⟨U5 st.fr u.dst (wr s),st.rs⟩)(D:∀s y,Den ν w (OO E.av st.rs ν) s y->Den ν w (OO E.av st.rs ν) (wr s) y)
    (h:G9 (opv st.fr) st.rs p H J) (G:Good E ν st a w) (R:p=true)
    {I:Act->World->Prop} {Q:Exit->Act->World->Prop} (U:∀st' ν' a' w',K st'->Good E ν' st' a' w'->I a' w'):u.wp E.P a w I Q:=by
  obtain⟨s,O,T⟩:=a4N F h;obtain⟨y,B,A⟩:=T ν a w _ G.rg.hr (λx _=>a2H G x) R;unfold Oper.wp;rw[A];exact U _ ν _ _ (M s O) (a3r G V (D s y B))
def b9R{u:Oper}{D:IOp}(A:Is E.P u.type u.op D)(H:a1I E.N u.dst=true){K:St->Prop}(h:evU E st u.dst D K)(F:Good E ν st a w)
    {B:Act->World->Prop} {Q:Exit->Act->World->Prop} (G:∀st' ν' a' w',K st'->Good E ν' st' a' w'->B a' w'):u.wp E.P a w B Q:=by
  unfold evU at h;split at h
  · exact b5t A H h F G
  · exact b2L (wr:=id) A H (λs I=>I) (λs y h=>h) h F rfl G
def a8I{O:Nat->Prop}{p:Bool}{s:C}(u:p=false):Den ν w O (.g p s) undef:=by
 unfold Den;exact⟨λh=>(by rw[u]at h;cases h),λ_=>rfl⟩
def a8h{O:Nat->Prop}{p:Bool}{s:C}{y:Value}(u:p=true)(h:Den ν w O s y):Den ν w O (.g p s) y:=by
 unfold Den;exact⟨λ_=>h,λh=>(by rw[u]at h;cases h)⟩
def b2j(b:Bool):undef≠.bool b:=by intro h;cases h
def b9F{ov:Operand->C}{p:Bool}{A:Oper}{D:IOp}(u:Is E.P A.type A.op D){B:C->Prop}(h:G9 ov rs p D B):∃s,B s:=by
 obtain⟨s,F,_⟩:=a4N u h;exact⟨s,F⟩
def a8v{sf:Nat->C}{ops:Array Oper}{j s:Nat}(E:(ops[j]?).bind (·.dst)=some s){O:Nat->Prop}(u:Den ν w O (sf s) (a.tmps.getD s undef)) :
  (∀b,sf s=.v (.bool b)->yielded ops a.tmps j=some b)/\(∀q b,sf s=.g q (.v (.bool b))->(q=true->yielded ops a.tmps j=some b)/\(q=false->yielded ops a.tmps j=none)):=by
 have D:∀b,a.tmps.getD s undef=.bool b->yielded ops a.tmps j=some b:=by
  intro b h;unfold yielded;simp only[E,Option.bind_some];rw[Array.getD_eq_getD_getElem?]at h;cases A:a.tmps[s]? with
  | none=>rw[A]at h;exact absurd h (b2j b)
  | some x=>rw[A]at h;simp at h;subst h;rfl
 have F:a.tmps.getD s undef=undef->yielded ops a.tmps j=none:=by
  intro h;unfold yielded;simp only[E,Option.bind_some];rw[Array.getD_eq_getD_getElem?]at h;cases A:a.tmps[s]? with
  | none=>rfl
  | some x=>rw[A]at h;simp at h;subst h;rfl
 refine⟨λb h=>?_,λq b h=>?_⟩
 ·rw[h]at u;exact D b (by simpa only[Den] using u)
 ·rw[h]at u;simp only[Den]at u;exact⟨λB=>D b (u.1 B),λB=>F (u.2 B)⟩
def a8e{ops:Array Oper}{o:Oper}{j:Nat}{h:Bool}(A:o.guard=some (j,h))(u:Array Value):Region.wanted o (yielded ops u)=(yielded ops u j==some h):=by
 simp[Region.wanted,A]
def a1i{P:Program}{N:Nat}{ops:Array Oper}{o:Oper}{A:G6}(h:a3u P N ops o=some A) :
  a1I N o.dst=true/\Is P o.type o.op A.op/\A.dst=o.dst /\
   ((o.guard=none/\A.guard=none)\/∃j s want,o.guard=some (j,want)/\A.guard=some (s,want)/\(ops[j]?).bind (·.dst)=some s):=by
 unfold a3u at h;split at h
 ·rename_i F;split at h
  ·rename_i G g D u;injection h with h;subst h;refine⟨F,c5m D,rfl,?_⟩;unfold b3g at u;split at u
   ·injection u with u;subst u;exact .inl ⟨by assumption,rfl⟩
   ·rename_i j want B;split at u
    ·rename_i s E;injection u with u;subst u;exact .inr ⟨j,s,want,B,rfl,E⟩
    ·cases u
  ·cases h
 ·cases h
def a7q{G:Oper}(I:a1I E.N G.dst=true){p:Bool}{f:Nat}{cs:List C}{K:St->Prop}(h:c4L E st p f cs G.dst K)(B:Good E ν st a w)
    (A:p=true->∃vs:List Value,(execOp a.eval G).run E.P w=.ok (.enter f vs.toArray) w/\l6 ν w (OO E.av st.rs ν) cs vs)
    {M:Act->World->Prop} {Q:Exit->Act->World->Prop} (H:∀st' ν' a' w',K st'->Good E ν' st' a' w'->M a' w'):if p=true then G.wp E.P a w M Q else M (a.put G.dst undef) w:=by
  rcases h with⟨u,s,W,X,D,U⟩|⟨u,D⟩|⟨r,V,D⟩
  · rw[if_pos u]
    obtain⟨vs,O,R⟩:=A u;unfold Oper.wp;rw[O];refine(U E.av ν w vs B.rg (λ_ F=>F) B.frm R).mono ?_;rintro e w' ⟨y,ν',rfl,hr,T,J⟩;exact H _ ν' _ _ D.2 (b4Q B I hr T J D.1)
  · rw[if_neg (by rw[u];simp)]
    exact H _ ν _ _ D (a3r B I (by simp[Den]))
  · cases u:p with
    | false=>
      rw[if_neg (by simp)];exact H _ ν _ _ D (a3r B I (a8I u))
    | true=>
      rw[if_pos rfl];obtain⟨vs,O,R⟩:=A u;unfold Oper.wp;rw[O];refine(V u E.av ν w vs B.rg (λ_ F=>F) B.frm R).mono ?_;rintro e w' ⟨y,rfl,F,J⟩;exact H _ ν _ _ D (a3r (L9.below B F) I (a8h u J))
def c1x{B:Oper}{X:IOp}(D:Is E.P B.type B.op X)(U:a1I E.N B.dst=true){p:Bool}{K:St->Prop}(h:evG E st p B.dst X K)(G:Good E ν st a w)
    {R:Act->World->Prop} {Q:Exit->Act->World->Prop} (T:∀st' ν' a' w',K st'->Good E ν' st' a' w'->R a' w') :
    if p=true then B.wp E.P a w R Q else R (a.put B.dst undef) w:=by
  have F:G9 (opv st.fr) st.rs p X (KPg st p B.dst K)->if p=true then B.wp E.P a w R Q else R (a.put B.dst undef) w:=λh=>by
    cases A:p with
    | false=>
      rw[if_neg (by simp)];obtain⟨s,hs⟩:=b9F D h;exact T _ ν _ _ hs (a3r G U (a8I A))
    | true=>
      rw[if_pos rfl];exact b2L (wr:=C.g p) D U (λs hs=>hs) (λs y h=>a8h A h) h G A T
  have H:((p=true->evE E (opv st.fr) st.rs X (KE E st B.dst K))/\(p=false->KU st B.dst K))->if p=true then B.wp E.P a w R Q else R (a.put B.dst undef) w:=λh=>by
    cases A:p with
    | false=>rw[if_neg (by simp)];exact T _ ν _ _ (h.2 A) (a3r G U (by simp[Den]))
    | true=>rw[if_pos rfl];exact b5t D U (h.1 A) G T
  have u:p=false->KU st B.dst K->if p=true then B.wp E.P a w R Q else R (a.put B.dst undef) w:=λA V=>by
    rw[if_neg (by rw[A];simp)];exact T _ ν _ _ V (a3r G U (by simp[Den]))
  cases X with
  | call f args=>
    rcases h with⟨A,V⟩|⟨W,h⟩
    · exact u A V
    · refine a7q U h G (λA=>?_) T
      obtain⟨dst,op,ty,pos,I,J⟩:=B;simp only at D;cases D with
      | call c f hcc M=>exact⟨_,by rw[a9p hcc,O9 M],a0b A W λx _=>a2H G x⟩
  | Z4 x args=>
    unfold evG at h;simp only at h;split at h
    · rename_i f Y Z
      rcases h with⟨A,V⟩|⟨⟨h0,W,M⟩,h⟩
      · exact u A V
      · refine a7q U h G (λA=>?_) T
        have O:=opS A (a2H G x) h0;rw[Z]at O;have O:=F6 O;obtain⟨dst,op,ty,pos,I,J⟩:=B;simp only at D;cases D with
        | Z4 c x hc=>exact⟨_,by rw[a2X hc O,O9 M],(a0b A W λx _=>a2H G x).append (l6.vs _)⟩
    · rename_i f Y Z
      rcases h with⟨A,V⟩|⟨⟨h0,W,M⟩,h⟩
      · exact u A V
      · refine a7q U h G (λA=>?_) T
        have O:=opS A (a2H G x) h0;rw[Z]at O;simp only[Den]at O;obtain⟨vs,hD,O⟩:=O;obtain⟨dst,op,ty,pos,I,J⟩:=B;simp only at D;cases D with
        | Z4 c x hc=>exact⟨_,by rw[a2X hc O,O9 M],(a0b A W λx _=>a2H G x).append hD⟩
    · exact u h.1 h.2
  | _=>first|exact F h|exact H h
theorem b5a{N:Nat}(O:E.N=N){ops:Array Oper}{Q:Exit->Act->World->Prop}{K:St->Prop}(R:∀st' ν' a' w',K st'->Good E ν' st' a' w'->Q .normal a' w') :
  ∀(l:List Oper) (H:List G6) (B:St) (ν:List Value) (a:Act) (w:World),a0z E.P N ops l=some H->ev E H B K->Good E ν B a w->wpList E.P ops Q l a w
 | [],H,B,ν,a,w,hc,h,hG=>by
  simp only[a0z,Option.some.injEq]at hc;subst hc;exact R B ν a w h hG
 | o::l,H,B,ν,a,w,hc,h,hG=>by
  simp only[a0z]at hc;split at hc
  ·rename_i io ir hio hir;injection hc with hc;subst hc;obtain⟨hd,his,hdst,hg⟩:=a1i hio;rw[<- O]at hd;have next:∀st' ν' a' w',(ev E ir st' K)->Good E ν' st' a' w'->wpList E.P ops Q l a' w':=λst' ν' a' w' M J=>b5a O R l ir st' ν' a' w' hir M J
   simp only[ev,ev1,hdst]at h;rcases hg with⟨u,A⟩|⟨j,s,F,u,A,U⟩
   ·rw[A]at h;simp only at h;unfold wpList;rw[if_pos (by simp[Region.wanted,u])];exact .inl (b9R his hd h hG next)
   ·rw[A]at h;simp only at h;obtain⟨I,D⟩:=a8v U (hG.fr s);have fin:∀p:Bool,(yielded ops a.tmps j==some F)=p->evG E B p o.dst io.op (λst'=>ev E ir st' K)->wpList E.P ops Q (o::l) a w:=by
     intro p V M;have:=c1x his hd M hG next (Q:=Q)
     unfold wpList;rw[a8e u,V];cases p with
     | true=>exact .inl (by simpa using this)
     | false=>simpa using this
    split at h
    ·rename_i b G;exact fin _ (by rw[I b G];rfl) h
    ·rename_i q b G;refine fin _ ?_ h;cases T:q with
     | true=>rw[(D q b G).1 T];rfl
     | false=>rw[(D q b G).2 T];rfl
    ·exact h.elim
  ·cases hc
end
structure Pd where
 ty:TypeId
 zero:List Value
structure TR where
 w:Nat->Option C
 pk:List Nat
 rs':Option (List Res)
 pw:Nat->Option (Option Pd)
structure SX where
 sf:Nat->C
 rs:List Res
 pend:Nat->Option Pd
def TR.step(r:TR)(x:SX):SX:=⟨λt=>(r.w t).getD ((x.sf t).y9 r.pk),r.rs'.getD x.rs,λt=>(r.pw t).getD (x.pend t)⟩
def F8(D:Nat->Bool):List TR->Nat->SX->SX
 | [],_,x=>x
 | r::l,k,x=>F8 D l (k+1) (if D k=true then r.step x else x)
structure b1f(r q:TR):Prop where
 w:∀t,r.w t=none\/q.w t=none
 rq:∀t c,r.w t=some c->c.y9 q.pk=c
 qr:∀t c,q.w t=some c->c.y9 r.pk=c
 pk:r.pk=[]\/q.pk=[]
 rs:r.rs'=none\/q.rs'=none
 pw:∀t,r.pw t=none\/q.pw t=none
def b1f.comm{r q:TR}(h:b1f r q)(x:SX):q.step (r.step x)=r.step (q.step x):=by
 unfold TR.step;simp only[SX.mk.injEq];refine⟨funext λt=>?_,?_,funext λt=>?_⟩
 ·cases hr:r.w t with
  | some c=>
   rcases h.w t with u|u
   ·rw[hr]at u;cases u
   ·rw[u];simp only[Option.getD_some,Option.getD_none];exact h.rq t c hr
  | none=>
   cases A:q.w t with
   | some c=>simp only[Option.getD_some,Option.getD_none];exact(h.qr t c A).symm
   | none=>
    simp only[Option.getD_none];rcases h.pk with u|u<;>rw[u]<;>rfl
 ·rcases h.rs with u|u<;>rw[u]<;>simp
 ·rcases h.pw t with u|u<;>rw[u]<;>simp
theorem b3D{D:Nat->Bool}{r:TR}:∀(l:List TR) (k:Nat) (x:SX),(∀j q,l[j]?=some q->D (k+j)=true->b1f r q)->F8 D l k (r.step x)=r.step (F8 D l k x)
 | [],_,_,_=>rfl
 | q::l,k,x,h=>by
  have h0:=h 0 q rfl;have E:=b3D (D:=D) (r:=r) l (k+1) (if D k=true then q.step x else x) (λj A B u=>h (j+1) A (by simpa using B) (by rw[show k+(j+1)=k+1+j by omega];exact u));simp only[F8];rw[<- E];congr 1;cases u:D k with
  | true=>simp only[if_true];exact(h0 u).comm x
  | false=>rfl
theorem a8y{D D':Nat->Bool}:∀(l:List TR) (k:Nat) (x:SX),(∀j,j<l.length->D (k+j)=D' (k+j))->F8 D l k x=F8 D' l k x
 | [],_,_,_=>rfl
 | q::l,k,x,h=>by
  simp only[F8];rw[show D k=D' k from h 0 (by simp)];exact a8y l (k+1) _ λj hj=>by rw[show k+1+j=k+(j+1) by omega];exact h (j+1) (by simp;omega)
theorem b4Y{D D':Nat->Bool}{i:Nat}{r:TR}(hi:D i=false)(hi':D' i=true)(hD:∀j,j≠i->D' j=D j):∀(l:List TR) (k:Nat) (x:SX),k<=i->l[i-k]?=some r->(∀j q,i<j->l[j-k]?=some q->D j=true->b1f r q) ->
  F8 D' l k x=r.step (F8 D l k x)
 | [],k,x,hk,hr,_=>by simp at hr
 | q::l,k,x,hk,hr,hc=>by
  simp only[F8];by_cases hki:k=i
  ·subst hki;simp at hr;subst hr;rw[hi,hi'];simp only[if_true,d0P,if_false];rw[a8y (D:=D') (D':=D) l (k+1) _ (λj _=>hD _ (by omega))];exact b3D l (k+1) x λj q' hj hd=>hc (k+1+j) q' (by omega) (by rw[show k+1+j-k=j+1 by omega];simpa using hj) hd
  ·rw[hD k hki];refine b4Y hi hi' hD l (k+1) _ (by omega) (by rw[show i-k=i-(k+1)+1 by omega]at hr;simpa using hr) λj q' hj hq hd=>?_;exact hc j q' hj (by rw[show j-k=j-(k+1)+1 by omega];simpa using hq) hd
def b7p(pk:List Nat)(c:C):c.y9 pk=c\/c.y9 pk=.junk:=by
 unfold C.y9;split
 ·exact .inl rfl
 ·cases c.a1N _<;>simp
def a8u{pk:List Nat}{c:C}(h:∀k∈pk,c.has k=false):c.y9 pk=c:=by
 unfold C.y9;split
 ·rfl
 ·have:∀(l:List Nat),(∀k∈l,c.has k=false)->c.a1N l=false:=by
   intro l
   induction l with
   | nil=>intro _;rfl
   | cons k l ih=>intro A;simp only[C.a1N];rw[A k (by simp),ih λB u=>A B (by simp[u])];rfl
  rw[this _ h];rfl
def V9:Nat->Bool:=λ_=>true
theorem a7o(D:Nat->Bool):∀(l m:List TR) (k:Nat) (x:SX),F8 D (l++m) k x=F8 D m (k+l.length) (F8 D l k x)
 | [],m,k,x=>rfl
 | r::l,m,k,x=>by
  simp only[List.cons_append,F8,d0j];rw[a7o D l m (k+1)];congr 1;omega
def a8V{D:Nat->Bool}{t:Nat}(H:Bool):∀(n:Nat) (l:List TR),l.length=n->∀(x:SX) (v:C),(F8 V9 l 0 x).sf t=v ->
 (∀(j:Nat) (r:TR),l[j]?=some r->(r.w t).isSome=true->D j=true) ->
 ((H=true/\∀(j:Nat) (r:TR),l[j]?=some r->r.pk≠[]->D j=true)\/(v≠.junk/\∀(j:Nat) (r:TR),l[j]?=some r->v.y9 r.pk=v))->(F8 D l 0 x).sf t=v:=by
 intro n
 induction n with
 | zero=>
  intro l O x v h _ _;have:l=[]:=d0I O;subst this;exact h
 | succ n N=>
  intro l O x v h P I;rcases List.eq_nil_or_concat l with J|⟨B,r,J⟩
  ·subst J;simp at O
  have J:l=B++[r]:=by rw[J,List.concat_eq_append]
  subst J;have V:B.length=n:=by simpa using O
  have N:=N B V;rw[a7o]at h ⊢;simp only[F8,d0A,V9,if_true]at h ⊢;have u:(B++[r])[B.length]?=some r:=by simp
  have A:∀{j q},B[j]?=some q->(B++[r])[j]?=some q:=λ{j q} F=>by rw[d0v (d0i.1 F).1];exact F
  cases E:r.w t with
  | some c=>
   have G:=P _ _ u (by rw[E];rfl);rw[if_pos G];simp only[TR.step,E,Option.getD_some]at h ⊢;exact h
  | none=>
   simp only[TR.step,E,Option.getD_none]at h;rcases I with⟨X,I⟩|⟨K,I⟩
   ·have M:=N x _ rfl (λj q F W=>P j q (A F) W) (.inl ⟨X,λj q F T=>I j q (A F) T⟩);by_cases G:D B.length=true
    ·rw[if_pos G];simp only[TR.step,E,Option.getD_none];rw[M];exact h
    ·rw[if_neg G,M];have:r.pk=[]:=by
      cases R:r.pk with
      | nil=>rfl
      | cons a b=>exact absurd (I _ _ u (by rw[R];simp)) G
     rw[this]at h;exact h
   ·have Y:(F8 (λ_=>true) B 0 x).sf t=v:=by
     rcases b7p r.pk ((F8 (λ_=>true) B 0 x).sf t) with U|U
     ·rw[<- U];exact h
     ·exfalso;apply K;rw[<- h];exact U
    have M:=N x v Y (λj q F W=>P j q (A F) W) (.inr ⟨K,λj q F=>I j q (A F)⟩);by_cases G:D B.length=true
    ·rw[if_pos G];simp only[TR.step,E,Option.getD_none];rw[M];exact I _ _ u
    ·rw[if_neg G];exact M
theorem a5I{D:Nat->Bool}{t:Nat}{v:C}:∀(l:List TR) (k:Nat) (x:SX),x.sf t=v->(∀j r,l[j]?=some r->D (k+j)=true->r.w t=none/\v.y9 r.pk=v)->(F8 D l k x).sf t=v
 | [],_,_,h,_=>h
 | r::l,k,x,h,hp=>by
  simp only[F8];refine a5I l (k+1) _ ?_ λj q hq hd=>hp (j+1) q (by simpa using hq) (by rw[show k+(j+1)=k+1+j by omega];exact hd);by_cases hd:D k=true
  ·rw[if_pos hd];obtain⟨h1,h2⟩:=hp 0 r rfl hd;simp only[TR.step,h1,Option.getD_none];rw[h];exact h2
  ·rw[if_neg hd];exact h
def c8f{D:Nat->Bool}:∀(l:List TR) (k:Nat) (x:SX),(∀j r,l[j]?=some r->r.rs'≠none->D (k+j)=true)->(F8 D l k x).rs=(F8 V9 l k x).rs
 | [],_,_,_=>rfl
 | r::l,k,x,h=>by
  have gen:∀(l:List TR) (k:Nat) (x y:SX),x.rs=y.rs->(∀j r,l[j]?=some r->r.rs'≠none->D (k+j)=true)->(F8 D l k x).rs=(F8 V9 l k y).rs:=by
   intro l
   induction l with
   | nil=>intro k x y h _;exact h
   | cons r l ih=>
    intro k x y h A;simp only[F8,V9,if_true];refine ih (k+1) _ _ ?_ λj q E u=>by rw[show k+1+j=k+(j+1) by omega];exact A (j+1) q (by simpa using E) u
    cases hr:r.rs' with
    | none=>split<;>simp[TR.step,hr,h]
    | some q=>have B:=A 0 r rfl (by rw[hr];simp);rw[Nat.add_zero]at B;rw[if_pos B];simp[TR.step,hr]
  exact gen (r::l) k x x rfl h
theorem b7C{D:Nat->Bool}:∀(l:List TR) (k:Nat) (x:SX),(∀j r,l[j]?=some r->D (k+j)=true->r.rs'=none)->(F8 D l k x).rs=x.rs
 | [],_,_,_=>rfl
 | r::l,k,x,h=>by
  simp only[F8];rw[b7C l (k+1) _ λj q hq hd=>h (j+1) q (by simpa using hq) (by rw[show k+(j+1)=k+1+j by omega];exact hd)];by_cases hd:D k=true
  ·rw[if_pos hd];have:=h 0 r rfl hd;simp[TR.step,this]
  ·rw[if_neg hd]
theorem b9x{D:Nat->Bool}{Pr:List Res->Prop}:∀(l:List TR) (k:Nat) (x:SX),Pr x.rs->(∀j r,l[j]?=some r->D (k+j)=true->∀q,r.rs'=some q->Pr q)->Pr (F8 D l k x).rs
 | [],_,_,h,_=>h
 | r::l,k,x,h,hh=>by
  simp only[F8];refine b9x l (k+1) _ ?_ λj q hq hd=>hh (j+1) q (by simpa using hq) (by rw[show k+(j+1)=k+1+j by omega];exact hd);split
  ·rename_i hd;cases hr:r.rs' with
   | none=>simpa[TR.step,hr] using h
   | some q=>simpa[TR.step,hr] using hh 0 r rfl (by simpa using hd) q hr
  ·exact h
theorem b5S{D:Nat->Bool}{t:Nat}:∀(l:List TR) (k:Nat) (x y:SX),x.pend t=y.pend t->(∀j r,l[j]?=some r->r.pw t≠none->D (k+j)=true)->(F8 D l k x).pend t=(F8 V9 l k y).pend t
 | [],_,_,_,h,_=>h
 | r::l,k,x,y,h,hh=>by
  simp only[F8,V9,if_true];refine b5S l (k+1) _ _ ?_ λj q hq hne=>by rw[show k+1+j=k+(j+1) by omega];exact hh (j+1) q (by simpa using hq) hne
  cases hr:r.pw t with
  | none=>split<;>simp[TR.step,hr,h]
  | some q=>have hd:=hh 0 r rfl (by rw[hr];simp);rw[Nat.add_zero]at hd;rw[if_pos hd];simp[TR.step,hr]
theorem b3u{D:Nat->Bool}{t:Nat}:∀(l:List TR) (k:Nat) (x:SX),(∀j r,l[j]?=some r->D (k+j)=true->r.pw t=none)->(F8 D l k x).pend t=x.pend t
 | [],_,_,_=>rfl
 | r::l,k,x,h=>by
  simp only[F8];rw[b3u l (k+1) _ λj q hq hd=>h (j+1) q (by simpa using hq) (by rw[show k+(j+1)=k+1+j by omega];exact hd)];by_cases hd:D k=true
  ·rw[if_pos hd];have:=h 0 r rfl hd;simp[TR.step,this]
  ·rw[if_neg hd]
section
variable {P:Program} {ops:Array Oper} {Q:Exit->Act->World->Prop} {Inv:SX->Act->World->Prop} {tr:List TR} {x0:SX}
def a5T(ops:Array Oper)(D:Nat->Bool):Prop:=∀i o,ops[i]?=some o->D i=true->∀e∈o.after,Region.binds .any e=true->D e.on=true
def b5J{h:Array Bool}{i:Nat}(H:h.size=ops.size)(G:i<ops.size)(A:h.getD i false=false)(u:∀j,j<i->h.getD j false=true)
  (E:∀i o,ops[i]?=some o->∀e∈o.after,Region.binds .any e=true->e.on<i):i∈Region.ready .any ops h:=by
 have D:ops[i]?=some ops[i]:=by simp[G]
 refine mem_ready.2 ⟨?_,ops[i],D,λe F B=>u _ (E i _ D e F B)⟩;have:i<h.size:=by omega
 simp[this]at A ⊢;exact A
def c4h(ai:tr.length=ops.size)(hb:∀i o,ops[i]?=some o->∀e∈o.after,Region.binds .any e=true->e.on<i)(bef:Nat->Nat->Prop)
 (aa:∀D,a5T ops D->∀i j,bef i j->D j=true->D i=true)
 (R:∀D i o,a5T ops D->ops[i]?=some o->(∀e∈o.after,Region.binds .any e=true->D e.on=true)->∀j,bef j i->D j=true)
 (Y:∀i j r q,i<j->tr[i]?=some r->tr[j]?=some q->¬bef i j->b1f r q)
 (ab:∀i o r D,ops[i]?=some o->tr[i]?=some r->a5T ops D->D i=false->(∀j,bef j i->D j=true)->∀(K:Act->World->Prop) a w,Inv (F8 D tr 0 x0) a w->(∀a' w',Inv (r.step (F8 D tr 0 x0)) a' w'->K a' w')->wpOp P ops Q i K a w)
 (aj:∀a w,Inv (F8 V9 tr 0 x0) a w->Q .normal a w) :
 ∀(A:Nat) (u:Array Bool) (a:Act) (w:World),u.size=ops.size->u.toList.count false=A->a5T ops (λj=>u.getD j false)->Inv (F8 (λj=>u.getD j false) tr 0 x0) a w ->
  wpAny P .any ops Q A u a w:=by
 have E:∀(u:Array Bool),u.size=ops.size->u.toList.count false=0->∀j,j<ops.size->u.getD j false=true:=by
  intro u O hc j F;have as:j<u.size:=by omega
  have W:u[j]≠false:=λe=>by
   have:false∈u.toList:=by rw[<- e];simp
   exact absurd (List.count_pos_iff.2 this) (by omega)
  simp[as];cases hv:u[j] with|true=>rfl|false=>exact absurd hv W
 have fin:∀(u:Array Bool) (a:Act) (w:World),u.size=ops.size->u.toList.count false=0->Inv (F8 (λj=>u.getD j false) tr 0 x0) a w->Q .normal a w:=by
  intro u a w O hc hI;refine aj a w ?_;rwa[a8y (D:=λj=>u.getD j false) (D':=V9) tr 0 x0 (λj F=>by simp only[d0A,V9];exact E u O hc j (by omega))]at hI
 intro A
 induction A with
 | zero=>
  intro u a w O hc I hI;refine⟨?_,fin u a w O hc hI⟩;apply List.eq_nil_iff_forall_not_mem.2;intro i T;obtain⟨H,o,ho,_⟩:=mem_ready.1 T;have J:i<ops.size:=(Array.getElem?_eq_some_iff.1 ho).1;have:=E u O hc i J;have G:i<u.size:=by omega
  simp[G]at this H;rw[this]at H;cases H
 | succ A ih=>
  intro u a w O hc I hI;refine⟨λal=>?_,λi T=>?_⟩
  ·exfalso;have ac:false∈u.toList:=List.count_pos_iff.1 (by omega);have ap:∃i,i<ops.size/\u.getD i false=false:=by
    obtain⟨i,T,N⟩:=List.getElem_of_mem ac;refine⟨i,by simpa[<- O] using T,?_⟩;have:i<u.size:=by simpa using T
    simp[this];simpa using N
   obtain⟨i,T,am⟩:∃i,(i<ops.size/\u.getD i false=false)/\∀j,j<i->¬(j<ops.size/\u.getD j false=false):=by
    obtain⟨i0,h0⟩:=ap
    induction i0 using Nat.strongRecOn with
    | _ i0 ih2=>
     by_cases h:∃j,j<i0/\(j<ops.size/\u.getD j false=false)
     ·obtain⟨j,F,Z⟩:=h;exact ih2 j F Z
     ·exact⟨i0,h0,λj F Z=>h ⟨j,F,Z⟩⟩
   have hr:=b5J O T.1 T.2 (λj F=>by
    cases hg:u.getD j false with
    | true=>rfl
    | false=>exact absurd ⟨by omega,hg⟩ (am j F)) hb
   rw[al]at hr;cases hr
  ·obtain⟨H,o,ho,V⟩:=mem_ready.1 T;have J:i<ops.size:=(Array.getElem?_eq_some_iff.1 ho).1;have G:i<u.size:=by omega
   have B:u.getD i false=false:=by simp[G]at H ⊢;exact H
   obtain⟨r,hr⟩:∃r,tr[i]?=some r:=⟨tr[i],by simp[ai,J]⟩
   have an:=R _ i o I ho (λe N ao=>V e N ao);refine ab i o r _ ho hr I B an _ a w hI λa' w' ar=>?_;have X:(u.setIfInBounds i true).getD i false=true:=by simp[G]
   have U:∀j,j≠i->(u.setIfInBounds i true).getD j false=u.getD j false:=λj W=>getD_set_ne false (Ne.symm W);refine ih (u.setIfInBounds i true) a' w' (by simpa using O) ?_ ?_ ?_
   ·have:u.toList.count false=(u.setIfInBounds i true).toList.count false+1:=by
     rw[Array.toList_setIfInBounds];have ah:i<u.toList.length:=by simpa using G
     have N:u.toList[i]=false:=by simp[G]at B;simpa using B
     have h1:=List.count_set (l:=u.toList) (a:=true) (b:=false) ah;rw[N]at h1;have av:0<u.toList.count false:=List.count_pos_iff.2 (by rw[<- N];exact d0z ah);rw[show(false==false)=true from rfl,show(true==false)=false from rfl]at h1;simp only[if_true,d0P,if_false]at h1;omega
    omega
   ·intro j oj F aq e N ae;by_cases af:j=i
    ·subst af;rw[ho]at F;injection F with F;subst F;by_cases M:e.on=j
     ·rw[M];exact X
     ·show(u.setIfInBounds j true).getD e.on false=true;rw[U _ M];exact V e N ae
    ·have ak:u.getD j false=true:=by rw[<- U j af];exact aq
     by_cases M:e.on=i
     ·rw[M];exact X
     ·show(u.setIfInBounds i true).getD e.on false=true;rw[U _ M];exact I j oj F ak e N ae
   ·rw[b4Y (D:=λj=>u.getD j false) (D':=λj=>(u.setIfInBounds i true).getD j false) (r:=r) B X U tr 0 x0 (d0k _) (by simpa using hr) (λj q au hq hd=>Y i j r q au hr (by simpa using hq) λag=>?_)]
    ·exact ar
    ·have:=aa _ I i j ag hd;rw[B]at this;cases this
end
def a1H(E:Ctx)(rs:List Res)(p:Bool)(f:Nat)(args:List C)(K:C->Prop):Prop:=∃r,W9 E rs p f args r/\K r
def evQ(E:Ctx)(ov:Operand->C)(rs:List Res)(p:Bool)(o:IOp)(K:C->Prop):Prop:=
 match o with
 | .call f args=>a4j p ov args/\a1H E rs p f (a1U ov args) K
 | .Z4 x args=>req p (ov x)/\a4j p ov args/\match strip (ov x) with
  | .v (.func (.func f) ⟨[]⟩ ⟨caps⟩)=>callable E.P f=true/\a1H E rs p f (a1U ov args++caps.map .v) K
  | .clo f caps=>callable E.P f=true/\a1H E rs p f (a1U ov args++caps) K
  | _=>False
 | .bsl _ sz n zero parts=>a0g zero=true/\zero.length=sz/\0<sz/\a8F p ov parts/\a7g n sz (K9 ov parts)/\(n*sz<=16777216/\n<=16777216)/\K (.sl sz (K8 (List.replicate n (zero.map .v)) (K9 ov parts)))
 | .a5t _=>K .nl
 | .a6F _ bytes zero l c=>a0g zero=true/\0<zero.length/\req p (ov l)/\req p (ov c)/\match strip (ov l),strip (ov c) with
  | .v (.int .i64 l),.v (.int .i64 c)=>(p=true->0<=l/\l<=c/\c<=140737488355328/\c.toNat*bytes<=140737488355328)/\K (.sl zero.length (List.replicate l.toNat (zero.map .v)))
  | _,_=>False
 | o=>G9 ov rs p o K
def KgP(p:Bool)(K:C->Prop)(s:C):Prop:=K (.g p s)
def b2l(E:Ctx)(fr:List (Nat×C))(rs:List Res)(o:G6)(K:C->Prop):Prop:=
 match o.guard with
 | none=>evQ E (opv fr) rs true o.op K
 | some (s,want)=>match slot fr s with
  | .v (.bool b)=>evQ E (opv fr) rs (b==want) o.op (KgP (b==want) K)
  | .g q (.v (.bool b))=>evQ E (opv fr) rs (q&&(b==want)) o.op (KgP (q&&(b==want)) K)
  | _=>False
def b2p(ov:Operand->C)(rs:List Res)(p:Bool)(o:IOp)(K:C->Prop):Prop:=
 match o with
 | .bsl _ sz n zero parts=>a0g zero=true/\zero.length=sz/\0<sz/\a8F p ov parts/\a7g n sz (K9 ov parts)/\(n*sz<=16777216/\n<=16777216)/\K (.sl sz (K8 (List.replicate n (zero.map .v)) (K9 ov parts)))
 | o=>G9 ov rs p o K
def a8A(fr:List (Nat×C))(rs:List Res)(o:G6)(K:C->Prop):Prop:=
 match o.guard with
 | none=>b2p (opv fr) rs true o.op K
 | some (s,want)=>match slot fr s with
  | .v (.bool b)=>b2p (opv fr) rs (b==want) o.op (KgP (b==want) K)
  | .g q (.v (.bool b))=>b2p (opv fr) rs (q&&(b==want)) o.op (KgP (q&&(b==want)) K)
  | _=>False
def C.nj:C->Bool
 | .junk=>false
 | _=>true
def opsV(fr:List (Nat×C))(o:G6):List C:=o.op.uses.map (opv fr)++(match o.guard with
 | some (s,_)=>[slot fr s]
 | none=>[])
def njL:List C->Bool
 | []=>true
 | c::r=>c.nj&&njL r
def a5C(pk:List Nat):List C->Bool
 | []=>true
 | c::r=>!(c.a1N pk)&&a5C pk r
def leC:List C->List C->Prop
 | [],[]=>True
 | .junk::a,_::b=>leC a b
 | c::a,d::b=>c=d/\leC a b
 | _,_=>False
theorem Q6:∀cs:List C,leC cs cs
 | []=>trivial
 | c::cs=>by cases c<;>simp only[leC,true_and]<;>exact Q6 cs
def J7:List Res->List Res->Prop
 | [],_=>True
 | .gone::h,_::r=>J7 h r
 | .box t cs::h,.box t' cs'::r=>(t=t'/\leC cs cs')/\J7 h r
 | x::h,y::r=>x=y/\J7 h r
 | _::_,[]=>False
def a3j(t:Nat):List (Nat×Pd)->Option Pd
 | []=>none
 | (s,p)::r=>bif s==t then some p else a3j t r
def rmP(t:Nat):List (Nat×Pd)->List (Nat×Pd)
 | []=>[]
 | (s,p)::r=>bif s==t then rmP t r else(s,p)::rmP t r
structure DS where
 fr:List (Nat×C)
 rs:List Res
 pend:List (Nat×Pd)
 fv:List C
 pk:List Nat
def KQd(x:DS)(d:Option Nat)(K:DS->Prop)(s:C):Prop:=K { x with fr:=U5 x.fr d s }
def KFd(x:DS)(d:Option Nat)(o:G6)(K:DS->Prop)(s:C):Prop:=K { x with fr:=U5 x.fr d s,fv:=s::(opsV x.fr o++x.fv) }
def KLd(x:DS)(d:Option Nat)(o:G6)(K:DS->Prop)(s:C):Prop:=K { x with fr:=U5 x.fr d s,fv:=opsV x.fr o++x.fv }
def KMd(x:DS)(d:Option Nat)(o:G6)(K:DS->Prop)(s:C):Prop:=a5C x.pk [s]=true/\K { x with fr:=U5 x.fr d s,fv:=opsV x.fr o++x.fv }
def KEd(E:Ctx)(hid:List Res)(cl sk:Bool)(x:DS)(d:Option Nat)(K:DS->Prop)(s:C)(rs':List Res)(pk:List Nat):Prop:=(sk=false->J7 hid rs')/\(cl=true->pk=[])/\a5s E pk/\K ⟨U5 (a0R pk x.fr) d s,rs',x.pend,x.fv,pk++x.pk⟩
def a8Y(E:Ctx)(hid:List Res)(t:DT)(o:G6)(x:DS)(K:DS->Prop):Prop:=
 match t with
 | .q=>b2l E x.fr x.rs o (KQd x o.dst K)
 | .f=>njL (opsV x.fr o)=true/\a8A x.fr hid o (KFd x o.dst o K)
 | .l=>njL (opsV x.fr o)=true/\a8A x.fr hid o (KLd x o.dst o K)
 | .m=>njL (opsV x.fr o)=true/\a8A x.fr hid o (KMd x o.dst o K)
 | .n=>njL (opsV x.fr o)=true/\a8A x.fr [] o (KFd x o.dst o K)
 | .a=>match o.op,o.dst with
  | .alloc t zero,some ta=>a0g zero=true/\K { x with fr:=U5 x.fr (some ta) .junk,pend:=(ta,⟨t,zero⟩)::x.pend }
  | _,_=>False
 | .e none sk=>evE E (opv x.fr) x.rs o.op (KEd E hid (a9r E.eff o.op) sk x o.dst K)
 | .e (some ta) sk=>match a3j ta x.pend with
  | some p=>evE E (opv ((ta,.bp x.rs.length 0)::x.fr)) (x.rs++[.box p.ty (p.zero.map .v)]) o.op (KEd E hid (a9r E.eff o.op) sk { x with fr:=(ta,.bp x.rs.length 0)::x.fr,pend:=rmP ta x.pend } o.dst K)
  | none=>False
def evD(E:Ctx)(hid:List Res):List DT->List G6->DS->(St->Prop)->Prop
 | [],[],x,K=>x.pend=[]/\a5C x.pk x.fv=true/\K ⟨x.fr,x.rs⟩
 | t::ts,o::r,x,K=>a8Y E hid t o x λx'=>evD E hid ts r x' K
 | _,_,_,_=>False
def KRD(E:Ctx)(hid:List Res)(ts:List DT)(r:List G6)(K:St->Prop)(x:DS):Prop:=evD E hid ts r x K
def c5S(E:Ctx)(hid:List Res)(x:DS)(K:St->Prop):evD E hid [] [] x K=(x.pend=[]/\a5C x.pk x.fv=true/\K ⟨x.fr,x.rs⟩):=rfl
def c2u(E:Ctx)(hid:List Res)(t:DT)(ts:List DT)(o:G6)(r:List G6)(x:DS)(K:St->Prop):evD E hid (t::ts) (o::r) x K=a8Y E hid t o x (KRD E hid ts r K):=rfl
section
variable {E:Ctx} {P:Program} {ν:List Value} {rs:List Res} {a:Act} {w:World} {av own0:Nat->Prop} {n0:Nat} {ov:Operand->C}
theorem b2n{O:Nat->Prop}(z:List Value):∀n,FzL w O (List.replicate n (z.map C.v)).flatten (List.replicate n z).flatten
 | 0=>by simp[FzL]
 | n+1=>by rw[List.replicate_succ,List.replicate_succ,List.flatten_cons,List.flatten_cons];exact(FzL.vs _).append (b2n z n)
def c0G{O:Nat->Prop}{e sz n c:Nat}{es:List (List C)}{us E:List Value}(T:∀b,O b->b<w.heap.size)(B:es.length=n)(J:∀q∈es,q.length=sz)(K:FzL w O es.flatten us)(P:∀u∈us,u.oneCell'=true)(V:E.take (n*sz)=us)(N:n<=c)(I:c<=maxLen) :
  Fz (w.alloc (.cells E.toArray e)) O (.sl sz es) (.slice (some ⟨w.heap.size,0,none⟩) n c):=by
 have R:Keeps O w O (w.alloc (.cells E.toArray e)):=λb G W=>⟨by simp;omega,W,Below.heap_alloc w _ b G⟩
 simp only[Fz];refine⟨_,c,by rw[B],by omega,I,λY=>⟨_,rfl,by simp,λG=>by have:=T _ G;simp at this,?_⟩⟩;have X:us.length=n*sz:=by rw[K.length,Q9 J,B]
 have A:∀(j:Nat) (v:Value),us[j]?=some v->(w.alloc (.cells E.toArray e)).cell? ((⟨w.heap.size,0,none⟩:Addr).add j)=some v:=λj v h=>by
  rw[K4,d0A,cell_of_row _ w.heap.size j _ _ _ (heap_alloc_new w _)];rw[<- V,List.getElem?_take]at h;split at h
  ·simpa using h
  ·cases h
 have H:=FzL.keep R K;refine FzE.of λk q M=>⟨J q (d0g M),?_⟩
 have F:=a3B J M;have D:FzL (w.alloc (.cells E.toArray e)) O q ((us.drop (k*sz)).take sz):=by
  have:=(H.drop (k*sz)).take sz;rwa[F]at this
 refine FzA.of D (λu U=>P u (List.mem_of_mem_drop (List.mem_of_mem_take U))) λi v h=>?_;rw[List.getElem?_take]at h;split at h
 ·rw[d0Q]at h;rw[d0A];exact A _ v h
 ·cases h
def Yq(P:Program)(ν:List Value)(w:World)(O:Nat->Prop)(a:Act)(oo:Oper)(s:C):Prop:=
 ∀(K:Act->World->Prop) (Q:Exit->Act->World->Prop),(∀y w',Below w.heap.size w w'->Den ν w' O s y->K (a.put oo.dst y) w')->oo.wp P a w K Q
def Yl.yq{O:Nat->Prop}{A:Oper}{s:C}(h:Yl P ν w O a A s):Yq P ν w O a A s:=by
 intro K Q B;obtain⟨y,D,u⟩:=h;unfold Oper.wp;rw[u];exact B y w (Below.refl _ _) D
set_option maxHeartbeats 1000000 in
theorem a9c{p:Bool}{o:IOp}{K:C->Prop}{M:Oper}(D:Is E.P M.type M.op o)(h:evQ E ov rs p o K) :
 ∃s,K s/\∀av ν (a:Act) w,RG av E.own0 E.w0.heap.size ν rs w->(∀b,E.av b->av b)->Frm E.own0 E.w0 w->(∀x∈o.uses,Den ν w (OO av rs ν) (ov x) (a.eval x))->p=true->Yq E.P ν w (OO av rs ν) a M s:=by
 have J:G9 ov rs p o K->∃s,K s/\∀av ν (a:Act) w,RG av E.own0 E.w0.heap.size ν rs w->(∀b,E.av b->av b)->Frm E.own0 E.w0 w->(∀x∈o.uses,Den ν w (OO av rs ν) (ov x) (a.eval x))->p=true->Yq E.P ν w (OO av rs ν) a M s:=λh=>by
  obtain⟨s,hs,hy⟩:=a4N D h;exact⟨s,hs,λav ν a w T _ _ G F=>(hy ν a w _ T.hr G F).yq⟩
 have A:∀(f:Nat) (cs:List C) (r:C),W9 E rs p f cs r->K r->(∀av ν (a:Act) w,(∀x∈o.uses,Den ν w (OO av rs ν) (ov x) (a.eval x))->p=true->∃vs:List Value,(execOp a.eval M).run E.P w=.ok (.enter f vs.toArray) w/\l6 ν w (OO av rs ν) cs vs) ->
  ∃s,K s/\∀av ν (a:Act) w,RG av E.own0 E.w0.heap.size ν rs w->(∀b,E.av b->av b)->Frm E.own0 E.w0 w->(∀x∈o.uses,Den ν w (OO av rs ν) (ov x) (a.eval x))->p=true->Yq E.P ν w (OO av rs ν) a M s:=λf cs r Z hk B=>
  ⟨r,hk,λav ν a w T W hF G F K' Q hK=>by
   obtain⟨vs,U,h2⟩:=B av ν a w G F;unfold Oper.wp;rw[U];refine(Z F av ν w vs T W hF h2).mono ?_;rintro e w' ⟨y,rfl,V,hd⟩;exact hK y w' V hd⟩
 have ag:∀{av ν w},RG av E.own0 E.w0.heap.size ν rs w->∀b,OO av rs ν b->b<w.heap.size:=λT b V=>by
  rcases V with V|V
  ·exact T.av b V
  ·exact(T.low b V).1
 cases o with
 | call f args=>
  obtain⟨U,r,Z,hk⟩:=h;refine A f _ r Z hk λav ν a w G F=>?_;obtain⟨dst,op,ty,pos,after,guard⟩:=M;simp only at D;cases D with
  | call c f hcc I=>exact⟨_,by rw[a9p hcc,O9 I],a0b F U G⟩
 | Z4 x args=>
  obtain⟨h0,U,h⟩:=h;have aj:∀{av ν w} {a:Act},(∀y∈(IOp.Z4 x args).uses,Den ν w (OO av rs ν) (ov y) (a.eval y))->∀y∈args,Den ν w (OO av rs ν) (ov y) (a.eval y):=λG y hy=>G y (by simp only[IOp.uses,List.mem_cons];exact .inr hy);split at h
  ·rename_i f ak hx;obtain⟨I,r,Z,hk⟩:=h;refine A f _ r Z hk λav ν a w G F=>?_;have H:=opS F (G x (by simp[IOp.uses])) h0;rw[hx]at H;have H:=F6 H;obtain⟨dst,op,ty,pos,after,guard⟩:=M;simp only at D;cases D with
   | Z4 c x hc=>exact⟨_,by rw[a2X hc H,O9 I],(a0b F U (aj G)).append (l6.vs _)⟩
  ·rename_i f ak hx;obtain⟨I,r,Z,hk⟩:=h;refine A f _ r Z hk λav ν a w G F=>?_;have H:=opS F (G x (by simp[IOp.uses])) h0;rw[hx]at H;simp only[Den]at H;obtain⟨vs,hD,H⟩:=H;obtain⟨dst,op,ty,pos,after,guard⟩:=M;simp only at D;cases D with
   | Z4 c x hc=>exact⟨_,by rw[a2X hc H,O9 I],(a0b F U (aj G)).append hD⟩
  ·exact h.elim
 | bsl e sz0 n zero0 ps0=>
  obtain⟨dst,op,ty,pos,after,guard⟩:=M;simp only at D;cases D with
  | bsl t _ _ ps i z ht hi hz hn hzs=>
  obtain⟨U,az,ao,h2,X,⟨h5,h6⟩,h⟩:=h;have N:0<z.cells.size:=by rw[hzs];exact ao
  obtain⟨aw,ap⟩:=a8d h2;have ay:∀q∈List.replicate n (z.cells.toList.map C.v),q.length=i.size:=λq hq=>by rw[d0H hq];simpa using hzs
  obtain⟨p1,p2,p3,p4⟩:=a8m (K9 ov ps.toList) (List.replicate n (z.cells.toList.map C.v)) n (by simp) ay (a5L X);refine⟨_,h,λav ν a w T W hF G F=>?_⟩;obtain⟨us,hf,hD⟩:=a4Q (ν:=ν) (w:=w) (O:=OO av rs ν) (λj=>some (j*i.size,i.size)) (ps.toList.map λ(j,x)=>(j,a.eval x)) ((K9 ov ps.toList).map λ(j,c)=>(j*i.size,i.size,c)) _ _
   (by simp[aw]) (λj f v hj=>by
    simp only[d0q,Option.map_eq_some_iff]at hj;obtain⟨⟨f',x⟩,hj,he⟩:=hj;simp only[Prod.mk.injEq]at he;obtain⟨rfl,rfl⟩:=he;obtain⟨as,ai⟩:=ap j _ x hj;have ac:x∈(IOp.bsl e i.size n z.cells.toList ps.toList).uses:=List.mem_map.2 ⟨_,d0g hj,rfl⟩;exact⟨_,_,_,by rw[d0q,ai];rfl,rfl,a2L (opS F (G x ac) as) (a9m (a5L X) j _ _ ai)⟩) ((b2n z.cells.toList n).den ν) p2
  rw[p1]at hD;have I:C.clL (K8 (List.replicate n (z.cells.toList.map C.v)) (K9 ov ps.toList)).flatten=true:=b8g (a7x X λe he=>by rw[d0H he];exact c4I _);have an:C.ones (K8 (List.replicate n (z.cells.toList.map C.v)) (K9 ov ps.toList)).flatten=true:=a9n (a3n (a5L X) λe he=>by rw[d0H he];exact b7L U);have aq:us.length=n*i.size:=by rw[hD.length,Q9 p4,p3]
  have B:(execOp a.eval { dst,op:=.buildSlice t n ps,type:=ty,pos,after,guard }).run E.P w=.ok (.value (.slice (some ⟨w.heap.size,0,none⟩) n n)) (w.alloc (.cells us.toArray e)):=by
   have am:(zeroValue e).run E.P w=.ok z w:=by simp[zeroValue,typeInfo,hi,hz]
   have ax:¬n*i.size>2^24:=by omega
   have R:=a2T z.cells n N;rw[hzs]at R;have ab:((Array.range (n*i.size)).map λj=>z.cells[j%z.cells.size]!)=(List.replicate n z.cells.toList).flatten.toArray:=by
    apply Array.ext';rw[hzs,R]
   have H:(ps.map λ(i,x)=>(i,a.eval x)).toList=ps.toList.map λ(i,x)=>(i,a.eval x):=by simp
   simp only[execOp,Instr.buildSlice,Sem.run_bind,run_underlying ht w,Result.andThen_ok,sizeOf,typeInfo,run_program,hi,Sem.run_pure,ax,if_false,hn,am,ab,H,hf];simp[newRow]
  intro K' Q hK;unfold Oper.wp;rw[B];refine hK _ _ (V8 w _) ?_;refine Fz.den ν (c0G (ag T) p3 p4 (hD.fz I) (a3C hD an) ?_ (d0m _) (by simp only[maxLen];omega));rw[<- aq];exact d0w
 | a5t e=>
  obtain⟨dst,op,ty,pos,after,guard⟩:=M;simp only at D;cases D with
  | a5t t _ ps i ht hi hps=>
  have al:ps=#[]:=Array.eq_empty_of_size_eq_zero hps;subst al;refine⟨_,h,λav ν a w T W hF G F K' Q hK=>?_⟩;have B:(execOp a.eval { dst,op:=.buildSlice t 0 #[],type:=ty,pos,after,guard }).run E.P w=.ok (.value (.slice (some ⟨w.heap.size,0,none⟩) 0 0)) (w.alloc (.cells #[] e)):=by
   simp[execOp,Instr.buildSlice,run_underlying ht w,sizeOf,typeInfo,hi,Instr.fill,newRow,show(Array.range 0:Array Nat)=#[] from rfl]
  unfold Oper.wp;rw[B];exact hK _ _ (V8 w _) ⟨_,rfl⟩
 | a6F e by0 zero0 l c=>
  obtain⟨dst,op,ty,pos,after,guard⟩:=M;simp only at D;cases D with
  | a6F t _ _ _ i z ht hi hz hzs h0=>
  obtain⟨U,h2,X,h4,h⟩:=h;have N:0<z.cells.size:=by simpa using h2
  have ae:z.cells.toList.length=i.size:=by simpa using hzs
  split at h
  ·rename_i Y cv hl hc;obtain⟨V,h⟩:=h;refine⟨_,h,λav ν a w T W hF G F=>?_⟩;obtain⟨b0,b1,b2,b3⟩:=V F;have H:=opS F (G l (by simp[IOp.uses])) X;have e2:=opS F (G c (by simp[IOp.uses])) h4;rw[hl]at H;rw[hc]at e2;have H:=F6 H;have e2:=F6 e2;have af:∀n,(List.replicate n z.cells.toList).flatten.length=n*i.size:=λn=>by
    rw[Q9 (sz:=i.size) (λq hq=>by rw[d0H hq];exact ae),List.length_replicate]
   have au:((List.replicate cv.toNat z.cells.toList).flatten.take (Y.toNat*i.size))=(List.replicate Y.toNat z.cells.toList).flatten:=by
    have:List.replicate cv.toNat z.cells.toList=List.replicate Y.toNat z.cells.toList++List.replicate (cv.toNat-Y.toNat) z.cells.toList:=by
     rw[List.replicate_append_replicate];congr 1;omega
    rw[this,List.flatten_append,<- af Y.toNat];exact List.take_left
   have ah:∀u∈(List.replicate Y.toNat z.cells.toList).flatten,u.oneCell'=true:=λu hu=>by
    obtain⟨q,hq,hu⟩:=List.mem_flatten.1 hu;rw[d0H hq]at hu;exact a0P U u hu
   have R:=a2T z.cells cv.toNat N;rw[hzs]at R;have ab:((Array.range (cv.toNat*i.size)).map λj=>z.cells[j%z.cells.size]!)=(List.replicate cv.toNat z.cells.toList).flatten.toArray:=by
    apply Array.ext';rw[hzs,R]
   have ar:(i.bytes:Int)*cv<=281474976710656:=by
    have X:(((i.bytes*cv.toNat:Nat):Int))<=140737488355328:=by rw[Nat.mul_comm];omega
    rw[Int.natCast_mul,show((cv.toNat:Nat):Int)=cv by omega]at X;omega
   have B:=run_make (P:=E.P) w t e i z ht hi hz .i64 .i64 Y cv b0 b1 ar (by omega);unfold madeCells at B;rw[ab]at B;intro K' Q hK;have aa:(execOp a.eval { dst,op:=.makeSlice t l c,type:=ty,pos,after,guard }).run E.P w=.ok (.value (.slice (some ⟨w.heap.size,0,none⟩) Y.toNat cv.toNat)) (w.alloc (.cells (List.replicate cv.toNat z.cells.toList).flatten.toArray e)):=by
    simp only[execOp,H,e2,Sem.run_bind,B];rfl
   unfold Oper.wp;rw[aa];refine hK _ _ (V8 w _) ?_;rw[ae];exact Fz.den ν (c0G (ag T) (by simp) (λq hq=>by rw[d0H hq];simpa using hzs) (b2n _ _) ah au (by omega) (by simp only[maxLen];omega))
  ·exact h.elim
 | _=>exact J h
end
def trQ(d:Option Nat)(s:C):TR:=⟨λt=>if d=some t then some s else none,[],none,λ_=>none⟩
def trA(ta:Nat)(p:Pd):TR:=⟨λt=>if t=ta then some .junk else none,[],none,λt=>if t=ta then some (some p) else none⟩
def trE(d:Option Nat)(s:C)(rs':List Res)(pk:List Nat)(ad:Option (Nat×C)):TR:=
 ⟨λt=>if d=some t then some s else match ad with
  | some (ta,c)=>if t=ta then some (c.y9 pk) else none
  | none=>none,pk,some rs',λt=>match ad with
  | some (ta,_)=>if t=ta then some none else none
  | none=>none⟩
def avP(E:Ctx)(B:Nat->Nat)(pend:Nat->Option Pd)(b:Nat):Prop:=E.av b\/∃t p,pend t=some p/\B t=b
structure a5m(E:Ctx)(B:Nat->Nat)(pend:Nat->Option Pd)(a:Act)(w:World):Prop where
 cell:∀t p,pend t=some p->a.tmps.getD t undef=.pointer (some ⟨B t,0,none⟩)/\w.heap[B t]?=some (.cells p.zero.toArray p.ty (0,0))/\E.w0.heap.size<=B t/\a0g p.zero=true
 inj:∀t t' p p',pend t=some p->pend t'=some p'->t≠t'->B t≠B t'
 av0:∀b,E.av b->b<E.w0.heap.size
def b6m(E:Ctx)(x:SX)(a:Act)(w:World):Prop:=∃ν B,L9 { E with av:=avP E B x.pend } ν x.sf x.rs a w/\a5m E B x.pend a w
def a6N(P:Program)(ops:Array Oper)(Q:Exit->Act->World->Prop)(o:Oper)(K:Act->World->Prop)(a:Act)(w:World):Prop:=
 if Region.wanted o (yielded ops a.tmps) then o.wp P a w K Q\/(o.asks P a w/\LetsOut Q) else K (a.put o.dst undef) w
def Sem(E:Ctx)(ops:Array Oper)(o:Oper)(r:TR)(y:SX):Prop:=
 (∀t p,y.pend t=some p->o.dst≠some t)->∀(K:Act->World->Prop) (Q:Exit->Act->World->Prop) a w,b6m E y a w->(∀a' w',b6m E (r.step y) a' w'->K a' w')->a6N E.P ops Q o K a w
def agree(ops:Array Oper)(o:Oper)(x y:SX):Prop:=∀t∈o.looksAt ops,y.sf t=x.sf t
section
variable {E:Ctx} {ν ν':List Value} {a:Act} {w w':World}
def b7K{P:Program}{N:TypeId}{F:Op}{G:IOp}(h:Is P N F G):(∀x∈G.uses,x∈F.operands.toList)/\∀t,Operand.tmp t∈F.operands.toList->Operand.tmp t∈G.uses:=by
 cases h with
 | call c f hc hcl=>
  constructor
  ·intro x O;simp only[Op.operands,Call.operands,hc];simpa[IOp.uses] using Or.inr O
  ·intro t A;simp only[Op.operands,Call.operands,hc]at A;simpa[IOp.uses] using A
 | Z4 c x hc=>
  constructor
  ·intro y u;simp only[Op.operands,Call.operands,hc];simpa[IOp.uses] using u
  ·intro t A;simp only[Op.operands,Call.operands,hc]at A;simpa[IOp.uses] using A
 | lenS c t x hc hat ha A=>constructor<;>intro y u<;>simp_all[Op.operands,Call.operands,IOp.uses]
 | lenL c t e x hc hat ha A=>constructor<;>intro y u<;>simp_all[Op.operands,Call.operands,IOp.uses]
 | app c t e i s x hc hat ha A hi z D hzs=>constructor<;>intro y u<;>simp_all[Op.operands,Call.operands,IOp.uses]
 | cap c t e x hc hat ha A=>constructor<;>intro y u<;>simp_all[Op.operands,Call.operands,IOp.uses]
 | appz c t t' kn e i s x hc hat ha A ht' hi z D hzs h0=>constructor<;>intro y u<;>simp_all[Op.operands,Call.operands,IOp.uses]
 | clr c t e i x hc hat ha A hi z D hzs=>constructor<;>intro y u<;>simp_all[Op.operands,Call.operands,IOp.uses]
 | sub64 c f x y b hc hcl ha=>constructor<;>intro z D<;>simp_all[Op.operands,Call.operands,IOp.uses]
 | slca t e n ie x A hi=>constructor<;>intro y u<;>simpa[IOp.uses,Op.operands] using u
 | apps c t t' e i s x hc hat ha A ht' hi D hs1 hb1=>constructor<;>intro y u<;>simp_all[Op.operands,Call.operands,IOp.uses]
 | max c x y hc ha=>constructor<;>intro z D<;>simp_all[Op.operands,Call.operands,IOp.uses]
 | min c x y hc ha=>constructor<;>intro z D<;>simp_all[Op.operands,Call.operands,IOp.uses]
 | build t ps fields i z r A hi D hall hp=>
  have:r.map (·.2.2)=ps.toList.map (·.2):=by
   have H:∀(l:List (Nat×Operand)) (r:List (Nat×Nat×Operand)),partsOf P fields l=some r->r.map (·.2.2)=l.map (·.2):=by
    intro l
    induction l with
    | nil=>intro r h;simp[partsOf]at h;subst h;rfl
    | cons q l ih=>
     obtain⟨f,x⟩:=q;intro r h;simp only[partsOf]at h;split at h
     ·split at h
      ·rename_i E V hr J;injection h with h;subst h;simp[ih _ J]
      ·cases h
     ·cases h
   exact H _ _ hp
  constructor<;>intro y u<;>simp only[IOp.uses,this,Op.operands]at u ⊢<;>simpa using u
 | bsl t e n ps i z A hi D hn hzs=>constructor<;>intro y u<;>simp only[IOp.uses,Op.operands]at u ⊢<;>simpa using u
 | bnd f first B x hf hf2=>
  obtain⟨B⟩:=B;obtain⟨first⟩:=first
  simp only at hf hf2;subst hf hf2;constructor<;>intro y u<;>simp only[IOp.uses,Op.operands]at u ⊢<;>simpa using u
 | clo f first B hf=>
  have M:first=#[]:=Array.eq_empty_of_size_eq_zero hf
  subst M;constructor<;>intro y u<;>simp only[IOp.uses,Op.operands]at u ⊢<;>simpa using u
 | zcap t e x lo hi mx ie A E hb=>
  obtain⟨rfl,⟨R,rfl⟩,⟨U,rfl⟩⟩:lo=none/\(∃k,hi=some (.const (.int k 0)))/\∃k,mx=.const (.int k 0):=by
   unfold a8k at hb;split at hb
   ·rename_i T W K;injection K with K;exact⟨rfl,⟨_,rfl⟩,⟨_,K⟩⟩
   ·cases hb
  constructor<;>intro y u<;>simp[IOp.uses,Op.operands]at u ⊢<;>simp[u]
 | slcs t x lo hi A=>constructor<;>intro y u<;>cases lo<;>cases hi<;>simp[IOp.uses,Op.operands]at u ⊢<;>simpa using u
 | slcl t e ie x lo hi A E=>constructor<;>intro y u<;>cases lo<;>cases hi<;>simp[IOp.uses,Op.operands]at u ⊢<;>simpa using u
 | raw o=>constructor<;>intro y u<;>simpa[IOp.uses] using u
 | a5t t e ps i A hi hps=>
  have I:ps=#[]:=Array.eq_empty_of_size_eq_zero hps;subst I;constructor<;>intro y u<;>simp[IOp.uses,Op.operands]at u
 | mkmap t e str hk=>constructor<;>intro y u<;>simp[IOp.uses,Op.operands]at u ⊢
 | _=>constructor<;>intro y u<;>simp[IOp.uses,Op.operands]at u ⊢<;>first|exact u|simp[u]
def c0o{ops:Array Oper}{o:Oper}{t:Nat}(h:Operand.tmp t∈o.op.operands.toList):t∈o.looksAt ops:=List.mem_append_left _ (List.mem_filterMap.2 ⟨.tmp t,h,rfl⟩)
def b0i{ops:Array Oper}{o:Oper}{j s:Nat}{h:Bool}(A:o.guard=some (j,h))(u:(ops[j]?).bind (·.dst)=some s):s∈o.looksAt ops:=by
 unfold Oper.looksAt;refine List.mem_append_right _ ?_;rw[A];simp[u]
def a6A{P:Program}{ops:Array Oper}{o:Oper}{u:IOp}{fr:List (Nat×C)}{O:Nat->Prop}{sf:Nat->C}(h:Is P o.type o.op u)(D:∀t∈o.looksAt ops,sf t=slot fr t)(E:∀t,Den ν w O (sf t) (a.tmps.getD t undef)) :
  ∀x∈u.uses,Den ν w O (opv fr x) (a.eval x):=by
 intro x A;rw[b8u];refine c1y x λt B=>?_;subst B;rw[<- D t (c0o ((b7K h).1 _ A))];exact E t
def L9.re{E B:Ctx}{sf:Nat->C}{rs:List Res}(h:L9 E ν sf rs a w)(A:Below w.heap.size w w')(hP:B.P=E.P)(X:B.N=E.N)(M:B.w0=E.w0)(V:B.own0=E.own0)(J:B.nu0=E.nu0)(K:B.pk0=E.pk0)
  (F:∀b,B.av b->(E.av b\/w.heap.size<=b)/\b<w'.heap.size):L9 B ν sf rs a w':=by
 have T:Keeps (OO E.av rs ν) w (OO B.av rs ν) w':=by
  intro b u H;refine⟨d0E u A.size,λD=>?_,A.block b u⟩;rcases D with D|D
  ·rcases(F b D).1 with G|G
   ·exact H (.inl G)
   ·omega
  ·exact H (.inr D)
 refine⟨h.dfr,by rw[X];exact h.size,λt=>Den.keep T (h.fr t),⟨h.rg.len,λk r hr=>?_,h.rg.dis,λb O=>?_,λb I=>(F b I).2,?_⟩,?_,by rw[J,K];exact h.nu⟩
 ·obtain⟨x,U,R⟩:=h.rg.res k r hr;have:=N8.mv (pk:=[]) R T (λ_ _ _ h=>h) λb W=>A.block b (h.rg.lt hr U W);rw[a3T]at this;exact⟨x,U,this⟩
 ·obtain⟨G,Z,Y⟩:=h.rg.low b O;refine⟨d0E G A.size,λD=>?_,by rw[V,M];exact Y⟩;rcases(F b D).1 with h4|h4
  ·exact Z h4
  ·omega
 ·rw[M];exact d0f h.rg.n0 A.size
 ·rw[M,V];exact⟨A.os.trans h.frm.os,A.tape.trans h.frm.tape,A.output.trans h.frm.output,d0f h.frm.size A.size,λb u H=>(A.block b (d0E u h.frm.size)).trans (h.frm.block b u H)⟩
theorem a5m.put{B:Nat->Nat}{u:Nat->Option Pd}{N:Nat}(h:a5m E B u a w)(H:a.tmps.size=N){d:Option Nat}{y:Value}(K:a1I N d=true)(M:∀t p,u t=some p->d≠some t)(G:∀b,b<w.heap.size->(∃t p,u t=some p/\B t=b)->w'.heap[b]?=w.heap[b]?):a5m E B u (a.put d y) w':=by
 refine⟨λt p D=>?_,h.inj,h.av0⟩;obtain⟨I,F,J,O⟩:=h.cell t p D;refine⟨?_,(G _ (Array.getElem?_eq_some_iff.1 F).1 ⟨t,p,D,rfl⟩).trans F,J,O⟩;rw[<- I];cases d with
 | none=>rfl
 | some d=>
  have A:d<N:=by simpa[a1I] using K
  rw[a0a H A,if_neg (λe=>M t p D (by rw[e]))]
def a4w(d:Option Nat)(s:C)(y:SX):(trQ d s).step y=⟨a0T y.sf d s,y.rs,y.pend⟩:=by
 unfold trQ TR.step;simp only[Option.getD_none,SX.mk.injEq,true_and,and_true]
 funext t
 simp only[a0T];split<;>rfl
def a3K{x:SX}{B:Nat->Nat}(A:L9 { E with av:=avP E B x.pend } ν x.sf x.rs a w)(G:a5m E B x.pend a w){d:Option Nat}{s:C}{y:Value}(D:a1I E.N d=true)(H:∀t p,x.pend t=some p->d≠some t)(u:Below w.heap.size w w')
  (F:Den ν w' (OO (avP E B x.pend) x.rs ν) s y):b6m E ((trQ d s).step x) (a.put d y) w':=by
 rw[a4w];exact⟨ν,B,L9.put (L9.below A u) D F,G.put A.size D H λb h _=>u.block b h⟩
def c9A{ops:Array Oper}{o:Oper}{M:G6}{x:DS}{N:Nat}(hN:E.N=N)(hc:a3u E.P N ops o=some M){K:C->Prop}(h:b2l E x.fr x.rs M K) :
 ∃s,K s/\∀y:SX,(∀t∈o.looksAt ops,y.sf t=slot x.fr t)->y.rs=x.rs->Sem E ops o (trQ o.dst s) y:=by
 obtain⟨Y,G,aa,hg⟩:=a1i hc;rw[<- hN]at Y;unfold b2l at h;rcases hg with⟨H,J⟩|⟨j,W,T,H,J,V⟩
 ·rw[J]at h;simp only at h;obtain⟨s,hk,hY⟩:=a9c G h;refine⟨s,hk,λy D hr Z K' Q a w hI F=>?_⟩;obtain⟨ν,B,u,X⟩:=hI;unfold a6N;rw[if_pos (by simp[Region.wanted,H])];refine .inl (hY (avP E B y.pend) ν a w (by rw[<- hr];exact u.rg) (λb A=>.inl A) u.frm (by rw[<- hr];exact a6A G D u.fr) rfl K' Q λv w' A hs=>?_);exact F _ _ (a3K u X Y Z A (by rw[hr];exact hs))
 ·rw[J]at h;simp only at h;have R:∀(p:Bool),(∀(y:SX) ν (B:Nat->Nat) a w,(∀t∈o.looksAt ops,y.sf t=slot x.fr t)->L9 { E with av:=avP E B y.pend } ν y.sf y.rs a w->(yielded ops a.tmps j==some T)=p)->evQ E (opv x.fr) x.rs p M.op (KgP p K) ->
   ∃s,K s/\∀y:SX,(∀t∈o.looksAt ops,y.sf t=slot x.fr t)->y.rs=x.rs->Sem E ops o (trQ o.dst s) y:=by
   intro p hp h;obtain⟨s,hk,hY⟩:=a9c G h;refine⟨.g p s,hk,λy D hr Z K' Q a w hI F=>?_⟩;obtain⟨ν,B,u,X⟩:=hI;unfold a6N;rw[a8e H,hp y ν B a w D u];cases O:p with
   | false=>
    rw[if_neg (by simp)];refine F _ _ ?_;have:=a3K u X (y:=undef) (s:=.g p s) Y Z (Below.refl _ _) (a8I O);exact this
   | true=>
    rw[if_pos rfl];refine .inl (hY (avP E B y.pend) ν a w (by rw[<- hr];exact u.rg) (λb A=>.inl A) u.frm (by rw[<- hr];exact a6A G D u.fr) O K' Q λv w' A hs=>?_);have:=a3K u X (s:=.g p s) Y Z A (a8h O (by rw[hr];exact hs));exact F _ _ this
  have I:∀(y:SX) ν (B:Nat->Nat) a w,(∀t∈o.looksAt ops,y.sf t=slot x.fr t)->L9 { E with av:=avP E B y.pend } ν y.sf y.rs a w ->
   (∀b,slot x.fr W=.v (.bool b)->yielded ops a.tmps j=some b)/\(∀q b,slot x.fr W=.g q (.v (.bool b))->(q=true->yielded ops a.tmps j=some b)/\(q=false->yielded ops a.tmps j=none)):=by
   intro y ν B a w D u;have U:=u.fr W;rw[D W (b0i H V)]at U;exact a8v (sf:=slot x.fr) V U
  split at h
  ·rename_i b A;exact R _ (λy ν B a w D u=>by rw[(I y ν B a w D u).1 b A];rfl) h
  ·rename_i q b A;refine R _ (λy ν B a w D u=>?_) h;have:=(I y ν B a w D u).2 q b A;cases hq:q with
   | true=>rw[this.1 hq];rfl
   | false=>rw[this.2 hq];rfl
  ·exact h.elim
inductive LeR:Res->Res->Prop where
 | gone (r:Res):LeR .gone r
 | refl (r:Res):LeR r r
 | box (t:TypeId) (cs cs':List C) (h:leC cs cs'):LeR (.box t cs) (.box t cs')
theorem b4U:∀{h rs:List Res} {k:Nat} {r:Res},J7 h rs->h[k]?=some r->∃r',rs[k]?=some r'/\LeR r r'
 | [],_,_,_,_,hk=>by simp at hk
 | .gone::h,[],_,_,hs,_=>hs.elim
 | .box _ _::h,[],_,_,hs,_=>hs.elim
 | .row _ _ _::h,[],_,_,hs,_=>hs.elim
 | .map _ _::h,[],_,_,hs,_=>hs.elim
 | .fb _ _::h,[],_,_,hs,_=>hs.elim
 | x::h,y::rs,0,r,hs,hk=>by
  simp at hk;subst hk;refine⟨y,rfl,?_⟩;cases x with
  | gone=>exact .gone _
  | box t cs=>
   cases y with
   | box t' cs'=>simp only[J7]at hs;obtain⟨⟨rfl,h1⟩,_⟩:=hs;exact .box _ _ _ h1
   | _=>simp only[J7]at hs;cases hs.1
  | row e sz es=>simp only[J7]at hs;rw[<- hs.1];exact .refl _
  | map s es=>simp only[J7]at hs;rw[<- hs.1];exact .refl _
  | fb e bs=>simp only[J7]at hs;rw[<- hs.1];exact .refl _
 | x::h,y::rs,k+1,r,hs,hk=>by
  have u:J7 h rs:=by
   cases x with
   | gone=>simpa only[J7] using hs
   | box t cs=>cases y<;>(simp only[J7]at hs;exact hs.2)
   | row e sz es=>simp only[J7]at hs;exact hs.2
   | map s es=>simp only[J7]at hs;exact hs.2
   | fb e bs=>simp only[J7]at hs;exact hs.2
  obtain⟨r',h1,A⟩:=b4U (k:=k) u (by simpa using hk);exact⟨r',by simpa using h1,A⟩
theorem b7N{O:Nat->Prop}:∀{cs u:List C} {vs:List Value},leC cs u->l6 ν w O u vs->l6 ν w O cs vs
 | [],[],vs,_,h=>h
 | [],_::_,_,h,_=>by simp only[leC]at h
 | c::cs,[],_,h,_=>by cases c<;>simp only[leC]at h
 | c::cs,d::ds,vs,h,hd=>by
  simp only[l6]at hd ⊢;obtain⟨y,ys,e,h1,h2⟩:=hd;have A:Den ν w O c y/\leC cs ds:=by
   cases c with
   | junk=>simp only[leC]at h;exact⟨by simp only[Den],h⟩
   | _=>simp only[leC]at h;exact⟨h.1 ▸ h1,h.2⟩
  exact⟨y,ys,e,A.1,b7N A.2 h2⟩
def c5k{h rs:List Res}{O:Nat->Prop}(F:J7 h rs)(M:HR ν w O rs):HR ν w O h:=by
 intro k r K;obtain⟨E,G,D⟩:=b4U F K;obtain⟨x,A,u⟩:=M k E G;refine⟨x,A,?_⟩;cases D with
 | gone=>trivial
 | refl=>exact u
 | box t cs cs' hl=>
  obtain⟨b,vs,B,H,J,I⟩:=u;exact⟨b,vs,B,b7N hl H,J,I⟩
def b1Z{ov:Operand->C}{A:List Res}{p:Bool}{o:IOp}{K:C->Prop}{F:Oper}(D:Is E.P F.type F.op o)(h:b2p ov A p o K) :
  ∃s,K s/\∀rs av ν (a:Act) w,J7 A rs->RG av E.own0 E.w0.heap.size ν rs w->(∀b,E.av b->av b)->Frm E.own0 E.w0 w->(∀x∈o.uses,Den ν w (OO av rs ν) (ov x) (a.eval x))->p=true->Yq E.P ν w (OO av rs ν) a F s:=by
 have u:G9 ov A p o K->∃s,K s/\∀rs av ν (a:Act) w,J7 A rs->RG av E.own0 E.w0.heap.size ν rs w->(∀b,E.av b->av b)->Frm E.own0 E.w0 w->(∀x∈o.uses,Den ν w (OO av rs ν) (ov x) (a.eval x))->p=true->Yq E.P ν w (OO av rs ν) a F s:=λh=>by
  obtain⟨s,I,X⟩:=a4N D h;exact⟨s,I,λrs av ν a w B J _ _ G M=>(X ν a w _ (c5k B J.hr) G M).yq⟩
 cases o with
 | bsl e sz n zero parts=>
  obtain⟨N,W,R,Y,T,U,O⟩:=h;refine⟨_,O,λrs av ν a w B J H V G M=>?_⟩;obtain⟨s,rfl,I⟩:=a9c (E:=E) (ov:=ov) (rs:=rs) (p:=p) (K:=λs=>s=.sl sz (K8 (List.replicate n (zero.map .v)) (K9 ov parts))) D ⟨N,W,R,Y,T,U,rfl⟩;exact I av ν a w J H V G M
 | _=>exact u h
def b9j{ops:Array Oper}{o:Oper}{O:G6}{fr:List (Nat×C)}{F:List Res}{N:Nat}(hN:E.N=N)(hc:a3u E.P N ops o=some O){K:C->Prop}(h:a8A fr F O K) :
 ∃s,K s/\∀y:SX,(∀t∈o.looksAt ops,y.sf t=slot fr t)->J7 F y.rs->Sem E ops o (trQ o.dst s) y:=by
 obtain⟨Z,H,aa,hg⟩:=a1i hc;rw[<- hN]at Z;unfold a8A at h;rcases hg with⟨I,M⟩|⟨j,X,U,I,M,W⟩
 ·rw[M]at h;simp only at h;obtain⟨s,hk,hY⟩:=b1Z H h;refine⟨s,hk,λy D hr hn K' Q a w hI G=>?_⟩;obtain⟨ν,B,u,Y⟩:=hI;unfold a6N;rw[if_pos (by simp[Region.wanted,I])];refine .inl (hY y.rs (avP E B y.pend) ν a w hr u.rg (λb A=>.inl A) u.frm (a6A H D u.fr) rfl K' Q λv w' A hs=>?_);exact G _ _ (a3K u Y Z hn A hs)
 ·rw[M]at h;simp only at h;have T:∀(p:Bool),(∀(y:SX) ν (B:Nat->Nat) a w,(∀t∈o.looksAt ops,y.sf t=slot fr t)->L9 { E with av:=avP E B y.pend } ν y.sf y.rs a w->(yielded ops a.tmps j==some U)=p)->b2p (opv fr) F p O.op (KgP p K) ->
   ∃s,K s/\∀y:SX,(∀t∈o.looksAt ops,y.sf t=slot fr t)->J7 F y.rs->Sem E ops o (trQ o.dst s) y:=by
   intro p hp h;obtain⟨s,hk,hY⟩:=b1Z H h;refine⟨.g p s,hk,λy D hr hn K' Q a w hI G=>?_⟩;obtain⟨ν,B,u,Y⟩:=hI;unfold a6N;rw[a8e I,hp y ν B a w D u];cases R:p with
   | false=>
    rw[if_neg (by simp)];refine G _ _ ?_;have:=a3K u Y (y:=undef) (s:=.g p s) Z hn (Below.refl _ _) (a8I R);exact this
   | true=>
    rw[if_pos rfl];refine .inl (hY y.rs (avP E B y.pend) ν a w hr u.rg (λb A=>.inl A) u.frm (a6A H D u.fr) R K' Q λv w' A hs=>?_);have:=a3K u Y (s:=.g p s) Z hn A (a8h R hs);exact G _ _ this
  have J:∀(y:SX) ν (B:Nat->Nat) a w,(∀t∈o.looksAt ops,y.sf t=slot fr t)->L9 { E with av:=avP E B y.pend } ν y.sf y.rs a w ->
   (∀b,slot fr X=.v (.bool b)->yielded ops a.tmps j=some b)/\(∀q b,slot fr X=.g q (.v (.bool b))->(q=true->yielded ops a.tmps j=some b)/\(q=false->yielded ops a.tmps j=none)):=by
   intro y ν B a w D u;have V:=u.fr X;rw[D X (b0i I W)]at V;exact a8v (sf:=slot fr) W V
  split at h
  ·rename_i b A;exact T _ (λy ν B a w D u=>by rw[(J y ν B a w D u).1 b A];rfl) h
  ·rename_i q b A;refine T _ (λy ν B a w D u=>?_) h;have:=(J y ν B a w D u).2 q b A;cases hq:q with
   | true=>rw[this.1 hq];rfl
   | false=>rw[this.2 hq];rfl
  ·exact h.elim
theorem pkE{av:Nat->Prop}:∀{pk:List Nat},a5s E pk->a5s { E with av:=av } pk
 | [],_=>trivial
 | _::_,h=>⟨h.1,pkE h.2⟩
def c7S{ops:Array Oper}{o:Oper}{V:IOp}{fr:List (Nat×C)}{rs:List Res}(U:a1I E.N o.dst=true)(A:Is E.P o.type o.op V)(Y:o.guard=none){K:C->List Res->List Nat->Prop}(h:evE E (opv fr) rs V K) :
  ∃s rs' pk,K s rs' pk/\∀(x:SX) ν B (G:Act->World->Prop) (Q:Exit->Act->World->Prop) a w,a5s E pk->(∀t∈o.looksAt ops,x.sf t=slot fr t)->x.rs=rs->(∀t p,x.pend t=some p->o.dst≠some t) ->
   L9 { E with av:=avP E B x.pend } ν x.sf x.rs a w->a5m E B x.pend a w->(∀a' w',b6m E ⟨a0T (λt=>(x.sf t).y9 pk) o.dst s,rs',x.pend⟩ a' w'->G a' w')->a6N E.P ops Q o G a w:=by
 obtain⟨s,rs',pk,hk,F⟩:=b2P A h;refine⟨s,rs',pk,hk,λx ν B G Q a w I Z hr hn u X J=>?_⟩;unfold a6N;rw[if_pos (by simp[Region.wanted,Y])];refine .inl (F (avP E B x.pend) ν a w (by rw[<- hr];exact u.rg) (λb W=>.inl W) u.frm (by rw[<- hr];exact a6A A Z u.fr) G Q λv M w' O R hs=>?_);rw[<- hr]at R;refine J _ _ ⟨M,B,L9.put (L9.mv u O R (pkE I)) U hs,X.put u.size U hn λb H T=>R.block b H λD=>?_⟩;obtain⟨t,p,hp,rfl⟩:=T;exact(u.rg.low _ D).2.1 (.inr ⟨t,p,hp,rfl⟩)
def adopt{x:SX}{B:Nat->Nat}{ta:Nat}{p:Pd}(hp:x.pend ta=some p)(K:L9 { E with av:=avP E B x.pend } ν x.sf x.rs a w)(X:a5m E B x.pend a w) :
  L9 { E with av:=avP E B (λt=>if t=ta then none else x.pend t) } (ν++[.pointer (some ⟨B ta,0,none⟩)]) (a0T x.sf (some ta) (.bp x.rs.length 0)) (x.rs++[.box p.ty (p.zero.map .v)]) a w /\
   a5m E B (λt=>if t=ta then none else x.pend t) a w:=by
 obtain⟨c1,c2,c3,c4⟩:=X.cell ta p hp;have A:∀{t q},(if t=ta then none else x.pend t)=some q->t≠ta/\x.pend t=some q:=λ{t q} h=>by
  split at h
  ·cases h
  ·rename_i N;exact⟨N,h⟩
 have aa:B ta<w.heap.size:=(Array.getElem?_eq_some_iff.1 c2).1;have U:avP E B x.pend (B ta):=.inr ⟨ta,p,hp,rfl⟩;have J:∀b,avP E B (λt=>if t=ta then none else x.pend t) b->avP E B x.pend b/\b≠B ta:=by
  rintro b (W|⟨t,q,hq,rfl⟩)
  ·exact⟨.inl W,λe=>by have:=X.av0 b W;omega⟩
  ·obtain⟨Z,Y⟩:=A hq;exact⟨.inr ⟨t,q,Y,rfl⟩,X.inj t ta q p Y hp Z⟩
 have len:=K.rg.len;have M:∀{k:Nat} {q:Res},(x.rs++[.box p.ty (p.zero.map .v)])[k]?=some q->(k<x.rs.length/\x.rs[k]?=some q)\/(k=x.rs.length/\q=.box p.ty (p.zero.map .v)):=by
  intro k q u;rcases d0B k x.rs.length with h|ac
  ·rw[d0v h]at u;exact .inl ⟨h,u⟩
  ·rw[d0D ac]at u;have:k-x.rs.length=0:=by
    rcases d0K (k-x.rs.length) with h0|h0
    ·exact h0
    ·rw[d0J (by simp;omega)]at u;cases u
   rw[this]at u;simp at u;exact .inr ⟨by omega,u.symm⟩
 have F:∀{k},k<x.rs.length->(ν++[.pointer (some ⟨B ta,0,none⟩)])[k]?=ν[k]?:=λu=>d0v (by rw[len];exact u);have I:(ν++[.pointer (some ⟨B ta,0,none⟩)])[x.rs.length]?=some (.pointer (some ⟨B ta,0,none⟩)):=by rw[<- len];simp
 have own:∀b,owned (x.rs++[.box p.ty (p.zero.map .v)]) (ν++[.pointer (some ⟨B ta,0,none⟩)]) b->owned x.rs ν b\/b=B ta:=by
  rintro b ⟨k,q,y,u,D,R⟩;rcases M u with⟨h,P⟩|⟨rfl,rfl⟩
  ·rw[F h]at D;exact .inl ⟨k,q,y,P,D,R⟩
  ·rw[I]at D;injection D with D;subst D
   simp only[fp,E8,Option.some.injEq]at R;exact .inr R.symm
 have nu:a0t [] ν (ν++[.pointer (some ⟨B ta,0,none⟩)]):=λk y _ D=>by
  rw[d0v (d0i.1 D).1];exact D
 have u:Keeps (OO (avP E B x.pend) x.rs ν) w (OO (avP E B (λt=>if t=ta then none else x.pend t)) (x.rs++[.box p.ty (p.zero.map .v)]) (ν++[.pointer (some ⟨B ta,0,none⟩)])) w:=by
  intro b W hn;refine⟨W,λG=>?_,rfl⟩;rcases G with G|G
  ·exact hn (.inl (J b G).1)
  ·rcases own b G with G|rfl
   ·exact hn (.inr G)
   ·exact hn (.inl U)
 refine⟨⟨K.dfr,K.size,λt=>?_,⟨by simp[len],λk q hq=>?_,?_,λb ho=>?_,λb W=>K.rg.av b (J b W).1,K.rg.n0⟩,K.frm,λk x u hx=>nu k x (by simp) (K.nu k x u hx)⟩,⟨λt q hq=>X.cell t q (A hq).2,λt t' q q' h G=>X.inj t t' q q' (A h).2 (A G).2,X.av0⟩⟩
 ·simp only[a0T];by_cases e:some ta=some t
  ·rw[if_pos e];injection e with e;subst e;simp only[Den];exact⟨B ta,I,c1⟩
  ·rw[if_neg e];exact Den.nu nu (by simp) (Den.keep u (K.fr t))
 ·rcases M hq with⟨h,ab⟩|⟨rfl,rfl⟩
  ·obtain⟨y,D,ae⟩:=K.rg.res k q ab;have:=N8.mv (pk:=[]) ae u nu λb _=>rfl;rw[a3T]at this;exact⟨y,by rw[F h];exact D,this⟩
  ·exact⟨_,I,B ta,p.zero,rfl,l6.vs _,a0P c4,c2⟩
 ·have T:∀(k:Nat) (q:Res) (y:Value) (b:Nat),x.rs[k]?=some q->ν[k]?=some y->fp q y b->b≠B ta:=λk q y b Z Y h3 e=>(K.rg.low b ⟨k,q,y,Z,Y,h3⟩).2.1 (by rw[e];exact U);intro k l q q' y y' b N u hl D H R O;rcases M u with⟨h,P⟩|⟨rfl,rfl⟩
  ·rw[F h]at D;rcases M hl with⟨G,V⟩|⟨rfl,rfl⟩
   ·rw[F G]at H;exact K.rg.dis k l q q' y y' b N P V D H R O
   ·rw[I]at H;injection H with H;subst H
    simp only[fp,E8,Option.some.injEq]at O;exact T k q y b P D R O.symm
  ·rw[I]at D;injection D with D;subst D
   simp only[fp,E8,Option.some.injEq]at R;rcases M hl with⟨G,V⟩|⟨rfl,rfl⟩
   ·rw[F G]at H;exact T l q' y' b V H O R.symm
   ·exact absurd rfl N
 ·rcases own b ho with h|rfl
  ·obtain⟨Z,Y,h3⟩:=K.rg.low b h;exact⟨Z,λG=>Y (J b G).1,h3⟩
  ·exact⟨aa,λG=>(J _ G).2 rfl,.inr c3⟩
def c9O{ops:Array Oper}{o:Oper}{K:G6}{N:Nat}(hN:E.N=N)(hc:a3u E.P N ops o=some K)(hg:o.guard=none){t ta:Nat}{zero:List Value}(aa:K.op=.alloc t zero)(D:o.dst=some ta)(hz:a0g zero=true)(y:SX):Sem E ops o (trA ta ⟨t,zero⟩) y:=by
 obtain⟨W,G,ac,_⟩:=a1i hc;rw[<- hN]at W;rw[aa]at G;intro hn K' Q a w hI X;obtain⟨ν,B,V,M⟩:=hI;unfold a6N;rw[if_pos (by simp[Region.wanted,hg])];refine .inl ?_;have ae:y.pend ta=none:=by
  cases hp:y.pend ta with
  | none=>rfl
  | some p=>exact absurd D (hn ta p hp)
 have J:(execOp a.eval o).run E.P w=.ok (.value (.pointer (some ⟨w.heap.size,0,none⟩))) (w.alloc (.cells zero.toArray t)):=by
  obtain⟨dst,op,ty,pos,ab,guard⟩:=o;simp only at G;cases G with
  | alloc t i z hi hz'=>simp[execOp,Instr.alloc,newVar,newRow,zeroValue,typeInfo,hi,hz']
 unfold Oper.wp;rw[J];refine X _ _ ?_;have F:w.heap.size<(w.alloc (.cells zero.toArray t)).heap.size:=by simp
 have U:∀{s q},y.pend s=some q->B s<w.heap.size:=λh=>(Array.getElem?_eq_some_iff.1 (M.cell _ _ h).2.1).1;have Z:L9 { E with av:=avP E (λs=>if s=ta then w.heap.size else B s) (λs=>if s=ta then some ⟨t,zero⟩ else y.pend s) } ν y.sf y.rs a (w.alloc (.cells zero.toArray t)):=by
  refine L9.re V (V8 w _) rfl rfl rfl rfl rfl rfl λb T=>?_;rcases T with T|⟨s,q,u,rfl⟩
  ·have h1:=M.av0 b T;have h2:=V.rg.n0;exact⟨.inl (.inl T),d0E (d0E h1 h2) (Nat.le_of_lt F)⟩
  ·simp only at u ⊢;by_cases e:s=ta
   ·rw[if_pos e];exact⟨.inr (d0m _),F⟩
   ·rw[if_neg e]at u ⊢;exact⟨.inl (.inr ⟨s,q,u,rfl⟩),Nat.lt_trans (U u) F⟩
 have R:=L9.put Z (d:=o.dst) (s:=.junk) (y:=.pointer (some ⟨w.heap.size,0,none⟩)) W (by simp only[Den]);have I:(trA ta ⟨t,zero⟩).step y=⟨a0T y.sf o.dst .junk,y.rs,λs=>if s=ta then some ⟨t,zero⟩ else y.pend s⟩:=by
  unfold trA TR.step;simp only[Option.getD_none,SX.mk.injEq,true_and];refine⟨funext λs=>?_,funext λs=>?_⟩
  ·simp only[a0T,D,Option.some.injEq];by_cases e:s=ta
   ·rw[if_pos e,if_pos e.symm];rfl
   ·rw[if_neg e,if_neg (λh=>e h.symm)];rfl
  ·split<;>rfl
 rw[I];refine⟨ν,_,R,λs q u=>?_,λs s' q q' u A O=>?_,M.av0⟩
 ·have Y:ta<E.N:=by rw[D]at W;simpa[a1I] using W
  simp only at u ⊢;rw[D,a0a V.size Y];by_cases e:s=ta
  ·rw[if_pos e]at u;injection u with u;subst u;rw[if_pos e,if_pos e.symm];exact⟨rfl,heap_alloc_new w _,V.rg.n0,hz⟩
  ·rw[if_neg e]at u ⊢;rw[if_neg (λh=>e h.symm)];obtain⟨c1,c2,c3,c4⟩:=M.cell s q u;exact⟨c1,(Below.heap_alloc w _ _ (U u)).trans c2,c3,c4⟩
 ·simp only at u A ⊢;by_cases e:s=ta
  ·by_cases H:s'=ta
   ·exact absurd (e.trans H.symm) O
   ·rw[if_neg H]at A;rw[if_pos e,if_neg H];have:=U A;omega
  ·rw[if_neg e]at u;by_cases H:s'=ta
   ·rw[if_neg e,if_pos H];have:=U u;omega
   ·rw[if_neg H]at A;rw[if_neg e,if_neg H];exact M.inj s s' q q' u A O
end
def a5f(E:Ctx)(hid:List Res)(ops:Array Oper)(FV:List C)(PK pks:List Nat)(o:Oper)(t:DT)(r:TR)(x:SX):Prop:=
 match t with
 | .q=>(∃s,r=trQ o.dst s)/\∀y,agree ops o x y->y.rs=x.rs->Sem E ops o r y
 | .f=>(∃s,r=trQ o.dst s/\s∈FV)/\(∀t∈o.looksAt ops,x.sf t≠.junk/\x.sf t∈FV)/\∀y,agree ops o x y->J7 hid y.rs->Sem E ops o r y
 | .l=>(∃s,r=trQ o.dst s)/\(∀t∈o.looksAt ops,x.sf t≠.junk/\x.sf t∈FV)/\∀y,agree ops o x y->J7 hid y.rs->Sem E ops o r y
 | .m=>(∃s,r=trQ o.dst s/\∀k∈pks,s.has k=false)/\(∀t∈o.looksAt ops,x.sf t≠.junk/\x.sf t∈FV)/\∀y,agree ops o x y->J7 hid y.rs->Sem E ops o r y
 | .n=>(∃s,r=trQ o.dst s/\s∈FV)/\(∀t∈o.looksAt ops,x.sf t≠.junk/\x.sf t∈FV)/\∀y,agree ops o x y->Sem E ops o r y
 | .a=>(∃ta pd,o.dst=some ta/\r=trA ta pd)/\∀y,Sem E ops o r y
 | .e none sk=>(∃s rs' pk,r=trE o.dst s rs' pk none/\(∀k∈pk,k∈PK)/\(sk=false->J7 hid rs')/\(U8 E.eff o.op=true->pk=[]))/\∀y,agree ops o x y->y.rs=x.rs->Sem E ops o r y
 | .e (some ta) sk=>(∃s rs' pk c,r=trE o.dst s rs' pk (some (ta,c))/\(∀k∈pk,k∈PK)/\(sk=false->J7 hid rs')/\(U8 E.eff o.op=true->pk=[]))/\∀y,agree ops o x y->y.rs=x.rs->y.pend ta=x.pend ta->Sem E ops o r y
def a7C(E:Ctx)(hid:List Res)(ops:Array Oper)(FV:List C)(PK:List Nat):List Nat->List Oper->List DT->List TR->SX->Prop
 | _,[],[],[],_=>True
 | pks,o::os,t::ts,r::rs,x=>a5f E hid ops FV PK pks o t r x/\a7C E hid ops FV PK (r.pk++pks) os ts rs (r.step x)
 | _,_,_,_,_=>False
def b5I(pks:List Nat)(rs:List TR):List Nat:=rs.foldl (λa q=>q.pk++a) pks
theorem b6E:∀(rs:List TR) (pks:List Nat) (k:Nat),k∈pks->k∈b5I pks rs
 | [],_,_,h=>h
 | r::rs,pks,k,h=>b6E rs (r.pk++pks) k (List.mem_append_right _ h)
theorem b4W:∀(rs:List TR) (pks:List Nat) (j:Nat) (q:TR) (k:Nat),rs[j]?=some q->k∈q.pk->k∈b5I pks rs
 | [],_,_,_,_,h,_=>by simp at h
 | r::rs,pks,0,q,k,h,hk=>by
  simp at h;subst h;exact b6E rs _ k (List.mem_append_left _ hk)
 | r::rs,pks,j+1,q,k,h,hk=>b4W rs (r.pk++pks) j q k (by simpa using h) hk
theorem a7C.get{E:Ctx}{u:List Res}{ops:Array Oper}{I:List C}{H:List Nat}:∀{pks:List Nat} {B:List Oper} {A:List DT} {rs:List TR} {x:SX},a7C E u ops I H pks B A rs x->B.length=rs.length/\A.length=rs.length /\
  ∀(i:Nat) (o:Oper) (t:DT) (r:TR),B[i]?=some o->A[i]?=some t->rs[i]?=some r->a5f E u ops I H (b5I pks (rs.take i)) o t r (F8 V9 (rs.take i) 0 x)
 | _,[],[],[],x,_=>⟨rfl,rfl,by simp⟩
 | _,[],[],_::_,x,h=>h.elim
 | _,[],_::_,_,x,h=>h.elim
 | _,_::_,[],_,x,h=>h.elim
 | _,_::_,_::_,[],x,h=>h.elim
 | pks,o::B,t::A,r::rs,x,h=>by
  obtain⟨h1,h2⟩:=h;obtain⟨M,J,P⟩:=a7C.get h2;refine⟨by simp[M],by simp[J],λi N O K G D hr=>?_⟩;cases i with
  | zero=>simp at G D hr;subst G D hr;simpa[F8,b5I] using h1
  | succ i=>
   have:=P i N O K (by simpa using G) (by simpa using D) (by simpa using hr);have e:∀(l:List TR) (k F:Nat) (y:SX),F8 V9 l k y=F8 V9 l F y:=by
    intro l
    induction l with
    | nil=>intro k F y;rfl
    | cons q l ih=>intro k F y;simp only[F8,V9,if_true];exact ih _ _ _
   simp only[List.take_succ_cons,F8,V9,if_true];rw[e _ (0+1) 0];exact this
def XD(x:DS):SX:=⟨slot x.fr,x.rs,λt=>a3j t x.pend⟩
theorem b0B(h t:Nat):∀(l:List (Nat×Pd)),a3j t (rmP h l)=if t=h then none else a3j t l
 | []=>by simp[rmP,a3j]
 | (s,p)::l=>by
  simp only[rmP];by_cases e:s=h
  ·subst e;simp only[beq_self_eq_true,cond_true];rw[b0B s t l];by_cases e':t=s
   ·simp[e']
   ·have:(s==t)=false:=by simpa using Ne.symm e'
    simp[e',a3j,this]
  ·have:(s==h)=false:=by simpa using e
   simp only[this,cond_false,a3j];rw[b0B h t l];by_cases e':s=t
   ·subst e';simp[e]
   ·have:(s==t)=false:=by simpa using e'
    simp[this]
def b5K(d:Option Nat)(s:C)(rs':List Res)(pk:List Nat)(y:SX):(trE d s rs' pk none).step y=⟨a0T (λt=>(y.sf t).y9 pk) d s,rs',y.pend⟩:=by
 unfold trE TR.step;simp only[Option.getD_some,Option.getD_none,SX.mk.injEq,and_true]
 funext t
 simp only[a0T];split<;>rfl
def b3b(d:Option Nat)(s:C)(rs':List Res)(pk:List Nat)(u:Nat)(c:C)(y:SX) :
  (trE d s rs' pk (some (u,c))).step y=⟨a0T (λt=>(a0T y.sf (some u) c t).y9 pk) d s,rs',λt=>if t=u then none else y.pend t⟩:=by
 unfold trE TR.step;simp only[Option.getD_some,SX.mk.injEq,true_and];refine⟨funext λt=>?_,funext λt=>?_⟩
 ·simp only[a0T,Option.some.injEq];split
  ·rfl
  ·by_cases e:t=u
   ·rw[if_pos e,if_pos e.symm];rfl
   ·rw[if_neg e,if_neg (λh=>e h.symm)];rfl
 ·split<;>rfl
theorem a8r{pk:List Nat}:∀{l:List C},a5C pk l=true->∀c∈l,∀k∈pk,c.has k=false
 | [],_,c,hc=>by cases hc
 | c0::l,h,c,hc=>by
  simp only[a5C,d0s,Bool.not_eq_true']at h;cases List.mem_cons.1 hc with
  | inl e=>subst e;exact a6z h.1
  | inr e=>exact a8r h.2 c e
theorem a6l:∀{l:List C},njL l=true->∀c∈l,c≠.junk
 | [],_,c,hc=>by cases hc
 | c0::l,h,c,hc=>by
  simp only[njL,d0s]at h;cases List.mem_cons.1 hc with
  | inl e=>subst e;intro e2;subst e2;exact absurd h.1 (by simp[C.nj])
  | inr e=>exact a6l h.2 c e
section
variable {E:Ctx} {ops:Array Oper} {hid:List Res} {N:Nat} {K:St->Prop}
def a1q{o:Oper}{B:G6}{fr:List (Nat×C)}(O:a3u E.P N ops o=some B){t:Nat}(G:t∈o.looksAt ops):slot fr t∈opsV fr B:=by
 obtain⟨R,D,I,J⟩:=a1i O;unfold Oper.looksAt at G;unfold opsV;rcases List.mem_append.1 G with h|h
 ·obtain⟨x,K,H⟩:=List.mem_filterMap.1 h;cases x<;>simp at H;subst H;exact List.mem_append_left _ (List.mem_map.2 ⟨.tmp _,(b7K D).2 _ K,rfl⟩)
 ·refine List.mem_append_right _ ?_;rcases J with⟨u,A⟩|⟨j,s,F,u,A,M⟩
  ·rw[u]at h;cases h
  ·rw[u]at h;rw[A];simp[M]at h;subst h;simp
def b5c{eff:Nat->Bool}{P:Program}{A:TypeId}{o:Op}{u:IOp}(h:Is P A o u)(B:U8 eff o=true):a9r eff u=true:=by
 cases h<;>first|rfl|(cases B;done)|(simp_all[U8];done)|(simp_all[U8,a9r];done)
theorem facts(hN:E.N=N):∀(ol:List Oper) (R:List DT) (il:List G6) (x:DS),a0z E.P N ops ol=some il->evD E hid R il x K->(∀(i:Nat) (o:Oper) (t:DT),ol[i]?=some o->R[i]?=some t->t.isE=true\/t.isA=true->o.guard=none) ->
 ∃tr FV PK st',a7C E hid ops FV PK x.pk ol R tr (XD x)/\(∀c∈x.fv,c∈FV)/\(∀k∈x.pk,k∈PK)/\a5C PK FV=true/\K st'/\F8 V9 tr 0 (XD x)=⟨slot st'.fr,st'.rs,λ_=>none⟩
 | [],R,il,x,hc,h,_=>by
  simp only[a0z,Option.some.injEq]at hc;subst hc;cases R with
  | cons t R=>exact h.elim
  | nil=>
   obtain⟨h1,h2,h3⟩:=h;refine⟨[],x.fv,x.pk,⟨x.fr,x.rs⟩,trivial,λc hc=>hc,λk u=>u,h2,h3,?_⟩;simp only[F8,XD,h1];rfl
 | o::ol,R,il,x,hc,h,hgd=>by
  simp only[a0z]at hc;split at hc
  ·rename_i io ir D aq;injection hc with hc;subst hc;cases R with
   | nil=>exact h.elim
   | cons t R=>
    have aa:=hgd 0 o t rfl rfl;have ag:∀(i:Nat) (o:Oper) (t:DT),ol[i]?=some o->R[i]?=some t->t.isE=true\/t.isA=true->o.guard=none:=λi o' t' ho J=>hgd (i+1) o' t' (by simpa using ho) (by simpa using J);obtain⟨hd,Z,G,hg⟩:=a1i D;rw[<- hN]at hd;have F:∀(X:DS) (r:TR),r.step (XD x)=XD X->X.pk=r.pk++x.pk->evD E hid R ir X K->(∀FV PK,(∀c∈X.fv,c∈FV)->(∀k∈X.pk,k∈PK)->a5f E hid ops FV PK x.pk o t r (XD x))->(∀c∈x.fv,c∈X.fv)->(∀k∈x.pk,k∈X.pk) ->
     ∃tr FV PK st',a7C E hid ops FV PK x.pk (o::ol) (t::R) tr (XD x)/\(∀c∈x.fv,c∈FV)/\(∀k∈x.pk,k∈PK)/\a5C PK FV=true/\K st'/\F8 V9 tr 0 (XD x)=⟨slot st'.fr,st'.rs,λ_=>none⟩:=by
     intro X r hx ap ai hf H U;obtain⟨tr,FV,PK,st',h1,h2,h3,h4,h5,h6⟩:=facts hN ol R ir X aq ai ag;refine⟨r::tr,FV,PK,st',⟨hf FV PK h2 h3,by rw[hx,<- ap];exact h1⟩,λc hc=>h2 c (H c hc),λk u=>h3 k (U k u),h4,h5,?_⟩;have e:∀(l:List TR) (k k':Nat) (y:SX),F8 V9 l k y=F8 V9 l k' y:=by
      intro l
      induction l with
      | nil=>intro k k' y;rfl
      | cons q l ih=>intro k k' y;simp only[F8,V9,if_true];exact ih _ _ _
     simp only[F8,V9,if_true,hx];rw[e _ (0+1) 0];exact h6
    simp only[evD]at h;cases t with
    | q=>
     obtain⟨s,u,A⟩:=c9A hN D h;rw[G]at u;refine F { x with fr:=U5 x.fr o.dst s } (trQ o.dst s) ?_ rfl u (λFV PK _ _=>⟨⟨s,rfl⟩,λy O hr=>A y O hr⟩) (λc hc=>hc) (λk u=>u);rw[a4w];simp only[XD,Y8]
    | f=>
     obtain⟨M,h⟩:=h;obtain⟨s,u,A⟩:=b9j hN D h;rw[G]at u;refine F { x with fr:=U5 x.fr o.dst s,fv:=s::(opsV x.fr io++x.fv) } (trQ o.dst s) ?_ rfl u (λFV PK H _=>⟨⟨s,rfl,H s (by simp)⟩,λt J=>⟨a6l M _ (a1q D J),H _ (List.mem_cons_of_mem _ (List.mem_append_left _ (a1q D J)))⟩,λy O hr=>A y O hr⟩) (λc hc=>by simp[hc]) (λk u=>u);rw[a4w];simp only[XD,Y8]
    | l=>
     obtain⟨M,h⟩:=h;obtain⟨s,u,A⟩:=b9j hN D h;rw[G]at u;refine F { x with fr:=U5 x.fr o.dst s,fv:=opsV x.fr io++x.fv } (trQ o.dst s) ?_ rfl u (λFV PK H _=>⟨⟨s,rfl⟩,λt J=>⟨a6l M _ (a1q D J),H _ (List.mem_append_left _ (a1q D J))⟩,λy O hr=>A y O hr⟩) (λc hc=>by simp[hc]) (λk u=>u);rw[a4w];simp only[XD,Y8]
    | m=>
     obtain⟨M,h⟩:=h;obtain⟨s,u,A⟩:=b9j hN D h;rw[G]at u;obtain⟨ak,u⟩:=u;refine F { x with fr:=U5 x.fr o.dst s,fv:=opsV x.fr io++x.fv } (trQ o.dst s) ?_ rfl u (λFV PK H _=>⟨⟨s,rfl,λk u=>a8r ak s (by simp) k u⟩,λt J=>⟨a6l M _ (a1q D J),H _ (List.mem_append_left _ (a1q D J))⟩,λy O hr=>A y O hr⟩) (λc hc=>by simp[hc]) (λk u=>u);rw[a4w];simp only[XD,Y8]
    | n=>
     obtain⟨M,h⟩:=h;obtain⟨s,u,A⟩:=b9j hN D h;rw[G]at u;refine F { x with fr:=U5 x.fr o.dst s,fv:=s::(opsV x.fr io++x.fv) } (trQ o.dst s) ?_ rfl u (λFV PK H _=>⟨⟨s,rfl,H s (by simp)⟩,λt J=>⟨a6l M _ (a1q D J),H _ (List.mem_cons_of_mem _ (List.mem_append_left _ (a1q D J)))⟩,λy O=>A y O trivial⟩) (λc hc=>by simp[hc]) (λk u=>u);rw[a4w];simp only[XD,Y8]
    | a=>
     simp only[a8Y]at h;split at h
     ·rename_i t0 zero ta am ab;obtain⟨hz,u⟩:=h;rw[G]at ab;have Y:=aa (.inr rfl);refine F { x with fr:=U5 x.fr (some ta) .junk,pend:=(ta,⟨t0,zero⟩)::x.pend } (trA ta ⟨t0,zero⟩) ?_ rfl u (λFV PK _ _=>⟨⟨ta,_,ab,rfl⟩,λy=>c9O hN D Y am ab hz y⟩) (λc hc=>hc) (λk u=>u);unfold trA TR.step;simp only[XD,Y8,Option.getD_none,SX.mk.injEq,true_and];refine⟨funext λs=>?_,funext λs=>?_⟩
      ·simp only[a0T,Option.some.injEq];by_cases e:s=ta
       ·rw[if_pos e,if_pos e.symm];rfl
       ·rw[if_neg e,if_neg (λh=>e h.symm)];rfl
      ·simp only[a3j];by_cases e:s=ta
       ·subst e;simp
       ·have:(ta==s)=false:=by simpa using Ne.symm e
        simp[e,this]
     ·exact h.elim
    | e ad sk=>
     have Y:=aa (.inl rfl);cases ad with
     | none=>
      simp only[a8Y]at h;obtain⟨s,I,pk,u,A⟩:=c7S (ops:=ops) hd Z Y h;rw[G]at u;obtain⟨W,V,T,u⟩:=u;have ae:(trE o.dst s I pk none).step (XD x)=XD ⟨U5 (a0R pk x.fr) o.dst s,I,x.pend,x.fv,pk++x.pk⟩:=by
       rw[b5K];simp only[XD,Y8];rw[show slot (a0R pk x.fr)=λt=>(slot x.fr t).y9 pk from funext λt=>a5z pk t x.fr]
      refine F _ (trE o.dst s I pk none) ae rfl u (λFV PK _ U=>⟨⟨s,I,pk,rfl,λk u=>U k (by simp[u]),W,λhc=>V (b5c Z hc)⟩,λy O hr hn K' Q a w hI af=>?_⟩) (λc hc=>hc) (λk u=>by simp[u]);obtain⟨ν,B,hG,hP⟩:=hI;refine A y ν B K' Q a w T O hr hn hG hP λa' w' ac=>af a' w' ?_;rw[b5K];exact ac
     | some ta=>
      simp only[a8Y]at h;split at h
      ·rename_i p an;obtain⟨s,I,pk,u,A⟩:=c7S (ops:=ops) (fr:=(ta,C.bp x.rs.length 0)::x.fr) hd Z Y h;rw[G]at u;obtain⟨W,V,T,u⟩:=u;have ah:slot ((ta,C.bp x.rs.length 0)::x.fr)=a0T (slot x.fr) (some ta) (.bp x.rs.length 0):=by rw[<- Y8];rfl
       have ae:(trE o.dst s I pk (some (ta,.bp x.rs.length 0))).step (XD x)=XD ⟨U5 (a0R pk ((ta,.bp x.rs.length 0)::x.fr)) o.dst s,I,rmP ta x.pend,x.fv,pk++x.pk⟩:=by
        rw[b3b];simp only[XD,Y8];rw[show slot (a0R pk ((ta,C.bp x.rs.length 0)::x.fr))=λt=>(a0T (slot x.fr) (some ta) (.bp x.rs.length 0) t).y9 pk from funext λt=>by rw[a5z,ah]];rw[show(λt=>a3j t (rmP ta x.pend))=λt=>if t=ta then none else a3j t x.pend from funext λt=>b0B ta t _]
       refine F _ (trE o.dst s I pk (some (ta,.bp x.rs.length 0))) ae rfl u (λFV PK _ U=>⟨⟨s,I,pk,_,rfl,λk u=>U k (by simp[u]),W,λhc=>V (b5c Z hc)⟩,λy O hr aj hn K' Q a w hI af=>?_⟩) (λc hc=>hc) (λk u=>by simp[u]);obtain⟨ν,B,hG,hP⟩:=hI;have ar:y.pend ta=some p:=by rw[aj];exact an
       obtain⟨al,ao⟩:=adopt ar hG hP;refine A ⟨a0T y.sf (some ta) (.bp y.rs.length 0),y.rs++[.box p.ty (p.zero.map .v)],λt=>if t=ta then none else y.pend t⟩ _ B K' Q a w T (λt J=>?_) (by simp only[hr,XD]) (λt q hq=>?_) al ao λa' w' ac=>af a' w' ?_
       ·rw[ah];simp only[a0T,hr,XD];split
        ·rfl
        ·exact O t J
       ·simp only at hq;split at hq
        ·cases hq
        ·exact hn t q hq
       ·rw[b3b,show C.bp x.rs.length 0=.bp y.rs.length 0 by rw[hr];rfl];exact ac
      ·exact h.elim
  ·cases hc
end
theorem a7r{u:List Nat}{i:Nat}:∀{es:List Edge},(a5e u es).testBit i=true->∃e∈es,Region.binds .any e=true/\(e.on=i\/(u.getD e.on 0).testBit i=true)
 | [],h=>by simp[a5e]at h
 | e::es,h=>by
  simp only[a5e]at h;split at h
  ·rename_i hb;simp only[Nat.testBit_or,d0R]at h;rcases h with(h|h)|h
   ·refine⟨e,by simp,hb,.inl ?_⟩;rw[Nat.testBit_two_pow]at h;simpa using h
   ·exact⟨e,by simp,hb,.inr h⟩
   ·obtain⟨e',h1,h2⟩:=a7r h;exact⟨e',by simp[h1],h2⟩
  ·obtain⟨e',h1,h2⟩:=a7r h;exact⟨e',by simp[h1],h2⟩
theorem b6k:∀(l:List Oper) (h:List Nat),(∀k,k<h.length->(a3y l h)[k]?=h[k]?)/\∀(j:Nat) (o:Oper),l[j]?=some o->∃pre:List Nat,pre.length=h.length+j/\(∀k,k<pre.length->(a3y l h)[k]?=pre[k]?)/\(a3y l h)[h.length+j]?=some (a5e pre o.after.toList)
 | [],h=>⟨λk _=>rfl,by simp⟩
 | o::l,h=>by
  obtain⟨h1,h2⟩:=b6k l (h++[a5e h o.after.toList]);simp only[d0c,d0j,List.length_nil]at h1 h2;refine⟨λk A=>?_,λj E u=>?_⟩
  ·simp only[a3y];rw[h1 k (by omega),d0v A]
  ·cases j with
   | zero=>
    simp at u;subst u;refine⟨h,rfl,λk A=>?_,?_⟩
    ·simp only[a3y];rw[h1 k (by omega),d0v A]
    ·simp only[a3y,Nat.add_zero];rw[h1 _ (by omega)];simp
   | succ j=>
    obtain⟨pre,F,D,B⟩:=h2 j E (by simpa using u);refine⟨pre,by omega,D,?_⟩;simp only[a3y];rw[show h.length+(j+1)=h.length+1+j by omega];exact B
def bef(ops:Array Oper)(i j:Nat):Prop:=∃m,(a3y ops.toList [])[j]?=some m/\m.testBit i=true
def b4X{ops:Array Oper}{i j:Nat}{o:Oper}(I:ops[j]?=some o)(h:bef ops i j):∃e∈o.after,Region.binds .any e=true/\(e.on=i\/(e.on<j/\bef ops i e.on)):=by
 obtain⟨m,A,G⟩:=h;obtain⟨pre,M,H,F⟩:=(b6k ops.toList []).2 j o (by simpa using I);simp only[List.length_nil,d0A]at M F;rw[F]at A;injection A with A;subst A;obtain⟨e,K,B,u⟩:=a7r G;refine⟨e,by simpa using K,B,?_⟩;rcases u with u|u
 ·exact .inl u
 ·right;rcases d0B e.on j with E|J
  ·have D:e.on<pre.length:=by omega
   refine⟨E,pre[e.on],by rw[H _ D];simp[D],?_⟩;simpa[D] using u
  ·rw[d0C,d0J (by omega)]at u;simp at u
def b3x{ops:Array Oper}{D:Nat->Bool}(M:a5T ops D):∀(n i:Nat) (o:Oper),i<=n->ops[i]?=some o->(∀e∈o.after,Region.binds .any e=true->D e.on=true)->∀j,bef ops j i->D j=true:=by
 intro n
 induction n with
 | zero=>
  intro i o R G h j H;obtain⟨e,F,u,K⟩:=b4X G H;rcases K with rfl|⟨I,_⟩
  ·exact h e F u
  ·omega
 | succ n ih=>
  intro i o R G h j H;obtain⟨e,F,u,K⟩:=b4X G H;rcases K with rfl|⟨I,J⟩
  ·exact h e F u
  ·have N:=h e F u;have A:e.on<ops.size:=by have:=(Array.getElem?_eq_some_iff.1 G).1;omega
   have B:ops[e.on]?=some ops[e.on]:=by simp[A]
   exact ih e.on _ (by omega) B (λP O E=>M _ _ B N P O E) j J
def a1T{ops:Array Oper}{D:Nat->Bool}(B:a5T ops D)(i j:Nat)(F:bef ops i j)(H:D j=true):D i=true:=by
 obtain⟨m,I,_⟩:=id F;have u:∀(l:List Oper) (h:List Nat),(a3y l h).length=h.length+l.length:=by
  intro l
  induction l with
  | nil=>intro h;simp[a3y]
  | cons o l ih=>intro h;simp only[a3y];rw[ih];simp;omega
 have G:j<ops.size:=by
  have:=(d0i.1 I).1;rw[u]at this;simpa using this
 have A:ops[j]?=some ops[j]:=by simp[G]
 exact b3x B j j _ (d0m _) A (λe J E=>B _ _ A H e J E) i F
def a2C{l m:List Nat}(h:a9o l m=true){t:Nat}(u:t∈l)(A:t∈m):False:=by
 have:=List.all_eq_true.1 h t u;simp at this;exact this A
structure a9a(eff:Nat->Bool)(ops:Array Oper)(b:Prop)(oi:Oper)(ti:DT)(oj:Oper)(tj:DT):Prop where
 ww:b\/∀t,t∈wrs oi ti->t∈wrs oj tj->False
 lw:b\/∀t,t∈oi.looksAt ops->t∈wrs oj tj->False
 wl:b\/∀t,t∈oj.looksAt ops->t∈wrs oi ti->False
 ee:b\/¬(ti.isE=true/\tj.isE=true)
 eq:b\/¬(ti.isE=true/\tj.isQ=true)
 qe:b\/¬(ti.isQ=true/\tj.isE=true)
 aa:ti.isA=true\/tj.isA=true->∀t,oi.dst=some t->oj.dst≠some t
 ad:∀t,t∈ti.ad->t∈tj.ad->False
 ea:tj.isA=true->∀t,t∈ti.ad->oj.dst≠some t
 ae:ti.isA=true->b\/∀t,oi.dst=some t->t∈tj.ad->False
 le:b\/(ti.isL=true->tj.isE=true->U8 eff oj.op=true)
 el:b\/(ti.isE=true->tj.isL=true->U8 eff oi.op=true)
 kl:ti.isK=true->(tj.isF=false/\tj.isL=false)/\tj.isM=false
 fk:tj.isK=true->b\/(ti.isF=false/\(ti.isL=true->U8 eff oj.op=false))
 me:ti.isM=true->tj.isE=true->b
def b6I{eff:Nat->Bool}{ops:Array Oper}{b:Bool}{P R:Oper}{I J:DT}(h:b1K eff ops b P I R J=true):a9a eff ops (b=true) P I R J:=by
 unfold b1K at h;simp only[d0s,d0R,Bool.not_eq_true']at h;obtain⟨⟨⟨⟨⟨⟨⟨⟨⟨⟨⟨U,h2⟩,V⟩,K⟩,M⟩,Z⟩,N⟩,F⟩,E⟩,A⟩,u⟩,B⟩:=h;have O:b=true\/((I.isL=true->J.isE=true->U8 eff R.op=true)/\(I.isE=true->J.isL=true->U8 eff P.op=true)):=by
  rcases E with E|E
  ·exact .inl E
  ·refine .inr ⟨λa c=>?_,λa c=>?_⟩
   ·rw[a,c]at E;revert E;cases U8 eff R.op<;>simp
   ·rw[a,c]at E;revert E;cases U8 eff P.op<;>simp
 have H:b=true\/(¬(I.isE=true/\J.isE=true)/\¬(I.isE=true/\J.isQ=true)/\¬(I.isQ=true/\J.isE=true)):=by
  rcases K with K|K
  ·exact .inl K
  ·simp only[d0F]at K;refine .inr ⟨λ⟨a,c⟩=>?_,λ⟨a,c⟩=>?_,λ⟨a,c⟩=>?_⟩<;>(rw[a,c]at K;simp at K)
 refine⟨U.imp id λh t a c=>a2C h a c,h2.imp id λh t a c=>a2C h a c,V.imp id λh t a c=>a2C h a c,H.imp id (·.1),H.imp id (·.2.1),H.imp id (·.2.2),λG t X Y=>?_,λt a c=>a2C Z a c,λG t a e=>?_,λG=>?_,O.imp id (·.1),O.imp id (·.2),λT=>?_,λT=>?_,λW hE=>?_⟩
 rotate_left 3
 ·rcases A with A|A
  ·rw[T]at A;cases A
  ·rwa[d0F,d0F]at A
 ·rcases u with(u|u)|u
  ·rw[T]at u;cases u
  ·exact .inl u
  ·refine .inr ⟨u.1,λh=>?_⟩;rcases u.2 with D|D
   ·rw[h]at D;cases D
   ·exact D
 ·rcases B with B|B
  ·exact B
  ·rw[W,hE]at B;simp at B
 ·rcases M with M|M
  ·rcases G with G|G<;>rw[G]at M<;>simp at M
  ·exact a2C (t:=t) M (by rw[X];simp) (by rw[Y];simp)
 ·rcases N with N|N
  ·rw[G]at N;cases N
  ·exact a2C (t:=t) N a (by rw[e];simp)
 ·rcases F with(F|F)|F
  ·rw[G]at F;cases F
  ·exact .inl F
  ·exact .inr λt e a=>a2C (t:=t) F (by rw[e];simp) a
def c1L{eff:Nat->Bool}{ops:Array Oper}{u:List DT}(h:b2y eff ops u=true):u.length=ops.size/\(∀j oj tj,ops[j]?=some oj->u[j]?=some tj->a9K j oj tj=true) /\
  ∀i j oi ti oj tj,i<j->ops[i]?=some oi->u[i]?=some ti->ops[j]?=some oj->u[j]?=some tj->a9a eff ops (bef ops i j) oi ti oj tj:=by
 unfold b2y at h;simp only[d0s,d0t]at h;obtain⟨G,K⟩:=h;have D:∀j oj tj,ops[j]?=some oj->u[j]?=some tj->a9K j oj tj=true/\∀i oi ti,i<j->ops[i]?=some oi->u[i]?=some ti->a9a eff ops (bef ops i j) oi ti oj tj:=by
  intro j oj tj F J;have U:j<ops.size:=(Array.getElem?_eq_some_iff.1 F).1;have:=List.all_eq_true.1 K j (List.mem_range.2 U);have P:ops.toList[j]?=some oj:=by simpa using F
  rw[P,J]at this;cases M:(a3y ops.toList [])[j]? with
  | none=>rw[M]at this;cases this
  | some m=>
   rw[M]at this;have this:(a9K j oj tj&&(List.range j).all λi=>match ops.toList[i]?,u[i]? with
    | some oi,some ti=>b1K eff ops (m.testBit i) oi ti oj tj
    | _,_=>false)=true:=this
   rw[d0s]at this;refine⟨this.1,λi oi ti E I H=>?_⟩;have N:=List.all_eq_true.1 this.2 i (List.mem_range.2 E);have R:ops.toList[i]?=some oi:=by simpa using I
   rw[R,H]at N;have A:=b6I N;have B:m.testBit i=true->bef ops i j:=λB=>⟨m,M,B⟩
   exact⟨A.ww.imp B id,A.lw.imp B id,A.wl.imp B id,A.ee.imp B id,A.eq.imp B id,A.qe.imp B id,A.aa,A.ad,A.ea,λT=>(A.ae T).imp B id,A.le.imp B id,A.el.imp B id,A.kl,λO=>(A.fk O).imp B id,λG K=>B (A.me G K)⟩
 exact⟨G,λj oj tj a b=>(D j oj tj a b).1,λi j oi ti oj tj E a b c d=>(D j oj tj c d).2 i oi ti E a b⟩
structure Props(eff:Nat->Bool)(hid:List Res)(FV:List C)(PK:List Nat)(o:Oper)(t:DT)(r:TR):Prop where
 wr:∀s,(r.w s).isSome=true->s∈wrs o t
 pkE:r.pk≠[]->t.isE=true
 rsE:r.rs'≠none->t.isE=true
 pkPK:∀k∈r.pk,k∈PK
 pw:∀s,r.pw s≠none->(t.isA=true/\o.dst=some s)\/s∈t.ad
 pws:∀s p,r.pw s=some (some p)->t.isA=true/\o.dst=some s
 wf:∀s c,r.w s=some c->(t.isE=true\/t.isQ=true)\/c∈FV\/c=.junk\/t.isL=true\/t.isM=true
 cln:U8 eff o.op=true->r.pk=[]
 rsub:∀q,r.rs'=some q->t.isK=false->J7 hid q
def a5f.props{E:Ctx}{D:List Res}{ops:Array Oper}{H:List C}{I pks:List Nat}{o:Oper}{t:DT}{r:TR}{x:SX}(h:a5f E D ops H I pks o t r x):Props E.eff D H I o t r:=by
  have quiet:∀(s:C),(∀u c,(trQ o.dst s).w u=some c->(t.isE=true\/t.isQ=true)\/c∈H\/c=.junk\/t.isL=true\/t.isM=true)->Props E.eff D H I o t (trQ o.dst s):=λs hw=>
    { wr:=λu hu=>by
        simp only[trQ]at hu;split at hu
        · rename_i e;unfold wrs;rw[e];simp
        · cases hu
      pkE:=λhne=>absurd rfl hne
      rsE:=λhne=>absurd rfl hne
      pkPK:=by simp[trQ]
      pw:=λu hu=>absurd rfl hu
      pws:=λu p hu=>by cases hu
      wf:=hw
      cln:=λ_=>rfl
      rsub:=λq hq=>by cases hq }
  cases t with
  | q=>
    obtain⟨⟨s,rfl⟩,_⟩:=h;exact quiet s λ_ _ _=>.inl (.inr rfl)
  | f=>
    obtain⟨⟨s,rfl,J⟩,_⟩:=h;refine quiet s λu c hu=>.inr (.inl ?_);simp only[trQ]at hu;split at hu
    · injection hu with hu;rw[<- hu];exact J
    · cases hu
  | l=>
    obtain⟨⟨s,rfl⟩,_⟩:=h;exact quiet s λ_ _ _=>.inr (.inr (.inr (.inl rfl)))
  | m=>
    obtain⟨⟨s,rfl,_⟩,_⟩:=h;exact quiet s λ_ _ _=>.inr (.inr (.inr (.inr rfl)))
  | n=>
    obtain⟨⟨s,rfl,J⟩,_⟩:=h;refine quiet s λu c hu=>.inr (.inl ?_);simp only[trQ]at hu;split at hu
    · injection hu with hu;rw[<- hu];exact J
    · cases hu
  | a=>
    obtain⟨⟨O,P,F,rfl⟩,_⟩:=h;refine⟨λu hu=>?_,λhne=>absurd rfl hne,λhne=>absurd rfl hne,by simp[trA],λu hu=>.inl ⟨rfl,?_⟩,λu p hu=>⟨rfl,?_⟩,λu c hu=>.inr (.inr (.inl ?_)),λ_=>rfl,λq hq=>by cases hq⟩
    · simp only[trA]at hu
      split at hu
      · rename_i e;subst e;unfold wrs;rw[F];simp
      · cases hu
    · simp only[trA]at hu
      split at hu
      · rename_i e;rw[e];exact F
      · exact absurd rfl hu
    · simp only[trA]at hu
      split at hu
      · rename_i e;rw[e];exact F
      · cases hu
    · simp only[trA]at hu
      split at hu
      · injection hu with hu;exact hu.symm
      · cases hu
  | e ad sk=>
    cases ad with
    | none=>
      obtain⟨⟨s,M,N,rfl,G,A,B⟩,_⟩:=h;refine⟨λu hu=>?_,λ_=>rfl,λ_=>rfl,G,λu hu=>absurd rfl hu,(λu p hu=>by cases hu),λ_ _ _=>.inl (.inl rfl),B,λq hq K=>by injection hq with hq;rw[<- hq];exact A K⟩;simp only[trE]at hu;split at hu
      · rename_i e;unfold wrs;rw[e];simp
      · cases hu
    | some O=>
      obtain⟨⟨s,M,N,c,rfl,G,A,B⟩,_⟩:=h;refine⟨λu hu=>?_,λ_=>rfl,λ_=>rfl,G,λu hu=>.inr ?_,λu p hu=>?_,λ_ _ _=>.inl (.inl rfl),B,λq hq K=>by injection hq with hq;rw[<- hq];exact A K⟩
      · simp only[trE]at hu
        split at hu
        · rename_i e;unfold wrs;rw[e];simp
        · split at hu
          · rename_i e;subst e;unfold wrs;simp[DT.ad]
          · cases hu
      · simp only[trE]at hu
        split at hu
        · rename_i e;subst e;simp[DT.ad]
        · exact absurd rfl hu
      · simp only[trE]at hu
        split at hu
        · injection hu with hu;cases hu
        · cases hu
def a5f.mw{E:Ctx}{A:List Res}{ops:Array Oper}{G:List C}{D pks:List Nat}{o:Oper}{t:DT}{r:TR}{x:SX}(h:a5f E A ops G D pks o t r x)(B:t.isM=true){s:Nat}{c:C}(u:r.w s=some c):∀k∈pks,c.has k=false:=by
 cases t<;>simp only[DT.isM]at B<;>first|(cases B;done)|skip
 obtain⟨⟨H,rfl,F⟩,_⟩:=h;simp only[trQ]at u;split at u
 ·injection u with u;rw[<- u];exact F
 ·cases u
theorem b3p{D:Nat->Bool}{s:Nat}{p:Pd}:∀(l:List TR) (k:Nat) (x:SX),(F8 D l k x).pend s=some p->x.pend s=some p\/∃j q p',l[j]?=some q/\D (k+j)=true/\q.pw s=some (some p')
 | [],k,x,h=>.inl h
 | r::l,k,x,h=>by
  simp only[F8]at h;rcases b3p l (k+1) _ h with h1|⟨j,q,p',h1,h2,h3⟩
  ·by_cases hd:D k=true
   ·rw[if_pos hd]at h1;simp only[TR.step]at h1;cases hp:r.pw s with
    | none=>rw[hp]at h1;exact .inl h1
    | some q=>
     rw[hp]at h1;simp only[Option.getD_some]at h1;subst h1;exact .inr ⟨0,r,p,rfl,by simpa using hd,hp⟩
   ·rw[if_neg hd]at h1;exact .inl h1
  ·exact .inr ⟨j+1,q,p',by simpa using h1,by rw[show k+(j+1)=k+1+j by omega];exact h2,h3⟩
set_option maxHeartbeats 1000000 in
theorem c0R{E:Ctx}(wf:∀b,E.av b->b<E.w0.heap.size){N:Nat}(hN:E.N=N){ops:Array Oper}{V:List DT}{il:List G6}{az:List Res}{st:St}{K:St->Prop}{Q:Exit->Act->World->Prop}(aR:b2y E.eff ops V=true)(hc:a0z E.P N ops ops.toList=some il)
    (aB:J7 az st.rs) (h:evD E az V il ⟨st.fr,st.rs,[],[],[]⟩ K) (hK:∀st' ν a w,K st'->Good E ν st' a w->Q .normal a w) {ν:List Value} {a:Act} {w:World} (hG:Good E ν st a w) :
    wpAny E.P .any ops Q ops.size (Array.replicate ops.size false) a w:=by
  obtain⟨c1,c2,c3⟩:=c1L aR;have aY:∀(i:Nat) (o:Oper) (t:DT),ops.toList[i]?=some o->V[i]?=some t->t.isE=true\/t.isA=true->o.guard=none:=by
    intro i o t ho ht aA;have:=c2 i o t (by simpa using ho) ht;unfold a9K at this;rw[d0s]at this;have h2:=this.2;cases t with
    | q=>rcases aA with h|h<;>cases h
    | f=>rcases aA with h|h<;>cases h
    | l=>rcases aA with h|h<;>cases h
    | m=>rcases aA with h|h<;>cases h
    | n=>rcases aA with h|h<;>cases h
    | a=>simp only[d0s,Option.isNone_iff_eq_none]at h2;exact h2.1.1
    | e ad sk=>simpa using h2
  obtain⟨tr,FV,PK,st',hF,_,_,aX,hk,aP⟩:=facts hN ops.toList V il ⟨st.fr,st.rs,[],[],[]⟩ hc h aY;obtain⟨l1,l2,aK⟩:=hF.get;have aH:tr.length=ops.size:=by rw[<- l1];simp
  generalize aJ:XD ⟨st.fr,st.rs,[],[],[]⟩=x0 at*;have aw:x0.rs=st.rs:=by rw[<- aJ];rfl
  have as:∀t,x0.pend t=none:=λt=>by rw[<- aJ];rfl
  have af:∀{i:Nat} {r:TR},tr[i]?=some r->∃o t,ops[i]?=some o/\V[i]?=some t/\a5f E az ops FV PK (b5I [] (tr.take i)) o t r (F8 V9 (tr.take i) 0 x0):=by
    intro i r hr;have hi:i<ops.size:=by rw[<- aH];exact(d0i.1 hr).1
    have ho:ops[i]?=some ops[i]:=by simp[hi]
    have ht:V[i]?=some V[i]:=by simp[c1,hi]
    exact⟨_,_,ho,ht,aK i _ _ r (by simpa using ho) ht hr⟩
  have ab:∀{c:C} {pk:List Nat},c∈FV->(∀k∈pk,k∈PK)->c.y9 pk=c:=λa8 I=>a8u λk hk=>a8r aX _ a8 k (I k hk);have ay:∀pk,C.junk.y9 pk=.junk:=λpk=>a8u λk _=>by simp only[C.has]
  refine c4h (Inv:=b6m E) (tr:=tr) (x0:=x0) aH (λi o ho e he O=>?_) (bef ops) (λD aj i j O hD=>a1T aj i j O hD) (λD i o aj ho aL j O=>b3x aj i i o (d0m _) ho aL j O) ?hcomm ?hsem ?hend ops.size (Array.replicate ops.size false) a w (by simp) (by simp) ?hcl0 ?hinv
  · have hi:i<ops.size:=(Array.getElem?_eq_some_iff.1 ho).1
    have ht:V[i]?=some V[i]:=by simp[c1,hi]
    have:=c2 i o _ ho ht;unfold a9K at this;rw[d0s]at this;have F:=List.all_eq_true.1 this.1 e (by simpa using he);simp only[d0R,Bool.not_eq_true',d0t]at F;rcases F with F|F
    · rw[F]at O;cases O
    · exact F
  case hcl0=>
    intro i o ho M e he O;exfalso;have hi:i<ops.size:=(Array.getElem?_eq_some_iff.1 ho).1;simp[hi]at M
  case hinv=>
    have:F8 (λj=>(Array.replicate ops.size false).getD j false) tr 0 x0=x0:=by
      have aT:∀(l:List TR) (k:Nat) (x:SX),F8 (λj=>(Array.replicate ops.size false).getD j false) l k x=x:=by
        intro l
        induction l with
        | nil=>intro k x;rfl
        | cons r l ih=>
          intro k x;simp only[F8];rw[if_neg (by rcases d0B k ops.size with h|h<;>simp[h])];exact ih _ _
      exact aT tr 0 x0
    rw[this];have aV:x0.sf=slot st.fr:=by rw[<- aJ];rfl
    refine⟨ν,λ_=>0,?_,⟨λt p H=>?_,λt t' p p' H=>?_,wf⟩⟩
    · rw[aV,aw]
      refine L9.re hG (Below.refl _ _) rfl rfl rfl rfl rfl rfl λb O=>?_;rcases O with O|⟨t,p,H,_⟩
      · exact⟨.inl O,hG.rg.av b O⟩
      · rw[as]at H;cases H
    · rw[as]at H;cases H
    · rw[as]at H;cases H
  case hend=>
    intro a' w' hI;rw[aP]at hI;obtain⟨a6,B,aO,hP⟩:=hI;refine hK st' a6 a' w' hk (L9.re aO (Below.refl _ _) rfl rfl rfl rfl rfl rfl λb O=>⟨.inl (.inl O),?_⟩);exact d0E (wf b O) aO.rg.n0
  case hcomm=>
    intro i j r q ax hr u W;obtain⟨oi,ti,a7,a0,fi⟩:=af hr;obtain⟨U,J,Z,Y,fj⟩:=af u;have pr:=fi.props;have pq:=fj.props;have H:=c3 i j oi ti U J ax a7 a0 Z Y;have ee:=H.ee.resolve_left W;have eq:=H.eq.resolve_left W;have qe:=H.qe.resolve_left W;refine⟨λt=>?_,λt c aD=>?_,λt c aD=>?_,?_,?_,λt=>?_⟩
    · cases F:r.w t with
      | none=>exact .inl rfl
      | some c=>
        cases h2:q.w t with
        | none=>exact .inr rfl
        | some c'=>exact(H.ww.resolve_left W t (pr.wr t (by rw[F];rfl)) (pq.wr t (by rw[h2];rfl))).elim
    · cases I:q.pk with
      | nil=>rfl
      | cons k l=>
        rw[<- I];have hE:=pq.pkE (by rw[I];simp);rcases pr.wf t c aD with(F|F)|F|F|F|F
        · exact(ee ⟨F,hE⟩).elim
        · exact(qe ⟨F,hE⟩).elim
        · exact ab F pq.pkPK
        · rw[F];exact ay _
        · have:=pq.cln (H.le.resolve_left W F hE);rw[I]at this;cases this
        · exact(W (H.me F hE)).elim
    · cases I:r.pk with
      | nil=>rfl
      | cons k l=>
        rw[<- I];have hE:=pr.pkE (by rw[I];simp);rcases pq.wf t c aD with(F|F)|F|F|F|F
        · exact(ee ⟨hE,F⟩).elim
        · exact(eq ⟨hE,F⟩).elim
        · exact ab F pr.pkPK
        · rw[F];exact ay _
        · have:=pr.cln (H.el.resolve_left W hE F);rw[I]at this;cases this
        · exact a8u λk hk=>fj.mw F aD k (b4W _ _ i r k (by rw[List.getElem?_take,if_pos ax];exact hr) hk)
    · by_cases F:r.pk=[]
      · exact .inl F
      · by_cases h2:q.pk=[]
        · exact .inr h2
        · exact(ee ⟨pr.pkE F,pq.pkE h2⟩).elim
    · by_cases F:r.rs'=none
      · exact .inl F
      · by_cases h2:q.rs'=none
        · exact .inr h2
        · exact(ee ⟨pr.rsE F,pq.rsE h2⟩).elim
    · by_cases F:r.pw t=none
      · exact .inl F
      · by_cases h2:q.pw t=none
        · exact .inr h2
        · exfalso
          rcases pr.pw t F with⟨a1,d1⟩|a1<;>rcases pq.pw t h2 with⟨a2,d2⟩|a2
          · exact H.aa (.inl a1) t d1 d2
          · exact(H.ae a1).resolve_left W t d1 a2
          · exact H.ea a2 t a1 d2
          · exact H.ad t a1 a2
  case hsem=>
    intro i o r D ho hr aj ai aF K' a' w' hI a5;obtain⟨o',t,aG,ht,fi⟩:=af hr;rw[ho]at aG;injection aG with aG;subst aG;have hi:i<tr.length:=(d0i.1 hr).1;have aC:tr=tr.take i++r::tr.drop (i+1):=by
      have e:=List.take_append_drop i tr;rw[List.drop_eq_getElem_cons hi]at e;have:tr[i]=r:=by rw[d0b hi]at hr;injection hr
      rw[this]at e;exact e.symm
    have a4:(tr.take i).length=i:=by rw[d0r];omega
    have hy:F8 D tr 0 x0=F8 D (tr.drop (i+1)) (i+1) (F8 D (tr.take i) 0 x0):=by
      conv=>lhs;rw[aC]
      rw[a7o,a4];simp only[F8,d0A,ai,d0P,if_false]
    have G:∀{j:Nat} {q:TR},(tr.take i)[j]?=some q->j<i/\tr[j]?=some q:=λ{j q} u=>by
      rw[List.getElem?_take]at u;split at u
      · exact⟨by assumption,u⟩
      · cases u
    have A:∀{j:Nat} {q:TR},(tr.drop (i+1))[j]?=some q->tr[i+1+j]?=some q:=λ{j q} u=>by rw[d0Q]at u;exact u
    have ah:∀{j:Nat} {q:TR},j<i->tr[j]?=some q->∃U J,Props E.eff az FV PK U J q/\a9a E.eff ops (bef ops j i) U J o t:=λ{j q} al u=>by
      obtain⟨U,J,Z,Y,fj⟩:=af u;exact⟨U,J,fj.props,c3 j i U J o t al Z Y ho ht⟩
    have ag:∀{j:Nat} {q:TR},i<j->tr[j]?=some q->D j=true->∃U J,Props E.eff az FV PK U J q/\a9a E.eff ops (bef ops i j) o t U J/\¬bef ops i j:=λ{j q} ax u M=>by
      obtain⟨U,J,Z,Y,fj⟩:=af u;exact⟨U,J,fj.props,c3 i j o t U J ax ho ht Z Y,λO=>by have:=a1T aj i j O M;rw[ai]at this;cases this⟩
    have aZ:∀s p,(F8 D tr 0 x0).pend s=some p->o.dst≠some s:=by
      intro s p H aM;rcases b3p tr 0 x0 H with F|⟨j,q,p',F,h2,h3⟩
      · rw[as]at F;cases F
      · rw[d0A]at h2
        rcases Nat.lt_trichotomy j i with ao|an|ap
        · obtain⟨U,J,pj,H⟩:=ah ao F
          obtain⟨a1,d1⟩:=pj.pws s p' h3;exact H.aa (.inl a1) s d1 aM
        · subst an;rw[ai]at h2;cases h2
        · obtain⟨U,J,pj,H,_⟩:=ag ap F h2
          obtain⟨a1,d1⟩:=pj.pws s p' h3;exact H.aa (.inr a1) s aM d1
    have X:∀s∈o.looksAt ops,∀(j:Nat) (q:TR),(tr.take i)[j]?=some q->(q.w s).isSome=true->D j=true:=by
      intro s hs j q u aW;obtain⟨al,aI⟩:=G u;obtain⟨U,J,pj,H⟩:=ah al aI;rcases H.wl with O|O
      · exact aF j O
      · exact(O s hs (pj.wr s aW)).elim
    have R:∀s∈o.looksAt ops,∀(j:Nat) (q:TR),(tr.drop (i+1))[j]?=some q->D (i+1+j)=true->q.w s=none:=by
      intro s hs j q u M;obtain⟨U,J,pj,H,W⟩:=ag (by omega) (A u) M;cases aU:q.w s with
      | none=>rfl
      | some c=>exact(H.lw.resolve_left W s hs (pj.wr s (by rw[aU];rfl))).elim
    have aE:t.isE=true\/t.isQ=true->(∀{j:Nat} {q:TR},j<i->tr[j]?=some q->q.pk≠[]\/q.rs'≠none->D j=true)/\(∀{j:Nat} {q:TR},i<j->tr[j]?=some q->D j=true->q.pk=[]/\q.rs'=none):=by
      intro ac;refine⟨λ{j q} al u ar=>?_,λ{j q} ax u M=>?_⟩
      · obtain⟨U,J,pj,H⟩:=ah al u
        have hE:J.isE=true:=ar.elim pj.pkE pj.rsE;rcases ac with ac|ac
        · exact aF j (H.ee.resolve_right λh=>h ⟨hE,ac⟩)
        · exact aF j (H.eq.resolve_right λh=>h ⟨hE,ac⟩)
      · obtain⟨U,J,pj,H,W⟩:=ag ax u M
        have aN:¬J.isE=true:=λhE=>by
          rcases ac with ac|ac
          · exact H.ee.resolve_left W ⟨ac,hE⟩
          · exact H.qe.resolve_left W ⟨ac,hE⟩
        refine⟨?_,?_⟩
        · cases h0:q.pk with
          | nil=>rfl
          | cons k l=>exact(aN (pj.pkE (by rw[h0];simp))).elim
        · cases h0:q.rs' with
          | none=>rfl
          | some l=>exact(aN (pj.rsE (by rw[h0];simp))).elim
    have au:t.isE=true\/t.isQ=true->agree ops o (F8 V9 (tr.take i) 0 x0) (F8 D tr 0 x0)/\(F8 D tr 0 x0).rs=(F8 V9 (tr.take i) 0 x0).rs:=by
      intro ac;obtain⟨f1,f2⟩:=aE ac;refine⟨λs hs=>?_,?_⟩
      · rw[hy]
        refine a5I _ _ _ (a8V true _ _ rfl _ _ rfl (X s hs) (.inl ⟨rfl,λj q u ar=>?_⟩)) λj q u M=>⟨R s hs j q u M,?_⟩
        · obtain⟨F,h2⟩:=G u
          exact f1 F h2 (.inl ar)
        · rw[(f2 (by omega) (A u) M).1];rfl
      · rw[hy,b7C _ _ _ λj q u M=>(f2 (by omega) (A u) M).2]
        exact c8f _ _ _ λj q u ar=>by
          obtain⟨F,h2⟩:=G u;rw[d0A];exact f1 F h2 (.inr ar)
    have fin:Sem E ops o r (F8 D tr 0 x0)->wpOp E.P ops Q i K' a' w':=λhs=>by
      have:=hs aZ K' Q a' w' hI a5;unfold wpOp;rw[ho];exact this
    cases t with
    | q=>
      obtain⟨_,hs⟩:=fi;obtain⟨F,h2⟩:=au (.inr rfl);exact fin (hs _ F h2)
    | f=>
      obtain⟨_,hv,hs⟩:=fi;refine fin (hs _ (λs T=>?_) ?_)
      · rw[hy]
        obtain⟨am,aq⟩:=hv s T;have I:∀{j:Nat} {q:TR},tr[j]?=some q->((F8 V9 (tr.take i) 0 x0).sf s).y9 q.pk=(F8 V9 (tr.take i) 0 x0).sf s:=λ{j q} u=>by
          obtain⟨_,_,_,_,fj⟩:=af u;exact ab aq fj.props.pkPK
        exact a5I _ _ _ (a8V false _ _ rfl _ _ rfl (X s T) (.inr ⟨am,λj q u=>I (G u).2⟩)) λj q u M=>⟨R s T j q u M,I (A u)⟩
      · refine b9x tr 0 x0 (by rw[aw];exact aB) λj q hj M aS ak=>?_
        rw[d0A]at M;obtain⟨U,J,Z,Y,fj⟩:=af hj;refine fj.props.rsub _ ak ?_;cases hK:J.isK with
        | false=>rfl
        | true=>
          exfalso;rcases Nat.lt_trichotomy j i with ao|an|ap
          · have:=(c3 j i U J o _ ao Z Y ho ht).kl hK
            first
              | exact absurd this.1.1 (by decide)
              | exact absurd this.1.2 (by decide)
              | exact absurd this.2 (by decide)
          · subst an;rw[ai]at M;cases M
          · have H:=c3 i j o _ U J ap ho ht Z Y
            have hE:J.isE=true:=by cases J<;>first|rfl|cases hK
            rcases H.fk hK with O|⟨hf,hl⟩
            · have:=a1T aj i j O M;rw[ai]at this;cases this
            · first
                | exact absurd hf (by decide)
                | (rcases H.le with O|O
                   · have:=a1T aj i j O M;rw[ai]at this;cases this
                   · have F:=O rfl hE
                     rw[hl rfl]at F;cases F)
    | l=>
      obtain⟨_,hv,hs⟩:=fi;refine fin (hs _ (λs T=>?_) ?_)
      · rw[hy]
        obtain⟨am,aq⟩:=hv s T;have I:∀{j:Nat} {q:TR},tr[j]?=some q->((F8 V9 (tr.take i) 0 x0).sf s).y9 q.pk=(F8 V9 (tr.take i) 0 x0).sf s:=λ{j q} u=>by
          obtain⟨_,_,_,_,fj⟩:=af u;exact ab aq fj.props.pkPK
        exact a5I _ _ _ (a8V false _ _ rfl _ _ rfl (X s T) (.inr ⟨am,λj q u=>I (G u).2⟩)) λj q u M=>⟨R s T j q u M,I (A u)⟩
      · refine b9x tr 0 x0 (by rw[aw];exact aB) λj q hj M aS ak=>?_
        rw[d0A]at M;obtain⟨U,J,Z,Y,fj⟩:=af hj;refine fj.props.rsub _ ak ?_;cases hK:J.isK with
        | false=>rfl
        | true=>
          exfalso;rcases Nat.lt_trichotomy j i with ao|an|ap
          · have:=(c3 j i U J o _ ao Z Y ho ht).kl hK
            first
              | exact absurd this.1.1 (by decide)
              | exact absurd this.1.2 (by decide)
              | exact absurd this.2 (by decide)
          · subst an;rw[ai]at M;cases M
          · have H:=c3 i j o _ U J ap ho ht Z Y
            have hE:J.isE=true:=by cases J<;>first|rfl|cases hK
            rcases H.fk hK with O|⟨hf,hl⟩
            · have:=a1T aj i j O M;rw[ai]at this;cases this
            · first
                | exact absurd hf (by decide)
                | (rcases H.le with O|O
                   · have:=a1T aj i j O M;rw[ai]at this;cases this
                   · have F:=O rfl hE
                     rw[hl rfl]at F;cases F)
    | m=>
      obtain⟨_,hv,hs⟩:=fi;refine fin (hs _ (λs T=>?_) ?_)
      · rw[hy]
        obtain⟨am,aq⟩:=hv s T;have I:∀{j:Nat} {q:TR},tr[j]?=some q->((F8 V9 (tr.take i) 0 x0).sf s).y9 q.pk=(F8 V9 (tr.take i) 0 x0).sf s:=λ{j q} u=>by
          obtain⟨_,_,_,_,fj⟩:=af u;exact ab aq fj.props.pkPK
        exact a5I _ _ _ (a8V false _ _ rfl _ _ rfl (X s T) (.inr ⟨am,λj q u=>I (G u).2⟩)) λj q u M=>⟨R s T j q u M,I (A u)⟩
      · refine b9x tr 0 x0 (by rw[aw];exact aB) λj q hj M aS ak=>?_
        rw[d0A]at M;obtain⟨U,J,Z,Y,fj⟩:=af hj;refine fj.props.rsub _ ak ?_;cases hK:J.isK with
        | false=>rfl
        | true=>
          exfalso;rcases Nat.lt_trichotomy j i with ao|an|ap
          · have:=(c3 j i U J o _ ao Z Y ho ht).kl hK
            first
              | exact absurd this.1.1 (by decide)
              | exact absurd this.1.2 (by decide)
              | exact absurd this.2 (by decide)
          · subst an;rw[ai]at M;cases M
          · have H:=c3 i j o _ U J ap ho ht Z Y
            have hE:J.isE=true:=by cases J<;>first|rfl|cases hK
            have:=a1T aj i j (H.me rfl hE) M;rw[ai]at this;cases this
    | n=>
      obtain⟨_,hv,hs⟩:=fi;refine fin (hs _ λs T=>?_)
      · rw[hy]
        obtain⟨am,aq⟩:=hv s T;have I:∀{j:Nat} {q:TR},tr[j]?=some q->((F8 V9 (tr.take i) 0 x0).sf s).y9 q.pk=(F8 V9 (tr.take i) 0 x0).sf s:=λ{j q} u=>by
          obtain⟨_,_,_,_,fj⟩:=af u;exact ab aq fj.props.pkPK
        exact a5I _ _ _ (a8V false _ _ rfl _ _ rfl (X s T) (.inr ⟨am,λj q u=>I (G u).2⟩)) λj q u M=>⟨R s T j q u M,I (A u)⟩
    | a=>
      obtain⟨_,hs⟩:=fi;exact fin (hs _)
    | e ad sk=>
      obtain⟨F,h2⟩:=au (.inl rfl);cases ad with
      | none=>
        obtain⟨_,hs⟩:=fi;exact fin (hs _ F h2)
      | some ta=>
        obtain⟨_,hs⟩:=fi;refine fin (hs _ F h2 ?_);rw[hy,b3u _ _ _ λj q u M=>?_]
        · refine b5S _ _ _ _ rfl λj q u ar=>?_
          obtain⟨al,aI⟩:=G u;obtain⟨U,J,pj,H⟩:=ah al aI;rw[d0A];rcases pj.pw ta ar with⟨a1,d1⟩|a1
          · rcases H.ae a1 with O|O
            · exact aF j O
            · exact(O ta d1 (by simp[DT.ad])).elim
          · exact(H.ad ta a1 (by simp[DT.ad])).elim
        · obtain⟨U,J,pj,H,W⟩:=ag (by omega) (A u) M
          cases a3:q.pw ta with
          | none=>rfl
          | some z=>
            exfalso;rcases pj.pw ta (by rw[a3];simp) with⟨a1,d1⟩|a1
            · exact H.ea a1 ta (by simp[DT.ad]) d1
            · exact H.ad ta (by simp[DT.ad]) a1
def a1Y{eff:Nat->Bool}{P:Program}{N:Nat}{code:Code}{A:IC}(h:comp eff P N code=some A):match(generalizing:=false) A with
  | .skip=>code=.skip
  | .reg l=>∃id ops,code=.region id ops false/\a0z P N ops ops.toList=some l
  | .a1d tg l=>∃id ops,code=.region id ops true/\P.follows .mixedOrders=true/\b2y eff ops (a8Q eff ops.toList)=true/\tg=a8Q eff ops.toList/\a0z P N ops ops.toList=some l
  | .seq x y=>∃a b,code=.seq a b/\comp eff P N a=some x/\comp eff P N b=some y
  | .cond c x y=>∃a b,code=.cond c a b/\comp eff P N a=some x/\comp eff P N b=some y
  | .block id x=>∃a,code=.block id a/\comp eff P N a=some x
  | .loop x=>∃a,code=.loop a/\comp eff P N a=some x
  | .exit id=>code=.exit id
  | .ret=>code=.ret:=by
 unfold comp at h;split at h<;>(try(repeat' split at h))<;>(try cases h)
 all_goals first
  | exact rfl
  | exact⟨_,_,rfl,by assumption,by assumption⟩
  | exact⟨_,_,rfl,by assumption⟩
  | exact⟨_,rfl,by assumption⟩
  | (rename_i u _ _ _;rw[d0s]at u;exact⟨_,_,rfl,u.1,u.2,rfl,by assumption⟩)
inductive It where
 | code (c:IC)
 | blk (id:Nat)
 | inv (J:Act->World->Prop)
mutual
def wpS(E:Ctx)(Q:Exit->Act->World->Prop):List It->Act->World->Prop
 | [],a,w=>Q .normal a w
 | .code c::k,a,w=>∀code,comp E.eff E.P E.N code=some c->code.wp E.P (λe a' w'=>match e with
  | .normal=>wpS E Q k a' w'
  | .exit id=>exS E Q id k a' w'
  | e=>Q e a' w') a w
 | .blk _::k,a,w=>wpS E Q k a w
 | .inv J::_,a,w=>J a w
def exS(E:Ctx)(Q:Exit->Act->World->Prop)(id:Nat):List It->Act->World->Prop
 | [],a,w=>Q (.exit id) a w
 | .code _::k,a,w=>exS E Q id k a w
 | .blk i::k,a,w=>if id=i then wpS E Q k a w else exS E Q id k a w
 | .inv _::k,a,w=>exS E Q id k a w
end
def a3m(id:Nat):List It->Option (List It)
 | []=>none
 | .code _::k=>a3m id k
 | .blk i::k=>if id=i then some k else a3m id k
 | .inv _::k=>a3m id k
def Wf(E:Ctx):Prop:=∀b,E.av b->b<E.w0.heap.size
def S(E:Ctx)(Q:Exit->Act->World->Prop)(st:St)(k:List It):Prop:=Wf E->∀ν a w,Good E ν st a w->wpS E Q k a w
def Ent(E:Ctx)(st st':St):Prop:=Wf E->∀ν a w,Good E ν st a w->∃ν',Good E ν' st' a w
section
variable {E:Ctx} {Q:Exit->Act->World->Prop} {st:St} {k:List It}
def S.weaken{st':St}(h:Ent E st st')(hs:S E Q st' k):S E Q st k:=λu ν a w A=>let ⟨ν',hG'⟩:=h u ν a w A;hs u ν' a w hG'
theorem S.skip(h:S E Q st k):S E Q st (.code .skip::k):=by
 intro B ν a w A code u;have u:=a1Y u;simp only at u;subst u;exact wp_skip (h B ν a w A)
theorem S.seq{x y:IC}(h:S E Q st (.code x::.code y::k)):S E Q st (.code (.seq x y)::k):=by
 intro D ν a w B code I;obtain⟨G,H,rfl,A,F⟩:=a1Y I;refine wp_seq (wp_mono (h D ν a w B G A) λe K J u=>?_);cases e with
 | normal=>exact u H F
 | exit id=>exact u
 | _=>exact u
theorem S.cond{c:Operand}{x y:IC}{b:Bool}(F:opv st.fr c=.v (.bool b))(I:b=true->S E Q st (.code x::k))(N:b=false->S E Q st (.code y::k)):S E Q st (.code (.cond c x y)::k):=by
 intro D ν a w u code M;obtain⟨J,K,rfl,G,H⟩:=a1Y M;have h:=a2H u c;rw[F]at h;have h:a.eval c=.bool b:=by simpa only[Den] using h
 exact wp_cond_split h (λA=>I A D ν a w u J G) (λB=>N B D ν a w u K H)
def S.split(t:Nat){Sx:Value->Prop}(G:slot st.fr t=.any Sx)(h:∀y,Sx y->S E Q ⟨(t,.v y)::st.fr,st.rs⟩ k):S E Q st k:=by
 intro F ν a w u;have A:=u.fr t;rw[G]at A;simp only[Den]at A;refine h _ A F ν a w ⟨u.dfr,u.size,λB=>?_,u.rg,u.frm,u.nu⟩;simp only[slot];cases D:(t==B) with
 | true=>
  have:t=B:=by simpa using D
  subst this;simp[Den]
 | false=>exact u.fr B
theorem S.block{id:Nat}{x:IC}(h:S E Q st (.code x::.blk id::k)):S E Q st (.code (.block id x)::k):=by
 intro D ν a w B code G;obtain⟨F,rfl,A⟩:=a1Y G;refine wp_block (wp_mono (h D ν a w B F A) λe I H u=>?_);cases e with
 | normal=>exact u
 | exit i=>
  simp only[exS]at u;simp only[Exit.inBlock];split
  ·rename_i e;rw[if_pos e]at u;exact u
  ·rename_i e;rw[if_neg e]at u;exact u
 | _=>exact u
theorem S.blk{id:Nat}(h:S E Q st k):S E Q st (.blk id::k):=λA ν a w u=>h A ν a w u
theorem a6M{id:Nat}:∀{k k':List It},a3m id k=some k'->∀a w,wpS E Q k' a w->exS E Q id k a w
 | [],_,h,_,_,_=>by cases h
 | .code _::k,k',h,a,w,hq=>by simp only[exS];exact a6M (k:=k) (by simpa only[a3m] using h) a w hq
 | .blk i::k,k',h,a,w,hq=>by
  simp only[a3m]at h;simp only[exS];split
  ·rename_i e;rw[if_pos e]at h;injection h with h;subst h;exact hq
  ·rename_i e;rw[if_neg e]at h;exact a6M (k:=k) h a w hq
 | .inv _::k,k',h,a,w,hq=>by simp only[exS];exact a6M (k:=k) (by simpa only[a3m] using h) a w hq
theorem S.exit{id:Nat}{A:List It}(F:a3m id k=some A)(h:S E Q st A):S E Q st (.code (.exit id)::k):=by
 intro D ν a w B code u;have u:=a1Y u;simp only at u;subst u;exact wp_exit (a6M F a w (h D ν a w B))
theorem S.ret(h:Wf E->∀ν a w,Good E ν st a w->Q .ret a w):S E Q st (.code .ret::k):=by
 intro B ν a w A code u;have u:=a1Y u;simp only at u;subst u;exact wp_ret (h B ν a w A)
def S.nil(h:Wf E->∀ν a w,Good E ν st a w->Q .normal a w):S E Q st []:=h
theorem S.inv{J:Act->World->Prop}(h:Wf E->∀ν a w,Good E ν st a w->J a w):S E Q st (.inv J::k):=h
theorem S.reg{ops:List G6}(h:ev E ops st λst'=>S E Q st' k):S E Q st (.code (.reg ops)::k):=by
 intro F ν a w D code K;obtain⟨id,u,rfl,I⟩:=a1Y K;exact wp_region_list (b5a rfl (λst' B H G J A=>J F B H G A) u.toList _ st ν a w I h D)
theorem S.a1d{u:List DT}{ops:List G6}(A:List Res)(O:J7 A st.rs)(h:evD E A u ops ⟨st.fr,st.rs,[],[],[]⟩ λst'=>S E Q st' k):S E Q st (.code (.a1d u ops)::k):=by
 intro H ν a w P code K;obtain⟨id,I,rfl,N,G,rfl,T⟩:=a1Y K;have F:Good E ν st a w.drew:=L9.below P (Below.refl _ _).drew;exact wp_region_any N (c0R H rfl G T O h (λst' B J R M D=>M H B J R D) F)
theorem S.loop{u:IC}{X:Type}(h:X->St)(pre:X->Prop)(m:X->Nat)(x0:X)(R:pre x0)(O:Ent E st (h x0))
  (A:∀x,pre x->S E Q (h x) (.code u::.inv (λa w=>∃x' ν',pre x'/\m x'<m x/\Good E ν' (h x') a w)::k)):S E Q st (.code (.loop u)::k):=by
 intro I ν a w M code K;obtain⟨P,rfl,J⟩:=a1Y K;obtain⟨ν',B⟩:=O I ν a w M;refine wp_loop_ghost (λn a w=>∃x ν,m x=n/\pre x/\Good E ν (h x) a w) (m x0) ⟨x0,ν',rfl,R,B⟩ ?_;rintro n a w ⟨x,ν,rfl,N,H⟩;refine wp_mono (A x N I ν a w H P J) λe T U D=>?_;cases e with
 | normal=>
  simp only[wpS]at D;obtain⟨x',ν',G,F,B⟩:=D;exact⟨m x',F,x',ν',rfl,G,B⟩
 | exit id=>exact D
 | _=>exact D
def S.next{X:Type}{u:X->St}{pre:X->Prop}{m:X->Nat}{x:X}(x':X)(F:pre x')(G:m x'<m x)(h:Ent E st (u x')) :
  S E Q st (.inv (λa w=>∃x' ν',pre x'/\m x'<m x/\Good E ν' (u x') a w)::k):=by
 intro D ν a w B;obtain⟨ν',A⟩:=h D ν a w B;exact⟨x',ν',F,G,A⟩
end
mutual
def C.bd(n:Nat):C->Bool
 | .rv l=>decide (l<n)
 | .rp l _ _ _=>decide (l<n)
 | .bp l _=>decide (l<n)
 | .mp l=>decide (l<n)
 | .wv l _ _ _=>decide (l<n)
 | .agg cs=>C.bdL n cs
 | .tup cs=>C.bdL n cs
 | .g _ x=>C.bd n x
 | .clo _ cs=>C.bdL n cs
 | .bnd _ x=>C.bd n x
 | _=>true
def C.bdL(n:Nat):List C->Bool
 | []=>true
 | c::cs=>C.bd n c&&C.bdL n cs
end
def rest(rs':List Res)(k:Nat):Bool:=
 match rs'[k]? with
 | none=>true
 | some .gone=>true
 | _=>false
def O6{α:Type}{l:List α}{n k:Nat}{x:α}(u:k<n)(h:l[k]?=some x):(l.take n)[k]?=some x:=by
 rw[List.getElem?_take,if_pos u];exact h
def a0G{α:Type}{l:List α}{n k:Nat}{x:α}(h:(l.take n)[k]?=some x):l[k]?=some x:=by
 rw[List.getElem?_take]at h;split at h
 ·exact h
 ·cases h
section
variable {ν:List Value} {w:World} {O:Nat->Prop}
mutual
theorem Den.take(n:Nat):∀{c:C} {y:Value},c.bd n=true->Den ν w O c y->Den (ν.take n) w O c y
 | .v _,y,_,h=>by simpa only[Den] using h
 | .agg cs,y,hb,h=>by
  simp only[Den,C.bd]at h hb ⊢;obtain⟨vs,h1,h2⟩:=h;exact⟨vs,l6.takeν n hb h1,h2⟩
 | .tup cs,y,hb,h=>by
  simp only[Den,C.bd]at h hb ⊢;obtain⟨vs,h1,h2⟩:=h;exact⟨vs,l6.takeν n hb h1,h2⟩
 | .sl _ _,y,_,h=>by simpa only[Den] using h
 | .nl,y,_,h=>by simpa only[Den] using h
 | .ep _,y,_,h=>by simpa only[Den] using h
 | .bnd f x,y,hb,h=>by
  simp only[Den,C.bd]at h hb ⊢;obtain⟨v,h1,h2⟩:=h;exact⟨v,Den.take n hb h1,h2⟩
 | .clo f cs,y,hb,h=>by
  simp only[Den,C.bd]at h hb ⊢;obtain⟨vs,h1,h2⟩:=h;exact⟨vs,l6.takeν n hb h1,h2⟩
 | .bp l off,y,hb,h=>by
  simp only[Den,C.bd,d0t]at h hb ⊢;obtain⟨b,h1,h2⟩:=h;exact⟨b,O6 hb h1,h2⟩
 | .rv l,y,hb,h=>by
  simp only[Den,C.bd,d0t]at h hb ⊢;exact⟨O6 hb h.1,h.2⟩
 | .rp l z i off,y,hb,h=>by
  simp only[Den,C.bd,d0t]at h hb ⊢;obtain⟨b,E,c,h1,h2⟩:=h;exact⟨b,E,c,O6 hb h1,h2⟩
 | .mp l,y,hb,h=>by
  simp only[Den,C.bd,d0t]at h hb ⊢;exact⟨O6 hb h.1,h.2⟩
 | .wv l z lo m,y,hb,h=>by
  simp only[Den,C.bd,d0t]at h hb ⊢;obtain⟨A,c,h1,h2,u,B⟩:=h;refine⟨A,c,h1,h2,u,λH=>?_⟩;obtain⟨x,b,G,F⟩:=B H;exact⟨x,b,O6 hb G,F⟩
 | .g p x,y,hb,h=>by
  simp only[Den,C.bd]at h hb ⊢;exact⟨λD=>Den.take n hb (h.1 D),h.2⟩
 | .any _,y,_,h=>by simpa only[Den] using h
 | .junk,y,_,_=>by simp only[Den]
theorem l6.takeν(n:Nat):∀{cs:List C} {vs:List Value},C.bdL n cs=true->l6 ν w O cs vs->l6 (ν.take n) w O cs vs
 | [],vs,_,h=>by simpa only[l6] using h
 | c::cs,vs,hb,h=>by
  simp only[l6,C.bdL,d0s]at h hb ⊢;obtain⟨y,ys,e,h1,h2⟩:=h;exact⟨y,ys,e,Den.take n hb.1 h1,l6.takeν n hb.2 h2⟩
end
def Keeps.sub{O':Nat->Prop}(h:∀b,O' b->O b):Keeps O w O' w:=λb u B=>⟨u,λA=>B (h b A),rfl⟩
def c0n{e sz n:Nat}{y:Value}{es:List (List C)}{vs:List Value}(h:rowAt w e sz y n vs)(hn:es.length=n)(N:∀q∈es,q.length=sz)(Y:FzL w O es.flatten vs)(U:∀u∈vs,u.oneCell'=true)
  (T:∀b,E8 y=some b->b<w.heap.size/\¬O b):Fz w O (.sl sz es) y:=by
 have B:∃A c,y=.slice A n c/\n<=c/\c<=maxLen/\(0<n->∃g,A=some ⟨g,0,none⟩/\g<w.heap.size/\¬O g):=by
  rcases h.2 with⟨rfl,A,rfl⟩|⟨g,cap,X,rfl,R,hg,J,G,W,ht⟩
  ·exact⟨A,0,rfl,d0m _,d0k _,λh=>by omega⟩
  ·obtain⟨I,K⟩:=T g (by simp only[E8];rw[if_neg (by omega)]);exact⟨_,cap,rfl,J,G,λ_=>⟨g,rfl,I,K⟩⟩
 obtain⟨A,c,rfl,M,H,V⟩:=B;subst hn;simp only[Fz];refine⟨A,c,rfl,M,H,λR=>?_⟩;obtain⟨g,rfl,I,K⟩:=V R;refine⟨_,rfl,I,K,FzE.of λk q P=>⟨N q (d0g P),?_⟩⟩;have F:=a3B N P;have E:FzL w O q ((vs.drop (k*sz)).take sz):=by
  have:=(Y.drop (k*sz)).take sz;rwa[F]at this
 refine FzA.of E (λu Z=>U u (List.mem_of_mem_drop (List.mem_of_mem_take Z))) λi v D=>?_;rw[List.getElem?_take]at D;split at D
 ·rw[d0Q]at D;rw[d0A];exact h.cells _ v D
 ·cases D
end
structure Cut(av:Nat->Prop)(rs rs':List Res)(ν:List Value):Prop where
 sub:∀b,OO av rs' (ν.take rs'.length) b->OO av rs ν b
 dead:∀(k:Nat) (r:Res) (x:Value) (b:Nat),rest rs' k=true->rs[k]?=some r->ν[k]?=some x->fp r x b->¬OO av rs' (ν.take rs'.length) b
def X8:List Res->List Res->Bool
 | [],_=>true
 | _::_,[]=>false
 | r'::rs',r::rs=>(match r',r with
  | .gone,_=>true
  | .box _ _,.box _ _=>true
  | .row _ _ _,.row _ _ _=>true
  | .map _ _,.map _ _=>true
  | .fb _ _,.fb _ _=>true
  | _,_=>false)&&X8 rs' rs
theorem a2Y:∀{rs' rs:List Res} {k:Nat} {r':Res},X8 rs' rs=true->rs'[k]?=some r'->∃r,rs[k]?=some r/\(r'=.gone\/∀x b,fp r' x b=fp r x b)
 | [],_,k,r',_,h=>by simp at h
 | _::_,[],_,_,h,_=>by simp[X8]at h
 | q'::rs',q::rs,0,r',h,hk=>by
  simp at hk;subst hk;simp only[X8,d0s]at h;refine⟨q,rfl,?_⟩;have:=h.1;split at this
  ·exact .inl rfl
  ·exact .inr λ_ _=>rfl
  ·exact .inr λ_ _=>rfl
  ·exact .inr λ_ _=>rfl
  ·exact .inr λ_ _=>rfl
  ·cases this
 | q'::rs',q::rs,k+1,r',h,hk=>by
  simp only[X8,d0s]at h;obtain⟨r,u,A⟩:=a2Y (k:=k) h.2 (by simpa using hk);exact⟨r,by simpa using u,A⟩
theorem b1x:∀{rs' rs:List Res},X8 rs' rs=true->rs'.length<=rs.length
 | [],_,_=>by simp
 | _::_,[],h=>by simp[X8]at h
 | _::rs',_::rs,h=>by simp only[X8,d0s]at h;simpa using b1x h.2
section
variable {av own0:Nat->Prop} {n0:Nat} {ν:List Value} {rs rs':List Res} {w:World}
def Cut.of(G:RG av own0 n0 ν rs w)(K:X8 rs' rs=true):Cut av rs rs' ν:=by
 have own:∀b,owned rs' (ν.take rs'.length) b->∃l r x,rest rs' l=false/\rs[l]?=some r/\ν[l]?=some x/\fp r x b:=by
  rintro b ⟨l,F,x,B,D,A⟩;obtain⟨r,hr,h⟩:=a2Y K B;rcases h with rfl|h
  ·exact A.elim
  ·refine⟨l,r,x,?_,hr,a0G D,by rw[<- h];exact A⟩;unfold rest;rw[B];cases F<;>first|rfl|exact A.elim
 refine⟨λb u=>?_,λk r x b O B D A u=>?_⟩
 ·rcases u with u|u
  ·exact .inl u
  ·obtain⟨l,r,x,_,B,D,A⟩:=own b u;exact .inr ⟨l,r,x,B,D,A⟩
 ·rcases u with u|u
  ·exact(G.low b ⟨k,r,x,B,D,A⟩).2.1 u
  ·obtain⟨l,F,I,H,J,M,N⟩:=own b u;have E:k≠l:=λe=>by subst e;rw[O]at H;cases H
   exact G.dis k l r F x I b E B J D M A N
end
def Imp(rs rs':List Res)(c c':C):Prop:=∀av own0 n0 ν w y,RG av own0 n0 ν rs w->Cut av rs rs' ν->Den ν w (OO av rs ν) c y->Den (ν.take rs'.length) w (OO av rs' (ν.take rs'.length)) c' y
def j3(rs rs':List Res):List C->List C->Prop
 | [],[]=>True
 | c::cs,c'::cs'=>Imp rs rs' c c'/\j3 rs rs' cs cs'
 | _,_=>False
section
variable {rs rs':List Res}
def Imp.refl{c:C}(hb:c.bd rs'.length=true):Imp rs rs' c c:=λ_ _ _ _ _ _ _ u h=>Den.take _ hb (Den.keep (Keeps.sub u.sub) h)
def Imp.eq{c c':C}(e:c=c')(h:c'.bd rs'.length=true):Imp rs rs' c c':=by subst e;exact Imp.refl h
theorem Imp.junk{c:C}:Imp rs rs' c .junk:=λ_ _ _ _ _ _ _ _ _=>by simp only[Den]
def Imp.un{x x':C}(h:Imp rs rs' x x'):Imp rs rs' (.g true x) x':=λE u D ν w y F B A=>h E u D ν w y F B (by simp only[Den]at A;exact A.1 trivial)
def Imp.nil:Imp rs rs' (.v (.slice none 0 0)) .nl:=λ_ _ _ _ _ _ _ _ h=>by simp only[Den]at h ⊢;exact⟨_,h⟩
def Imp.D8{sz:Nat}:Imp rs rs' (.v (.slice none 0 0)) (.sl sz []):=λ_ _ _ _ _ _ _ _ h=>by
 simp only[Den,Fz]at h ⊢;exact⟨none,0,h,d0m _,d0k _,λh=>by simp at h⟩
def Imp.frz{k e sz:Nat}{es es':List (List C)}(hk:rs[k]?=some (.row e sz es))(hd:rest rs' k=true)(he:es=es'):Imp rs rs' (.rv k) (.sl sz es'):=λM F K ν w y G E h=>by
 subst he;simp only[Den]at h ⊢;obtain⟨x,A,B⟩:=G.res k _ hk;rw[A]at h;obtain⟨h,_⟩:=h;injection h with h;subst h;obtain⟨J,vs,I,H,u⟩:=B;refine c0n u rfl J (FzL.keep (Keeps.sub E.sub) I) H λb D=>?_;exact⟨G.lt hk A D,E.dead k _ x b hd hk A D⟩
def Imp.win{k e sz n:Nat}{es:List (List C)}(hk:rs[k]?=some (.row e sz es))(F:n=es.length)(hb:k<rs'.length):Imp rs rs' (.rv k) (.wv k sz 0 n):=λR I P ν w y M N h=>by
 subst F;simp only[Den]at h ⊢;obtain⟨x,J,H⟩:=M.res k _ hk;have B:=h.1;rw[J]at B;injection B with B;subst B;obtain⟨V,vs,U,O,D⟩:=H;rcases D.2 with⟨F,A,u⟩|⟨g,cap,K,u,B,T,E,G,_⟩
 ·exact⟨A,0,by rw[u,F],by omega,d0k _,λh=>by omega⟩
 ·exact⟨_,cap,u,E,G,λ_=>⟨x,g,O6 hb J,by rw[u];rfl,by rw[Nat.zero_mul],by rw[u];show cap=0+cap;omega⟩⟩
def Imp.O0{k e sz lo n:Nat}{es es':List (List C)}(hk:rs[k]?=some (.row e sz es))(hd:rest rs' k=true)(hb:lo+n<=es.length)(he:(es.drop lo).take n=es'):Imp rs rs' (.wv k sz lo n) (.sl sz es'):=λav U n0 ν w y V T h=>by
 subst he;simp only[Den]at h ⊢;simp only[Fz];obtain⟨A,c,rfl,N,P,Z⟩:=h;have J:((es.drop lo).take n).length=n:=by rw[d0r,d0L];omega
 rw[J];refine⟨A,c,rfl,N,P,λh0=>?_⟩;obtain⟨x,b,O,B,rfl,_⟩:=Z (by omega);obtain⟨x',D,R⟩:=V.res k _ hk;rw[O]at D;injection D with D;subst D;obtain⟨W,vs,hF,Y,E⟩:=R;rcases E.2 with⟨hn,_⟩|⟨g,cap,aa,F,ab,hg,X,_⟩
 ·omega
 ·subst F;simp only[a5g,Option.some.injEq]at B;subst B;have H:fp (.row e sz es) (.slice (some ⟨g,0,none⟩) es.length cap) g:=by simp only[fp,E8];rw[if_neg (by omega)]
  refine⟨_,rfl,V.lt hk O H,T.dead k _ _ g hd hk O H,FzE.of λi q G=>?_⟩;rw[List.getElem?_take]at G;split at G
  ·rw[d0Q]at G;refine⟨W q (d0g G),?_⟩;have K:=a3B W G;have M:=FzL.keep (Keeps.sub T.sub) hF;have I:FzL w (OO av rs' (ν.take rs'.length)) q ((vs.drop ((lo+i)*sz)).take sz):=by
    have:=(M.drop ((lo+i)*sz)).take sz;rwa[K]at this
   refine FzA.of I (λu hu=>Y u (List.mem_of_mem_drop (List.mem_of_mem_take hu))) λj v F=>?_;rw[List.getElem?_take]at F;split at F
   ·rw[d0Q]at F;have:=E.cells _ v F;rw[K4]at this ⊢;rw[<- this];congr 2;rw[d0A,Nat.add_mul];omega
   ·cases F
  ·cases G
def Imp.fbx{k off t:Nat}{cs cs':List C}(hk:rs[k]?=some (.box t cs))(hd:rest rs' k=true)(hc:j3 rs rs' cs cs')(hcl:C.clL cs'=true)(ho:off=0):Imp rs rs' (.bp k off) (.ep cs'):=λI u M ν w y E G h=>by
 subst ho;simp only[Den]at h ⊢;obtain⟨x,D,F⟩:=E.res k _ hk;obtain⟨b,h,rfl⟩:=h;rw[D]at h;injection h with h;subst h;obtain⟨T,vs,A,B,H,J⟩:=F;cases A;have O:FzL w (OO I rs' (ν.take rs'.length)) cs' vs:=by
  refine l6.fz (ν:=ν.take rs'.length) hcl ?_;clear hk J H hcl
  induction cs generalizing cs' vs with
  | nil=>cases cs'<;>first|exact B|exact hc.elim
  | cons c cs ih=>
   cases cs' with
   | nil=>exact hc.elim
   | cons c' cs'=>
    simp only[l6]at B ⊢;obtain⟨y,R,rfl,N,P⟩:=B;exact⟨y,R,rfl,hc.1 I u M ν w y E G N,ih hc.2 _ P⟩
 simp only[Fz];refine⟨_,rfl,E.lt hk D rfl,G.dead k _ _ b hd hk D rfl,FzA.of O H λi v K=>?_⟩;rw[K4,d0A,d0A,cell_of_row _ b i _ _ _ J];simpa using K
def j3.den{cs u:List C}{av A:Nat->Prop}{D:Nat}{ν:List Value}{w:World}{vs:List Value}(h:j3 rs rs' cs u)(F:RG av A D ν rs w)(E:Cut av rs rs' ν)(B:l6 ν w (OO av rs ν) cs vs) :
  l6 (ν.take rs'.length) w (OO av rs' (ν.take rs'.length)) u vs:=by
 induction cs generalizing u vs with
 | nil=>cases u<;>first|exact B|exact h.elim
 | cons c cs ih=>
  cases u with
  | nil=>exact h.elim
  | cons c' u=>
   simp only[l6]at B ⊢;obtain⟨y,I,rfl,H,G⟩:=B;exact⟨y,I,rfl,h.1 av A D ν w y F E H,ih h.2 G⟩
theorem Imp.agg{cs u:List C}(h:j3 rs rs' cs u):Imp rs rs' (.agg cs) (.agg u):=λI B H ν w y G E A=>by
 simp only[Den]at A ⊢;obtain⟨vs,F,D⟩:=A;exact⟨vs,h.den G E F,D⟩
theorem Imp.tup{cs u:List C}(h:j3 rs rs' cs u):Imp rs rs' (.tup cs) (.tup u):=λI B H ν w y G E A=>by
 simp only[Den]at A ⊢;obtain⟨vs,F,D⟩:=A;exact⟨vs,h.den G E F,D⟩
theorem Imp.clo{f:Nat}{cs u:List C}(h:j3 rs rs' cs u):Imp rs rs' (.clo f cs) (.clo f u):=λI B H ν w y G E A=>by
 simp only[Den]at A ⊢;obtain⟨vs,F,D⟩:=A;exact⟨vs,h.den G E F,D⟩
theorem Imp.g{p:Bool}{x x':C}(h:Imp rs rs' x x'):Imp rs rs' (.g p x) (.g p x'):=λF u E ν w y G D A=>by
 simp only[Den]at A ⊢;exact⟨λB=>h F u E ν w y G D (A.1 B),A.2⟩
def j3.nil:j3 rs rs' [] []:=trivial
def j3.cons{c c':C}{cs cs':List C}(h:Imp rs rs' c c')(hs:j3 rs rs' cs cs'):j3 rs rs' (c::cs) (c'::cs'):=⟨h,hs⟩
theorem j3.refl{cs:List C}(h:C.bdL rs'.length cs=true):j3 rs rs' cs cs:=by
 induction cs with
 | nil=>trivial
 | cons c cs ih=>simp only[C.bdL,d0s]at h;exact⟨Imp.refl h.1,ih h.2⟩
def j3.eq{cs h:List C}(e:cs=h)(u:C.bdL rs'.length h=true):j3 rs rs' cs h:=by subst e;exact j3.refl u
end
def Z0(rs rs':List Res)(fr:List (Nat×C)):List (Nat×C)->Prop
 | []=>True
 | (t,s)::r=>Imp rs rs' (slot fr t) s/\Z0 rs rs' fr r
def Z0.nil{rs rs':List Res}{fr:List (Nat×C)}:Z0 rs rs' fr []:=trivial
def Z0.cons{rs rs':List Res}{fr r:List (Nat×C)}{t:Nat}{s:C}(h:Imp rs rs' (slot fr t) s)(hr:Z0 rs rs' fr r):Z0 rs rs' fr ((t,s)::r):=⟨h,hr⟩
inductive RI (rs rs':List Res):Res->Res->Prop where
 | gone (r:Res):RI rs rs' r .gone
 | row (e sz:Nat) (es es':List (List C)) (h:es=es'):RI rs rs' (.row e sz es) (.row e sz es')
 | map (s:Bool) (es es':List (Value×Value)) (h:es=es'):RI rs rs' (.map s es) (.map s es')
 | fb (e:TypeId) (bs bs':List UInt8) (h:bs=bs'):RI rs rs' (.fb e bs) (.fb e bs')
 | box (t:TypeId) (cs cs':List C) (h:j3 rs rs' cs cs'):RI rs rs' (.box t cs) (.box t cs')
def C9(rs rs':List Res):List Res->List Res->Prop
 | [],_=>True
 | _::_,[]=>False
 | r'::l',r::l=>RI rs rs' r r'/\C9 rs rs' l' l
def C9.nil{rs rs' l:List Res}:C9 rs rs' [] l:=by cases l<;>trivial
def C9.cons{rs rs' l l':List Res}{r r':Res}(h:RI rs rs' r r')(hl:C9 rs rs' l' l):C9 rs rs' (r'::l') (r::l):=⟨h,hl⟩
theorem a2F{rs rs':List Res}:∀{l' l:List Res},C9 rs rs' l' l->X8 l' l=true
 | [],_,_=>by simp[X8]
 | _::_,[],h=>h.elim
 | r'::l',r::l,h=>by
  simp only[X8,d0s];exact⟨by cases h.1<;>rfl,a2F h.2⟩
theorem b4B{rs rs':List Res}:∀{u l:List Res} {k:Nat} {r':Res},C9 rs rs' u l->u[k]?=some r'->∃r,l[k]?=some r/\RI rs rs' r r'
 | [],_,k,r',_,h=>by simp at h
 | _::_,[],_,_,h,_=>h.elim
 | r0::u,r::l,0,r',h,hk=>by
  simp at hk;subst hk;exact⟨r,rfl,h.1⟩
 | r0::u,r::l,k+1,r',h,hk=>by
  obtain⟨q,h1,h2⟩:=b4B (k:=k) h.2 (by simpa using hk);exact⟨q,by simpa using h1,h2⟩
theorem b3A{rs rs':List Res}{fr:List (Nat×C)}:∀{u:List (Nat×C)} (t:Nat),Z0 rs rs' fr u->Imp rs rs' (slot fr t) (slot u t)
 | [],t,_=>Imp.junk
 | (t',s)::r,t,h=>by
  simp only[slot];cases hb:(t'==t) with
  | true=>
   have:t'=t:=by simpa using hb
   subst this;exact h.1
  | false=>exact b3A t h.2
def RG.weak{av B:Nat->Prop}{W:Nat}{ν:List Value}{rs rs':List Res}{w:World}(D:RG av B W ν rs w)(h:C9 rs rs' rs' rs):RG av B W (ν.take rs'.length) rs' w:=by
 have F:=a2F h;have V:Cut av rs rs' ν:=Cut.of D F;have Y:=b1x F;refine⟨by rw[d0r,D.len];omega,λk X G=>?_,λk l r X x x' b K I P H h4 N O=>?_,λb hb=>?_,D.av,D.n0⟩
 ·obtain⟨r,hr,u⟩:=b4B h G;obtain⟨x,hx,A⟩:=D.res k r hr;have J:k<rs'.length:=(d0i.1 G).1;refine⟨x,O6 J hx,?_⟩;cases u with
  | gone=>trivial
  | row e sz es es' he=>
   subst he;obtain⟨M,vs,T,R⟩:=A;exact⟨M,vs,FzL.keep (Keeps.sub V.sub) T,R⟩
  | map s es es' he=>subst he;exact A
  | fb e bs bs' he=>subst he;exact A
  | box t cs cs' he=>
   obtain⟨b,vs,M,T,R⟩:=A;exact⟨b,vs,M,he.den D V T,R⟩
 ·obtain⟨q,hq,u⟩:=a2Y F I;obtain⟨Z,U,E⟩:=a2Y F P;rcases u with rfl|u
  ·exact N.elim
  rcases E with rfl|E
  ·exact O.elim
  rw[u]at N;rw[E]at O;exact D.dis k l q Z x x' b K hq U (a0G H) (a0G h4) N O
 ·obtain⟨l,X,x,I,P,H⟩:=hb;obtain⟨r,hr,u⟩:=a2Y F I;rcases u with rfl|u
  ·exact H.elim
  ·exact D.low b ⟨l,r,x,hr,a0G P,by rw[<- u];exact H⟩
def Ent.mk{E:Ctx}{A:St}(u:List (Nat×C))(rs':List Res)(F:Z0 A.rs rs' A.fr u)(D:C9 A.rs rs' rs' A.rs)(H:E.nu0.length<=rs'.length):Ent E A ⟨u,rs'⟩:=by
 intro I ν a w h;exact⟨ν.take rs'.length,h.dfr,h.size,λt=>b3A t F _ _ _ ν w _ h.rg (Cut.of h.rg (a2F D)) (h.fr t),h.rg.weak D,h.frm,λk x G B=>O6 (d0E (d0i.1 B).1 H) (h.nu k x G B)⟩
def Ent.refl{E:Ctx}{st:St}:Ent E st st:=λ_ ν _ _ h=>⟨ν,h⟩
def Ent.trans{E:Ctx}{st st' st'':St}(h:Ent E st st')(h':Ent E st' st''):Ent E st st'':=λu ν a w A=>let ⟨ν',hG'⟩:=h u ν a w A;h' u ν' a w hG'
def isNil:C->Bool
 | .v (.slice none 0 0)=>true
 | .nl=>true
 | _=>false
def b3j{c:C}{ν:List Value}{w:World}{O:Nat->Prop}{y:Value}(h:isNil c=true)(u:Den ν w O c y):∃A,y=.slice A 0 0:=by
 unfold isNil at h;split at h
 ·simp only[Den]at u;exact⟨none,u⟩
 ·simpa only[Den] using u
 ·cases h
def b8s{av h:Nat->Prop}{D:Nat}{ν:List Value}{rs:List Res}{w:World}(G:RG av h D ν rs w)(A:Option Addr)(e sz:Nat) :
  RG av h D (ν++[.slice A 0 0]) (rs++[.row e sz []]) w/\Mv rs ν w [] (rs++[.row e sz []]) (ν++[.slice A 0 0]) w:=by
 refine G.add (Below.refl _ _) (λb B=>?_) λ_ _=>?_
 ·simp only[fp]at B;cases A<;>simp[E8]at B
 ·exact⟨(λc F=>by cases F),[],by simp[FzL],(λu E=>by cases E),by simp,Or.inl ⟨rfl,A,rfl⟩⟩
def Ent.pack{E:Ctx}{fr:List (Nat×C)}{rs:List Res}(t e sz:Nat)(h:isNil (slot fr t)=true):Ent E ⟨fr,rs⟩ ⟨(t,.rv rs.length)::fr,rs++[.row e sz []]⟩:=by
 intro K ν a w u;obtain⟨A,J⟩:=b3j h (u.fr t);obtain⟨I,D⟩:=b8s u.rg A e sz;refine⟨ν++[.slice A 0 0],u.dfr,u.size,λB=>?_,I,u.frm,λk x F H=>D.nu k x (by simp) (u.nu k x F H)⟩
 show Den _ w (OO E.av (rs++[.row e sz []]) (ν++[.slice A 0 0])) (slot ((t,.rv rs.length)::fr) B) _;simp only[slot];cases G:(t==B) with
 | true=>
  have:t=B:=by simpa using G
  subst this;simp only[cond_true,Den];rw[J];refine⟨?_,A,0,0,rfl⟩;have:=u.rg.len;rw[<- this];simp
 | false=>exact Den.nu D.nu (λk F=>by cases F) (Den.keep D.keeps (u.fr B))
def Ent.a5w{E:Ctx}{fr:List (Nat×C)}{rs:List Res}(k j e sz:Nat){t:TypeId}{cs:List C}{c:C}(B:rs[k]?=some (.box t cs))(hj:cs[j]?=some c)(h:isNil c=true) :
  Ent E ⟨fr,rs⟩ ⟨fr,(rs++[Res.row e sz []]).set k (.box t (cs.set j (.rv rs.length)))⟩:=by
 intro wf ν a w u;obtain⟨x,M,b,vs,rfl,V,Z,hh⟩:=u.rg.res k _ B;obtain⟨y,hy,hd⟩:=V.get hj;obtain⟨A,rfl⟩:=b3j h hd;obtain⟨g1,H⟩:=b8s u.rg A e sz;have F:k<rs.length:=(d0i.1 B).1;have I:k<ν.length:=by rw[u.rg.len];exact F
 have R:(rs++[Res.row e sz []])[k]?=some (.box t cs):=by rw[d0v F];exact B
 have T:(ν++[.slice A 0 0])[k]?=some (.pointer (some ⟨b,0,none⟩)):=by rw[d0v I];exact M
 have U:=g1.upd (r':=.box t (cs.set j (.rv rs.length))) R T ⟨rfl,rfl,rfl,d0m _,λ_ _ _=>rfl⟩ (λ_ h=>h) λJ=>by
  refine⟨b,vs,rfl,?_,Z,hh⟩;have N:l6 (ν++[.slice A 0 0]) w (OO E.av ((rs++[Res.row e sz []]).set k (.box t (cs.set j (.rv rs.length)))) (ν++[.slice A 0 0])) cs vs:=by
   have:=l6.keep J (l6.y9 H.nu (l6.keep (H.keeps (av:=E.av)) V));rwa[show cs.map (C.y9 [])=cs from List.map_id' cs]at this
  have P:∀(cs:List C) (vs:List Value) (j:Nat) (G:C) (O:Nat->Prop) (ν:List Value),l6 ν w O cs vs->(∀y,vs[j]?=some y->Den ν w O G y)->l6 ν w O (cs.set j G) vs:=by
   intro cs
   induction cs with
   | nil=>intro vs j G O ν h _;simpa using h
   | cons c cs ih=>
    intro vs j G O ν h X;simp only[l6]at h;obtain⟨y,K,rfl,Y,W⟩:=h;cases j with
    | zero=>exact⟨y,K,rfl,X y rfl,W⟩
    | succ j=>exact⟨y,K,rfl,Y,ih K j G O ν W λz D=>X z (by simpa using D)⟩
  refine P cs vs j _ _ _ N λz D=>?_;rw[hy]at D;injection D with D;subst D;simp only[Den];refine⟨?_,A,0,0,rfl⟩;have:=u.rg.len;rw[<- this];simp
 refine⟨ν++[.slice A 0 0],u.dfr,u.size,λt'=>?_,U.1,u.frm,λk x B M=>H.nu k x (by simp) (u.nu k x B M)⟩;exact Den.keep U.2.keeps (Den.nu H.nu (λk B=>by cases B) (Den.keep H.keeps (u.fr t')))
def Ent.shrink{E:Ctx}{fr:List (Nat×C)}{rs:List Res}(t k:Nat){e sz m:Nat}{es:List (List C)}(ht:slot fr t=.wv k sz 0 m)(hk:rs[k]?=some (.row e sz es))(hm:m<=es.length)(hp:a5s E [k]) :
  Ent E ⟨fr,rs⟩ ⟨(t,.rv k)::a0R [k] fr,a1h [k] (rs.set k (.row e sz (es.take m)))⟩:=by
 intro wf ν a w M;have hd:=M.fr t;rw[show slot (St.mk fr rs).fr t=.wv k sz 0 m from ht]at hd;simp only[Den]at hd;obtain⟨A,c,hy,P,aa,hA⟩:=hd;obtain⟨x,Z,ac⟩:=M.rg.res k _ hk;obtain⟨hl,vs,hF,h1,H⟩:=ac;have W:k<ν.length:=(d0i.1 Z).1;have ae:rowAt w e sz (.slice A m c) m (vs.take (m*sz))/\∀b,E8 (.slice A m c)=some b->E8 x=some b:=by
  have ai:=H.1;have U:m*sz<=es.length*sz:=d0M _ hm;have J:(vs.take (m*sz)).length=m*sz:=by rw[d0r];omega
  rcases d0K c with Y|Y
  ·subst Y;have:m=0:=by omega
   subst this;refine⟨⟨J,.inl ⟨rfl,A,rfl⟩⟩,λb D=>?_⟩;cases A<;>simp[E8]at D
  ·obtain⟨x',b,F,B,rfl,G⟩:=hA Y;rw[Z]at F;injection F with F;subst F;rcases H.2 with⟨hn,A',rfl⟩|⟨g,cap,R,rfl,g0,hg,ag,ah,ab,af⟩
   ·simp only[capOf]at G;omega
   ·simp only[capOf]at G;simp only[a5g,Option.some.injEq]at B;subst B;have O:cap=c:=by omega
    subst O;refine⟨⟨J,.inr ⟨g,cap,R,by rw[Nat.zero_mul],g0,hg,P,aa,ab,?_⟩⟩,λb D=>?_⟩
    ·rw[<- af,List.take_take,Nat.min_eq_left U]
    ·simp only[E8]at D ⊢;rw[if_neg (by omega)]at D ⊢;exact D
 obtain⟨I,X⟩:=ae;obtain⟨T,hM⟩:=M.rg.b4z (pk:=[k]) (x':=.slice A m c) (r':=.row e sz (es.take m)) hk Z ⟨rfl,rfl,rfl,d0m _,λ_ _ _=>rfl⟩
  (λl z V hz=>by rw[List.getElem?_set_ne (λe=>V (by simp[e]))];exact hz)
  (λb D=>.inl (X b D))
  (λN=>by
   refine⟨λq hq=>hl q (List.mem_of_mem_take hq),vs.take (m*sz),?_,λu hu=>h1 u (List.mem_of_mem_take hu),?_⟩
   ·rw[a7b hl];exact(FzL.keep N hF).take _
   ·rw[d0r,Nat.min_eq_left hm];exact I)
 have h:=M.mv T hM hp;refine⟨ν.set k (.slice A m c),h.dfr,h.size,λK=>?_,h.rg,h.frm,h.nu⟩
 show Den _ w (OO E.av (a1h [k] (rs.set k (.row e sz (es.take m)))) (ν.set k (.slice A m c))) (slot ((t,.rv k)::a0R [k] fr) K) _;simp only[slot];cases D:(t==K) with
 | true=>
  have:t=K:=by simpa using D
  subst this;simp only[cond_true,Den];rw[hy];refine⟨?_,A,m,c,rfl⟩;rw[List.getElem?_set];simp[W]
 | false=>
  simp only[cond_false];rw[a5z];exact h.fr K
def j4:Nat->List C->List (Nat×C)
 | _,[]=>[]
 | n,s::r=>(n,s)::j4 (n+1) r
theorem b3q:∀(n:Nat) (cs:List C) (t:Nat),slot (j4 n cs) t=if t<n then .junk else(cs[t-n]?).getD .junk
 | n,[],t=>by simp[j4,slot]
 | n,s::r,t=>by
  simp only[j4,slot];by_cases h:n=t
  ·subst h;simp
  ·have:(n==t)=false:=by simpa using h
   rw[this];simp only[cond_false];rw[b3q (n+1) r t];by_cases u:t<n
   ·rw[if_pos (by omega),if_pos u]
   ·rw[if_neg (by omega),if_neg u];have:t-n=(t-(n+1))+1:=by omega
    rw[this];rfl
def one(vs:List Value):Value:=
 match vs with
 | [v]=>v
 | vs=>.tuple vs.toArray
def a0K:List C->C
 | [c]=>c
 | cs=>.tup cs
def a3Q(fr:List (Nat×C))(rs:List Res):List RV->(List C->Prop)->Prop
 | [],K=>K []
 | .tmp t::l,K=>a3Q fr rs l λcs=>K (slot fr t::cs)
 | .cell t agg sz::l,K=>a4O rs agg sz (slot fr t) λc=>a3Q fr rs l λcs=>K (c::cs)
def a2N(tmps:Array Value):ResultVar->Go.Sem Value
 | .tmp t=>pure (tmps.getD t undef)
 | .cell a t=>do loadVar t (<- asAddr (tmps.getD a undef))
def b9o(A:Func)(u:Array Value):results A u=(do
  let vs <- A.results.mapM (a2N u)
  pure (if h:vs.size=1 then vs[0] else .tuple vs)):=by
 unfold results;congr 1
section
variable {fr:List (Nat×C)} {rs:List Res}
theorem a9g:∀{rvs:List RV} {K:List C->Prop},a3Q fr rs rvs K->∃cs,K cs/\∀(P:Program) (ν:List Value) (w:World) (O:Nat->Prop) (u:Array Value) (l:List ResultVar),HR ν w O rs->(∀t,Den ν w O (slot fr t) (u.getD t undef)) ->
 X7 P l=some rvs->∃vs,l6 ν w O cs vs/\(l.mapM (a2N u)).run P w=.ok vs w
 | [],K,h=>⟨[],h,λP ν w O u l _ _ hl=>⟨[],by simp[l6],by
  cases l with
  | nil=>simp
  | cons r l=>
   exfalso;cases r with
   | tmp t=>simp only[X7]at hl;split at hl<;>simp at hl
   | cell a t=>simp only[X7]at hl;split at hl<;>simp at hl⟩⟩
 | .tmp t::rvs,K,h=>by
  obtain⟨cs,hk,hall⟩:=a9g (rvs:=rvs) h;refine⟨_,hk,λP ν w O u l G F hl=>?_⟩;cases l with
  | nil=>simp[X7]at hl
  | cons r l=>
   cases r with
   | tmp t'=>
    simp only[X7]at hl;split at hl
    ·rename_i N D;injection hl with hl;injection hl with B E;injection B with B;subst B E;obtain⟨vs,H,J⟩:=hall P ν w O u l G F D;refine⟨_::vs,⟨_,vs,rfl,F t',H⟩,?_⟩;rw[List.mapM_cons];simp only[a2N,Sem.run_bind,Sem.run_pure,Result.andThen_ok];rw[J];rfl
    ·cases hl
   | cell a t=>
    simp only[X7]at hl;split at hl
    ·injection hl with hl;injection hl with B E;cases B
    ·cases hl
 | .cell t agg sz::rvs,K,h=>by
  obtain⟨c,R,I⟩:=b0k h;obtain⟨cs,hk,hall⟩:=a9g (rvs:=rvs) R;refine⟨_,hk,λP ν w O u l G F hl=>?_⟩;cases l with
  | nil=>simp[X7]at hl
  | cons r l=>
   cases r with
   | tmp t'=>
    simp only[X7]at hl;split at hl
    ·injection hl with hl;injection hl with B E;cases B
    ·cases hl
   | cell a ty=>
    simp only[X7]at hl;split at hl
    ·rename_i i d N V W D;injection hl with hl;injection hl with B E;injection B with B U X;subst B E;obtain⟨y,T,A⟩:=I P ty i d ν w O (u.getD a undef) V W U X G (F a);obtain⟨vs,H,J⟩:=hall P ν w O u l G F D;refine⟨y::vs,⟨y,vs,rfl,T,H⟩,?_⟩;rw[List.mapM_cons];have M:(a2N u (.cell a ty)).run P w=.ok y w:=by
      simp only[a2N];revert A;generalize u.getD a undef=x;intro A;revert A;cases x with
      | pointer p=>
       cases p with
       | some ad=>intro A;simpa[Instr.loadAt,Instr.sureAddr,asAddr] using A
       | none=>intro A;simp[Instr.loadAt,Instr.sureAddr,runtimePanic]at A
      | _=>intro A;simp[Instr.loadAt,Instr.sureAddr]at A
     simp only[Sem.run_bind,M,Result.andThen_ok];rw[J];rfl
    ·cases hl
end
def Fin(P:Program)(rvs:List RV)(R:Value->World->Prop):Exit->Act->World->Prop
 | .normal,a,w=>a.defers=[]/\∀l,X7 P l=some rvs->∃vs,(l.mapM (a2N a.tmps)).run P w=.ok vs w/\R (one vs) w
 | .ret,a,w=>a.defers=[]/\∀l,X7 P l=some rvs->∃vs,(l.mapM (a2N a.tmps)).run P w=.ok vs w/\R (one vs) w
 | _,_,_=>False
def H6(E:Ctx)(rs:List Res)(R:Value->World->Prop)(cs:List C):Prop:=Wf E->∀ν w y,RG E.av E.own0 E.w0.heap.size ν rs w->Frm E.own0 E.w0 w->a0t E.pk0 E.nu0 ν->Den ν w (OO E.av rs ν) (a0K cs) y->R y w
def c3P{ν:List Value}{w:World}{O:Nat->Prop}{cs:List C}{vs:List Value}(h:l6 ν w O cs vs):Den ν w O (a0K cs) (one vs):=by
 have u:=h.length
 match cs,vs with
 | [],[]=>exact⟨[],h,rfl⟩
 | [c],[v]=>
  simp only[l6]at h;obtain⟨y,E,e,A,rfl⟩:=h;injection e with B D;subst B;exact A
 | c::c'::cs,v::v'::vs=>exact⟨_,h,rfl⟩
 | [],_::_=>simp at u
 | [_],[]=>simp at u
 | [_],_::_::_=>simp at u
 | _::_::_,[]=>simp at u
 | _::_::_,[_]=>simp at u
def b5o{E:Ctx}{B:St}{rvs:List RV}{R:Value->World->Prop}(h:a3Q B.fr B.rs rvs (H6 E B.rs R))(D:Wf E){ν:List Value}{a:Act}{w:World}(u:Good E ν B a w) :
  a.defers=[]/\∀l,X7 E.P l=some rvs->∃vs,(l.mapM (a2N a.tmps)).run E.P w=.ok vs w/\R (one vs) w:=by
 obtain⟨cs,I,A⟩:=a9g h;refine⟨u.dfr,λl G=>?_⟩;obtain⟨vs,H,F⟩:=A E.P ν w (OO E.av B.rs ν) a.tmps l u.rg.hr u.fr G;exact⟨vs,F,I D ν w _ u.rg u.frm u.nu (c3P H)⟩
def S.done{E:Ctx}{st:St}{k:List It}{rvs:List RV}{R:Value->World->Prop}(h:a3Q st.fr st.rs rvs (H6 E st.rs R)):S E (Fin E.P rvs R) st (.code .ret::k):=
 S.ret λA _ _ _ u=>b5o h A u
def S.end_{E:Ctx}{st:St}{rvs:List RV}{R:Value->World->Prop}(h:a3Q st.fr st.rs rvs (H6 E st.rs R)):S E (Fin E.P rvs R) st []:=
 S.nil λA _ _ _ u=>b5o h A u
def Out(E:Ctx)(r:C)(y:Value)(w:World):Prop:=Below E.w0.heap.size E.w0 w/\Fz w E.av r y
def H6.out{E:Ctx}(u:E.own0=λ_=>False){rs:List Res}{cs:List C}{r:C}(h:Imp rs [] (a0K cs) r)(D:r.cl=true):H6 E rs (Out E r) cs:=by
 intro J ν w y F A _ I;have G:Cut E.av rs [] ν:=Cut.of F (by simp[X8]);have H:=h E.av E.own0 E.w0.heap.size ν w y F G I;refine⟨⟨A.os,A.tape,A.output,A.size,λb B=>A.block b B (by rw[u];exact λh=>h)⟩,Fz.keep (Keeps.sub λb B=>.inl B) (Den.fz D H)⟩
def b0O(E:Ctx)(rs':List Res)(s:C)(y:Value)(w:World):Prop:=
 ∃ν',RG E.av E.own0 E.w0.heap.size ν' rs' w/\Frm E.own0 E.w0 w/\a0t E.pk0 E.nu0 ν'/\Den ν' w (OO E.av rs' ν') s y
def H6.own{E:Ctx}{rs:List Res}{cs:List C}{s:C}(h:a0K cs=s):H6 E rs (b0O E rs s) cs:=by
 subst h;exact λF ν w y D B u A=>⟨ν,D,B,u,A⟩
def H6.b0V{E:Ctx}{rs rs':List Res}{cs:List C}{s:C}(h:Imp rs rs' (a0K cs) s)(h2:C9 rs rs' rs' rs)(h3:E.nu0.length<=rs'.length):H6 E rs (b0O E rs' s) cs:=
 λH ν w y u G B D=>⟨ν.take rs'.length,u.weak h2,G,λk x F A=>O6 (d0E (d0i.1 A).1 h3) (B k x F A),h _ _ _ ν w y u (Cut.of u (a2F h2)) D⟩
def b4H{E:Ctx}{f:Nat}{fn:Func}{F:a3N}{args:List Value}{w:World}{R:Value->World->Prop}(hf:E.P.funcs[f]?=some fn)(B:a0D E.eff E.P fn=some F)(O:E.N=F.ntmps)(T:E.w0=w)(wf:Wf E)
  (rs:List Res) (H:RG E.av E.own0 w.heap.size E.nu0 rs w) (cs:List C) (u:l6 E.nu0 w (OO E.av rs E.nu0) cs args) (Z:cs.length<=F.ntmps)
  (h:S E (Fin E.P F.results R) ⟨j4 0 cs,rs⟩ [.code F.body]):Calls E.P f args.toArray w λe w'=>∃y,e=.returned y/\R y w':=by
 unfold a0D at B;split at B
 ·rename_i c J V K;split at B
  ·rename_i ic M;injection B with B;subst B;refine calls_of_wp hf V ?_;have I:=u.length;have X:args.length<=fn.ntmps:=by rw[I];exact Z
   have hG:Good E E.nu0 ⟨j4 0 cs,rs⟩ { tmps:=args.toArray++Array.replicate (fn.ntmps-args.toArray.size) undef,defers:=[] } w:=by
    refine⟨rfl,?_,λt=>?_,by rw[T];exact H,by rw[T];exact⟨rfl,rfl,rfl,d0m _,λ_ _ _=>rfl⟩,λk x _ hx=>hx⟩
    ·simp[O];omega
    ·show Den E.nu0 w _ (slot (j4 0 cs) t) _;rw[b3q];simp only[Nat.not_lt_zero,if_false,Nat.sub_zero];cases hs:cs[t]? with
     | none=>simp[Den]
     | some s=>
      obtain⟨y,U,hd⟩:=u.get hs;have G:t<args.length:=(d0i.1 U).1;have:(args.toArray++Array.replicate (fn.ntmps-args.toArray.size) undef).getD t undef=y:=by
       rw[Array.getD_eq_getD_getElem?,Array.getElem?_append_left (by simpa using G)];simp[U]
      rw[this];exact hd
   refine wp_mono (h wf E.nu0 _ w hG c (by rw[O];exact M)) λe A w' D=>?_;have fin:∀(A:Act) (w':World),(A.defers=[]/\∀l,X7 E.P l=some J->∃vs,(l.mapM (a2N A.tmps)).run E.P w'=.ok vs w'/\R (one vs) w')->A.defers=[]/\∃v,(results fn A.tmps).run E.P w'=.ok v w'/\∃y,Ending.returned v=.returned y/\R y w':=by
    intro A w' ⟨W,h2⟩;obtain⟨vs,Y,h4⟩:=h2 _ K;refine⟨W,one vs,?_,_,rfl,h4⟩;rw[b9o,Array.mapM_eq_mapM_toList,Sem.run_bind,Sem.run_map,Y];simp only[Result.andThen_ok,Sem.run_pure];congr 1
    match vs with
    | []=>rfl
    | [t]=>rfl
    | a::b::l=>simp[one]
   cases e with
   | normal=>exact fin A w' D
   | ret=>exact fin A w' D
   | exit id=>simp only[exS,Fin]at D
   | goto l=>simp only[Fin]at D
   | panic c=>simp only[Fin]at D
   | outgrown=>simp only[Fin]at D
  ·cases B
 ·cases B
def enter{eff:Nat->Bool}{P:Program}{f:Nat}{H:Func}{D:a3N}{u:List Value}{w:World}{R:Value->World->Prop}(K:P.funcs[f]?=some H)(I:a0D eff P H=some D)
 (O:Nat->Prop) (G:∀b,O b->b<w.heap.size) (cs:List C) (B:FzL w O cs u) (J:cs.length<=D.ntmps)
 (h:S ⟨P,eff,D.ntmps,w,λ_=>False,O,[],[]⟩ (Fin P D.results R) ⟨j4 0 cs,[]⟩ [.code D.body]):Calls P f u.toArray w λe w'=>∃y,e=.returned y/\R y w':=by
 refine b4H (E:=⟨P,eff,D.ntmps,w,λ_=>False,O,[],[]⟩) K I rfl rfl G [] ⟨rfl,λk r A=>by simp at A,λk l r N x M b _ A=>by simp at A,λb F=>?_,G,d0m _⟩ cs ?_ J h
 ·obtain⟨k,r,x,A,_⟩:=F;simp at A
 ·exact(FzL.keep (Keeps.sub λb F=>by
   rcases F with F|⟨k,r,x,A,_⟩
   ·exact F
   ·simp at A) B).den []
def l5.of{E:Ctx}{eff:Nat->Bool}{f:Nat}{K:Func}{D:a3N}(X:E.P.funcs[f]?=some K)(N:a0D eff E.P K=some D){rs:List Res}{u:List C}{s:C}{rs':List Res}{pk:List Nat}(W:u.length<=D.ntmps)
  (h:∀w own av ν,ν.length=rs.length->S ⟨E.P,eff,D.ntmps,w,own,av,ν,pk⟩ (Fin E.P D.results (b0O ⟨E.P,eff,D.ntmps,w,own,av,ν,pk⟩ rs' s)) ⟨j4 0 u,rs⟩ [.code D.body]):l5 E rs f u s rs' pk:=by
 intro av ν w vs A V Y T;have J:RG av (owned rs ν) w.heap.size ν rs w:=⟨A.len,A.res,A.dis,λb B=>⟨(A.low b B).1,(A.low b B).2.1,.inl B⟩,A.av,d0m _⟩
 refine(b4H (E:=⟨E.P,eff,D.ntmps,w,owned rs ν,av,ν,pk⟩) X N rfl rfl A.av rs J u T W (h w (owned rs ν) av ν A.len)).mono ?_;rintro e Z ⟨y,rfl,I,F,G,R,M⟩;refine⟨y,I,rfl,⟨F.len,F.res,F.dis,λb B=>?_,F.av,d0f A.n0 G.size⟩,⟨G.os,G.tape,G.output,G.size,G.block,λb B=>(F.low b B).2.2,R⟩,M⟩;obtain⟨O,U,H⟩:=F.low b B;refine⟨O,U,?_⟩;rcases H with H|H
 ·exact(A.low b H).2.2
 ·exact .inr (d0f A.n0 H)
def p8(P:Program)(f:Nat)(args:List C)(r:C):Prop:=∀(O:Nat->Prop) (w:World) (vs:List Value),(∀b,O b->b<w.heap.size)->FzL w O args vs ->
 Calls P f vs.toArray w λe h=>∃y,e=.returned y/\Below w.heap.size w h/\Fz h O r y
def p8.of{eff:Nat->Bool}{P:Program}{f:Nat}{D:Func}{B:a3N}(H:P.funcs[f]?=some D)(F:a0D eff P D=some B){u:List C}{r:C}(G:u.length<=B.ntmps)
  (h:∀w O,S ⟨P,eff,B.ntmps,w,λ_=>False,O,[],[]⟩ (Fin P B.results (Out ⟨P,eff,B.ntmps,w,λ_=>False,O,[],[]⟩ r)) ⟨j4 0 u,[]⟩ [.code B.body]):p8 P f u r:=by
 intro O w vs E A;exact enter H F O E u A G (h w O)
mutual
def C.flat:C->Bool
 | .v _=>true
 | .agg cs=>C.b1e cs
 | .tup cs=>C.b1e cs
 | .nl=>true
 | .any _=>true
 | _=>false
def C.b1e:List C->Bool
 | []=>true
 | c::cs=>C.flat c&&C.b1e cs
end
section
variable {ν:List Value} {w:World} {O O':Nat->Prop}
mutual
theorem Fz.flat:∀{c:C} {y:Value},c.flat=true->Fz w O c y->Den ν w O' c y
 | .v _,y,_,h=>by simpa only[Fz,Den] using h
 | .agg cs,y,hc,h=>by simp only[Fz,Den,C.flat]at h hc ⊢;obtain⟨vs,h1,h2⟩:=h;exact⟨vs,FzL.flat hc h1,h2⟩
 | .tup cs,y,hc,h=>by simp only[Fz,Den,C.flat]at h hc ⊢;obtain⟨vs,h1,h2⟩:=h;exact⟨vs,FzL.flat hc h1,h2⟩
 | .nl,y,_,h=>by simpa only[Fz,Den] using h
 | .any _,y,_,h=>by simpa only[Fz,Den] using h
 | .sl _ _,y,hc,_=>by simp only[C.flat]at hc;cases hc
 | .ep _,y,hc,_=>by simp only[C.flat]at hc;cases hc
 | .clo _ _,y,hc,_=>by simp only[C.flat]at hc;cases hc
 | .bnd _ _,y,hc,_=>by simp only[C.flat]at hc;cases hc
 | .bp _ _,y,hc,_=>by simp only[C.flat]at hc;cases hc
 | .rv _,y,hc,_=>by simp only[C.flat]at hc;cases hc
 | .rp _ _ _ _,y,hc,_=>by simp only[C.flat]at hc;cases hc
 | .mp _,y,hc,_=>by simp only[C.flat]at hc;cases hc
 | .wv _ _ _ _,y,hc,_=>by simp only[C.flat]at hc;cases hc
 | .g _ _,y,hc,_=>by simp only[C.flat]at hc;cases hc
 | .junk,y,hc,_=>by simp only[C.flat]at hc;cases hc
theorem FzL.flat:∀{cs:List C} {vs:List Value},C.b1e cs=true->FzL w O cs vs->l6 ν w O' cs vs
 | [],vs,_,h=>by simpa only[FzL,l6] using h
 | c::cs,vs,hc,h=>by
  simp only[FzL,l6,C.b1e,d0s]at h hc ⊢;obtain⟨y,ys,e,h1,h2⟩:=h;exact⟨y,ys,e,Fz.flat hc.1 h1,FzL.flat hc.2 h2⟩
end
end
theorem a4T:∀(rs:List Res),X8 rs rs=true
 | []=>rfl
 | r::rs=>by simp only[X8,d0s];exact⟨by cases r<;>rfl,a4T rs⟩
def W9.spec{E:Ctx}{rs:List Res}{p:Bool}{f:Nat}{u h:List C}{r:C}(J:p=true->p8 E.P f h r)(R:p=true->j3 rs rs u h)(H:p=true->C.clL h=true):W9 E rs p f u r:=by
 intro G I ν w vs D T U O;have F:∀b,OO I rs ν b->b<w.heap.size:=λb A=>by
  rcases A with A|A
  ·exact D.av b A
  ·exact(D.low b A).1
 have B:=(R G).den D (Cut.of D (a4T rs)) O;have M:ν.take rs.length=ν:=by rw[<- D.len];exact d0w
 rw[M]at B;refine(J G (OO I rs ν) w vs F (B.fz (H G))).mono ?_;rintro e V ⟨y,rfl,K,N⟩;exact⟨y,rfl,K,N.den ν⟩
def W9.view{E:Ctx}{rs:List Res}{p:Bool}{f:Nat}{u h:List C}{r:C}(K:p=true->p8 E.P f h r)(R:p=true->j3 rs [] u h)(H:p=true->C.clL h=true)(hr:r.flat=true):W9 E rs p f u r:=by
 intro G J ν w vs B T U O;have I:Cut J rs [] ν:=Cut.of B (by simp[X8]);have F:=(R G).den B I O;have D:∀b,OO J [] (ν.take ([]:List Res).length) b->b<w.heap.size:=λb A=>by
  rcases I.sub b A with A|A
  ·exact B.av b A
  ·exact(B.low b A).1
 refine(K G _ w vs D (F.fz (H G))).mono ?_;rintro e V ⟨y,rfl,M,N⟩;exact⟨y,rfl,M,Fz.flat hr N⟩
def j5.quiet{E:Ctx}{rs:List Res}{f:Nat}{u:List C}{K:C->List Res->List Nat->Prop}{r:C}(h:W9 E rs true f u r)(I:K r rs []):j5 E rs f u K:=by
 refine⟨r,rs,[],I,λH ν w vs D A J G=>(h rfl H ν w vs D A J G).mono ?_⟩;rintro e M ⟨y,rfl,B,F⟩;exact⟨y,ν,rfl,D.below B,Mv.of_below B,F⟩
def a1F.quiet{E:Ctx}{st:St}{p:Bool}{f:Nat}{args:List C}{ok:Prop}{d:Option Nat}{K:St->Prop}{r:C}(hok:ok)(h:W9 E st.rs p f args r)(hk:KPg st p d K r):a1F E st p f args ok d K:=.inr ⟨hok,.inr (.inr ⟨r,h,hk⟩)⟩
def a1H.mk{E:Ctx}{rs:List Res}{p:Bool}{f:Nat}{args:List C}{K:C->Prop}{r:C}(h:W9 E rs p f args r)(hk:K r):a1H E rs p f args K:=⟨r,h,hk⟩
def j5.sp{E:Ctx}{rs:List Res}{f:Nat}{h:List C}{K:C->List Res->List Nat->Prop}{r:C}(A:p8 E.P f h r)(u:(C.bdL rs.length h&&C.clL h)=true)(B:K r rs []):j5 E rs f h K:=by
 rw[d0s]at u;exact j5.quiet (W9.spec (λ_=>A) (λ_=>j3.refl u.1) (λ_=>u.2)) B
def a1H.sp{E:Ctx}{rs:List Res}{p:Bool}{f:Nat}{h:List C}{K:C->Prop}{r:C}(A:p8 E.P f h r)(u:(C.bdL rs.length h&&C.clL h)=true)(B:K r):a1H E rs p f h K:=by
 rw[d0s]at u;exact a1H.mk (W9.spec (λ_=>A) (λ_=>j3.refl u.1) (λ_=>u.2)) B
def a1F.sp{E:Ctx}{B:St}{p:Bool}{f:Nat}{h:List C}{ok:Prop}{d:Option Nat}{K:St->Prop}{r:C}(D:p8 E.P f h r)(A:(C.bdL B.rs.length h&&C.clL h)=true)(u:ok)(F:KPg B p d K r):a1F E B p f h ok d K:=by
 rw[d0s]at A;exact a1F.quiet u (W9.spec (λ_=>D) (λ_=>j3.refl A.1) (λ_=>A.2)) F
def l5.imp{E:Ctx}{rs:List Res}{f:Nat}{A u:List C}{s:C}{rs':List Res}{pk:List Nat}(h:l5 E rs f u s rs' pk)(I:j3 rs rs A u):l5 E rs f A s rs' pk:=by
 intro J ν w vs D F H G;have B:=I.den D (Cut.of D (a4T rs)) G;have K:ν.take rs.length=ν:=by rw[<- D.len];exact d0w
 rw[K]at B;exact h J ν w vs D F H B
def j5.t{E:Ctx}{rs:List Res}{f:Nat}{args:List C}{K:C->List Res->List Nat->Prop}{s:C}{rs':List Res}{pk:List Nat}(h:l5 E rs f args s rs' pk)(hk:K s rs' pk):j5 E rs f args K:=⟨s,rs',pk,hk,h⟩
def a3L{rs rs':List Res}{ν:List Value}(D:X8 rs' rs=true){b:Nat}(h:owned rs' ν b):owned rs ν b:=by
 obtain⟨k,E,x,B,A,u⟩:=h;obtain⟨r,hr,h⟩:=a2Y D B;rcases h with rfl|h
 ·exact u.elim
 ·exact⟨k,r,x,hr,A,by rw[<- h];exact u⟩
def j5.b8D{E:Ctx}{rs:List Res}{f:Nat}{A:List C}{K:C->List Res->List Nat->Prop}(u:List C)(rs':List Res){r:C}(X:p8 E.P f u r)(Z:j3 rs rs' A u)(O:C.clL u=true)(I:C9 rs rs' rs' rs)(H:rs'.length=rs.length)(R:K r rs' []):j5 E rs f A K:=by
 refine⟨r,rs',[],R,λV ν w vs M U hF T=>?_⟩;have G:=a2F I;have J:=Z.den M (Cut.of M G) T;have W:ν.take rs'.length=ν:=by rw[H,<- M.len];exact d0w
 have B:=M.weak I;rw[W]at J B;have N:∀b,OO V rs' ν b->b<w.heap.size:=λb F=>by
  rcases F with F|F
  ·exact M.av b F
  ·exact(B.low b F).1
 refine(X _ w vs N (J.fz O)).mono ?_;rintro e w' ⟨y,rfl,D,Y⟩;exact⟨y,ν,rfl,B.below D,⟨D.os,D.tape,D.output,D.size,λb h _=>D.block b h,λb h=>.inl (a3L G h),λ_ _ _ h=>h⟩,Y.den ν⟩
section
variable {E:Ctx} {st st':St} {x x':DS} {hid:List Res} {p p':Bool} {d:Option Nat} {ov:Operand->C} {rs rs':List Res} {fr:List (Nat×C)}
@[congr] theorem ev_congr {l : List G6} {K : St -> Prop} (h : st = st') : ev E l st K = ev E l st' K := by rw[h]
@[congr] theorem ev1_congr {o : G6} {K : St -> Prop} (h : st = st') : ev1 E o st K = ev1 E o st' K := by rw[h]
@[congr] theorem evU_congr {o : IOp} {K : St -> Prop} (h : st = st') : evU E st d o K = evU E st' d o K := by rw[h]
@[congr] theorem evG_congr {o : IOp} {K : St -> Prop} (h : st = st') (hp : p = p') : evG E st p d o K = evG E st' p' d o K := by rw[h, hp]
@[congr] theorem CallH_congr {f : Nat} {l l' : List C} {ok ok' : Prop} {K : St -> Prop} (h : st = st') (hp : p = p') (hl : l = l') (ho : ok = ok') : a1F E st p f l ok d K = a1F E st' p' f l' ok' d K := by rw[h, hp, hl, ho]
@[congr] theorem evE_congr {o : IOp} {K : C -> List Res -> List Nat -> Prop} : evE E ov rs o K = evE E ov rs o K := rfl
@[congr] theorem pureP_congr {o : IOp} {K : C -> Prop} (hp : p = p') : G9 ov rs p o K = G9 ov rs p' o K := by rw[hp]
@[congr] theorem evQ_congr {o : IOp} {K : C -> Prop} (hp : p = p') : evQ E ov rs p o K = evQ E ov rs p' o K := by rw[hp]
@[congr] theorem evQ1_congr {o : G6} {K : C -> Prop} : b2l E fr rs o K = b2l E fr rs o K := rfl
@[congr] theorem evF1_congr {o : G6} {K : C -> Prop} : a8A fr rs o K = a8A fr rs o K := rfl
@[congr] theorem ev1d_congr {t : DT} {o : G6} {K : DS -> Prop} (h : x = x') : a8Y E hid t o x K = a8Y E hid t o x' K := by rw[h]
@[congr] theorem evD_congr {ts : List DT} {l : List G6} {K : St -> Prop} (h : x = x') : evD E hid ts l x K = evD E hid ts l x' K := by rw[h]
@[congr] theorem binP_congr {op : BinOp} {x y x' y' : Value} {K : C -> Prop} (h : x = x') (h' : y = y') (hp : p = p') : a8a op x y p K = a8a op x' y' p' K := by rw[h, h', hp]
@[congr] theorem pickP_congr {c c' : Bool} {x y x' y' : C} {K : C -> Prop} (hp : p = p') (h0 : c = c') (h : x = x') (h' : y = y') : a9J p c x y K = a9J p' c' x' y' K := by rw[h0, h, h', hp]
@[congr] theorem loadP_congr {g : Bool} {n : Nat} {s s' : C} {K : C -> Prop} (h' : s = s') : a4O rs g n s K = a4O rs g n s' K := by rw[h']
@[congr] theorem loadJ_congr {g : Bool} {n : Nat} {s s' : C} {K : C -> Prop} (hp : p = p') (h' : s = s') : b1F rs g n p s K = b1F rs g n p' s' K := by rw[hp, h']
@[congr] theorem loadCs_congr {g : Bool} {n : Nat} {s s' : List C} {K : C -> Prop} (h' : s = s') : a5d g n s K = a5d g n s' K := by rw[h']
@[congr] theorem srcOf_congr {n : Nat} {s s' : C} {k : Option Nat} {K : List (List C) -> Prop} (h' : s = s') : a4R rs n s k K = a4R rs n s' k K := by rw[h']
@[congr] theorem CallOK_congr {f : Nat} {l l' : List C} {K : C -> List Res -> List Nat -> Prop} (h' : l = l') : j5 E rs f l K = j5 E rs f l' K := by rw[h']
@[congr] theorem CallQ_congr {f : Nat} {l l' : List C} {K : C -> Prop} (h' : l = l') : a1H E rs p f l K = a1H E rs p f l' K := by rw[h']
@[congr] theorem retP_congr {l : List RV} {K : List C -> Prop} : a3Q fr rs l K = a3Q fr rs l K := rfl
@[congr] theorem eqC_congr {ks : List LK} {cs ds cs' ds' : List C} {K : Bool -> Prop} (h : cs = cs') (h' : ds = ds') : eqC ks cs ds K = eqC ks cs' ds' K := by rw[h, h']
@[congr] theorem S_congr {Q : Exit -> Act -> World -> Prop} {k : List It} (h : st = st') : S E Q st k = S E Q st' k := by rw[h]
end
def S.c4w{E:Ctx}{Q:Exit->Act->World->Prop}{st:St}{k:List It}{tags:List DT}{ops:List G6}(h:evD E [] tags ops ⟨st.fr,st.rs,[],[],[]⟩ λst'=>S E Q st' k):S E Q st (.code (.a1d tags ops)::k):=S.a1d [] True.intro h
def b6N{p:Prop}:(true=true->p)=p:=by simp
def b6J{p:Prop}:(false=true->p)=True:=by simp
def b7x{p:Prop}:(false=false->p)=p:=by simp
def b6R{p:Prop}:(true=false->p)=True:=by simp
def wrap_i64{n:Int}(h:-9223372036854775808<=n/\n<=9223372036854775807):IntKind.i64.wrap n=n:=by
 have u:IntKind.i64.wrap n=(if n%18446744073709551616>=9223372036854775808 then n%18446744073709551616-18446744073709551616 else n%18446744073709551616):=by
  simp[IntKind.wrap,IntKind.signed,IntKind.bits]
 rw[u];split<;>omega
def wrap_u64{n:Int}(h:0<=n/\n<=18446744073709551615):IntKind.u64.wrap n=n:=by
 have u:IntKind.u64.wrap n=n%18446744073709551616:=by
  simp[IntKind.wrap,IntKind.signed,IntKind.bits]
 rw[u];omega
def wrap_u8{n:Int}(h:0<=n/\n<=255):IntKind.u8.wrap n=n:=by
 have u:IntKind.u8.wrap n=n%256:=by
  simp[IntKind.wrap,IntKind.signed,IntKind.bits]
 rw[u];omega
def wrap_u32{n:Int}(h:0<=n/\n<=4294967295):IntKind.u32.wrap n=n:=by
 have u:IntKind.u32.wrap n=n%4294967296:=by simp[IntKind.wrap,IntKind.signed,IntKind.bits]
 rw[u];omega
def b9P(z:Value)(o:Option Value):b6i false z o=.v (o.getD z):=by cases o<;>rfl
def c0p{α β:Type}(f:α->β)(l:List α)(i:Nat):(l.map f).take i=(l.take i).map f:=List.map_take.symm
def c1j{α β:Type}(f:α->β)(l:List α)(i:Nat):(l.map f).drop i=(l.drop i).map f:=List.map_drop.symm
def c1H(z:Value)(o:Option Value):b6i true z o=.tup [.v (o.getD z),.v (.bool o.isSome)]:=by cases o<;>rfl
def c9l(n:Nat):(no_index (OfNat.ofNat n):Int).toNat=n:=rfl
def ww:(∀n:Int,-9223372036854775808<=n/\n<=9223372036854775807->IntKind.i64.wrap n=n)/\(∀n:Int,0<=n/\n<=18446744073709551615->IntKind.u64.wrap n=n)/\(∀n:Int,0<=n/\n<=255->IntKind.u8.wrap n=n)/\(∀n:Int,0<=n/\n<=4294967295->IntKind.u32.wrap n=n):=
 ⟨λ_=>wrap_i64,λ_=>wrap_u64,λ_=>wrap_u8,λ_=>wrap_u32⟩
class Sg(g:Prop)(p:outParam Prop):Prop where
 go:p->g
def uA{g p:Prop}[h:Sg g p](x:p):g:=h.go x
class Sb(g:Prop)(p:outParam Prop):Prop where
 go:p->g
def uI{g p:Prop}[h:Sb g p](x:p):g:=h.go x
instance{g p:Prop}[h:Sb g p]:Sg g p:=⟨h.go⟩
class Sc(g:Prop)(a b:outParam Prop):Prop where
 go:a->b->g
instance{a b:Prop}:Sc (a/\b) a b:=⟨And.intro⟩
def uK{g a b:Prop}[h:Sc g a b](x:a)(y:b):g:=h.go x y
class By(g:Prop)(E:outParam Ctx)(rs:outParam (List Res))(p:outParam Bool)(f:outParam Nat)(a:outParam (List C))(r:C)(q:outParam Prop):Prop where
 go:W9 E rs p f a r->q->g
section
variable {E:Ctx} {Q:Exit->Act->World->Prop} {st:St} {k:List It} {rs:List Res} {f:Nat} {a a':List C} {r:C} {p:Bool} {ok:Prop} {d:Option Nat}
instance :Sb (S E Q st (.code .skip::k)) (S E Q st k):=⟨S.skip⟩
instance{x y:IC}:Sb (S E Q st (.code (.seq x y)::k)) (S E Q st (.code x::.code y::k)):=⟨S.seq⟩
instance{x:IC}{i:Nat}:Sb (S E Q st (.code (.block i x)::k)) (S E Q st (.code x::.blk i::k)):=⟨S.block⟩
instance{i:Nat}:Sb (S E Q st (.blk i::k)) (S E Q st k):=⟨S.blk⟩
instance{l:List G6}:Sb (S E Q st (.code (.reg l)::k)) (ev E l st λs=>S E Q s k):=⟨S.reg⟩
instance{x y z:Prop}:Sb ((x/\y)/\z) (x/\y/\z):=⟨λh=>and_assoc.2 h⟩
instance{z:Prop}:Sb (True/\z) z:=⟨λh=>⟨trivial,h⟩⟩
instance{z:Prop}{cs:List C}:Sb (leC cs cs/\z) z:=⟨λh=>⟨Q6 _,h⟩⟩
instance{x z:Prop}:Sb ((x->x)/\z) z:=⟨λh=>⟨id,h⟩⟩
class Nq(i j:Nat):Prop where
 ne:i≠j
class Bq(x y:Bool):Prop where
 e:x=y
instance{x:Bool}:Bq x x:=⟨rfl⟩
instance{i j:Nat}[h:Bq (Nat.beq i j) false]:Nq i j:=⟨Nat.ne_of_beq_eq_false h.e⟩
class Pt(i:Nat)(k:List It)(k':outParam (List It)):Prop where
 e:a3m i k=some k'
instance{i:Nat}:Pt i (.blk i::k) k:=⟨by simp[a3m]⟩
instance{i:Nat}{x:IC}{k':List It}[h:Pt i k k']:Pt i (.code x::k) k':=⟨h.e⟩
instance{i:Nat}{J:Act->World->Prop}{k':List It}[h:Pt i k k']:Pt i (.inv J::k) k':=⟨h.e⟩
instance(priority:=low){i j:Nat}{k':List It}[n:Nq i j][h:Pt i k k']:Pt i (.blk j::k) k':=⟨by simp[a3m,n.ne,h.e]⟩
instance{i:Nat}{k':List It}[h:Pt i k k']:Sb (S E Q st (.code (.exit i)::k)) (S E Q st k'):=⟨S.exit h.e⟩
instance{K:St->Prop}:Sb (a1F E st false f a ok d K) (KU st d K):=⟨λh=>.inl ⟨rfl,h⟩⟩
instance{K:St->Prop}:Sb (a1F E st true f a ok d K) (ok/\j5 E st.rs f a (KE E st d K)):=⟨λh=>.inr ⟨h.1,.inl ⟨rfl,h.2⟩⟩⟩
instance{l:List DT}{o:List G6}:Sg (S E Q st (.code (.a1d l o)::k)) (evD E [] l o ⟨st.fr,st.rs,[],[],[]⟩ λs=>S E Q s k):=⟨S.c4w⟩
instance{K:C->List Res->List Nat->Prop}:By (j5 E rs f a K) E rs true f a r (K r rs []):=⟨λh u=>j5.quiet h u⟩
instance{K:C->Prop}:By (a1H E rs p f a K) E rs p f a r (K r):=⟨λh u=>a1H.mk h u⟩
instance{K:St->Prop}:By (a1F E st p f a ok d K) E st.rs p f a r (ok/\KPg st p d K r):=⟨λh u=>a1F.quiet u.1 h u.2⟩
variable {g q:Prop}
def uB{P:Program}(B:p8 P f a' r)[h:By g E rs p f a r q](e:(E.P,a,(C.bdL rs.length a&&C.clL a))=(P,a',true))(x:q):g:=by
 injection e with D A;injection A with A u;rw[d0s]at u;subst D A;exact h.go (W9.spec (λ_=>B) (λ_=>j3.refl u.1) (λ_=>u.2)) x
def uC{P:Program}(A:p8 P f a' r)[h:By g E rs p f a r q](e:(E.P,C.clL a',r.flat)=(P,true,true))(D:j3 rs [] a a')(x:q):g:=by
 injection e with F u;injection u with u B;subst F;exact h.go (W9.view (λ_=>A) (λ_=>D) (λ_=>u) B) x
class Dc(b:Bool)(y n:outParam Prop):Prop where
 y:b=true->y
 n:b=false->n
instance(priority:=low){b:Bool}:Dc b (b=true) (b=false):=⟨id,id⟩
instance{x:Prop}[Decidable x]:Dc (decide x) x (¬x):=⟨of_decide_eq_true,of_decide_eq_false⟩
instance{b:Bool}{x y:Prop}[h:Dc b x y]:Dc (!b) y x:=⟨λe=>h.n (by simpa using e),λe=>h.y (by simpa using e)⟩
instance{b c:Bool}{x y z w:Prop}[h:Dc b x y][i:Dc c z w]:Dc (b&&c) (x/\z) (y\/w):=⟨λe=>by rw[d0s]at e;exact⟨h.y e.1,i.y e.2⟩,λe=>by rw[Bool.and_eq_false_iff]at e;exact e.imp h.n i.n⟩
instance{b c:Bool}{x y z w:Prop}[h:Dc b x y][i:Dc c z w]:Dc (b||c) (x\/z) (y/\w):=⟨λe=>by rw[d0R]at e;exact e.imp h.y i.y,λe=>by rw[d0F]at e;exact⟨h.n e.1,i.n e.2⟩⟩
def uJ{c:Operand}{x y:IC}{b:Bool}{u v:Prop}(hb:opv st.fr c=.v (.bool b))[h:Dc b u v](ht:u->S E Q st (.code x::k))(hf:v->S E Q st (.code y::k)):S E Q st (.code (.cond c x y)::k):=S.cond hb (λe=>ht (h.y e)) λe=>hf (h.n e)
instance(priority:=low){x p z:Prop}[h:Sb x p]:Sb (x/\z) (p/\z):=⟨λe=>⟨h.go e.1,e.2⟩⟩
instance{x:St}{fr':List (Nat×C)}{rs':List Res}:Sb (Ent E x ⟨fr',rs'⟩) (Z0 x.rs rs' x.fr fr'/\C9 x.rs rs' rs' x.rs/\E.nu0.length<=rs'.length):=⟨λh=>Ent.mk _ _ h.1 h.2.1 h.2.2⟩
section
variable {rs' l l':List Res} {fr fr':List (Nat×C)} {c c':C} {u u':Res} {e sz:Nat} {es es':List (List C)} {cs cs':List C} {ms ms':List (Value×Value)} {b:Bool}
instance :Sb (Z0 rs rs' fr []) True:=⟨λ_=>Z0.nil⟩
instance{t:Nat}:Sb (Z0 rs rs' fr ((t,c)::fr')) (Imp rs rs' (slot fr t) c/\Z0 rs rs' fr fr'):=⟨λh=>Z0.cons h.1 h.2⟩
instance :Sb (Imp rs rs' c .junk) True:=⟨λ_=>Imp.junk⟩
instance(priority:=low):Sb (Imp rs rs' c c') (c=c'/\c'.bd rs'.length=true):=⟨λh=>Imp.eq h.1 h.2⟩
instance :Sb (C9 rs rs' [] l) True:=⟨λ_=>C9.nil⟩
instance :Sb (C9 rs rs' (u'::l') (u::l)) (RI rs rs' u u'/\C9 rs rs' l' l):=⟨λh=>C9.cons h.1 h.2⟩
instance :Sb (RI rs rs' u .gone) True:=⟨λ_=>.gone _⟩
instance :Sb (RI rs rs' (.row e sz es) (.row e sz es')) (es=es'):=⟨λh=>.row _ _ _ _ h⟩
instance :Sb (RI rs rs' (.map b ms) (.map b ms')) (ms=ms'):=⟨λh=>.map _ _ _ h⟩
instance :Sb (RI rs rs' (.box e cs) (.box e cs')) (cs=cs'/\C.bdL rs'.length cs'=true):=⟨λh=>.box _ _ _ (j3.eq h.1 h.2)⟩
end
def uF{P:Program}(hs:p8 P f a' r){K:St->Prop}(x:ok/\KPg st false d K r):a1F E st false f a ok d K:=
 .inr ⟨x.1,.inr (.inr ⟨r,(λh=>absurd h (by decide)),x.2⟩)⟩
end
attribute [go_sem] c9l c8u c5Y c5S c2u KE KP KPg KU KR KRD KQd KFd KLd KEd a9r b2p KgP a5s Nat.zero_le ev1 evU evG evE evQ b2l a8A a8Y G9 b9P c1H a8a a9J a4O b1F a5d opv slot strip req reqs a1U a4j a2m splice a1V cellsS a2S a4q
 C.one C.ones C.nj opsV njL a5C J7 a3j rmP a0R a1h C.y9 C.has C.a7p C.a1N Res.y9 U5 a4R b1D F5 b2I IOp.uses eqC K8 K9 a7g a5W a8F a0g a0d a0u Y3 a0Z C.cl C.clL Value.oneCell'
 Option.getD_none cond_true cond_false Bool.and_true Bool.true_and Bool.and_false Bool.false_and Bool.or_true Bool.or_false Bool.true_or Bool.false_or Bool.not_true Bool.not_false List.getElem?_cons_zero List.getElem?_cons_succ List.getElem?_nil false_imp_iff Nat.min_eq_left Nat.min_eq_right d0l d0p d0j List.length_nil List.cons_append List.nil_append List.append_nil
 List.take_succ_cons List.take_zero List.drop_succ_cons List.drop_zero List.take_nil List.drop_nil List.set_cons_zero List.set_cons_succ List.mem_cons List.not_mem_nil or_false b6N b6J b7x b6R Option.toList_some Option.toList_none List.replicate_succ List.replicate_zero d0c Nat.sub_zero c0p c1j true_and and_true implies_true imp_self true_imp_iff beq_true beq_false Bool.cond_false_right Bool.cond_true_left d0d d0q d0e Option.map_none d0h
def cellC(rs:List Res)(agg:Bool)(sz:Nat):C->Option C
 | .bp k off=>match rs[k]? with
  | some (.box _ cs)=>match agg with
   | true=>if Nat.ble sz (cs.drop off).length=true then some (.agg ((cs.drop off).take sz)) else none
   | false=>match cs.drop off with
    | c::_=>some c
    | []=>none
  | _=>none
 | _=>none
def a4r(fr:List (Nat×C))(rs:List Res):List RV->Option (List C)
 | []=>some []
 | .tmp t::l=>match a4r fr rs l with
  | some cs=>some (slot fr t::cs)
  | none=>none
 | .cell t agg sz::l=>match cellC rs agg sz (slot fr t) with
  | some c=>match a4r fr rs l with
   | some cs=>some (c::cs)
   | none=>none
  | none=>none
def c3A{rs:List Res}{agg:Bool}{sz:Nat}{s c:C}{K:C->Prop}(h:cellC rs agg sz s=some c)(u:K c):a4O rs agg sz s K:=by
 unfold cellC at h;split at h
 ·rename_i k off;unfold a4O;simp only;split at h
  ·rename_i A;rw[A];simp only;unfold a5d;cases agg with
   | true=>
    simp only at h ⊢;split at h
    ·rename_i D;injection h with h;subst h;exact⟨d0n D,u⟩
    ·cases h
   | false=>
    simp only at h ⊢;split at h
    ·rename_i B;rw[B];injection h with h;subst h;exact u
    ·cases h
  ·cases h
 ·cases h
theorem a7P{fr:List (Nat×C)}{rs:List Res}:∀{l:List RV} {cs:List C} {K:List C->Prop},a4r fr rs l=some cs->K cs->a3Q fr rs l K
 | [],cs,K,h,hk=>by
  simp only[a4r,Option.some.injEq]at h;subst h;exact hk
 | .tmp t::l,cs,K,h,hk=>by
  unfold a4r at h;split at h
  ·rename_i hl;injection h with h;subst h
   show a3Q fr rs l λcs=>K (slot fr t::cs);exact a7P hl hk
  ·cases h
 | .cell t agg sz::l,cs,K,h,hk=>by
  unfold a4r at h;split at h
  ·rename_i hc;split at h
   ·rename_i hl;injection h with h;subst h
    show a4O rs agg sz (slot fr t) λc=>a3Q fr rs l λcs=>K (c::cs);exact c3A hc (a7P (K:=λcs=>K (_::cs)) hl hk)
   ·cases h
  ·cases h
def uQ{E:Ctx}{st:St}{k:List It}{rvs:List RV}{r:C}{cs:List C}(h:a4r st.fr st.rs rvs=some cs)(hi:Imp st.rs [] (a0K cs) r)(hb:r.cl=true)(hown:E.own0=λ_=>False):S E (Fin E.P rvs (Out E r)) st (.code .ret::k):=
 S.done (a7P h (H6.out hown hi hb))
def uR{E:Ctx}{st:St}{k:List It}{rvs:List RV}{rs':List Res}{s:C}{cs:List C}(h:a4r st.fr st.rs rvs=some cs)(hi:Imp st.rs rs' (a0K cs) s)(h2:C9 st.rs rs' rs' st.rs)(h3:E.nu0.length<=rs'.length):S E (Fin E.P rvs (b0O E rs' s)) st (.code .ret::k):=
 S.done (a7P h (H6.b0V hi h2 h3))
def uS{E:Ctx}{D:St}{k:List It}{rvs:List RV}{r:C}{cs:List C}(h:(a4r D.fr D.rs rvs,a0K cs,(C.bd 0 r&&r.cl))=(some cs,r,true))(u:E.own0=λ_=>False):S E (Fin E.P rvs (Out E r)) D (.code .ret::k):=by
 injection h with F B;injection B with B A;rw[d0s]at A;subst B;exact uQ F (Imp.refl A.1) A.2 u
def nbq{a b:Nat}[h:Nq a b]:(a==b)=false:=beq_false_of_ne h.ne
section
variable {eff:Nat->Bool} {P:Program} {N:Nat} {a b:Code} {x y:IC}
def cS:comp eff P N .skip=some .skip:=rfl
def cT:comp eff P N .ret=some .ret:=rfl
def cE{i:Nat}:comp eff P N (.exit i)=some (.exit i):=rfl
def cA(h:comp eff P N a=some x)(u:comp eff P N b=some y):comp eff P N (.seq a b)=some (.seq x y):=by simp only[comp,h,u]
def cC{c:Operand}(h:comp eff P N a=some x)(u:comp eff P N b=some y):comp eff P N (.cond c a b)=some (.cond c x y):=by simp only[comp,h,u]
def cB{i:Nat}(h:comp eff P N a=some x):comp eff P N (.block i a)=some (.block i x):=by simp only[comp,h]
def cL(h:comp eff P N a=some x):comp eff P N (.loop a)=some (.loop x):=by simp only[comp,h]
def cR{u:_}{ops:Array Oper}{l:List G6}(h:a0z P N ops ops.toList=some l):comp eff P N (.region u ops false)=some (.reg l):=by simp only[comp,h]
def cD{u:_}{ops:Array Oper}{l:List G6}{h:List DT}(A:a8Q eff ops.toList=h)(D:a0z P N ops ops.toList=some l)(B:(P.follows .mixedOrders&&b2y eff ops h)=true):comp eff P N (.region u ops true)=some (.a1d h l):=by
 subst A;simp only[comp,D];rw[if_pos B]
def cF{f:Func}{c:Code}{n:Nat}{rs:List RV}(h:f.body=some c)(u:f.ntmps=n)(B:X7 P f.results.toList=some rs)(A:comp eff P n c=some x):a0D eff P f=some ⟨n,rs,x⟩:=by
 subst u;simp only[a0D,h,B,A]
end
def uk{P Q:Prop}(h:P):(P/\Q)=Q:=propext ⟨And.right,λq=>⟨h,q⟩⟩
def uk2{b:Bool}:(b=false->(!b)=true)=True:=by cases b<;>simp
end Go.Proofs.YtfkipfnkpeobjaaGreatDoor.Eng
