/- A part of the proof: lemmas only, with the conditions that each names. -/
import Derived.Lib.AppendZeros
import Derived.IntWalk
import Derived.Lib.ConvBytes
import Derived.KernelRfl
import Derived.Test.YtpnbklgbfhgknaaGreatDoorJk1
set_option linter.all false
namespace Go.Proofs.YtpnbklgbfhgknaaGreatDoor.Eng
open Go Go.RowKit
section
variable {E:Ctx} {P:Program} {ν:List Value} {rs:List Res} {a:Act} {w:World} {av own0:Nat->Prop} {n0:Nat} {ov:Operand->C}
theorem a4o {P:Program} (w:World) (t u ty e:TypeId) (i:TypeInfo) (ht:P.underlying t=some (.slice e)) (hu:P.underlying u=some .string) (hi:P.info? e=some i) (hz:i.zero=some (.int .u8 0))
 (hsize:i.size=1) (hby:i.bytes=1) (x:Value) (n:Nat) (xs:List Value) (hx:rowAt w e 1 x n xs) (s:ByteArray) (hb:n+s.size<=140737488355328) :
 ∃ x' w',(Builtin.append_ #[t,u] ty #[x,.string s]).run P w=.ok x' w'/\rowAt w' e 1 x' (n+s.size) (xs++Lib.strCells s)/\Turned w w' (fun b=>D5 x=some b) /\
  ∀ b,D5 x'=some b->D5 x=some b \/ (w.heap.size<=b/\b < w'.heap.size):=by
 rcases hx.2 with ⟨rfl,B,rfl⟩|⟨g,cap,cur,rfl,hc0,hg,hnc,hcm,hcs,htake⟩
 ·have hx0:xs=[]:=c8V (by simpa using hx.1);subst hx0;simp only [c8Z,List.nil_append] at hb ⊢;rcases c8Q s.size with h0|h0
  ·refine ⟨.slice B 0 0,w,?_,⟨by rw [Lib.strCells_length];omega,.inl ⟨h0,B,rfl⟩⟩,⟨rfl,rfl,rfl,c8B _,fun _ _ _=>rfl⟩,fun b hb=>.inl hb⟩;have hf:=Lib.run_firstCells_string (P:=P) w 1 s;rw [h0] at hf;have hcs:Lib.strCells s=[]:=c8V (by rw [Lib.strCells_length,h0]);cases B<;>simp [Builtin.append_,run_underlying ht,run_underlying hu,sizeOf,typeInfo,hi,hsize,Builtin.lenOf,h0,hf,hcs,storeCells]
  ·have fin:(Builtin.append_ #[t,u] ty #[.slice B 0 0,.string s]).run P w=.ok (.slice (some ⟨w.heap.size,0,none⟩) s.size (grownCap w s.size 0 e)) (w.drew.alloc (.cells ((Lib.strCells s).toArray++Builtin.zeroCells #[.int .u8 0] (grownCap w s.size 0 e-s.size)) e)):=by
    cases B with
    | none=>
     have:=run_append_nil_string (P:=P) w t u ty e i (.int .u8 0) ht hu hi hz s h0 (by omega) (by rw [hby];omega);have e1:s.data.map (fun b=>Value.int .u8 b.toNat)=(Lib.strCells s).toArray:=by apply Array.ext';simp [Lib.strCells]
     rw [e1] at this;exact this
    | some b=>
     have:=Lib.run_append_grow_string (P:=P) w t u ty e i (.int .u8 0) ht hu hi hz b 0 0 [] (by simp) (by simp) s (by omega) (by omega) (by rw [c8Z,nextslicecap_zero h0,hby];omega);have e2:(Value.int .u8 0).cells=#[.int .u8 0]:=rfl;rw [e2] at this;simpa using this
   have hge:=grownCap_ge w s.size 0 e;have hcm:grownCap w s.size 0 e<=maxLen:=grownCap_le_maxLen w s.size 0 e (by simp only [maxLen];omega);refine ⟨_,_,fin,⟨by rw [Lib.strCells_length];omega,.inr ⟨w.heap.size,_,_,rfl,by omega,heap_alloc_new w.drew _,hge,hcm,?_,?_⟩⟩,⟨rfl,rfl,rfl,by simp,fun b hb _=>heap_alloc_old w.drew _ hb⟩,fun b hb=>?_⟩
   ·simp only [Array.size_append,List.size_toArray,size_zeroCells,Lib.strCells_length];simp;omega
   ·simp only [Array.toList_append,Nat.mul_one];rw [<- Lib.strCells_length];exact List.take_left
   ·simp only [D5] at hb;split at hb
    ·cases hb
    ·injection hb with hb;subst hb;exact .inr ⟨c8B _,by simp⟩
 ·have hown:w.ownsRow 0 e 1 (.slice (some ⟨g,0,none⟩) n cap) n xs:=⟨hx.1,.inr ⟨g,cap,cur,rfl,c8w _,hg,hnc,hcm,hcs,htake⟩⟩
  obtain ⟨v',w',hrun,h2,h3,h5⟩:=b1j (P:=P) w 0 t u ty e i ht hu hi hz hsize hby _ n xs hown s hb (c8w _);have hb:D5 (.slice (some ⟨g,0,none⟩) n cap)=some g:=by simp only [D5];rw [if_neg (by omega)]
  refine ⟨v',w',hrun,.of h2,a0R h3 (fun b hb'=>by simp only [Value.ownBlock] at hb';rw [hb];exact hb'),fun b hb'=>?_⟩;obtain ⟨A',c',rfl⟩:=(rowAt.of h2).slice;have:=a8U hb';rcases h5 with h5|h5
  ·rw [this] at h5;left;rw [hb];exact h5.symm
  ·rw [this] at h5;injection h5 with h5;subst h5;refine .inr ⟨c8B _,?_⟩;rcases h2.2 with ⟨hbad,_⟩|⟨g',cap',cur',he,_,hh,_⟩
   ·injection hbad with q1 _ q3;subst q1;cases hb'
   ·injection he with he;subst he;simp only [Value.ownBlock] at this;injection this with this;subst this;exact (Array.getElem?_eq_some_iff.1 hh).1
theorem a8R {O:Nat->Prop} (s:ByteArray):FzL w O (s.data.toList.map I6).flatten (Lib.strCells s):=by
 unfold Lib.strCells
 induction s.data.toList with
 | nil=>simp [FzL]
 | cons b l ih=>exact ⟨_,_,rfl,rfl,ih⟩
theorem V3 (w:World) (o:Obj):Below w.heap.size w (w.alloc o):=(Below.refl _ _).alloc (c8B _) _
theorem a1U {w w':World} {F:Nat->Prop} (h:Turned w w' F) (hF:∀ b,b < w.heap.size->¬ F b):Below w.heap.size w w':=⟨h.os,h.tape,h.output,h.size,fun b hb=>h.block b hb (hF b hb)⟩
theorem b5t (w:World) (e:TypeId) (b:ByteArray):Below w.heap.size w (Lib.bytesWorld w e b):=
 a1U (F:=fun _=>False) ⟨rfl,rfl,rfl,by rw [Lib.bytesWorld_size];omega,fun j hj _=>Lib.bytesWorld_at_old w e b j hj⟩ fun _ _=>id
theorem c2w {w:World} {O:Nat->Prop} (hO:∀ c,O c->c < w.heap.size) (e:TypeId) (b:ByteArray) (hb:b.size<=140737488355328):Fz (Lib.bytesWorld w e b) O (.sl 1 (b.data.toList.map I6)) (.slice (some ⟨w.heap.size,0,none⟩) b.size (grownCap w b.size 0 e)):=by
 have hl:(b.data.toList.map I6).length=b.size:=by simp
 simp only [Fz];refine ⟨_,_,by rw [hl],by rw [hl];exact grownCap_ge w b.size 0 e,grownCap_le_maxLen w b.size 0 e (by simp only [maxLen];omega),fun h0=>⟨_,rfl,by show w.heap.size < _;rw [Lib.bytesWorld_size];omega,fun h=>Nat.lt_irrefl _ (hO _ h),FzE.of fun k q hq=>?_⟩⟩;have hk:k < b.size:=by have:=(c8v.1 hq).1;omega
 rw [c8x,Option.map_eq_some_iff] at hq;obtain ⟨c,hc,rfl⟩:=hq;refine ⟨rfl,?_⟩;simp only [I6,FzA,and_true,Fz];refine ⟨_,?_,rfl,rfl⟩;have h1:=Lib.bytesWorld_cell w e b k hk;rw [show b.data.toList.getD k 0=c by rw [c8C,hc];rfl] at h1;rw [<- h1];simp only [Addr.add,Nat.mul_one,c8Z,Nat.add_zero];by_cases k0:k=0
 ·subst k0;simp
 ·simp [k0]
theorem M5 {P:Program} {f:Nat} (h:callable P f=true) (args:Array Value) (w:World):(callFunc f args).run P w=.ok (.enter f args) w:=by
 unfold callable at h;split at h
 ·rename_i fn hf;simp only [c8F,Bool.not_eq_true'] at h;simp only [callFunc,Sem.run_bind,run_program,Result.andThen_ok,hf,h.1,h.2,c9d,if_false,Sem.run_pure]
 ·cases h
theorem a7R {a:Act} {c:Call} {f:Nat} {ty:TypeId} {dst:Option Tmp} {pos:String} {after:Array Edge} {guard:Option (Nat × Bool)} (hc:c.callee=.value (.func f)) :
  execOp a.eval { dst,op:=.call c,type:=ty,pos,after,guard }=callFunc f (c.args.toList.map a.eval).toArray:=by
 obtain ⟨cal,args,ats⟩:=c;simp only at hc;subst hc;have:execOp a.eval { dst,op:=.call { callee:=.value (.func f),args,argTypes:=ats },type:=ty,pos,after,guard }=callFunc f (#[]++args.map a.eval++#[]):=rfl;rw [this];obtain ⟨args⟩:=args;simp
theorem a5C {P:Program} {t:TypeId} {i:TypeInfo} {b off:Nat} {te:TypeId} {cur:Array Value} {y:Value} (hi:P.info? t=some i) (hb:w.heap[b]?=some (.cells cur te (0,0)))
  (hl:y.cells.toList.length=i.size) (hfit:off+i.size<=cur.size) (h1:∀ u ∈ y.cells.toList,u.oneCell'=true) :
  (Instr.storeAt t (.pointer (some ⟨b,off,none⟩)) y).run P w=.ok () (w.setRow b (cur.toList.take off++y.cells.toList++cur.toList.drop (off+i.size)).toArray):=by
 have hst:=run_storeCells_at P b off te y.cells.toList 0 cur w hb (by rw [hl];simpa using hfit) h1;simp only [Nat.add_zero,hl] at hst;have hs:y.cells.size=i.size:=by simpa using hl
 simp [Instr.storeAt,Instr.sureAddr,storeVar,sizeOf,typeInfo,hi,hs,hst]
theorem a2t {a:Act} {c:Call} {x:Operand} {f:Nat} {caps:List Value} {ty:TypeId} {dst:Option Tmp} {pos:String} {after:Array Edge} {guard:Option (Nat × Bool)} (hc:c.callee=.value x) (hx:a.eval x=.func (.func f) #[] caps.toArray) :
  execOp a.eval { dst,op:=.call c,type:=ty,pos,after,guard }=callFunc f (c.args.toList.map a.eval++caps).toArray:=by
 obtain ⟨cal,args,ats⟩:=c;simp only at hc;subst hc;have:execOp a.eval { dst,op:=.call { callee:=.value x,args,argTypes:=ats },type:=ty,pos,after,guard }=(Deferred.ofValue (a.eval x) (args.map a.eval) >>= fun d=>invoke d.target d.args):=rfl;rw [this,hx];obtain ⟨args⟩:=args;have h2:(Deferred.ofValue (.func (.func f) #[] caps.toArray) ((⟨args⟩:Array Operand).map a.eval) >>= fun d=>invoke d.target d.args)=callFunc f (#[]++(⟨args⟩:Array Operand).map a.eval++caps.toArray):=rfl;rw [h2];simp
theorem c2x {a:Act} {c:Call} {x:Operand} {f:Nat} {v:Value} {ty:TypeId} {dst:Option Tmp} {pos:String} {after:Array Edge} {guard:Option (Nat × Bool)} (hc:c.callee=.value x) (hx:a.eval x=.func (.func f) #[v] #[]) :
  execOp a.eval { dst,op:=.call c,type:=ty,pos,after,guard }=callFunc f (v::c.args.toList.map a.eval).toArray:=by
 obtain ⟨cal,args,ats⟩:=c;simp only at hc;subst hc;have:execOp a.eval { dst,op:=.call { callee:=.value x,args,argTypes:=ats },type:=ty,pos,after,guard }=(Deferred.ofValue (a.eval x) (args.map a.eval) >>= fun d=>invoke d.target d.args):=rfl;rw [this,hx];obtain ⟨args⟩:=args;have h2:(Deferred.ofValue (.func (.func f) #[v] #[]) ((⟨args⟩:Array Operand).map a.eval) >>= fun d=>invoke d.target d.args)=callFunc f (#[v]++(⟨args⟩:Array Operand).map a.eval++#[]):=rfl;rw [h2];simp
theorem b1E:∀ (es:List MapEntry) (i:Nat) (kd:TypeDesc) (str:Bool) (key u:Value),((str=true/\kd=.string) \/ (str=false/\∃ k,kd=.int k))->U9 str key=true->(∀ e ∈ es,U9 str e.key=true) ->
  (Instr.findNow kd key es i=some none->a1Q key u (es.map fun e=>(e.key,e.val))=(es.map fun e=>(e.key,e.val))++[(key,u)]) /\
  (∀ j v,Instr.findNow kd key es i=some (some (j,v))->i<=j/\∃ e,es[j-i]?=some e/\a1S key e.key=true/\a1Q key u (es.map fun e=>(e.key,e.val))=(es.modify (j-i) fun e=>{ e with key,val:=u }).map fun e=>(e.key,e.val))
 | [],i,kd,str,key,u,_,_,_=>⟨fun _=>rfl,fun j v h=>by simp [Instr.findNow] at h⟩
 | e::es,i,kd,str,key,u,hk,h0,h=>by
  have h1:=h e (by simp);obtain ⟨k1,k2⟩:=b1E es (i+1) kd str key u hk h0 (fun e' he=>h e' (by simp [he]));have same:∃ b,Instr.sameNow kd key e.key=some b/\b=a1S key e.key:=by
   rcases hk with ⟨rfl,rfl⟩|⟨rfl,k,rfl⟩
   ·obtain ⟨a,rfl⟩:=a2b h0;obtain ⟨b,hb⟩:=a2b h1;rw [hb];exact ⟨_,rfl,bytes_beq a b⟩
   ·obtain ⟨a,rfl⟩:=a1W h0;obtain ⟨b,hb⟩:=a1W h1;rw [hb];exact ⟨_,rfl,rfl⟩
  obtain ⟨b,hs,hb⟩:=same;cases hkb:b with
  | true=>
   rw [hkb] at hs hb;refine ⟨fun hf=>by simp [Instr.findNow,hs] at hf,fun j v hf=>?_⟩;simp [Instr.findNow,hs] at hf;obtain ⟨rfl,rfl⟩:=hf;refine ⟨c8B _,e,by simp,hb.symm,?_⟩;simp [a1Q,<- hb]
  | false=>
   rw [hkb] at hs hb;refine ⟨fun hf=>?_,fun j v hf=>?_⟩
   ·simp [Instr.findNow,hs] at hf;simp [a1Q,<- hb,k1 hf]
   ·simp [Instr.findNow,hs] at hf;obtain ⟨g1,e',g2,g3,g4⟩:=k2 j v hf;refine ⟨by omega,e',?_,g3,?_⟩
    ·rw [show j-i=(j-(i+1))+1 by omega];simpa using g2
    ·rw [show j-i=(j-(i+1))+1 by omega];simp [a1Q,<- hb,g4]
theorem b7U {str:Bool} {a b:Value} (ha:U9 str a=true) (hb:U9 str b=true) (h:a1S a b=true):a=b:=by
 cases str with
 | true=>
  obtain ⟨x,rfl⟩:=a2b ha;obtain ⟨y,rfl⟩:=a2b hb;simp [a1S] at h;rw [h]
 | false=>
  obtain ⟨x,rfl⟩:=a1W ha;obtain ⟨y,rfl⟩:=a1W hb;simp [a1S] at h;rw [h]
theorem b3E {str:Bool} {a:Value} (ha:U9 str a=true):Instr.sameBits 10000 a a=true:=by
 cases str with
 | true=>obtain ⟨x,rfl⟩:=a2b ha;show (x == x)=true;rw [bytes_beq];simp
 | false=>obtain ⟨x,rfl⟩:=a1W ha;show (IntKind.i64 == IntKind.i64 && x == x)=true;simp
theorem b1P {str:Bool} {key u:Value} (h0:U9 str key=true):∀ {es:List (Value × Value)},(∀ e ∈ es,U9 str e.1=true)->∀ e ∈ a1Q key u es,U9 str e.1=true
 | [],_,e,he=>by simp [a1Q] at he;subst he;exact h0
 | (k',v')::es,h,e,he=>by
  simp only [a1Q] at he;split at he
  ·cases List.mem_cons.1 he with
   | inl q=>subst q;exact h0
   | inr q=>exact h e (by simp [q])
  ·cases List.mem_cons.1 he with
   | inl q=>subst q;exact h (k',v') (by simp)
   | inr q=>exact b1P h0 (fun e he=>h e (by simp [he])) e q
theorem b2r {t e:TypeId} {str:Bool} (hk:a1O P t=some (str,e)) {b:Nat} {ents:Array MapEntry} {clock:Nat} {key u:Value}
  (hb:w.heap[b]?=some (.map ents clock)) (hks:∀ x ∈ ents.toList,U9 str x.key=true) (h0:U9 str key=true) :
  ∃ ents' clock',(Instr.mapUpdate t (.map (some b)) key u).run P w=.ok () { w with heap:=w.heap.setIfInBounds b (.map ents' clock') }/\ents'.toList.map (fun e=>(e.key,e.val))=a1Q key u (ents.toList.map fun e=>(e.key,e.val)):=by
 obtain ⟨k,kd,h1,h2,h3⟩:=a5p hk;obtain ⟨r,h4,_⟩:=findNow_spec h3 h0 ents.toList 0 hks;obtain ⟨m1,m2⟩:=b1E ents.toList 0 kd str key u h3 h0 hks;have hg:(getObj b).run P w=.ok (.map ents clock) w:=by simp [getObj,Sem.run,hb]
 have hf:(Instr.findKey k key ents.toList).run P w=.ok r w:=by
  unfold Instr.findKey;simp [Sem.run_bind,run_underlying h2,h4]
 have hc:=run_checkKey (w:=w) h2 h3 false key;have hset:∀ es' c',(setObj b (.map es' c')).run P w=.ok () { w with heap:=w.heap.setIfInBounds b (.map es' c') }:=fun es' c'=>by simp [setObj,Sem.run,hb]
 cases r with
 | none=>
  refine ⟨ents.push { key,val:=u,born:=clock },clock+1,?_,?_⟩
  ·unfold Instr.mapUpdate;simp only [Sem.run_bind,run_underlying h1,Result.andThen_ok,hg,hc,hf,hset]
  ·rw [m1 h4];simp
 | some q=>
  obtain ⟨j,v⟩:=q;obtain ⟨_,e',he',hke,hm⟩:=m2 j v h4;have hko:U9 str e'.key=true:=hks e' (c8t he');have hsame:=b7U h0 hko hke;have hstay:(Instr.keyThatStays (((ents[j]?).map (·.key)).getD key) key).run P w=.ok key w:=by
   have:((ents[j]?).map (·.key)).getD key=key:=by
    have:ents[j]?=some e':=by simpa using he'
    rw [this];simp [<- hsame]
   rw [this];unfold Instr.keyThatStays;rw [if_pos (b3E h0)];rfl
  refine ⟨ents.modify j fun e=>{ e with key,val:=u },clock,?_,?_⟩
  ·unfold Instr.mapUpdate;simp only [Sem.run_bind,run_underlying h1,Result.andThen_ok,hg,hc,hf,hstay,hset]
  ·rw [hm];simp
def X0 (E:Ctx) (ov:Operand->C) (rs:List Res) (io:IOp) (oo:Oper) (s:C) (rs':List Res) (pk:List Nat):Prop:=
 ∀ (av:Nat->Prop) (ν:List Value) (a:Act) (w:World),RG av E.own0 E.w0.heap.size ν rs w->(∀ b,E.av b->av b)->Frm E.own0 E.w0 w->(∀ x ∈ io.uses,Den ν w (OO av rs ν) (ov x) (a.eval x)) ->
  ∀ (K':Act->World->Prop) (Q:Exit->Act->World->Prop),(∀ y ν' w',RG av E.own0 E.w0.heap.size ν' rs' w'->Mv rs ν w pk rs' ν' w'->Den ν' w' (OO av rs' ν') s y->K' (a.put oo.dst y) w')->oo.wp E.P a w K' Q
theorem X0.val {io:IOp} {oo:Oper} {s:C} {rs':List Res} {pk:List Nat} (h:∀ (av:Nat->Prop) (ν:List Value) (a:Act) (w:World),RG av E.own0 E.w0.heap.size ν rs w->Frm E.own0 E.w0 w->(∀ x ∈ io.uses,Den ν w (OO av rs ν) (ov x) (a.eval x)) ->
  ∃ w' y ν',(execOp a.eval oo).run E.P w=.ok (.value y) w'/\(RG av E.own0 E.w0.heap.size ν' rs' w'/\Mv rs ν w pk rs' ν' w')/\Den ν' w' (OO av rs' ν') s y):X0 E ov rs io oo s rs' pk:=by
 intro av ν a w hR _ hF hO K' Q hK;obtain ⟨w',y,ν',h1,h2,h3⟩:=h av ν a w hR hF hO;unfold Oper.wp;rw [h1];exact hK y ν' w' h2.1 h2.2 h3
theorem X0.skip {io:IOp} {oo:Oper} {s:C} {rs':List Res} {pk:List Nat} (h:∀ (av:Nat->Prop) (ν:List Value) (a:Act) (w:World),RG av E.own0 E.w0.heap.size ν rs w->Frm E.own0 E.w0 w->(∀ x ∈ io.uses,Den ν w (OO av rs ν) (ov x) (a.eval x)) ->
  ∃ w' ν',(execOp a.eval oo).run E.P w=.ok .skip w'/\(RG av E.own0 E.w0.heap.size ν' rs' w'/\Mv rs ν w pk rs' ν' w')/\Den ν' w' (OO av rs' ν') s undef):X0 E ov rs io oo s rs' pk:=by
 intro av ν a w hR _ hF hO K' Q hK;obtain ⟨w',ν',h1,h2,h3⟩:=h av ν a w hR hF hO;unfold Oper.wp;rw [h1];exact hK undef ν' w' h2.1 h2.2 h3
theorem X0.call {io:IOp} {oo:Oper} {s:C} {rs':List Res} {pk:List Nat} {f:Nat} {cs:List C} (hc:l7 E rs f cs s rs' pk) (h:∀ (av:Nat->Prop) (ν:List Value) (a:Act) (w:World),RG av E.own0 E.w0.heap.size ν rs w->(∀ x ∈ io.uses,Den ν w (OO av rs ν) (ov x) (a.eval x)) ->
  ∃ vs:List Value,(execOp a.eval oo).run E.P w=.ok (.enter f vs.toArray) w/\j6 ν w (OO av rs ν) cs vs):X0 E ov rs io oo s rs' pk:=by
 intro av ν a w hR hav hF hO K' Q hK;obtain ⟨vs,h1,h2⟩:=h av ν a w hR hO;unfold Oper.wp;rw [h1];refine (hc av ν w vs hR hav hF h2).mono ?_;rintro e w' ⟨y,ν',rfl,hr,hm,hd⟩;exact hK y ν' w' hr hm hd
theorem b6o (hR:RG av own0 n0 ν rs w) (t:TypeId) (cs:List C) (vs:List Value) (hD:j6 ν w (OO av rs ν) cs vs) (h1:∀ u ∈ vs,u.oneCell'=true) :
  RG av own0 n0 (ν++[.pointer (some ⟨w.heap.size,0,none⟩)]) (rs++[.box t cs]) (w.alloc (.cells vs.toArray t))/\Mv rs ν w [] (rs++[.box t cs]) (ν++[.pointer (some ⟨w.heap.size,0,none⟩)]) (w.alloc (.cells vs.toArray t)):=by
 refine hR.add (V3 w _) (fun b hb=>?_) (fun hkp hnu=>?_)
 ·simp only [fp,D5,Option.some.injEq] at hb;subst hb;exact ⟨c8B _,by simp⟩
 ·exact ⟨w.heap.size,vs,rfl,j6.nu hnu (by simp) (j6.keep hkp hD),h1,by simpa using heap_alloc_new w (.cells vs.toArray t)⟩
theorem b8Y (hR:RG av own0 n0 ν rs w) (b:Nat) (t:TypeId) (cs:List C) (w':World) (O:Nat->Prop):Den (ν++[.pointer (some ⟨b,0,none⟩)]) w' O (.bp rs.length 0) (.pointer (some ⟨b,0,none⟩)):=by
 simp only [Den];exact ⟨b,by rw [<- hR.len];simp,rfl⟩
set_option maxHeartbeats 2000000 in
theorem b1o {oo:Oper} {io:IOp} (his:Is E.P oo.type oo.op io) {K:C->List Res->List Nat->Prop} (h:evE E ov rs io K):∃ s rs' pk,K s rs' pk/\X0 E ov rs io oo s rs' pk:=by
 obtain ⟨dst,op,ty,pos,after,guard⟩:=oo;simp only at his;cases his with
 | alloc t i z hi hz=>
  obtain ⟨h1,h⟩:=h;refine ⟨_,_,_,h,X0.val fun av ν a w hR hF hO=>?_⟩;refine ⟨w.alloc (.cells z.cells t),.pointer (some ⟨w.heap.size,0,none⟩),_,?_,?_,b8Y hR _ t [] _ _⟩
  ·simp [execOp,Instr.alloc,newVar,newRow,zeroValue,typeInfo,hi,hz]
  ·have:=b6o hR t (z.cells.toList.map .v) z.cells.toList (j6.vs _) (a0j h1);simpa using this
 | box t x=>
  obtain ⟨h0,h1,h2,h⟩:=h;refine ⟨_,_,_,h,X0.val fun av ν a w hR hF hO=>?_⟩;have hc:=a2w (opS rfl (hO x (by simp [IOp.uses])) h0) h1;refine ⟨w.alloc (.cells (a.eval x).cells t),.pointer (some ⟨w.heap.size,0,none⟩),_,?_,?_,b8Y hR _ t [] _ _⟩
  ·simp [execOp,Instr.box,newVar,newRow]
  ·have:=b6o hR t _ _ hc (a3K hc h2);simpa using this
 | store t x y i hi=>
  obtain ⟨h0,h1,h2,h3,h4,h⟩:=h;split at h
  ·rename_i k off hx;split at h
   ·rename_i tb cs hk;obtain ⟨hfit,h⟩:=h;refine ⟨_,_,_,h,X0.skip fun av ν a w hR hF hO=>?_⟩;have e1:=opS rfl (hO x (by simp [IOp.uses])) h0;have hc:=a2w (opS rfl (hO y (by simp [IOp.uses])) h1) h2;have ho:=a3K hc h3;have hlen:(a.eval y).cells.toList.length=i.size:=by rw [hc.length,h4]
    rw [hx] at e1;simp only [Den] at e1;obtain ⟨b,hb,e1⟩:=e1;obtain ⟨b',vs,eb,hD,hone,hh⟩:=hR.get hk hb;injection eb with eb;injection eb with eb;injection eb with eb;subst eb;have hrun:=a5C (P:=E.P) (w:=w) (y:=a.eval y) (off:=off) hi hh hlen (by simp [hD.length];exact hfit) ho;have hup:=hR.upd (r':=.box tb (cs.take off++cellsS (strip (ov y))++cs.drop (off+i.size))) hk hb
     (a0R (w':=w.setRow b (vs.toArray.toList.take off++(a.eval y).cells.toList++vs.toArray.toList.drop (off+i.size)).toArray) (x:=.slice (some ⟨b,0,none⟩) 0 0) ⟨rfl,rfl,rfl,by simp,fun k _ hk=>setRow_other w b k _ (fun e=>hk (by rw [e];rfl))⟩ (fun b' h'=>by simp only [Value.ownBlock] at h';simpa [fp,D5] using h'))
     (fun b' hb'=>hb') (fun hkp=>by
      refine ⟨b,vs.take off++(a.eval y).cells.toList++vs.drop (off+i.size),rfl,j6.keep hkp (((hD.take _).append hc).append (hD.drop _)),?_,?_⟩
      ·intro u hu;simp only [c9j,List.mem_append] at hu;rcases hu with hu|hu|hu
       ·exact hone u (List.mem_of_mem_take hu)
       ·exact ho u hu
       ·exact hone u (List.mem_of_mem_drop hu)
      ·rw [setRow_heap w b _ _ tb (0,0) hh])
    exact ⟨_,_,(by simp only [execOp,e1,Sem.run_bind,hrun];rfl),hup,by simp [Den]⟩
   ·exact h.elim
  ·rename_i k z i' off hx;split at h
   ·rename_i te z' es hk;obtain ⟨hz,hcl,h⟩:=h;subst hz;split at h
    ·rename_i q hq;obtain ⟨hfit,h⟩:=h;refine ⟨_,_,_,h,X0.skip fun av ν a w hR hF hO=>?_⟩;have e1:=opS rfl (hO x (by simp [IOp.uses])) h0;have hc:=a2w (opS rfl (hO y (by simp [IOp.uses])) h1) h2;have ho:=a3K hc h3;have hlen:(a.eval y).cells.toList.length=i.size:=by rw [hc.length,h4]
     rw [hx] at e1;simp only [Den] at e1;obtain ⟨b,n',c,hb,e1⟩:=e1;obtain ⟨hl,vs,hD,hone,hrow⟩:=hR.get hk hb;have hvl:=hD.length;have hfl:=Q5 hl;have hilt:i' < es.length:=(c8v.1 hq).1;have hql:=hl q (c8t hq);have hmul:(i'+1)*z<=es.length*z:=c8X _ hilt;rw [Nat.add_mul] at hmul;obtain ⟨hl1,hrow2⟩:=hrow;rcases hrow2 with ⟨hbad,_⟩|⟨g,cap,cur,hv,hc0,hg,hnc,hcm,hcs,htake⟩
     ·omega
     ·injection hv with hv hv2 hv3;injection hv with hv;injection hv with hv;subst hv hv2 hv3;have hnz:es.length*z<=cur.size:=by rw [hcs];exact c8X _ hnc
      have hrun:=a5C (P:=E.P) (w:=w) (y:=a.eval y) (off:=i'*z+off) hi hg hlen (by omega) ho;have hset:=a9l (c:=q.take off++cellsS (strip (ov y))++q.drop (off+i.size)) hl hilt;have hcfz:=hc.fz hcl;have hqfz:FzL w (OO av rs ν) q ((vs.drop (i'*z)).take z):=by
       have:=(hD.drop (i'*z)).take z;rwa [a2X hl hq] at this
      have hnew:FzL w (OO av rs ν) (es.set i' (q.take off++cellsS (strip (ov y))++q.drop (off+i.size))).flatten (vs.take (i'*z+off)++(a.eval y).cells.toList++vs.drop (i'*z+off+i.size)):=by
       rw [hset];have h1:=hD.take (i'*z);have h2:=hqfz.take off;have h3:=hqfz.drop (off+i.size);have h4:=hD.drop (i'*z+z);have:=(h1.append ((h2.append hcfz).append h3)).append h4;have e5:vs.take (i'*z)++(((vs.drop (i'*z)).take z).take off++(a.eval y).cells.toList++((vs.drop (i'*z)).take z).drop (off+i.size))++vs.drop (i'*z+z)=vs.take (i'*z+off)++(a.eval y).cells.toList++vs.drop (i'*z+off+i.size):=by
        have e6:((vs.drop (i'*z)).take z).take off=(vs.drop (i'*z)).take off:=by rw [List.take_take,Nat.min_eq_left (by omega)]
        have e7:((vs.drop (i'*z)).take z).drop (off+i.size)++vs.drop (i'*z+z)=vs.drop (i'*z+off+i.size):=by
         rw [List.drop_take,List.drop_drop];have e8:vs.drop (i'*z+z)=(vs.drop (i'*z+(off+i.size))).drop (z-(off+i.size)):=by
          rw [List.drop_drop];congr 1;omega
         rw [e8,List.take_append_drop];congr 1;omega
        rw [e6,c9j,c9j,e7,<- c9j,<- c9j,<- List.take_add,c9j]
       rw [<- e5];simpa using this
      have hup:=hR.upd (r':=.row te z (es.set i' (q.take off++cellsS (strip (ov y))++q.drop (off+i.size)))) hk hb
       (a0R (w':=w.setRow b (cur.toList.take (i'*z+off)++(a.eval y).cells.toList++cur.toList.drop (i'*z+off+i.size)).toArray) (x:=.slice (some ⟨b,0,none⟩) 0 0) ⟨rfl,rfl,rfl,by simp,fun k _ hk=>setRow_other w b k _ (fun e=>hk (by rw [e];rfl))⟩ (fun b' h'=>by simp only [Value.ownBlock] at h';simp only [fp,D5];rw [if_neg (by omega)];exact h'))
       (fun b' hb'=>hb') (fun hkp=>by
        refine ⟨fun e he=>?_,_,FzL.keep hkp hnew,?_,?_,.inr ⟨b,c,_,by rw [c9h],hc0,setRow_heap w b _ _ te (0,0) hg,by rw [c9h];exact hnc,hcm,?_,?_⟩⟩
        ·rcases List.mem_or_eq_of_mem_set he with h'|h'
         ·exact hl e h'
         ·rw [h'];simp only [c8A,c8E,c9g,hql,h4];omega
        ·intro u hu;simp only [c9j,List.mem_append] at hu;rcases hu with hu|hu|hu
         ·exact hone u (List.mem_of_mem_take hu)
         ·exact ho u hu
         ·exact hone u (List.mem_of_mem_drop hu)
        ·simp only [c8A,c8E,c9g,hlen,c9h];omega
        ·simp only [List.size_toArray,c8A,c8E,c9g,hlen,Array.length_toList];omega
        ·rw [c9h];have htk:cur.toList.take (i'*z+off)=vs.take (i'*z+off):=by
          rw [<- htake,List.take_take,Nat.min_eq_left (by omega)]
         have hdr:(cur.toList.drop (i'*z+off+i.size)).take (es.length*z-(i'*z+off+i.size))=vs.drop (i'*z+off+i.size):=by
          rw [<- htake,List.drop_take]
         have hla:(cur.toList.take (i'*z+off)++(a.eval y).cells.toList).length=i'*z+off+i.size:=by
          simp only [c8A,c8E,Array.length_toList,hlen];omega
         show ((cur.toList.take (i'*z+off)++(a.eval y).cells.toList++cur.toList.drop (i'*z+off+i.size)).take (es.length*z))=_;rw [List.take_append,hla,c8P (by omega),hdr,htk])
      exact ⟨_,_,(by simp only [execOp,e1,Sem.run_bind,hrun];rfl),hup,by simp [Den]⟩
    ·exact h.elim
   ·exact h.elim
  ·exact h.elim
 | call c f hc hcl=>
  obtain ⟨h1,s,rs',pk,h,hT⟩:=h;exact ⟨s,rs',pk,h,X0.call hT fun av ν a w hR hO=>⟨_,by rw [a7R hc,M5 hcl],W9 rfl h1 hO⟩⟩
 | a0a c x hc=>
  obtain ⟨h0,h1,h⟩:=h;have hO':∀ {av ν w} {a:Act},(∀ y ∈ (IOp.a0a x c.args.toList).uses,Den ν w (OO av rs ν) (ov y) (a.eval y))->∀ y ∈ c.args.toList,Den ν w (OO av rs ν) (ov y) (a.eval y):=fun hO y hy=>hO y (by simp only [IOp.uses,List.mem_cons];exact .inr hy);split at h
  ·rename_i f caps hx;obtain ⟨hcl,s,rs',pk,h,hT⟩:=h;refine ⟨s,rs',pk,h,X0.call hT fun av ν a w hR hO=>?_⟩;have e1:=opS rfl (hO x (by simp [IOp.uses])) h0;rw [hx] at e1;have e1:=A8 e1;exact ⟨_,by rw [a2t hc e1,M5 hcl],(W9 rfl h1 (hO' hO)).append (j6.vs _)⟩
  ·rename_i f caps hx;obtain ⟨hcl,s,rs',pk,h,hT⟩:=h;refine ⟨s,rs',pk,h,X0.call hT fun av ν a w hR hO=>?_⟩;have e1:=opS rfl (hO x (by simp [IOp.uses])) h0;rw [hx] at e1;simp only [Den] at e1;obtain ⟨vs,hD,e1⟩:=e1;exact ⟨_,by rw [a2t hc e1,M5 hcl],(W9 rfl h1 (hO' hO)).append hD⟩
  ·rename_i f c' hx;obtain ⟨hcl,s,rs',pk,h,hT⟩:=h;refine ⟨s,rs',pk,h,X0.call hT fun av ν a w hR hO=>?_⟩;have e1:=opS rfl (hO x (by simp [IOp.uses])) h0;rw [hx] at e1;simp only [Den] at e1;obtain ⟨v,hD,e1⟩:=e1;exact ⟨_,by rw [c2x hc e1,M5 hcl],⟨_,_,rfl,hD,W9 rfl h1 (hO' hO)⟩⟩
  ·exact h.elim
 | mkmap t e str hk=>
  obtain ⟨k,kd,h1,h2,h3⟩:=a5p hk;refine ⟨_,_,_,h,X0.val fun av ν a w hR hF hO=>?_⟩;have hadd:=hR.add (w':=w.alloc (.map #[] 0)) (x:=.map (some w.heap.size)) (r:=.map str []) (V3 w _) (fun b hb=>by
   simp only [fp,D5,Option.some.injEq] at hb;subst hb;exact ⟨c8B _,by simp⟩) (fun _ _=>⟨w.heap.size,#[],0,rfl,by simpa using heap_alloc_new w (.map #[] 0),rfl,by simp⟩)
  refine ⟨w.alloc (.map #[] 0),.map (some w.heap.size),_,?_,hadd,?_⟩
  ·simp only [execOp,Instr.makeMap];rfl
  ·simp only [Den];exact ⟨by rw [<- hR.len];simp,_,rfl⟩
 | mupd t e str m k v hk=>
  obtain ⟨h1,h2,h3,h⟩:=h;split at h
  ·rename_i j key u hm hkey hv;split at h
   ·rename_i s es hj;obtain ⟨hs,hko,h⟩:=h;subst hs;refine ⟨_,_,_,h,X0.skip fun av ν a w hR hF hO=>?_⟩;have e1:=opS rfl (hO m (by simp [IOp.uses])) h1;have e2:=opS rfl (hO k (by simp [IOp.uses])) h2;have e3:=opS rfl (hO v (by simp [IOp.uses])) h3;rw [hm] at e1;rw [hkey] at e2;rw [hv] at e3;have e2:=A8 e2;have e3:=A8 e3;simp only [Den] at e1;obtain ⟨b,ents,clock,ex,hb,hes,hks⟩:=hR.get hj e1.1;subst hes;have hks':∀ x ∈ ents.toList,U9 s x.key=true:=fun x hx=>hks _ (List.mem_map.2 ⟨x,hx,rfl⟩);obtain ⟨ents',clock',hrun,hm'⟩:=b2r (P:=E.P) (u:=u) hk hb hks' hko;have hblt:b < w.heap.size:=(Array.getElem?_eq_some_iff.1 hb).1
    have hup:=hR.upd (w':={ w with heap:=w.heap.setIfInBounds b (.map ents' clock') }) (r':=.map s (a1Q key u (ents.toList.map fun e=>(e.key,e.val)))) hj e1.1
     ⟨rfl,rfl,rfl,by simp,fun b' _ hn=>by
      have:b ≠ b':=fun e=>hn (by subst e;rw [ex];rfl);simp [Array.getElem?_setIfInBounds_ne this]⟩ (fun _ hb=>hb) (fun _=>⟨b,ents',clock',ex,by simp [hblt],hm',b1P hko hks⟩)
    exact ⟨_,_,(by simp only [execOp,ex,e2,e3,Sem.run_bind,hrun];rfl),hup,by simp [Den]⟩
   ·exact h.elim
  ·exact h.elim
 | app c t e i s x hc hat ha ht hi z hz hzs=>
  obtain ⟨h1,h2,h3,h⟩:=h;obtain ⟨cal,⟨args⟩,⟨ats⟩⟩:=c;simp only at hc hat ha;subst hc hat ha;have exec:∀ (a:Act) (w:World) (y:Value) (w':World),(Builtin.append_ #[t,t] ty #[a.eval s,a.eval x]).run E.P w=.ok y w'->(execOp a.eval { dst,op:=.call ⟨.builtin .append,⟨[s,x]⟩,⟨[t,t]⟩⟩,type:=ty,pos,after,guard }).run E.P w=.ok (.value y) w':=fun a w y w' hy=>by
   simp [execOp,resolve,invoke,builtin,hy]
  have from_nil:∀ (K2:List (List C)->Prop),(∀ ν w O y,Den ν w O (strip (ov s)) y->∃ A,y=.slice A 0 0)->a4F rs i.size (strip (ov x)) none K2->(∀ ys,K2 ys->(ys.length<=140737488355328/\ys.length*i.bytes<=140737488355328)/\K (.rv rs.length) (rs++[.row e i.size ys]) []) ->
   ∃ s' rs' pk,K s' rs' pk/\X0 E ov rs (.app e i.size i.bytes s x) { dst,op:=.call ⟨.builtin .append,⟨[s,x]⟩,⟨[t,t]⟩⟩,type:=ty,pos,after,guard } s' rs' pk:=by
   intro K2 hs0 hsrc hK2;obtain ⟨ys,hys,hall⟩:=a9d hsrc;obtain ⟨⟨hb1,hb2⟩,hk⟩:=hK2 ys hys;refine ⟨_,_,_,hk,X0.val fun av ν a w hR hF hO=>?_⟩;have e1:=opS rfl (hO s (by simp [IOp.uses])) h1;have e2:=opS rfl (hO x (by simp [IOp.uses])) h2;obtain ⟨A,hs0⟩:=hs0 _ _ _ _ e1;obtain ⟨g0,us,g1,g2,g3⟩:=hall _ _ _ _ _ hR _ e2;obtain ⟨x',w',hrun,hrow,htu,hbl⟩:=a6E (P:=E.P) w t ty e i z ht hi hz hzs h3 (.slice A 0 0) 0 [] ⟨by simp,.inl ⟨rfl,A,rfl⟩⟩ _ _ _ g3 g2 (by omega) (by simpa using hb2);simp only [c8Z,List.nil_append] at hrow;have hn0:∀ b,D5 (.slice A 0 0) ≠ some b:=fun b=>by cases A<;>simp [D5]
   have hadd:=hR.add (x:=x') (r:=.row e i.size ys) (a1U htu fun b _ hb=>hn0 b hb) (fun b hb=>by
    rcases hbl b hb with h'|h'
    ·exact absurd h' (hn0 b)
    ·exact h') (fun hkp _=>⟨g0,us,FzL.keep hkp g1,g2,hrow⟩)
   refine ⟨w',x',_,(exec a w _ _ (by rw [hs0];exact hrun)),hadd,?_⟩;simp only [Den];exact ⟨by rw [<- hR.len];simp,hrow.slice.elim fun A h=>h.elim fun c h=>⟨A,_,c,h⟩⟩
  split at h
  ·rename_i k hs;split at h
   ·rename_i te zz es hk;obtain ⟨rfl,rfl,h⟩:=h;obtain ⟨ys,⟨⟨hb1,hb2⟩,hk'⟩,hall⟩:=a9d h;refine ⟨_,_,_,hk',X0.val fun av ν a w hR hF hO=>?_⟩;have e1:=opS rfl (hO s (by simp [IOp.uses])) h1;have e2:=opS rfl (hO x (by simp [IOp.uses])) h2;rw [hs] at e1;simp only [Den] at e1;obtain ⟨g0,us,g1,g2,g3⟩:=hall _ _ _ _ _ hR _ e2;obtain ⟨l0,vs,l1,l2,l3⟩:=hR.get hk e1.1;obtain ⟨x',w',hrun,hrow,htu,hbl⟩:=a6E (P:=E.P) w t ty te i z ht hi hz hzs h3 _ _ _ l3 _ _ _ g3 g2 hb1 hb2;have hrep:=hR.b7H (pk:=[k]) (x':=x') (r':=.row te i.size (es++ys)) hk e1.1 htu (fun l y hl hy=>by
     have:l ≠ k:=fun e=>hl (by simp [e]);rw [List.getElem?_set_ne (Ne.symm this)];exact hy) (fun b hb=>hbl b hb) (fun hkp=>by
      refine ⟨fun q hq=>?_,vs++us,?_,?_,?_⟩
      ·rcases List.mem_append.1 hq with h'|h'
       ·exact l0 q h'
       ·exact g0 q h'
      ·rw [List.flatten_append];exact FzL.keep hkp (l1.append g1)
      ·intro u hu;rcases List.mem_append.1 hu with h'|h'
       ·exact l2 u h'
       ·exact g2 u h'
      ·rw [c8A];exact hrow)
    refine ⟨w',x',_,(exec a w _ _ hrun),hrep,?_⟩;simp only [Den];have hkl:k < ν.length:=(c8v.1 e1.1).1;exact ⟨by rw [List.getElem?_set];simp [hkl],hrow.slice.elim fun A h=>h.elim fun c h=>⟨A,_,c,h⟩⟩
   ·exact h.elim
  ·rename_i hs;exact from_nil _ (fun ν w O y hy=>by rw [hs] at hy;simpa only [Den] using hy) h fun ys hys=>hys
  ·rename_i hs;exact from_nil _ (fun ν w O y hy=>by rw [hs] at hy;exact ⟨none,A8 hy⟩) h fun ys hys=>hys
  ·exact h.elim
 | apps c t t' e i s x hc hat ha ht ht' hi hz hs1 hb1=>
  obtain ⟨h1,h2,h⟩:=h;obtain ⟨cal,⟨args⟩,⟨ats⟩⟩:=c;simp only at hc hat ha;subst hc hat ha;have exec:∀ (a:Act) (w:World) (y:Value) (w':World),(Builtin.append_ #[t,t'] ty #[a.eval s,a.eval x]).run E.P w=.ok y w'->(execOp a.eval { dst,op:=.call ⟨.builtin .append,⟨[s,x]⟩,⟨[t,t']⟩⟩,type:=ty,pos,after,guard }).run E.P w=.ok (.value y) w':=fun a w y w' hy=>by
   simp [execOp,resolve,invoke,builtin,hy]
  have hby1:∀ (b:ByteArray),∀ q ∈ b.data.toList.map I6,q.length=1:=fun b q hq=>by obtain ⟨y,_,rfl⟩:=List.mem_map.1 hq;rfl
  split at h
  ·rename_i b hx;split at h
   ·rename_i k hs;split at h
    ·rename_i te zz es hk;obtain ⟨rfl,rfl,hbd,h⟩:=h;refine ⟨_,_,_,h,X0.val fun av ν a w hR hF hO=>?_⟩;have e1:=opS rfl (hO s (by simp [IOp.uses])) h1;have e2:=opS rfl (hO x (by simp [IOp.uses])) h2;rw [hx] at e2;have e2:=A8 e2;rw [hs] at e1;simp only [Den] at e1;obtain ⟨l0,vs,l1,l2,l3⟩:=hR.get hk e1.1;obtain ⟨x',w',hrun,hrow,htu,hbl⟩:=a4o (P:=E.P) w t t' ty te i ht ht' hi hz hs1 hb1 _ _ _ l3 b hbd;have hrep:=hR.b7H (pk:=[k]) (x':=x') (r':=.row te 1 (es++b.data.toList.map I6)) hk e1.1 htu (fun l y hl hy=>by
      have:l ≠ k:=fun e=>hl (by simp [e]);rw [List.getElem?_set_ne (Ne.symm this)];exact hy) (fun b hb=>hbl b hb) (fun hkp=>by
       refine ⟨fun q hq=>?_,vs++Lib.strCells b,?_,?_,?_⟩
       ·rcases List.mem_append.1 hq with h'|h'
        ·exact l0 q h'
        ·exact hby1 b q h'
       ·rw [List.flatten_append];exact FzL.keep hkp (l1.append (a8R b))
       ·intro u hu;rcases List.mem_append.1 hu with h'|h'
        ·exact l2 u h'
        ·exact Lib.strCells_oneCell b u h'
       ·rw [c8A,c8r];exact hrow)
     refine ⟨w',x',_,(exec a w _ _ (by rw [e2];exact hrun)),hrep,?_⟩;simp only [Den];have hkl:k < ν.length:=(c8v.1 e1.1).1;exact ⟨by rw [List.getElem?_set];simp [hkl],hrow.slice.elim fun A h=>h.elim fun c h=>⟨A,_,c,h⟩⟩
    ·exact h.elim
   ·rename_i hs;obtain ⟨hbd,h⟩:=h;refine ⟨_,_,_,h,X0.val fun av ν a w hR hF hO=>?_⟩;have e1:=opS rfl (hO s (by simp [IOp.uses])) h1;have e2:=opS rfl (hO x (by simp [IOp.uses])) h2;rw [hx] at e2;have e2:=A8 e2;rw [hs] at e1;have e1:=A8 e1;obtain ⟨x',w',hrun,hrow,htu,hbl⟩:=a4o (P:=E.P) w t t' ty e i ht ht' hi hz hs1 hb1 (.slice none 0 0) 0 [] ⟨by simp,.inl ⟨rfl,none,rfl⟩⟩ b (by omega);simp only [c8Z,List.nil_append] at hrow;have hadd:=hR.add (x:=x') (r:=.row e 1 (b.data.toList.map I6)) (a1U htu fun b _ hb=>by cases hb) (fun b hb=>by
     rcases hbl b hb with h'|h'
     ·cases h'
     ·exact h') (fun hkp _=>⟨hby1 b,_,FzL.keep hkp (a8R b),Lib.strCells_oneCell b,by rw [c8r];exact hrow⟩)
    refine ⟨w',x',_,(exec a w _ _ (by rw [e1,e2];exact hrun)),hadd,?_⟩;simp only [Den];exact ⟨by rw [<- hR.len];simp,hrow.slice.elim fun A h=>h.elim fun c h=>⟨A,_,c,h⟩⟩
   ·exact h.elim
  ·exact h.elim
 | bytes s d e x hs hd he=>
  obtain ⟨h1,h⟩:=h;split at h
  ·rename_i b hx;obtain ⟨hb,h⟩:=h;refine ⟨_,_,_,h,X0.val fun av ν a w hR hF hO=>?_⟩;have e2:=opS rfl (hO x (by simp [IOp.uses])) h1;rw [hx] at e2;have e2:=A8 e2;have hbl:=b5t w e b;refine ⟨Lib.bytesWorld w e b,_,ν,?_,⟨hR.below hbl,Mv.of_below hbl⟩,Fz.den ν (c2w (fun c hc=>by
    rcases hc with hc|hc
    ·exact hR.av c hc
    ·exact (hR.low c hc).1) e b hb)⟩
   simp [execOp,e2,Lib.run_convert_string_bytes w s d e b hs hd he]
  ·exact h.elim
 | a4s t e ps i ht hi hps=>
  have hps0:ps=#[]:=Array.eq_empty_of_size_eq_zero hps;subst hps0;refine ⟨_,_,_,h,X0.val fun av ν a w hR hF hO=>?_⟩;refine ⟨w.alloc (.cells #[] e),.slice (some ⟨w.heap.size,0,none⟩) 0 0,ν,?_,⟨hR.below (V3 w _),Mv.of_below (V3 w _)⟩,⟨_,rfl⟩⟩;simp [execOp,Instr.buildSlice,run_underlying ht w,sizeOf,typeInfo,hi,Instr.fill,newRow,show (Array.range 0:Array Nat)=#[] from rfl]
 | bsl t e n ps i z ht hi hz hn hzs=>
  obtain ⟨h1,h1l,h1p,h2,h3,⟨h5,h6⟩,h⟩:=h;have hzsz:0 < z.cells.size:=by rw [hzs];exact h1p
  obtain ⟨hl2,hg2⟩:=a6R h2;have hrl:∀ q ∈ List.replicate n (z.cells.toList.map C.v),q.length=i.size:=fun q hq=>by rw [c8T hq];simpa using hzs
  obtain ⟨p1,p2,p3,p4⟩:=a6W (P8 ov ps.toList) (List.replicate n (z.cells.toList.map C.v)) n (by simp) hrl h3;refine ⟨_,_,_,h,X0.val fun av ν a w hR hF hO=>?_⟩;have hz0:FzL w (OO av rs ν) (List.replicate n (z.cells.toList.map C.v)).flatten (List.replicate n z.cells.toList).flatten:=by
   have:∀ n,FzL w (OO av rs ν) (List.replicate n (z.cells.toList.map C.v)).flatten (List.replicate n z.cells.toList).flatten:=fun n=>by
    induction n with
    | zero=>simp [FzL]
    | succ n ih=>rw [List.replicate_succ,List.replicate_succ,List.flatten_cons,List.flatten_cons];exact (FzL.vs _).append ih
   exact this n
  obtain ⟨us,hf,hD⟩:=a4a (ν:=ν) (w:=w) (O:=OO av rs ν) (fun j=>some (j*i.size,i.size)) (ps.toList.map fun (j,x)=>(j,a.eval x)) ((P8 ov ps.toList).map fun (j,c)=>(j*i.size,i.size,c)) _ _
   (by simp [hl2]) (fun j f v hj=>by
    simp only [c8x,Option.map_eq_some_iff] at hj;obtain ⟨⟨f',x⟩,hj,he⟩:=hj;simp only [Prod.mk.injEq] at he;obtain ⟨rfl,rfl⟩:=he;obtain ⟨hrq,hpv⟩:=hg2 j _ x hj;have hmem:x ∈ (IOp.bsl e i.size n z.cells.toList ps.toList).uses:=List.mem_map.2 ⟨_,c8t hj,rfl⟩;exact ⟨_,_,_,by rw [c8x,hpv];rfl,rfl,a2w (opS rfl (hO x hmem) hrq) (a7J h3 j _ _ hpv)⟩) (hz0.den ν) p2
  rw [p1] at hD;have hcl:C.clL (Q0 (List.replicate n (z.cells.toList.map C.v)) (P8 ov ps.toList)).flatten=true:=b6z (a5Z h3 fun e he=>by rw [c8T he];exact c3t _);have hon:C.ones (Q0 (List.replicate n (z.cells.toList.map C.v)) (P8 ov ps.toList)).flatten=true:=b1L (a4t h3 fun e he=>by rw [c8T he];exact b6L h1);have hul:us.length=n*i.size:=by rw [hD.length,Q5 p4,p3]
  have hnpos:0 < n:=by
   rcases c8Q n with h0|h0
   ·subst h0;simp at hn
   ·exact h0
  have hrow:rowAt (w.alloc (.cells us.toArray e)) e i.size (.slice (some ⟨w.heap.size,0,none⟩) n n) n us:=
   ⟨hul,.inr ⟨w.heap.size,n,us.toArray,rfl,hnpos,heap_alloc_new w _,c8B _,by simp only [maxLen];omega,by simp [hul],by show us.take (n*i.size)=us;rw [<- hul];exact c8J⟩⟩
  have hadd:=hR.add (w':=w.alloc (.cells us.toArray e)) (x:=.slice (some ⟨w.heap.size,0,none⟩) n n) (r:=.row e i.size (Q0 (List.replicate n (z.cells.toList.map C.v)) (P8 ov ps.toList))) (V3 w _) (fun b hb=>by
   simp only [fp,D5] at hb;rw [if_neg (by omega)] at hb;injection hb with hb;subst hb;exact ⟨c8B _,by simp⟩) (fun hkp _=>⟨p4,us,FzL.keep hkp (hD.fz hcl),a3K hD hon,by rw [p3];exact hrow⟩)
  refine ⟨w.alloc (.cells us.toArray e),.slice (some ⟨w.heap.size,0,none⟩) n n,_,?_,hadd,?_⟩
  ·have hzr:(zeroValue e).run E.P w=.ok z w:=by simp [zeroValue,typeInfo,hi,hz]
   have hn':¬ n*i.size > 2 ^ 24:=by omega
   have hzf:=a2n z.cells n hzsz;rw [hzs] at hzf;have hze:((Array.range (n*i.size)).map fun j=>z.cells[j % z.cells.size]!)=(List.replicate n z.cells.toList).flatten.toArray:=by
    apply Array.ext';rw [hzs,hzf]
   have e1:(ps.map fun (i,x)=>(i,a.eval x)).toList=ps.toList.map fun (i,x)=>(i,a.eval x):=by simp
   simp only [execOp,Instr.buildSlice,Sem.run_bind,run_underlying ht w,Result.andThen_ok,sizeOf,typeInfo,run_program,hi,Sem.run_pure,hn',if_false,hn,hzr,hze,e1,hf];simp [newRow]
  ·simp only [Den];exact ⟨by rw [<- hR.len];simp,_,_,_,rfl⟩
 | appz c t t' kn e i s x hc hat ha ht ht' hi z hz hzs h0=>
  obtain ⟨h1,h2,h3,h4,h⟩:=h;obtain ⟨cal,⟨args⟩,⟨ats⟩⟩:=c;simp only at hc hat ha;subst hc hat ha;split at h
  ·rename_i n hs hx;obtain ⟨⟨b0,b1,b2⟩,h⟩:=h;have hzl:z.cells.toList.length=i.size:=by simpa using hzs
   have hzsz:0 < z.cells.size:=by simpa using h2
   have h:K (.rv rs.length) (rs++[.row e i.size (List.replicate n.toNat (z.cells.toList.map .v))]) []:=by rw [<- hzl];exact h
   refine ⟨_,_,_,h,X0.val fun av ν a w hR hF hO=>?_⟩;have e1:=opS rfl (hO s (by simp [IOp.uses])) h3;have e2:=opS rfl (hO x (by simp [IOp.uses])) h4;rw [hs] at e1;rw [hx] at e2;have e1:=A8 e1;have e2:=A8 e2;have hfl:∀ n,FzL w (OO av rs ν) (List.replicate n (z.cells.toList.map C.v)).flatten (List.replicate n z.cells.toList).flatten:=fun n=>by
    induction n with
    | zero=>simp [FzL]
    | succ n ih=>rw [List.replicate_succ,List.replicate_succ,List.flatten_cons,List.flatten_cons];exact (FzL.vs _).append ih
   have hlen:∀ n,(List.replicate n z.cells.toList).flatten.length=n*i.size:=fun n=>by
    rw [Q5 (sz:=i.size) (fun q hq=>by rw [c8T hq];exact hzl),List.length_replicate]
   obtain ⟨m,rfl⟩:∃ m:Nat,n=m:=⟨n.toNat,by omega⟩
   simp only [c8u] at *;have hone:∀ u ∈ (List.replicate m z.cells.toList).flatten,u.oneCell'=true:=fun u hu=>by
    obtain ⟨q,hq,hu⟩:=List.mem_flatten.1 hu;rw [c8T hq] at hu;exact a0j h1 u hu
   have hrun:=Lib.run_append_nil_zeros w t t' ty e i z .i64 kn ht ht' hi hz m (by omega) h0 (by omega) (by omega);have hge:=grownCap_ge w m 0 e;have hcm:grownCap w m 0 e<=maxLen:=grownCap_le_maxLen w m 0 e (by simp only [maxLen];omega);have hrow:rowAt (w.drew.alloc (.cells (Builtin.zeroCells z.cells m++Builtin.zeroCells z.cells (grownCap w m 0 e-m)) e)) e i.size (.slice (some ⟨w.heap.size,0,none⟩) m (grownCap w m 0 e)) m (List.replicate m z.cells.toList).flatten:=by
    refine ⟨hlen _,.inr ⟨w.heap.size,_,_,rfl,by omega,heap_alloc_new w.drew _,hge,hcm,?_,?_⟩⟩
    ·simp only [Array.size_append,size_zeroCells,hzs,<- Nat.add_mul];congr 1;omega
    ·rw [Array.toList_append,show (Builtin.zeroCells z.cells m).toList=(List.replicate m z.cells.toList).flatten from a2n z.cells m hzsz,<- hlen m];exact List.take_left
   have hadd:=hR.add (w':=w.drew.alloc (.cells (Builtin.zeroCells z.cells m++Builtin.zeroCells z.cells (grownCap w m 0 e-m)) e)) (x:=.slice (some ⟨w.heap.size,0,none⟩) m (grownCap w m 0 e)) (r:=.row e i.size (List.replicate m (z.cells.toList.map .v)))
    (a1U (F:=fun _=>False) ⟨rfl,rfl,rfl,by simp,fun b hb _=>heap_alloc_old w.drew _ hb⟩ fun _ _=>id) (fun b hb=>by
    simp only [fp,D5] at hb;split at hb
    ·cases hb
    ·injection hb with hb;subst hb;exact ⟨c8B _,by simp⟩) (fun hkp _=>⟨fun q hq=>by rw [c8T hq];simpa using hzs,_,FzL.keep hkp (hfl _),hone,by rw [List.length_replicate];exact hrow⟩)
   refine ⟨_,.slice (some ⟨w.heap.size,0,none⟩) m (grownCap w m 0 e),_,?_,hadd,?_⟩
   ·simp [execOp,resolve,invoke,builtin,e1,e2,hrun]
   ·simp only [Den];exact ⟨by rw [<- hR.len];simp,_,_,_,rfl⟩
  ·exact h.elim
 | clr c t e i x hc hat ha ht hi z hz hzs=>
  obtain ⟨h1,h3,h⟩:=h;obtain ⟨cal,⟨args⟩,⟨ats⟩⟩:=c;simp only at hc hat ha;subst hc hat ha;split at h
  ·rename_i k sz lo n hx;split at h
   ·rename_i te z' es hk;obtain ⟨⟨rfl,hsz⟩,hfit,h⟩:=h;refine ⟨_,_,_,h,X0.val fun av ν a w hR hF hO=>?_⟩;have e1:=opS rfl (hO x (by simp [IOp.uses])) h3;rw [hx] at e1;simp only [Den] at e1;obtain ⟨A,cp,hy,hnc,_,hA⟩:=e1;rcases c8Q n with h0|h0
    ·subst h0;have hlo:es.take lo++List.replicate 0 (z.cells.toList.map C.v)=es:=by simp [c8P (show es.length<=lo by omega)]
     rw [hlo,set_self hk];refine ⟨w,.tuple #[],ν,?_,⟨hR,Mv.of_below (Below.refl _ _)⟩,by simp [Den]⟩;cases A<;>simp [execOp,resolve,invoke,builtin,hy,Builtin.clear_,run_underlying ht]
    ·obtain ⟨x0,b,hb,hhead,rfl,_⟩:=hA (by omega);obtain ⟨hl,vs,hD,hone,hl1,hrow⟩:=hR.get hk hb;rcases hrow with ⟨hbad,_⟩|⟨g,cap,cur,rfl,hc0,hg,hnc',hcm,hcs,htake⟩
     ·omega
     ·simp only [a4d,Option.some.injEq] at hhead;subst hhead;have hzl:z.cells.toList.length=z':=hsz;have hzp:0 < z.cells.size \/ z.cells.size=0:=by omega
      have hzf:(Builtin.zeroCells z.cells n).toList=(List.replicate n z.cells.toList).flatten:=by
       rcases hzp with hp|hp
       ·exact a2n z.cells n hp
       ·have e0:z.cells=#[]:=Array.eq_empty_of_size_eq_zero hp;rw [e0];simp [Builtin.zeroCells]
      have hzn:(List.replicate n z.cells.toList).flatten.length=n*z':=by
       rw [Q5 (sz:=z') (fun q hq=>by rw [c8T hq];exact hzl),List.length_replicate]
      have hz1:∀ u ∈ (List.replicate n z.cells.toList).flatten,u.oneCell'=true:=fun u hu=>by
       obtain ⟨q,hq,hu⟩:=List.mem_flatten.1 hu;rw [c8T hq] at hu;exact a0j h1 u hu
      have hzz:FzL w (OO av rs ν) (List.replicate n (z.cells.toList.map C.v)).flatten (List.replicate n z.cells.toList).flatten:=by
       have:∀ n,FzL w (OO av rs ν) (List.replicate n (z.cells.toList.map C.v)).flatten (List.replicate n z.cells.toList).flatten:=fun n=>by
        induction n with
        | zero=>simp [FzL]
        | succ n ih=>rw [List.replicate_succ,List.replicate_succ,List.flatten_cons,List.flatten_cons];exact (FzL.vs _).append ih
       exact this n
      have hmul:lo*z'+n*z'=es.length*z':=by rw [<- Nat.add_mul,hfit]
      have hcap:es.length*z'<=cur.size:=by rw [hcs];exact c8X _ hnc'
      have hst:=run_storeCells_at (P:=E.P) g (lo*z') te (List.replicate n z.cells.toList).flatten 0 cur w hg (by rw [hzn];omega) hz1;rw [Nat.add_zero,hzn,hmul] at hst;obtain ⟨m,rfl⟩:∃ m,n=m+1:=⟨n-1,by omega⟩
      have hrun:(Builtin.clear_ #[t] ty #[a.eval x]).run E.P w=.ok (.tuple #[]) (w.setRow g (cur.toList.take (lo*z')++(List.replicate (m+1) z.cells.toList).flatten++cur.toList.drop (es.length*z')).toArray):=by
       rw [hy];simp [Builtin.clear_,run_underlying ht,zeroValue,typeInfo,hi,hz,hzf,hst]
      have hlen:(es.take lo++List.replicate (m+1) (z.cells.toList.map C.v)).length=es.length:=by simp;omega
      have hup:=hR.upd (r':=.row te z' (es.take lo++List.replicate (m+1) (z.cells.toList.map C.v))) hk hb
       (a0R (w':=w.setRow g (cur.toList.take (lo*z')++(List.replicate (m+1) z.cells.toList).flatten++cur.toList.drop (es.length*z')).toArray) (x:=.slice (some ⟨g,0,none⟩) 0 0) ⟨rfl,rfl,rfl,by simp,fun k _ hk=>setRow_other w g k _ (fun e=>hk (by rw [e];rfl))⟩ (fun b' h'=>by simp only [Value.ownBlock] at h';simp only [fp,D5];rw [if_neg (by omega)];exact h'))
       (fun b' hb'=>hb') (fun hkp=>by
        refine ⟨fun q hq=>?_,vs.take (lo*z')++(List.replicate (m+1) z.cells.toList).flatten,FzL.keep hkp ?_,fun u hu=>?_,?_⟩
        ·rcases List.mem_append.1 hq with hq|hq
         ·exact hl q (List.mem_of_mem_take hq)
         ·rw [c8T hq,c8r];exact hzl
        ·rw [List.flatten_append,a5F hl];exact (hD.take _).append hzz
        ·rcases List.mem_append.1 hu with hu|hu
         ·exact hone u (List.mem_of_mem_take hu)
         ·exact hz1 u hu
        ·rw [hlen];refine ⟨by rw [c8A,c8E,hzn];omega,.inr ⟨g,cap,_,rfl,hc0,setRow_heap w g _ _ te (0,0) hg,hnc',hcm,?_,?_⟩⟩
         ·simp only [List.size_toArray,c8A,c8E,c9g,hzn,Array.length_toList];omega
         ·have htk:cur.toList.take (lo*z')=vs.take (lo*z'):=by
           rw [<- htake,List.take_take,Nat.min_eq_left (by omega)]
          have hla:(cur.toList.take (lo*z')++(List.replicate (m+1) z.cells.toList).flatten).length=es.length*z':=by
           simp only [c8A,c8E,Array.length_toList,hzn];omega
          show ((cur.toList.take (lo*z')++(List.replicate (m+1) z.cells.toList).flatten++cur.toList.drop (es.length*z')).take (es.length*z'))=_;rw [<- hla,List.take_left,htk])
      exact ⟨_,.tuple #[],_,(by simp [execOp,resolve,invoke,builtin,hrun]),hup,by simp [Den]⟩
   ·exact h.elim
  ·exact h.elim
 | a5w t e l c i z ht hi hz hzs h0=>
  obtain ⟨h1,h2,h3,h4,h⟩:=h;have hzsz:0 < z.cells.size:=by simpa using h2
  split at h
  ·rename_i lv cv hl hc;obtain ⟨⟨b0,b1,b2,b3⟩,h⟩:=h;have hzl:z.cells.toList.length=i.size:=by simpa using hzs
   have h:K (.rv rs.length) (rs++[.row e i.size (List.replicate lv.toNat (z.cells.toList.map .v))]) []:=by rw [<- hzl];exact h
   refine ⟨_,_,_,h,X0.val fun av ν a w hR hF hO=>?_⟩;have e1:=opS rfl (hO l (by simp [IOp.uses])) h3;have e2:=opS rfl (hO c (by simp [IOp.uses])) h4;rw [hl] at e1;rw [hc] at e2;have e1:=A8 e1;have e2:=A8 e2;have hfl:∀ n,FzL w (OO av rs ν) (List.replicate n (z.cells.toList.map C.v)).flatten (List.replicate n z.cells.toList).flatten:=fun n=>by
    induction n with
    | zero=>simp [FzL]
    | succ n ih=>rw [List.replicate_succ,List.replicate_succ,List.flatten_cons,List.flatten_cons];exact (FzL.vs _).append ih
   have hlen:∀ n,(List.replicate n z.cells.toList).flatten.length=n*i.size:=fun n=>by
    rw [Q5 (sz:=i.size) (fun q hq=>by rw [c8T hq];exact hzl),List.length_replicate]
   have htk:((List.replicate cv.toNat z.cells.toList).flatten.take (lv.toNat*i.size))=(List.replicate lv.toNat z.cells.toList).flatten:=by
    have:List.replicate cv.toNat z.cells.toList=List.replicate lv.toNat z.cells.toList++List.replicate (cv.toNat-lv.toNat) z.cells.toList:=by
     rw [List.replicate_append_replicate];congr 1;omega
    rw [this,List.flatten_append,<- hlen lv.toNat];exact List.take_left
   have hone:∀ u ∈ (List.replicate lv.toNat z.cells.toList).flatten,u.oneCell'=true:=fun u hu=>by
    obtain ⟨q,hq,hu⟩:=List.mem_flatten.1 hu;rw [c8T hq] at hu;exact a0j h1 u hu
   have hrow:rowAt (w.alloc (.cells (List.replicate cv.toNat z.cells.toList).flatten.toArray e)) e i.size (.slice (some ⟨w.heap.size,0,none⟩) lv.toNat cv.toNat) lv.toNat (List.replicate lv.toNat z.cells.toList).flatten:=by
    refine ⟨hlen _,?_⟩;rcases c8Q cv.toNat with hc0|hc0
    ·exact .inl ⟨by omega,_,by rw [hc0];congr 1;omega⟩
    ·exact .inr ⟨w.heap.size,_,_,rfl,hc0,heap_alloc_new w _,by omega,by simp only [maxLen];omega,by rw [List.size_toArray,hlen],htk⟩
   have hadd:=hR.add (w':=w.alloc (.cells (List.replicate cv.toNat z.cells.toList).flatten.toArray e)) (x:=.slice (some ⟨w.heap.size,0,none⟩) lv.toNat cv.toNat) (r:=.row e i.size (List.replicate lv.toNat (z.cells.toList.map .v))) (V3 w _) (fun b hb=>by
    simp only [fp,D5] at hb;split at hb
    ·cases hb
    ·injection hb with hb;subst hb;exact ⟨c8B _,by simp⟩) (fun hkp _=>⟨fun q hq=>by rw [c8T hq];simpa using hzs,_,FzL.keep hkp (hfl _),hone,by rw [List.length_replicate];exact hrow⟩)
   refine ⟨w.alloc (.cells (List.replicate cv.toNat z.cells.toList).flatten.toArray e),.slice (some ⟨w.heap.size,0,none⟩) lv.toNat cv.toNat,_,?_,hadd,?_⟩
   ·have hzr:(zeroValue e).run E.P w=.ok z w:=by simp [zeroValue,typeInfo,hi,hz]
    have hzf:=a2n z.cells cv.toNat hzsz;rw [hzs] at hzf;have hze:((Array.range (cv.toNat*i.size)).map fun j=>z.cells[j % z.cells.size]!)=(List.replicate cv.toNat z.cells.toList).flatten.toArray:=by
     apply Array.ext';rw [hzs,hzf]
    have hb':(i.bytes:Int)*cv<=281474976710656:=by
     have h3:(((i.bytes*cv.toNat:Nat):Int))<=140737488355328:=by rw [Nat.mul_comm];omega
     rw [Int.natCast_mul,show ((cv.toNat:Nat):Int)=cv by omega] at h3;omega
    have hrun:=run_make (P:=E.P) w t e i z ht hi hz .i64 .i64 lv cv b0 b1 hb' (by omega);unfold madeCells at hrun;rw [hze] at hrun;simp only [execOp,e1,e2,Sem.run_bind,hrun];rfl
   ·simp only [Den];exact ⟨by rw [<- hR.len];simp,_,_,_,rfl⟩
  ·exact h.elim
 | _=>exact (h:False).elim
end
def S9 (E:Ctx) (rs:List Res) (p:Bool) (f:Nat) (args:List C) (r:C):Prop:=
 p=true->∀ av ν w vs,RG av E.own0 E.w0.heap.size ν rs w->(∀ b,E.av b->av b)->Frm E.own0 E.w0 w->j6 ν w (OO av rs ν) args vs ->
  Calls E.P f vs.toArray w fun e w'=>∃ y,e=.returned y/\Below w.heap.size w w'/\Den ν w' (OO av rs ν) r y
def b7r:IOp->Bool
 | .alloc _ _=>true
 | .box _ _=>true
 | .bsl _ _ _ _ _=>true
 | .a4s _=>true
 | .a5w _ _ _ _ _=>true
 | .store _ _ _=>true
 | .call _ _=>true
 | .a0a _ _=>true
 | .app _ _ _ _ _=>true
 | .apps _ _ _=>true
 | .appz _ _ _ _ _=>true
 | .bytes _ _=>true
 | .clr _ _=>true
 | .mkmap _=>true
 | .mupd _ _ _ _=>true
 | _=>false
def KE (E:Ctx) (st:St) (d:Option Nat) (K:St->Prop) (s:C) (rs':List Res) (pk:List Nat):Prop:=a4u E pk/\K ⟨Q6 (a0m pk st.fr) d s,rs'⟩
def KP (st:St) (d:Option Nat) (K:St->Prop) (s:C):Prop:=K ⟨Q6 st.fr d s,st.rs⟩
def KPg (st:St) (p:Bool) (d:Option Nat) (K:St->Prop) (s:C):Prop:=K ⟨Q6 st.fr d (.g p s),st.rs⟩
def KU (st:St) (d:Option Nat) (K:St->Prop):Prop:=K ⟨Q6 st.fr d (.v undef),st.rs⟩
def c2Z (E:Ctx) (st:St) (p:Bool) (f:Nat) (args:List C) (d:Option Nat) (K:St->Prop):Prop:=
 (p=true/\l9 E st.rs f args (KE E st d K)) \/ (p=false/\KU st d K) \/ ∃ r,S9 E st.rs p f args r/\KPg st p d K r
def a1f (E:Ctx) (st:St) (p:Bool) (f:Nat) (args:List C) (ok:Prop) (d:Option Nat) (K:St->Prop):Prop:=(p=false/\KU st d K) \/ ok/\c2Z E st p f args d K
def evU (E:Ctx) (st:St) (d:Option Nat) (o:IOp) (K:St->Prop):Prop:=
 match b7r o with
 | true=>evE E (opv st.fr) st.rs o (KE E st d K)
 | false=>G8 (opv st.fr) st.rs true o (KP st d K)
def evG (E:Ctx) (st:St) (p:Bool) (d:Option Nat) (o:IOp) (K:St->Prop):Prop:=
 match o with
 | .call f args=>a1f E st p f (a1v (opv st.fr) args) (a3t p (opv st.fr) args) d K
 | .a0a x args=>match strip (opv st.fr x) with
  | .v (.func (.func f) ⟨[]⟩ ⟨caps⟩)=>a1f E st p f (a1v (opv st.fr) args++caps.map .v) (req p (opv st.fr x)/\a3t p (opv st.fr) args/\callable E.P f=true) d K
  | .clo f caps=>a1f E st p f (a1v (opv st.fr) args++caps) (req p (opv st.fr x)/\a3t p (opv st.fr) args/\callable E.P f=true) d K
  | _=>p=false/\KU st d K
 | o=>match b7r o with
  | true=>(p=true->evE E (opv st.fr) st.rs o (KE E st d K))/\(p=false->KU st d K)
  | false=>G8 (opv st.fr) st.rs p o (KPg st p d K)
def ev1 (E:Ctx) (o:E9) (st:St) (K:St->Prop):Prop:=
 match o.guard with
 | none=>evU E st o.dst o.op K
 | some (s,want)=>match slot st.fr s with
  | .v (.bool b)=>evG E st (b == want) o.dst o.op K
  | .g q (.v (.bool b))=>evG E st (q && (b == want)) o.dst o.op K
  | _=>False
def ev (E:Ctx):List E9->St->(St->Prop)->Prop
 | [],st,K=>K st
 | o::r,st,K=>ev1 E o st fun st'=>ev E r st' K
def KR (E:Ctx) (r:List E9) (K:St->Prop) (st:St):Prop:=ev E r st K
theorem c5p (E:Ctx) (st:St) (K:St->Prop):ev E [] st K=K st:=rfl
theorem c3v (E:Ctx) (o:E9) (r:List E9) (st:St) (K:St->Prop):ev E (o::r) st K=ev1 E o st (KR E r K):=rfl
section
variable {E:Ctx} {ν:List Value} {st:St} {a:Act} {w:World} {rs:List Res}
theorem RG.hr {av own0:Nat->Prop} {n0:Nat} (h:RG av own0 n0 ν rs w):HR ν w (OO av rs ν) rs:=fun k r hk=>h.res k r hk
theorem a2h (h:Good E ν st a w) (x:Operand):Den ν w (OO E.av st.rs ν) (opv st.fr x) (a.eval x):=by
 rw [b6t];exact b9K x fun t _=>h.fr t
theorem a2R (h:Good E ν st a w) {d:Option Nat} (hd:a1e E.N d=true) {s:C} {y:Value} (hs:Den ν w (OO E.av st.rs ν) s y):Good E ν ⟨Q6 st.fr d s,st.rs⟩ (a.put d y) w:=by
 show J6 E ν (slot (Q6 st.fr d s)) st.rs (a.put d y) w;rw [V4];exact J6.put h hd hs
theorem b2N (h:Good E ν st a w) {d:Option Nat} (hd:a1e E.N d=true) {s:C} {y:Value} {rs':List Res} {pk:List Nat} {ν':List Value} {w':World} (hr:RG E.av E.own0 E.w0.heap.size ν' rs' w') (hm:Mv st.rs ν w pk rs' ν' w')
  (hs:Den ν' w' (OO E.av rs' ν') s y) (hp:a4u E pk):Good E ν' ⟨Q6 (a0m pk st.fr) d s,rs'⟩ (a.put d y) w':=by
 show J6 E ν' (slot (Q6 (a0m pk st.fr) d s)) rs' (a.put d y) w';rw [V4];refine J6.put ?_ hd hs;have:=J6.mv h hr hm hp;have e:slot (a0m pk st.fr)=fun t=>(slot st.fr t).y8 pk:=funext fun t=>a4D pk t st.fr;rw [e];exact this
theorem b2V {oo:Oper} {io:IOp} (his:Is E.P oo.type oo.op io) (hd:a1e E.N oo.dst=true) {K:St->Prop} (h:evE E (opv st.fr) st.rs io (KE E st oo.dst K)) (hG:Good E ν st a w)
    {K':Act->World->Prop} {Q:Exit->Act->World->Prop} (hK:∀ st' ν' a' w',K st'->Good E ν' st' a' w'->K' a' w'):oo.wp E.P a w K' Q:=by
  obtain ⟨s,rs',pk,hk,hres⟩:=b1o his h;refine hres E.av ν a w hG.rg (fun _ hb=>hb) hG.frm (fun x _=>a2h hG x) K' Q fun y ν' w' hr hm hs=>?_;exact hK _ ν' _ _ hk.2 (b2N hG hd hr hm hs hk.1)
theorem b2j {oo:Oper} {io:IOp} (his:Is E.P oo.type oo.op io) (hd:a1e E.N oo.dst=true) {p:Bool} {K1:C->Prop} {K:St->Prop} {wr:C->C} (hw:∀ s,K1 s->K ⟨Q6 st.fr oo.dst (wr s),st.rs⟩) (hwr:∀ s y,Den ν w (OO E.av st.rs ν) s y->Den ν w (OO E.av st.rs ν) (wr s) y)
    (h:G8 (opv st.fr) st.rs p io K1) (hG:Good E ν st a w) (hp:p=true)
    {K':Act->World->Prop} {Q:Exit->Act->World->Prop} (hK:∀ st' ν' a' w',K st'->Good E ν' st' a' w'->K' a' w'):oo.wp E.P a w K' Q:=by
  obtain ⟨s,hs,hy⟩:=a3V his h;obtain ⟨y,hd',hrun⟩:=hy ν a w _ hG.rg.hr (fun x _=>a2h hG x) hp;unfold Oper.wp;rw [hrun];exact hK _ ν _ _ (hw s hs) (a2R hG hd (hwr s y hd'))
theorem b1v {oo:Oper} {io:IOp} (his:Is E.P oo.type oo.op io) (hd:a1e E.N oo.dst=true) {K:St->Prop} (h:evU E st oo.dst io K) (hG:Good E ν st a w)
    {K':Act->World->Prop} {Q:Exit->Act->World->Prop} (hK:∀ st' ν' a' w',K st'->Good E ν' st' a' w'->K' a' w'):oo.wp E.P a w K' Q:=by
  unfold evU at h;split at h
  · exact b2V his hd h hG hK
  · exact b2j (wr:=id) his hd (fun s hs=>hs) (fun s y h=>h) h hG rfl hK
theorem a7a {O:Nat->Prop} {p:Bool} {s:C} (hp:p=false):Den ν w O (.g p s) undef:=by
 unfold Den;exact ⟨fun h=>(by rw [hp] at h;cases h),fun _=>rfl⟩
theorem a6X {O:Nat->Prop} {p:Bool} {s:C} {y:Value} (hp:p=true) (h:Den ν w O s y):Den ν w O (.g p s) y:=by
 unfold Den;exact ⟨fun _=>h,fun h=>(by rw [hp] at h;cases h)⟩
theorem b0O (b:Bool):undef ≠ .bool b:=by intro h;cases h
theorem b7K {ov:Operand->C} {p:Bool} {oo:Oper} {io:IOp} (his:Is E.P oo.type oo.op io) {K1:C->Prop} (h:G8 ov rs p io K1):∃ s,K1 s:=by
 obtain ⟨s,hs,_⟩:=a3V his h;exact ⟨s,hs⟩
theorem a4A {sf:Nat->C} {ops:Array Oper} {j s:Nat} (hs:(ops[j]?).bind (·.dst)=some s) {O:Nat->Prop} (hd:Den ν w O (sf s) (a.tmps.getD s undef)) :
  (∀ b,sf s=.v (.bool b)->yielded ops a.tmps j=some b)/\(∀ q b,sf s=.g q (.v (.bool b))->(q=true->yielded ops a.tmps j=some b)/\(q=false->yielded ops a.tmps j=none)):=by
 have hy:∀ b,a.tmps.getD s undef=.bool b->yielded ops a.tmps j=some b:=by
  intro b hb;unfold yielded;simp only [hs,Option.bind_some];rw [Array.getD_eq_getD_getElem?] at hb;cases ht:a.tmps[s]? with
  | none=>rw [ht] at hb;exact absurd hb (b0O b)
  | some x=>rw [ht] at hb;simp at hb;subst hb;rfl
 have hn:a.tmps.getD s undef=undef->yielded ops a.tmps j=none:=by
  intro hb;unfold yielded;simp only [hs,Option.bind_some];rw [Array.getD_eq_getD_getElem?] at hb;cases ht:a.tmps[s]? with
  | none=>rfl
  | some x=>rw [ht] at hb;simp at hb;subst hb;rfl
 refine ⟨fun b hb=>?_,fun q b hb=>?_⟩
 ·rw [hb] at hd;exact hy b (by simpa only [Den] using hd)
 ·rw [hb] at hd;simp only [Den] at hd;exact ⟨fun hq=>hy b (hd.1 hq),fun hq=>hn (hd.2 hq)⟩
theorem a4y {ops:Array Oper} {o:Oper} {j:Nat} {want:Bool} (hg:o.guard=some (j,want)) (tmps:Array Value):Region.wanted o (yielded ops tmps)=(yielded ops tmps j == some want):=by
 simp [Region.wanted,hg]
theorem Y8 {P:Program} {N:Nat} {ops:Array Oper} {o:Oper} {io:E9} (h:a2N P N ops o=some io) :
  a1e N o.dst=true/\Is P o.type o.op io.op/\io.dst=o.dst /\
   ((o.guard=none/\io.guard=none) \/ ∃ j s want,o.guard=some (j,want)/\io.guard=some (s,want)/\(ops[j]?).bind (·.dst)=some s):=by
 unfold a2N at h;split at h
 ·rename_i hd;split at h
  ·rename_i io' g hio hg;injection h with h;subst h;refine ⟨hd,c3z hio,rfl,?_⟩;unfold b1q at hg;split at hg
   ·injection hg with hg;subst hg;exact .inl ⟨by assumption,rfl⟩
   ·rename_i j want heq;split at hg
    ·rename_i s hs;injection hg with hg;subst hg;exact .inr ⟨j,s,want,heq,rfl,hs⟩
    ·cases hg
  ·cases h
 ·cases h
theorem a5U {oo:Oper} (hd:a1e E.N oo.dst=true) {p:Bool} {f:Nat} {cs:List C} {K:St->Prop} (h:c2Z E st p f cs oo.dst K) (hG:Good E ν st a w)
    (hrun:p=true->∃ vs:List Value,(execOp a.eval oo).run E.P w=.ok (.enter f vs.toArray) w/\j6 ν w (OO E.av st.rs ν) cs vs)
    {K':Act->World->Prop} {Q:Exit->Act->World->Prop} (hK:∀ st' ν' a' w',K st'->Good E ν' st' a' w'->K' a' w'):if p=true then oo.wp E.P a w K' Q else K' (a.put oo.dst undef) w:=by
  rcases h with ⟨hp,s,rs',pk,hk,hT⟩|⟨hp,hk⟩|⟨r,hP,hk⟩
  · rw [if_pos hp]
    obtain ⟨vs,h1,h2⟩:=hrun hp;unfold Oper.wp;rw [h1];refine (hT E.av ν w vs hG.rg (fun _ hb=>hb) hG.frm h2).mono ?_;rintro e w' ⟨y,ν',rfl,hr,hm,hs⟩;exact hK _ ν' _ _ hk.2 (b2N hG hd hr hm hs hk.1)
  · rw [if_neg (by rw [hp];simp)]
    exact hK _ ν _ _ hk (a2R hG hd (by simp [Den]))
  · cases hp:p with
    | false=>
      rw [if_neg (by simp)];exact hK _ ν _ _ hk (a2R hG hd (a7a hp))
    | true=>
      rw [if_pos rfl];obtain ⟨vs,h1,h2⟩:=hrun hp;unfold Oper.wp;rw [h1];refine (hP hp E.av ν w vs hG.rg (fun _ hb=>hb) hG.frm h2).mono ?_;rintro e w' ⟨y,rfl,hb,hs⟩;exact hK _ ν _ _ hk (a2R (J6.below hG hb) hd (a6X hp hs))
theorem b1r {oo:Oper} {io:IOp} (his:Is E.P oo.type oo.op io) (hd:a1e E.N oo.dst=true) {p:Bool} {K:St->Prop} (h:evG E st p oo.dst io K) (hG:Good E ν st a w)
    {K':Act->World->Prop} {Q:Exit->Act->World->Prop} (hK:∀ st' ν' a' w',K st'->Good E ν' st' a' w'->K' a' w') :
    if p=true then oo.wp E.P a w K' Q else K' (a.put oo.dst undef) w:=by
  have pure_case:G8 (opv st.fr) st.rs p io (KPg st p oo.dst K)->if p=true then oo.wp E.P a w K' Q else K' (a.put oo.dst undef) w:=fun h=>by
    cases hp:p with
    | false=>
      rw [if_neg (by simp)];obtain ⟨s,hs⟩:=b7K his h;exact hK _ ν _ _ hs (a2R hG hd (a7a hp))
    | true=>
      rw [if_pos rfl];exact b2j (wr:=C.g p) his hd (fun s hs=>hs) (fun s y h=>a6X hp h) h hG hp hK
  have eff_case:((p=true->evE E (opv st.fr) st.rs io (KE E st oo.dst K))/\(p=false->KU st oo.dst K))->if p=true then oo.wp E.P a w K' Q else K' (a.put oo.dst undef) w:=fun h=>by
    cases hp:p with
    | false=>rw [if_neg (by simp)];exact hK _ ν _ _ (h.2 hp) (a2R hG hd (by simp [Den]))
    | true=>rw [if_pos rfl];exact b2V his hd (h.1 hp) hG hK
  have skip_case:p=false->KU st oo.dst K->if p=true then oo.wp E.P a w K' Q else K' (a.put oo.dst undef) w:=fun hp hk=>by
    rw [if_neg (by rw [hp];simp)];exact hK _ ν _ _ hk (a2R hG hd (by simp [Den]))
  cases io with
  | call f args=>
    rcases h with ⟨hp,hk⟩|⟨h1,h⟩
    · exact skip_case hp hk
    · refine a5U hd h hG (fun hp=>?_) hK
      obtain ⟨dst,op,ty,pos,after,guard⟩:=oo;simp only at his;cases his with
      | call c f hcc hcl=>exact ⟨_,by rw [a7R hcc,M5 hcl],W9 hp h1 fun x _=>a2h hG x⟩
  | a0a x args=>
    unfold evG at h;simp only at h;split at h
    · rename_i f caps hx
      rcases h with ⟨hp,hk⟩|⟨⟨h0,h1,hcl⟩,h⟩
      · exact skip_case hp hk
      · refine a5U hd h hG (fun hp=>?_) hK
        have e1:=opS hp (a2h hG x) h0;rw [hx] at e1;have e1:=A8 e1;obtain ⟨dst,op,ty,pos,after,guard⟩:=oo;simp only at his;cases his with
        | a0a c x hc=>exact ⟨_,by rw [a2t hc e1,M5 hcl],(W9 hp h1 fun x _=>a2h hG x).append (j6.vs _)⟩
    · rename_i f caps hx
      rcases h with ⟨hp,hk⟩|⟨⟨h0,h1,hcl⟩,h⟩
      · exact skip_case hp hk
      · refine a5U hd h hG (fun hp=>?_) hK
        have e1:=opS hp (a2h hG x) h0;rw [hx] at e1;simp only [Den] at e1;obtain ⟨vs,hD,e1⟩:=e1;obtain ⟨dst,op,ty,pos,after,guard⟩:=oo;simp only at his;cases his with
        | a0a c x hc=>exact ⟨_,by rw [a2t hc e1,M5 hcl],(W9 hp h1 fun x _=>a2h hG x).append hD⟩
    · exact skip_case h.1 h.2
  | _=>first|exact pure_case h|exact eff_case h
theorem a9G {N:Nat} (hN:E.N=N) {ops:Array Oper} {Q:Exit->Act->World->Prop} {K:St->Prop} (hK:∀ st' ν' a' w',K st'->Good E ν' st' a' w'->Q .normal a' w') :
  ∀ (l:List Oper) (il:List E9) (st:St) (ν:List Value) (a:Act) (w:World),U6 E.P N ops l=some il->ev E il st K->Good E ν st a w->wpList E.P ops Q l a w
 | [],il,st,ν,a,w,hc,h,hG=>by
  simp only [U6,Option.some.injEq] at hc;subst hc;exact hK st ν a w h hG
 | o::l,il,st,ν,a,w,hc,h,hG=>by
  simp only [U6] at hc;split at hc
  ·rename_i io ir hio hir;injection hc with hc;subst hc;obtain ⟨hd,his,hdst,hg⟩:=Y8 hio;rw [<- hN] at hd;have next:∀ st' ν' a' w',(ev E ir st' K)->Good E ν' st' a' w'->wpList E.P ops Q l a' w':=fun st' ν' a' w' h' hG'=>a9G hN hK l ir st' ν' a' w' hir h' hG'
   simp only [ev,ev1,hdst] at h;rcases hg with ⟨hg1,hg2⟩|⟨j,s,want,hg1,hg2,hs⟩
   ·rw [hg2] at h;simp only at h;unfold wpList;rw [if_pos (by simp [Region.wanted,hg1])];exact .inl (b1v his hd h hG next)
   ·rw [hg2] at h;simp only at h;obtain ⟨gv1,gv2⟩:=a4A hs (hG.fr s);have fin:∀ p:Bool,(yielded ops a.tmps j == some want)=p->evG E st p o.dst io.op (fun st'=>ev E ir st' K)->wpList E.P ops Q (o::l) a w:=by
     intro p hp h';have:=b1r his hd h' hG next (Q:=Q)
     unfold wpList;rw [a4y hg1,hp];cases p with
     | true=>exact .inl (by simpa using this)
     | false=>simpa using this
    split at h
    ·rename_i b hb;exact fin _ (by rw [gv1 b hb];rfl) h
    ·rename_i q b hb;refine fin _ ?_ h;cases hq:q with
     | true=>rw [(gv2 q b hb).1 hq];rfl
     | false=>rw [(gv2 q b hb).2 hq];rfl
    ·exact h.elim
  ·cases hc
end
structure Pd where
 ty:TypeId
 zero:List Value
structure TR where
 w:Nat->Option C
 pk:List Nat
 rs':Option (List Res)
 pw:Nat->Option (Option Pd)
structure SX where
 sf:Nat->C
 rs:List Res
 pend:Nat->Option Pd
def TR.step (r:TR) (x:SX):SX:=⟨fun t=>(r.w t).getD ((x.sf t).y8 r.pk),r.rs'.getD x.rs,fun t=>(r.pw t).getD (x.pend t)⟩
def C9 (D:Nat->Bool):List TR->Nat->SX->SX
 | [],_,x=>x
 | r::l,k,x=>C9 D l (k+1) (if D k=true then r.step x else x)
structure a9L (r q:TR):Prop where
 w:∀ t,r.w t=none \/ q.w t=none
 rq:∀ t c,r.w t=some c->c.y8 q.pk=c
 qr:∀ t c,q.w t=some c->c.y8 r.pk=c
 pk:r.pk=[] \/ q.pk=[]
 rs:r.rs'=none \/ q.rs'=none
 pw:∀ t,r.pw t=none \/ q.pw t=none
theorem a9L.comm {r q:TR} (h:a9L r q) (x:SX):q.step (r.step x)=r.step (q.step x):=by
 unfold TR.step;simp only [SX.mk.injEq];refine ⟨funext fun t=>?_,?_,funext fun t=>?_⟩
 ·cases hr:r.w t with
  | some c=>
   rcases h.w t with h1|h1
   ·rw [hr] at h1;cases h1
   ·rw [h1];simp only [Option.getD_some,Option.getD_none];exact h.rq t c hr
  | none=>
   cases hq:q.w t with
   | some c=>simp only [Option.getD_some,Option.getD_none];exact (h.qr t c hq).symm
   | none=>
    simp only [Option.getD_none];rcases h.pk with h1|h1<;>rw [h1]<;>rfl
 ·rcases h.rs with h1|h1<;>rw [h1]<;>simp
 ·rcases h.pw t with h1|h1<;>rw [h1]<;>simp
theorem b2n {D:Nat->Bool} {r:TR}:∀ (l:List TR) (k:Nat) (x:SX),(∀ j q,l[j]?=some q->D (k+j)=true->a9L r q)->C9 D l k (r.step x)=r.step (C9 D l k x)
 | [],_,_,_=>rfl
 | q::l,k,x,h=>by
  have h0:=h 0 q rfl;have h1:=b2n (D:=D) (r:=r) l (k+1) (if D k=true then q.step x else x) (fun j q' hj hd=>h (j+1) q' (by simpa using hj) (by rw [show k+(j+1)=k+1+j by omega];exact hd));simp only [C9];rw [<- h1];congr 1;cases hd:D k with
  | true=>simp only [if_true];exact (h0 hd).comm x
  | false=>rfl
theorem a6K {D D':Nat->Bool}:∀ (l:List TR) (k:Nat) (x:SX),(∀ j,j < l.length->D (k+j)=D' (k+j))->C9 D l k x=C9 D' l k x
 | [],_,_,_=>rfl
 | q::l,k,x,h=>by
  simp only [C9];rw [show D k=D' k from h 0 (by simp)];exact a6K l (k+1) _ fun j hj=>by rw [show k+1+j=k+(j+1) by omega];exact h (j+1) (by simp;omega)
theorem b4J {D D':Nat->Bool} {i:Nat} {r:TR} (hi:D i=false) (hi':D' i=true) (hD:∀ j,j ≠ i->D' j=D j):∀ (l:List TR) (k:Nat) (x:SX),k<=i->l[i-k]?=some r->(∀ j q,i < j->l[j-k]?=some q->D j=true->a9L r q) ->
  C9 D' l k x=r.step (C9 D l k x)
 | [],k,x,hk,hr,_=>by simp at hr
 | q::l,k,x,hk,hr,hc=>by
  simp only [C9];by_cases hki:k=i
  ·subst hki;simp at hr;subst hr;rw [hi,hi'];simp only [if_true,c9d,if_false];rw [a6K (D:=D') (D':=D) l (k+1) _ (fun j _=>hD _ (by omega))];exact b2n l (k+1) x fun j q' hj hd=>hc (k+1+j) q' (by omega) (by rw [show k+1+j-k=j+1 by omega];simpa using hj) hd
  ·rw [hD k hki];refine b4J hi hi' hD l (k+1) _ (by omega) (by rw [show i-k=i-(k+1)+1 by omega] at hr;simpa using hr) fun j q' hj hq hd=>?_;exact hc j q' hj (by rw [show j-k=j-(k+1)+1 by omega];simpa using hq) hd
theorem b5u (pk:List Nat) (c:C):c.y8 pk=c \/ c.y8 pk=.junk:=by
 unfold C.y8;split
 ·exact .inl rfl
 ·cases c.a2f _<;>simp
theorem a6J {pk:List Nat} {c:C} (h:∀ k ∈ pk,c.has k=false):c.y8 pk=c:=by
 unfold C.y8;split
 ·rfl
 ·have:∀ (l:List Nat),(∀ k ∈ l,c.has k=false)->c.a2f l=false:=by
   intro l
   induction l with
   | nil=>intro _;rfl
   | cons k l ih=>intro hl;simp only [C.a2f];rw [hl k (by simp),ih fun k' hk'=>hl k' (by simp [hk'])];rfl
  rw [this _ h];rfl
def R7:Nat->Bool:=fun _=>true
theorem a6a (D:Nat->Bool):∀ (l m:List TR) (k:Nat) (x:SX),C9 D (l++m) k x=C9 D m (k+l.length) (C9 D l k x)
 | [],m,k,x=>rfl
 | r::l,m,k,x=>by
  simp only [List.cons_append,C9,c8R];rw [a6a D l m (k+1)];congr 1;omega
theorem a7x {D:Nat->Bool} {t:Nat} (fixed:Bool):∀ (n:Nat) (l:List TR),l.length=n->∀ (x:SX) (v:C),(C9 R7 l 0 x).sf t=v ->
 (∀ (j:Nat) (r:TR),l[j]?=some r->(r.w t).isSome=true->D j=true) ->
 ((fixed=true/\∀ (j:Nat) (r:TR),l[j]?=some r->r.pk ≠ []->D j=true) \/ (v ≠ .junk/\∀ (j:Nat) (r:TR),l[j]?=some r->v.y8 r.pk=v))->(C9 D l 0 x).sf t=v:=by
 intro n
 induction n with
 | zero=>
  intro l hl x v h _ _;have:l=[]:=c8V hl;subst this;exact h
 | succ n ih=>
  intro l hl x v h hw hp;rcases List.eq_nil_or_concat l with h0|⟨l',r,h0⟩
  ·subst h0;simp at hl
  have h0:l=l'++[r]:=by rw [h0,List.concat_eq_append]
  subst h0;have hl':l'.length=n:=by simpa using hl
  have ih:=ih l' hl';rw [a6a] at h ⊢;simp only [C9,c8Z,R7,if_true] at h ⊢;have hlast:(l'++[r])[l'.length]?=some r:=by simp
  have hpre:∀ {j q},l'[j]?=some q->(l'++[r])[j]?=some q:=fun {j q} hq=>by rw [c8H (c8v.1 hq).1];exact hq
  cases hwt:r.w t with
  | some c=>
   have hd:=hw _ _ hlast (by rw [hwt];rfl);rw [if_pos hd];simp only [TR.step,hwt,Option.getD_some] at h ⊢;exact h
  | none=>
   simp only [TR.step,hwt,Option.getD_none] at h;rcases hp with ⟨hf,hp⟩|⟨hnj,hp⟩
   ·have h2:=ih x _ rfl (fun j q hq hs=>hw j q (hpre hq) hs) (.inl ⟨hf,fun j q hq hne=>hp j q (hpre hq) hne⟩);by_cases hd:D l'.length=true
    ·rw [if_pos hd];simp only [TR.step,hwt,Option.getD_none];rw [h2];exact h
    ·rw [if_neg hd,h2];have:r.pk=[]:=by
      cases hpk:r.pk with
      | nil=>rfl
      | cons a b=>exact absurd (hp _ _ hlast (by rw [hpk];simp)) hd
     rw [this] at h;exact h
   ·have h1:(C9 (fun _=>true) l' 0 x).sf t=v:=by
     rcases b5u r.pk ((C9 (fun _=>true) l' 0 x).sf t) with h'|h'
     ·rw [<- h'];exact h
     ·exfalso;apply hnj;rw [<- h];exact h'
    have h2:=ih x v h1 (fun j q hq hs=>hw j q (hpre hq) hs) (.inr ⟨hnj,fun j q hq=>hp j q (hpre hq)⟩);by_cases hd:D l'.length=true
    ·rw [if_pos hd];simp only [TR.step,hwt,Option.getD_none];rw [h2];exact hp _ _ hlast
    ·rw [if_neg hd];exact h2
theorem a4J {D:Nat->Bool} {t:Nat} {v:C}:∀ (l:List TR) (k:Nat) (x:SX),x.sf t=v->(∀ j r,l[j]?=some r->D (k+j)=true->r.w t=none/\v.y8 r.pk=v)->(C9 D l k x).sf t=v
 | [],_,_,h,_=>h
 | r::l,k,x,h,hp=>by
  simp only [C9];refine a4J l (k+1) _ ?_ fun j q hq hd=>hp (j+1) q (by simpa using hq) (by rw [show k+(j+1)=k+1+j by omega];exact hd);by_cases hd:D k=true
  ·rw [if_pos hd];obtain ⟨h1,h2⟩:=hp 0 r rfl hd;simp only [TR.step,h1,Option.getD_none];rw [h];exact h2
  ·rw [if_neg hd];exact h
theorem c6t {D:Nat->Bool}:∀ (l:List TR) (k:Nat) (x:SX),(∀ j r,l[j]?=some r->r.rs' ≠ none->D (k+j)=true)->(C9 D l k x).rs=(C9 R7 l k x).rs
 | [],_,_,_=>rfl
 | r::l,k,x,h=>by
  have gen:∀ (l:List TR) (k:Nat) (x y:SX),x.rs=y.rs->(∀ j r,l[j]?=some r->r.rs' ≠ none->D (k+j)=true)->(C9 D l k x).rs=(C9 R7 l k y).rs:=by
   intro l
   induction l with
   | nil=>intro k x y h _;exact h
   | cons r l ih=>
    intro k x y h hh;simp only [C9,R7,if_true];refine ih (k+1) _ _ ?_ fun j q hq hne=>by rw [show k+1+j=k+(j+1) by omega];exact hh (j+1) q (by simpa using hq) hne
    cases hr:r.rs' with
    | none=>split<;>simp [TR.step,hr,h]
    | some q=>have hd:=hh 0 r rfl (by rw [hr];simp);rw [Nat.add_zero] at hd;rw [if_pos hd];simp [TR.step,hr]
  exact gen (r::l) k x x rfl h
theorem b6C {D:Nat->Bool}:∀ (l:List TR) (k:Nat) (x:SX),(∀ j r,l[j]?=some r->D (k+j)=true->r.rs'=none)->(C9 D l k x).rs=x.rs
 | [],_,_,_=>rfl
 | r::l,k,x,h=>by
  simp only [C9];rw [b6C l (k+1) _ fun j q hq hd=>h (j+1) q (by simpa using hq) (by rw [show k+(j+1)=k+1+j by omega];exact hd)];by_cases hd:D k=true
  ·rw [if_pos hd];have:=h 0 r rfl hd;simp [TR.step,this]
  ·rw [if_neg hd]
theorem b7b {D:Nat->Bool} {Pr:List Res->Prop}:∀ (l:List TR) (k:Nat) (x:SX),Pr x.rs->(∀ j r,l[j]?=some r->D (k+j)=true->∀ q,r.rs'=some q->Pr q)->Pr (C9 D l k x).rs
 | [],_,_,h,_=>h
 | r::l,k,x,h,hh=>by
  simp only [C9];refine b7b l (k+1) _ ?_ fun j q hq hd=>hh (j+1) q (by simpa using hq) (by rw [show k+(j+1)=k+1+j by omega];exact hd);split
  ·rename_i hd;cases hr:r.rs' with
   | none=>simpa [TR.step,hr] using h
   | some q=>simpa [TR.step,hr] using hh 0 r rfl (by simpa using hd) q hr
  ·exact h
theorem b2J {D:Nat->Bool} {t:Nat}:∀ (l:List TR) (k:Nat) (x y:SX),x.pend t=y.pend t->(∀ j r,l[j]?=some r->r.pw t ≠ none->D (k+j)=true)->(C9 D l k x).pend t=(C9 R7 l k y).pend t
 | [],_,_,_,h,_=>h
 | r::l,k,x,y,h,hh=>by
  simp only [C9,R7,if_true];refine b2J l (k+1) _ _ ?_ fun j q hq hne=>by rw [show k+1+j=k+(j+1) by omega];exact hh (j+1) q (by simpa using hq) hne
  cases hr:r.pw t with
  | none=>split<;>simp [TR.step,hr,h]
  | some q=>have hd:=hh 0 r rfl (by rw [hr];simp);rw [Nat.add_zero] at hd;rw [if_pos hd];simp [TR.step,hr]
theorem b2g {D:Nat->Bool} {t:Nat}:∀ (l:List TR) (k:Nat) (x:SX),(∀ j r,l[j]?=some r->D (k+j)=true->r.pw t=none)->(C9 D l k x).pend t=x.pend t
 | [],_,_,_=>rfl
 | r::l,k,x,h=>by
  simp only [C9];rw [b2g l (k+1) _ fun j q hq hd=>h (j+1) q (by simpa using hq) (by rw [show k+(j+1)=k+1+j by omega];exact hd)];by_cases hd:D k=true
  ·rw [if_pos hd];have:=h 0 r rfl hd;simp [TR.step,this]
  ·rw [if_neg hd]
section
variable {P:Program} {ops:Array Oper} {Q:Exit->Act->World->Prop} {Inv:SX->Act->World->Prop} {tr:List TR} {x0:SX}
def a4K (ops:Array Oper) (D:Nat->Bool):Prop:=∀ i o,ops[i]?=some o->D i=true->∀ e ∈ o.after,Region.binds .any e=true->D e.on=true
theorem b4i {listed:Array Bool} {i:Nat} (hs:listed.size=ops.size) (hi:i < ops.size) (hun:listed.getD i false=false) (hmin:∀ j,j < i->listed.getD j false=true)
  (hb:∀ i o,ops[i]?=some o->∀ e ∈ o.after,Region.binds .any e=true->e.on < i):i ∈ Region.ready .any ops listed:=by
 have ho:ops[i]?=some ops[i]:=by simp [hi]
 refine mem_ready.2 ⟨?_,ops[i],ho,fun e he hbi=>hmin _ (hb i _ ho e he hbi)⟩;have:i < listed.size:=by omega
 simp [this] at hun ⊢;exact hun
theorem c1S (hlen:tr.length=ops.size) (hb:∀ i o,ops[i]?=some o->∀ e ∈ o.after,Region.binds .any e=true->e.on < i) (bef:Nat->Nat->Prop)
 (hbef:∀ D,a4K ops D->∀ i j,bef i j->D j=true->D i=true)
 (hready:∀ D i o,a4K ops D->ops[i]?=some o->(∀ e ∈ o.after,Region.binds .any e=true->D e.on=true)->∀ j,bef j i->D j=true)
 (hcomm:∀ i j r q,i < j->tr[i]?=some r->tr[j]?=some q->¬ bef i j->a9L r q)
 (hsem:∀ i o r D,ops[i]?=some o->tr[i]?=some r->a4K ops D->D i=false->(∀ j,bef j i->D j=true)->∀ (K:Act->World->Prop) a w,Inv (C9 D tr 0 x0) a w->(∀ a' w',Inv (r.step (C9 D tr 0 x0)) a' w'->K a' w')->wpOp P ops Q i K a w)
 (hend:∀ a w,Inv (C9 R7 tr 0 x0) a w->Q .normal a w) :
 ∀ (fuel:Nat) (listed:Array Bool) (a:Act) (w:World),listed.size=ops.size->listed.toList.count false=fuel->a4K ops (fun j=>listed.getD j false)->Inv (C9 (fun j=>listed.getD j false) tr 0 x0) a w ->
  wpAny P .any ops Q fuel listed a w:=by
 have all_of:∀ (listed:Array Bool),listed.size=ops.size->listed.toList.count false=0->∀ j,j < ops.size->listed.getD j false=true:=by
  intro listed hs hc j hj;have hjl:j < listed.size:=by omega
  have hne:listed[j] ≠ false:=fun e=>by
   have:false ∈ listed.toList:=by rw [<- e];simp
   exact absurd (List.count_pos_iff.2 this) (by omega)
  simp [hjl];cases hv:listed[j] with|true=>rfl|false=>exact absurd hv hne
 have fin:∀ (listed:Array Bool) (a:Act) (w:World),listed.size=ops.size->listed.toList.count false=0->Inv (C9 (fun j=>listed.getD j false) tr 0 x0) a w->Q .normal a w:=by
  intro listed a w hs hc hI;refine hend a w ?_;rwa [a6K (D:=fun j=>listed.getD j false) (D':=R7) tr 0 x0 (fun j hj=>by simp only [c8Z,R7];exact all_of listed hs hc j (by omega))] at hI
 intro fuel
 induction fuel with
 | zero=>
  intro listed a w hs hc hcl hI;refine ⟨?_,fin listed a w hs hc hI⟩;apply List.eq_nil_iff_forall_not_mem.2;intro i hi;obtain ⟨hun,o,ho,_⟩:=mem_ready.1 hi;have hilt:i < ops.size:=(Array.getElem?_eq_some_iff.1 ho).1;have:=all_of listed hs hc i hilt;have hil:i < listed.size:=by omega
  simp [hil] at this hun;rw [this] at hun;cases hun
 | succ fuel ih=>
  intro listed a w hs hc hcl hI;refine ⟨fun hnil=>?_,fun i hi=>?_⟩
  ·exfalso;have hmem:false ∈ listed.toList:=List.count_pos_iff.1 (by omega);have hex:∃ i,i < ops.size/\listed.getD i false=false:=by
    obtain ⟨i,hi,he⟩:=List.getElem_of_mem hmem;refine ⟨i,by simpa [<- hs] using hi,?_⟩;have:i < listed.size:=by simpa using hi
    simp [this];simpa using he
   obtain ⟨i,hi,hmin⟩:∃ i,(i < ops.size/\listed.getD i false=false)/\∀ j,j < i->¬ (j < ops.size/\listed.getD j false=false):=by
    obtain ⟨i0,h0⟩:=hex
    induction i0 using Nat.strongRecOn with
    | _ i0 ih2=>
     by_cases h:∃ j,j < i0/\(j < ops.size/\listed.getD j false=false)
     ·obtain ⟨j,hj,hj'⟩:=h;exact ih2 j hj hj'
     ·exact ⟨i0,h0,fun j hj hj'=>h ⟨j,hj,hj'⟩⟩
   have hr:=b4i hs hi.1 hi.2 (fun j hj=>by
    cases hg:listed.getD j false with
    | true=>rfl
    | false=>exact absurd ⟨by omega,hg⟩ (hmin j hj)) hb
   rw [hnil] at hr;cases hr
  ·obtain ⟨hun,o,ho,hall⟩:=mem_ready.1 hi;have hilt:i < ops.size:=(Array.getElem?_eq_some_iff.1 ho).1;have hil:i < listed.size:=by omega
   have hunf:listed.getD i false=false:=by simp [hil] at hun ⊢;exact hun
   obtain ⟨r,hr⟩:∃ r,tr[i]?=some r:=⟨tr[i],by simp [hlen,hilt]⟩
   have hbi:=hready _ i o hcl ho (fun e he hb'=>hall e he hb');refine hsem i o r _ ho hr hcl hunf hbi _ a w hI fun a' w' hI'=>?_;have hgi:(listed.setIfInBounds i true).getD i false=true:=by simp [hil]
   have hgj:∀ j,j ≠ i->(listed.setIfInBounds i true).getD j false=listed.getD j false:=fun j hne=>getD_set_ne false (Ne.symm hne);refine ih (listed.setIfInBounds i true) a' w' (by simpa using hs) ?_ ?_ ?_
   ·have:listed.toList.count false=(listed.setIfInBounds i true).toList.count false+1:=by
     rw [Array.toList_setIfInBounds];have hli:i < listed.toList.length:=by simpa using hil
     have he:listed.toList[i]=false:=by simp [hil] at hunf;simpa using hunf
     have h1:=List.count_set (l:=listed.toList) (a:=true) (b:=false) hli;rw [he] at h1;have hpos:0 < listed.toList.count false:=List.count_pos_iff.2 (by rw [<- he];exact c8L hli);rw [show (false == false)=true from rfl,show (true == false)=false from rfl] at h1;simp only [if_true,c9d,if_false] at h1;omega
    omega
   ·intro j oj hj hdj e he hbe;by_cases hji:j=i
    ·subst hji;rw [ho] at hj;injection hj with hj;subst hj;by_cases hei:e.on=j
     ·rw [hei];exact hgi
     ·show (listed.setIfInBounds j true).getD e.on false=true;rw [hgj _ hei];exact hall e he hbe
    ·have hdj':listed.getD j false=true:=by rw [<- hgj j hji];exact hdj
     by_cases hei:e.on=i
     ·rw [hei];exact hgi
     ·show (listed.setIfInBounds i true).getD e.on false=true;rw [hgj _ hei];exact hcl j oj hj hdj' e he hbe
   ·rw [b4J (D:=fun j=>listed.getD j false) (D':=fun j=>(listed.setIfInBounds i true).getD j false) (r:=r) hunf hgi hgj tr 0 x0 (c8w _) (by simpa using hr) (fun j q hij hq hd=>hcomm i j r q hij hr (by simpa using hq) fun hbij=>?_)]
    ·exact hI'
    ·have:=hbef _ hcl i j hbij hd;rw [hunf] at this;cases this
end
def a0E (E:Ctx) (rs:List Res) (p:Bool) (f:Nat) (args:List C) (K:C->Prop):Prop:=∃ r,S9 E rs p f args r/\K r
def evQ (E:Ctx) (ov:Operand->C) (rs:List Res) (p:Bool) (o:IOp) (K:C->Prop):Prop:=
 match o with
 | .call f args=>a3t p ov args/\a0E E rs p f (a1v ov args) K
 | .a0a x args=>req p (ov x)/\a3t p ov args/\match strip (ov x) with
  | .v (.func (.func f) ⟨[]⟩ ⟨caps⟩)=>callable E.P f=true/\a0E E rs p f (a1v ov args++caps.map .v) K
  | .clo f caps=>callable E.P f=true/\a0E E rs p f (a1v ov args++caps) K
  | _=>False
 | .bsl _ sz n zero parts=>Z8 zero=true/\zero.length=sz/\0 < sz/\a9u p ov parts/\a2v n sz (P8 ov parts)/\(n*sz<=16777216/\n<=16777216)/\K (.sl sz (Q0 (List.replicate n (zero.map .v)) (P8 ov parts)))
 | .a4s _=>K .nl
 | .a5w _ bytes zero l c=>Z8 zero=true/\0 < zero.length/\req p (ov l)/\req p (ov c)/\match strip (ov l),strip (ov c) with
  | .v (.int .i64 l),.v (.int .i64 c)=>(p=true->0<=l/\l<=c/\c<=140737488355328/\c.toNat*bytes<=140737488355328)/\K (.sl zero.length (List.replicate l.toNat (zero.map .v)))
  | _,_=>False
 | o=>G8 ov rs p o K
def KgP (p:Bool) (K:C->Prop) (s:C):Prop:=K (.g p s)
def b0Z (E:Ctx) (fr:List (Nat × C)) (rs:List Res) (o:E9) (K:C->Prop):Prop:=
 match o.guard with
 | none=>evQ E (opv fr) rs true o.op K
 | some (s,want)=>match slot fr s with
  | .v (.bool b)=>evQ E (opv fr) rs (b == want) o.op (KgP (b == want) K)
  | .g q (.v (.bool b))=>evQ E (opv fr) rs (q && (b == want)) o.op (KgP (q && (b == want)) K)
  | _=>False
def b0N (ov:Operand->C) (rs:List Res) (p:Bool) (o:IOp) (K:C->Prop):Prop:=
 match o with
 | .bsl _ sz n zero parts=>Z8 zero=true/\zero.length=sz/\0 < sz/\a9u p ov parts/\a2v n sz (P8 ov parts)/\(n*sz<=16777216/\n<=16777216)/\K (.sl sz (Q0 (List.replicate n (zero.map .v)) (P8 ov parts)))
 | o=>G8 ov rs p o K
def a7n (fr:List (Nat × C)) (rs:List Res) (o:E9) (K:C->Prop):Prop:=
 match o.guard with
 | none=>b0N (opv fr) rs true o.op K
 | some (s,want)=>match slot fr s with
  | .v (.bool b)=>b0N (opv fr) rs (b == want) o.op (KgP (b == want) K)
  | .g q (.v (.bool b))=>b0N (opv fr) rs (q && (b == want)) o.op (KgP (q && (b == want)) K)
  | _=>False
def C.nj:C->Bool
 | .junk=>false
 | _=>true
def opsV (fr:List (Nat × C)) (o:E9):List C:=o.op.uses.map (opv fr)++(match o.guard with
 | some (s,_)=>[slot fr s]
 | none=>[])
def njL:List C->Bool
 | []=>true
 | c::r=>c.nj && njL r
def a4z (pk:List Nat):List C->Bool
 | []=>true
 | c::r=>!(c.a2f pk) && a4z pk r
def leC:List C->List C->Prop
 | [],[]=>True
 | .junk::a,_::b=>leC a b
 | c::a,d::b=>c=d/\leC a b
 | _,_=>False
theorem E5:∀ cs:List C,leC cs cs
 | []=>trivial
 | c::cs=>by cases c<;>simp only [leC,true_and]<;>exact E5 cs
def F3:List Res->List Res->Prop
 | [],_=>True
 | .gone::h,_::r=>F3 h r
 | .box t cs::h,.box t' cs'::r=>(t=t'/\leC cs cs')/\F3 h r
 | x::h,y::r=>x=y/\F3 h r
 | _::_,[]=>False
def a2H (t:Nat):List (Nat × Pd)->Option Pd
 | []=>none
 | (s,p)::r=>bif s == t then some p else a2H t r
def rmP (t:Nat):List (Nat × Pd)->List (Nat × Pd)
 | []=>[]
 | (s,p)::r=>bif s == t then rmP t r else (s,p)::rmP t r
structure DS where
 fr:List (Nat × C)
 rs:List Res
 pend:List (Nat × Pd)
 fv:List C
 pk:List Nat
def KQd (x:DS) (d:Option Nat) (K:DS->Prop) (s:C):Prop:=K { x with fr:=Q6 x.fr d s }
def KFd (x:DS) (d:Option Nat) (o:E9) (K:DS->Prop) (s:C):Prop:=K { x with fr:=Q6 x.fr d s,fv:=s::(opsV x.fr o++x.fv) }
def KLd (x:DS) (d:Option Nat) (o:E9) (K:DS->Prop) (s:C):Prop:=K { x with fr:=Q6 x.fr d s,fv:=opsV x.fr o++x.fv }
def KMd (x:DS) (d:Option Nat) (o:E9) (K:DS->Prop) (s:C):Prop:=a4z x.pk [s]=true/\K { x with fr:=Q6 x.fr d s,fv:=opsV x.fr o++x.fv }
def KEd (E:Ctx) (hid:List Res) (cl sk:Bool) (x:DS) (d:Option Nat) (K:DS->Prop) (s:C) (rs':List Res) (pk:List Nat):Prop:=(sk=false->F3 hid rs')/\(cl=true->pk=[])/\a4u E pk/\K ⟨Q6 (a0m pk x.fr) d s,rs',x.pend,x.fv,pk++x.pk⟩
def a7P (E:Ctx) (hid:List Res) (t:DT) (o:E9) (x:DS) (K:DS->Prop):Prop:=
 match t with
 | .q=>b0Z E x.fr x.rs o (KQd x o.dst K)
 | .f=>njL (opsV x.fr o)=true/\a7n x.fr hid o (KFd x o.dst o K)
 | .l=>njL (opsV x.fr o)=true/\a7n x.fr hid o (KLd x o.dst o K)
 | .m=>njL (opsV x.fr o)=true/\a7n x.fr hid o (KMd x o.dst o K)
 | .n=>njL (opsV x.fr o)=true/\a7n x.fr [] o (KFd x o.dst o K)
 | .a=>match o.op,o.dst with
  | .alloc t zero,some ta=>Z8 zero=true/\K { x with fr:=Q6 x.fr (some ta) .junk,pend:=(ta,⟨t,zero⟩)::x.pend }
  | _,_=>False
 | .e none sk=>evE E (opv x.fr) x.rs o.op (KEd E hid (b0u o.op) sk x o.dst K)
 | .e (some ta) sk=>match a2H ta x.pend with
  | some p=>evE E (opv ((ta,.bp x.rs.length 0)::x.fr)) (x.rs++[.box p.ty (p.zero.map .v)]) o.op (KEd E hid (b0u o.op) sk { x with fr:=(ta,.bp x.rs.length 0)::x.fr,pend:=rmP ta x.pend } o.dst K)
  | none=>False
def evD (E:Ctx) (hid:List Res):List DT->List E9->DS->(St->Prop)->Prop
 | [],[],x,K=>x.pend=[]/\a4z x.pk x.fv=true/\K ⟨x.fr,x.rs⟩
 | t::ts,o::r,x,K=>a7P E hid t o x fun x'=>evD E hid ts r x' K
 | _,_,_,_=>False
def KRD (E:Ctx) (hid:List Res) (ts:List DT) (r:List E9) (K:St->Prop) (x:DS):Prop:=evD E hid ts r x K
theorem c3G (E:Ctx) (hid:List Res) (x:DS) (K:St->Prop):evD E hid [] [] x K=(x.pend=[]/\a4z x.pk x.fv=true/\K ⟨x.fr,x.rs⟩):=rfl
theorem c2p (E:Ctx) (hid:List Res) (t:DT) (ts:List DT) (o:E9) (r:List E9) (x:DS) (K:St->Prop):evD E hid (t::ts) (o::r) x K=a7P E hid t o x (KRD E hid ts r K):=rfl
section
variable {E:Ctx} {P:Program} {ν:List Value} {rs:List Res} {a:Act} {w:World} {av own0:Nat->Prop} {n0:Nat} {ov:Operand->C}
theorem b0X {O:Nat->Prop} (z:List Value):∀ n,FzL w O (List.replicate n (z.map C.v)).flatten (List.replicate n z).flatten
 | 0=>by simp [FzL]
 | n+1=>by rw [List.replicate_succ,List.replicate_succ,List.flatten_cons,List.flatten_cons];exact (FzL.vs _).append (b0X z n)
theorem b8B {O:Nat->Prop} {e sz n c:Nat} {es:List (List C)} {us zs:List Value} (hO:∀ b,O b->b < w.heap.size) (hes:es.length=n) (hl:∀ q ∈ es,q.length=sz) (hF:FzL w O es.flatten us) (h1:∀ u ∈ us,u.oneCell'=true) (hz:zs.take (n*sz)=us) (hnc:n<=c) (hcm:c<=maxLen) :
  Fz (w.alloc (.cells zs.toArray e)) O (.sl sz es) (.slice (some ⟨w.heap.size,0,none⟩) n c):=by
 have hk:Keeps O w O (w.alloc (.cells zs.toArray e)):=fun b hb hn=>⟨by simp;omega,hn,Below.heap_alloc w _ b hb⟩
 simp only [Fz];refine ⟨_,c,by rw [hes],by omega,hcm,fun h0=>⟨_,rfl,by simp,fun hb=>by have:=hO _ hb;simp at this,?_⟩⟩;have hul:us.length=n*sz:=by rw [hF.length,Q5 hl,hes]
 have hcell:∀ (j:Nat) (v:Value),us[j]?=some v->(w.alloc (.cells zs.toArray e)).cell? ((⟨w.heap.size,0,none⟩:Addr).add j)=some v:=fun j v hv=>by
  rw [I7,c8Z,cell_of_row _ w.heap.size j _ _ _ (heap_alloc_new w _)];rw [<- hz,List.getElem?_take] at hv;split at hv
  ·simpa using hv
  ·cases hv
 have hF':=FzL.keep hk hF;refine FzE.of fun k q hq=>⟨hl q (c8t hq),?_⟩
 have hseg:=a2X hl hq;have hsub:FzL (w.alloc (.cells zs.toArray e)) O q ((us.drop (k*sz)).take sz):=by
  have:=(hF'.drop (k*sz)).take sz;rwa [hseg] at this
 refine FzA.of hsub (fun u hu=>h1 u (List.mem_of_mem_drop (List.mem_of_mem_take hu))) fun i v hv=>?_;rw [List.getElem?_take] at hv;split at hv
 ·rw [c9e] at hv;rw [c8Z];exact hcell _ v hv
 ·cases hv
def Yq (P:Program) (ν:List Value) (w:World) (O:Nat->Prop) (a:Act) (oo:Oper) (s:C):Prop:=
 ∀ (K:Act->World->Prop) (Q:Exit->Act->World->Prop),(∀ y w',Below w.heap.size w w'->Den ν w' O s y->K (a.put oo.dst y) w')->oo.wp P a w K Q
theorem Yl.yq {O:Nat->Prop} {oo:Oper} {s:C} (h:Yl P ν w O a oo s):Yq P ν w O a oo s:=by
 intro K Q hK;obtain ⟨y,hd,hrun⟩:=h;unfold Oper.wp;rw [hrun];exact hK y w (Below.refl _ _) hd
set_option maxHeartbeats 1000000 in
theorem a7V {p:Bool} {o:IOp} {K:C->Prop} {oo:Oper} (his:Is E.P oo.type oo.op o) (h:evQ E ov rs p o K) :
 ∃ s,K s/\∀ av ν (a:Act) w,RG av E.own0 E.w0.heap.size ν rs w->(∀ b,E.av b->av b)->Frm E.own0 E.w0 w->(∀ x ∈ o.uses,Den ν w (OO av rs ν) (ov x) (a.eval x))->p=true->Yq E.P ν w (OO av rs ν) a oo s:=by
 have pure_case:G8 ov rs p o K->∃ s,K s/\∀ av ν (a:Act) w,RG av E.own0 E.w0.heap.size ν rs w->(∀ b,E.av b->av b)->Frm E.own0 E.w0 w->(∀ x ∈ o.uses,Den ν w (OO av rs ν) (ov x) (a.eval x))->p=true->Yq E.P ν w (OO av rs ν) a oo s:=fun h=>by
  obtain ⟨s,hs,hy⟩:=a3V his h;exact ⟨s,hs,fun av ν a w hR _ _ hO hp=>(hy ν a w _ hR.hr hO hp).yq⟩
 have call_case:∀ (f:Nat) (cs:List C) (r:C),S9 E rs p f cs r->K r->(∀ av ν (a:Act) w,(∀ x ∈ o.uses,Den ν w (OO av rs ν) (ov x) (a.eval x))->p=true->∃ vs:List Value,(execOp a.eval oo).run E.P w=.ok (.enter f vs.toArray) w/\j6 ν w (OO av rs ν) cs vs) ->
  ∃ s,K s/\∀ av ν (a:Act) w,RG av E.own0 E.w0.heap.size ν rs w->(∀ b,E.av b->av b)->Frm E.own0 E.w0 w->(∀ x ∈ o.uses,Den ν w (OO av rs ν) (ov x) (a.eval x))->p=true->Yq E.P ν w (OO av rs ν) a oo s:=fun f cs r hP hk hrun=>
  ⟨r,hk,fun av ν a w hR hav hF hO hp K' Q hK=>by
   obtain ⟨vs,h1,h2⟩:=hrun av ν a w hO hp;unfold Oper.wp;rw [h1];refine (hP hp av ν w vs hR hav hF h2).mono ?_;rintro e w' ⟨y,rfl,hb,hd⟩;exact hK y w' hb hd⟩
 have ltO:∀ {av ν w},RG av E.own0 E.w0.heap.size ν rs w->∀ b,OO av rs ν b->b < w.heap.size:=fun hR b hb=>by
  rcases hb with hb|hb
  ·exact hR.av b hb
  ·exact (hR.low b hb).1
 cases o with
 | call f args=>
  obtain ⟨h1,r,hP,hk⟩:=h;refine call_case f _ r hP hk fun av ν a w hO hp=>?_;obtain ⟨dst,op,ty,pos,after,guard⟩:=oo;simp only at his;cases his with
  | call c f hcc hcl=>exact ⟨_,by rw [a7R hcc,M5 hcl],W9 hp h1 hO⟩
 | a0a x args=>
  obtain ⟨h0,h1,h⟩:=h;have hO':∀ {av ν w} {a:Act},(∀ y ∈ (IOp.a0a x args).uses,Den ν w (OO av rs ν) (ov y) (a.eval y))->∀ y ∈ args,Den ν w (OO av rs ν) (ov y) (a.eval y):=fun hO y hy=>hO y (by simp only [IOp.uses,List.mem_cons];exact .inr hy);split at h
  ·rename_i f caps hx;obtain ⟨hcl,r,hP,hk⟩:=h;refine call_case f _ r hP hk fun av ν a w hO hp=>?_;have e1:=opS hp (hO x (by simp [IOp.uses])) h0;rw [hx] at e1;have e1:=A8 e1;obtain ⟨dst,op,ty,pos,after,guard⟩:=oo;simp only at his;cases his with
   | a0a c x hc=>exact ⟨_,by rw [a2t hc e1,M5 hcl],(W9 hp h1 (hO' hO)).append (j6.vs _)⟩
  ·rename_i f caps hx;obtain ⟨hcl,r,hP,hk⟩:=h;refine call_case f _ r hP hk fun av ν a w hO hp=>?_;have e1:=opS hp (hO x (by simp [IOp.uses])) h0;rw [hx] at e1;simp only [Den] at e1;obtain ⟨vs,hD,e1⟩:=e1;obtain ⟨dst,op,ty,pos,after,guard⟩:=oo;simp only at his;cases his with
   | a0a c x hc=>exact ⟨_,by rw [a2t hc e1,M5 hcl],(W9 hp h1 (hO' hO)).append hD⟩
  ·exact h.elim
 | bsl e sz0 n zero0 ps0=>
  obtain ⟨dst,op,ty,pos,after,guard⟩:=oo;simp only at his;cases his with
  | bsl t _ _ ps i z ht hi hz hn hzs=>
  obtain ⟨h1,h1l,h1p,h2,h3,⟨h5,h6⟩,h⟩:=h;have hzsz:0 < z.cells.size:=by rw [hzs];exact h1p
  obtain ⟨hl2,hg2⟩:=a6R h2;have hrl:∀ q ∈ List.replicate n (z.cells.toList.map C.v),q.length=i.size:=fun q hq=>by rw [c8T hq];simpa using hzs
  obtain ⟨p1,p2,p3,p4⟩:=a6W (P8 ov ps.toList) (List.replicate n (z.cells.toList.map C.v)) n (by simp) hrl h3;refine ⟨_,h,fun av ν a w hR hav hF hO hp=>?_⟩;obtain ⟨us,hf,hD⟩:=a4a (ν:=ν) (w:=w) (O:=OO av rs ν) (fun j=>some (j*i.size,i.size)) (ps.toList.map fun (j,x)=>(j,a.eval x)) ((P8 ov ps.toList).map fun (j,c)=>(j*i.size,i.size,c)) _ _
   (by simp [hl2]) (fun j f v hj=>by
    simp only [c8x,Option.map_eq_some_iff] at hj;obtain ⟨⟨f',x⟩,hj,he⟩:=hj;simp only [Prod.mk.injEq] at he;obtain ⟨rfl,rfl⟩:=he;obtain ⟨hrq,hpv⟩:=hg2 j _ x hj;have hmem:x ∈ (IOp.bsl e i.size n z.cells.toList ps.toList).uses:=List.mem_map.2 ⟨_,c8t hj,rfl⟩;exact ⟨_,_,_,by rw [c8x,hpv];rfl,rfl,a2w (opS hp (hO x hmem) hrq) (a7J h3 j _ _ hpv)⟩) ((b0X z.cells.toList n).den ν) p2
  rw [p1] at hD;have hcl:C.clL (Q0 (List.replicate n (z.cells.toList.map C.v)) (P8 ov ps.toList)).flatten=true:=b6z (a5Z h3 fun e he=>by rw [c8T he];exact c3t _);have hon:C.ones (Q0 (List.replicate n (z.cells.toList.map C.v)) (P8 ov ps.toList)).flatten=true:=b1L (a4t h3 fun e he=>by rw [c8T he];exact b6L h1);have hul:us.length=n*i.size:=by rw [hD.length,Q5 p4,p3]
  have hrun:(execOp a.eval { dst,op:=.buildSlice t n ps,type:=ty,pos,after,guard }).run E.P w=.ok (.value (.slice (some ⟨w.heap.size,0,none⟩) n n)) (w.alloc (.cells us.toArray e)):=by
   have hzr:(zeroValue e).run E.P w=.ok z w:=by simp [zeroValue,typeInfo,hi,hz]
   have hn':¬ n*i.size > 2 ^ 24:=by omega
   have hzf:=a2n z.cells n hzsz;rw [hzs] at hzf;have hze:((Array.range (n*i.size)).map fun j=>z.cells[j % z.cells.size]!)=(List.replicate n z.cells.toList).flatten.toArray:=by
    apply Array.ext';rw [hzs,hzf]
   have e1:(ps.map fun (i,x)=>(i,a.eval x)).toList=ps.toList.map fun (i,x)=>(i,a.eval x):=by simp
   simp only [execOp,Instr.buildSlice,Sem.run_bind,run_underlying ht w,Result.andThen_ok,sizeOf,typeInfo,run_program,hi,Sem.run_pure,hn',if_false,hn,hzr,hze,e1,hf];simp [newRow]
  intro K' Q hK;unfold Oper.wp;rw [hrun];refine hK _ _ (V3 w _) ?_;refine Fz.den ν (b8B (ltO hR) p3 p4 (hD.fz hcl) (a3K hD hon) ?_ (c8B _) (by simp only [maxLen];omega));rw [<- hul];exact c8J
 | a4s e=>
  obtain ⟨dst,op,ty,pos,after,guard⟩:=oo;simp only at his;cases his with
  | a4s t _ ps i ht hi hps=>
  have hps0:ps=#[]:=Array.eq_empty_of_size_eq_zero hps;subst hps0;refine ⟨_,h,fun av ν a w hR hav hF hO hp K' Q hK=>?_⟩;have hrun:(execOp a.eval { dst,op:=.buildSlice t 0 #[],type:=ty,pos,after,guard }).run E.P w=.ok (.value (.slice (some ⟨w.heap.size,0,none⟩) 0 0)) (w.alloc (.cells #[] e)):=by
   simp [execOp,Instr.buildSlice,run_underlying ht w,sizeOf,typeInfo,hi,Instr.fill,newRow,show (Array.range 0:Array Nat)=#[] from rfl]
  unfold Oper.wp;rw [hrun];exact hK _ _ (V3 w _) ⟨_,rfl⟩
 | a5w e by0 zero0 l c=>
  obtain ⟨dst,op,ty,pos,after,guard⟩:=oo;simp only at his;cases his with
  | a5w t _ _ _ i z ht hi hz hzs h0=>
  obtain ⟨h1,h2,h3,h4,h⟩:=h;have hzsz:0 < z.cells.size:=by simpa using h2
  have hzl:z.cells.toList.length=i.size:=by simpa using hzs
  split at h
  ·rename_i lv cv hl hc;obtain ⟨hb,h⟩:=h;refine ⟨_,h,fun av ν a w hR hav hF hO hp=>?_⟩;obtain ⟨b0,b1,b2,b3⟩:=hb hp;have e1:=opS hp (hO l (by simp [IOp.uses])) h3;have e2:=opS hp (hO c (by simp [IOp.uses])) h4;rw [hl] at e1;rw [hc] at e2;have e1:=A8 e1;have e2:=A8 e2;have hlen:∀ n,(List.replicate n z.cells.toList).flatten.length=n*i.size:=fun n=>by
    rw [Q5 (sz:=i.size) (fun q hq=>by rw [c8T hq];exact hzl),List.length_replicate]
   have htk:((List.replicate cv.toNat z.cells.toList).flatten.take (lv.toNat*i.size))=(List.replicate lv.toNat z.cells.toList).flatten:=by
    have:List.replicate cv.toNat z.cells.toList=List.replicate lv.toNat z.cells.toList++List.replicate (cv.toNat-lv.toNat) z.cells.toList:=by
     rw [List.replicate_append_replicate];congr 1;omega
    rw [this,List.flatten_append,<- hlen lv.toNat];exact List.take_left
   have hone:∀ u ∈ (List.replicate lv.toNat z.cells.toList).flatten,u.oneCell'=true:=fun u hu=>by
    obtain ⟨q,hq,hu⟩:=List.mem_flatten.1 hu;rw [c8T hq] at hu;exact a0j h1 u hu
   have hzf:=a2n z.cells cv.toNat hzsz;rw [hzs] at hzf;have hze:((Array.range (cv.toNat*i.size)).map fun j=>z.cells[j % z.cells.size]!)=(List.replicate cv.toNat z.cells.toList).flatten.toArray:=by
    apply Array.ext';rw [hzs,hzf]
   have hb':(i.bytes:Int)*cv<=281474976710656:=by
    have h3:(((i.bytes*cv.toNat:Nat):Int))<=140737488355328:=by rw [Nat.mul_comm];omega
    rw [Int.natCast_mul,show ((cv.toNat:Nat):Int)=cv by omega] at h3;omega
   have hrun:=run_make (P:=E.P) w t e i z ht hi hz .i64 .i64 lv cv b0 b1 hb' (by omega);unfold madeCells at hrun;rw [hze] at hrun;intro K' Q hK;have hrun':(execOp a.eval { dst,op:=.makeSlice t l c,type:=ty,pos,after,guard }).run E.P w=.ok (.value (.slice (some ⟨w.heap.size,0,none⟩) lv.toNat cv.toNat)) (w.alloc (.cells (List.replicate cv.toNat z.cells.toList).flatten.toArray e)):=by
    simp only [execOp,e1,e2,Sem.run_bind,hrun];rfl
   unfold Oper.wp;rw [hrun'];refine hK _ _ (V3 w _) ?_;rw [hzl];exact Fz.den ν (b8B (ltO hR) (by simp) (fun q hq=>by rw [c8T hq];simpa using hzs) (b0X _ _) hone htk (by omega) (by simp only [maxLen];omega))
  ·exact h.elim
 | _=>exact pure_case h
end
def trQ (d:Option Nat) (s:C):TR:=⟨fun t=>if d=some t then some s else none,[],none,fun _=>none⟩
def trA (ta:Nat) (p:Pd):TR:=⟨fun t=>if t=ta then some .junk else none,[],none,fun t=>if t=ta then some (some p) else none⟩
def trE (d:Option Nat) (s:C) (rs':List Res) (pk:List Nat) (ad:Option (Nat × C)):TR:=
 ⟨fun t=>if d=some t then some s else match ad with
  | some (ta,c)=>if t=ta then some (c.y8 pk) else none
  | none=>none,pk,some rs',fun t=>match ad with
  | some (ta,_)=>if t=ta then some none else none
  | none=>none⟩
def avP (E:Ctx) (B:Nat->Nat) (pend:Nat->Option Pd) (b:Nat):Prop:=E.av b \/ ∃ t p,pend t=some p/\B t=b
structure a4c (E:Ctx) (B:Nat->Nat) (pend:Nat->Option Pd) (a:Act) (w:World):Prop where
 cell:∀ t p,pend t=some p->a.tmps.getD t undef=.pointer (some ⟨B t,0,none⟩)/\w.heap[B t]?=some (.cells p.zero.toArray p.ty (0,0))/\E.w0.heap.size<=B t/\Z8 p.zero=true
 inj:∀ t t' p p',pend t=some p->pend t'=some p'->t ≠ t'->B t ≠ B t'
 av0:∀ b,E.av b->b < E.w0.heap.size
def b3N (E:Ctx) (x:SX) (a:Act) (w:World):Prop:=∃ ν B,J6 { E with av:=avP E B x.pend } ν x.sf x.rs a w/\a4c E B x.pend a w
def a5z (P:Program) (ops:Array Oper) (Q:Exit->Act->World->Prop) (o:Oper) (K:Act->World->Prop) (a:Act) (w:World):Prop:=
 if Region.wanted o (yielded ops a.tmps) then o.wp P a w K Q \/ (o.asks P a w/\LetsOut Q) else K (a.put o.dst undef) w
def Sem (E:Ctx) (ops:Array Oper) (o:Oper) (r:TR) (y:SX):Prop:=
 (∀ t p,y.pend t=some p->o.dst ≠ some t)->∀ (K:Act->World->Prop) (Q:Exit->Act->World->Prop) a w,b3N E y a w->(∀ a' w',b3N E (r.step y) a' w'->K a' w')->a5z E.P ops Q o K a w
def agree (ops:Array Oper) (o:Oper) (x y:SX):Prop:=∀ t ∈ o.looksAt ops,y.sf t=x.sf t
section
variable {E:Ctx} {ν ν':List Value} {a:Act} {w w':World}
theorem b6M {P:Program} {ty:TypeId} {op:Op} {io:IOp} (h:Is P ty op io):(∀ x ∈ io.uses,x ∈ op.operands.toList)/\∀ t,Operand.tmp t ∈ op.operands.toList->Operand.tmp t ∈ io.uses:=by
 cases h with
 | call c f hc hcl=>
  constructor
  ·intro x hx;simp only [Op.operands,Call.operands,hc];simpa [IOp.uses] using Or.inr hx
  ·intro t ht;simp only [Op.operands,Call.operands,hc] at ht;simpa [IOp.uses] using ht
 | a0a c x hc=>
  constructor
  ·intro y hy;simp only [Op.operands,Call.operands,hc];simpa [IOp.uses] using hy
  ·intro t ht;simp only [Op.operands,Call.operands,hc] at ht;simpa [IOp.uses] using ht
 | lenS c t x hc hat ha ht=>constructor<;>intro y hy<;>simp_all [Op.operands,Call.operands,IOp.uses]
 | lenL c t e x hc hat ha ht=>constructor<;>intro y hy<;>simp_all [Op.operands,Call.operands,IOp.uses]
 | app c t e i s x hc hat ha ht hi z hz hzs=>constructor<;>intro y hy<;>simp_all [Op.operands,Call.operands,IOp.uses]
 | cap c t e x hc hat ha ht=>constructor<;>intro y hy<;>simp_all [Op.operands,Call.operands,IOp.uses]
 | appz c t t' kn e i s x hc hat ha ht ht' hi z hz hzs h0=>constructor<;>intro y hy<;>simp_all [Op.operands,Call.operands,IOp.uses]
 | clr c t e i x hc hat ha ht hi z hz hzs=>constructor<;>intro y hy<;>simp_all [Op.operands,Call.operands,IOp.uses]
 | sub64 c f x y b hc hcl ha=>constructor<;>intro z hz<;>simp_all [Op.operands,Call.operands,IOp.uses]
 | slca t e n ie x ht hi=>constructor<;>intro y hy<;>simpa [IOp.uses,Op.operands] using hy
 | apps c t t' e i s x hc hat ha ht ht' hi hz hs1 hb1=>constructor<;>intro y hy<;>simp_all [Op.operands,Call.operands,IOp.uses]
 | max c x y hc ha=>constructor<;>intro z hz<;>simp_all [Op.operands,Call.operands,IOp.uses]
 | min c x y hc ha=>constructor<;>intro z hz<;>simp_all [Op.operands,Call.operands,IOp.uses]
 | build t ps fields i z r ht hi hz hall hp=>
  have:r.map (·.2.2)=ps.toList.map (·.2):=by
   have gen:∀ (l:List (Nat × Operand)) (r:List (Nat × Nat × Operand)),partsOf P fields l=some r->r.map (·.2.2)=l.map (·.2):=by
    intro l
    induction l with
    | nil=>intro r h;simp [partsOf] at h;subst h;rfl
    | cons q l ih=>
     obtain ⟨f,x⟩:=q;intro r h;simp only [partsOf] at h;split at h
     ·split at h
      ·rename_i hi' r' hr hrr;injection h with h;subst h;simp [ih _ hrr]
      ·cases h
     ·cases h
   exact gen _ _ hp
  constructor<;>intro y hy<;>simp only [IOp.uses,this,Op.operands] at hy ⊢<;>simpa using hy
 | bsl t e n ps i z ht hi hz hn hzs=>constructor<;>intro y hy<;>simp only [IOp.uses,Op.operands] at hy ⊢<;>simpa using hy
 | bnd f first caps x hf hf2=>
  obtain ⟨caps⟩:=caps;obtain ⟨first⟩:=first
  simp only at hf hf2;subst hf hf2;constructor<;>intro y hy<;>simp only [IOp.uses,Op.operands] at hy ⊢<;>simpa using hy
 | clo f first caps hf=>
  have hf0:first=#[]:=Array.eq_empty_of_size_eq_zero hf
  subst hf0;constructor<;>intro y hy<;>simp only [IOp.uses,Op.operands] at hy ⊢<;>simpa using hy
 | zcap t e x lo hi mx ie ht hi' hb=>
  obtain ⟨rfl,⟨k1,rfl⟩,⟨k2,rfl⟩⟩:lo=none/\(∃ k,hi=some (.const (.int k 0)))/\∃ k,mx=.const (.int k 0):=by
   unfold a6M at hb;split at hb
   ·rename_i e1 e2 e3;injection e3 with e3;exact ⟨rfl,⟨_,rfl⟩,⟨_,e3⟩⟩
   ·cases hb
  constructor<;>intro y hy<;>simp [IOp.uses,Op.operands] at hy ⊢<;>simp [hy]
 | slcs t x lo hi ht=>constructor<;>intro y hy<;>cases lo<;>cases hi<;>simp [IOp.uses,Op.operands] at hy ⊢<;>simpa using hy
 | slcl t e ie x lo hi ht hi'=>constructor<;>intro y hy<;>cases lo<;>cases hi<;>simp [IOp.uses,Op.operands] at hy ⊢<;>simpa using hy
 | raw o=>constructor<;>intro y hy<;>simpa [IOp.uses] using hy
 | a4s t e ps i ht hi hps=>
  have hp0:ps=#[]:=Array.eq_empty_of_size_eq_zero hps;subst hp0;constructor<;>intro y hy<;>simp [IOp.uses,Op.operands] at hy
 | mkmap t e str hk=>constructor<;>intro y hy<;>simp [IOp.uses,Op.operands] at hy ⊢
 | _=>constructor<;>intro y hy<;>simp [IOp.uses,Op.operands] at hy ⊢<;>first|exact hy|simp [hy]
theorem c0j {ops:Array Oper} {o:Oper} {t:Nat} (h:Operand.tmp t ∈ o.op.operands.toList):t ∈ o.looksAt ops:=List.mem_append_left _ (List.mem_filterMap.2 ⟨.tmp t,h,rfl⟩)
theorem a8M {ops:Array Oper} {o:Oper} {j s:Nat} {want:Bool} (hg:o.guard=some (j,want)) (hs:(ops[j]?).bind (·.dst)=some s):s ∈ o.looksAt ops:=by
 unfold Oper.looksAt;refine List.mem_append_right _ ?_;rw [hg];simp [hs]
theorem a5m {P:Program} {ops:Array Oper} {o:Oper} {io:IOp} {fr:List (Nat × C)} {O:Nat->Prop} {sf:Nat->C} (his:Is P o.type o.op io) (ha:∀ t ∈ o.looksAt ops,sf t=slot fr t) (hd:∀ t,Den ν w O (sf t) (a.tmps.getD t undef)) :
  ∀ x ∈ io.uses,Den ν w O (opv fr x) (a.eval x):=by
 intro x hx;rw [b6t];refine b9K x fun t ht=>?_;subst ht;rw [<- ha t (c0j ((b6M his).1 _ hx))];exact hd t
theorem J6.re {E E':Ctx} {sf:Nat->C} {rs:List Res} (h:J6 E ν sf rs a w) (hb:Below w.heap.size w w') (hP:E'.P=E.P) (hN:E'.N=E.N) (h0:E'.w0=E.w0) (ho:E'.own0=E.own0) (hnu:E'.nu0=E.nu0) (hpk:E'.pk0=E.pk0)
  (hav:∀ b,E'.av b->(E.av b \/ w.heap.size<=b)/\b < w'.heap.size):J6 E' ν sf rs a w':=by
 have hk:Keeps (OO E.av rs ν) w (OO E'.av rs ν) w':=by
  intro b hlt hn;refine ⟨c8U hlt hb.size,fun h'=>?_,hb.block b hlt⟩;rcases h' with h'|h'
  ·rcases (hav b h').1 with h1|h1
   ·exact hn (.inl h1)
   ·omega
  ·exact hn (.inr h')
 refine ⟨h.dfr,by rw [hN];exact h.size,fun t=>Den.keep hk (h.fr t),⟨h.rg.len,fun k r hr=>?_,h.rg.dis,fun b ho'=>?_,fun b hb'=>(hav b hb').2,?_⟩,?_,by rw [hnu,hpk];exact h.nu⟩
 ·obtain ⟨x,hx,hok⟩:=h.rg.res k r hr;have:=P5.mv (pk:=[]) hok hk (fun _ _ _ h=>h) fun b hf=>hb.block b (h.rg.lt hr hx hf);rw [a3p] at this;exact ⟨x,hx,this⟩
 ·obtain ⟨h1,h2,h3⟩:=h.rg.low b ho';refine ⟨c8U h1 hb.size,fun h'=>?_,by rw [ho,h0];exact h3⟩;rcases (hav b h').1 with h4|h4
  ·exact h2 h4
  ·omega
 ·rw [h0];exact c8y h.rg.n0 hb.size
 ·rw [h0,ho];exact ⟨hb.os.trans h.frm.os,hb.tape.trans h.frm.tape,hb.output.trans h.frm.output,c8y h.frm.size hb.size,fun b hlt hn=>(hb.block b (c8U hlt h.frm.size)).trans (h.frm.block b hlt hn)⟩
theorem a4c.put {B:Nat->Nat} {pend:Nat->Option Pd} {N:Nat} (h:a4c E B pend a w) (hs:a.tmps.size=N) {d:Option Nat} {y:Value} (hd:a1e N d=true) (hn:∀ t p,pend t=some p->d ≠ some t) (hb:∀ b,b < w.heap.size->(∃ t p,pend t=some p/\B t=b)->w'.heap[b]?=w.heap[b]?):a4c E B pend (a.put d y) w':=by
 refine ⟨fun t p hp=>?_,h.inj,h.av0⟩;obtain ⟨h1,h2,h3,h4⟩:=h.cell t p hp;refine ⟨?_,(hb _ (Array.getElem?_eq_some_iff.1 h2).1 ⟨t,p,hp,rfl⟩).trans h2,h3,h4⟩;rw [<- h1];cases d with
 | none=>rfl
 | some d=>
  have hlt:d < N:=by simpa [a1e] using hd
  rw [V5 hs hlt,if_neg (fun e=>hn t p hp (by rw [e]))]
theorem a3H (d:Option Nat) (s:C) (y:SX):(trQ d s).step y=⟨a0s y.sf d s,y.rs,y.pend⟩:=by
 unfold trQ TR.step;simp only [Option.getD_none,SX.mk.injEq,true_and,and_true]
 funext t
 simp only [a0s];split<;>rfl
theorem a3f {x:SX} {B:Nat->Nat} (hG:J6 { E with av:=avP E B x.pend } ν x.sf x.rs a w) (hP:a4c E B x.pend a w) {d:Option Nat} {s:C} {y:Value} (hd:a1e E.N d=true) (hn:∀ t p,x.pend t=some p->d ≠ some t) (hb:Below w.heap.size w w')
  (hs:Den ν w' (OO (avP E B x.pend) x.rs ν) s y):b3N E ((trQ d s).step x) (a.put d y) w':=by
 rw [a3H];exact ⟨ν,B,J6.put (J6.below hG hb) hd hs,hP.put hG.size hd hn fun b hlt _=>hb.block b hlt⟩
theorem c8j {ops:Array Oper} {o:Oper} {ioo:E9} {x:DS} {N:Nat} (hN:E.N=N) (hc:a2N E.P N ops o=some ioo) {K:C->Prop} (h:b0Z E x.fr x.rs ioo K) :
 ∃ s,K s/\∀ y:SX,(∀ t ∈ o.looksAt ops,y.sf t=slot x.fr t)->y.rs=x.rs->Sem E ops o (trQ o.dst s) y:=by
 obtain ⟨hd,his,hdst,hg⟩:=Y8 hc;rw [<- hN] at hd;unfold b0Z at h;rcases hg with ⟨hg1,hg2⟩|⟨j,s0,want,hg1,hg2,hs0⟩
 ·rw [hg2] at h;simp only at h;obtain ⟨s,hk,hY⟩:=a7V his h;refine ⟨s,hk,fun y ha hr hn K' Q a w hI hK'=>?_⟩;obtain ⟨ν,B,hG,hP⟩:=hI;unfold a5z;rw [if_pos (by simp [Region.wanted,hg1])];refine .inl (hY (avP E B y.pend) ν a w (by rw [<- hr];exact hG.rg) (fun b hb=>.inl hb) hG.frm (by rw [<- hr];exact a5m his ha hG.fr) rfl K' Q fun v w' hb hs=>?_);exact hK' _ _ (a3f hG hP hd hn hb (by rw [hr];exact hs))
 ·rw [hg2] at h;simp only at h;have gen:∀ (p:Bool),(∀ (y:SX) ν (B:Nat->Nat) a w,(∀ t ∈ o.looksAt ops,y.sf t=slot x.fr t)->J6 { E with av:=avP E B y.pend } ν y.sf y.rs a w->(yielded ops a.tmps j == some want)=p)->evQ E (opv x.fr) x.rs p ioo.op (KgP p K) ->
   ∃ s,K s/\∀ y:SX,(∀ t ∈ o.looksAt ops,y.sf t=slot x.fr t)->y.rs=x.rs->Sem E ops o (trQ o.dst s) y:=by
   intro p hp h;obtain ⟨s,hk,hY⟩:=a7V his h;refine ⟨.g p s,hk,fun y ha hr hn K' Q a w hI hK'=>?_⟩;obtain ⟨ν,B,hG,hP⟩:=hI;unfold a5z;rw [a4y hg1,hp y ν B a w ha hG];cases hpp:p with
   | false=>
    rw [if_neg (by simp)];refine hK' _ _ ?_;have:=a3f hG hP (y:=undef) (s:=.g p s) hd hn (Below.refl _ _) (a7a hpp);exact this
   | true=>
    rw [if_pos rfl];refine .inl (hY (avP E B y.pend) ν a w (by rw [<- hr];exact hG.rg) (fun b hb=>.inl hb) hG.frm (by rw [<- hr];exact a5m his ha hG.fr) hpp K' Q fun v w' hb hs=>?_);have:=a3f hG hP (s:=.g p s) hd hn hb (a6X hpp (by rw [hr];exact hs));exact hK' _ _ this
  have gval:∀ (y:SX) ν (B:Nat->Nat) a w,(∀ t ∈ o.looksAt ops,y.sf t=slot x.fr t)->J6 { E with av:=avP E B y.pend } ν y.sf y.rs a w ->
   (∀ b,slot x.fr s0=.v (.bool b)->yielded ops a.tmps j=some b)/\(∀ q b,slot x.fr s0=.g q (.v (.bool b))->(q=true->yielded ops a.tmps j=some b)/\(q=false->yielded ops a.tmps j=none)):=by
   intro y ν B a w ha hG;have hd':=hG.fr s0;rw [ha s0 (a8M hg1 hs0)] at hd';exact a4A (sf:=slot x.fr) hs0 hd'
  split at h
  ·rename_i b hb;exact gen _ (fun y ν B a w ha hG=>by rw [(gval y ν B a w ha hG).1 b hb];rfl) h
  ·rename_i q b hb;refine gen _ (fun y ν B a w ha hG=>?_) h;have:=(gval y ν B a w ha hG).2 q b hb;cases hq:q with
   | true=>rw [this.1 hq];rfl
   | false=>rw [this.2 hq];rfl
  ·exact h.elim
inductive LeR:Res->Res->Prop where
 | gone (r:Res):LeR .gone r
 | refl (r:Res):LeR r r
 | box (t:TypeId) (cs cs':List C) (h:leC cs cs'):LeR (.box t cs) (.box t cs')
theorem b4B:∀ {h rs:List Res} {k:Nat} {r:Res},F3 h rs->h[k]?=some r->∃ r',rs[k]?=some r'/\LeR r r'
 | [],_,_,_,_,hk=>by simp at hk
 | .gone::h,[],_,_,hs,_=>hs.elim
 | .box _ _::h,[],_,_,hs,_=>hs.elim
 | .row _ _ _::h,[],_,_,hs,_=>hs.elim
 | .map _ _::h,[],_,_,hs,_=>hs.elim
 | x::h,y::rs,0,r,hs,hk=>by
  simp at hk;subst hk;refine ⟨y,rfl,?_⟩;cases x with
  | gone=>exact .gone _
  | box t cs=>
   cases y with
   | box t' cs'=>simp only [F3] at hs;obtain ⟨⟨rfl,h1⟩,_⟩:=hs;exact .box _ _ _ h1
   | _=>simp only [F3] at hs;cases hs.1
  | row e sz es=>simp only [F3] at hs;rw [<- hs.1];exact .refl _
  | map s es=>simp only [F3] at hs;rw [<- hs.1];exact .refl _
 | x::h,y::rs,k+1,r,hs,hk=>by
  have hs':F3 h rs:=by
   cases x with
   | gone=>simpa only [F3] using hs
   | box t cs=>cases y<;>(simp only [F3] at hs;exact hs.2)
   | row e sz es=>simp only [F3] at hs;exact hs.2
   | map s es=>simp only [F3] at hs;exact hs.2
  obtain ⟨r',h1,h2⟩:=b4B (k:=k) hs' (by simpa using hk);exact ⟨r',by simpa using h1,h2⟩
theorem b6g {O:Nat->Prop}:∀ {cs cs':List C} {vs:List Value},leC cs cs'->j6 ν w O cs' vs->j6 ν w O cs vs
 | [],[],vs,_,h=>h
 | [],_::_,_,h,_=>by simp only [leC] at h
 | c::cs,[],_,h,_=>by cases c<;>simp only [leC] at h
 | c::cs,d::ds,vs,h,hd=>by
  simp only [j6] at hd ⊢;obtain ⟨y,ys,e,h1,h2⟩:=hd;have key:Den ν w O c y/\leC cs ds:=by
   cases c with
   | junk=>simp only [leC] at h;exact ⟨by simp only [Den],h⟩
   | _=>simp only [leC] at h;exact ⟨h.1 ▸ h1,h.2⟩
  exact ⟨y,ys,e,key.1,b6g key.2 h2⟩
theorem c4u {h rs:List Res} {O:Nat->Prop} (hs:F3 h rs) (hR:HR ν w O rs):HR ν w O h:=by
 intro k r hk;obtain ⟨r',h1,h2⟩:=b4B hs hk;obtain ⟨x,hx,hok⟩:=hR k r' h1;refine ⟨x,hx,?_⟩;cases h2 with
 | gone=>trivial
 | refl=>exact hok
 | box t cs cs' hl=>
  obtain ⟨b,vs,h3,h4,h5,h6⟩:=hok;exact ⟨b,vs,h3,b6g hl h4,h5,h6⟩
theorem b0s {ov:Operand->C} {hid:List Res} {p:Bool} {o:IOp} {K:C->Prop} {oo:Oper} (his:Is E.P oo.type oo.op o) (h:b0N ov hid p o K) :
  ∃ s,K s/\∀ rs av ν (a:Act) w,F3 hid rs->RG av E.own0 E.w0.heap.size ν rs w->(∀ b,E.av b->av b)->Frm E.own0 E.w0 w->(∀ x ∈ o.uses,Den ν w (OO av rs ν) (ov x) (a.eval x))->p=true->Yq E.P ν w (OO av rs ν) a oo s:=by
 have pure_case:G8 ov hid p o K->∃ s,K s/\∀ rs av ν (a:Act) w,F3 hid rs->RG av E.own0 E.w0.heap.size ν rs w->(∀ b,E.av b->av b)->Frm E.own0 E.w0 w->(∀ x ∈ o.uses,Den ν w (OO av rs ν) (ov x) (a.eval x))->p=true->Yq E.P ν w (OO av rs ν) a oo s:=fun h=>by
  obtain ⟨s,hs,hy⟩:=a3V his h;exact ⟨s,hs,fun rs av ν a w hsub hR _ _ hO hp=>(hy ν a w _ (c4u hsub hR.hr) hO hp).yq⟩
 cases o with
 | bsl e sz n zero parts=>
  obtain ⟨h1,h2,h3,h4,h5,h6,hk⟩:=h;refine ⟨_,hk,fun rs av ν a w hsub hR hav hF hO hp=>?_⟩;obtain ⟨s,rfl,hs⟩:=a7V (E:=E) (ov:=ov) (rs:=rs) (p:=p) (K:=fun s=>s=.sl sz (Q0 (List.replicate n (zero.map .v)) (P8 ov parts))) his ⟨h1,h2,h3,h4,h5,h6,rfl⟩;exact hs av ν a w hR hav hF hO hp
 | _=>exact pure_case h
theorem b7E {ops:Array Oper} {o:Oper} {ioo:E9} {fr:List (Nat × C)} {hid:List Res} {N:Nat} (hN:E.N=N) (hc:a2N E.P N ops o=some ioo) {K:C->Prop} (h:a7n fr hid ioo K) :
 ∃ s,K s/\∀ y:SX,(∀ t ∈ o.looksAt ops,y.sf t=slot fr t)->F3 hid y.rs->Sem E ops o (trQ o.dst s) y:=by
 obtain ⟨hd,his,hdst,hg⟩:=Y8 hc;rw [<- hN] at hd;unfold a7n at h;rcases hg with ⟨hg1,hg2⟩|⟨j,s0,want,hg1,hg2,hs0⟩
 ·rw [hg2] at h;simp only at h;obtain ⟨s,hk,hY⟩:=b0s his h;refine ⟨s,hk,fun y ha hr hn K' Q a w hI hK'=>?_⟩;obtain ⟨ν,B,hG,hP⟩:=hI;unfold a5z;rw [if_pos (by simp [Region.wanted,hg1])];refine .inl (hY y.rs (avP E B y.pend) ν a w hr hG.rg (fun b hb=>.inl hb) hG.frm (a5m his ha hG.fr) rfl K' Q fun v w' hb hs=>?_);exact hK' _ _ (a3f hG hP hd hn hb hs)
 ·rw [hg2] at h;simp only at h;have gen:∀ (p:Bool),(∀ (y:SX) ν (B:Nat->Nat) a w,(∀ t ∈ o.looksAt ops,y.sf t=slot fr t)->J6 { E with av:=avP E B y.pend } ν y.sf y.rs a w->(yielded ops a.tmps j == some want)=p)->b0N (opv fr) hid p ioo.op (KgP p K) ->
   ∃ s,K s/\∀ y:SX,(∀ t ∈ o.looksAt ops,y.sf t=slot fr t)->F3 hid y.rs->Sem E ops o (trQ o.dst s) y:=by
   intro p hp h;obtain ⟨s,hk,hY⟩:=b0s his h;refine ⟨.g p s,hk,fun y ha hr hn K' Q a w hI hK'=>?_⟩;obtain ⟨ν,B,hG,hP⟩:=hI;unfold a5z;rw [a4y hg1,hp y ν B a w ha hG];cases hpp:p with
   | false=>
    rw [if_neg (by simp)];refine hK' _ _ ?_;have:=a3f hG hP (y:=undef) (s:=.g p s) hd hn (Below.refl _ _) (a7a hpp);exact this
   | true=>
    rw [if_pos rfl];refine .inl (hY y.rs (avP E B y.pend) ν a w hr hG.rg (fun b hb=>.inl hb) hG.frm (a5m his ha hG.fr) hpp K' Q fun v w' hb hs=>?_);have:=a3f hG hP (s:=.g p s) hd hn hb (a6X hpp hs);exact hK' _ _ this
  have gval:∀ (y:SX) ν (B:Nat->Nat) a w,(∀ t ∈ o.looksAt ops,y.sf t=slot fr t)->J6 { E with av:=avP E B y.pend } ν y.sf y.rs a w ->
   (∀ b,slot fr s0=.v (.bool b)->yielded ops a.tmps j=some b)/\(∀ q b,slot fr s0=.g q (.v (.bool b))->(q=true->yielded ops a.tmps j=some b)/\(q=false->yielded ops a.tmps j=none)):=by
   intro y ν B a w ha hG;have hd':=hG.fr s0;rw [ha s0 (a8M hg1 hs0)] at hd';exact a4A (sf:=slot fr) hs0 hd'
  split at h
  ·rename_i b hb;exact gen _ (fun y ν B a w ha hG=>by rw [(gval y ν B a w ha hG).1 b hb];rfl) h
  ·rename_i q b hb;refine gen _ (fun y ν B a w ha hG=>?_) h;have:=(gval y ν B a w ha hG).2 q b hb;cases hq:q with
   | true=>rw [this.1 hq];rfl
   | false=>rw [this.2 hq];rfl
  ·exact h.elim
theorem pkE {av:Nat->Prop}:∀ {pk:List Nat},a4u E pk->a4u { E with av:=av } pk
 | [],_=>trivial
 | _::_,h=>⟨h.1,pkE h.2⟩
theorem c6d {ops:Array Oper} {o:Oper} {io:IOp} {fr:List (Nat × C)} {rs:List Res} (hd:a1e E.N o.dst=true) (his:Is E.P o.type o.op io) (hg:o.guard=none) {K:C->List Res->List Nat->Prop} (h:evE E (opv fr) rs io K) :
  ∃ s rs' pk,K s rs' pk/\∀ (x:SX) ν B (K':Act->World->Prop) (Q:Exit->Act->World->Prop) a w,a4u E pk->(∀ t ∈ o.looksAt ops,x.sf t=slot fr t)->x.rs=rs->(∀ t p,x.pend t=some p->o.dst ≠ some t) ->
   J6 { E with av:=avP E B x.pend } ν x.sf x.rs a w->a4c E B x.pend a w->(∀ a' w',b3N E ⟨a0s (fun t=>(x.sf t).y8 pk) o.dst s,rs',x.pend⟩ a' w'->K' a' w')->a5z E.P ops Q o K' a w:=by
 obtain ⟨s,rs',pk,hk,hres⟩:=b1o his h;refine ⟨s,rs',pk,hk,fun x ν B K' Q a w hpk ha hr hn hG hP hK'=>?_⟩;unfold a5z;rw [if_pos (by simp [Region.wanted,hg])];refine .inl (hres (avP E B x.pend) ν a w (by rw [<- hr];exact hG.rg) (fun b hb=>.inl hb) hG.frm (by rw [<- hr];exact a5m his ha hG.fr) K' Q fun v ν' w' hrg hm hs=>?_);rw [<- hr] at hm;refine hK' _ _ ⟨ν',B,J6.put (J6.mv hG hrg hm (pkE hpk)) hd hs,hP.put hG.size hd hn fun b hlt hbp=>hm.block b hlt fun hown=>?_⟩;obtain ⟨t,p,hp,rfl⟩:=hbp;exact (hG.rg.low _ hown).2.1 (.inr ⟨t,p,hp,rfl⟩)
theorem adopt {x:SX} {B:Nat->Nat} {ta:Nat} {p:Pd} (hp:x.pend ta=some p) (hG:J6 { E with av:=avP E B x.pend } ν x.sf x.rs a w) (hP:a4c E B x.pend a w) :
  J6 { E with av:=avP E B (fun t=>if t=ta then none else x.pend t) } (ν++[.pointer (some ⟨B ta,0,none⟩)]) (a0s x.sf (some ta) (.bp x.rs.length 0)) (x.rs++[.box p.ty (p.zero.map .v)]) a w /\
   a4c E B (fun t=>if t=ta then none else x.pend t) a w:=by
 obtain ⟨c1,c2,c3,c4⟩:=hP.cell ta p hp;have pend':∀ {t q},(if t=ta then none else x.pend t)=some q->t ≠ ta/\x.pend t=some q:=fun {t q} h=>by
  split at h
  ·cases h
  ·rename_i hne;exact ⟨hne,h⟩
 have hlt:B ta < w.heap.size:=(Array.getElem?_eq_some_iff.1 c2).1;have hava:avP E B x.pend (B ta):=.inr ⟨ta,p,hp,rfl⟩;have hav':∀ b,avP E B (fun t=>if t=ta then none else x.pend t) b->avP E B x.pend b/\b ≠ B ta:=by
  rintro b (hb|⟨t,q,hq,rfl⟩)
  ·exact ⟨.inl hb,fun e=>by have:=hP.av0 b hb;omega⟩
  ·obtain ⟨h1,h2⟩:=pend' hq;exact ⟨.inr ⟨t,q,h2,rfl⟩,hP.inj t ta q p h2 hp h1⟩
 have len:=hG.rg.len;have old:∀ {k:Nat} {q:Res},(x.rs++[.box p.ty (p.zero.map .v)])[k]?=some q->(k < x.rs.length/\x.rs[k]?=some q) \/ (k=x.rs.length/\q=.box p.ty (p.zero.map .v)):=by
  intro k q hk;rcases c8N k x.rs.length with h|hge
  ·rw [c8H h] at hk;exact .inl ⟨h,hk⟩
  ·rw [c8M hge] at hk;have:k-x.rs.length=0:=by
    rcases c8Q (k-x.rs.length) with h0|h0
    ·exact h0
    ·rw [c8W (by simp;omega)] at hk;cases hk
   rw [this] at hk;simp at hk;exact .inr ⟨by omega,hk.symm⟩
 have vold:∀ {k},k < x.rs.length->(ν++[.pointer (some ⟨B ta,0,none⟩)])[k]?=ν[k]?:=fun hk=>c8H (by rw [len];exact hk);have vnew:(ν++[.pointer (some ⟨B ta,0,none⟩)])[x.rs.length]?=some (.pointer (some ⟨B ta,0,none⟩)):=by rw [<- len];simp
 have own:∀ b,owned (x.rs++[.box p.ty (p.zero.map .v)]) (ν++[.pointer (some ⟨B ta,0,none⟩)]) b->owned x.rs ν b \/ b=B ta:=by
  rintro b ⟨k,q,y,hk,hy,hf⟩;rcases old hk with ⟨h,hk'⟩|⟨rfl,rfl⟩
  ·rw [vold h] at hy;exact .inl ⟨k,q,y,hk',hy,hf⟩
  ·rw [vnew] at hy;injection hy with hy;subst hy
   simp only [fp,D5,Option.some.injEq] at hf;exact .inr hf.symm
 have nu:Y5 [] ν (ν++[.pointer (some ⟨B ta,0,none⟩)]):=fun k y _ hy=>by
  rw [c8H (c8v.1 hy).1];exact hy
 have hk:Keeps (OO (avP E B x.pend) x.rs ν) w (OO (avP E B (fun t=>if t=ta then none else x.pend t)) (x.rs++[.box p.ty (p.zero.map .v)]) (ν++[.pointer (some ⟨B ta,0,none⟩)])) w:=by
  intro b hb hn;refine ⟨hb,fun h'=>?_,rfl⟩;rcases h' with h'|h'
  ·exact hn (.inl (hav' b h').1)
  ·rcases own b h' with h'|rfl
   ·exact hn (.inr h')
   ·exact hn (.inl hava)
 refine ⟨⟨hG.dfr,hG.size,fun t=>?_,⟨by simp [len],fun k q hq=>?_,?_,fun b ho=>?_,fun b hb=>hG.rg.av b (hav' b hb).1,hG.rg.n0⟩,hG.frm,fun k x hk hx=>nu k x (by simp) (hG.nu k x hk hx)⟩,⟨fun t q hq=>hP.cell t q (pend' hq).2,fun t t' q q' h h'=>hP.inj t t' q q' (pend' h).2 (pend' h').2,hP.av0⟩⟩
 ·simp only [a0s];by_cases e:some ta=some t
  ·rw [if_pos e];injection e with e;subst e;simp only [Den];exact ⟨B ta,vnew,c1⟩
  ·rw [if_neg e];exact Den.nu nu (by simp) (Den.keep hk (hG.fr t))
 ·rcases old hq with ⟨h,hq'⟩|⟨rfl,rfl⟩
  ·obtain ⟨y,hy,hok⟩:=hG.rg.res k q hq';have:=P5.mv (pk:=[]) hok hk nu fun b _=>rfl;rw [a3p] at this;exact ⟨y,by rw [vold h];exact hy,this⟩
  ·exact ⟨_,vnew,B ta,p.zero,rfl,j6.vs _,a0j c4,c2⟩
 ·have half:∀ (k:Nat) (q:Res) (y:Value) (b:Nat),x.rs[k]?=some q->ν[k]?=some y->fp q y b->b ≠ B ta:=fun k q y b h1 h2 h3 e=>(hG.rg.low b ⟨k,q,y,h1,h2,h3⟩).2.1 (by rw [e];exact hava);intro k l q q' y y' b hne hk hl hy hy' hf hf';rcases old hk with ⟨h,hk'⟩|⟨rfl,rfl⟩
  ·rw [vold h] at hy;rcases old hl with ⟨h',hl'⟩|⟨rfl,rfl⟩
   ·rw [vold h'] at hy';exact hG.rg.dis k l q q' y y' b hne hk' hl' hy hy' hf hf'
   ·rw [vnew] at hy';injection hy' with hy';subst hy'
    simp only [fp,D5,Option.some.injEq] at hf';exact half k q y b hk' hy hf hf'.symm
  ·rw [vnew] at hy;injection hy with hy;subst hy
   simp only [fp,D5,Option.some.injEq] at hf;rcases old hl with ⟨h',hl'⟩|⟨rfl,rfl⟩
   ·rw [vold h'] at hy';exact half l q' y' b hl' hy' hf' hf.symm
   ·exact absurd rfl hne
 ·rcases own b ho with h|rfl
  ·obtain ⟨h1,h2,h3⟩:=hG.rg.low b h;exact ⟨h1,fun h'=>h2 (hav' b h').1,h3⟩
  ·exact ⟨hlt,fun h'=>(hav' _ h').2 rfl,.inr c3⟩
theorem c7U {ops:Array Oper} {o:Oper} {ioo:E9} {N:Nat} (hN:E.N=N) (hc:a2N E.P N ops o=some ioo) (hg:o.guard=none) {t ta:Nat} {zero:List Value} (hio:ioo.op=.alloc t zero) (hdd:o.dst=some ta) (hz:Z8 zero=true) (y:SX):Sem E ops o (trA ta ⟨t,zero⟩) y:=by
 obtain ⟨hd,his,hdst,_⟩:=Y8 hc;rw [<- hN] at hd;rw [hio] at his;intro hn K' Q a w hI hK';obtain ⟨ν,B,hG,hP⟩:=hI;unfold a5z;rw [if_pos (by simp [Region.wanted,hg])];refine .inl ?_;have hno:y.pend ta=none:=by
  cases hp:y.pend ta with
  | none=>rfl
  | some p=>exact absurd hdd (hn ta p hp)
 have hrun:(execOp a.eval o).run E.P w=.ok (.value (.pointer (some ⟨w.heap.size,0,none⟩))) (w.alloc (.cells zero.toArray t)):=by
  obtain ⟨dst,op,ty,pos,after,guard⟩:=o;simp only at his;cases his with
  | alloc t i z hi hz'=>simp [execOp,Instr.alloc,newVar,newRow,zeroValue,typeInfo,hi,hz']
 unfold Oper.wp;rw [hrun];refine hK' _ _ ?_;have hsz:w.heap.size < (w.alloc (.cells zero.toArray t)).heap.size:=by simp
 have hB:∀ {s q},y.pend s=some q->B s < w.heap.size:=fun h=>(Array.getElem?_eq_some_iff.1 (hP.cell _ _ h).2.1).1;have hG':J6 { E with av:=avP E (fun s=>if s=ta then w.heap.size else B s) (fun s=>if s=ta then some ⟨t,zero⟩ else y.pend s) } ν y.sf y.rs a (w.alloc (.cells zero.toArray t)):=by
  refine J6.re hG (V3 w _) rfl rfl rfl rfl rfl rfl fun b hb=>?_;rcases hb with hb|⟨s,q,hq,rfl⟩
  ·have h1:=hP.av0 b hb;have h2:=hG.rg.n0;exact ⟨.inl (.inl hb),c8U (c8U h1 h2) (Nat.le_of_lt hsz)⟩
  ·simp only at hq ⊢;by_cases e:s=ta
   ·rw [if_pos e];exact ⟨.inr (c8B _),hsz⟩
   ·rw [if_neg e] at hq ⊢;exact ⟨.inl (.inr ⟨s,q,hq,rfl⟩),Nat.lt_trans (hB hq) hsz⟩
 have hput:=J6.put hG' (d:=o.dst) (s:=.junk) (y:=.pointer (some ⟨w.heap.size,0,none⟩)) hd (by simp only [Den]);have hstep:(trA ta ⟨t,zero⟩).step y=⟨a0s y.sf o.dst .junk,y.rs,fun s=>if s=ta then some ⟨t,zero⟩ else y.pend s⟩:=by
  unfold trA TR.step;simp only [Option.getD_none,SX.mk.injEq,true_and];refine ⟨funext fun s=>?_,funext fun s=>?_⟩
  ·simp only [a0s,hdd,Option.some.injEq];by_cases e:s=ta
   ·rw [if_pos e,if_pos e.symm];rfl
   ·rw [if_neg e,if_neg (fun h=>e h.symm)];rfl
  ·split<;>rfl
 rw [hstep];refine ⟨ν,_,hput,fun s q hq=>?_,fun s s' q q' hq hq' hne=>?_,hP.av0⟩
 ·have hlt:ta < E.N:=by rw [hdd] at hd;simpa [a1e] using hd
  simp only at hq ⊢;rw [hdd,V5 hG.size hlt];by_cases e:s=ta
  ·rw [if_pos e] at hq;injection hq with hq;subst hq;rw [if_pos e,if_pos e.symm];exact ⟨rfl,heap_alloc_new w _,hG.rg.n0,hz⟩
  ·rw [if_neg e] at hq ⊢;rw [if_neg (fun h=>e h.symm)];obtain ⟨c1,c2,c3,c4⟩:=hP.cell s q hq;exact ⟨c1,(Below.heap_alloc w _ _ (hB hq)).trans c2,c3,c4⟩
 ·simp only at hq hq' ⊢;by_cases e:s=ta
  ·by_cases e':s'=ta
   ·exact absurd (e.trans e'.symm) hne
   ·rw [if_neg e'] at hq';rw [if_pos e,if_neg e'];have:=hB hq';omega
  ·rw [if_neg e] at hq;by_cases e':s'=ta
   ·rw [if_neg e,if_pos e'];have:=hB hq;omega
   ·rw [if_neg e'] at hq';rw [if_neg e,if_neg e'];exact hP.inj s s' q q' hq hq' hne
end
def a4f (E:Ctx) (hid:List Res) (ops:Array Oper) (FV:List C) (PK pks:List Nat) (o:Oper) (t:DT) (r:TR) (x:SX):Prop:=
 match t with
 | .q=>(∃ s,r=trQ o.dst s)/\∀ y,agree ops o x y->y.rs=x.rs->Sem E ops o r y
 | .f=>(∃ s,r=trQ o.dst s/\s ∈ FV)/\(∀ t ∈ o.looksAt ops,x.sf t ≠ .junk/\x.sf t ∈ FV)/\∀ y,agree ops o x y->F3 hid y.rs->Sem E ops o r y
 | .l=>(∃ s,r=trQ o.dst s)/\(∀ t ∈ o.looksAt ops,x.sf t ≠ .junk/\x.sf t ∈ FV)/\∀ y,agree ops o x y->F3 hid y.rs->Sem E ops o r y
 | .m=>(∃ s,r=trQ o.dst s/\∀ k ∈ pks,s.has k=false)/\(∀ t ∈ o.looksAt ops,x.sf t ≠ .junk/\x.sf t ∈ FV)/\∀ y,agree ops o x y->F3 hid y.rs->Sem E ops o r y
 | .n=>(∃ s,r=trQ o.dst s/\s ∈ FV)/\(∀ t ∈ o.looksAt ops,x.sf t ≠ .junk/\x.sf t ∈ FV)/\∀ y,agree ops o x y->Sem E ops o r y
 | .a=>(∃ ta pd,o.dst=some ta/\r=trA ta pd)/\∀ y,Sem E ops o r y
 | .e none sk=>(∃ s rs' pk,r=trE o.dst s rs' pk none/\(∀ k ∈ pk,k ∈ PK)/\(sk=false->F3 hid rs')/\(U7 o.op=true->pk=[]))/\∀ y,agree ops o x y->y.rs=x.rs->Sem E ops o r y
 | .e (some ta) sk=>(∃ s rs' pk c,r=trE o.dst s rs' pk (some (ta,c))/\(∀ k ∈ pk,k ∈ PK)/\(sk=false->F3 hid rs')/\(U7 o.op=true->pk=[]))/\∀ y,agree ops o x y->y.rs=x.rs->y.pend ta=x.pend ta->Sem E ops o r y
def a6x (E:Ctx) (hid:List Res) (ops:Array Oper) (FV:List C) (PK:List Nat):List Nat->List Oper->List DT->List TR->SX->Prop
 | _,[],[],[],_=>True
 | pks,o::os,t::ts,r::rs,x=>a4f E hid ops FV PK pks o t r x/\a6x E hid ops FV PK (r.pk++pks) os ts rs (r.step x)
 | _,_,_,_,_=>False
def b3O (pks:List Nat) (rs:List TR):List Nat:=rs.foldl (fun a q=>q.pk++a) pks
theorem b3K:∀ (rs:List TR) (pks:List Nat) (k:Nat),k ∈ pks->k ∈ b3O pks rs
 | [],_,_,h=>h
 | r::rs,pks,k,h=>b3K rs (r.pk++pks) k (List.mem_append_right _ h)
theorem b4x:∀ (rs:List TR) (pks:List Nat) (j:Nat) (q:TR) (k:Nat),rs[j]?=some q->k ∈ q.pk->k ∈ b3O pks rs
 | [],_,_,_,_,h,_=>by simp at h
 | r::rs,pks,0,q,k,h,hk=>by
  simp at h;subst h;exact b3K rs _ k (List.mem_append_left _ hk)
 | r::rs,pks,j+1,q,k,h,hk=>b4x rs (r.pk++pks) j q k (by simpa using h) hk
theorem a6x.get {E:Ctx} {hid:List Res} {ops:Array Oper} {FV:List C} {PK:List Nat}:∀ {pks:List Nat} {os:List Oper} {ts:List DT} {rs:List TR} {x:SX},a6x E hid ops FV PK pks os ts rs x->os.length=rs.length/\ts.length=rs.length /\
  ∀ (i:Nat) (o:Oper) (t:DT) (r:TR),os[i]?=some o->ts[i]?=some t->rs[i]?=some r->a4f E hid ops FV PK (b3O pks (rs.take i)) o t r (C9 R7 (rs.take i) 0 x)
 | _,[],[],[],x,_=>⟨rfl,rfl,by simp⟩
 | _,[],[],_::_,x,h=>h.elim
 | _,[],_::_,_,x,h=>h.elim
 | _,_::_,[],_,x,h=>h.elim
 | _,_::_,_::_,[],x,h=>h.elim
 | pks,o::os,t::ts,r::rs,x,h=>by
  obtain ⟨h1,h2⟩:=h;obtain ⟨k1,k2,k3⟩:=a6x.get h2;refine ⟨by simp [k1],by simp [k2],fun i o' t' r' ho ht hr=>?_⟩;cases i with
  | zero=>simp at ho ht hr;subst ho ht hr;simpa [C9,b3O] using h1
  | succ i=>
   have:=k3 i o' t' r' (by simpa using ho) (by simpa using ht) (by simpa using hr);have e:∀ (l:List TR) (k k':Nat) (y:SX),C9 R7 l k y=C9 R7 l k' y:=by
    intro l
    induction l with
    | nil=>intro k k' y;rfl
    | cons q l ih=>intro k k' y;simp only [C9,R7,if_true];exact ih _ _ _
   simp only [List.take_succ_cons,C9,R7,if_true];rw [e _ (0+1) 0];exact this
def XD (x:DS):SX:=⟨slot x.fr,x.rs,fun t=>a2H t x.pend⟩
theorem a9z (ta t:Nat):∀ (l:List (Nat × Pd)),a2H t (rmP ta l)=if t=ta then none else a2H t l
 | []=>by simp [rmP,a2H]
 | (s,p)::l=>by
  simp only [rmP];by_cases e:s=ta
  ·subst e;simp only [beq_self_eq_true,cond_true];rw [a9z s t l];by_cases e':t=s
   ·simp [e']
   ·have:(s == t)=false:=by simpa using Ne.symm e'
    simp [e',a2H,this]
  ·have:(s == ta)=false:=by simpa using e
   simp only [this,cond_false,a2H];rw [a9z ta t l];by_cases e':s=t
   ·subst e';simp [e]
   ·have:(s == t)=false:=by simpa using e'
    simp [this]
theorem b4O (d:Option Nat) (s:C) (rs':List Res) (pk:List Nat) (y:SX):(trE d s rs' pk none).step y=⟨a0s (fun t=>(y.sf t).y8 pk) d s,rs',y.pend⟩:=by
 unfold trE TR.step;simp only [Option.getD_some,Option.getD_none,SX.mk.injEq,and_true]
 funext t
 simp only [a0s];split<;>rfl
theorem b1N (d:Option Nat) (s:C) (rs':List Res) (pk:List Nat) (ta:Nat) (c:C) (y:SX) :
  (trE d s rs' pk (some (ta,c))).step y=⟨a0s (fun t=>(a0s y.sf (some ta) c t).y8 pk) d s,rs',fun t=>if t=ta then none else y.pend t⟩:=by
 unfold trE TR.step;simp only [Option.getD_some,SX.mk.injEq,true_and];refine ⟨funext fun t=>?_,funext fun t=>?_⟩
 ·simp only [a0s,Option.some.injEq];split
  ·rfl
  ·by_cases e:t=ta
   ·rw [if_pos e,if_pos e.symm];rfl
   ·rw [if_neg e,if_neg (fun h=>e h.symm)];rfl
 ·split<;>rfl
theorem a6N {pk:List Nat}:∀ {l:List C},a4z pk l=true->∀ c ∈ l,∀ k ∈ pk,c.has k=false
 | [],_,c,hc=>by cases hc
 | c0::l,h,c,hc=>by
  simp only [a4z,c8F,Bool.not_eq_true'] at h;cases List.mem_cons.1 hc with
  | inl e=>subst e;exact a5t h.1
  | inr e=>exact a6N h.2 c e
theorem a4T:∀ {l:List C},njL l=true->∀ c ∈ l,c ≠ .junk
 | [],_,c,hc=>by cases hc
 | c0::l,h,c,hc=>by
  simp only [njL,c8F] at h;cases List.mem_cons.1 hc with
  | inl e=>subst e;intro e2;subst e2;exact absurd h.1 (by simp [C.nj])
  | inr e=>exact a4T h.2 c e
section
variable {E:Ctx} {ops:Array Oper} {hid:List Res} {N:Nat} {K:St->Prop}
theorem a0Q {o:Oper} {ioo:E9} {fr:List (Nat × C)} (hc:a2N E.P N ops o=some ioo) {t:Nat} (ht:t ∈ o.looksAt ops):slot fr t ∈ opsV fr ioo:=by
 obtain ⟨hd,his,hdst,hg⟩:=Y8 hc;unfold Oper.looksAt at ht;unfold opsV;rcases List.mem_append.1 ht with h|h
 ·obtain ⟨x,hx,he⟩:=List.mem_filterMap.1 h;cases x<;>simp at he;subst he;exact List.mem_append_left _ (List.mem_map.2 ⟨.tmp _,(b6M his).2 _ hx,rfl⟩)
 ·refine List.mem_append_right _ ?_;rcases hg with ⟨hg1,hg2⟩|⟨j,s,want,hg1,hg2,hs⟩
  ·rw [hg1] at h;cases h
  ·rw [hg1] at h;rw [hg2];simp [hs] at h;subst h;simp
theorem b3c {P:Program} {ty:TypeId} {o:Op} {io:IOp} (h:Is P ty o io) (hc:U7 o=true):b0u io=true:=by
 cases h<;>first|rfl|(cases hc;done)|(simp_all [U7];done)
theorem facts (hN:E.N=N):∀ (ol:List Oper) (ts:List DT) (il:List E9) (x:DS),U6 E.P N ops ol=some il->evD E hid ts il x K->(∀ (i:Nat) (o:Oper) (t:DT),ol[i]?=some o->ts[i]?=some t->t.isE=true \/ t.isA=true->o.guard=none) ->
 ∃ tr FV PK st',a6x E hid ops FV PK x.pk ol ts tr (XD x)/\(∀ c ∈ x.fv,c ∈ FV)/\(∀ k ∈ x.pk,k ∈ PK)/\a4z PK FV=true/\K st'/\C9 R7 tr 0 (XD x)=⟨slot st'.fr,st'.rs,fun _=>none⟩
 | [],ts,il,x,hc,h,_=>by
  simp only [U6,Option.some.injEq] at hc;subst hc;cases ts with
  | cons t ts=>exact h.elim
  | nil=>
   obtain ⟨h1,h2,h3⟩:=h;refine ⟨[],x.fv,x.pk,⟨x.fr,x.rs⟩,trivial,fun c hc=>hc,fun k hk=>hk,h2,h3,?_⟩;simp only [C9,XD,h1];rfl
 | o::ol,ts,il,x,hc,h,hgd=>by
  simp only [U6] at hc;split at hc
  ·rename_i io ir hio hir;injection hc with hc;subst hc;cases ts with
   | nil=>exact h.elim
   | cons t ts=>
    have hgd0:=hgd 0 o t rfl rfl;have hgd':∀ (i:Nat) (o:Oper) (t:DT),ol[i]?=some o->ts[i]?=some t->t.isE=true \/ t.isA=true->o.guard=none:=fun i o' t' ho ht=>hgd (i+1) o' t' (by simpa using ho) (by simpa using ht);obtain ⟨hd,his,hdst,hg⟩:=Y8 hio;rw [<- hN] at hd;have cont:∀ (x':DS) (r:TR),r.step (XD x)=XD x'->x'.pk=r.pk++x.pk->evD E hid ts ir x' K->(∀ FV PK,(∀ c ∈ x'.fv,c ∈ FV)->(∀ k ∈ x'.pk,k ∈ PK)->a4f E hid ops FV PK x.pk o t r (XD x))->(∀ c ∈ x.fv,c ∈ x'.fv)->(∀ k ∈ x.pk,k ∈ x'.pk) ->
     ∃ tr FV PK st',a6x E hid ops FV PK x.pk (o::ol) (t::ts) tr (XD x)/\(∀ c ∈ x.fv,c ∈ FV)/\(∀ k ∈ x.pk,k ∈ PK)/\a4z PK FV=true/\K st'/\C9 R7 tr 0 (XD x)=⟨slot st'.fr,st'.rs,fun _=>none⟩:=by
     intro x' r hx hpx hev hf hfv hpk;obtain ⟨tr,FV,PK,st',h1,h2,h3,h4,h5,h6⟩:=facts hN ol ts ir x' hir hev hgd';refine ⟨r::tr,FV,PK,st',⟨hf FV PK h2 h3,by rw [hx,<- hpx];exact h1⟩,fun c hc=>h2 c (hfv c hc),fun k hk=>h3 k (hpk k hk),h4,h5,?_⟩;have e:∀ (l:List TR) (k k':Nat) (y:SX),C9 R7 l k y=C9 R7 l k' y:=by
      intro l
      induction l with
      | nil=>intro k k' y;rfl
      | cons q l ih=>intro k k' y;simp only [C9,R7,if_true];exact ih _ _ _
     simp only [C9,R7,if_true,hx];rw [e _ (0+1) 0];exact h6
    simp only [evD] at h;cases t with
    | q=>
     obtain ⟨s,hk,hsem⟩:=c8j hN hio h;rw [hdst] at hk;refine cont { x with fr:=Q6 x.fr o.dst s } (trQ o.dst s) ?_ rfl hk (fun FV PK _ _=>⟨⟨s,rfl⟩,fun y ha hr=>hsem y ha hr⟩) (fun c hc=>hc) (fun k hk=>hk);rw [a3H];simp only [XD,V4]
    | f=>
     obtain ⟨hnj,h⟩:=h;obtain ⟨s,hk,hsem⟩:=b7E hN hio h;rw [hdst] at hk;refine cont { x with fr:=Q6 x.fr o.dst s,fv:=s::(opsV x.fr io++x.fv) } (trQ o.dst s) ?_ rfl hk (fun FV PK hfv _=>⟨⟨s,rfl,hfv s (by simp)⟩,fun t ht=>⟨a4T hnj _ (a0Q hio ht),hfv _ (List.mem_cons_of_mem _ (List.mem_append_left _ (a0Q hio ht)))⟩,fun y ha hr=>hsem y ha hr⟩) (fun c hc=>by simp [hc]) (fun k hk=>hk);rw [a3H];simp only [XD,V4]
    | l=>
     obtain ⟨hnj,h⟩:=h;obtain ⟨s,hk,hsem⟩:=b7E hN hio h;rw [hdst] at hk;refine cont { x with fr:=Q6 x.fr o.dst s,fv:=opsV x.fr io++x.fv } (trQ o.dst s) ?_ rfl hk (fun FV PK hfv _=>⟨⟨s,rfl⟩,fun t ht=>⟨a4T hnj _ (a0Q hio ht),hfv _ (List.mem_append_left _ (a0Q hio ht))⟩,fun y ha hr=>hsem y ha hr⟩) (fun c hc=>by simp [hc]) (fun k hk=>hk);rw [a3H];simp only [XD,V4]
    | m=>
     obtain ⟨hnj,h⟩:=h;obtain ⟨s,hk,hsem⟩:=b7E hN hio h;rw [hdst] at hk;obtain ⟨hnr,hk⟩:=hk;refine cont { x with fr:=Q6 x.fr o.dst s,fv:=opsV x.fr io++x.fv } (trQ o.dst s) ?_ rfl hk (fun FV PK hfv _=>⟨⟨s,rfl,fun k hk=>a6N hnr s (by simp) k hk⟩,fun t ht=>⟨a4T hnj _ (a0Q hio ht),hfv _ (List.mem_append_left _ (a0Q hio ht))⟩,fun y ha hr=>hsem y ha hr⟩) (fun c hc=>by simp [hc]) (fun k hk=>hk);rw [a3H];simp only [XD,V4]
    | n=>
     obtain ⟨hnj,h⟩:=h;obtain ⟨s,hk,hsem⟩:=b7E hN hio h;rw [hdst] at hk;refine cont { x with fr:=Q6 x.fr o.dst s,fv:=s::(opsV x.fr io++x.fv) } (trQ o.dst s) ?_ rfl hk (fun FV PK hfv _=>⟨⟨s,rfl,hfv s (by simp)⟩,fun t ht=>⟨a4T hnj _ (a0Q hio ht),hfv _ (List.mem_cons_of_mem _ (List.mem_append_left _ (a0Q hio ht)))⟩,fun y ha=>hsem y ha trivial⟩) (fun c hc=>by simp [hc]) (fun k hk=>hk);rw [a3H];simp only [XD,V4]
    | a=>
     simp only [a7P] at h;split at h
     ·rename_i t0 zero ta hop hdd;obtain ⟨hz,hk⟩:=h;rw [hdst] at hdd;have hgn:=hgd0 (.inr rfl);refine cont { x with fr:=Q6 x.fr (some ta) .junk,pend:=(ta,⟨t0,zero⟩)::x.pend } (trA ta ⟨t0,zero⟩) ?_ rfl hk (fun FV PK _ _=>⟨⟨ta,_,hdd,rfl⟩,fun y=>c7U hN hio hgn hop hdd hz y⟩) (fun c hc=>hc) (fun k hk=>hk);unfold trA TR.step;simp only [XD,V4,Option.getD_none,SX.mk.injEq,true_and];refine ⟨funext fun s=>?_,funext fun s=>?_⟩
      ·simp only [a0s,Option.some.injEq];by_cases e:s=ta
       ·rw [if_pos e,if_pos e.symm];rfl
       ·rw [if_neg e,if_neg (fun h=>e h.symm)];rfl
      ·simp only [a2H];by_cases e:s=ta
       ·subst e;simp
       ·have:(ta == s)=false:=by simpa using Ne.symm e
        simp [e,this]
     ·exact h.elim
    | e ad sk=>
     have hgn:=hgd0 (.inl rfl);cases ad with
     | none=>
      simp only [a7P] at h;obtain ⟨s,rs',pk,hk,hsem⟩:=c6d (ops:=ops) hd his hgn h;rw [hdst] at hk;obtain ⟨hsub,hcln,hpko,hk⟩:=hk;have hst:(trE o.dst s rs' pk none).step (XD x)=XD ⟨Q6 (a0m pk x.fr) o.dst s,rs',x.pend,x.fv,pk++x.pk⟩:=by
       rw [b4O];simp only [XD,V4];rw [show slot (a0m pk x.fr)=fun t=>(slot x.fr t).y8 pk from funext fun t=>a4D pk t x.fr]
      refine cont _ (trE o.dst s rs' pk none) hst rfl hk (fun FV PK _ hpk=>⟨⟨s,rs',pk,rfl,fun k hk=>hpk k (by simp [hk]),hsub,fun hc=>hcln (b3c his hc)⟩,fun y ha hr hn K' Q a w hI hK'=>?_⟩) (fun c hc=>hc) (fun k hk=>by simp [hk]);obtain ⟨ν,B,hG,hP⟩:=hI;refine hsem y ν B K' Q a w hpko ha hr hn hG hP fun a' w' hI'=>hK' a' w' ?_;rw [b4O];exact hI'
     | some ta=>
      simp only [a7P] at h;split at h
      ·rename_i p hfp;obtain ⟨s,rs',pk,hk,hsem⟩:=c6d (ops:=ops) (fr:=(ta,C.bp x.rs.length 0)::x.fr) hd his hgn h;rw [hdst] at hk;obtain ⟨hsub,hcln,hpko,hk⟩:=hk;have hsl:slot ((ta,C.bp x.rs.length 0)::x.fr)=a0s (slot x.fr) (some ta) (.bp x.rs.length 0):=by rw [<- V4];rfl
       have hst:(trE o.dst s rs' pk (some (ta,.bp x.rs.length 0))).step (XD x)=XD ⟨Q6 (a0m pk ((ta,.bp x.rs.length 0)::x.fr)) o.dst s,rs',rmP ta x.pend,x.fv,pk++x.pk⟩:=by
        rw [b1N];simp only [XD,V4];rw [show slot (a0m pk ((ta,C.bp x.rs.length 0)::x.fr))=fun t=>(a0s (slot x.fr) (some ta) (.bp x.rs.length 0) t).y8 pk from funext fun t=>by rw [a4D,hsl]];rw [show (fun t=>a2H t (rmP ta x.pend))=fun t=>if t=ta then none else a2H t x.pend from funext fun t=>a9z ta t _]
       refine cont _ (trE o.dst s rs' pk (some (ta,.bp x.rs.length 0))) hst rfl hk (fun FV PK _ hpk=>⟨⟨s,rs',pk,_,rfl,fun k hk=>hpk k (by simp [hk]),hsub,fun hc=>hcln (b3c his hc)⟩,fun y ha hr hpe hn K' Q a w hI hK'=>?_⟩) (fun c hc=>hc) (fun k hk=>by simp [hk]);obtain ⟨ν,B,hG,hP⟩:=hI;have hyp:y.pend ta=some p:=by rw [hpe];exact hfp
       obtain ⟨hG2,hP2⟩:=adopt hyp hG hP;refine hsem ⟨a0s y.sf (some ta) (.bp y.rs.length 0),y.rs++[.box p.ty (p.zero.map .v)],fun t=>if t=ta then none else y.pend t⟩ _ B K' Q a w hpko (fun t ht=>?_) (by simp only [hr,XD]) (fun t q hq=>?_) hG2 hP2 fun a' w' hI'=>hK' a' w' ?_
       ·rw [hsl];simp only [a0s,hr,XD];split
        ·rfl
        ·exact ha t ht
       ·simp only at hq;split at hq
        ·cases hq
        ·exact hn t q hq
       ·rw [b1N,show C.bp x.rs.length 0=.bp y.rs.length 0 by rw [hr];rfl];exact hI'
      ·exact h.elim
  ·cases hc
end
theorem a5V {acc:List Nat} {i:Nat}:∀ {es:List Edge},(a4k acc es).testBit i=true->∃ e ∈ es,Region.binds .any e=true/\(e.on=i \/ (acc.getD e.on 0).testBit i=true)
 | [],h=>by simp [a4k] at h
 | e::es,h=>by
  simp only [a4k] at h;split at h
  ·rename_i hb;simp only [Nat.testBit_or,c9f] at h;rcases h with (h|h)|h
   ·refine ⟨e,by simp,hb,.inl ?_⟩;rw [Nat.testBit_two_pow] at h;simpa using h
   ·exact ⟨e,by simp,hb,.inr h⟩
   ·obtain ⟨e',h1,h2⟩:=a5V h;exact ⟨e',by simp [h1],h2⟩
  ·obtain ⟨e',h1,h2⟩:=a5V h;exact ⟨e',by simp [h1],h2⟩
theorem b4g:∀ (l:List Oper) (acc:List Nat),(∀ k,k < acc.length->(a2O l acc)[k]?=acc[k]?)/\∀ (j:Nat) (o:Oper),l[j]?=some o->∃ pre:List Nat,pre.length=acc.length+j/\(∀ k,k < pre.length->(a2O l acc)[k]?=pre[k]?)/\(a2O l acc)[acc.length+j]?=some (a4k pre o.after.toList)
 | [],acc=>⟨fun k _=>rfl,by simp⟩
 | o::l,acc=>by
  obtain ⟨h1,h2⟩:=b4g l (acc++[a4k acc o.after.toList]);simp only [c8A,c8R,List.length_nil] at h1 h2;refine ⟨fun k hk=>?_,fun j o' hj=>?_⟩
  ·simp only [a2O];rw [h1 k (by omega),c8H hk]
  ·cases j with
   | zero=>
    simp at hj;subst hj;refine ⟨acc,rfl,fun k hk=>?_,?_⟩
    ·simp only [a2O];rw [h1 k (by omega),c8H hk]
    ·simp only [a2O,Nat.add_zero];rw [h1 _ (by omega)];simp
   | succ j=>
    obtain ⟨pre,p1,p2,p3⟩:=h2 j o' (by simpa using hj);refine ⟨pre,by omega,p2,?_⟩;simp only [a2O];rw [show acc.length+(j+1)=acc.length+1+j by omega];exact p3
def bef (ops:Array Oper) (i j:Nat):Prop:=∃ m,(a2O ops.toList [])[j]?=some m/\m.testBit i=true
theorem b4m {ops:Array Oper} {i j:Nat} {o:Oper} (ho:ops[j]?=some o) (h:bef ops i j):∃ e ∈ o.after,Region.binds .any e=true/\(e.on=i \/ (e.on < j/\bef ops i e.on)):=by
 obtain ⟨m,hm,hb⟩:=h;obtain ⟨pre,p1,p2,p3⟩:=(b4g ops.toList []).2 j o (by simpa using ho);simp only [List.length_nil,c8Z] at p1 p3;rw [p3] at hm;injection hm with hm;subst hm;obtain ⟨e,he,hbi,hc⟩:=a5V hb;refine ⟨e,by simpa using he,hbi,?_⟩;rcases hc with hc|hc
 ·exact .inl hc
 ·right;rcases c8N e.on j with hlt|hge
  ·have hl:e.on < pre.length:=by omega
   refine ⟨hlt,pre[e.on],by rw [p2 _ hl];simp [hl],?_⟩;simpa [hl] using hc
  ·rw [c8C,c8W (by omega)] at hc;simp at hc
theorem b1B {ops:Array Oper} {D:Nat->Bool} (hcl:a4K ops D):∀ (n i:Nat) (o:Oper),i<=n->ops[i]?=some o->(∀ e ∈ o.after,Region.binds .any e=true->D e.on=true)->∀ j,bef ops j i->D j=true:=by
 intro n
 induction n with
 | zero=>
  intro i o hi ho hall j hb;obtain ⟨e,he,hbi,hc⟩:=b4m ho hb;rcases hc with rfl|⟨hlt,_⟩
  ·exact hall e he hbi
  ·omega
 | succ n ih=>
  intro i o hi ho hall j hb;obtain ⟨e,he,hbi,hc⟩:=b4m ho hb;rcases hc with rfl|⟨hlt,hb'⟩
  ·exact hall e he hbi
  ·have hDe:=hall e he hbi;have hlt':e.on < ops.size:=by have:=(Array.getElem?_eq_some_iff.1 ho).1;omega
   have hoe:ops[e.on]?=some ops[e.on]:=by simp [hlt']
   exact ih e.on _ (by omega) hoe (fun e' he' hb''=>hcl _ _ hoe hDe e' he' hb'') j hb'
theorem a1u {ops:Array Oper} {D:Nat->Bool} (hcl:a4K ops D) (i j:Nat) (hb:bef ops i j) (hD:D j=true):D i=true:=by
 obtain ⟨m,hm,_⟩:=id hb;have hlen:∀ (l:List Oper) (acc:List Nat),(a2O l acc).length=acc.length+l.length:=by
  intro l
  induction l with
  | nil=>intro acc;simp [a2O]
  | cons o l ih=>intro acc;simp only [a2O];rw [ih];simp;omega
 have hj:j < ops.size:=by
  have:=(c8v.1 hm).1;rw [hlen] at this;simpa using this
 have hoj:ops[j]?=some ops[j]:=by simp [hj]
 exact b1B hcl j j _ (c8B _) hoj (fun e he hbi=>hcl _ _ hoj hD e he hbi) i hb
theorem a1Z {l m:List Nat} (h:a7B l m=true) {t:Nat} (h1:t ∈ l) (h2:t ∈ m):False:=by
 have:=List.all_eq_true.1 h t h1;simp at this;exact this h2
structure a8a (ops:Array Oper) (b:Prop) (oi:Oper) (ti:DT) (oj:Oper) (tj:DT):Prop where
 ww:b \/ ∀ t,t ∈ wrs oi ti->t ∈ wrs oj tj->False
 lw:b \/ ∀ t,t ∈ oi.looksAt ops->t ∈ wrs oj tj->False
 wl:b \/ ∀ t,t ∈ oj.looksAt ops->t ∈ wrs oi ti->False
 ee:b \/ ¬ (ti.isE=true/\tj.isE=true)
 eq:b \/ ¬ (ti.isE=true/\tj.isQ=true)
 qe:b \/ ¬ (ti.isQ=true/\tj.isE=true)
 aa:ti.isA=true \/ tj.isA=true->∀ t,oi.dst=some t->oj.dst ≠ some t
 ad:∀ t,t ∈ ti.ad->t ∈ tj.ad->False
 ea:tj.isA=true->∀ t,t ∈ ti.ad->oj.dst ≠ some t
 ae:ti.isA=true->b \/ ∀ t,oi.dst=some t->t ∈ tj.ad->False
 le:b \/ (ti.isL=true->tj.isE=true->U7 oj.op=true)
 el:b \/ (ti.isE=true->tj.isL=true->U7 oi.op=true)
 kl:ti.isK=true->(tj.isF=false/\tj.isL=false)/\tj.isM=false
 fk:tj.isK=true->b \/ (ti.isF=false/\(ti.isL=true->U7 oj.op=false))
 me:ti.isM=true->tj.isE=true->b
theorem b5f {ops:Array Oper} {b:Bool} {oi oj:Oper} {ti tj:DT} (h:b0C ops b oi ti oj tj=true):a8a ops (b=true) oi ti oj tj:=by
 unfold b0C at h;simp only [c8F,c9f,Bool.not_eq_true'] at h;obtain ⟨⟨⟨⟨⟨⟨⟨⟨⟨⟨⟨h1,h2⟩,h3⟩,h4⟩,h5⟩,h6⟩,h7⟩,h8⟩,h9⟩,h10⟩,h11⟩,h12⟩:=h;have h9':b=true \/ ((ti.isL=true->tj.isE=true->U7 oj.op=true)/\(ti.isE=true->tj.isL=true->U7 oi.op=true)):=by
  rcases h9 with h9|h9
  ·exact .inl h9
  ·refine .inr ⟨fun a c=>?_,fun a c=>?_⟩
   ·rw [a,c] at h9;revert h9;cases U7 oj.op<;>simp
   ·rw [a,c] at h9;revert h9;cases U7 oi.op<;>simp
 have h4':b=true \/ (¬ (ti.isE=true/\tj.isE=true)/\¬ (ti.isE=true/\tj.isQ=true)/\¬ (ti.isQ=true/\tj.isE=true)):=by
  rcases h4 with h4|h4
  ·exact .inl h4
  ·simp only [c8S] at h4;refine .inr ⟨fun ⟨a,c⟩=>?_,fun ⟨a,c⟩=>?_,fun ⟨a,c⟩=>?_⟩<;>(rw [a,c] at h4;simp at h4)
 refine ⟨h1.imp id fun h t a c=>a1Z h a c,h2.imp id fun h t a c=>a1Z h a c,h3.imp id fun h t a c=>a1Z h a c,h4'.imp id (·.1),h4'.imp id (·.2.1),h4'.imp id (·.2.2),fun ha t e1 e2=>?_,fun t a c=>a1Z h6 a c,fun ha t a e=>?_,fun ha=>?_,h9'.imp id (·.1),h9'.imp id (·.2),fun hk=>?_,fun hk=>?_,fun hm hE=>?_⟩
 rotate_left 3
 ·rcases h10 with h10|h10
  ·rw [hk] at h10;cases h10
  ·rwa [c8S,c8S] at h10
 ·rcases h11 with (h11|h11)|h11
  ·rw [hk] at h11;cases h11
  ·exact .inl h11
  ·refine .inr ⟨h11.1,fun h=>?_⟩;rcases h11.2 with h13|h13
   ·rw [h] at h13;cases h13
   ·exact h13
 ·rcases h12 with h12|h12
  ·exact h12
  ·rw [hm,hE] at h12;simp at h12
 ·rcases h5 with h5|h5
  ·rcases ha with ha|ha<;>rw [ha] at h5<;>simp at h5
  ·exact a1Z (t:=t) h5 (by rw [e1];simp) (by rw [e2];simp)
 ·rcases h7 with h7|h7
  ·rw [ha] at h7;cases h7
  ·exact a1Z (t:=t) h7 a (by rw [e];simp)
 ·rcases h8 with (h8|h8)|h8
  ·rw [ha] at h8;cases h8
  ·exact .inl h8
  ·exact .inr fun t e a=>a1Z (t:=t) h8 (by rw [e];simp) a
theorem b8V {ops:Array Oper} {tags:List DT} (h:b1e ops tags=true):tags.length=ops.size/\(∀ j oj tj,ops[j]?=some oj->tags[j]?=some tj->a8x j oj tj=true) /\
  ∀ i j oi ti oj tj,i < j->ops[i]?=some oi->tags[i]?=some ti->ops[j]?=some oj->tags[j]?=some tj->a8a ops (bef ops i j) oi ti oj tj:=by
 unfold b1e at h;simp only [c8F,c8D] at h;obtain ⟨h1,h2⟩:=h;have main:∀ j oj tj,ops[j]?=some oj->tags[j]?=some tj->a8x j oj tj=true/\∀ i oi ti,i < j->ops[i]?=some oi->tags[i]?=some ti->a8a ops (bef ops i j) oi ti oj tj:=by
  intro j oj tj hoj htj;have hj:j < ops.size:=(Array.getElem?_eq_some_iff.1 hoj).1;have:=List.all_eq_true.1 h2 j (List.mem_range.2 hj);have e1:ops.toList[j]?=some oj:=by simpa using hoj
  rw [e1,htj] at this;cases e4:(a2O ops.toList [])[j]? with
  | none=>rw [e4] at this;cases this
  | some m=>
   rw [e4] at this;have this:(a8x j oj tj && (List.range j).all fun i=>match ops.toList[i]?,tags[i]? with
    | some oi,some ti=>b0C ops (m.testBit i) oi ti oj tj
    | _,_=>false)=true:=this
   rw [c8F] at this;refine ⟨this.1,fun i oi ti hij hoi hti=>?_⟩;have h3:=List.all_eq_true.1 this.2 i (List.mem_range.2 hij);have e5:ops.toList[i]?=some oi:=by simpa using hoi
   rw [e5,hti] at h3;have hp:=b5f h3;have hb:m.testBit i=true->bef ops i j:=fun hb=>⟨m,e4,hb⟩
   exact ⟨hp.ww.imp hb id,hp.lw.imp hb id,hp.wl.imp hb id,hp.ee.imp hb id,hp.eq.imp hb id,hp.qe.imp hb id,hp.aa,hp.ad,hp.ea,fun ha=>(hp.ae ha).imp hb id,hp.le.imp hb id,hp.el.imp hb id,hp.kl,fun hk=>(hp.fk hk).imp hb id,fun h1 h2=>hb (hp.me h1 h2)⟩
 exact ⟨h1,fun j oj tj a b=>(main j oj tj a b).1,fun i j oi ti oj tj hij a b c d=>(main j oj tj c d).2 i oi ti hij a b⟩
structure Props (hid:List Res) (FV:List C) (PK:List Nat) (o:Oper) (t:DT) (r:TR):Prop where
 wr:∀ s,(r.w s).isSome=true->s ∈ wrs o t
 pkE:r.pk ≠ []->t.isE=true
 rsE:r.rs' ≠ none->t.isE=true
 pkPK:∀ k ∈ r.pk,k ∈ PK
 pw:∀ s,r.pw s ≠ none->(t.isA=true/\o.dst=some s) \/ s ∈ t.ad
 pws:∀ s p,r.pw s=some (some p)->t.isA=true/\o.dst=some s
 wf:∀ s c,r.w s=some c->(t.isE=true \/ t.isQ=true) \/ c ∈ FV \/ c=.junk \/ t.isL=true \/ t.isM=true
 cln:U7 o.op=true->r.pk=[]
 rsub:∀ q,r.rs'=some q->t.isK=false->F3 hid q
theorem a4f.props {E:Ctx} {hid:List Res} {ops:Array Oper} {FV:List C} {PK pks:List Nat} {o:Oper} {t:DT} {r:TR} {x:SX} (h:a4f E hid ops FV PK pks o t r x):Props hid FV PK o t r:=by
  have quiet:∀ (s:C),(∀ u c,(trQ o.dst s).w u=some c->(t.isE=true \/ t.isQ=true) \/ c ∈ FV \/ c=.junk \/ t.isL=true \/ t.isM=true)->Props hid FV PK o t (trQ o.dst s):=fun s hw=>
    { wr:=fun u hu=>by
        simp only [trQ] at hu;split at hu
        · rename_i e;unfold wrs;rw [e];simp
        · cases hu
      pkE:=fun hne=>absurd rfl hne
      rsE:=fun hne=>absurd rfl hne
      pkPK:=by simp [trQ]
      pw:=fun u hu=>absurd rfl hu
      pws:=fun u p hu=>by cases hu
      wf:=hw
      cln:=fun _=>rfl
      rsub:=fun q hq=>by cases hq }
  cases t with
  | q=>
    obtain ⟨⟨s,rfl⟩,_⟩:=h;exact quiet s fun _ _ _=>.inl (.inr rfl)
  | f=>
    obtain ⟨⟨s,rfl,hs⟩,_⟩:=h;refine quiet s fun u c hu=>.inr (.inl ?_);simp only [trQ] at hu;split at hu
    · injection hu with hu;rw [<- hu];exact hs
    · cases hu
  | l=>
    obtain ⟨⟨s,rfl⟩,_⟩:=h;exact quiet s fun _ _ _=>.inr (.inr (.inr (.inl rfl)))
  | m=>
    obtain ⟨⟨s,rfl,_⟩,_⟩:=h;exact quiet s fun _ _ _=>.inr (.inr (.inr (.inr rfl)))
  | n=>
    obtain ⟨⟨s,rfl,hs⟩,_⟩:=h;refine quiet s fun u c hu=>.inr (.inl ?_);simp only [trQ] at hu;split at hu
    · injection hu with hu;rw [<- hu];exact hs
    · cases hu
  | a=>
    obtain ⟨⟨ta,pd,hdd,rfl⟩,_⟩:=h;refine ⟨fun u hu=>?_,fun hne=>absurd rfl hne,fun hne=>absurd rfl hne,by simp [trA],fun u hu=>.inl ⟨rfl,?_⟩,fun u p hu=>⟨rfl,?_⟩,fun u c hu=>.inr (.inr (.inl ?_)),fun _=>rfl,fun q hq=>by cases hq⟩
    · simp only [trA] at hu
      split at hu
      · rename_i e;subst e;unfold wrs;rw [hdd];simp
      · cases hu
    · simp only [trA] at hu
      split at hu
      · rename_i e;rw [e];exact hdd
      · exact absurd rfl hu
    · simp only [trA] at hu
      split at hu
      · rename_i e;rw [e];exact hdd
      · cases hu
    · simp only [trA] at hu
      split at hu
      · injection hu with hu;exact hu.symm
      · cases hu
  | e ad sk=>
    cases ad with
    | none=>
      obtain ⟨⟨s,rs',pk,rfl,hpk,hsub,hcl⟩,_⟩:=h;refine ⟨fun u hu=>?_,fun _=>rfl,fun _=>rfl,hpk,fun u hu=>absurd rfl hu,(fun u p hu=>by cases hu),fun _ _ _=>.inl (.inl rfl),hcl,fun q hq hk=>by injection hq with hq;rw [<- hq];exact hsub hk⟩;simp only [trE] at hu;split at hu
      · rename_i e;unfold wrs;rw [e];simp
      · cases hu
    | some ta=>
      obtain ⟨⟨s,rs',pk,c,rfl,hpk,hsub,hcl⟩,_⟩:=h;refine ⟨fun u hu=>?_,fun _=>rfl,fun _=>rfl,hpk,fun u hu=>.inr ?_,fun u p hu=>?_,fun _ _ _=>.inl (.inl rfl),hcl,fun q hq hk=>by injection hq with hq;rw [<- hq];exact hsub hk⟩
      · simp only [trE] at hu
        split at hu
        · rename_i e;unfold wrs;rw [e];simp
        · split at hu
          · rename_i e;subst e;unfold wrs;simp [DT.ad]
          · cases hu
      · simp only [trE] at hu
        split at hu
        · rename_i e;subst e;simp [DT.ad]
        · exact absurd rfl hu
      · simp only [trE] at hu
        split at hu
        · injection hu with hu;cases hu
        · cases hu
theorem a4f.mw {E:Ctx} {hid:List Res} {ops:Array Oper} {FV:List C} {PK pks:List Nat} {o:Oper} {t:DT} {r:TR} {x:SX} (h:a4f E hid ops FV PK pks o t r x) (ht:t.isM=true) {s:Nat} {c:C} (hc:r.w s=some c):∀ k ∈ pks,c.has k=false:=by
 cases t<;>simp only [DT.isM] at ht<;>first|(cases ht;done)|skip
 obtain ⟨⟨s0,rfl,hs⟩,_⟩:=h;simp only [trQ] at hc;split at hc
 ·injection hc with hc;rw [<- hc];exact hs
 ·cases hc
theorem b1n {D:Nat->Bool} {s:Nat} {p:Pd}:∀ (l:List TR) (k:Nat) (x:SX),(C9 D l k x).pend s=some p->x.pend s=some p \/ ∃ j q p',l[j]?=some q/\D (k+j)=true/\q.pw s=some (some p')
 | [],k,x,h=>.inl h
 | r::l,k,x,h=>by
  simp only [C9] at h;rcases b1n l (k+1) _ h with h1|⟨j,q,p',h1,h2,h3⟩
  ·by_cases hd:D k=true
   ·rw [if_pos hd] at h1;simp only [TR.step] at h1;cases hp:r.pw s with
    | none=>rw [hp] at h1;exact .inl h1
    | some q=>
     rw [hp] at h1;simp only [Option.getD_some] at h1;subst h1;exact .inr ⟨0,r,p,rfl,by simpa using hd,hp⟩
   ·rw [if_neg hd] at h1;exact .inl h1
  ·exact .inr ⟨j+1,q,p',by simpa using h1,by rw [show k+(j+1)=k+1+j by omega];exact h2,h3⟩
set_option maxHeartbeats 1000000 in
theorem c0G {E:Ctx} (wf:∀ b,E.av b->b < E.w0.heap.size) {N:Nat} (hN:E.N=N) {ops:Array Oper} {tags:List DT} {il:List E9} {hid:List Res} {st:St} {K:St->Prop} {Q:Exit->Act->World->Prop} (hchk:b1e ops tags=true) (hc:U6 E.P N ops ops.toList=some il)
    (hsub:F3 hid st.rs) (h:evD E hid tags il ⟨st.fr,st.rs,[],[],[]⟩ K) (hK:∀ st' ν a w,K st'->Good E ν st' a w->Q .normal a w) {ν:List Value} {a:Act} {w:World} (hG:Good E ν st a w) :
    wpAny E.P .any ops Q ops.size (Array.replicate ops.size false) a w:=by
  obtain ⟨c1,c2,c3⟩:=b8V hchk;have hgd:∀ (i:Nat) (o:Oper) (t:DT),ops.toList[i]?=some o->tags[i]?=some t->t.isE=true \/ t.isA=true->o.guard=none:=by
    intro i o t ho ht hea;have:=c2 i o t (by simpa using ho) ht;unfold a8x at this;rw [c8F] at this;have h2:=this.2;cases t with
    | q=>rcases hea with h|h<;>cases h
    | f=>rcases hea with h|h<;>cases h
    | l=>rcases hea with h|h<;>cases h
    | m=>rcases hea with h|h<;>cases h
    | n=>rcases hea with h|h<;>cases h
    | a=>simp only [c8F,Option.isNone_iff_eq_none] at h2;exact h2.1.1
    | e ad sk=>simpa using h2
  obtain ⟨tr,FV,PK,st',hF,_,_,hno,hk,hfin⟩:=facts hN ops.toList tags il ⟨st.fr,st.rs,[],[],[]⟩ hc h hgd;obtain ⟨l1,l2,hfact⟩:=hF.get;have hlen:tr.length=ops.size:=by rw [<- l1];simp
  generalize hx0:XD ⟨st.fr,st.rs,[],[],[]⟩=x0 at *;have hx0r:x0.rs=st.rs:=by rw [<- hx0];rfl
  have hx0p:∀ t,x0.pend t=none:=fun t=>by rw [<- hx0];rfl
  have dat:∀ {i:Nat} {r:TR},tr[i]?=some r->∃ o t,ops[i]?=some o/\tags[i]?=some t/\a4f E hid ops FV PK (b3O [] (tr.take i)) o t r (C9 R7 (tr.take i) 0 x0):=by
    intro i r hr;have hi:i < ops.size:=by rw [<- hlen];exact (c8v.1 hr).1
    have ho:ops[i]?=some ops[i]:=by simp [hi]
    have ht:tags[i]?=some tags[i]:=by simp [c1,hi]
    exact ⟨_,_,ho,ht,hfact i _ _ r (by simpa using ho) ht hr⟩
  have noref:∀ {c:C} {pk:List Nat},c ∈ FV->(∀ k ∈ pk,k ∈ PK)->c.y8 pk=c:=fun hcf hpk=>a6J fun k hk=>a6N hno _ hcf k (hpk k hk);have junkp:∀ pk,C.junk.y8 pk=.junk:=fun pk=>a6J fun k _=>by simp only [C.has]
  refine c1S (Inv:=b3N E) (tr:=tr) (x0:=x0) hlen (fun i o ho e he hb=>?_) (bef ops) (fun D hcl i j hb hD=>a1u hcl i j hb hD) (fun D i o hcl ho hall j hb=>b1B hcl i i o (c8B _) ho hall j hb) ?hcomm ?hsem ?hend ops.size (Array.replicate ops.size false) a w (by simp) (by simp) ?hcl0 ?hinv
  · have hi:i < ops.size:=(Array.getElem?_eq_some_iff.1 ho).1
    have ht:tags[i]?=some tags[i]:=by simp [c1,hi]
    have:=c2 i o _ ho ht;unfold a8x at this;rw [c8F] at this;have h1:=List.all_eq_true.1 this.1 e (by simpa using he);simp only [c9f,Bool.not_eq_true',c8D] at h1;rcases h1 with h1|h1
    · rw [h1] at hb;cases hb
    · exact h1
  case hcl0=>
    intro i o ho hd e he hb;exfalso;have hi:i < ops.size:=(Array.getElem?_eq_some_iff.1 ho).1;simp [hi] at hd
  case hinv=>
    have:C9 (fun j=>(Array.replicate ops.size false).getD j false) tr 0 x0=x0:=by
      have gen:∀ (l:List TR) (k:Nat) (x:SX),C9 (fun j=>(Array.replicate ops.size false).getD j false) l k x=x:=by
        intro l
        induction l with
        | nil=>intro k x;rfl
        | cons r l ih=>
          intro k x;simp only [C9];rw [if_neg (by rcases c8N k ops.size with h|h<;>simp [h])];exact ih _ _
      exact gen tr 0 x0
    rw [this];have hsf:x0.sf=slot st.fr:=by rw [<- hx0];rfl
    refine ⟨ν,fun _=>0,?_,⟨fun t p hp=>?_,fun t t' p p' hp=>?_,wf⟩⟩
    · rw [hsf,hx0r]
      refine J6.re hG (Below.refl _ _) rfl rfl rfl rfl rfl rfl fun b hb=>?_;rcases hb with hb|⟨t,p,hp,_⟩
      · exact ⟨.inl hb,hG.rg.av b hb⟩
      · rw [hx0p] at hp;cases hp
    · rw [hx0p] at hp;cases hp
    · rw [hx0p] at hp;cases hp
  case hend=>
    intro a' w' hI;rw [hfin] at hI;obtain ⟨ν',B,hG',hP⟩:=hI;refine hK st' ν' a' w' hk (J6.re hG' (Below.refl _ _) rfl rfl rfl rfl rfl rfl fun b hb=>⟨.inl (.inl hb),?_⟩);exact c8U (wf b hb) hG'.rg.n0
  case hcomm=>
    intro i j r q hij hr hq hnb;obtain ⟨oi,ti,hoi,hti,fi⟩:=dat hr;obtain ⟨oj,tj,hoj,htj,fj⟩:=dat hq;have pr:=fi.props;have pq:=fj.props;have hp:=c3 i j oi ti oj tj hij hoi hti hoj htj;have ee:=hp.ee.resolve_left hnb;have eq:=hp.eq.resolve_left hnb;have qe:=hp.qe.resolve_left hnb;refine ⟨fun t=>?_,fun t c hc'=>?_,fun t c hc'=>?_,?_,?_,fun t=>?_⟩
    · cases h1:r.w t with
      | none=>exact .inl rfl
      | some c=>
        cases h2:q.w t with
        | none=>exact .inr rfl
        | some c'=>exact (hp.ww.resolve_left hnb t (pr.wr t (by rw [h1];rfl)) (pq.wr t (by rw [h2];rfl))).elim
    · cases hpk:q.pk with
      | nil=>rfl
      | cons k l=>
        rw [<- hpk];have hE:=pq.pkE (by rw [hpk];simp);rcases pr.wf t c hc' with (h1|h1)|h1|h1|h1|h1
        · exact (ee ⟨h1,hE⟩).elim
        · exact (qe ⟨h1,hE⟩).elim
        · exact noref h1 pq.pkPK
        · rw [h1];exact junkp _
        · have:=pq.cln (hp.le.resolve_left hnb h1 hE);rw [hpk] at this;cases this
        · exact (hnb (hp.me h1 hE)).elim
    · cases hpk:r.pk with
      | nil=>rfl
      | cons k l=>
        rw [<- hpk];have hE:=pr.pkE (by rw [hpk];simp);rcases pq.wf t c hc' with (h1|h1)|h1|h1|h1|h1
        · exact (ee ⟨hE,h1⟩).elim
        · exact (eq ⟨hE,h1⟩).elim
        · exact noref h1 pr.pkPK
        · rw [h1];exact junkp _
        · have:=pr.cln (hp.el.resolve_left hnb hE h1);rw [hpk] at this;cases this
        · exact a6J fun k hk=>fj.mw h1 hc' k (b4x _ _ i r k (by rw [List.getElem?_take,if_pos hij];exact hr) hk)
    · by_cases h1:r.pk=[]
      · exact .inl h1
      · by_cases h2:q.pk=[]
        · exact .inr h2
        · exact (ee ⟨pr.pkE h1,pq.pkE h2⟩).elim
    · by_cases h1:r.rs'=none
      · exact .inl h1
      · by_cases h2:q.rs'=none
        · exact .inr h2
        · exact (ee ⟨pr.rsE h1,pq.rsE h2⟩).elim
    · by_cases h1:r.pw t=none
      · exact .inl h1
      · by_cases h2:q.pw t=none
        · exact .inr h2
        · exfalso
          rcases pr.pw t h1 with ⟨a1,d1⟩|a1<;>rcases pq.pw t h2 with ⟨a2,d2⟩|a2
          · exact hp.aa (.inl a1) t d1 d2
          · exact (hp.ae a1).resolve_left hnb t d1 a2
          · exact hp.ea a2 t a1 d2
          · exact hp.ad t a1 a2
  case hsem=>
    intro i o r D ho hr hcl hDi hbD K' a' w' hI hK';obtain ⟨o',t,ho',ht,fi⟩:=dat hr;rw [ho] at ho';injection ho' with ho';subst ho';have hi:i < tr.length:=(c8v.1 hr).1;have hsplit:tr=tr.take i++r::tr.drop (i+1):=by
      have e:=List.take_append_drop i tr;rw [List.drop_eq_getElem_cons hi] at e;have:tr[i]=r:=by rw [c8q hi] at hr;injection hr
      rw [this] at e;exact e.symm
    have htl:(tr.take i).length=i:=by rw [c8E];omega
    have hy:C9 D tr 0 x0=C9 D (tr.drop (i+1)) (i+1) (C9 D (tr.take i) 0 x0):=by
      conv=>lhs;rw [hsplit]
      rw [a6a,htl];simp only [C9,c8Z,hDi,c9d,if_false]
    have pre_get:∀ {j:Nat} {q:TR},(tr.take i)[j]?=some q->j < i/\tr[j]?=some q:=fun {j q} hq=>by
      rw [List.getElem?_take] at hq;split at hq
      · exact ⟨by assumption,hq⟩
      · cases hq
    have post_get:∀ {j:Nat} {q:TR},(tr.drop (i+1))[j]?=some q->tr[i+1+j]?=some q:=fun {j q} hq=>by rw [c9e] at hq;exact hq
    have before:∀ {j:Nat} {q:TR},j < i->tr[j]?=some q->∃ oj tj,Props hid FV PK oj tj q/\a8a ops (bef ops j i) oj tj o t:=fun {j q} hji hq=>by
      obtain ⟨oj,tj,hoj,htj,fj⟩:=dat hq;exact ⟨oj,tj,fj.props,c3 j i oj tj o t hji hoj htj ho ht⟩
    have behind:∀ {j:Nat} {q:TR},i < j->tr[j]?=some q->D j=true->∃ oj tj,Props hid FV PK oj tj q/\a8a ops (bef ops i j) o t oj tj/\¬ bef ops i j:=fun {j q} hij hq hd=>by
      obtain ⟨oj,tj,hoj,htj,fj⟩:=dat hq;exact ⟨oj,tj,fj.props,c3 i j o t oj tj hij ho ht hoj htj,fun hb=>by have:=a1u hcl i j hb hd;rw [hDi] at this;cases this⟩
    have hPd:∀ s p,(C9 D tr 0 x0).pend s=some p->o.dst ≠ some s:=by
      intro s p hp hds;rcases b1n tr 0 x0 hp with h1|⟨j,q,p',h1,h2,h3⟩
      · rw [hx0p] at h1;cases h1
      · rw [c8Z] at h2
        rcases Nat.lt_trichotomy j i with hlt|heq|hgt
        · obtain ⟨oj,tj,pj,hp⟩:=before hlt h1
          obtain ⟨a1,d1⟩:=pj.pws s p' h3;exact hp.aa (.inl a1) s d1 hds
        · subst heq;rw [hDi] at h2;cases h2
        · obtain ⟨oj,tj,pj,hp,_⟩:=behind hgt h1 h2
          obtain ⟨a1,d1⟩:=pj.pws s p' h3;exact hp.aa (.inr a1) s hds d1
    have hw_pre:∀ s ∈ o.looksAt ops,∀ (j:Nat) (q:TR),(tr.take i)[j]?=some q->(q.w s).isSome=true->D j=true:=by
      intro s hs j q hq hsm;obtain ⟨hji,hq'⟩:=pre_get hq;obtain ⟨oj,tj,pj,hp⟩:=before hji hq';rcases hp.wl with hb|hb
      · exact hbD j hb
      · exact (hb s hs (pj.wr s hsm)).elim
    have hw_post:∀ s ∈ o.looksAt ops,∀ (j:Nat) (q:TR),(tr.drop (i+1))[j]?=some q->D (i+1+j)=true->q.w s=none:=by
      intro s hs j q hq hd;obtain ⟨oj,tj,pj,hp,hnb⟩:=behind (by omega) (post_get hq) hd;cases hqs:q.w s with
      | none=>rfl
      | some c=>exact (hp.lw.resolve_left hnb s hs (pj.wr s (by rw [hqs];rfl))).elim
    have fixedE:t.isE=true \/ t.isQ=true->(∀ {j:Nat} {q:TR},j < i->tr[j]?=some q->q.pk ≠ [] \/ q.rs' ≠ none->D j=true)/\(∀ {j:Nat} {q:TR},i < j->tr[j]?=some q->D j=true->q.pk=[]/\q.rs'=none):=by
      intro hfx;refine ⟨fun {j q} hji hq hne=>?_,fun {j q} hij hq hd=>?_⟩
      · obtain ⟨oj,tj,pj,hp⟩:=before hji hq
        have hE:tj.isE=true:=hne.elim pj.pkE pj.rsE;rcases hfx with hfx|hfx
        · exact hbD j (hp.ee.resolve_right fun h=>h ⟨hE,hfx⟩)
        · exact hbD j (hp.eq.resolve_right fun h=>h ⟨hE,hfx⟩)
      · obtain ⟨oj,tj,pj,hp,hnb⟩:=behind hij hq hd
        have hnE:¬ tj.isE=true:=fun hE=>by
          rcases hfx with hfx|hfx
          · exact hp.ee.resolve_left hnb ⟨hfx,hE⟩
          · exact hp.qe.resolve_left hnb ⟨hfx,hE⟩
        refine ⟨?_,?_⟩
        · cases h0:q.pk with
          | nil=>rfl
          | cons k l=>exact (hnE (pj.pkE (by rw [h0];simp))).elim
        · cases h0:q.rs' with
          | none=>rfl
          | some l=>exact (hnE (pj.rsE (by rw [h0];simp))).elim
    have agreeF:t.isE=true \/ t.isQ=true->agree ops o (C9 R7 (tr.take i) 0 x0) (C9 D tr 0 x0)/\(C9 D tr 0 x0).rs=(C9 R7 (tr.take i) 0 x0).rs:=by
      intro hfx;obtain ⟨f1,f2⟩:=fixedE hfx;refine ⟨fun s hs=>?_,?_⟩
      · rw [hy]
        refine a4J _ _ _ (a7x true _ _ rfl _ _ rfl (hw_pre s hs) (.inl ⟨rfl,fun j q hq hne=>?_⟩)) fun j q hq hd=>⟨hw_post s hs j q hq hd,?_⟩
        · obtain ⟨h1,h2⟩:=pre_get hq
          exact f1 h1 h2 (.inl hne)
        · rw [(f2 (by omega) (post_get hq) hd).1];rfl
      · rw [hy,b6C _ _ _ fun j q hq hd=>(f2 (by omega) (post_get hq) hd).2]
        exact c6t _ _ _ fun j q hq hne=>by
          obtain ⟨h1,h2⟩:=pre_get hq;rw [c8Z];exact f1 h1 h2 (.inr hne)
    have fin:Sem E ops o r (C9 D tr 0 x0)->wpOp E.P ops Q i K' a' w':=fun hs=>by
      have:=hs hPd K' Q a' w' hI hK';unfold wpOp;rw [ho];exact this
    cases t with
    | q=>
      obtain ⟨_,hs⟩:=fi;obtain ⟨h1,h2⟩:=agreeF (.inr rfl);exact fin (hs _ h1 h2)
    | f=>
      obtain ⟨_,hv,hs⟩:=fi;refine fin (hs _ (fun s hs'=>?_) ?_)
      · rw [hy]
        obtain ⟨hnj,hfv⟩:=hv s hs';have hpk:∀ {j:Nat} {q:TR},tr[j]?=some q->((C9 R7 (tr.take i) 0 x0).sf s).y8 q.pk=(C9 R7 (tr.take i) 0 x0).sf s:=fun {j q} hq=>by
          obtain ⟨_,_,_,_,fj⟩:=dat hq;exact noref hfv fj.props.pkPK
        exact a4J _ _ _ (a7x false _ _ rfl _ _ rfl (hw_pre s hs') (.inr ⟨hnj,fun j q hq=>hpk (pre_get hq).2⟩)) fun j q hq hd=>⟨hw_post s hs' j q hq hd,hpk (post_get hq)⟩
      · refine b7b tr 0 x0 (by rw [hx0r];exact hsub) fun j q hj hd rs' hrs'=>?_
        rw [c8Z] at hd;obtain ⟨oj,tj,hoj,htj,fj⟩:=dat hj;refine fj.props.rsub _ hrs' ?_;cases hK:tj.isK with
        | false=>rfl
        | true=>
          exfalso;rcases Nat.lt_trichotomy j i with hlt|heq|hgt
          · have:=(c3 j i oj tj o _ hlt hoj htj ho ht).kl hK
            first
              | exact absurd this.1.1 (by decide)
              | exact absurd this.1.2 (by decide)
              | exact absurd this.2 (by decide)
          · subst heq;rw [hDi] at hd;cases hd
          · have hp:=c3 i j o _ oj tj hgt ho ht hoj htj
            have hE:tj.isE=true:=by cases tj<;>first|rfl|cases hK
            rcases hp.fk hK with hb|⟨hf,hl⟩
            · have:=a1u hcl i j hb hd;rw [hDi] at this;cases this
            · first
                | exact absurd hf (by decide)
                | (rcases hp.le with hb|hb
                   · have:=a1u hcl i j hb hd;rw [hDi] at this;cases this
                   · have h1:=hb rfl hE
                     rw [hl rfl] at h1;cases h1)
    | l=>
      obtain ⟨_,hv,hs⟩:=fi;refine fin (hs _ (fun s hs'=>?_) ?_)
      · rw [hy]
        obtain ⟨hnj,hfv⟩:=hv s hs';have hpk:∀ {j:Nat} {q:TR},tr[j]?=some q->((C9 R7 (tr.take i) 0 x0).sf s).y8 q.pk=(C9 R7 (tr.take i) 0 x0).sf s:=fun {j q} hq=>by
          obtain ⟨_,_,_,_,fj⟩:=dat hq;exact noref hfv fj.props.pkPK
        exact a4J _ _ _ (a7x false _ _ rfl _ _ rfl (hw_pre s hs') (.inr ⟨hnj,fun j q hq=>hpk (pre_get hq).2⟩)) fun j q hq hd=>⟨hw_post s hs' j q hq hd,hpk (post_get hq)⟩
      · refine b7b tr 0 x0 (by rw [hx0r];exact hsub) fun j q hj hd rs' hrs'=>?_
        rw [c8Z] at hd;obtain ⟨oj,tj,hoj,htj,fj⟩:=dat hj;refine fj.props.rsub _ hrs' ?_;cases hK:tj.isK with
        | false=>rfl
        | true=>
          exfalso;rcases Nat.lt_trichotomy j i with hlt|heq|hgt
          · have:=(c3 j i oj tj o _ hlt hoj htj ho ht).kl hK
            first
              | exact absurd this.1.1 (by decide)
              | exact absurd this.1.2 (by decide)
              | exact absurd this.2 (by decide)
          · subst heq;rw [hDi] at hd;cases hd
          · have hp:=c3 i j o _ oj tj hgt ho ht hoj htj
            have hE:tj.isE=true:=by cases tj<;>first|rfl|cases hK
            rcases hp.fk hK with hb|⟨hf,hl⟩
            · have:=a1u hcl i j hb hd;rw [hDi] at this;cases this
            · first
                | exact absurd hf (by decide)
                | (rcases hp.le with hb|hb
                   · have:=a1u hcl i j hb hd;rw [hDi] at this;cases this
                   · have h1:=hb rfl hE
                     rw [hl rfl] at h1;cases h1)
    | m=>
      obtain ⟨_,hv,hs⟩:=fi;refine fin (hs _ (fun s hs'=>?_) ?_)
      · rw [hy]
        obtain ⟨hnj,hfv⟩:=hv s hs';have hpk:∀ {j:Nat} {q:TR},tr[j]?=some q->((C9 R7 (tr.take i) 0 x0).sf s).y8 q.pk=(C9 R7 (tr.take i) 0 x0).sf s:=fun {j q} hq=>by
          obtain ⟨_,_,_,_,fj⟩:=dat hq;exact noref hfv fj.props.pkPK
        exact a4J _ _ _ (a7x false _ _ rfl _ _ rfl (hw_pre s hs') (.inr ⟨hnj,fun j q hq=>hpk (pre_get hq).2⟩)) fun j q hq hd=>⟨hw_post s hs' j q hq hd,hpk (post_get hq)⟩
      · refine b7b tr 0 x0 (by rw [hx0r];exact hsub) fun j q hj hd rs' hrs'=>?_
        rw [c8Z] at hd;obtain ⟨oj,tj,hoj,htj,fj⟩:=dat hj;refine fj.props.rsub _ hrs' ?_;cases hK:tj.isK with
        | false=>rfl
        | true=>
          exfalso;rcases Nat.lt_trichotomy j i with hlt|heq|hgt
          · have:=(c3 j i oj tj o _ hlt hoj htj ho ht).kl hK
            first
              | exact absurd this.1.1 (by decide)
              | exact absurd this.1.2 (by decide)
              | exact absurd this.2 (by decide)
          · subst heq;rw [hDi] at hd;cases hd
          · have hp:=c3 i j o _ oj tj hgt ho ht hoj htj
            have hE:tj.isE=true:=by cases tj<;>first|rfl|cases hK
            have:=a1u hcl i j (hp.me rfl hE) hd;rw [hDi] at this;cases this
    | n=>
      obtain ⟨_,hv,hs⟩:=fi;refine fin (hs _ fun s hs'=>?_)
      · rw [hy]
        obtain ⟨hnj,hfv⟩:=hv s hs';have hpk:∀ {j:Nat} {q:TR},tr[j]?=some q->((C9 R7 (tr.take i) 0 x0).sf s).y8 q.pk=(C9 R7 (tr.take i) 0 x0).sf s:=fun {j q} hq=>by
          obtain ⟨_,_,_,_,fj⟩:=dat hq;exact noref hfv fj.props.pkPK
        exact a4J _ _ _ (a7x false _ _ rfl _ _ rfl (hw_pre s hs') (.inr ⟨hnj,fun j q hq=>hpk (pre_get hq).2⟩)) fun j q hq hd=>⟨hw_post s hs' j q hq hd,hpk (post_get hq)⟩
    | a=>
      obtain ⟨_,hs⟩:=fi;exact fin (hs _)
    | e ad sk=>
      obtain ⟨h1,h2⟩:=agreeF (.inl rfl);cases ad with
      | none=>
        obtain ⟨_,hs⟩:=fi;exact fin (hs _ h1 h2)
      | some ta=>
        obtain ⟨_,hs⟩:=fi;refine fin (hs _ h1 h2 ?_);rw [hy,b2g _ _ _ fun j q hq hd=>?_]
        · refine b2J _ _ _ _ rfl fun j q hq hne=>?_
          obtain ⟨hji,hq'⟩:=pre_get hq;obtain ⟨oj,tj,pj,hp⟩:=before hji hq';rw [c8Z];rcases pj.pw ta hne with ⟨a1,d1⟩|a1
          · rcases hp.ae a1 with hb|hb
            · exact hbD j hb
            · exact (hb ta d1 (by simp [DT.ad])).elim
          · exact (hp.ad ta a1 (by simp [DT.ad])).elim
        · obtain ⟨oj,tj,pj,hp,hnb⟩:=behind (by omega) (post_get hq) hd
          cases hpw:q.pw ta with
          | none=>rfl
          | some z=>
            exfalso;rcases pj.pw ta (by rw [hpw];simp) with ⟨a1,d1⟩|a1
            · exact hp.ea a1 ta (by simp [DT.ad]) d1
            · exact hp.ad ta (by simp [DT.ad]) a1
theorem a0X {eff:Nat->Bool} {P:Program} {N:Nat} {code:Code} {ic:IC} (h:comp eff P N code=some ic):match (generalizing:=false) ic with
  | .skip=>code=.skip
  | .reg l=>∃ id ops,code=.region id ops false/\U6 P N ops ops.toList=some l
  | .X4 tg l=>∃ id ops,code=.region id ops true/\P.follows .mixedOrders=true/\b1e ops (a7T eff ops.toList)=true/\tg=a7T eff ops.toList/\U6 P N ops ops.toList=some l
  | .seq x y=>∃ a b,code=.seq a b/\comp eff P N a=some x/\comp eff P N b=some y
  | .cond c x y=>∃ a b,code=.cond c a b/\comp eff P N a=some x/\comp eff P N b=some y
  | .block id x=>∃ a,code=.block id a/\comp eff P N a=some x
  | .loop x=>∃ a,code=.loop a/\comp eff P N a=some x
  | .exit id=>code=.exit id
  | .ret=>code=.ret:=by
 unfold comp at h;split at h<;>(try (repeat' split at h))<;>(try cases h)
 all_goals first
  | exact rfl
  | exact ⟨_,_,rfl,by assumption,by assumption⟩
  | exact ⟨_,_,rfl,by assumption⟩
  | exact ⟨_,rfl,by assumption⟩
  | (rename_i hh _ _ _;rw [c8F] at hh;exact ⟨_,_,rfl,hh.1,hh.2,rfl,by assumption⟩)
inductive It where
 | code (c:IC)
 | blk (id:Nat)
 | inv (J:Act->World->Prop)
mutual
def wpS (E:Ctx) (Q:Exit->Act->World->Prop):List It->Act->World->Prop
 | [],a,w=>Q .normal a w
 | .code c::k,a,w=>∀ code,comp E.eff E.P E.N code=some c->code.wp E.P (fun e a' w'=>match e with
  | .normal=>wpS E Q k a' w'
  | .exit id=>exS E Q id k a' w'
  | e=>Q e a' w') a w
 | .blk _::k,a,w=>wpS E Q k a w
 | .inv J::_,a,w=>J a w
def exS (E:Ctx) (Q:Exit->Act->World->Prop) (id:Nat):List It->Act->World->Prop
 | [],a,w=>Q (.exit id) a w
 | .code _::k,a,w=>exS E Q id k a w
 | .blk i::k,a,w=>if id=i then wpS E Q k a w else exS E Q id k a w
 | .inv _::k,a,w=>exS E Q id k a w
end
def a3v (id:Nat):List It->Option (List It)
 | []=>none
 | .code _::k=>a3v id k
 | .blk i::k=>if id=i then some k else a3v id k
 | .inv _::k=>a3v id k
def Wf (E:Ctx):Prop:=∀ b,E.av b->b < E.w0.heap.size
def S (E:Ctx) (Q:Exit->Act->World->Prop) (st:St) (k:List It):Prop:=Wf E->∀ ν a w,Good E ν st a w->wpS E Q k a w
def Ent (E:Ctx) (st st':St):Prop:=Wf E->∀ ν a w,Good E ν st a w->∃ ν',Good E ν' st' a w
section
variable {E:Ctx} {Q:Exit->Act->World->Prop} {st:St} {k:List It}
theorem S.weaken {st':St} (h:Ent E st st') (hs:S E Q st' k):S E Q st k:=fun wf ν a w hG=>let ⟨ν',hG'⟩:=h wf ν a w hG;hs wf ν' a w hG'
theorem S.skip (h:S E Q st k):S E Q st (.code .skip::k):=by
 intro wf ν a w hG code hc;have hc:=a0X hc;simp only at hc;subst hc;exact wp_skip (h wf ν a w hG)
theorem S.seq {x y:IC} (h:S E Q st (.code x::.code y::k)):S E Q st (.code (.seq x y)::k):=by
 intro wf ν a w hG code hc;obtain ⟨ca,cb,rfl,hx,hy⟩:=a0X hc;refine wp_seq (wp_mono (h wf ν a w hG ca hx) fun e a' w' hq=>?_);cases e with
 | normal=>exact hq cb hy
 | exit id=>exact hq
 | _=>exact hq
theorem S.cond {c:Operand} {x y:IC} {b:Bool} (hb:opv st.fr c=.v (.bool b)) (ht:b=true->S E Q st (.code x::k)) (hf:b=false->S E Q st (.code y::k)):S E Q st (.code (.cond c x y)::k):=by
 intro wf ν a w hG code hc;obtain ⟨ca,cb,rfl,hx,hy⟩:=a0X hc;have e1:=a2h hG c;rw [hb] at e1;have e1:a.eval c=.bool b:=by simpa only [Den] using e1
 exact wp_cond_split e1 (fun hbt=>ht hbt wf ν a w hG ca hx) (fun hbf=>hf hbf wf ν a w hG cb hy)
theorem S.split (t:Nat) {Sx:Value->Prop} (ht:slot st.fr t=.any Sx) (h:∀ y,Sx y->S E Q ⟨(t,.v y)::st.fr,st.rs⟩ k):S E Q st k:=by
 intro wf ν a w hG;have hd:=hG.fr t;rw [ht] at hd;simp only [Den] at hd;refine h _ hd wf ν a w ⟨hG.dfr,hG.size,fun t'=>?_,hG.rg,hG.frm,hG.nu⟩;simp only [slot];cases hb:(t == t') with
 | true=>
  have:t=t':=by simpa using hb
  subst this;simp [Den]
 | false=>exact hG.fr t'
theorem S.block {id:Nat} {x:IC} (h:S E Q st (.code x::.blk id::k)):S E Q st (.code (.block id x)::k):=by
 intro wf ν a w hG code hc;obtain ⟨ca,rfl,hx⟩:=a0X hc;refine wp_block (wp_mono (h wf ν a w hG ca hx) fun e a' w' hq=>?_);cases e with
 | normal=>exact hq
 | exit i=>
  simp only [exS] at hq;simp only [Exit.inBlock];split
  ·rename_i e;rw [if_pos e] at hq;exact hq
  ·rename_i e;rw [if_neg e] at hq;exact hq
 | _=>exact hq
theorem S.blk {id:Nat} (h:S E Q st k):S E Q st (.blk id::k):=fun wf ν a w hG=>h wf ν a w hG
theorem a5y {id:Nat}:∀ {k k':List It},a3v id k=some k'->∀ a w,wpS E Q k' a w->exS E Q id k a w
 | [],_,h,_,_,_=>by cases h
 | .code _::k,k',h,a,w,hq=>by simp only [exS];exact a5y (k:=k) (by simpa only [a3v] using h) a w hq
 | .blk i::k,k',h,a,w,hq=>by
  simp only [a3v] at h;simp only [exS];split
  ·rename_i e;rw [if_pos e] at h;injection h with h;subst h;exact hq
  ·rename_i e;rw [if_neg e] at h;exact a5y (k:=k) h a w hq
 | .inv _::k,k',h,a,w,hq=>by simp only [exS];exact a5y (k:=k) (by simpa only [a3v] using h) a w hq
theorem S.exit {id:Nat} {k':List It} (hk:a3v id k=some k') (h:S E Q st k'):S E Q st (.code (.exit id)::k):=by
 intro wf ν a w hG code hc;have hc:=a0X hc;simp only at hc;subst hc;exact wp_exit (a5y hk a w (h wf ν a w hG))
theorem S.ret (h:Wf E->∀ ν a w,Good E ν st a w->Q .ret a w):S E Q st (.code .ret::k):=by
 intro wf ν a w hG code hc;have hc:=a0X hc;simp only at hc;subst hc;exact wp_ret (h wf ν a w hG)
theorem S.nil (h:Wf E->∀ ν a w,Good E ν st a w->Q .normal a w):S E Q st []:=h
theorem S.inv {J:Act->World->Prop} (h:Wf E->∀ ν a w,Good E ν st a w->J a w):S E Q st (.inv J::k):=h
theorem S.reg {ops:List E9} (h:ev E ops st fun st'=>S E Q st' k):S E Q st (.code (.reg ops)::k):=by
 intro wf ν a w hG code hc;obtain ⟨id,cops,rfl,hl⟩:=a0X hc;exact wp_region_list (a9G rfl (fun st' ν' a' w' hk hG'=>hk wf ν' a' w' hG') cops.toList _ st ν a w hl h hG)
theorem S.X4 {tags:List DT} {ops:List E9} (hid:List Res) (hs:F3 hid st.rs) (h:evD E hid tags ops ⟨st.fr,st.rs,[],[],[]⟩ fun st'=>S E Q st' k):S E Q st (.code (.X4 tags ops)::k):=by
 intro wf ν a w hG code hc;obtain ⟨id,cops,rfl,hm,hok,rfl,hl⟩:=a0X hc;have hG':Good E ν st a w.drew:=J6.below hG (Below.refl _ _).drew;exact wp_region_any hm (c0G wf rfl hok hl hs h (fun st' ν' a' w' hk hG2=>hk wf ν' a' w' hG2) hG')
theorem S.loop {body:IC} {X:Type} (stI:X->St) (pre:X->Prop) (m:X->Nat) (x0:X) (h0:pre x0) (hi:Ent E st (stI x0))
  (round:∀ x,pre x->S E Q (stI x) (.code body::.inv (fun a w=>∃ x' ν',pre x'/\m x' < m x/\Good E ν' (stI x') a w)::k)):S E Q st (.code (.loop body)::k):=by
 intro wf ν a w hG code hc;obtain ⟨cb,rfl,hx⟩:=a0X hc;obtain ⟨ν',hG'⟩:=hi wf ν a w hG;refine wp_loop_ghost (fun n a w=>∃ x ν,m x=n/\pre x/\Good E ν (stI x) a w) (m x0) ⟨x0,ν',rfl,h0,hG'⟩ ?_;rintro n a w ⟨x,ν,rfl,hp,hGx⟩;refine wp_mono (round x hp wf ν a w hGx cb hx) fun e a' w' hq=>?_;cases e with
 | normal=>
  simp only [wpS] at hq;obtain ⟨x',ν',hp',hlt,hG'⟩:=hq;exact ⟨m x',hlt,x',ν',rfl,hp',hG'⟩
 | exit id=>exact hq
 | _=>exact hq
theorem S.next {X:Type} {stI:X->St} {pre:X->Prop} {m:X->Nat} {x:X} (x':X) (hp:pre x') (hm:m x' < m x) (h:Ent E st (stI x')) :
  S E Q st (.inv (fun a w=>∃ x' ν',pre x'/\m x' < m x/\Good E ν' (stI x') a w)::k):=by
 intro wf ν a w hG;obtain ⟨ν',hG'⟩:=h wf ν a w hG;exact ⟨x',ν',hp,hm,hG'⟩
end
mutual
def C.bd (n:Nat):C->Bool
 | .rv l=>decide (l < n)
 | .rp l _ _ _=>decide (l < n)
 | .bp l _=>decide (l < n)
 | .mp l=>decide (l < n)
 | .wv l _ _ _=>decide (l < n)
 | .agg cs=>C.bdL n cs
 | .tup cs=>C.bdL n cs
 | .g _ x=>C.bd n x
 | .clo _ cs=>C.bdL n cs
 | .bnd _ x=>C.bd n x
 | _=>true
def C.bdL (n:Nat):List C->Bool
 | []=>true
 | c::cs=>C.bd n c && C.bdL n cs
end
def rest (rs':List Res) (k:Nat):Bool:=
 match rs'[k]? with
 | none=>true
 | some .gone=>true
 | _=>false
theorem L9 {α:Type} {l:List α} {n k:Nat} {x:α} (hk:k < n) (h:l[k]?=some x):(l.take n)[k]?=some x:=by
 rw [List.getElem?_take,if_pos hk];exact h
theorem Z5 {α:Type} {l:List α} {n k:Nat} {x:α} (h:(l.take n)[k]?=some x):l[k]?=some x:=by
 rw [List.getElem?_take] at h;split at h
 ·exact h
 ·cases h
section
variable {ν:List Value} {w:World} {O:Nat->Prop}
mutual
theorem Den.take (n:Nat):∀ {c:C} {y:Value},c.bd n=true->Den ν w O c y->Den (ν.take n) w O c y
 | .v _,y,_,h=>by simpa only [Den] using h
 | .agg cs,y,hb,h=>by
  simp only [Den,C.bd] at h hb ⊢;obtain ⟨vs,h1,h2⟩:=h;exact ⟨vs,j6.takeν n hb h1,h2⟩
 | .tup cs,y,hb,h=>by
  simp only [Den,C.bd] at h hb ⊢;obtain ⟨vs,h1,h2⟩:=h;exact ⟨vs,j6.takeν n hb h1,h2⟩
 | .sl _ _,y,_,h=>by simpa only [Den] using h
 | .nl,y,_,h=>by simpa only [Den] using h
 | .ep _,y,_,h=>by simpa only [Den] using h
 | .bnd f x,y,hb,h=>by
  simp only [Den,C.bd] at h hb ⊢;obtain ⟨v,h1,h2⟩:=h;exact ⟨v,Den.take n hb h1,h2⟩
 | .clo f cs,y,hb,h=>by
  simp only [Den,C.bd] at h hb ⊢;obtain ⟨vs,h1,h2⟩:=h;exact ⟨vs,j6.takeν n hb h1,h2⟩
 | .bp l off,y,hb,h=>by
  simp only [Den,C.bd,c8D] at h hb ⊢;obtain ⟨b,h1,h2⟩:=h;exact ⟨b,L9 hb h1,h2⟩
 | .rv l,y,hb,h=>by
  simp only [Den,C.bd,c8D] at h hb ⊢;exact ⟨L9 hb h.1,h.2⟩
 | .rp l z i off,y,hb,h=>by
  simp only [Den,C.bd,c8D] at h hb ⊢;obtain ⟨b,n',c,h1,h2⟩:=h;exact ⟨b,n',c,L9 hb h1,h2⟩
 | .mp l,y,hb,h=>by
  simp only [Den,C.bd,c8D] at h hb ⊢;exact ⟨L9 hb h.1,h.2⟩
 | .wv l z lo m,y,hb,h=>by
  simp only [Den,C.bd,c8D] at h hb ⊢;obtain ⟨A,c,h1,h2,h2b,h3⟩:=h;refine ⟨A,c,h1,h2,h2b,fun h0=>?_⟩;obtain ⟨x,b,g1,g2⟩:=h3 h0;exact ⟨x,b,L9 hb g1,g2⟩
 | .g p x,y,hb,h=>by
  simp only [Den,C.bd] at h hb ⊢;exact ⟨fun hp=>Den.take n hb (h.1 hp),h.2⟩
 | .any _,y,_,h=>by simpa only [Den] using h
 | .junk,y,_,_=>by simp only [Den]
theorem j6.takeν (n:Nat):∀ {cs:List C} {vs:List Value},C.bdL n cs=true->j6 ν w O cs vs->j6 (ν.take n) w O cs vs
 | [],vs,_,h=>by simpa only [j6] using h
 | c::cs,vs,hb,h=>by
  simp only [j6,C.bdL,c8F] at h hb ⊢;obtain ⟨y,ys,e,h1,h2⟩:=h;exact ⟨y,ys,e,Den.take n hb.1 h1,j6.takeν n hb.2 h2⟩
end
theorem Keeps.sub {O':Nat->Prop} (h:∀ b,O' b->O b):Keeps O w O' w:=fun b hb hn=>⟨hb,fun h'=>hn (h b h'),rfl⟩
theorem c0A {e sz n:Nat} {y:Value} {es:List (List C)} {vs:List Value} (h:rowAt w e sz y n vs) (hn:es.length=n) (hl:∀ q ∈ es,q.length=sz) (hF:FzL w O es.flatten vs) (h1:∀ u ∈ vs,u.oneCell'=true)
  (hb:∀ b,D5 y=some b->b < w.heap.size/\¬ O b):Fz w O (.sl sz es) y:=by
 have hbound:∃ A c,y=.slice A n c/\n<=c/\c<=maxLen/\(0 < n->∃ g,A=some ⟨g,0,none⟩/\g < w.heap.size/\¬ O g):=by
  rcases h.2 with ⟨rfl,A,rfl⟩|⟨g,cap,cur,rfl,h0,hg,hnc,hcm,hcs,ht⟩
  ·exact ⟨A,0,rfl,c8B _,c8w _,fun h=>by omega⟩
  ·obtain ⟨b1,b2⟩:=hb g (by simp only [D5];rw [if_neg (by omega)]);exact ⟨_,cap,rfl,hnc,hcm,fun _=>⟨g,rfl,b1,b2⟩⟩
 obtain ⟨A,c,rfl,hc1,hc2,hA⟩:=hbound;subst hn;simp only [Fz];refine ⟨A,c,rfl,hc1,hc2,fun h0=>?_⟩;obtain ⟨g,rfl,b1,b2⟩:=hA h0;refine ⟨_,rfl,b1,b2,FzE.of fun k q hq=>⟨hl q (c8t hq),?_⟩⟩;have hseg:=a2X hl hq;have hsub:FzL w O q ((vs.drop (k*sz)).take sz):=by
  have:=(hF.drop (k*sz)).take sz;rwa [hseg] at this
 refine FzA.of hsub (fun u hu=>h1 u (List.mem_of_mem_drop (List.mem_of_mem_take hu))) fun i v hv=>?_;rw [List.getElem?_take] at hv;split at hv
 ·rw [c9e] at hv;rw [c8Z];exact h.cells _ v hv
 ·cases hv
end
structure Cut (av:Nat->Prop) (rs rs':List Res) (ν:List Value):Prop where
 sub:∀ b,OO av rs' (ν.take rs'.length) b->OO av rs ν b
 dead:∀ (k:Nat) (r:Res) (x:Value) (b:Nat),rest rs' k=true->rs[k]?=some r->ν[k]?=some x->fp r x b->¬ OO av rs' (ν.take rs'.length) b
def U1:List Res->List Res->Bool
 | [],_=>true
 | _::_,[]=>false
 | r'::rs',r::rs=>(match r',r with
  | .gone,_=>true
  | .box _ _,.box _ _=>true
  | .row _ _ _,.row _ _ _=>true
  | .map _ _,.map _ _=>true
  | _,_=>false) && U1 rs' rs
theorem a2u:∀ {rs' rs:List Res} {k:Nat} {r':Res},U1 rs' rs=true->rs'[k]?=some r'->∃ r,rs[k]?=some r/\(r'=.gone \/ ∀ x b,fp r' x b=fp r x b)
 | [],_,k,r',_,h=>by simp at h
 | _::_,[],_,_,h,_=>by simp [U1] at h
 | q'::rs',q::rs,0,r',h,hk=>by
  simp at hk;subst hk;simp only [U1,c8F] at h;refine ⟨q,rfl,?_⟩;have:=h.1;split at this
  ·exact .inl rfl
  ·exact .inr fun _ _=>rfl
  ·exact .inr fun _ _=>rfl
  ·exact .inr fun _ _=>rfl
  ·cases this
 | q'::rs',q::rs,k+1,r',h,hk=>by
  simp only [U1,c8F] at h;obtain ⟨r,h1,h2⟩:=a2u (k:=k) h.2 (by simpa using hk);exact ⟨r,by simpa using h1,h2⟩
theorem a9U:∀ {rs' rs:List Res},U1 rs' rs=true->rs'.length<=rs.length
 | [],_,_=>by simp
 | _::_,[],h=>by simp [U1] at h
 | _::rs',_::rs,h=>by simp only [U1,c8F] at h;simpa using a9U h.2
section
variable {av own0:Nat->Prop} {n0:Nat} {ν:List Value} {rs rs':List Res} {w:World}
theorem Cut.of (hR:RG av own0 n0 ν rs w) (hk:U1 rs' rs=true):Cut av rs rs' ν:=by
 have own:∀ b,owned rs' (ν.take rs'.length) b->∃ l r x,rest rs' l=false/\rs[l]?=some r/\ν[l]?=some x/\fp r x b:=by
  rintro b ⟨l,r',x,h1,h2,h3⟩;obtain ⟨r,hr,h⟩:=a2u hk h1;rcases h with rfl|h
  ·exact h3.elim
  ·refine ⟨l,r,x,?_,hr,Z5 h2,by rw [<- h];exact h3⟩;unfold rest;rw [h1];cases r'<;>first|rfl|exact h3.elim
 refine ⟨fun b hb=>?_,fun k r x b hd h1 h2 h3 hb=>?_⟩
 ·rcases hb with hb|hb
  ·exact .inl hb
  ·obtain ⟨l,r,x,_,h1,h2,h3⟩:=own b hb;exact .inr ⟨l,r,x,h1,h2,h3⟩
 ·rcases hb with hb|hb
  ·exact (hR.low b ⟨k,r,x,h1,h2,h3⟩).2.1 hb
  ·obtain ⟨l,r',x',hl,h4,h5,h6⟩:=own b hb;have hne:k ≠ l:=fun e=>by subst e;rw [hd] at hl;cases hl
   exact hR.dis k l r r' x x' b hne h1 h4 h2 h5 h3 h6
end
def Imp (rs rs':List Res) (c c':C):Prop:=∀ av own0 n0 ν w y,RG av own0 n0 ν rs w->Cut av rs rs' ν->Den ν w (OO av rs ν) c y->Den (ν.take rs'.length) w (OO av rs' (ν.take rs'.length)) c' y
def j3 (rs rs':List Res):List C->List C->Prop
 | [],[]=>True
 | c::cs,c'::cs'=>Imp rs rs' c c'/\j3 rs rs' cs cs'
 | _,_=>False
section
variable {rs rs':List Res}
theorem Imp.refl {c:C} (hb:c.bd rs'.length=true):Imp rs rs' c c:=fun _ _ _ _ _ _ _ hC h=>Den.take _ hb (Den.keep (Keeps.sub hC.sub) h)
theorem Imp.eq {c c':C} (e:c=c') (hb:c'.bd rs'.length=true):Imp rs rs' c c':=by subst e;exact Imp.refl hb
theorem Imp.junk {c:C}:Imp rs rs' c .junk:=fun _ _ _ _ _ _ _ _ _=>by simp only [Den]
theorem Imp.un {x x':C} (h:Imp rs rs' x x'):Imp rs rs' (.g true x) x':=fun av own0 n0 ν w y hR hC hd=>h av own0 n0 ν w y hR hC (by simp only [Den] at hd;exact hd.1 trivial)
theorem Imp.nil:Imp rs rs' (.v (.slice none 0 0)) .nl:=fun _ _ _ _ _ _ _ _ h=>by simp only [Den] at h ⊢;exact ⟨_,h⟩
theorem Imp.I9 {sz:Nat}:Imp rs rs' (.v (.slice none 0 0)) (.sl sz []):=fun _ _ _ _ _ _ _ _ h=>by
 simp only [Den,Fz] at h ⊢;exact ⟨none,0,h,c8B _,c8w _,fun h=>by simp at h⟩
theorem Imp.frz {k e sz:Nat} {es es':List (List C)} (hk:rs[k]?=some (.row e sz es)) (hd:rest rs' k=true) (he:es=es'):Imp rs rs' (.rv k) (.sl sz es'):=fun av own0 n0 ν w y hR hC h=>by
 subst he;simp only [Den] at h ⊢;obtain ⟨x,hx,hok⟩:=hR.res k _ hk;rw [hx] at h;obtain ⟨h,_⟩:=h;injection h with h;subst h;obtain ⟨hl,vs,hF,h1,hrow⟩:=hok;refine c0A hrow rfl hl (FzL.keep (Keeps.sub hC.sub) hF) h1 fun b hb=>?_;exact ⟨hR.lt hk hx hb,hC.dead k _ x b hd hk hx hb⟩
theorem Imp.win {k e sz n:Nat} {es:List (List C)} (hk:rs[k]?=some (.row e sz es)) (hn:n=es.length) (hb:k < rs'.length):Imp rs rs' (.rv k) (.wv k sz 0 n):=fun av own0 n0 ν w y hR hC h=>by
 subst hn;simp only [Den] at h ⊢;obtain ⟨x,hx,hok⟩:=hR.res k _ hk;have h0:=h.1;rw [hx] at h0;injection h0 with h0;subst h0;obtain ⟨hl,vs,hF,h1,hrow⟩:=hok;rcases hrow.2 with ⟨hn,A,hv⟩|⟨g,cap,cur,hv,h0,hg,hnc,hcm,_⟩
 ·exact ⟨A,0,by rw [hv,hn],by omega,c8w _,fun h=>by omega⟩
 ·exact ⟨_,cap,hv,hnc,hcm,fun _=>⟨x,g,L9 hb hx,by rw [hv];rfl,by rw [Nat.zero_mul],by rw [hv];show cap=0+cap;omega⟩⟩
theorem Imp.K5 {k e sz lo n:Nat} {es es':List (List C)} (hk:rs[k]?=some (.row e sz es)) (hd:rest rs' k=true) (hb:lo+n<=es.length) (he:(es.drop lo).take n=es'):Imp rs rs' (.wv k sz lo n) (.sl sz es'):=fun av own0 n0 ν w y hR hC h=>by
 subst he;simp only [Den] at h ⊢;simp only [Fz];obtain ⟨A,c,rfl,hc1,hcm,hA⟩:=h;have hlen:((es.drop lo).take n).length=n:=by rw [c8E,c9g];omega
 rw [hlen];refine ⟨A,c,rfl,hc1,hcm,fun h0=>?_⟩;obtain ⟨x,b,hx,hhead,rfl,_⟩:=hA (by omega);obtain ⟨x',hx',hok⟩:=hR.res k _ hk;rw [hx] at hx';injection hx' with hx';subst hx';obtain ⟨hl,vs,hF,h1,hrow⟩:=hok;rcases hrow.2 with ⟨hn,_⟩|⟨g,cap,cur,hv,h0',hg,hnc,_⟩
 ·omega
 ·subst hv;simp only [a4d,Option.some.injEq] at hhead;subst hhead;have hfp:fp (.row e sz es) (.slice (some ⟨g,0,none⟩) es.length cap) g:=by simp only [fp,D5];rw [if_neg (by omega)]
  refine ⟨_,rfl,hR.lt hk hx hfp,hC.dead k _ _ g hd hk hx hfp,FzE.of fun i q hq=>?_⟩;rw [List.getElem?_take] at hq;split at hq
  ·rw [c9e] at hq;refine ⟨hl q (c8t hq),?_⟩;have hseg:=a2X hl hq;have hF':=FzL.keep (Keeps.sub hC.sub) hF;have hsub:FzL w (OO av rs' (ν.take rs'.length)) q ((vs.drop ((lo+i)*sz)).take sz):=by
    have:=(hF'.drop ((lo+i)*sz)).take sz;rwa [hseg] at this
   refine FzA.of hsub (fun u hu=>h1 u (List.mem_of_mem_drop (List.mem_of_mem_take hu))) fun j v hv=>?_;rw [List.getElem?_take] at hv;split at hv
   ·rw [c9e] at hv;have:=hrow.cells _ v hv;rw [I7] at this ⊢;rw [<- this];congr 2;rw [c8Z,Nat.add_mul];omega
   ·cases hv
  ·cases hq
theorem Imp.fbx {k off t:Nat} {cs cs':List C} (hk:rs[k]?=some (.box t cs)) (hd:rest rs' k=true) (hc:j3 rs rs' cs cs') (hcl:C.clL cs'=true) (ho:off=0):Imp rs rs' (.bp k off) (.ep cs'):=fun av own0 n0 ν w y hR hC h=>by
 subst ho;simp only [Den] at h ⊢;obtain ⟨x,hx,hok⟩:=hR.res k _ hk;obtain ⟨b,h,rfl⟩:=h;rw [hx] at h;injection h with h;subst h;obtain ⟨b',vs,hb',hD,h1,hh⟩:=hok;cases hb';have hF:FzL w (OO av rs' (ν.take rs'.length)) cs' vs:=by
  refine j6.fz (ν:=ν.take rs'.length) hcl ?_;clear hk hh h1 hcl
  induction cs generalizing cs' vs with
  | nil=>cases cs'<;>first|exact hD|exact hc.elim
  | cons c cs ih=>
   cases cs' with
   | nil=>exact hc.elim
   | cons c' cs'=>
    simp only [j6] at hD ⊢;obtain ⟨y,ys,rfl,g1,g2⟩:=hD;exact ⟨y,ys,rfl,hc.1 av own0 n0 ν w y hR hC g1,ih hc.2 _ g2⟩
 simp only [Fz];refine ⟨_,rfl,hR.lt hk hx rfl,hC.dead k _ _ b hd hk hx rfl,FzA.of hF h1 fun i v hv=>?_⟩;rw [I7,c8Z,c8Z,cell_of_row _ b i _ _ _ hh];simpa using hv
theorem j3.den {cs cs':List C} {av own0:Nat->Prop} {n0:Nat} {ν:List Value} {w:World} {vs:List Value} (h:j3 rs rs' cs cs') (hR:RG av own0 n0 ν rs w) (hC:Cut av rs rs' ν) (hd:j6 ν w (OO av rs ν) cs vs) :
  j6 (ν.take rs'.length) w (OO av rs' (ν.take rs'.length)) cs' vs:=by
 induction cs generalizing cs' vs with
 | nil=>cases cs'<;>first|exact hd|exact h.elim
 | cons c cs ih=>
  cases cs' with
  | nil=>exact h.elim
  | cons c' cs'=>
   simp only [j6] at hd ⊢;obtain ⟨y,ys,rfl,g1,g2⟩:=hd;exact ⟨y,ys,rfl,h.1 av own0 n0 ν w y hR hC g1,ih h.2 g2⟩
theorem Imp.agg {cs cs':List C} (h:j3 rs rs' cs cs'):Imp rs rs' (.agg cs) (.agg cs'):=fun av own0 n0 ν w y hR hC hd=>by
 simp only [Den] at hd ⊢;obtain ⟨vs,h1,h2⟩:=hd;exact ⟨vs,h.den hR hC h1,h2⟩
theorem Imp.tup {cs cs':List C} (h:j3 rs rs' cs cs'):Imp rs rs' (.tup cs) (.tup cs'):=fun av own0 n0 ν w y hR hC hd=>by
 simp only [Den] at hd ⊢;obtain ⟨vs,h1,h2⟩:=hd;exact ⟨vs,h.den hR hC h1,h2⟩
theorem Imp.clo {f:Nat} {cs cs':List C} (h:j3 rs rs' cs cs'):Imp rs rs' (.clo f cs) (.clo f cs'):=fun av own0 n0 ν w y hR hC hd=>by
 simp only [Den] at hd ⊢;obtain ⟨vs,h1,h2⟩:=hd;exact ⟨vs,h.den hR hC h1,h2⟩
theorem Imp.g {p:Bool} {x x':C} (h:Imp rs rs' x x'):Imp rs rs' (.g p x) (.g p x'):=fun av own0 n0 ν w y hR hC hd=>by
 simp only [Den] at hd ⊢;exact ⟨fun hp=>h av own0 n0 ν w y hR hC (hd.1 hp),hd.2⟩
theorem j3.nil:j3 rs rs' [] []:=trivial
theorem j3.cons {c c':C} {cs cs':List C} (h:Imp rs rs' c c') (hs:j3 rs rs' cs cs'):j3 rs rs' (c::cs) (c'::cs'):=⟨h,hs⟩
theorem j3.refl {cs:List C} (hb:C.bdL rs'.length cs=true):j3 rs rs' cs cs:=by
 induction cs with
 | nil=>trivial
 | cons c cs ih=>simp only [C.bdL,c8F] at hb;exact ⟨Imp.refl hb.1,ih hb.2⟩
theorem j3.eq {cs cs':List C} (e:cs=cs') (hb:C.bdL rs'.length cs'=true):j3 rs rs' cs cs':=by subst e;exact j3.refl hb
end
def R3 (rs rs':List Res) (fr:List (Nat × C)):List (Nat × C)->Prop
 | []=>True
 | (t,s)::r=>Imp rs rs' (slot fr t) s/\R3 rs rs' fr r
theorem R3.nil {rs rs':List Res} {fr:List (Nat × C)}:R3 rs rs' fr []:=trivial
theorem R3.cons {rs rs':List Res} {fr r:List (Nat × C)} {t:Nat} {s:C} (h:Imp rs rs' (slot fr t) s) (hr:R3 rs rs' fr r):R3 rs rs' fr ((t,s)::r):=⟨h,hr⟩
inductive RI (rs rs':List Res):Res->Res->Prop where
 | gone (r:Res):RI rs rs' r .gone
 | row (e sz:Nat) (es es':List (List C)) (h:es=es'):RI rs rs' (.row e sz es) (.row e sz es')
 | map (s:Bool) (es es':List (Value × Value)) (h:es=es'):RI rs rs' (.map s es) (.map s es')
 | box (t:TypeId) (cs cs':List C) (h:j3 rs rs' cs cs'):RI rs rs' (.box t cs) (.box t cs')
def D9 (rs rs':List Res):List Res->List Res->Prop
 | [],_=>True
 | _::_,[]=>False
 | r'::l',r::l=>RI rs rs' r r'/\D9 rs rs' l' l
theorem D9.nil {rs rs' l:List Res}:D9 rs rs' [] l:=by cases l<;>trivial
theorem D9.cons {rs rs' l l':List Res} {r r':Res} (h:RI rs rs' r r') (hl:D9 rs rs' l' l):D9 rs rs' (r'::l') (r::l):=⟨h,hl⟩
theorem a2c {rs rs':List Res}:∀ {l' l:List Res},D9 rs rs' l' l->U1 l' l=true
 | [],_,_=>by simp [U1]
 | _::_,[],h=>h.elim
 | r'::l',r::l,h=>by
  simp only [U1,c8F];exact ⟨by cases h.1<;>rfl,a2c h.2⟩
theorem b3Y {rs rs':List Res}:∀ {l' l:List Res} {k:Nat} {r':Res},D9 rs rs' l' l->l'[k]?=some r'->∃ r,l[k]?=some r/\RI rs rs' r r'
 | [],_,k,r',_,h=>by simp at h
 | _::_,[],_,_,h,_=>h.elim
 | r0::l',r::l,0,r',h,hk=>by
  simp at hk;subst hk;exact ⟨r,rfl,h.1⟩
 | r0::l',r::l,k+1,r',h,hk=>by
  obtain ⟨q,h1,h2⟩:=b3Y (k:=k) h.2 (by simpa using hk);exact ⟨q,by simpa using h1,h2⟩
theorem b1T {rs rs':List Res} {fr:List (Nat × C)}:∀ {fr':List (Nat × C)} (t:Nat),R3 rs rs' fr fr'->Imp rs rs' (slot fr t) (slot fr' t)
 | [],t,_=>Imp.junk
 | (t',s)::r,t,h=>by
  simp only [slot];cases hb:(t' == t) with
  | true=>
   have:t'=t:=by simpa using hb
   subst this;exact h.1
  | false=>exact b1T t h.2
theorem RG.weak {av own0:Nat->Prop} {n0:Nat} {ν:List Value} {rs rs':List Res} {w:World} (hR:RG av own0 n0 ν rs w) (h:D9 rs rs' rs' rs):RG av own0 n0 (ν.take rs'.length) rs' w:=by
 have hk:=a2c h;have hC:Cut av rs rs' ν:=Cut.of hR hk;have hlen:=a9U hk;refine ⟨by rw [c8E,hR.len];omega,fun k r' hr'=>?_,fun k l r r' x x' b hne h1 h2 h3 h4 h5 h6=>?_,fun b hb=>?_,hR.av,hR.n0⟩
 ·obtain ⟨r,hr,hI⟩:=b3Y h hr';obtain ⟨x,hx,hok⟩:=hR.res k r hr;have hlt:k < rs'.length:=(c8v.1 hr').1;refine ⟨x,L9 hlt hx,?_⟩;cases hI with
  | gone=>trivial
  | row e sz es es' he=>
   subst he;obtain ⟨g1,vs,g2,g3⟩:=hok;exact ⟨g1,vs,FzL.keep (Keeps.sub hC.sub) g2,g3⟩
  | map s es es' he=>subst he;exact hok
  | box t cs cs' he=>
   obtain ⟨b,vs,g1,g2,g3⟩:=hok;exact ⟨b,vs,g1,he.den hR hC g2,g3⟩
 ·obtain ⟨q,hq,hI⟩:=a2u hk h1;obtain ⟨q',hq',hI'⟩:=a2u hk h2;rcases hI with rfl|hI
  ·exact h5.elim
  rcases hI' with rfl|hI'
  ·exact h6.elim
  rw [hI] at h5;rw [hI'] at h6;exact hR.dis k l q q' x x' b hne hq hq' (Z5 h3) (Z5 h4) h5 h6
 ·obtain ⟨l,r',x,h1,h2,h3⟩:=hb;obtain ⟨r,hr,hI⟩:=a2u hk h1;rcases hI with rfl|hI
  ·exact h3.elim
  ·exact hR.low b ⟨l,r,x,hr,Z5 h2,by rw [<- hI];exact h3⟩
theorem Ent.mk {E:Ctx} {st:St} (fr':List (Nat × C)) (rs':List Res) (h1:R3 st.rs rs' st.fr fr') (h2:D9 st.rs rs' rs' st.rs) (h3:E.nu0.length<=rs'.length):Ent E st ⟨fr',rs'⟩:=by
 intro wf ν a w hG;exact ⟨ν.take rs'.length,hG.dfr,hG.size,fun t=>b1T t h1 _ _ _ ν w _ hG.rg (Cut.of hG.rg (a2c h2)) (hG.fr t),hG.rg.weak h2,hG.frm,fun k x hk hx=>L9 (c8U (c8v.1 hx).1 h3) (hG.nu k x hk hx)⟩
theorem Ent.refl {E:Ctx} {st:St}:Ent E st st:=fun _ ν _ _ hG=>⟨ν,hG⟩
theorem Ent.trans {E:Ctx} {st st' st'':St} (h:Ent E st st') (h':Ent E st' st''):Ent E st st'':=fun wf ν a w hG=>let ⟨ν',hG'⟩:=h wf ν a w hG;h' wf ν' a w hG'
def isNil:C->Bool
 | .v (.slice none 0 0)=>true
 | .nl=>true
 | _=>false
theorem b1W {c:C} {ν:List Value} {w:World} {O:Nat->Prop} {y:Value} (h:isNil c=true) (hd:Den ν w O c y):∃ A,y=.slice A 0 0:=by
 unfold isNil at h;split at h
 ·simp only [Den] at hd;exact ⟨none,hd⟩
 ·simpa only [Den] using hd
 ·cases h
theorem b6n {av own0:Nat->Prop} {n0:Nat} {ν:List Value} {rs:List Res} {w:World} (hR:RG av own0 n0 ν rs w) (A:Option Addr) (e sz:Nat) :
  RG av own0 n0 (ν++[.slice A 0 0]) (rs++[.row e sz []]) w/\Mv rs ν w [] (rs++[.row e sz []]) (ν++[.slice A 0 0]) w:=by
 refine hR.add (Below.refl _ _) (fun b hb=>?_) fun _ _=>?_
 ·simp only [fp] at hb;cases A<;>simp [D5] at hb
 ·exact ⟨(fun c hc=>by cases hc),[],by simp [FzL],(fun u hu=>by cases hu),by simp,Or.inl ⟨rfl,A,rfl⟩⟩
theorem Ent.pack {E:Ctx} {fr:List (Nat × C)} {rs:List Res} (t e sz:Nat) (h:isNil (slot fr t)=true):Ent E ⟨fr,rs⟩ ⟨(t,.rv rs.length)::fr,rs++[.row e sz []]⟩:=by
 intro wf ν a w hG;obtain ⟨A,hA⟩:=b1W h (hG.fr t);obtain ⟨h1,h2⟩:=b6n hG.rg A e sz;refine ⟨ν++[.slice A 0 0],hG.dfr,hG.size,fun t'=>?_,h1,hG.frm,fun k x hk hx=>h2.nu k x (by simp) (hG.nu k x hk hx)⟩
 show Den _ w (OO E.av (rs++[.row e sz []]) (ν++[.slice A 0 0])) (slot ((t,.rv rs.length)::fr) t') _;simp only [slot];cases hb:(t == t') with
 | true=>
  have:t=t':=by simpa using hb
  subst this;simp only [cond_true,Den];rw [hA];refine ⟨?_,A,0,0,rfl⟩;have:=hG.rg.len;rw [<- this];simp
 | false=>exact Den.nu h2.nu (fun k hk=>by cases hk) (Den.keep h2.keeps (hG.fr t'))
theorem Ent.a6S {E:Ctx} {fr:List (Nat × C)} {rs:List Res} (k j e sz:Nat) {t:TypeId} {cs:List C} {c:C} (hk:rs[k]?=some (.box t cs)) (hj:cs[j]?=some c) (h:isNil c=true) :
  Ent E ⟨fr,rs⟩ ⟨fr,(rs++[Res.row e sz []]).set k (.box t (cs.set j (.rv rs.length)))⟩:=by
 intro wf ν a w hG;obtain ⟨x,hx,b,vs,rfl,hD,h1,hh⟩:=hG.rg.res k _ hk;obtain ⟨y,hy,hd⟩:=hD.get hj;obtain ⟨A,rfl⟩:=b1W h hd;obtain ⟨g1,g2⟩:=b6n hG.rg A e sz;have hkl:k < rs.length:=(c8v.1 hk).1;have hkl':k < ν.length:=by rw [hG.rg.len];exact hkl
 have hk':(rs++[Res.row e sz []])[k]?=some (.box t cs):=by rw [c8H hkl];exact hk
 have hx':(ν++[.slice A 0 0])[k]?=some (.pointer (some ⟨b,0,none⟩)):=by rw [c8H hkl'];exact hx
 have hu:=g1.upd (r':=.box t (cs.set j (.rv rs.length))) hk' hx' ⟨rfl,rfl,rfl,c8B _,fun _ _ _=>rfl⟩ (fun _ h=>h) fun hkp=>by
  refine ⟨b,vs,rfl,?_,h1,hh⟩;have hD':j6 (ν++[.slice A 0 0]) w (OO E.av ((rs++[Res.row e sz []]).set k (.box t (cs.set j (.rv rs.length)))) (ν++[.slice A 0 0])) cs vs:=by
   have:=j6.keep hkp (j6.y8 g2.nu (j6.keep (g2.keeps (av:=E.av)) hD));rwa [show cs.map (C.y8 [])=cs from List.map_id' cs] at this
  have key:∀ (cs:List C) (vs:List Value) (j:Nat) (c':C) (O:Nat->Prop) (ν:List Value),j6 ν w O cs vs->(∀ y,vs[j]?=some y->Den ν w O c' y)->j6 ν w O (cs.set j c') vs:=by
   intro cs
   induction cs with
   | nil=>intro vs j c' O ν h _;simpa using h
   | cons c cs ih=>
    intro vs j c' O ν h h2;simp only [j6] at h;obtain ⟨y,ys,rfl,k1,k2⟩:=h;cases j with
    | zero=>exact ⟨y,ys,rfl,h2 y rfl,k2⟩
    | succ j=>exact ⟨y,ys,rfl,k1,ih ys j c' O ν k2 fun z hz=>h2 z (by simpa using hz)⟩
  refine key cs vs j _ _ _ hD' fun z hz=>?_;rw [hy] at hz;injection hz with hz;subst hz;simp only [Den];refine ⟨?_,A,0,0,rfl⟩;have:=hG.rg.len;rw [<- this];simp
 refine ⟨ν++[.slice A 0 0],hG.dfr,hG.size,fun t'=>?_,hu.1,hG.frm,fun k x hk hx=>g2.nu k x (by simp) (hG.nu k x hk hx)⟩;exact Den.keep hu.2.keeps (Den.nu g2.nu (fun k hk=>by cases hk) (Den.keep g2.keeps (hG.fr t')))
theorem Ent.shrink {E:Ctx} {fr:List (Nat × C)} {rs:List Res} (t k:Nat) {e sz m:Nat} {es:List (List C)} (ht:slot fr t=.wv k sz 0 m) (hk:rs[k]?=some (.row e sz es)) (hm:m<=es.length) (hp:a4u E [k]) :
  Ent E ⟨fr,rs⟩ ⟨(t,.rv k)::a0m [k] fr,a1j [k] (rs.set k (.row e sz (es.take m)))⟩:=by
 intro wf ν a w hG;have hd:=hG.fr t;rw [show slot (St.mk fr rs).fr t=.wv k sz 0 m from ht] at hd;simp only [Den] at hd;obtain ⟨A,c,hy,hnc,hcm,hA⟩:=hd;obtain ⟨x,hx,hok⟩:=hG.rg.res k _ hk;obtain ⟨hl,vs,hF,h1,hrow⟩:=hok;have hkl:k < ν.length:=(c8v.1 hx).1;have key:rowAt w e sz (.slice A m c) m (vs.take (m*sz))/\∀ b,D5 (.slice A m c)=some b->D5 x=some b:=by
  have hvl:=hrow.1;have hms:m*sz<=es.length*sz:=c8X _ hm;have hvt:(vs.take (m*sz)).length=m*sz:=by rw [c8E];omega
  rcases c8Q c with h0|h0
  ·subst h0;have:m=0:=by omega
   subst this;refine ⟨⟨hvt,.inl ⟨rfl,A,rfl⟩⟩,fun b hb=>?_⟩;cases A<;>simp [D5] at hb
  ·obtain ⟨x',b,hx',hhead,rfl,hcap⟩:=hA h0;rw [hx] at hx';injection hx' with hx';subst hx';rcases hrow.2 with ⟨hn,A',rfl⟩|⟨g,cap,cur,rfl,g0,hg,hnc',hcm',hcs,htk⟩
   ·simp only [capOf] at hcap;omega
   ·simp only [capOf] at hcap;simp only [a4d,Option.some.injEq] at hhead;subst hhead;have hcc:cap=c:=by omega
    subst hcc;refine ⟨⟨hvt,.inr ⟨g,cap,cur,by rw [Nat.zero_mul],g0,hg,hnc,hcm,hcs,?_⟩⟩,fun b hb=>?_⟩
    ·rw [<- htk,List.take_take,Nat.min_eq_left hms]
    ·simp only [D5] at hb ⊢;rw [if_neg (by omega)] at hb ⊢;exact hb
 obtain ⟨hrow',hfp⟩:=key;obtain ⟨hR',hM⟩:=hG.rg.b7H (pk:=[k]) (x':=.slice A m c) (r':=.row e sz (es.take m)) hk hx ⟨rfl,rfl,rfl,c8B _,fun _ _ _=>rfl⟩
  (fun l z hl' hz=>by rw [List.getElem?_set_ne (fun e=>hl' (by simp [e]))];exact hz)
  (fun b hb=>.inl (hfp b hb))
  (fun hkp=>by
   refine ⟨fun q hq=>hl q (List.mem_of_mem_take hq),vs.take (m*sz),?_,fun u hu=>h1 u (List.mem_of_mem_take hu),?_⟩
   ·rw [a5F hl];exact (FzL.keep hkp hF).take _
   ·rw [c8E,Nat.min_eq_left hm];exact hrow')
 have hG':=hG.mv hR' hM hp;refine ⟨ν.set k (.slice A m c),hG'.dfr,hG'.size,fun t'=>?_,hG'.rg,hG'.frm,hG'.nu⟩
 show Den _ w (OO E.av (a1j [k] (rs.set k (.row e sz (es.take m)))) (ν.set k (.slice A m c))) (slot ((t,.rv k)::a0m [k] fr) t') _;simp only [slot];cases hb:(t == t') with
 | true=>
  have:t=t':=by simpa using hb
  subst this;simp only [cond_true,Den];rw [hy];refine ⟨?_,A,m,c,rfl⟩;rw [List.getElem?_set];simp [hkl]
 | false=>
  simp only [cond_false];rw [a4D];exact hG'.fr t'
def j4:Nat->List C->List (Nat × C)
 | _,[]=>[]
 | n,s::r=>(n,s)::j4 (n+1) r
theorem b1A:∀ (n:Nat) (cs:List C) (t:Nat),slot (j4 n cs) t=if t < n then .junk else (cs[t-n]?).getD .junk
 | n,[],t=>by simp [j4,slot]
 | n,s::r,t=>by
  simp only [j4,slot];by_cases h:n=t
  ·subst h;simp
  ·have:(n == t)=false:=by simpa using h
   rw [this];simp only [cond_false];rw [b1A (n+1) r t];by_cases h2:t < n
   ·rw [if_pos (by omega),if_pos h2]
   ·rw [if_neg (by omega),if_neg h2];have:t-n=(t-(n+1))+1:=by omega
    rw [this];rfl
def one (vs:List Value):Value:=
 match vs with
 | [v]=>v
 | vs=>.tuple vs.toArray
def a5T:List C->C
 | [c]=>c
 | cs=>.tup cs
def D6 (fr:List (Nat × C)) (rs:List Res):List RV->(List C->Prop)->Prop
 | [],K=>K []
 | .tmp t::l,K=>D6 fr rs l fun cs=>K (slot fr t::cs)
 | .cell t agg sz::l,K=>a3Q rs agg sz (slot fr t) fun c=>D6 fr rs l fun cs=>K (c::cs)
def a2x (tmps:Array Value):ResultVar->Go.Sem Value
 | .tmp t=>pure (tmps.getD t undef)
 | .cell a t=>do loadVar t (<- asAddr (tmps.getD a undef))
theorem b7J (fn:Func) (tmps:Array Value):results fn tmps=(do
  let vs <- fn.results.mapM (a2x tmps)
  pure (if h:vs.size=1 then vs[0] else .tuple vs)):=by
 unfold results;congr 1
section
variable {fr:List (Nat × C)} {rs:List Res}
theorem a7W:∀ {rvs:List RV} {K:List C->Prop},D6 fr rs rvs K->∃ cs,K cs/\∀ (P:Program) (ν:List Value) (w:World) (O:Nat->Prop) (tmps:Array Value) (l:List ResultVar),HR ν w O rs->(∀ t,Den ν w O (slot fr t) (tmps.getD t undef)) ->
 U4 P l=some rvs->∃ vs,j6 ν w O cs vs/\(l.mapM (a2x tmps)).run P w=.ok vs w
 | [],K,h=>⟨[],h,fun P ν w O tmps l _ _ hl=>⟨[],by simp [j6],by
  cases l with
  | nil=>simp
  | cons r l=>
   exfalso;cases r with
   | tmp t=>simp only [U4] at hl;split at hl<;>simp at hl
   | cell a t=>simp only [U4] at hl;split at hl<;>simp at hl⟩⟩
 | .tmp t::rvs,K,h=>by
  obtain ⟨cs,hk,hall⟩:=a7W (rvs:=rvs) h;refine ⟨_,hk,fun P ν w O tmps l hR hF hl=>?_⟩;cases l with
  | nil=>simp [U4] at hl
  | cons r l=>
   cases r with
   | tmp t'=>
    simp only [U4] at hl;split at hl
    ·rename_i l' hl';injection hl with hl;injection hl with e1 e2;injection e1 with e1;subst e1 e2;obtain ⟨vs,h1,h2⟩:=hall P ν w O tmps l hR hF hl';refine ⟨_::vs,⟨_,vs,rfl,hF t',h1⟩,?_⟩;rw [List.mapM_cons];simp only [a2x,Sem.run_bind,Sem.run_pure,Result.andThen_ok];rw [h2];rfl
    ·cases hl
   | cell a t=>
    simp only [U4] at hl;split at hl
    ·injection hl with hl;injection hl with e1 e2;cases e1
    ·cases hl
 | .cell t agg sz::rvs,K,h=>by
  obtain ⟨c,hc,hld⟩:=a9a h;obtain ⟨cs,hk,hall⟩:=a7W (rvs:=rvs) hc;refine ⟨_,hk,fun P ν w O tmps l hR hF hl=>?_⟩;cases l with
  | nil=>simp [U4] at hl
  | cons r l=>
   cases r with
   | tmp t'=>
    simp only [U4] at hl;split at hl
    ·injection hl with hl;injection hl with e1 e2;cases e1
    ·cases hl
   | cell a ty=>
    simp only [U4] at hl;split at hl
    ·rename_i i d l' hi hd hl';injection hl with hl;injection hl with e1 e2;injection e1 with e1 e3 e4;subst e1 e2;obtain ⟨y,hy,hrun⟩:=hld P ty i d ν w O (tmps.getD a undef) hi hd e3 e4 hR (hF a);obtain ⟨vs,h1,h2⟩:=hall P ν w O tmps l hR hF hl';refine ⟨y::vs,⟨y,vs,rfl,hy,h1⟩,?_⟩;rw [List.mapM_cons];have hrd:(a2x tmps (.cell a ty)).run P w=.ok y w:=by
      simp only [a2x];revert hrun;generalize tmps.getD a undef=x;intro hrun;revert hrun;cases x with
      | pointer p=>
       cases p with
       | some ad=>intro hrun;simpa [Instr.loadAt,Instr.sureAddr,asAddr] using hrun
       | none=>intro hrun;simp [Instr.loadAt,Instr.sureAddr,runtimePanic] at hrun
      | _=>intro hrun;simp [Instr.loadAt,Instr.sureAddr] at hrun
     simp only [Sem.run_bind,hrd,Result.andThen_ok];rw [h2];rfl
    ·cases hl
end
def Fin (P:Program) (rvs:List RV) (R:Value->World->Prop):Exit->Act->World->Prop
 | .normal,a,w=>a.defers=[]/\∀ l,U4 P l=some rvs->∃ vs,(l.mapM (a2x a.tmps)).run P w=.ok vs w/\R (one vs) w
 | .ret,a,w=>a.defers=[]/\∀ l,U4 P l=some rvs->∃ vs,(l.mapM (a2x a.tmps)).run P w=.ok vs w/\R (one vs) w
 | _,_,_=>False
def p8 (E:Ctx) (rs:List Res) (R:Value->World->Prop) (cs:List C):Prop:=Wf E->∀ ν w y,RG E.av E.own0 E.w0.heap.size ν rs w->Frm E.own0 E.w0 w->Y5 E.pk0 E.nu0 ν->Den ν w (OO E.av rs ν) (a5T cs) y->R y w
theorem c0S {ν:List Value} {w:World} {O:Nat->Prop} {cs:List C} {vs:List Value} (h:j6 ν w O cs vs):Den ν w O (a5T cs) (one vs):=by
 have hl:=h.length
 match cs,vs with
 | [],[]=>exact ⟨[],h,rfl⟩
 | [c],[v]=>
  simp only [j6] at h;obtain ⟨y,ys,e,h1,rfl⟩:=h;injection e with e1 e2;subst e1;exact h1
 | c::c'::cs,v::v'::vs=>exact ⟨_,h,rfl⟩
 | [],_::_=>simp at hl
 | [_],[]=>simp at hl
 | [_],_::_::_=>simp at hl
 | _::_::_,[]=>simp at hl
 | _::_::_,[_]=>simp at hl
theorem b2T {E:Ctx} {st:St} {rvs:List RV} {R:Value->World->Prop} (h:D6 st.fr st.rs rvs (p8 E st.rs R)) (wf:Wf E) {ν:List Value} {a:Act} {w:World} (hG:Good E ν st a w) :
  a.defers=[]/\∀ l,U4 E.P l=some rvs->∃ vs,(l.mapM (a2x a.tmps)).run E.P w=.ok vs w/\R (one vs) w:=by
 obtain ⟨cs,hk,hall⟩:=a7W h;refine ⟨hG.dfr,fun l hl=>?_⟩;obtain ⟨vs,h1,h2⟩:=hall E.P ν w (OO E.av st.rs ν) a.tmps l hG.rg.hr hG.fr hl;exact ⟨vs,h2,hk wf ν w _ hG.rg hG.frm hG.nu (c0S h1)⟩
theorem S.done {E:Ctx} {st:St} {k:List It} {rvs:List RV} {R:Value->World->Prop} (h:D6 st.fr st.rs rvs (p8 E st.rs R)):S E (Fin E.P rvs R) st (.code .ret::k):=
 S.ret fun wf _ _ _ hG=>b2T h wf hG
theorem S.end_ {E:Ctx} {st:St} {rvs:List RV} {R:Value->World->Prop} (h:D6 st.fr st.rs rvs (p8 E st.rs R)):S E (Fin E.P rvs R) st []:=
 S.nil fun wf _ _ _ hG=>b2T h wf hG
def Out (E:Ctx) (r:C) (y:Value) (w:World):Prop:=Below E.w0.heap.size E.w0 w/\Fz w E.av r y
theorem p8.out {E:Ctx} (hown:E.own0=fun _=>False) {rs:List Res} {cs:List C} {r:C} (h:Imp rs [] (a5T cs) r) (hcl:r.cl=true):p8 E rs (Out E r) cs:=by
 intro wf ν w y hR hF _ hd;have hC:Cut E.av rs [] ν:=Cut.of hR (by simp [U1]);have h1:=h E.av E.own0 E.w0.heap.size ν w y hR hC hd;refine ⟨⟨hF.os,hF.tape,hF.output,hF.size,fun b hb=>hF.block b hb (by rw [hown];exact fun h=>h)⟩,Fz.keep (Keeps.sub fun b hb=>.inl hb) (Den.fz hcl h1)⟩
def b4N (E:Ctx) (rs':List Res) (s:C) (y:Value) (w:World):Prop:=
 ∃ ν',RG E.av E.own0 E.w0.heap.size ν' rs' w/\Frm E.own0 E.w0 w/\Y5 E.pk0 E.nu0 ν'/\Den ν' w (OO E.av rs' ν') s y
theorem p8.own {E:Ctx} {rs:List Res} {cs:List C} {s:C} (h:a5T cs=s):p8 E rs (b4N E rs s) cs:=by
 subst h;exact fun wf ν w y hR hF hN hd=>⟨ν,hR,hF,hN,hd⟩
theorem p8.P6 {E:Ctx} {rs rs':List Res} {cs:List C} {s:C} (h:Imp rs rs' (a5T cs) s) (h2:D9 rs rs' rs' rs) (h3:E.nu0.length<=rs'.length):p8 E rs (b4N E rs' s) cs:=
 fun wf ν w y hR hF hN hd=>⟨ν.take rs'.length,hR.weak h2,hF,fun k x hk hx=>L9 (c8U (c8v.1 hx).1 h3) (hN k x hk hx),h _ _ _ ν w y hR (Cut.of hR (a2c h2)) hd⟩
theorem b4w {E:Ctx} {f:Nat} {fn:Func} {ir:a4V} {args:List Value} {w:World} {R:Value->World->Prop} (hf:E.P.funcs[f]?=some fn) (hc:a2p E.eff E.P fn=some ir) (hN:E.N=ir.ntmps) (hw:E.w0=w) (wf:Wf E)
  (rs:List Res) (hrg:RG E.av E.own0 w.heap.size E.nu0 rs w) (cs:List C) (hargs:j6 E.nu0 w (OO E.av rs E.nu0) cs args) (hn:cs.length<=ir.ntmps)
  (h:S E (Fin E.P ir.results R) ⟨j4 0 cs,rs⟩ [.code ir.body]):Calls E.P f args.toArray w fun e w'=>∃ y,e=.returned y/\R y w':=by
 unfold a2p at hc;split at hc
 ·rename_i c rvs hb hrs;split at hc
  ·rename_i ic hic;injection hc with hc;subst hc;refine calls_of_wp hf hb ?_;have hal:=hargs.length;have hn':args.length<=fn.ntmps:=by rw [hal];exact hn
   have hG:Good E E.nu0 ⟨j4 0 cs,rs⟩ { tmps:=args.toArray++Array.replicate (fn.ntmps-args.toArray.size) undef,defers:=[] } w:=by
    refine ⟨rfl,?_,fun t=>?_,by rw [hw];exact hrg,by rw [hw];exact ⟨rfl,rfl,rfl,c8B _,fun _ _ _=>rfl⟩,fun k x _ hx=>hx⟩
    ·simp [hN];omega
    ·show Den E.nu0 w _ (slot (j4 0 cs) t) _;rw [b1A];simp only [Nat.not_lt_zero,if_false,Nat.sub_zero];cases hs:cs[t]? with
     | none=>simp [Den]
     | some s=>
      obtain ⟨y,hy,hd⟩:=hargs.get hs;have hlt:t < args.length:=(c8v.1 hy).1;have:(args.toArray++Array.replicate (fn.ntmps-args.toArray.size) undef).getD t undef=y:=by
       rw [Array.getD_eq_getD_getElem?,Array.getElem?_append_left (by simpa using hlt)];simp [hy]
      rw [this];exact hd
   refine wp_mono (h wf E.nu0 _ w hG c (by rw [hN];exact hic)) fun e a' w' hq=>?_;have fin:∀ (a':Act) (w':World),(a'.defers=[]/\∀ l,U4 E.P l=some rvs->∃ vs,(l.mapM (a2x a'.tmps)).run E.P w'=.ok vs w'/\R (one vs) w')->a'.defers=[]/\∃ v,(results fn a'.tmps).run E.P w'=.ok v w'/\∃ y,Ending.returned v=.returned y/\R y w':=by
    intro a' w' ⟨h1,h2⟩;obtain ⟨vs,h3,h4⟩:=h2 _ hrs;refine ⟨h1,one vs,?_,_,rfl,h4⟩;rw [b7J,Array.mapM_eq_mapM_toList,Sem.run_bind,Sem.run_map,h3];simp only [Result.andThen_ok,Sem.run_pure];congr 1
    match vs with
    | []=>rfl
    | [t]=>rfl
    | a::b::l=>simp [one]
   cases e with
   | normal=>exact fin a' w' hq
   | ret=>exact fin a' w' hq
   | exit id=>simp only [exS,Fin] at hq
   | goto l=>simp only [Fin] at hq
   | panic c=>simp only [Fin] at hq
   | outgrown=>simp only [Fin] at hq
  ·cases hc
 ·cases hc
theorem enter {eff:Nat->Bool} {P:Program} {f:Nat} {fn:Func} {ir:a4V} {args:List Value} {w:World} {R:Value->World->Prop} (hf:P.funcs[f]?=some fn) (hc:a2p eff P fn=some ir)
 (O:Nat->Prop) (hO:∀ b,O b->b < w.heap.size) (cs:List C) (hargs:FzL w O cs args) (hn:cs.length<=ir.ntmps)
 (h:S ⟨P,eff,ir.ntmps,w,fun _=>False,O,[],[]⟩ (Fin P ir.results R) ⟨j4 0 cs,[]⟩ [.code ir.body]):Calls P f args.toArray w fun e w'=>∃ y,e=.returned y/\R y w':=by
 refine b4w (E:=⟨P,eff,ir.ntmps,w,fun _=>False,O,[],[]⟩) hf hc rfl rfl hO [] ⟨rfl,fun k r hk=>by simp at hk,fun k l r r' x x' b _ hk=>by simp at hk,fun b hb=>?_,hO,c8B _⟩ cs ?_ hn h
 ·obtain ⟨k,r,x,hk,_⟩:=hb;simp at hk
 ·exact (FzL.keep (Keeps.sub fun b hb=>by
   rcases hb with hb|⟨k,r,x,hk,_⟩
   ·exact hb
   ·simp at hk) hargs).den []
theorem l7.of {E:Ctx} {eff:Nat->Bool} {f:Nat} {fn:Func} {ir:a4V} (hf:E.P.funcs[f]?=some fn) (hc:a2p eff E.P fn=some ir) {rs:List Res} {args:List C} {s:C} {rs':List Res} {pk:List Nat} (hn:args.length<=ir.ntmps)
  (h:∀ w own av ν,ν.length=rs.length->S ⟨E.P,eff,ir.ntmps,w,own,av,ν,pk⟩ (Fin E.P ir.results (b4N ⟨E.P,eff,ir.ntmps,w,own,av,ν,pk⟩ rs' s)) ⟨j4 0 args,rs⟩ [.code ir.body]):l7 E rs f args s rs' pk:=by
 intro av ν w vs hR hav hF hD;have hR':RG av (owned rs ν) w.heap.size ν rs w:=⟨hR.len,hR.res,hR.dis,fun b hb=>⟨(hR.low b hb).1,(hR.low b hb).2.1,.inl hb⟩,hR.av,c8B _⟩
 refine (b4w (E:=⟨E.P,eff,ir.ntmps,w,owned rs ν,av,ν,pk⟩) hf hc rfl rfl hR.av rs hR' args hD hn (h w (owned rs ν) av ν hR.len)).mono ?_;rintro e w' ⟨y,rfl,ν',h1,h2,h3,h4⟩;refine ⟨y,ν',rfl,⟨h1.len,h1.res,h1.dis,fun b hb=>?_,h1.av,c8y hR.n0 h2.size⟩,⟨h2.os,h2.tape,h2.output,h2.size,h2.block,fun b hb=>(h1.low b hb).2.2,h3⟩,h4⟩;obtain ⟨g1,g2,g3⟩:=h1.low b hb;refine ⟨g1,g2,?_⟩;rcases g3 with g3|g3
 ·exact (hR.low b g3).2.2
 ·exact .inr (c8y hR.n0 g3)
def u7 (P:Program) (f:Nat) (args:List C) (r:C):Prop:=∀ (O:Nat->Prop) (w:World) (vs:List Value),(∀ b,O b->b < w.heap.size)->FzL w O args vs ->
 Calls P f vs.toArray w fun e w'=>∃ y,e=.returned y/\Below w.heap.size w w'/\Fz w' O r y
theorem u7.of {eff:Nat->Bool} {P:Program} {f:Nat} {fn:Func} {ir:a4V} (hf:P.funcs[f]?=some fn) (hc:a2p eff P fn=some ir) {args:List C} {r:C} (hn:args.length<=ir.ntmps)
  (h:∀ w O,S ⟨P,eff,ir.ntmps,w,fun _=>False,O,[],[]⟩ (Fin P ir.results (Out ⟨P,eff,ir.ntmps,w,fun _=>False,O,[],[]⟩ r)) ⟨j4 0 args,[]⟩ [.code ir.body]):u7 P f args r:=by
 intro O w vs hO hargs;exact enter hf hc O hO args hargs hn (h w O)
mutual
def C.flat:C->Bool
 | .v _=>true
 | .agg cs=>C.a9W cs
 | .tup cs=>C.a9W cs
 | .nl=>true
 | .any _=>true
 | _=>false
def C.a9W:List C->Bool
 | []=>true
 | c::cs=>C.flat c && C.a9W cs
end
section
variable {ν:List Value} {w:World} {O O':Nat->Prop}
mutual
theorem Fz.flat:∀ {c:C} {y:Value},c.flat=true->Fz w O c y->Den ν w O' c y
 | .v _,y,_,h=>by simpa only [Fz,Den] using h
 | .agg cs,y,hc,h=>by simp only [Fz,Den,C.flat] at h hc ⊢;obtain ⟨vs,h1,h2⟩:=h;exact ⟨vs,FzL.flat hc h1,h2⟩
 | .tup cs,y,hc,h=>by simp only [Fz,Den,C.flat] at h hc ⊢;obtain ⟨vs,h1,h2⟩:=h;exact ⟨vs,FzL.flat hc h1,h2⟩
 | .nl,y,_,h=>by simpa only [Fz,Den] using h
 | .any _,y,_,h=>by simpa only [Fz,Den] using h
 | .sl _ _,y,hc,_=>by simp only [C.flat] at hc;cases hc
 | .ep _,y,hc,_=>by simp only [C.flat] at hc;cases hc
 | .clo _ _,y,hc,_=>by simp only [C.flat] at hc;cases hc
 | .bnd _ _,y,hc,_=>by simp only [C.flat] at hc;cases hc
 | .bp _ _,y,hc,_=>by simp only [C.flat] at hc;cases hc
 | .rv _,y,hc,_=>by simp only [C.flat] at hc;cases hc
 | .rp _ _ _ _,y,hc,_=>by simp only [C.flat] at hc;cases hc
 | .mp _,y,hc,_=>by simp only [C.flat] at hc;cases hc
 | .wv _ _ _ _,y,hc,_=>by simp only [C.flat] at hc;cases hc
 | .g _ _,y,hc,_=>by simp only [C.flat] at hc;cases hc
 | .junk,y,hc,_=>by simp only [C.flat] at hc;cases hc
theorem FzL.flat:∀ {cs:List C} {vs:List Value},C.a9W cs=true->FzL w O cs vs->j6 ν w O' cs vs
 | [],vs,_,h=>by simpa only [FzL,j6] using h
 | c::cs,vs,hc,h=>by
  simp only [FzL,j6,C.a9W,c8F] at h hc ⊢;obtain ⟨y,ys,e,h1,h2⟩:=h;exact ⟨y,ys,e,Fz.flat hc.1 h1,FzL.flat hc.2 h2⟩
end
end
theorem a3R:∀ (rs:List Res),U1 rs rs=true
 | []=>rfl
 | r::rs=>by simp only [U1,c8F];exact ⟨by cases r<;>rfl,a3R rs⟩
theorem S9.spec {E:Ctx} {rs:List Res} {p:Bool} {f:Nat} {args args':List C} {r:C} (hs:p=true->u7 E.P f args' r) (hi:p=true->j3 rs rs args args') (hcl:p=true->C.clL args'=true):S9 E rs p f args r:=by
 intro hp av ν w vs hR hav hF hD;have hlt:∀ b,OO av rs ν b->b < w.heap.size:=fun b hb=>by
  rcases hb with hb|hb
  ·exact hR.av b hb
  ·exact (hR.low b hb).1
 have hD':=(hi hp).den hR (Cut.of hR (a3R rs)) hD;have et:ν.take rs.length=ν:=by rw [<- hR.len];exact c8J
 rw [et] at hD';refine (hs hp (OO av rs ν) w vs hlt (hD'.fz (hcl hp))).mono ?_;rintro e w' ⟨y,rfl,h1,h2⟩;exact ⟨y,rfl,h1,h2.den ν⟩
theorem S9.view {E:Ctx} {rs:List Res} {p:Bool} {f:Nat} {args args':List C} {r:C} (hs:p=true->u7 E.P f args' r) (hi:p=true->j3 rs [] args args') (hcl:p=true->C.clL args'=true) (hr:r.flat=true):S9 E rs p f args r:=by
 intro hp av ν w vs hR hav hF hD;have hC:Cut av rs [] ν:=Cut.of hR (by simp [U1]);have hD':=(hi hp).den hR hC hD;have hlt:∀ b,OO av [] (ν.take ([]:List Res).length) b->b < w.heap.size:=fun b hb=>by
  rcases hC.sub b hb with hb|hb
  ·exact hR.av b hb
  ·exact (hR.low b hb).1
 refine (hs hp _ w vs hlt (hD'.fz (hcl hp))).mono ?_;rintro e w' ⟨y,rfl,h1,h2⟩;exact ⟨y,rfl,h1,Fz.flat hr h2⟩
theorem l9.quiet {E:Ctx} {rs:List Res} {f:Nat} {args:List C} {K:C->List Res->List Nat->Prop} {r:C} (h:S9 E rs true f args r) (hk:K r rs []):l9 E rs f args K:=by
 refine ⟨r,rs,[],hk,fun av ν w vs hR hav hF hD=>(h rfl av ν w vs hR hav hF hD).mono ?_⟩;rintro e w' ⟨y,rfl,h1,h2⟩;exact ⟨y,ν,rfl,hR.below h1,Mv.of_below h1,h2⟩
theorem a1f.quiet {E:Ctx} {st:St} {p:Bool} {f:Nat} {args:List C} {ok:Prop} {d:Option Nat} {K:St->Prop} {r:C} (hok:ok) (h:S9 E st.rs p f args r) (hk:KPg st p d K r):a1f E st p f args ok d K:=.inr ⟨hok,.inr (.inr ⟨r,h,hk⟩)⟩
theorem a0E.mk {E:Ctx} {rs:List Res} {p:Bool} {f:Nat} {args:List C} {K:C->Prop} {r:C} (h:S9 E rs p f args r) (hk:K r):a0E E rs p f args K:=⟨r,h,hk⟩
theorem l9.sp {E:Ctx} {rs:List Res} {f:Nat} {args:List C} {K:C->List Res->List Nat->Prop} {r:C} (hs:u7 E.P f args r) (hb:(C.bdL rs.length args && C.clL args)=true) (hk:K r rs []):l9 E rs f args K:=by
 rw [c8F] at hb;exact l9.quiet (S9.spec (fun _=>hs) (fun _=>j3.refl hb.1) (fun _=>hb.2)) hk
theorem a0E.sp {E:Ctx} {rs:List Res} {p:Bool} {f:Nat} {args:List C} {K:C->Prop} {r:C} (hs:u7 E.P f args r) (hb:(C.bdL rs.length args && C.clL args)=true) (hk:K r):a0E E rs p f args K:=by
 rw [c8F] at hb;exact a0E.mk (S9.spec (fun _=>hs) (fun _=>j3.refl hb.1) (fun _=>hb.2)) hk
theorem a1f.sp {E:Ctx} {st:St} {p:Bool} {f:Nat} {args:List C} {ok:Prop} {d:Option Nat} {K:St->Prop} {r:C} (hs:u7 E.P f args r) (hb:(C.bdL st.rs.length args && C.clL args)=true) (hok:ok) (hk:KPg st p d K r):a1f E st p f args ok d K:=by
 rw [c8F] at hb;exact a1f.quiet hok (S9.spec (fun _=>hs) (fun _=>j3.refl hb.1) (fun _=>hb.2)) hk
theorem l7.imp {E:Ctx} {rs:List Res} {f:Nat} {args args':List C} {s:C} {rs':List Res} {pk:List Nat} (h:l7 E rs f args' s rs' pk) (hi:j3 rs rs args args'):l7 E rs f args s rs' pk:=by
 intro av ν w vs hR hav hF hD;have hD':=hi.den hR (Cut.of hR (a3R rs)) hD;have et:ν.take rs.length=ν:=by rw [<- hR.len];exact c8J
 rw [et] at hD';exact h av ν w vs hR hav hF hD'
theorem l9.t {E:Ctx} {rs:List Res} {f:Nat} {args:List C} {K:C->List Res->List Nat->Prop} {s:C} {rs':List Res} {pk:List Nat} (h:l7 E rs f args s rs' pk) (hk:K s rs' pk):l9 E rs f args K:=⟨s,rs',pk,hk,h⟩
theorem a3i {rs rs':List Res} {ν:List Value} (hk:U1 rs' rs=true) {b:Nat} (h:owned rs' ν b):owned rs ν b:=by
 obtain ⟨k,r',x,h1,h2,h3⟩:=h;obtain ⟨r,hr,h⟩:=a2u hk h1;rcases h with rfl|h
 ·exact h3.elim
 ·exact ⟨k,r,x,hr,h2,by rw [<- h];exact h3⟩
theorem l9.b7h {E:Ctx} {rs:List Res} {f:Nat} {args:List C} {K:C->List Res->List Nat->Prop} (args':List C) (rs':List Res) {r:C} (hs:u7 E.P f args' r) (hi:j3 rs rs' args args') (hcl:C.clL args'=true) (hrs:D9 rs rs' rs' rs) (hlen:rs'.length=rs.length) (hk:K r rs' []):l9 E rs f args K:=by
 refine ⟨r,rs',[],hk,fun av ν w vs hR hav hF hD=>?_⟩;have hkd:=a2c hrs;have hD':=hi.den hR (Cut.of hR hkd) hD;have et:ν.take rs'.length=ν:=by rw [hlen,<- hR.len];exact c8J
 have hR':=hR.weak hrs;rw [et] at hD' hR';have hlt:∀ b,OO av rs' ν b->b < w.heap.size:=fun b hb=>by
  rcases hb with hb|hb
  ·exact hR.av b hb
  ·exact (hR'.low b hb).1
 refine (hs _ w vs hlt (hD'.fz hcl)).mono ?_;rintro e w' ⟨y,rfl,h1,h2⟩;exact ⟨y,ν,rfl,hR'.below h1,⟨h1.os,h1.tape,h1.output,h1.size,fun b h _=>h1.block b h,fun b h=>.inl (a3i hkd h),fun _ _ _ h=>h⟩,h2.den ν⟩
section
variable {E:Ctx} {st st':St} {x x':DS} {hid:List Res} {p p':Bool} {d:Option Nat} {ov:Operand->C} {rs rs':List Res} {fr:List (Nat × C)}
@[congr] theorem ev_congr {l : List E9} {K : St -> Prop} (h : st = st') : ev E l st K = ev E l st' K := by rw [h]
@[congr] theorem ev1_congr {o : E9} {K : St -> Prop} (h : st = st') : ev1 E o st K = ev1 E o st' K := by rw [h]
@[congr] theorem evU_congr {o : IOp} {K : St -> Prop} (h : st = st') : evU E st d o K = evU E st' d o K := by rw [h]
@[congr] theorem evG_congr {o : IOp} {K : St -> Prop} (h : st = st') (hp : p = p') : evG E st p d o K = evG E st' p' d o K := by rw [h, hp]
@[congr] theorem CallH_congr {f : Nat} {l l' : List C} {ok ok' : Prop} {K : St -> Prop} (h : st = st') (hp : p = p') (hl : l = l') (ho : ok = ok') : a1f E st p f l ok d K = a1f E st' p' f l' ok' d K := by rw [h, hp, hl, ho]
@[congr] theorem evE_congr {o : IOp} {K : C -> List Res -> List Nat -> Prop} : evE E ov rs o K = evE E ov rs o K := rfl
@[congr] theorem pureP_congr {o : IOp} {K : C -> Prop} (hp : p = p') : G8 ov rs p o K = G8 ov rs p' o K := by rw [hp]
@[congr] theorem evQ_congr {o : IOp} {K : C -> Prop} (hp : p = p') : evQ E ov rs p o K = evQ E ov rs p' o K := by rw [hp]
@[congr] theorem evQ1_congr {o : E9} {K : C -> Prop} : b0Z E fr rs o K = b0Z E fr rs o K := rfl
@[congr] theorem evF1_congr {o : E9} {K : C -> Prop} : a7n fr rs o K = a7n fr rs o K := rfl
@[congr] theorem ev1d_congr {t : DT} {o : E9} {K : DS -> Prop} (h : x = x') : a7P E hid t o x K = a7P E hid t o x' K := by rw [h]
@[congr] theorem evD_congr {ts : List DT} {l : List E9} {K : St -> Prop} (h : x = x') : evD E hid ts l x K = evD E hid ts l x' K := by rw [h]
@[congr] theorem binP_congr {op : BinOp} {x y x' y' : Value} {K : C -> Prop} (h : x = x') (h' : y = y') (hp : p = p') : a9o op x y p K = a9o op x' y' p' K := by rw [h, h', hp]
@[congr] theorem pickP_congr {c c' : Bool} {x y x' y' : C} {K : C -> Prop} (hp : p = p') (h0 : c = c') (h : x = x') (h' : y = y') : a8g p c x y K = a8g p' c' x' y' K := by rw [h0, h, h', hp]
@[congr] theorem loadP_congr {g : Bool} {n : Nat} {s s' : C} {K : C -> Prop} (h' : s = s') : a3Q rs g n s K = a3Q rs g n s' K := by rw [h']
@[congr] theorem loadJ_congr {g : Bool} {n : Nat} {s s' : C} {K : C -> Prop} (hp : p = p') (h' : s = s') : a9Y rs g n p s K = a9Y rs g n p' s' K := by rw [hp, h']
@[congr] theorem loadCs_congr {g : Bool} {n : Nat} {s s' : List C} {K : C -> Prop} (h' : s = s') : a4n g n s K = a4n g n s' K := by rw [h']
@[congr] theorem srcOf_congr {n : Nat} {s s' : C} {k : Option Nat} {K : List (List C) -> Prop} (h' : s = s') : a4F rs n s k K = a4F rs n s' k K := by rw [h']
@[congr] theorem CallOK_congr {f : Nat} {l l' : List C} {K : C -> List Res -> List Nat -> Prop} (h' : l = l') : l9 E rs f l K = l9 E rs f l' K := by rw [h']
@[congr] theorem CallQ_congr {f : Nat} {l l' : List C} {K : C -> Prop} (h' : l = l') : a0E E rs p f l K = a0E E rs p f l' K := by rw [h']
@[congr] theorem retP_congr {l : List RV} {K : List C -> Prop} : D6 fr rs l K = D6 fr rs l K := rfl
@[congr] theorem eqC_congr {ks : List LK} {cs ds cs' ds' : List C} {K : Bool -> Prop} (h : cs = cs') (h' : ds = ds') : eqC ks cs ds K = eqC ks cs' ds' K := by rw [h, h']
@[congr] theorem S_congr {Q : Exit -> Act -> World -> Prop} {k : List It} (h : st = st') : S E Q st k = S E Q st' k := by rw [h]
end
theorem S.c6U {E:Ctx} {Q:Exit->Act->World->Prop} {st:St} {k:List It} {tags:List DT} {ops:List E9} (h:evD E [] tags ops ⟨st.fr,st.rs,[],[],[]⟩ fun st'=>S E Q st' k):S E Q st (.code (.X4 tags ops)::k):=S.X4 [] True.intro h
theorem b5y {p:Prop}:(true=true->p)=p:=by simp
theorem b5l {p:Prop}:(false=true->p)=True:=by simp
theorem b5i {p:Prop}:(false=false->p)=p:=by simp
theorem b5o {p:Prop}:(true=false->p)=True:=by simp
theorem wrap_i64 {n:Int} (h:-9223372036854775808<=n/\n<=9223372036854775807):IntKind.i64.wrap n=n:=by
 have h1:IntKind.i64.wrap n=(if n % 18446744073709551616 >= 9223372036854775808 then n % 18446744073709551616-18446744073709551616 else n % 18446744073709551616):=by
  simp [IntKind.wrap,IntKind.signed,IntKind.bits]
 rw [h1];split<;>omega
theorem wrap_u64 {n:Int} (h:0<=n/\n<=18446744073709551615):IntKind.u64.wrap n=n:=by
 have h1:IntKind.u64.wrap n=n % 18446744073709551616:=by
  simp [IntKind.wrap,IntKind.signed,IntKind.bits]
 rw [h1];omega
theorem wrap_u8 {n:Int} (h:0<=n/\n<=255):IntKind.u8.wrap n=n:=by
 have h1:IntKind.u8.wrap n=n % 256:=by
  simp [IntKind.wrap,IntKind.signed,IntKind.bits]
 rw [h1];omega
theorem wrap_u32 {n:Int} (h:0<=n/\n<=4294967295):IntKind.u32.wrap n=n:=by
 have h1:IntKind.u32.wrap n=n % 4294967296:=by simp [IntKind.wrap,IntKind.signed,IntKind.bits]
 rw [h1];omega
theorem b7j (z:Value) (o:Option Value):b2R false z o=.v (o.getD z):=by cases o<;>rfl
theorem c6k {α β:Type} (f:α->β) (l:List α) (i:Nat):(l.map f).take i=(l.take i).map f:=List.map_take.symm
theorem c5t {α β:Type} (f:α->β) (l:List α) (i:Nat):(l.map f).drop i=(l.drop i).map f:=List.map_drop.symm
theorem c0v (z:Value) (o:Option Value):b2R true z o=.tup [.v (o.getD z),.v (.bool o.isSome)]:=by cases o<;>rfl
theorem c6N (n:Nat):(no_index (OfNat.ofNat n):Int).toNat=n:=rfl
theorem ww:(∀ n:Int,-9223372036854775808<=n/\n<=9223372036854775807->IntKind.i64.wrap n=n)/\(∀ n:Int,0<=n/\n<=18446744073709551615->IntKind.u64.wrap n=n)/\(∀ n:Int,0<=n/\n<=255->IntKind.u8.wrap n=n)/\(∀ n:Int,0<=n/\n<=4294967295->IntKind.u32.wrap n=n):=
 ⟨fun _=>wrap_i64,fun _=>wrap_u64,fun _=>wrap_u8,fun _=>wrap_u32⟩
class Sg (g:Prop) (p:outParam Prop):Prop where
 go:p->g
theorem uA {g p:Prop} [h:Sg g p] (x:p):g:=h.go x
class Sb (g:Prop) (p:outParam Prop):Prop where
 go:p->g
theorem uI {g p:Prop} [h:Sb g p] (x:p):g:=h.go x
instance {g p:Prop} [h:Sb g p]:Sg g p:=⟨h.go⟩
class Sc (g:Prop) (a b:outParam Prop):Prop where
 go:a->b->g
instance {a b:Prop}:Sc (a/\b) a b:=⟨And.intro⟩
theorem uK {g a b:Prop} [h:Sc g a b] (x:a) (y:b):g:=h.go x y
class By (g:Prop) (E:outParam Ctx) (rs:outParam (List Res)) (p:outParam Bool) (f:outParam Nat) (a:outParam (List C)) (r:C) (q:outParam Prop):Prop where
 go:S9 E rs p f a r->q->g
section
variable {E:Ctx} {Q:Exit->Act->World->Prop} {st:St} {k:List It} {rs:List Res} {f:Nat} {a a':List C} {r:C} {p:Bool} {ok:Prop} {d:Option Nat}
instance :Sb (S E Q st (.code .skip::k)) (S E Q st k):=⟨S.skip⟩
instance {x y:IC}:Sb (S E Q st (.code (.seq x y)::k)) (S E Q st (.code x::.code y::k)):=⟨S.seq⟩
instance {x:IC} {i:Nat}:Sb (S E Q st (.code (.block i x)::k)) (S E Q st (.code x::.blk i::k)):=⟨S.block⟩
instance {i:Nat}:Sb (S E Q st (.blk i::k)) (S E Q st k):=⟨S.blk⟩
instance {l:List E9}:Sb (S E Q st (.code (.reg l)::k)) (ev E l st fun s=>S E Q s k):=⟨S.reg⟩
instance {x y z:Prop}:Sb ((x/\y)/\z) (x/\y/\z):=⟨fun h=>and_assoc.2 h⟩
instance {z:Prop}:Sb (True/\z) z:=⟨fun h=>⟨trivial,h⟩⟩
instance {z:Prop} {cs:List C}:Sb (leC cs cs/\z) z:=⟨fun h=>⟨E5 _,h⟩⟩
instance {x z:Prop}:Sb ((x->x)/\z) z:=⟨fun h=>⟨id,h⟩⟩
class Nq (i j:Nat):Prop where
 ne:i ≠ j
class Bq (x y:Bool):Prop where
 e:x=y
instance {x:Bool}:Bq x x:=⟨rfl⟩
instance {i j:Nat} [h:Bq (Nat.beq i j) false]:Nq i j:=⟨Nat.ne_of_beq_eq_false h.e⟩
class Pt (i:Nat) (k:List It) (k':outParam (List It)):Prop where
 e:a3v i k=some k'
instance {i:Nat}:Pt i (.blk i::k) k:=⟨by simp [a3v]⟩
instance {i:Nat} {x:IC} {k':List It} [h:Pt i k k']:Pt i (.code x::k) k':=⟨h.e⟩
instance {i:Nat} {J:Act->World->Prop} {k':List It} [h:Pt i k k']:Pt i (.inv J::k) k':=⟨h.e⟩
instance (priority:=low) {i j:Nat} {k':List It} [n:Nq i j] [h:Pt i k k']:Pt i (.blk j::k) k':=⟨by simp [a3v,n.ne,h.e]⟩
instance {i:Nat} {k':List It} [h:Pt i k k']:Sb (S E Q st (.code (.exit i)::k)) (S E Q st k'):=⟨S.exit h.e⟩
instance {K:St->Prop}:Sb (a1f E st false f a ok d K) (KU st d K):=⟨fun h=>.inl ⟨rfl,h⟩⟩
instance {K:St->Prop}:Sb (a1f E st true f a ok d K) (ok/\l9 E st.rs f a (KE E st d K)):=⟨fun h=>.inr ⟨h.1,.inl ⟨rfl,h.2⟩⟩⟩
instance {l:List DT} {o:List E9}:Sg (S E Q st (.code (.X4 l o)::k)) (evD E [] l o ⟨st.fr,st.rs,[],[],[]⟩ fun s=>S E Q s k):=⟨S.c6U⟩
instance {K:C->List Res->List Nat->Prop}:By (l9 E rs f a K) E rs true f a r (K r rs []):=⟨fun h hk=>l9.quiet h hk⟩
instance {K:C->Prop}:By (a0E E rs p f a K) E rs p f a r (K r):=⟨fun h hk=>a0E.mk h hk⟩
instance {K:St->Prop}:By (a1f E st p f a ok d K) E st.rs p f a r (ok/\KPg st p d K r):=⟨fun h hk=>a1f.quiet hk.1 h hk.2⟩
variable {g q:Prop}
theorem uB {P:Program} (hs:u7 P f a' r) [h:By g E rs p f a r q] (e:(E.P,a,(C.bdL rs.length a && C.clL a))=(P,a',true)) (x:q):g:=by
 injection e with e1 e2;injection e2 with e2 e3;rw [c8F] at e3;subst e1 e2;exact h.go (S9.spec (fun _=>hs) (fun _=>j3.refl e3.1) (fun _=>e3.2)) x
theorem uC {P:Program} (hs:u7 P f a' r) [h:By g E rs p f a r q] (e:(E.P,C.clL a',r.flat)=(P,true,true)) (hi:j3 rs [] a a') (x:q):g:=by
 injection e with e1 e2;injection e2 with e2 e3;subst e1;exact h.go (S9.view (fun _=>hs) (fun _=>hi) (fun _=>e2) e3) x
class Dc (b:Bool) (y n:outParam Prop):Prop where
 y:b=true->y
 n:b=false->n
instance (priority:=low) {b:Bool}:Dc b (b=true) (b=false):=⟨id,id⟩
instance {x:Prop} [Decidable x]:Dc (decide x) x (¬x):=⟨of_decide_eq_true,of_decide_eq_false⟩
instance {b:Bool} {x y:Prop} [h:Dc b x y]:Dc (!b) y x:=⟨fun e=>h.n (by simpa using e),fun e=>h.y (by simpa using e)⟩
instance {b c:Bool} {x y z w:Prop} [h:Dc b x y] [i:Dc c z w]:Dc (b && c) (x/\z) (y \/ w):=⟨fun e=>by rw [c8F] at e;exact ⟨h.y e.1,i.y e.2⟩,fun e=>by rw [Bool.and_eq_false_iff] at e;exact e.imp h.n i.n⟩
instance {b c:Bool} {x y z w:Prop} [h:Dc b x y] [i:Dc c z w]:Dc (b || c) (x \/ z) (y/\w):=⟨fun e=>by rw [c9f] at e;exact e.imp h.y i.y,fun e=>by rw [c8S] at e;exact ⟨h.n e.1,i.n e.2⟩⟩
theorem uJ {c:Operand} {x y:IC} {b:Bool} {u v:Prop} (hb:opv st.fr c=.v (.bool b)) [h:Dc b u v] (ht:u->S E Q st (.code x::k)) (hf:v->S E Q st (.code y::k)):S E Q st (.code (.cond c x y)::k):=S.cond hb (fun e=>ht (h.y e)) fun e=>hf (h.n e)
instance (priority:=low) {x p z:Prop} [h:Sb x p]:Sb (x/\z) (p/\z):=⟨fun e=>⟨h.go e.1,e.2⟩⟩
instance {x:St} {fr':List (Nat × C)} {rs':List Res}:Sb (Ent E x ⟨fr',rs'⟩) (R3 x.rs rs' x.fr fr'/\D9 x.rs rs' rs' x.rs/\E.nu0.length<=rs'.length):=⟨fun h=>Ent.mk _ _ h.1 h.2.1 h.2.2⟩
section
variable {rs' l l':List Res} {fr fr':List (Nat × C)} {c c':C} {u u':Res} {e sz:Nat} {es es':List (List C)} {cs cs':List C} {ms ms':List (Value × Value)} {b:Bool}
instance :Sb (R3 rs rs' fr []) True:=⟨fun _=>R3.nil⟩
instance {t:Nat}:Sb (R3 rs rs' fr ((t,c)::fr')) (Imp rs rs' (slot fr t) c/\R3 rs rs' fr fr'):=⟨fun h=>R3.cons h.1 h.2⟩
instance :Sb (Imp rs rs' c .junk) True:=⟨fun _=>Imp.junk⟩
instance (priority:=low):Sb (Imp rs rs' c c') (c=c'/\c'.bd rs'.length=true):=⟨fun h=>Imp.eq h.1 h.2⟩
instance :Sb (D9 rs rs' [] l) True:=⟨fun _=>D9.nil⟩
instance :Sb (D9 rs rs' (u'::l') (u::l)) (RI rs rs' u u'/\D9 rs rs' l' l):=⟨fun h=>D9.cons h.1 h.2⟩
instance :Sb (RI rs rs' u .gone) True:=⟨fun _=>.gone _⟩
instance :Sb (RI rs rs' (.row e sz es) (.row e sz es')) (es=es'):=⟨fun h=>.row _ _ _ _ h⟩
instance :Sb (RI rs rs' (.map b ms) (.map b ms')) (ms=ms'):=⟨fun h=>.map _ _ _ h⟩
instance :Sb (RI rs rs' (.box e cs) (.box e cs')) (cs=cs'/\C.bdL rs'.length cs'=true):=⟨fun h=>.box _ _ _ (j3.eq h.1 h.2)⟩
end
theorem uF {P:Program} (hs:u7 P f a' r) {K:St->Prop} (x:ok/\KPg st false d K r):a1f E st false f a ok d K:=
 .inr ⟨x.1,.inr (.inr ⟨r,(fun h=>absurd h (by decide)),x.2⟩)⟩
end
attribute [go_sem] c6N c5p c3v c3G c2p KE KP KPg KU KR KRD KQd KFd KLd KEd b0u b0N KgP a4u Nat.zero_le ev1 evU evG evE evQ b0Z a7n a7P G8 b7j c0v a9o a8g a3Q a9Y a4n opv slot strip req reqs a1v a3t a1K splice a1A cellsS a3c a3G
 C.one C.ones C.nj opsV njL a4z F3 a2H rmP a0m a1j C.y8 C.has C.a7u C.a2f Res.y8 Q6 a4F b7r z8 b0J IOp.uses eqC Q0 P8 a2v a9u Z8 a1T a1Q U9 a1S C.cl C.clL Value.oneCell'
 Option.getD_none cond_true cond_false Bool.and_true Bool.true_and Bool.and_false Bool.false_and Bool.or_true Bool.or_false Bool.true_or Bool.false_or Bool.not_true Bool.not_false List.getElem?_cons_zero List.getElem?_cons_succ List.getElem?_nil false_imp_iff Nat.min_eq_left Nat.min_eq_right c8K c8O c8R List.length_nil List.cons_append List.nil_append List.append_nil
 List.take_succ_cons List.take_zero List.drop_succ_cons List.drop_zero List.take_nil List.drop_nil List.set_cons_zero List.set_cons_succ List.mem_cons List.not_mem_nil or_false b5y b5l b5i b5o Option.toList_some Option.toList_none List.replicate_succ List.replicate_zero c8A Nat.sub_zero c6k c5t true_and and_true implies_true imp_self true_imp_iff beq_true beq_false Bool.cond_false_right Bool.cond_true_left c8r c8x c8s Option.map_none c8u
def a8o (Pw:World->Prop):Prop:=∀ w w':World,w.heap.size<=w'.heap.size->(∀ b,b < w.heap.size->w'.heap[b]?=w.heap[b]?)->Pw w->Pw w'
def Z6 (P:Program) (Pw:World->Prop) (f:Nat) (args:List C) (r:C):Prop:=∀ (O:Nat->Prop) (w:World) (vs:List Value),Pw w->(∀ b,O b->b < w.heap.size)->FzL w O args vs ->
 Calls P f vs.toArray w fun e w'=>∃ y,e=.returned y/\Below w.heap.size w w'/\Fz w' O r y
theorem u7.w {P:Program} {Pw:World->Prop} {f:Nat} {args:List C} {r:C} (h:u7 P f args r):Z6 P Pw f args r:=fun O w vs _ hO hA=>h O w vs hO hA
theorem Z6.mono {P:Program} {Pw Pw':World->Prop} {f:Nat} {args:List C} {r:C} (h:Z6 P Pw f args r) (hp:∀ w,Pw' w->Pw w):Z6 P Pw' f args r:=fun O w vs hw hO hA=>h O w vs (hp w hw) hO hA
theorem Z6.of {eff:Nat->Bool} {P:Program} {Pw:World->Prop} {f:Nat} {fn:Func} {ir:a4V} (hf:P.funcs[f]?=some fn) (hc:a2p eff P fn=some ir) {args:List C} {r:C} (hn:args.length<=ir.ntmps)
  (h:∀ w O,Pw w->S ⟨P,eff,ir.ntmps,w,fun _=>False,O,[],[]⟩ (Fin P ir.results (Out ⟨P,eff,ir.ntmps,w,fun _=>False,O,[],[]⟩ r)) ⟨j4 0 args,[]⟩ [.code ir.body]):Z6 P Pw f args r:=by
 intro O w vs hw hO hargs;exact enter hf hc O hO args hargs hn (h w O hw)
theorem a8o.cell {ad:Addr} {Q:Value->Prop}:a8o fun w=>∃ v,w.cell? ad=some v/\Q v:=by
 rintro w w' hs hb ⟨v,hv,hq⟩;refine ⟨v,?_,hq⟩;rw [<- hv];exact World.cell?_of_block (hb _ (block_lt_of_cell hv))
theorem a8o.and {A B:World->Prop} (ha:a8o A) (hb:a8o B):a8o fun w=>A w/\B w:=fun w w' h1 h2 h=>⟨ha w w' h1 h2 h.1,hb w w' h1 h2 h.2⟩
def c5l (E:Ctx) (e sz:Nat) (es:List (List C)) (y:Value) (w':World):Prop:=
 Below E.w0.heap.size E.w0 w'/\(∀ b,D5 y=some b->E.w0.heap.size<=b/\b < w'.heap.size)/\P5 [] w' (fun b=>E.av b \/ D5 y=some b) y (.row e sz es)
def FNew (P:Program) (f:Nat) (args:List C) (e sz:Nat) (es:List (List C)):Prop:=∀ (O:Nat->Prop) (w:World) (vs:List Value),(∀ b,O b->b < w.heap.size)->FzL w O args vs ->
 Calls P f vs.toArray w fun ee w'=>∃ y,ee=.returned y/\Below w.heap.size w w'/\(∀ b,D5 y=some b->w.heap.size<=b/\b < w'.heap.size)/\P5 [] w' (fun b=>O b \/ D5 y=some b) y (.row e sz es)
theorem a6k {w:World} {O O':Nat->Prop} {ν ν':List Value} {x:Value} {e sz:Nat} {es:List (List C)} (h:∀ b,O' b->O b) (hr:P5 ν w O x (.row e sz es)):P5 ν' w O' x (.row e sz es):=by
 obtain ⟨h0,vs,h1,h2,h3⟩:=hr;exact ⟨h0,vs,FzL.keep (Keeps.sub h) h1,h2,h3⟩
theorem p8.new {E:Ctx} (hown:E.own0=fun _=>False) {rs:List Res} {cs:List C} {k e sz:Nat} {es:List (List C)} (h:a5T cs=.rv k) (hk:rs[k]?=some (.row e sz es)):p8 E rs (c5l E e sz es) cs:=by
 intro wf ν w y hR hF hN hd;rw [h] at hd;simp only [Den] at hd;have hok:=hR.get hk hd.1;have hown':∀ b,D5 y=some b->owned rs ν b:=fun b hb=>⟨k,_,y,hk,hd.1,hb⟩
 refine ⟨⟨hF.os,hF.tape,hF.output,hF.size,fun b hb=>hF.block b hb (by rw [hown];exact fun h=>h)⟩,fun b hb=>?_,a6k (fun b hb=>?_) hok⟩
 ·obtain ⟨h1,h2,h3⟩:=hR.low b (hown' b hb);rw [hown] at h3;rcases h3 with h3|h3
  ·exact h3.elim
  ·exact ⟨h3,h1⟩
 ·rcases hb with hb|hb
  ·exact .inl hb
  ·exact .inr (hown' b hb)
theorem FNew.of {eff:Nat->Bool} {P:Program} {f:Nat} {fn:Func} {ir:a4V} (hf:P.funcs[f]?=some fn) (hc:a2p eff P fn=some ir) {args:List C} {e sz:Nat} {es:List (List C)} (hn:args.length<=ir.ntmps)
  (h:∀ w O,S ⟨P,eff,ir.ntmps,w,fun _=>False,O,[],[]⟩ (Fin P ir.results (c5l ⟨P,eff,ir.ntmps,w,fun _=>False,O,[],[]⟩ e sz es)) ⟨j4 0 args,[]⟩ [.code ir.body]):FNew P f args e sz es:=by
 intro O w vs hO hargs;exact enter hf hc O hO args hargs hn (h w O)
theorem FNew.spec {P:Program} {f:Nat} {args:List C} {e sz:Nat} {es:List (List C)} (h:FNew P f args e sz es):u7 P f args (.sl sz es):=by
 intro O w vs hO hA;refine (h O w vs hO hA).mono ?_;rintro ee w' ⟨y,rfl,h1,h2,h0,us,h3,h4,h5⟩;refine ⟨y,rfl,h1,c0A h5 rfl h0 (FzL.keep (Keeps.sub fun b hb=>.inl hb) h3) h4 fun b hb=>?_⟩;obtain ⟨h6,h7⟩:=h2 b hb;exact ⟨h7,fun hb'=>by have:=hO b hb';omega⟩
theorem FNew.t {E:Ctx} {rs:List Res} {f:Nat} {args:List C} {e sz:Nat} {es:List (List C)} (h:FNew E.P f args e sz es) (hb:(C.bdL rs.length args && C.clL args)=true):l7 E rs f args (.rv rs.length) (rs++[.row e sz es]) []:=by
 rw [c8F] at hb;intro av ν w vs hR hav hF hD;have hlt:∀ b,OO av rs ν b->b < w.heap.size:=fun b hb=>by
  rcases hb with hb|hb
  ·exact hR.av b hb
  ·exact (hR.low b hb).1
 refine (h (OO av rs ν) w vs hlt (hD.fz hb.2)).mono ?_;rintro ee w' ⟨y,rfl,h1,h2,h3⟩;have hadd:=hR.add (x:=y) (r:=.row e sz es) h1 h2 (fun _ _=>a6k (fun b hb=>by
  rcases hb with hb|⟨k,q,z,hk,hz,hf⟩
  ·exact .inl (.inl hb)
  ·rcases c8N k rs.length with hlt|hge
   ·rw [c8H hlt] at hk;rw [c8H (by rw [hR.len];exact hlt)] at hz;exact .inl (.inr ⟨k,q,z,hk,hz,hf⟩)
   ·rw [c8M hge] at hk;rw [c8M (by rw [hR.len];exact hge),hR.len] at hz;cases hi:k-rs.length with
    | zero=>
     rw [hi] at hk hz;simp at hk hz;subst hk hz;exact .inr hf
    | succ n=>rw [hi] at hk;simp at hk) h3)
 refine ⟨y,ν++[y],rfl,hadd.1,hadd.2,?_⟩;simp only [Den];obtain ⟨_,us,_,_,h5⟩:=h3;exact ⟨by rw [<- hR.len];simp,h5.slice.elim fun A h=>h.elim fun c h=>⟨A,_,c,h⟩⟩
theorem l9.vw {E:Ctx} {rs:List Res} {f:Nat} {args args':List C} {K:C->List Res->List Nat->Prop} {r:C} (hs:u7 E.P f args' r) (hi:j3 rs [] args args') (hcl:C.clL args'=true) (hr:r.flat=true) (hk:K r rs []):l9 E rs f args K:=
 l9.quiet (S9.view (fun _=>hs) (fun _=>hi) (fun _=>hcl) hr) hk
theorem a0E.vw {E:Ctx} {rs:List Res} {p:Bool} {f:Nat} {args args':List C} {K:C->Prop} {r:C} (hs:u7 E.P f args' r) (hi:j3 rs [] args args') (hcl:C.clL args'=true) (hr:r.flat=true) (hk:K r):a0E E rs p f args K:=
 a0E.mk (S9.view (fun _=>hs) (fun _=>hi) (fun _=>hcl) hr) hk
def cellC (rs:List Res) (agg:Bool) (sz:Nat):C->Option C
 | .bp k off=>match rs[k]? with
  | some (.box _ cs)=>match agg with
   | true=>if Nat.ble sz (cs.drop off).length=true then some (.agg ((cs.drop off).take sz)) else none
   | false=>match cs.drop off with
    | c::_=>some c
    | []=>none
  | _=>none
 | _=>none
def a6U (fr:List (Nat × C)) (rs:List Res):List RV->Option (List C)
 | []=>some []
 | .tmp t::l=>match a6U fr rs l with
  | some cs=>some (slot fr t::cs)
  | none=>none
 | .cell t agg sz::l=>match cellC rs agg sz (slot fr t) with
  | some c=>match a6U fr rs l with
   | some cs=>some (c::cs)
   | none=>none
  | none=>none
theorem c2P {rs:List Res} {agg:Bool} {sz:Nat} {s c:C} {K:C->Prop} (h:cellC rs agg sz s=some c) (hk:K c):a3Q rs agg sz s K:=by
 unfold cellC at h;split at h
 ·rename_i k off;unfold a3Q;simp only;split at h
  ·rename_i hb;rw [hb];simp only;unfold a4n;cases agg with
   | true=>
    simp only at h ⊢;split at h
    ·rename_i hn;injection h with h;subst h;exact ⟨c8G hn,hk⟩
    ·cases h
   | false=>
    simp only at h ⊢;split at h
    ·rename_i hd;rw [hd];injection h with h;subst h;exact hk
    ·cases h
  ·cases h
 ·cases h
theorem a8y {fr:List (Nat × C)} {rs:List Res}:∀ {l:List RV} {cs:List C} {K:List C->Prop},a6U fr rs l=some cs->K cs->D6 fr rs l K
 | [],cs,K,h,hk=>by
  simp only [a6U,Option.some.injEq] at h;subst h;exact hk
 | .tmp t::l,cs,K,h,hk=>by
  unfold a6U at h;split at h
  ·rename_i hl;injection h with h;subst h
   show D6 fr rs l fun cs=>K (slot fr t::cs);exact a8y hl hk
  ·cases h
 | .cell t agg sz::l,cs,K,h,hk=>by
  unfold a6U at h;split at h
  ·rename_i hc;split at h
   ·rename_i hl;injection h with h;subst h
    show a3Q rs agg sz (slot fr t) fun c=>D6 fr rs l fun cs=>K (c::cs);exact c2P hc (a8y (K:=fun cs=>K (_::cs)) hl hk)
   ·cases h
  ·cases h
theorem uQ {E:Ctx} {st:St} {k:List It} {rvs:List RV} {r:C} {cs:List C} (h:a6U st.fr st.rs rvs=some cs) (hi:Imp st.rs [] (a5T cs) r) (hb:r.cl=true) (hown:E.own0=fun _=>False):S E (Fin E.P rvs (Out E r)) st (.code .ret::k):=
 S.done (a8y h (p8.out hown hi hb))
theorem uR {E:Ctx} {st:St} {k:List It} {rvs:List RV} {rs':List Res} {s:C} {cs:List C} (h:a6U st.fr st.rs rvs=some cs) (hi:Imp st.rs rs' (a5T cs) s) (h2:D9 st.rs rs' rs' st.rs) (h3:E.nu0.length<=rs'.length):S E (Fin E.P rvs (b4N E rs' s)) st (.code .ret::k):=
 S.done (a8y h (p8.P6 hi h2 h3))
theorem uS {E:Ctx} {st:St} {k:List It} {rvs:List RV} {r:C} {cs:List C} (h:(a6U st.fr st.rs rvs,a5T cs,(C.bd 0 r && r.cl))=(some cs,r,true)) (hown:E.own0=fun _=>False):S E (Fin E.P rvs (Out E r)) st (.code .ret::k):=by
 injection h with h1 h2;injection h2 with h2 h3;rw [c8F] at h3;subst h2;exact uQ h1 (Imp.refl h3.1) h3.2 hown
section
variable {eff:Nat->Bool} {P:Program} {N:Nat} {a b:Code} {x y:IC}
theorem cS:comp eff P N .skip=some .skip:=rfl
theorem cT:comp eff P N .ret=some .ret:=rfl
theorem cE {i:Nat}:comp eff P N (.exit i)=some (.exit i):=rfl
theorem cA (ha:comp eff P N a=some x) (hb:comp eff P N b=some y):comp eff P N (.seq a b)=some (.seq x y):=by simp only [comp,ha,hb]
theorem cC {c:Operand} (ha:comp eff P N a=some x) (hb:comp eff P N b=some y):comp eff P N (.cond c a b)=some (.cond c x y):=by simp only [comp,ha,hb]
theorem cB {i:Nat} (ha:comp eff P N a=some x):comp eff P N (.block i a)=some (.block i x):=by simp only [comp,ha]
theorem cL (ha:comp eff P N a=some x):comp eff P N (.loop a)=some (.loop x):=by simp only [comp,ha]
theorem cR {u:_} {ops:Array Oper} {l:List E9} (h:U6 P N ops ops.toList=some l):comp eff P N (.region u ops false)=some (.reg l):=by simp only [comp,h]
theorem cD {u:_} {ops:Array Oper} {l:List E9} {tags:List DT} (h1:a7T eff ops.toList=tags) (h2:U6 P N ops ops.toList=some l) (h3:(P.follows .mixedOrders && b1e ops tags)=true):comp eff P N (.region u ops true)=some (.X4 tags l):=by
 subst h1;simp only [comp,h2];rw [if_pos h3]
theorem cF {f:Func} {c:Code} {n:Nat} {rs:List RV} (h1:f.body=some c) (h0:f.ntmps=n) (h2:U4 P f.results.toList=some rs) (h3:comp eff P n c=some x):a2p eff P f=some ⟨n,rs,x⟩:=by
 subst h0;simp only [a2p,h1,h2,h3]
end
end Go.Proofs.YtpnbklgbfhgknaaGreatDoor.Eng
