/- A part of the proof: lemmas only, with the conditions that each names. -/
import Derived.Test.YtfkipfnkpeobjaaGreatDoorProg
import Derived.KernelRfl
import Derived.Shelf.Strings.Trim
import Derived.Shelf.Small.Utf8
import Derived.Shelf.Small.Bits
import Derived.Shelf.Small.Strs
import Derived.Shelf.Small.Wraps
import Derived.Shelf.Strconv.Itoa0
import Derived.Shelf.Strings.Search1
import Derived.Shelf.Strings.Runes
import Derived.Shelf.Strings.AsciiSet
import Derived.Shelf.Unicode.DecodeSlow
import Derived.Shelf.Slices.Turned
import Derived.Shelf.Spec.TrailingZeros
import Derived.Shelf.SlSortCmp.NoneTotal
import Derived.Ground.SlsfProg
import Derived.Test.YtfkipfnkpeobjaaGreatDoorRk4
set_option linter.all false
namespace Go.Proofs.YtfkipfnkpeobjaaGreatDoor
attribute [local go_sem] Eng.nbq beq_self_eq_true Eng.ww Eng.uk Eng.uk2
open Go Go.RowKit Eng
set_option maxRecDepth 10000
set_option maxHeartbeats 8000000
def b3k(x:Bool):G8 (if x then 1 else 0)=a1s x:=by
 cases x
 ·exact(U7 (n:=0) (by decide)).trans (a3F (by decide))
 ·exact(U7 (n:=1) (by decide)).trans (a3F (by decide))
def b2a:CX 95 [] (λx:Bool=>[.v (.bool x)]) (Pw false a1s (λ_=>True)) (tr a0C a1s):=by
 intro E G c x t pre D V W u;obtain⟨P,ef,N0,w0,U,ab,Y,X⟩:=E;simp only at G;subst G;obtain⟨Z,i,b,o,fr⟩:=c;have M:=F4 [2] V;have H:=F4 [2] W;haveI:Clz pre:=⟨V⟩
 haveI:Clz D:=⟨W⟩
 refine l5.of (eff:=J6) Tryz.func95 (by cbv) (by exact d0n rfl) λw own av ν N=>?_;have B:ν.length<=3:=by rw[N];exact d0m _
 cases Z
 ·have T:=(u.2 rfl).2;rw[<- b3k x]at T;have A:=λ(E:Ctx) (G:E.P=Tryz.prog)=>a1K.on G (rs:=[Cd.box ⟨false,i,b,o,fr⟩,.box t (pre++(.v (.bool x)::D)),Cd.row ⟨false,i,b,o,fr⟩,.box 3 [ints (if x then 1 else 0)]]) (m:=3) (off:=0) [] [] rfl rfl (λ_=>rfl) (c:=⟨false,i,b,o,fr⟩) (x:=if x then 1 else 0) (λ_=>T) rfl rfl rfl rfl rfl rfl rfl rfl rfl;have K:tr a0C a1s ⟨false,i,b,o,fr⟩ x=(⟨false,i,b,o++G8 (if x then 1 else 0),false⟩,x):=by rw[b3k];rfl
  have J:tr (l9 (if x then 1 else 0)) G8 ⟨false,i,b,o,fr⟩ (if x then 1 else 0)=(⟨false,i,b,o++G8 (if x then 1 else 0),false⟩,if x then 1 else 0):=rfl
  try dsimp only at A
  rw[J]at A
  try dsimp only
  rw[K];obtain⟨R0,I,O⟩:∃R,Cd.row ⟨false,i,b,o,fr⟩=R/\(R=.fb 5 o\/R=.row 5 1 (o.map u7)):=⟨_,rfl,by cases fr<;>first|exact .inl rfl|exact .inr rfl⟩
  simp only[RR,I]at A ⊢;clear J K T u I O;generalize G8 (if x then 1 else 0)=q at*;simp only[j4,TT,II,OA,OB,MM,VV,FF];simp only[Cd.box,Cd.cells,Cd.row,cond_false,ints]at A ⊢;cases x
  all_goals
   simp only[reduceIte,d0P]at A;(repeat first|refine uA ?_|simp(disch:=omega) only[go_sem,Nat.reduceAdd,List.drop_left,List.cons_append,List.nil_append]);apply S.cond rfl<;>intro F
   all_goals first|(exfalso;simp at F;done)|skip
   (repeat first|refine uA ?_|(apply uK;· first|omega|(intros;simp_all<;>omega))|simp(disch:=omega) only[go_sem,Nat.reduceAdd,M,H,Y9,List.take_left,d0l,d0p,d0u,d0o,List.cons_append,List.nil_append]|refine j5.t (A _ rfl) ?_);refine S.cond rfl (λF=>by simp at F) (λF=>?_)
   (repeat first|refine uA ?_|simp(disch:=omega) only[go_sem,Nat.reduceAdd]);(exact uRe rfl (Imp.refl rfl) (by repeat first|refine uA ?_|refine⟨rfl,?_⟩|rfl|simp) (d0f B (by simp)))
 ·have hx:=u.1 rfl;subst hx;have A:=λ(E:Ctx) (G:E.P=Tryz.prog)=>a1K.on G (rs:=[Cd.box ⟨true,i,b,o,fr⟩,.box t (pre++(.v (.bool false)::D)),Cd.row ⟨true,i,b,o,fr⟩,.box 3 [ints 0]]) (m:=3) (off:=0) [] [] rfl rfl (λ_=>rfl) (c:=⟨true,i,b,o,fr⟩) (x:=0) (λh=>by cases h) rfl rfl rfl rfl rfl rfl rfl rfl rfl;have K:tr a0C a1s ⟨true,i,b,o,fr⟩ false=(⟨true,(l9 0 ⟨i,b⟩).2.inp,(l9 0 ⟨i,b⟩).2.bad||decide (1<(l9 0 ⟨i,b⟩).1),o,fr⟩,decide ((l9 0 ⟨i,b⟩).1=1)):=rfl;have J:tr (l9 0) G8 ⟨true,i,b,o,fr⟩ 0=(⟨true,(l9 0 ⟨i,b⟩).2.inp,(l9 0 ⟨i,b⟩).2.bad,o,fr⟩,(l9 0 ⟨i,b⟩).1):=rfl
  try dsimp only at A
  rw[J]at A
  try dsimp only
  rw[K];clear J K u;generalize l9 0 ⟨i,b⟩=r at*;obtain⟨n,ac,aa⟩:=r;simp only[RR]at A ⊢;simp only[j4,TT,II,OA,OB,MM,VV,FF];simp only[Cd.box,Cd.cells,Cd.row,cond_true,ints]at A ⊢;(repeat first|refine uA ?_|simp(disch:=omega) only[go_sem,Nat.reduceAdd,List.drop_left,List.cons_append,List.nil_append]);refine S.cond rfl (λF=>by simp at F) (λF=>?_)
  (repeat first|refine uA ?_|(apply uK;· first|omega|(intros;simp_all<;>omega))|simp(disch:=omega) only[go_sem,Nat.reduceAdd,M,H,Y9,List.take_left,d0l,d0p,d0u,d0o,List.cons_append,List.nil_append]|refine j5.t (A _ rfl) ?_);apply uJ rfl<;>intro F
  ·rw[decide_eq_true F,Bool.or_true];(repeat first|refine uA ?_|simp(disch:=omega) only[go_sem,Nat.reduceAdd]);(exact uRe rfl (Imp.refl rfl) (by repeat first|refine uA ?_|refine⟨rfl,?_⟩|rfl|simp) (d0f B (by simp)))
  ·rw[decide_eq_false (by omega),Bool.or_false];(repeat first|refine uA ?_|simp(disch:=omega) only[go_sem,Nat.reduceAdd]);(exact uRe rfl (Imp.refl rfl) (by repeat first|refine uA ?_|refine⟨rfl,?_⟩|rfl|simp) (d0f B (by simp)))
def a7J:CX 86 [] (λx:List UInt8=>[sb x]) (Pw [] a0E (λ_=>True)) (tr Y6 a0E):=by
 intro E H c x t pre F hp hq A;obtain⟨P,ef,N0,w0,Z,ac,ab,aa⟩:=E;simp only at H;subst H;obtain⟨rd,i,b,o,fr⟩:=c;have O:=F4 [2] hp;have I:=F4 [2] hq;haveI:Clz pre:=⟨hp⟩
 haveI:Clz F:=⟨hq⟩
 refine l5.of (eff:=J6) Tryz.func86 (by cbv) (by exact d0n rfl) λw own av ν U=>?_;have u:ν.length<=3:=by rw[U];exact d0m _
 cases rd
 ·have T:=(A.2 rfl).2;unfold a0E at T;rw[d0c]at T;have T:o.length+((J3 x.length).length+x.length)<=16777216:=T;have Y:G8 (x.length:Int)=J3 x.length:=U7 (by omega);have D:=λ(E:Ctx) (H:E.P=Tryz.prog)=>a1K.on H (rs:=[Cd.box ⟨false,i,b,o,fr⟩,.box t (pre++(sb x::F)),Cd.row ⟨false,i,b,o,fr⟩,.box 3 [ints x.length]]) (m:=3) (off:=0) [] [] rfl rfl (λ_=>rfl) (c:=⟨false,i,b,o,fr⟩) (x:=x.length) (λ_=>by rw[Y];omega) rfl rfl rfl rfl rfl rfl rfl rfl rfl;have M:tr Y6 a0E ⟨false,i,b,o,fr⟩ x=(⟨false,i,b,(o++J3 x.length)++x,false⟩,x):=by rw[d0o];rfl
  have K:tr (l9 x.length) G8 ⟨false,i,b,o,fr⟩ x.length=(⟨false,i,b,o++G8 x.length,false⟩,(x.length:Int)):=rfl
  try dsimp only at D
  rw[K,Y]at D
  try dsimp only
  rw[M];obtain⟨R0,J,V⟩:∃R,Cd.row ⟨false,i,b,o,fr⟩=R/\(R=.fb 5 o\/R=.row 5 1 (o.map u7)):=⟨_,rfl,by cases fr<;>first|exact .inl rfl|exact .inr rfl⟩
  simp only[RR,J]at D ⊢;clear K M A J V Y;have ae:(o++J3 x.length).length+x.length<=16777216:=by rw[d0c];omega
  generalize o++J3 x.length=o1 at*;simp only[j4,TT,OA,OB,OC,MM,VV,FF,MG,VG,FG];simp only[Cd.box,Cd.cells,Cd.row,cond_false,ints,sb]at D ⊢;(repeat first|refine uA ?_|(apply uK;· first|omega|(intros;simp_all<;>omega))|simp(disch:=omega) only[go_sem,Nat.reduceAdd,x9,List.drop_left,d0l,d0p,List.cons_append,List.nil_append]|refine j5.t (D _ rfl) ?_);refine S.cond rfl (λB=>?_) (λB=>by simp at B)
  (repeat first|refine uA ?_|(apply uK;· first|omega|(intros;simp_all<;>omega))|simp(disch:=omega) only[go_sem,Nat.reduceAdd,x9,a0F,O,I,List.drop_left,d0l,d0p,d0u,List.cons_append,List.nil_append,d0d]);(exact uR rfl (Imp.refl rfl) (by repeat first|refine uA ?_|refine⟨rfl,?_⟩|rfl|simp[slot]) (d0f u (by simp)))
 ·have hx:=A.1 rfl;subst hx;have D:=λ(E:Ctx) (H:E.P=Tryz.prog)=>a1K.on H (rs:=[Cd.box ⟨true,i,b,o,fr⟩,.box t (pre++(sb []::F)),Cd.row ⟨true,i,b,o,fr⟩,.box 3 [ints 0]]) (m:=3) (off:=0) [] [] rfl rfl (λ_=>rfl) (c:=⟨true,i,b,o,fr⟩) (x:=0) (λh=>by cases h) rfl rfl rfl rfl rfl rfl rfl rfl rfl;have M:tr Y6 a0E ⟨true,i,b,o,fr⟩ []=if((l9 0 ⟨i,b⟩).2.bad||decide ((((l9 0 ⟨i,b⟩).2.inp.length:Nat):Int)<(l9 0 ⟨i,b⟩).1))=true then(⟨true,(l9 0 ⟨i,b⟩).2.inp,true,o,fr⟩,[]) else(⟨true,(l9 0 ⟨i,b⟩).2.inp.drop (l9 0 ⟨i,b⟩).1.toNat,(l9 0 ⟨i,b⟩).2.bad,o,fr⟩,(l9 0 ⟨i,b⟩).2.inp.take (l9 0 ⟨i,b⟩).1.toNat):=by
   simp only[tr,cond_true,Y6];split<;>rfl
  have K:tr (l9 0) G8 ⟨true,i,b,o,fr⟩ 0=(⟨true,(l9 0 ⟨i,b⟩).2.inp,(l9 0 ⟨i,b⟩).2.bad,o,fr⟩,(l9 0 ⟨i,b⟩).1):=rfl;have N:=Z9 (old:=0) ⟨by decide,by decide⟩ i.length ⟨i,b⟩ (d0m _)
  try dsimp only at D
  rw[K]at D
  try dsimp only
  rw[M];clear K M A;generalize l9 0 ⟨i,b⟩=r at*;obtain⟨n,G,W⟩:=r;simp only at N;obtain⟨n,rfl⟩:∃m:Nat,n=m:=⟨n.toNat,by have:=N.1;omega⟩
  simp only[RR,d0h]at D ⊢;simp only[j4,TT,OA,OB,OC,MM,VV,FF,MG,VG,FG];simp only[Cd.box,Cd.cells,Cd.row,cond_true,ints,sb]at D ⊢;(repeat first|refine uA ?_|(apply uK;· first|omega|(intros;simp_all<;>omega))|simp(disch:=omega) only[go_sem,Nat.reduceAdd,x9,List.length_nil,O,I,List.drop_left,d0l,d0p,d0u,List.cons_append,List.nil_append]|refine j5.t (D _ rfl) ?_);refine S.cond rfl (λB=>by simp at B) (λB=>?_)
  cases W
  ·(repeat first|refine uA ?_|simp(disch:=omega) only[go_sem,Nat.reduceAdd,d0d]);apply S.cond rfl<;>intro B
   ·have B:=of_decide_eq_true B;rw[if_pos (by simp;omega)];(repeat first|refine uA ?_|simp(disch:=omega) only[go_sem,Nat.reduceAdd,List.cons_append,List.nil_append]);(exact uR rfl (Imp.refl rfl) (by repeat first|refine uA ?_|refine⟨rfl,?_⟩|rfl|simp) (d0f u (by simp)))
   ·have B:=of_decide_eq_false B;rw[if_neg (by simp;omega)];have X:(G.drop n).take (G.length-n)=G.drop n:=d0y (by simp);(repeat first|refine uA ?_|simp(disch:=omega) only[go_sem,Nat.reduceAdd,Y9,List.take_left,d0l,d0p,List.cons_append,List.nil_append,d0d,d0h,c0p,c1j,Q8,X,a1J,d0o]);(exact uRe rfl (Imp.refl rfl) (by repeat first|refine uA ?_|refine⟨rfl,?_⟩|rfl|simp) (d0f u (by simp)))
  ·rw[if_pos (by simp)];(repeat first|refine uA ?_|simp(disch:=omega) only[go_sem,Nat.reduceAdd]);refine S.cond rfl (λB=>?_) (λB=>by simp at B)
   (repeat first|refine uA ?_|simp(disch:=omega) only[go_sem,Nat.reduceAdd,List.cons_append,List.nil_append]);(exact uR rfl (Imp.refl rfl) (by repeat first|refine uA ?_|refine⟨rfl,?_⟩|rfl|simp) (d0f u (by simp)))
def Y7{α:Type}(_:α):Prop:=True
def LsD{α:Type}(D:α->Prop)(l:List α):Prop:=l.length<=1099511627776/\∀x∈l,D x
def rt0:Nm.Rt:=⟨false,[],[]⟩
def vt0:Vt:=⟨rt0,rt0⟩
def fr0:Fr:=⟨rt0,rt0,false,rt0⟩
def boC(b:Bool):List C:=[.v (.bool b)]
def a4k{α:Type}(h:Rdr α)(n:Nat)(u:List UInt8):F7 h (n+1) ⟨u,false⟩=((h ⟨u,false⟩).1::(F7 h n (h ⟨u,false⟩).2).1,(F7 h n (h ⟨u,false⟩).2).2):=by
 rw[F7,if_neg (by simp)]
def a4Z{α:Type}(u:Rdr α){n:Nat}{s:Rs}(h:s.bad=true):F7 u n s=([],s):=by
 cases n with
 | zero=>rfl
 | succ n=>rw[F7,if_pos h]
def a7K{α:Type}(pre:List α)(a b:α)(l:List α):(pre++a::l).set pre.length b=pre++b::l:=by
 rw[List.set_append_right _ _ (d0m _),Nat.sub_self];rfl
def a7B{rs rs':List Res}{pre u:List C}[hp:Clz pre][hq:Clz u]{c c':C}(h:Imp rs rs' c c'):j3 rs rs' (pre++(c::u)) (pre++(c'::u)):=by
 have hr:∀{l:List C},C.clL l=true->j3 rs rs' l l:=λA=>j3.eq rfl (a5a _ _ A);have app:∀l:List C,C.clL l=true->j3 rs rs' (l++(c::u)) (l++(c'::u)):=by
  intro l
  induction l with
  | nil=>exact λ_=>j3.cons h (hr hq.h)
  | cons x l ih=>
   intro A;simp only[C.clL,d0s]at A;exact j3.cons (Imp.eq rfl (b9p _ _ A.1)) (ih A.2)
 exact app _ hp.h
def z8{α:Type}{r:Rdr α}{w:α->List UInt8}{i o:List UInt8}{b fr:Bool}{x y:α}{c':Cd}(h:tr r w ⟨false,i,b,o,fr⟩ x=(c',y)):c'=⟨false,i,b,o++w x,false⟩/\y=x:=by
 injection h with A u;exact⟨A.symm,u.symm⟩
def D6{α:Type}{r:Rdr α}{w:α->List UInt8}{i o:List UInt8}{b fr:Bool}{x y:α}{c':Cd}(h:tr r w ⟨true,i,b,o,fr⟩ x=(c',y)):∃s,r ⟨i,b⟩=(y,s)/\c'=⟨true,s.inp,s.bad,o,fr⟩:=by
 injection h with A u;exact⟨(r ⟨i,b⟩).2,by rw[<- u],A.symm⟩
def a7G:CX 53 [] (λx:Int=>[ints x]) (Pw 0 G8 Y7) (tr (l9 0) G8):=by
 intro E F c x t pre A D H u;have h:=a1K E F c x t pre A D H λh=>(u.2 h).2;have G:tr (l9 x) G8 c x=tr (l9 0) G8 c x:=by
  obtain⟨B,i,b,o,fr⟩:=c;cases B
  ·rfl
  ·rw[u.1 rfl]
 dsimp only at h
 rw[G]at h;exact h
def CL{α:Type}(f g:Nat)(enc:α->List C)(Pre:Cd->α->Prop)(T:Cd->α->Cd×α):Prop:=
 ∀(E:Ctx),E.P=Tryz.prog->∀(c:Cd) (x:α) (t:TypeId) (pre post:List C),C.clL pre=true->C.clL post=true->Pre c x ->
  l5 E [c.box,.box t (pre++(enc x++post)),c.row,O8] f [.bp 0 0,.bp 1 pre.length,.clo g [.bp 3 0]] (a0K []) [(T c x).1.box,.box t (pre++(enc (T c x).2++post)),(T c x).1.row,O8] [2]
def tX:turns J6 53=true/\turns J6 95=true/\turns J6 86=true/\turns J6 55=true/\turns J6 92=true/\turns J6 87=true/\turns J6 59=true/\turns J6 83=true/\turns J6 47=true/\turns J6 48=true/\turns J6 54=true/\turns J6 133=true/\turns J6 97=true/\turns J6 82=true/\turns J6 84=true/\turns J6 88=true/\turns J6 90=true/\turns J6 93=true/\turns J6 96=true/\turns J6 49=true/\turns J6 51=true/\turns J6 56=true/\turns J6 98=true/\turns J6 58=true/\turns J6 8=true:=by decide
def clp{a b:List C}(h:C.clL a=true)(u:C.clL b=true):C.clL (a++b)=true:=by rw[a7Y,h,u];rfl
def CX.go{α:Type}{f:Nat}{G:List C}{enc:α->List C}{d:α}{w:α->List UInt8}{D:α->Prop}{r:Rdr α}(h:CX f G enc (Pw d w D) (tr r w))(I:∀x,C.clL (enc x)=true)(H:G.all b9D=true){c:Cd}{x:α}(A:Pw d w D c x) :
  ∃c' y,tr r w c x=(c',y)/\c'.rd=c.rd/\(c.rd=false->c'.o.length=c.o.length+(w x).length)/\∀{E:Ctx},E.P=Tryz.prog->∀{rs:List Res} {m off:Nat} {t:TypeId} {cs:List C} (pre l:List C) {u:List C},rs[m]?=some (.box t cs)->cs=pre++(l++(enc x++u)) ->
   C.clL pre=true->C.clL l=true->C.clL u=true->off=pre.length+l.length->rs[0]?=some c.box->rs[2]?=some c.row->(m==0||m==2)=false ->
   l5 E rs f (.bp 0 0::.bp m off::G) (a0K []) ((((rs.map (Res.y9 [2])).set 0 c'.box).set m (.box t (pre++(l++(enc y++u))))).set 2 c'.row) [2]:=by
 refine⟨(tr r w c x).1,(tr r w c x).2,rfl,c4E,λh=>by rw[c8a h,d0c],λ{E} N {rs m off t cs} pre l {u} T B K O R M U J F=>?_⟩;exact h.on N (pre++l) u (clp K O) R I A (by rw[B,d0o]) (by rw[d0o]) (by rw[M,d0c]) U T J F H rfl
def CL.go{α:Type}{f g:Nat}{enc:α->List C}{d:α}{w:α->List UInt8}{D:α->Prop}{r:Rdr α}(h:CL f g enc (Pw d w D) (tr r w)){c:Cd}{x:α}(A:Pw d w D c x) :
  ∃c' y,tr r w c x=(c',y)/\c'.rd=c.rd/\(c.rd=false->c'.o.length=c.o.length+(w x).length)/\∀{E:Ctx},E.P=Tryz.prog->∀{rs:List Res} {off:Nat} {t:TypeId} {cs:List C} (pre l:List C) {u:List C},rs=[c.box,.box t cs,c.row,O8]->cs=pre++(l++(enc x++u)) ->
   C.clL pre=true->C.clL l=true->C.clL u=true->off=pre.length+l.length ->
   l5 E rs f [.bp 0 0,.bp 1 off,.clo g [.bp 3 0]] (a0K []) [c'.box,.box t (pre++(l++(enc y++u))),c'.row,O8] [2]:=by
 refine⟨(tr r w c x).1,(tr r w c x).2,rfl,c4E,λh=>by rw[c8a h,d0c],λ{E} I {rs off t cs} pre l {u} B F G J K H=>?_⟩;have:=h E I c x t (pre++l) u (clp G J) K A;rw[d0o,d0o,d0c,<- H,<- F,<- B]at this;exact this
def a3O:CX 55 [] rcs (Pw rt0 I7 Y7) (tr P6 I7):=by
 intro E hP c x t pre G D F u;obtain⟨P,ef,N0,w0,aa,ae,ac,ab⟩:=E;simp only at hP;subst hP;have W:=F4 [2] D;have O:=F4 [2] F;haveI:Clz pre:=⟨D⟩
 haveI:Clz G:=⟨F⟩
 have K:c.rd=false->c.o.length+(I7 x).length<=16777216:=λh=>(u.2 h).2;simp only[I7,d0c]at K;obtain⟨M,H,q1,u1,o1,h1⟩:=b2a.go (λ_=>rfl) rfl (c:=c) (x:=x.neg) ⟨λh=>congrArg (λx=>x.neg) (u.1 h),λh=>⟨trivial,by have A:=K h;(try simp only[I7,d0c]at A ⊢);omega⟩⟩;have J:M.rd=c.rd:=u1;have V:c.rd=false->M.o.length=c.o.length+_:=λh=>o1 h
 try simp only[I7,d0c]at V
 obtain⟨N,Y,q2,u2,o2,h2⟩:=a7J.go (λ_=>rfl) rfl (c:=M) (x:=x.num) ⟨λh=>congrArg (λx=>x.num) (u.1 (by rwa[J]at h)),λh=>⟨trivial,by rw[J]at h;have A:=K h;have a1:=V h;(try simp only[I7,d0c]at A ⊢);omega⟩⟩;have I:N.rd=c.rd:=u2.trans J;have t2:c.rd=false->N.o.length=M.o.length+_:=λh=>o2 (J.trans h)
 try simp only[I7,d0c]at t2
 obtain⟨Z,y3,q3,u3,o3,h3⟩:=a7J.go (λ_=>rfl) rfl (c:=N) (x:=x.den) ⟨λh=>congrArg (λx=>x.den) (u.1 (by rwa[I]at h)),λh=>⟨trivial,by rw[I]at h;have A:=K h;have a1:=V h;have a2:=t2 h;(try simp only[I7,d0c]at A ⊢);omega⟩⟩;have s3:Z.rd=c.rd:=u3.trans I;have t3:c.rd=false->Z.o.length=N.o.length+_:=λh=>o3 (I.trans h)
 try simp only[I7,d0c]at t3
 have hT:tr P6 I7 c x=(Z,⟨H,Y,y3⟩):=by
  obtain⟨rd,i,b,o,fr⟩:=c;cases rd
  ·obtain⟨rfl,rfl⟩:=z8 q1;obtain⟨rfl,rfl⟩:=z8 q2;obtain⟨rfl,rfl⟩:=z8 q3;simp only[tr,cond_false,I7,d0o]
  ·obtain⟨z1,T,rfl⟩:=D6 q1;have T:a0C ⟨i,b⟩=(H,z1):=T;obtain⟨z2,U,rfl⟩:=D6 q2;have U:Y6 z1=(Y,z2):=U;obtain⟨z3,X,rfl⟩:=D6 q3;have X:Y6 z2=(y3,z3):=X;simp only[tr,cond_true,P6,p9,H9,T,U,X]
 rw[hT];refine l5.of (eff:=J6) Tryz.func55 (by cbv) (by exact d0n rfl) λw own av ν R=>?_;have B:ν.length<=3:=by rw[R];exact d0m _
 simp only[j4,TT,OA,MM,FF];simp only[RR,rcs,sb,List.cons_append,List.nil_append];(repeat first|refine uA ?_|(apply uK;· first|omega|(intros;simp_all<;>omega))|simp(disch:=omega) only[go_sem,Nat.reduceAdd,d0l,d0p,d0u,List.cons_append,List.nil_append,W,O,sb]|refine j5.t (h1 rfl pre [] rfl rfl D rfl F rfl rfl rfl rfl) ?_|refine j5.t (h2 rfl pre ([.v (.bool H)]) rfl rfl D rfl F rfl rfl rfl rfl) ?_|refine j5.t (h3 rfl pre ([.v (.bool H)]++[sb Y]) rfl rfl D rfl F rfl rfl rfl rfl) ?_);(exact uRe rfl (Imp.refl rfl) (by repeat first|refine uA ?_|refine⟨rfl,?_⟩|rfl|simp[slot]) (d0f B (by simp)))
def b4e:CX 92 [] Vt.enc (Pw vt0 I5 Y7) (tr a1D I5):=by
 intro E V c x t pre B F H u;obtain⟨P,ef,N0,w0,W,ac,ab,aa⟩:=E;simp only at V;subst V;have R:=F4 [2] F;have I:=F4 [2] H;haveI:Clz pre:=⟨F⟩
 haveI:Clz B:=⟨H⟩
 have T:c.rd=false->c.o.length+(I5 x).length<=16777216:=λh=>(u.2 h).2;simp only[I5,d0c]at T;obtain⟨G,K,Y,u1,o1,h1⟩:=a3O.go (λ_=>rfl) rfl (c:=c) (x:=x.x) ⟨λh=>congrArg (λx=>x.x) (u.1 h),λh=>⟨trivial,by have M:=T h;(try simp only[I5,d0c]at M ⊢);omega⟩⟩;have D:G.rd=c.rd:=u1;have Z:c.rd=false->G.o.length=c.o.length+_:=λh=>o1 h
 try simp only[I5,d0c]at Z
 obtain⟨U,y2,X,u2,o2,h2⟩:=a3O.go (λ_=>rfl) rfl (c:=G) (x:=x.y) ⟨λh=>congrArg (λx=>x.y) (u.1 (by rwa[D]at h)),λh=>⟨trivial,by rw[D]at h;have M:=T h;have a1:=Z h;(try simp only[I5,d0c]at M ⊢);omega⟩⟩;have s2:U.rd=c.rd:=u2.trans D;have t2:c.rd=false->U.o.length=G.o.length+_:=λh=>o2 (D.trans h)
 try simp only[I5,d0c]at t2
 have hT:tr a1D I5 c x=(U,⟨K,y2⟩):=by
  obtain⟨rd,i,b,o,fr⟩:=c;cases rd
  ·obtain⟨rfl,rfl⟩:=z8 Y;obtain⟨rfl,rfl⟩:=z8 X;simp only[tr,cond_false,I5,d0o]
  ·obtain⟨z1,N,rfl⟩:=D6 Y;have N:P6 ⟨i,b⟩=(K,z1):=N;obtain⟨z2,O,rfl⟩:=D6 X;have O:P6 z1=(y2,z2):=O;simp only[tr,cond_true,a1D,p9,H9,N,O]
 rw[hT];refine l5.of (eff:=J6) Tryz.func92 (by cbv) (by exact d0n rfl) λw own av ν J=>?_;have A:ν.length<=3:=by rw[J];exact d0m _
 simp only[j4,TT,OA,MM,FF];simp only[RR,Vt.enc,sb,List.cons_append,List.nil_append];(repeat first|refine uA ?_|(apply uK;· first|omega|(intros;simp_all<;>omega))|simp(disch:=omega) only[go_sem,Nat.reduceAdd,d0l,d0p,d0u,List.cons_append,List.nil_append,R,I,rcs,sb]|refine j5.t (h1 rfl pre [] rfl rfl F rfl H rfl rfl rfl rfl) ?_|refine j5.t (h2 rfl pre (rcs K) rfl rfl F rfl H rfl rfl rfl rfl) ?_);(exact uRe rfl (Imp.refl rfl) (by repeat first|refine uA ?_|refine⟨rfl,?_⟩|rfl|simp[slot]) (d0f A (by simp)))
def a9V:CX 87 [] Fr.enc (Pw fr0 frB Y7) (tr a0h frB):=by
 intro E hP c x t pre H F G u;obtain⟨P,ef,N0,w0,aa,ae,ac,ab⟩:=E;simp only at hP;subst hP;have W:=F4 [2] F;have O:=F4 [2] G;haveI:Clz pre:=⟨F⟩
 haveI:Clz H:=⟨G⟩
 have K:c.rd=false->c.o.length+(frB x).length<=16777216:=λh=>(u.2 h).2;simp only[frB,d0c]at K;obtain⟨M,A,q1,u1,o1,h1⟩:=b4e.go (λ_=>rfl) rfl (c:=c) (x:=(⟨x.x,x.y⟩:Vt)) ⟨λh=>congrArg (λx=>(⟨x.x,x.y⟩:Vt)) (u.1 h),λh=>⟨trivial,by have B:=K h;(try simp only[I5,d0c]at B ⊢);omega⟩⟩;have J:M.rd=c.rd:=u1;have V:c.rd=false->M.o.length=c.o.length+_:=λh=>o1 h
 try simp only[I5,d0c]at V
 obtain⟨N,Y,q2,u2,o2,h2⟩:=b2a.go (λ_=>rfl) rfl (c:=M) (x:=x.half) ⟨λh=>congrArg (λx=>x.half) (u.1 (by rwa[J]at h)),λh=>⟨trivial,by rw[J]at h;have B:=K h;have a1:=V h;(try simp only[frB,I5,d0c]at B ⊢);omega⟩⟩;have I:N.rd=c.rd:=u2.trans J;have t2:c.rd=false->N.o.length=M.o.length+_:=λh=>o2 (J.trans h)
 try simp only[frB,I5,d0c]at t2
 obtain⟨Z,y3,q3,u3,o3,h3⟩:=a3O.go (λ_=>rfl) rfl (c:=N) (x:=x.t) ⟨λh=>congrArg (λx=>x.t) (u.1 (by rwa[I]at h)),λh=>⟨trivial,by rw[I]at h;have B:=K h;have a1:=V h;have a2:=t2 h;(try simp only[frB,I5,d0c]at B ⊢);omega⟩⟩;have s3:Z.rd=c.rd:=u3.trans I;have t3:c.rd=false->Z.o.length=N.o.length+_:=λh=>o3 (I.trans h)
 try simp only[frB,I5,d0c]at t3
 have hT:tr a0h frB c x=(Z,⟨A.x,A.y,Y,y3⟩):=by
  obtain⟨rd,i,b,o,fr⟩:=c;cases rd
  ·obtain⟨rfl,rfl⟩:=z8 q1;obtain⟨rfl,rfl⟩:=z8 q2;obtain⟨rfl,rfl⟩:=z8 q3;simp only[tr,cond_false,frB,I5,d0o]
  ·obtain⟨z1,T,rfl⟩:=D6 q1;have T:a1D ⟨i,b⟩=(A,z1):=T;obtain⟨z2,U,rfl⟩:=D6 q2;have U:a0C z1=(Y,z2):=U;obtain⟨z3,X,rfl⟩:=D6 q3;have X:P6 z2=(y3,z3):=X;simp only[tr,cond_true,a0h,p9,H9,T,U,X]
 rw[hT];refine l5.of (eff:=J6) Tryz.func87 (by cbv) (by exact d0n rfl) λw own av ν R=>?_;have D:ν.length<=3:=by rw[R];exact d0m _
 simp only[j4,TT,OA,MM,FF];simp only[RR,Fr.enc,sb,List.cons_append,List.nil_append];(repeat first|refine uA ?_|(apply uK;· first|omega|(intros;simp_all<;>omega))|simp(disch:=omega) only[go_sem,Nat.reduceAdd,d0l,d0p,d0u,List.cons_append,List.nil_append,W,O,Vt.enc,rcs,sb]|refine j5.t (h1 rfl pre [] rfl rfl F rfl G rfl rfl rfl rfl) ?_|refine j5.t (h2 rfl pre (Vt.enc A) rfl rfl F rfl G rfl rfl rfl rfl) ?_|refine j5.t (h3 rfl pre (Vt.enc A++[.v (.bool Y)]) rfl rfl F rfl G rfl rfl rfl rfl) ?_);(exact uRe rfl (Imp.refl rfl) (by repeat first|refine uA ?_|refine⟨rfl,?_⟩|rfl|simp[slot]) (d0f D (by simp)))
def nx(l:List Int)(n:Int):Int:=l.headD 0%n
abbrev Q(n d:Int):Nm.Rt:=Nm.ofQ (mkRat n d.toNat)
def atV(x y:Int):Vt:=⟨Q x 4,Q y 4⟩
def c4A(w h k s:Int):List Vt:=
 if k=0 then[atV (-w) (-h),atV w (-h),atV w h,atV (-w) h] else
 if k=1 then[atV (-w) (-h),atV w (-h),atV (s-w) h] else
 if k=2 then[atV (-w-1) (-h-1),atV w (-h-1),atV (w+1) (-h),atV (w+1) h,atV (-w-1) h] else
 [atV (-w) 0,atV 0 (-h),atV w 0,atV 0 h]
def c9y(l:List Int):List Vt×List Int:=
 let w:=1+nx l 6
 let h:=1+nx (l.drop 1) 6
 let k:=nx (l.drop 2) 4
 if k=1 then(c4A w h k (nx (l.drop 3) (2*w+1)),l.drop 4) else(c4A w h k 0,l.drop 3)
def c8Q(l:List Int):Nat:=(1+nx (l.drop 2) 3).toNat
def c9N(l:List Int):List Int:=l.drop (3+6*c8Q l)
def c4v:Nat->List Int->List Int
 | 0,l=>l
 | k+1,l=>c4v k (c9N l)
def c0q:Nat->List Int->List Int
 | 0,l=>l
 | k+1,l=>c0q k (c9y l).2
def nA(l:List Int):Nat:=(1+nx l 2).toNat
def l1(l:List Int):List Int:=c4v (nA l) (l.drop 1)
def nW(l:List Int):Nat:=(nx (l1 l) 3).toNat
def l2(l:List Int):List Int:=(l1 l).drop (1+5*nW l)
def nP(l:List Int):Nat:=(nx (l2 l) 3).toNat
def l3(l:List Int):List Int:=c0q (nP l) ((l2 l).drop 1)
def c9s(n:Nms)(s:List UInt8):(a0d (.string (bs s)) (nmE n)).getD (.bool false)=.bool (n.contains s):=by
 rw[c5Q];cases n.contains s<;>rfl
def b4g{E:Ctx}(D:E.P=Tryz.prog)(n:Nms)(s:List UInt8)(O:s.length<=1099511627776) :
  l5 E [.map true (nmE n)] 172 [.mp 0,sb s] (ints (R5 n s).1) [.map true (nmE (R5 n s).2)] []:=by
 obtain⟨P,F,N,T,G,M,I,H⟩:=E;simp only at D;subst D;refine l5.of (eff:=eff) Tryz.func172 (by cbv) (by exact d0n rfl) λw own R ν A=>?_;have h:ν.length<=1:=by rw[A];exact d0m _
 have J:=c6h s O;have K:=c9s n s;have B:=c8q n s;unfold R5;generalize a1G s=q at*;generalize n.contains s=c at*;simp only[j4,TT,II,OA,OB,MM];simp only[sb,ints]at*;(repeat first|refine uA ?_|simp(disch:=omega) only[go_sem,Nat.reduceAdd]|refine uB J rfl ?_);apply S.cond rfl<;>intro u
 ·rw[if_pos (by simpa using u)]
  (exact uY rfl rfl (Imp.refl rfl) (by repeat first|refine uA ?_|refine⟨rfl,?_⟩|rfl|simp) (d0f h (by simp)))
 rw[if_neg (by simpa using u)];(repeat first|refine uA ?_|simp(disch:=omega) only[go_sem,K]);apply S.cond rfl<;>intro u
 ·rw[if_pos u]
  (exact uY rfl rfl (Imp.refl rfl) (by repeat first|refine uA ?_|refine⟨rfl,?_⟩|rfl|simp) (d0f h (by simp)))
 ·rw[if_neg (by rw[u];decide)];have B:=B u;(repeat first|refine uA ?_|simp(disch:=omega) only[go_sem,B]);(exact uR rfl (Imp.refl rfl) (by repeat first|refine uA ?_|refine⟨rfl,?_⟩|rfl|simp) (d0f h (by simp)))
def c7L{E:Ctx}(F:E.P=Tryz.prog)(H:Tz E)(n:Nms)(p:Pt)(U:Pb 1073741824 p) :
  l5 E [.map true (nmE n)] 177 [.mp 0,p.c] (ints (a1k n p).1) [.map true (nmE (a1k n p).2)] []:=by
 obtain⟨P,J,N,w0,K,Z,W,V⟩:=E;simp only at F;subst F;refine l5.ofT (eff:=eff) H Tryz.func177 (by cbv) (by exact d0n rfl) λw own av ν G I=>?_;have h:ν.length<=1:=by rw[G];exact d0m _
 obtain⟨D,u,⟨x,y,A,t⟩⟩:=p;obtain⟨b0,M,T,O,R⟩:=U;simp only at b0 M T O R;have X:=λ(E:Ctx) (F:E.P=Tryz.prog)=>b4g F n D (by omega);have h2:=b6r u M;have Y:=b6H ⟨x,y,A,t⟩ ⟨T.m rfl,O.m rfl,R.m rfl⟩;unfold a1k;simp only;generalize R5 n D=r at*;obtain⟨e1,m⟩:=r;generalize U3 u=e2 at*;generalize okF ⟨x,y,A,t⟩=q at*;simp only[j4,TT,II,OA,MM,LL,VV,FF];simp only[Pt.c,Pt.enc,Fr.c,Fr.enc,vts,sb,ints]at*;(repeat first|refine uA ?_|simp(disch:=omega) only[go_sem,Nat.reduceAdd]|refine j5.t (l5.lift (k:=0) rfl (X _ rfl) rfl rfl rfl) ?_);apply S.cond rfl<;>intro B
 ·rw[if_pos (by simpa using B)]
  (exact uY rfl rfl (Imp.refl rfl) (by repeat first|refine uA ?_|refine⟨rfl,?_⟩|rfl|simp) (d0f h (by simp)))
 rw[if_neg (by simpa using B)];(repeat first|refine uA ?_|simp(disch:=omega) only[go_sem,Nat.reduceAdd]|(refine uD h2 ?_ ?_ ?_;exact I;exact rfl));apply S.cond rfl<;>intro B
 ·rw[if_pos (by simpa using B)]
  (exact uY rfl rfl (Imp.refl rfl) (by repeat first|refine uA ?_|refine⟨rfl,?_⟩|rfl|simp) (d0f h (by simp)))
 rw[if_neg (by simpa using B)];(repeat first|refine uA ?_|simp(disch:=omega) only[go_sem,Nat.reduceAdd]|(refine uD Y ?_ ?_ ?_;exact I;exact rfl));apply S.cond rfl<;>intro B
 ·rw[if_neg (by simpa using B)]
  (exact uY rfl rfl (Imp.refl rfl) (by repeat first|refine uA ?_|refine⟨rfl,?_⟩|rfl|simp) (d0f h (by simp)))
 ·rw[if_pos (by simpa using B)]
  (exact uY rfl rfl (Imp.refl rfl) (by repeat first|refine uA ?_|refine⟨rfl,?_⟩|rfl|simp) (d0f h (by simp)))
def c8A{E:Ctx}(G:E.P=Tryz.prog)(O:Tz E)(n:Nms)(s:Sl)(Y:Sb 1073741824 s) :
  l5 E [.map true (nmE n)] 179 [.mp 0,s.c] (ints (a1v n s).1) [.map true (nmE (a1v n s).2)] []:=by
 obtain⟨P,T,N,w0,U,ab,aa,Z⟩:=E;simp only at G;subst G;refine l5.ofT (eff:=eff) O Tryz.func179 (by cbv) (by exact d0n rfl) λw own av ν M F=>?_;have A:ν.length<=1:=by rw[M];exact d0m _
 obtain⟨D,⟨x,y,B,t⟩,h⟩:=s;obtain⟨b0,⟨X,V,W⟩,J⟩:=Y;simp only at b0 X V W J;have h1:=λ(E:Ctx) (G:E.P=Tryz.prog)=>b4g G n D (by omega);have h3:=b6H ⟨x,y,B,t⟩ ⟨X.m rfl,V.m rfl,W.m rfl⟩;have h4:=a0S h (J.m rfl);have h5:=a4C h (J.m rfl);have h6:=U4 h (J.m rfl);unfold a1v;simp only;generalize R5 n D=r at*;obtain⟨e1,m⟩:=r;generalize okF ⟨x,y,B,t⟩=q1 at*;generalize decide h.I4=q2 at*;generalize l7 h=q3 at*;generalize F3 (Nm.d9 h)=n4 at*;simp only[j4,TT,II,OA,OC,MM,LL,VV,FF,LG,FG];simp only[Sl.c,Sl.enc,Fr.c,Fr.enc,rc,sb,ints]at*
 (repeat first|refine uA ?_|simp(disch:=omega) only[go_sem,Nat.reduceAdd]|refine j5.t (l5.lift (k:=0) rfl (h1 _ rfl) rfl rfl rfl) ?_);apply S.cond rfl<;>intro u
 ·rw[if_pos (by simpa using u)]
  (exact uY rfl rfl (Imp.refl rfl) (by repeat first|refine uA ?_|refine⟨rfl,?_⟩|rfl|simp) (d0f A (by simp)))
 rw[if_neg (by simpa using u)];(repeat first|refine uA ?_|simp(disch:=omega) only[go_sem,Nat.reduceAdd]|(refine uD h3 ?_ ?_ ?_;exact F;exact rfl)|(refine uD h4 ?_ ?_ ?_;exact F;exact rfl)|(refine uD h5 ?_ ?_ ?_;exact F;exact rfl)|(refine uD h6 ?_ ?_ ?_;exact F;exact rfl));apply S.cond rfl<;>intro u
 ·rw[if_neg (by simp only[d0R,Bool.not_eq_true',d0t]at u;simp only[d0s,d0t];rintro⟨⟨⟨I,K⟩,H⟩,R⟩;rcases u with((u|u)|u)|u<;>first|(rw[u]at I;cases I;done)|(rw[u]at K;cases K;done)|(rw[u]at H;cases H;done)|omega)]
  (exact uY rfl rfl (Imp.refl rfl) (by repeat first|refine uA ?_|refine⟨rfl,?_⟩|rfl|simp) (d0f A (by simp)))
 ·rw[if_pos (by simp only[d0F,Bool.not_eq_false',d0x]at u;simp only[d0s,d0t];obtain⟨⟨⟨I,K⟩,H⟩,R⟩:=u;exact⟨⟨⟨I,K⟩,H⟩,by omega⟩)]
  (exact uY rfl rfl (Imp.refl rfl) (by repeat first|refine uA ?_|refine⟨rfl,?_⟩|rfl|simp) (d0f A (by simp)))
def c6P{E:Ctx}(D:E.P=Tryz.prog)(M:Tz E)(n:Nms)(g:Gt)(Y:Gb 1073741824 g) :
  l5 E [.map true (nmE n)] 181 [.mp 0,g.c] (ints (a1x n g).1) [.map true (nmE (a1x n g).2)] []:=by
 obtain⟨P,W,N,w0,X,ab,aa,Z⟩:=E;simp only at D;subst D;refine l5.ofT (eff:=eff) M Tryz.func181 (by cbv) (by exact d0n rfl) λw own av ν K J=>?_;have u:ν.length<=1:=by rw[K];exact d0m _
 obtain⟨A,⟨F,B⟩,⟨H,I⟩⟩:=g;obtain⟨b0,⟨O,U⟩,⟨R,T⟩⟩:=Y;simp only at b0 O U R T;have h1:=λ(E:Ctx) (D:E.P=Tryz.prog)=>b4g D n A (by omega);have V:=b0F [⟨F,B⟩,⟨H,I⟩] (Vbs.two (by decide) ⟨O.m rfl,U.m rfl⟩ ⟨R.m rfl,T.m rfl⟩);rw[a5Q]at V;have h4:=P8 F H (O.m rfl) (R.m rfl);have h5:=P8 B I (U.m rfl) (T.m rfl);unfold a1x;simp only;generalize R5 n A=r at*;obtain⟨e1,m⟩:=r;generalize(okV ⟨F,B⟩&&okV ⟨H,I⟩)=q1 at*;generalize Nm.A9 (Nm.d9 F) (Nm.d9 H)=n1 at*;generalize Nm.A9 (Nm.d9 B) (Nm.d9 I)=n2 at*;simp only[j4,TT,II,OA,OC,MM,LL,VV,FF,LG,FG];simp only[Gt.c,Gt.enc,vts,Vt.enc,rc,sb,ints,d0l,d0p]at*
 (repeat first|refine uA ?_|simp(disch:=omega) only[go_sem,Nat.reduceAdd]|refine j5.t (l5.lift (k:=0) rfl (h1 _ rfl) rfl rfl rfl) ?_);apply S.cond rfl<;>intro h
 ·rw[if_pos (by simpa using h)]
  (exact uY rfl rfl (Imp.refl rfl) (by repeat first|refine uA ?_|refine⟨rfl,?_⟩|rfl|simp) (d0f u (by simp)))
 rw[if_neg (by simpa using h)];(repeat first|refine uA ?_|simp(disch:=omega) only[go_sem,Nat.reduceAdd]|(refine uD h4 ?_ ?_ ?_;exact J;exact rfl)|(refine uD h5 ?_ ?_ ?_;exact J;exact rfl)|(refine uE V ?_ ?_ ?_ ?_;exact J;exact rfl;focus (repeat' first|exact j3.nil|exact Imp.refl rfl|exact Imp.frz rfl rfl rfl|(refine Imp.O0 rfl rfl ?_ ?_;(focus ((try simp only[d0c]);omega));(focus first|rfl|assumption))|refine j3.cons ?_ ?_);done));apply S.cond rfl<;>intro h
 ·rw[if_neg (by simp only[d0R,Bool.not_eq_true',d0t]at h;simp only[d0s,d0t];rintro⟨⟨G,h8⟩,h9⟩;rcases h with(h|h)|h<;>first|(rw[h]at G;cases G;done)|omega)]
  (exact uY rfl rfl (Imp.refl rfl) (by repeat first|refine uA ?_|refine⟨rfl,?_⟩|rfl|simp) (d0f u (by simp)))
 ·rw[if_pos (by simp only[d0F,Bool.not_eq_false',d0x]at h;simp only[d0s,d0t];obtain⟨⟨G,h8⟩,h9⟩:=h;exact⟨⟨G,by omega⟩,by omega⟩)]
  (exact uY rfl rfl (Imp.refl rfl) (by repeat first|refine uA ?_|refine⟨rfl,?_⟩|rfl|simp) (d0f u (by simp)))
def b9I{E:Ctx}(F:E.P=Tryz.prog)(K:Tz E)(n:Nms)(l:List Pt)(hn:l.length<=1073741824)(U:∀x∈l,Pb 1073741824 x) :
  l5 E [.map true (nmE n)] 176 [pts l,.bnd 177 (.mp 0)] (ints (H8 a1k n l).1) [.map true (nmE (H8 a1k n l).2)] []:=by
 obtain⟨P,O,N,w0,R,Z,W,V⟩:=E;simp only at F;subst F;refine l5.ofT (eff:=eff) K Tryz.func176 (by cbv) (by exact d0n rfl) λw own av ν J I=>?_;have h:ν.length<=1:=by rw[J];exact d0m _
 simp only[j4,TT,II,OA,OB,MM,LL,pts,ints];(repeat first|refine uA ?_|simp(disch:=omega) only[go_sem,Nat.reduceAdd,d0d]);refine S.loop (X:=Nat×Nms) (λx=>⟨[(1,.bnd 177 (.mp 0)),(8,pts l),(9,ints l.length),(10,ints x.1)],[.map true (nmE x.2)]⟩) (λx=>x.1<=l.length/\H8 a1k n l=H8 a1k x.2 (l.drop x.1)) (λx=>l.length-x.1) (0,n) ⟨d0k _,rfl⟩ (by repeat first|refine uA ?_|(refine⟨?_,?_⟩;· first|rfl|trivial|(simp[slot];done))|rfl|trivial|simp|exact d0f h (by simp)) ?_
 rintro⟨i,m⟩ ⟨hi,G⟩;simp only[pts,ints]at hi G ⊢;refine uV rfl ?_;apply uJ rfl<;>intro hc
 ·have M:i<l.length:=by omega
  have u:=d0b M;generalize l[i]=x at u;have D:=a0p (f:=a1k) (s:=m) u;have B:=a0n (f:=a1k) (s:=m) u;have T:=λ(E:Ctx) (F:E.P=Tryz.prog) (I:Tz E)=>c7L F I m x (U x (d0g u));generalize a1k m x=r at*;obtain⟨e,Y⟩:=r;simp only[Pt.c,Pt.enc,vts,sb,ints]at T D B;(repeat first|refine uA ?_|(apply uK;· first|omega|trivial|(intros;simp_all<;>omega))|simp(disch:=omega) only[go_sem,Nat.reduceAdd,Nat.reduceLeDiff,u,d0e,d0d,Pt.enc,vts,sb]|refine j5.t (l5.lift (k:=0) rfl (T _ rfl I) rfl rfl rfl) ?_);apply S.cond rfl<;>intro A
  ·rw[G,D (by simpa using A)]
   (exact uY rfl rfl (Imp.refl rfl) (by repeat first|refine uA ?_|refine⟨rfl,?_⟩|rfl|simp) (d0f h (by simp)))
  ·have H:e=0:=by simpa using A
   (repeat first|refine uA ?_|simp(disch:=omega) only[go_sem]);refine S.next (x:=(i,m)) (i+1,Y) ⟨by simp only;omega,by simp only;rw[G,B H]⟩ (by simp only;omega) (by repeat first|refine uA ?_|(refine⟨?_,?_⟩;· first|rfl|trivial|(simp[slot];done))|rfl|trivial|simp|exact d0f h (by simp))
 ·rw[G,a0Q (by omega)]
  (exact uY rfl rfl (Imp.refl rfl) (by repeat first|refine uA ?_|refine⟨rfl,?_⟩|rfl|simp) (d0f h (by simp)))
def b8C{E:Ctx}(F:E.P=Tryz.prog)(K:Tz E)(n:Nms)(l:List Sl)(hn:l.length<=1073741824)(U:∀x∈l,Sb 1073741824 x) :
  l5 E [.map true (nmE n)] 178 [sls l,.bnd 179 (.mp 0)] (ints (H8 a1v n l).1) [.map true (nmE (H8 a1v n l).2)] []:=by
 obtain⟨P,O,N,w0,R,Z,W,V⟩:=E;simp only at F;subst F;refine l5.ofT (eff:=eff) K Tryz.func178 (by cbv) (by exact d0n rfl) λw own av ν J I=>?_;have h:ν.length<=1:=by rw[J];exact d0m _
 simp only[j4,TT,II,OA,OB,MM,LL,sls,ints];(repeat first|refine uA ?_|simp(disch:=omega) only[go_sem,Nat.reduceAdd,d0d]);refine S.loop (X:=Nat×Nms) (λx=>⟨[(1,.bnd 179 (.mp 0)),(8,sls l),(9,ints l.length),(10,ints x.1)],[.map true (nmE x.2)]⟩) (λx=>x.1<=l.length/\H8 a1v n l=H8 a1v x.2 (l.drop x.1)) (λx=>l.length-x.1) (0,n) ⟨d0k _,rfl⟩ (by repeat first|refine uA ?_|(refine⟨?_,?_⟩;· first|rfl|trivial|(simp[slot];done))|rfl|trivial|simp|exact d0f h (by simp)) ?_
 rintro⟨i,m⟩ ⟨hi,G⟩;simp only[sls,ints]at hi G ⊢;refine uV rfl ?_;apply uJ rfl<;>intro hc
 ·have M:i<l.length:=by omega
  have u:=d0b M;generalize l[i]=x at u;have D:=a0p (f:=a1v) (s:=m) u;have B:=a0n (f:=a1v) (s:=m) u;have T:=λ(E:Ctx) (F:E.P=Tryz.prog) (I:Tz E)=>c8A F I m x (U x (d0g u));generalize a1v m x=r at*;obtain⟨e,Y⟩:=r;simp only[Sl.c,Sl.enc,sb,ints]at T D B;(repeat first|refine uA ?_|(apply uK;· first|omega|trivial|(intros;simp_all<;>omega))|simp(disch:=omega) only[go_sem,Nat.reduceAdd,Nat.reduceLeDiff,u,d0e,d0d,Sl.enc,sb]|refine j5.t (l5.lift (k:=0) rfl (T _ rfl I) rfl rfl rfl) ?_);apply S.cond rfl<;>intro A
  ·rw[G,D (by simpa using A)]
   (exact uY rfl rfl (Imp.refl rfl) (by repeat first|refine uA ?_|refine⟨rfl,?_⟩|rfl|simp) (d0f h (by simp)))
  ·have H:e=0:=by simpa using A
   (repeat first|refine uA ?_|simp(disch:=omega) only[go_sem]);refine S.next (x:=(i,m)) (i+1,Y) ⟨by simp only;omega,by simp only;rw[G,B H]⟩ (by simp only;omega) (by repeat first|refine uA ?_|(refine⟨?_,?_⟩;· first|rfl|trivial|(simp[slot];done))|rfl|trivial|simp|exact d0f h (by simp))
 ·rw[G,a0Q (by omega)]
  (exact uY rfl rfl (Imp.refl rfl) (by repeat first|refine uA ?_|refine⟨rfl,?_⟩|rfl|simp) (d0f h (by simp)))
def b9t{E:Ctx}(F:E.P=Tryz.prog)(K:Tz E)(n:Nms)(l:List Gt)(hn:l.length<=1073741824)(U:∀x∈l,Gb 1073741824 x) :
  l5 E [.map true (nmE n)] 180 [gts l,.bnd 181 (.mp 0)] (ints (H8 a1x n l).1) [.map true (nmE (H8 a1x n l).2)] []:=by
 obtain⟨P,O,N,w0,R,Z,W,V⟩:=E;simp only at F;subst F;refine l5.ofT (eff:=eff) K Tryz.func180 (by cbv) (by exact d0n rfl) λw own av ν J I=>?_;have h:ν.length<=1:=by rw[J];exact d0m _
 simp only[j4,TT,II,OA,OB,MM,LL,gts,ints];(repeat first|refine uA ?_|simp(disch:=omega) only[go_sem,Nat.reduceAdd,d0d]);refine S.loop (X:=Nat×Nms) (λx=>⟨[(1,.bnd 181 (.mp 0)),(8,gts l),(9,ints l.length),(10,ints x.1)],[.map true (nmE x.2)]⟩) (λx=>x.1<=l.length/\H8 a1x n l=H8 a1x x.2 (l.drop x.1)) (λx=>l.length-x.1) (0,n) ⟨d0k _,rfl⟩ (by repeat first|refine uA ?_|(refine⟨?_,?_⟩;· first|rfl|trivial|(simp[slot];done))|rfl|trivial|simp|exact d0f h (by simp)) ?_
 rintro⟨i,m⟩ ⟨hi,G⟩;simp only[gts,ints]at hi G ⊢;refine uV rfl ?_;apply uJ rfl<;>intro hc
 ·have M:i<l.length:=by omega
  have u:=d0b M;generalize l[i]=x at u;have D:=a0p (f:=a1x) (s:=m) u;have B:=a0n (f:=a1x) (s:=m) u;have T:=λ(E:Ctx) (F:E.P=Tryz.prog) (I:Tz E)=>c6P F I m x (U x (d0g u));generalize a1x m x=r at*;obtain⟨e,Y⟩:=r;simp only[Gt.c,Gt.enc,sb,ints]at T D B;(repeat first|refine uA ?_|(apply uK;· first|omega|trivial|(intros;simp_all<;>omega))|simp(disch:=omega) only[go_sem,Nat.reduceAdd,Nat.reduceLeDiff,u,d0e,d0d,Gt.enc,sb]|refine j5.t (l5.lift (k:=0) rfl (T _ rfl I) rfl rfl rfl) ?_);apply S.cond rfl<;>intro A
  ·rw[G,D (by simpa using A)]
   (exact uY rfl rfl (Imp.refl rfl) (by repeat first|refine uA ?_|refine⟨rfl,?_⟩|rfl|simp) (d0f h (by simp)))
  ·have H:e=0:=by simpa using A
   (repeat first|refine uA ?_|simp(disch:=omega) only[go_sem]);refine S.next (x:=(i,m)) (i+1,Y) ⟨by simp only;omega,by simp only;rw[G,B H]⟩ (by simp only;omega) (by repeat first|refine uA ?_|(refine⟨?_,?_⟩;· first|rfl|trivial|(simp[slot];done))|rfl|trivial|simp|exact d0f h (by simp))
 ·rw[G,a0Q (by omega)]
  (exact uY rfl rfl (Imp.refl rfl) (by repeat first|refine uA ?_|refine⟨rfl,?_⟩|rfl|simp) (d0f h (by simp)))
def b9A(l:List (List Vt))(N:l.length<=1073741824)(I:∀x∈l,Vbs 1073741824 x):FZ 174 [wls l,.v (.func (.func 175) #[] #[])] (ints (G7 U3 l)):=by
 refine kW Tryz.func174 (by cbv) (by rfl) λw O J=>?_;have A:callable Tryz.prog 175=true:=by kernel_rfl
 simp only[j4,TT,II,OA,MM,VV,wls,ints];(repeat first|refine uA ?_|simp(disch:=omega) only[go_sem,Nat.reduceAdd,d0d]);refine S.loop (X:=Nat) (λi=>⟨[(1,.v (.func (.func 175) #[] #[])),(8,wls l),(9,ints l.length),(10,ints i)],[]⟩) (λi=>i<=l.length/\G7 U3 l=G7 U3 (l.drop i)) (λi=>l.length-i) 0 ⟨d0k _,rfl⟩ (by repeat first|refine uA ?_|refine⟨rfl,?_⟩|rfl|simp) ?_
 rintro i ⟨K,B⟩;simp only[wls,ints]at K B ⊢;refine uV rfl ?_;apply uJ rfl<;>intro M
 ·have F:i<l.length:=by omega
  have h:=d0b F;generalize l[i]=x at h;have G:=a0s (f:=U3) h;have E:=a0r (f:=U3) h;have H:=b6r x (I x (d0g h));generalize U3 x=e at*;simp only[ints]at H;(repeat first|refine uA ?_|(apply uK;· first|omega|trivial|(intros;simp_all<;>omega))|simp(disch:=omega) only[go_sem,h,d0e,d0d,A]|refine uD H (tz J) rfl ?_);apply S.cond rfl<;>intro u
  ·rw[B,G (by simpa using u)];exact uT rfl rfl rfl
  ·have D:e=0:=by simpa using u
   (repeat first|refine uA ?_|simp(disch:=omega) only[go_sem]);refine S.next (i+1) ⟨by omega,by rw[B,E D]⟩ (by omega) (by repeat first|refine uA ?_|refine⟨rfl,?_⟩|rfl|simp)
 ·rw[B,a0N (by omega)];exact uT rfl rfl rfl
def rsW(w:Wk)(n:Nms):List Res:=[.box 31 w.enc,.map true (nmE n),.box 270 [.mp 1]]
def c3u{E:Ctx}(u:E.P=Tryz.prog)(D:Tz E)(w:Wk)(n:Nms)(a:Am)(J:Ab 1073741824 a) :
  l5 E (rsW w n) 171 [a.c,.bp 2 0] (ints (a2G n a).1) (rsW w (a2G n a).2) []:=by
 obtain⟨P,O,N,w0,R,aa,X,W⟩:=E;simp only at u;subst u;refine l5.ofT (eff:=eff) D Tryz.func171 (by cbv) (by exact d0n rfl) λw' own av ν B Y=>?_;have h:ν.length<=3:=by rw[B];exact d0m _
 have b0:=J.1;have h2:=a6D a J;have Z:=λ(E:Ctx) (u:E.P=Tryz.prog)=>b4g u n a.name (by omega);unfold a2G;generalize R5 n a.name=r at*;obtain⟨e1,m⟩:=r;generalize J2 a=e2 at*;obtain⟨V,⟨x,y,K,t⟩,H⟩:=a;obtain⟨U,G,A,I,F,T⟩:=w;simp only[j4,TT,II,OA,MM,LL,VV,FF];simp only[Am.c,Am.enc,lks,sb,ints,rsW,Wk.enc,ams,wls,pts,sls,gts]at*;(repeat first|refine uA ?_|simp(disch:=omega) only[go_sem,Nat.reduceAdd]|(refine uD h2 ?_ ?_ ?_;exact Y;exact rfl));apply S.cond rfl<;>intro M
 ·rw[if_pos (by simpa using M)]
  (exact uY rfl rfl (Imp.refl rfl) (by repeat first|refine uA ?_|refine⟨rfl,?_⟩|rfl|simp) (d0f h (by simp)))
 rw[if_neg (by simpa using M)];(repeat first|refine uA ?_|simp(disch:=omega) only[go_sem,Nat.reduceAdd]|refine j5.t (l5.lift (k:=1) rfl (Z _ rfl) rfl rfl rfl) ?_);(exact uR rfl (Imp.refl rfl) (by repeat first|refine uA ?_|refine⟨rfl,?_⟩|rfl|simp) (d0f h (by simp)))
def c1E{E:Ctx}(G:E.P=Tryz.prog)(M:Tz E)(w:Wk)(n:Nms)(l:List Am)(hn:l.length<=1073741824)(V:∀x∈l,Ab 1073741824 x) :
  l5 E (rsW w n) 173 [ams l,.clo 171 [.bp 2 0]] (ints (H8 a2G n l).1) (rsW w (H8 a2G n l).2) []:=by
 obtain⟨P,R,N,w0,T,aa,Y,W⟩:=E;simp only at G;subst G;refine l5.ofT (eff:=eff) M Tryz.func173 (by cbv) (by exact d0n rfl) λw' own av ν K J=>?_;have h:ν.length<=3:=by rw[K];exact d0m _
 have B:callable Tryz.prog 171=true:=by kernel_rfl
 simp only[j4,TT,II,OA,OB,MM,LL,ams,ints];simp only[rsW,Wk.enc,ams,wls,pts,sls,gts];(repeat first|refine uA ?_|simp(disch:=omega) only[go_sem,Nat.reduceAdd,d0d]);refine S.loop (X:=Nat×Nms) (λx=>⟨[(1,.clo 171 [.bp 2 0]),(8,ams l),(9,ints l.length),(10,ints x.1)],rsW w x.2⟩) (λx=>x.1<=l.length/\H8 a2G n l=H8 a2G x.2 (l.drop x.1)) (λx=>l.length-x.1) (0,n) ⟨d0k _,rfl⟩ (by simp only[rsW,Wk.enc,ams,wls,pts,sls,gts];exact(by repeat first|refine uA ?_|(refine⟨?_,?_⟩;· first|rfl|simp[slot])|rfl|simp|exact d0f h (by simp))) ?_
 rintro⟨i,m⟩ ⟨hi,H⟩;simp only[ams,ints,rsW,Wk.enc,wls,pts,sls,gts]at hi H ⊢;refine uV rfl ?_;apply uJ rfl<;>intro hc
 ·have O:i<l.length:=by omega
  have u:=d0b O;generalize l[i]=x at u;have F:=a0p (f:=a2G) (s:=m) u;have D:=a0n (f:=a2G) (s:=m) u;have U:=λ(E:Ctx) (G:E.P=Tryz.prog) (J:Tz E)=>c3u G J w m x (V x (d0g u));generalize a2G m x=r at*;obtain⟨e,Z⟩:=r;simp only[Am.c,Am.enc,lks,sb,ints,rsW,Wk.enc,ams,wls,pts,sls,gts]at U F D;(repeat first|refine uA ?_|simp(disch:=omega) only[go_sem,Nat.reduceAdd,u,d0e,d0d,Am.enc,lks,sb,B]|refine j5.t (l5.ext _ (U _ rfl J) rfl rfl rfl) ?_);apply S.cond rfl<;>intro A
  ·rw[H,F (by simpa using A)]
   (exact uY rfl rfl (Imp.refl rfl) (by repeat first|refine uA ?_|refine⟨rfl,?_⟩|rfl|simp) (d0f h (by simp)))
  ·have I:e=0:=by simpa using A
   (repeat first|refine uA ?_|simp(disch:=omega) only[go_sem]);refine S.next (x:=(i,m)) (i+1,Z) ⟨by simp only;omega,by simp only;rw[H,D I]⟩ (by simp only;omega) (by repeat first|refine uA ?_|(refine⟨?_,?_⟩;· first|rfl|simp[slot])|rfl|simp|exact d0f h (by simp))
 ·rw[H,a0Q (by omega)]
  (exact uY rfl rfl (Imp.refl rfl) (by repeat first|refine uA ?_|refine⟨rfl,?_⟩|rfl|simp) (d0f h (by simp)))
def c2Q(w:Wk)(hb:Wb 1073741824 w):FZ 135 [w.c] (ints (a3e w)):=by
 refine kW b2q b2B (by rfl) λw' O M=>?_;have A:Tz ⟨Tryz.prog,eff,a4D.ntmps,w',λ_=>False,O,[],[]⟩:=tz M;obtain⟨⟨n1,b1⟩,⟨n2,b2⟩,⟨n3,b3⟩,⟨n4,b4⟩,⟨n5,b5⟩,b6⟩:=hb;have h1:=λ(E:Ctx) (hP:E.P=Tryz.prog) (A:Tz E)=>c1E hP A w [] w.arms n1 b1;have h2:=b9A w.walls n2 b2;unfold a3e b1P;generalize H8 a2G [] w.arms=r1 at*;obtain⟨e1,m1⟩:=r1;have h3:=λ(E:Ctx) (hP:E.P=Tryz.prog) (A:Tz E)=>b9I hP A m1 w.parts n3 b3;simp only at h3 ⊢;generalize H8 a1k m1 w.parts=r3 at*;obtain⟨e3,m3⟩:=r3;have h4:=λ(E:Ctx) (hP:E.P=Tryz.prog) (A:Tz E)=>b8C hP A m3 w.slots n4 b4;simp only at h4 ⊢;generalize H8 a1v m3 w.slots=r4 at*;obtain⟨e4,m4⟩:=r4
 have h5:=λ(E:Ctx) (hP:E.P=Tryz.prog) (A:Tz E)=>b9t hP A m4 w.gates n5 b5;simp only at h5 ⊢;generalize H8 a1x m4 w.gates=r5 at*;obtain⟨e5,m5⟩:=r5;generalize G7 U3 w.walls=e2 at*;simp only;have h6:=a0S w.walk (b6.m rfl);have h7:=a4C w.walk (b6.m rfl);have h8:=U4 w.walk (b6.m rfl);unfold b4d;generalize decide w.walk.I4=q1 at*;generalize l7 w.walk=q2 at*;generalize F3 (Nm.d9 w.walk)=s8 at*;obtain⟨I,F,B,G,D,h⟩:=w;simp only[a4D,j4,TT,II,OA,OB,OC,MM,LL,VV,FF,LG,VG,FG]at A ⊢;simp only[Wk.c,Wk.enc,rsW,ams,wls,pts,sls,gts,rc,sb,ints]at*;(repeat first|refine uA ?_|simp(disch:=omega) only[go_sem,Nat.reduceAdd,d0d]);apply S.cond rfl<;>intro u
 ·rw[if_pos (by simp only[d0R,d0t]at u;omega)];exact uT rfl rfl rfl
 rw[if_neg (by simp only[d0F,d0x]at u;omega)];(repeat first|refine uA ?_|simp(disch:=omega) only[go_sem,Nat.reduceAdd,d0d]);apply S.cond rfl<;>intro u
 ·rw[if_pos (by simp only[d0t]at u;omega)];exact uT rfl rfl rfl
 rw[if_neg (by simp only[d0x]at u;omega)];(repeat first|refine uI ?_|(apply uK;· first|omega|(intros;simp_all<;>omega))|simp(disch:=omega) only[go_sem,Nat.reduceAdd]);refine S.a1d [.box 31 [.sl 12 (I.map Am.enc),.sl 1 (F.map λs=>[vts s]),.sl 12 (B.map Pt.enc),.sl 14 (G.map Sl.enc),.sl 13 (D.map Gt.enc),.v (.bool h.neg),.v (.string (bs h.num)),.v (.string (bs h.den))],.gone,.box 270 [.mp 1]] (by simp[Eng.J7,Eng.Q6]) ?_
 (repeat first|refine uA ?_|simp(disch:=omega) only[go_sem,Nat.reduceAdd]|refine j5.t (h1 _ rfl A) ?_|refine j5.t (l5.lift (k:=1) rfl (h3 _ rfl A) rfl rfl rfl) ?_|refine j5.t (l5.lift (k:=1) rfl (h4 _ rfl A) rfl rfl rfl) ?_|refine j5.t (l5.lift (k:=1) rfl (h5 _ rfl A) rfl rfl rfl) ?_|refine uD h2 (tz M) rfl ?_);generalize hL:[e1,e2,e3,e4,e5]=L;have W:L.length=5:=by rw[<- hL];rfl
 have Z:[[C.v (Value.int IntKind.i64 e1)],[C.v (Value.int IntKind.i64 e2)],[C.v (Value.int IntKind.i64 e3)],[C.v (Value.int IntKind.i64 e4)],[C.v (Value.int IntKind.i64 e5)]]=L.map λe=>[C.v (Value.int IntKind.i64 e)]:=by rw[<- hL];rfl
 simp only[Z];refine S.loop (X:=Nat) (λi=>⟨[(1,.bp 0 0),(63,.sl 1 (L.map λe=>[.v (.int .i64 e)])),(64,ints 5),(65,ints i)],[.box 31 [.sl 12 (I.map Am.enc),.sl 1 (F.map λs=>[vts s]),.sl 12 (B.map Pt.enc),.sl 14 (G.map Sl.enc),.sl 13 (D.map Gt.enc),.v (.bool h.neg),.v (.string (bs h.num)),.v (.string (bs h.den))]]⟩) (λi=>i<=5/\G7 id L=G7 id (L.drop i)) (λi=>5-i) 0 ⟨d0k _,rfl⟩ (by repeat first|refine uA ?_|refine⟨rfl,?_⟩|rfl|simp) ?_;rintro i ⟨hi,T⟩;simp only[ints]at hi T ⊢;refine uV rfl ?_;apply uJ rfl<;>intro u
 ·have Y:i<L.length:=by omega
  have H:=d0b Y;generalize L[i]=x at H;have N:=a0s (f:=id) H;have K:=a0r (f:=id) H;simp only[id]at N K;(repeat first|refine uA ?_|simp(disch:=omega) only[go_sem,H,d0e,d0d,W]);apply S.cond rfl<;>intro J
  ·have h0:x≠0:=by simpa using J
   rw[T,N h0,if_pos h0];exact uT rfl rfl rfl
  ·have V:x=0:=by simpa using J
   (repeat first|refine uA ?_|simp(disch:=omega) only[go_sem]);refine S.next (i+1) ⟨by omega,by rw[T];exact K V⟩ (by omega) (by repeat first|refine uA ?_|refine⟨rfl,?_⟩|rfl|simp)
 ·rw[T,a0N (by omega),if_neg (by decide)];(repeat first|refine uA ?_|simp(disch:=omega) only[go_sem,Nat.reduceAdd]|refine uD h6 (tz M) rfl ?_|refine uD h7 (tz M) rfl ?_|refine uD h8 (tz M) rfl ?_);apply S.cond rfl<;>intro u
  ·rw[if_neg (by simp only[d0R,Bool.not_eq_true',d0t]at u;simp only[d0s,d0t];rintro⟨⟨R,U⟩,g9⟩;rcases u with(u|u)|u<;>first|(rw[u]at R;cases R;done)|(rw[u]at U;cases U;done)|omega)];exact uT rfl rfl rfl
  ·rw[if_pos (by simp only[d0F,Bool.not_eq_false',d0x]at u;simp only[d0s,d0t];obtain⟨⟨R,U⟩,g9⟩:=u;exact⟨⟨R,U⟩,by omega⟩)];exact uT rfl rfl rfl
set_option maxRecDepth 100000
set_option maxHeartbeats 16000000
set_option maxRecDepth 10000
set_option maxHeartbeats 4000000
def a2w(h:Bool)(t:Rat):Rat:=if h then -1 else(1-t*t)/(1+t*t)
def a0v(t:Rat):Rat:=(t+t)/(1+t*t)
def sq_nonneg(t:Rat):0<=t*t:=by
 rcases Rat.le_total (a:=0) (b:=t) with h|h
 ·exact Rat.mul_nonneg h h
 ·have u:0<=-t:=by grind
  have:=Rat.mul_nonneg u u;grind
def b1g(t:Rat):1+t*t≠0:=by
 have:=sq_nonneg t;intro h;have u:(0:Rat)<1:=by decide
 grind
def V7:Rb 8 (Nm.ofQ 1):=⟨Nm.O1 (by decide),Nm.O1 (by decide)⟩
def c8D(h:Bool)(a:Nm.Rt)(G:Rb 4294967296 a):FZ 247 [tc h a] (rq (a2w h (M8 h a))):=by
 refine kW Tryz.func247 (by cbv) (by rfl) λw O u=>?_;have J:=c1w h a (G.m rfl);have H:=a2M 1 (by decide) (by decide);have A:=a2M (-1) (by decide) (by decide);rw[show((1:Int):Rat)=1 from rfl]at H;rw[show((-1:Int):Rat)=-1 from rfl]at A;have B:Rb 4294967296 (Nm.ofQ (M8 h a)):=by
  unfold M8;cases h
  ·exact G.g rfl
  ·simp only[if_true];rw[Nm.a6i];exact⟨by decide,by decide⟩
 generalize M8 h a=t at*;have F:=a3k t t (B.m rfl) (B.m rfl);have D:=L6 B B;have K:=a7d 1 (t*t) (V7.m rfl) (D.m rfl);have N:=a3l 1 (t*t) (V7.m rfl) (D.m rfl);have I:=b9h (1-t*t) (1+t*t) ((R6 V7 D).m rfl) ((O4 V7 D).m rfl);rw[show a4E (1-t*t) (1+t*t)=Nm.ofQ ((1-t*t)/(1+t*t)) by unfold a4E;rw[if_neg (b1g t)]]at I;unfold a2w;cases h
 ·simp only[d0P,if_false];generalize(1-t*t)/(1+t*t)=r at*;unfold tq rq at*;generalize Nm.ofQ t=P at*;generalize Nm.ofQ (t*t)=V at*;generalize Nm.ofQ (1-t*t)=R at*;generalize Nm.ofQ (1+t*t)=T at*;generalize Nm.ofQ r=U at*;generalize Nm.ofQ 1=M at*;simp only[j4,TT,II,OA,OB,MM,LL,VV,FF];simp only[rc,tc,sb,ints]at*;(repeat first|refine uA ?_|simp(disch:=omega) only[go_sem,Nat.reduceAdd]|refine uD J (tz u) rfl ?_);refine S.cond rfl (λE=>by cases E) (λ_=>?_)
  (repeat first|refine uA ?_|simp(disch:=omega) only[go_sem,Nat.reduceAdd]|refine uD F (tz u) rfl ?_|refine uD H (tz u) rfl ?_|refine uD K (tz u) rfl ?_|refine uD N (tz u) rfl ?_|refine uD I (tz u) rfl ?_);(exact uS rfl rfl)
 ·simp only[if_true];unfold tq rq at*;generalize Nm.ofQ t=P at*;generalize Nm.ofQ (-1)=M at*;simp only[j4,TT,II,OA,OB,MM,LL,VV,FF];simp only[rc,tc,sb,ints]at*;(repeat first|refine uA ?_|simp(disch:=omega) only[go_sem,Nat.reduceAdd]|refine uD J (tz u) rfl ?_);refine S.cond rfl (λ_=>?_) (λE=>by cases E)
  (repeat first|refine uA ?_|simp(disch:=omega) only[go_sem,Nat.reduceAdd]|refine uD A (tz u) rfl ?_);(exact uS rfl rfl)
def b2H{k:Nat}{h:Bool}{a:Nm.Rt}(A:Rb k a)(u:1<=k):Rb k (Nm.ofQ (M8 h a)):=by
 unfold M8;cases h
 ·exact A.fit u
 ·simp only[if_true];rw[Nm.a6i];exact⟨d0k _,u⟩
def b4p(h:Bool)(a:Nm.Rt)(E:Rb 4294967296 a):FZ 248 [tc h a] (rq (a0v (M8 h a))):=by
 refine kW Tryz.func248 (by cbv) (by rfl) λw O A=>?_;have J:=c1w h a (E.m rfl);have F:=a2M 1 (by decide) (by decide);rw[show((1:Int):Rat)=1 from rfl]at F;have u:Rb 4294967296 (Nm.ofQ (M8 h a)):=b2H E (by decide);generalize M8 h a=t at*;have B:=a3k t t (u.m rfl) (u.m rfl);have D:=L6 u u;have H:=a3l t t (u.m rfl) (u.m rfl);have I:=a3l 1 (t*t) (V7.m rfl) (D.m rfl);have G:=b9h (t+t) (1+t*t) ((O4 u u).m rfl) ((O4 V7 D).m rfl);rw[show a4E (t+t) (1+t*t)=Nm.ofQ ((t+t)/(1+t*t)) by unfold a4E;rw[if_neg (b1g t)]]at G;unfold a0v;generalize(t+t)/(1+t*t)=r at*;unfold tq rq at*;generalize Nm.ofQ t=T at*;generalize Nm.ofQ (t*t)=R at*
 generalize Nm.ofQ (t+t)=K at*;generalize Nm.ofQ (1+t*t)=M at*;generalize Nm.ofQ r=N at*;generalize Nm.ofQ 1=P at*;simp only[j4,TT,II,OA,OB,MM,LL,FF];simp only[rc,tc,sb,ints]at*;(repeat first|refine uA ?_|simp(disch:=omega) only[go_sem,Nat.reduceAdd]|refine uD J (tz A) rfl ?_|refine uD B (tz A) rfl ?_|refine uD F (tz A) rfl ?_|refine uD H (tz A) rfl ?_|refine uD I (tz A) rfl ?_|refine uD G (tz A) rfl ?_);(exact uS rfl rfl)
open Go Eng
def c1k{k:Nat}{t:Rat}(h:Bool)(A:Rb k (Nm.ofQ t)):Rb (4*k+18) (Nm.ofQ (a2w h t)):=by
 unfold a2w;have u:=L6 A A;have B:=R6 V7 u;have D:=O4 V7 u;cases h
 ·exact(b1d (b1g t) B D).mono (by omega)
 ·exact(a1Q V7).mono (by omega)
def c7h(f:Fr)(c:Vt):Rat:=Nm.d9 f.x+(Nm.d9 c.x*a2w f.half (M8 f.half f.t)-Nm.d9 c.y*a0v (M8 f.half f.t))
def c7c(f:Fr)(c:Vt):Rat:=Nm.d9 f.y+(Nm.d9 c.x*a0v (M8 f.half f.t)+Nm.d9 c.y*a2w f.half (M8 f.half f.t))
def c4B(h1:Bool)(t1:Rat)(h2:Bool)(t2:Rat):Bool×Rat:=
 if h1&&h2 then(false,0) else if h1 then(if t2=0 then(true,0) else(false,-1/t2)) else if h2 then(if t1=0 then(true,0) else(false,-1/t1)) else if 1-t1*t2=0 then(true,0) else(false,(t1+t2)/(1-t1*t2))
set_option maxRecDepth 100000
set_option maxRecDepth 10000
set_option maxHeartbeats 8000000
def a4n(a:Am)(n:Int):Int:=if J2 a≠0 then J2 a else if n≠a.links.length then 1 else 0
def c0L(a:Am)(n:Int)(F:Ab 1073741824 a):FZ 111 [a.c,ints n] (ints (a4n a n)):=by
 refine kW Tryz.func111 (by cbv) (by rfl) λw O E=>?_;have h:=a6D a F;unfold a4n;generalize J2 a=e at*;obtain⟨B,⟨x,y,D,t⟩,A⟩:=a;simp only[j4,TT,II,OA,MM,LL,VV,FF];simp only[Am.c,Am.enc,lks,sb,ints]at*;(repeat first|refine uA ?_|simp(disch:=omega) only[go_sem,Nat.reduceAdd]|refine uD h (tz E) rfl ?_);apply S.cond rfl<;>intro u
 ·rw[if_pos (by simpa using u)];exact uT rfl rfl rfl
 rw[if_neg (by simpa using u)];(repeat first|refine uA ?_|simp(disch:=omega) only[go_sem,Nat.reduceAdd,d0d]);apply S.cond rfl<;>intro u
 ·rw[if_pos (by simpa using u)];exact uT rfl rfl rfl
 ·rw[if_neg (by simpa using u)];exact uT rfl rfl rfl
def a9l(x:Lk×Nm.Rt):Int:=if Nm.A9 (Nm.d9 x.2) (Nm.d9 x.1.low)<0\/0<Nm.A9 (Nm.d9 x.2) (Nm.d9 x.1.high) then 17 else 0
def c3S(a:Am)(q:List Nm.Rt):Y1 a q=if a4n a q.length≠0 then a4n a q.length else G7 a9l (a.links.zip q):=by
 unfold Y1 a4n;by_cases h:J2 a=0
 ·rw[if_neg (by simp[h])];by_cases u:q.length=a.links.length
  ·simp[h,u];rfl
  ·have A:¬(q.length:Int)=a.links.length:=by omega
   simp[h,u,A]
 ·simp[h]
def M5{α β:Type}{l:List α}{m:List β}{i:Nat}{x:α}{y:β}(h:l[i]?=some x)(k:m[i]?=some y):(l.zip m)[i]?=some (x,y):=by
 rw[List.getElem?_zip_eq_some];exact⟨h,k⟩
def b4E(a:Am)(q:List Nm.Rt)(hl:Ab 1073741824 a)(hq:Rbs 1073741824 q):FZ 68 [a.c,rts q] (ints (Y1 a q)):=by
 refine kW Tryz.func68 (by cbv) (by rfl) λw O J=>?_;have h:=c0L a q.length hl;rw[c3S];have A:a4n a q.length=0->q.length=a.links.length:=by
  unfold a4n;intro h;split at h
  ·rename_i G;exact absurd h G
  ·split at h
   ·cases h
   ·rename_i G;have:=Classical.not_not.1 G;omega
 generalize a4n a q.length=e at*;obtain⟨ac,K⟩:=hq;obtain⟨aa,⟨x,y,T,t⟩,u⟩:=a;obtain⟨b0,⟨b1,b2,b3⟩,hn,R⟩:=hl;simp only at b0 b1 b2 b3 hn R A;simp only[j4,TT,II,OA,OB,OC,MM,LL,VV,FF,MG,LG,FG];simp only[Am.c,Am.enc,lks,sb,ints,rts]at*;(repeat first|refine uA ?_|simp(disch:=omega) only[go_sem,Nat.reduceAdd,d0d]|refine uD h (tz J) rfl ?_);apply S.cond rfl<;>intro I
 ·rw[if_pos (by simpa using I)];exact uT rfl rfl rfl
 rw[if_neg (by simpa using I)];have A:=A (by simpa using I);(repeat first|refine uA ?_|simp(disch:=omega) only[go_sem,Nat.reduceAdd,d0d]);refine S.loop (X:=Nat) (λi=>⟨[(1,rts q),(16,lks u),(17,ints u.length),(18,ints i)],[]⟩) (λi=>i<=u.length/\G7 a9l (u.zip q)=G7 a9l ((u.zip q).drop i)) (λi=>u.length-i) 0 ⟨d0k _,rfl⟩ (by repeat first|refine uA ?_|refine⟨rfl,?_⟩|rfl|simp) ?_
 rintro i ⟨hi,M⟩;simp only[rts,lks,ints];refine uV rfl ?_;apply uJ rfl<;>intro I
 ·have N:i<u.length:=by omega
  have D:=d0b N;have E:=d0b (show i<q.length by omega);generalize u[i]=x at D;generalize q[i]'_=v at E;have V:=M5 D E;have F:=a0s (f:=a9l) V;have B:=a0r (f:=a9l) V;have W:=R x (d0g D);have Y:=(K v (d0g E)).mono (m:=17179869184) (by decide);have G:=P8 v x.low Y (W.2.1.m rfl);have h2:=P8 v x.high Y (W.2.2.1.m rfl);unfold a9l at F B;simp only at F B;generalize Nm.A9 (Nm.d9 v) (Nm.d9 x.low)=Z at*;generalize Nm.A9 (Nm.d9 v) (Nm.d9 x.high)=U at*;have ab:(i:Int)<q.length:=by omega
  simp only[rc,sb,ints]at G h2;(repeat first|refine uA ?_|simp(disch:=omega) only[go_sem,Nat.reduceAdd,D,E,d0e,d0d,Lk.enc,rcs,vts,sb,d0h]|refine uD G (tz J) rfl ?_|refine uD h2 (tz J) rfl ?_);apply S.cond rfl<;>intro H
  ·have P:Z<0\/0<U:=by simpa using H
   rw[if_pos P]at F;rw[M,show a9l=λx:Lk×Nm.Rt=>if Nm.A9 (Nm.d9 x.2) (Nm.d9 x.1.low)<0\/0<Nm.A9 (Nm.d9 x.2) (Nm.d9 x.1.high) then 17 else 0 from rfl,F (by decide)];exact uT rfl rfl rfl
  ·have P:¬(Z<0\/0<U):=by simpa using H
   rw[if_neg P]at B;(repeat first|refine uA ?_|simp(disch:=omega) only[go_sem]);refine S.next (i+1) ⟨by omega,?_⟩ (by omega) (by repeat first|refine uA ?_|refine⟨rfl,?_⟩|rfl|simp)
   rw[M,show a9l=λx:Lk×Nm.Rt=>if Nm.A9 (Nm.d9 x.2) (Nm.d9 x.1.low)<0\/0<Nm.A9 (Nm.d9 x.2) (Nm.d9 x.1.high) then 17 else 0 from rfl,B rfl]
 ·rw[M,a0N (by rw[List.length_zip];omega)];exact uT rfl rfl rfl
set_option maxRecDepth 100000
set_option maxHeartbeats 4000000
def a2B{a:Nm.Rt}(h:l7 a=true):Rb 3 a:=by
 unfold l7 at h;simp only[d0s,d0t]at h;exact⟨h.1.1.1.1,by have:=h.1.1.1.2;omega⟩
def a0O{a:Nm.Rt}(h:l7 a=true):Rb 1048576 a:=(a2B h).m rfl
theorem b3N{α:Type}{f:α->Int}:∀{l:List α},G7 f l=0->∀x∈l,f x=0
 | [],_,x,hx=>by cases hx
 | y::l,h,x,hx=>by
  rw[G7]at h;split at h
  ·rename_i h0;rcases List.mem_cons.1 hx with rfl|hx
   ·exact h0
   ·exact b3N h x hx
  ·rename_i h0;exact absurd h h0
def c1O{l:List Vt}(h:a0f l 8=0):l.length<=8:=by
 unfold a0f at h;split at h
 ·cases h
 ·omega
def b9d{l:Lk}(h:a0Y l=0):Lb 1048576 l/\Nm.A9 (Nm.d9 l.low) (Nm.d9 l.high)<0/\0<F3 (Nm.d9 l.speed):=by
 unfold a0Y at h;split at h
 ·cases h
 rename_i B;split at h
 ·cases h
 rename_i G;split at h
 ·rename_i A;exact absurd h A
 rename_i A;split at h
 ·rename_i D;have u:(l7 l.length&&l7 l.low&&l7 l.high&&l7 l.speed&&l7 l.brake)=true:=by
   cases F:(l7 l.length&&l7 l.low&&l7 l.high&&l7 l.speed&&l7 l.brake) with
   | true=>rfl
   | false=>exact absurd (.inl F) B
  simp only[d0s]at u;obtain⟨⟨⟨⟨K,J⟩,H⟩,N⟩,I⟩:=u;have M:=c1O (Classical.not_not.1 A);rw[List.all_eq_true]at D;refine⟨⟨a0O K,a0O J,a0O H,a0O N,a0O I,by omega,λv E=>?_⟩,?_,?_⟩
  ·have:=D v E;simp only[d0s]at this;exact⟨a0O this.1,a0O this.2⟩
  ·have:¬0<=Nm.A9 (Nm.d9 l.low) (Nm.d9 l.high):=λh=>B (.inr (.inr h));omega
  ·have:¬F3 (Nm.d9 l.speed)<=0:=λh=>G (.inl h);omega
 ·cases h
def R9{a:Am}(h:J2 a=0):Ab 1048576 a/\∀l∈a.links,a0Y l=0:=by
 unfold J2 at h;split at h
 ·cases h
 rename_i F;split at h
 ·cases h
 split at h
 ·cases h
 rename_i G E;have H:a.name.length<=12:=by
  have:a1G a.name=true:=by simpa using F
  unfold a1G at this;simp only[d0s,d0t]at this;exact this.2
 have u:(l7 a.base.x&&l7 a.base.y&&l7 a.base.t)=true:=by
  cases D:(l7 a.base.x&&l7 a.base.y&&l7 a.base.t) with
  | true=>rfl
  | false=>exact absurd (.inr (.inl D)) E
 simp only[d0s]at u;have B:=b3N h;exact⟨⟨by omega,⟨a0O u.1.1,a0O u.1.2,a0O u.2⟩,by omega,λl A=>(b9d (B l A)).1⟩,B⟩
theorem Fb.mono{k m:Nat}{f:Fr}(h:Fb k f)(u:k<=m):Fb m f:=⟨h.1.mono u,h.2.1.mono u,h.2.2.mono u⟩
theorem Fb.m{k m:Nat}{f:Fr}(h:Fb k f)(e:Nat.ble k m=true):Fb m f:=h.mono (d0n e)
theorem Vbs.mono{k m:Nat}{l:List Vt}(h:Vbs k l)(u:k<=m):Vbs m l:=⟨d0f h.1 u,λv A=>⟨(h.2 v A).1.mono u,(h.2 v A).2.mono u⟩⟩
theorem Vbs.m{k m:Nat}{l:List Vt}(h:Vbs k l)(e:Nat.ble k m=true):Vbs m l:=h.mono (d0n e)
theorem Ab.mono{k m:Nat}{a:Am}(h:Ab k a)(u:k<=m):Ab m a:=⟨d0f h.1 u,h.2.1.mono u,d0f h.2.2.1 u,λl D=>by
 obtain⟨E,B,A,F,G,H⟩:=h.2.2.2 l D;exact⟨E.mono u,B.mono u,A.mono u,F.mono u,G.mono u,H.mono u⟩⟩
theorem Ab.m{k m:Nat}{a:Am}(h:Ab k a)(e:Nat.ble k m=true):Ab m a:=h.mono (d0n e)
theorem Wb.mono{k m:Nat}{w:Wk}(h:Wb k w)(u:k<=m):Wb m w:=
 ⟨⟨d0f h.arms.1 u,λx A=>(h.arms.2 x A).mono u⟩,⟨d0f h.walls.1 u,λx A=>(h.walls.2 x A).mono u⟩,⟨d0f h.parts.1 u,λx A=>⟨d0f (h.parts.2 x A).1 u,(h.parts.2 x A).2.1.mono u,(h.parts.2 x A).2.2.mono u⟩⟩,
  ⟨d0f h.slots.1 u,λx A=>⟨d0f (h.slots.2 x A).1 u,(h.slots.2 x A).2.1.mono u,(h.slots.2 x A).2.2.mono u⟩⟩,⟨d0f h.gates.1 u,λx A=>⟨d0f (h.gates.2 x A).1 u,⟨(h.gates.2 x A).2.1.1.mono u,(h.gates.2 x A).2.1.2.mono u⟩,(h.gates.2 x A).2.2.1.mono u,(h.gates.2 x A).2.2.2.mono u⟩⟩,h.walk.mono u⟩
theorem Wb.m{k m:Nat}{w:Wk}(h:Wb k w)(e:Nat.ble k m=true):Wb m w:=h.mono (d0n e)
theorem Stb.mono{k m:Nat}{s:Stt}(h:Stb k s)(u:k<=m):Stb m s:=
 ⟨⟨d0f h.arms.1 u,λx A=>⟨⟨d0f (h.arms.2 x A).1.1 u,λr hr=>((h.arms.2 x A).1.2 r hr).mono u⟩,d0f (h.arms.2 x A).2.1 u,λr hr=>((h.arms.2 x A).2.2 r hr).mono u⟩⟩,⟨d0f h.parts.1 u,λx A=>(h.parts.2 x A).mono u⟩,h.people.mono u,d0f h.gates u⟩
theorem Stb.m{k m:Nat}{s:Stt}(h:Stb k s)(e:Nat.ble k m=true):Stb m s:=h.mono (d0n e)
def b2h(p q:Rat):Nm.A9 p q<0 <-> p<q:=by
 unfold Nm.A9;split
 ·simp_all
 ·split
  ·simp_all
  ·simp_all
def a2P(p q:Rat):0<Nm.A9 p q <-> q<p:=by
 unfold Nm.A9;split
 ·rename_i h;simp;grind
 ·split
  ·rename_i u A;simp;grind
  ·rename_i u A;simp;grind
def a1c(a b:Nm.Rt):Nm.Rt:=Nm.ofQ (Nm.d9 a+Nm.d9 b)
def Y5(b v:Nm.Rt):Nm.Rt:=if Nm.A9 (q9 (Nm.d9 v)) (Nm.d9 b)<=0 then Nm.ofQ 0 else if F3 (Nm.d9 v)<0 then a1c v b else Nm.ofQ (Nm.d9 v-Nm.d9 b)
def X4(a:Am)(x:Ast):List Nm.Rt:=(a.links.zip x.v).map λp=>Y5 p.1.brake p.2
def a7s(a:Am)(x:Ast):List Nm.Rt:=(x.q.zip (X4 a x)).map λp=>a1c p.1 p.2
def b8K(a:Am)(x:Ast):Ast:=⟨a7s a x,X4 a x,false,x.holds⟩
def mvQ(x:Ast)(u:List Nm.Rt):List Nm.Rt:=(x.q.zip u).map λp=>a1c p.1 p.2
def mvA(x:Ast)(u:List Nm.Rt):Ast:=⟨mvQ x u,u,true,x.holds⟩
def c9R(x:Lk×Nm.Rt×Nm.Rt):Bool:=!(decide (0<Nm.A9 (q9 (Nm.d9 x.2.2)) (Nm.d9 x.1.speed))||decide (0<Nm.A9 (Nm.d9 x.1.low) (Nm.d9 x.2.1+Nm.d9 x.2.2))||decide (0<Nm.A9 (Nm.d9 x.2.1+Nm.d9 x.2.2) (Nm.d9 x.1.high)))
def c9I(a:Am)(q u:List Nm.Rt):Bool:=decide (u.length=a.links.length)&&(u.all F9&&(a.links.zip (q.zip u)).all c9R)
def c9T(a:Am)(x:Ast)(u:List Nm.Rt)(p:Bool):Ast:=if p&&c9I a x.q u then mvA x u else b8K a x
def b9n(a b:Fr):Fr:=⟨Nm.ofQ (c7h a ⟨b.x,b.y⟩),Nm.ofQ (c7c a ⟨b.x,b.y⟩),(c4B a.half (M8 a.half a.t) b.half (M8 b.half b.t)).1,Nm.ofQ (c4B a.half (M8 a.half a.t) b.half (M8 b.half b.t)).2⟩
def c8o(q:Nm.Rt):Fr:=⟨Nm.ofQ 0,Nm.ofQ 0,false,Nm.ofQ (Nm.d9 q)⟩
def c8K(l:Lk):Fr:=⟨l.length,Nm.ofQ 0,false,Nm.ofQ 0⟩
def c6Y:Fr->List (Lk×Nm.Rt)->Fr
 | e,[]=>e
 | e,(l,q)::r=>c6Y (b9n (b9n e (c8o q)) (c8K l)) r
def c9e(f:Fr):Fr:=⟨Nm.ofQ (Nm.d9 (Nm.ofQ (0-Nm.d9 f.x))*a2w f.half (M8 f.half (Nm.ofQ (- M8 f.half f.t)))-Nm.d9 (Nm.ofQ (0-Nm.d9 f.y))*a0v (M8 f.half (Nm.ofQ (- M8 f.half f.t)))),Nm.ofQ (Nm.d9 (Nm.ofQ (0-Nm.d9 f.x))*a0v (M8 f.half (Nm.ofQ (- M8 f.half f.t)))+Nm.d9 (Nm.ofQ (0-Nm.d9 f.y))*a2w f.half (M8 f.half (Nm.ofQ (- M8 f.half f.t)))),f.half,Nm.ofQ (- M8 f.half f.t)⟩
def c9x(a:Am)(q:List Nm.Rt)(g:Fr):Fr:=b9n (c6Y a.base (a.links.zip q)) (c9e g)
def c7K(w:Wk)(s:Stt)(u:List (List Nm.Rt))(p:List Bool):List Ast:=((w.arms.zip s.arms).zip (u.zip p)).map λz=>c9T z.1.1 z.1.2 z.2.1 z.2.2
def c9D(w:Wk)(P:List Fr)(z:Am×Ast):List Fr:=
 if z.2.holds<0 then P else match w.parts[z.2.holds.toNat]? with
  | some pt=>P.set z.2.holds.toNat (c9x z.1 z.2.q pt.grasp)
  | none=>P
def c9c(k:Nm.Rt)(v:Vt):Bool:=a4g v && !decide (0<Nm.A9 (J8 (q9 (Nm.d9 v.x)) (q9 (Nm.d9 v.y))) (Nm.d9 k))
def c9U(p:Vt×Vt):Vt:=⟨a1c p.1.x p.2.x,a1c p.1.y p.2.y⟩
def c9m(w:Wk)(s:Stt)(u:List (List Nm.Rt))(p:List Bool)(v:List Vt):Int:=
 if Z5 w s≠0 then Z5 w s else
 if u.length≠w.arms.length\/p.length≠w.arms.length\/v.length≠s.people.length then 1 else
 if v.all (c9c w.walk)=false then 1 else
 if s.tick=2000 then 7 else 0
def c9g(w:Wk)(s:Stt)(u:List (List Nm.Rt))(p:List Bool)(v:List Vt):Stt:=
 ⟨s.tick+1,c7K w s u p,(w.arms.zip (c7K w s u p)).foldl (c9D w) s.parts,(s.people.zip v).map c9U,s.gates⟩
theorem b5p{n:Nat}:∀{l:List (Am×Ast)} {h:List Int},(H8 (a1Z n) h l).1=0->∀z∈l,a3v z.1 z.2 n=0
 | [],_,_,z,hz=>by cases hz
 | y::l,h,e,z,hz=>by
  have hy:(a1Z n h y).1=0:=by
   unfold H8 at e;split at e
   ·assumption
   ·exact e
  unfold H8 at e;rw[if_pos hy]at e;rcases List.mem_cons.1 hz with rfl|hz
  ·unfold a1Z at hy;split at hy
   ·exact hy
   ·exact Classical.not_not.1 (by assumption)
  ·exact b5p e z hz
structure c9F(w:Wk)(s:Stt):Prop where
 works:a3e w=0
 people:s.people.length<=4
 tick:0<=s.tick/\s.tick<=2000
 arms:s.arms.length=w.arms.length
 parts:s.parts.length=w.parts.length
 gates:s.gates.length=w.gates.length
 one:∀z∈w.arms.zip s.arms,a3v z.1 z.2 w.parts.length=0
 big:1<=w.arms.length/\w.arms.length<=4/\w.parts.length<=6/\w.gates.length<=4
def b0A{w:Wk}{s:Stt}(h:Z5 w s=0):c9F w s:=by
 unfold Z5 at h;split at h
 ·rename_i u;exact absurd h u
 rename_i u;split at h
 ·cases h
 split at h
 ·cases h
 split at h
 ·rename_i B;exact absurd h B
 rename_i B E D;have u:=Classical.not_not.1 u;have A:=u;unfold a3e at A;split at A
 ·cases A
 split at A
 ·cases A
 exact⟨u,by omega,by omega,by omega,by omega,by omega,b5p (Classical.not_not.1 D),by omega⟩
structure c8V(a:Am)(x:Ast)(n:Nat):Prop where
 arm:J2 a=0
 q:x.q.length=a.links.length
 v:x.v.length=a.links.length
 holds:-1<=x.holds/\x.holds<n
def c0H{a:Am}{x:Ast}{n:Nat}(h:a3v a x n=0):c8V a x n:=by
 unfold a3v at h;split at h
 ·cases h
 split at h
 ·rename_i A;exact absurd h A
 rename_i A;split at h
 ·cases h
 have u:=Classical.not_not.1 A;unfold Y1 at u;split at u
 ·rename_i B;exact absurd u B
 rename_i B;split at u
 ·cases u
 exact⟨Classical.not_not.1 B,by omega,by omega,by omega⟩
def P9{a:Am}(h:J2 a=0):1<=a.links.length/\a.links.length<=3:=by
 unfold J2 at h;split at h
 ·cases h
 split at h
 ·cases h
 split at h
 ·cases h
 ·omega
def b4I{a:Am}{n:Int}(h:J2 a=0)(u:n=a.links.length):a4n a n=0:=by
 unfold a4n;rw[if_neg (by simp[h]),if_neg (by simp[u])]
def a4i{l:Lk}(h:a0Y l=0):0<F3 (Nm.d9 l.brake):=by
 unfold a0Y at h;split at h
 ·cases h
 split at h
 ·cases h
 ·omega
def a2y(q:Rat):(F3 q=-1/\q<0)\/(F3 q=0/\q=0)\/(F3 q=1/\0<q):=by
 have A:=@Rat.num_nonneg q;have u:=@Rat.num_eq_zero q;unfold F3;by_cases h:q.num=0
 ·right;left;exact⟨if_pos h,u.1 h⟩
 rw[if_neg h];by_cases B:q.num<0
 ·left;refine⟨if_pos B,?_⟩;rw[<- Rat.not_le,<- A];omega
 ·right;right;refine⟨if_neg B,?_⟩;have D:0<=q:=A.1 (by omega);have E:q≠0:=λe=>h (u.2 e);grind
def c5o{α:Type}{l m:List α}{i:Nat}{y:α}(B:l.length=m.length)(h:l[i]?=some y):(l.take i++m.drop i).set i y=l.take (i+1)++m.drop (i+1):=by
 obtain⟨u,rfl⟩:=d0i.1 h;have A:(l.take i).length=i:=by rw[d0r];omega
 rw[List.set_append_right _ _ (by omega),A,Nat.sub_self,List.drop_eq_getElem_cons (show i<m.length by omega),List.set_cons_zero,d0T u,d0o];rfl
def a9H{α:Type}{l m:List α}{i:Nat}(h:l.length=m.length)(u:i<=m.length):(l.take i++m.drop i).length=m.length:=by
 simp only[d0c,d0r,d0L];omega
def mid_end{α:Type}{l m:List α}(h:l.length=m.length):l.take m.length++m.drop m.length=l:=by
 rw[<- h,d0w,h,List.drop_length,List.append_nil]
set_option maxHeartbeats 16000000
set_option maxRecDepth 10000
set_option maxHeartbeats 4000000
def b8W(g D:Nat)(A:callable Tryz.prog g=true)(f:Am->List UInt8)(l:List (Am))(I:(j6 f l).length<=140737488355328)(M:l.length<=1099511627776)(G:∀x∈l,p8 Tryz.prog g [x.c,.ep [.v (.func (.func D) #[] #[])]] (sb (f x))) :
  p8 Tryz.prog 14 [ams l,.clo g [.ep [.v (.func (.func D) #[] #[])]]] (sb (j6 f l)):=by
 refine kS Tryz.func14 (by cbv) (by rfl) λw O=>?_;unfold j6 at I ⊢;rw[d0c]at I;have E:=a2i l.length;rw[U7 (by omega)]at E;simp only[j4,TT,II,OA,OB,MM,LL,ams];simp only[sb,ints]at E G ⊢;generalize J3 l.length=d at*;(repeat first|refine uA ?_|simp(disch:=omega) only[go_sem,Nat.reduceAdd,d0d]|refine uB E rfl ?_);refine S.loop (X:=Nat) (λi=>⟨[(1,.clo g [.ep [.v (.func (.func D) #[] #[])]]),(5,sb (d++(l.take i).flatMap f)),(11,ams l),(12,ints l.length),(13,ints i)],[]⟩)
  (λi=>i<=l.length) (λi=>l.length-i) 0 (d0k _) (by simp only[List.take_zero,List.flatMap_nil,List.append_nil];exact(by repeat first|refine uA ?_|refine⟨rfl,?_⟩|rfl|simp)) ?_
 intro i J;simp only[ams,sb,ints]at J ⊢;refine uV rfl ?_;apply uJ rfl<;>intro K
 ·have h:i<l.length:=by omega
  have u:=d0b h;have B:=a2q f h;have F:=a3f f h;generalize l[i]=x at u B F;have H:=G x (d0g u)
  (try simp only[Am.c,Am.enc,lks,sb]at H)
  (repeat first|refine uA ?_|simp(disch:=omega) only[go_sem,Nat.reduceAdd,ww,u,d0e,d0d,Am.enc,lks,sb,d0h,A,x9,R4,d0c,d0o]|refine uB H rfl ?_);refine S.next (i+1) (by omega) (by omega) (by rw[B];exact(by repeat first|refine uA ?_|refine⟨rfl,?_⟩|rfl|simp))
 ·have h:i=l.length:=by omega
  subst h;rw[d0w];exact uT rfl rfl rfl
def b8U(g:Nat)(hcal:callable Tryz.prog g=true)(f:Lk->List UInt8)(l:List (Lk))(hl:(j6 f l).length<=140737488355328)(hn:l.length<=1099511627776)(hg:∀x∈l,p8 Tryz.prog g [x.c] (sb (f x))) :
  p8 Tryz.prog 18 [lks l,.v (.func (.func g) #[] #[])] (sb (j6 f l)):=
 a4K (sz:=16) (e:=60) (zero:=[.bool false,.string ⟨#[]⟩,.string ⟨#[]⟩,.bool false,.string ⟨#[]⟩,.string ⟨#[]⟩,.bool false,.string ⟨#[]⟩,.string ⟨#[]⟩,.bool false,.string ⟨#[]⟩,.string ⟨#[]⟩,.bool false,.string ⟨#[]⟩,.string ⟨#[]⟩,.slice none 0 0]) Tryz.func18 (by kernel_rfl) ⟨λ_=>rfl,by decide,λ_=>rfl,λ_=>rfl,rfl,rfl,by decide⟩ hcal l hl hn hg
def b0q(g:Nat)(hcal:callable Tryz.prog g=true)(f:List Vt->List UInt8)(l:List (List Vt))(hl:(j6 f l).length<=140737488355328)(hn:l.length<=1099511627776)(hg:∀x∈l,p8 Tryz.prog g [vts x] (sb (f x))) :
  p8 Tryz.prog 19 [wls l,.v (.func (.func g) #[] #[])] (sb (j6 f l)):=
 c4S Tryz.func19 (by kernel_rfl) hcal l hl hn hg
def b8R(g:Nat)(hcal:callable Tryz.prog g=true)(f:Pt->List UInt8)(l:List (Pt))(hl:(j6 f l).length<=140737488355328)(hn:l.length<=1099511627776)(hg:∀x∈l,p8 Tryz.prog g [x.c] (sb (f x))) :
  p8 Tryz.prog 20 [pts l,.v (.func (.func g) #[] #[])] (sb (j6 f l)):=
 a4K (sz:=12) (e:=81) (zero:=[.string ⟨#[]⟩,.slice none 0 0,.bool false,.string ⟨#[]⟩,.string ⟨#[]⟩,.bool false,.string ⟨#[]⟩,.string ⟨#[]⟩,.bool false,.bool false,.string ⟨#[]⟩,.string ⟨#[]⟩]) Tryz.func20 (by kernel_rfl) ⟨λ_=>rfl,by decide,λ_=>rfl,λ_=>rfl,rfl,rfl,by decide⟩ hcal l hl hn hg
def b8H(g:Nat)(hcal:callable Tryz.prog g=true)(f:Sl->List UInt8)(l:List (Sl))(hl:(j6 f l).length<=140737488355328)(hn:l.length<=1099511627776)(hg:∀x∈l,p8 Tryz.prog g [x.c] (sb (f x))) :
  p8 Tryz.prog 22 [sls l,.v (.func (.func g) #[] #[])] (sb (j6 f l)):=
 a4K (sz:=14) (e:=85) (zero:=[.string ⟨#[]⟩,.bool false,.string ⟨#[]⟩,.string ⟨#[]⟩,.bool false,.string ⟨#[]⟩,.string ⟨#[]⟩,.bool false,.bool false,.string ⟨#[]⟩,.string ⟨#[]⟩,.bool false,.string ⟨#[]⟩,.string ⟨#[]⟩]) Tryz.func22 (by kernel_rfl) ⟨λ_=>rfl,by decide,λ_=>rfl,λ_=>rfl,rfl,rfl,by decide⟩ hcal l hl hn hg
def b8E(g:Nat)(hcal:callable Tryz.prog g=true)(f:Gt->List UInt8)(l:List (Gt))(hl:(j6 f l).length<=140737488355328)(hn:l.length<=1099511627776)(hg:∀x∈l,p8 Tryz.prog g [x.c] (sb (f x))) :
  p8 Tryz.prog 24 [gts l,.v (.func (.func g) #[] #[])] (sb (j6 f l)):=
 a4K (sz:=13) (e:=91) (zero:=[.string ⟨#[]⟩,.bool false,.string ⟨#[]⟩,.string ⟨#[]⟩,.bool false,.string ⟨#[]⟩,.string ⟨#[]⟩,.bool false,.string ⟨#[]⟩,.string ⟨#[]⟩,.bool false,.string ⟨#[]⟩,.string ⟨#[]⟩]) Tryz.func24 (by kernel_rfl) ⟨λ_=>rfl,by decide,λ_=>rfl,λ_=>rfl,rfl,rfl,by decide⟩ hcal l hl hn hg
def b0d(l:List Vt)(u:(j6 I5 l).length<=140737488355328)(B:l.length<=1099511627776):p8 Tryz.prog 13 [vts l] (sb (j6 I5 l)):=by
 refine kS Tryz.func13 (by cbv) (by rfl) λw O=>?_;have h:=b0n 26 (by kernel_rfl) I5 l u B (λz A=>a6g z (P7 I5 A u));generalize j6 I5 l=r at*;simp only[j4,TT,OA,MM];simp only[vts,sb]at*;(repeat first|refine uA ?_|simp(disch:=omega) only[go_sem]|refine uB h rfl ?_);exact uS rfl rfl
def c5x(l:Lk)(h:(lkB l).length<=140737488355328)(u:Lb 1048576 l):p8 Tryz.prog 11 [l.c] (sb (lkB l)):=by
 refine kS Tryz.func11 (by cbv) (by rfl) λw O=>?_;have N:=u.2.2.2.2.2.1;unfold lkB at h ⊢;simp only[d0c]at h;have D:=X9 l.length (by omega);have B:=X9 l.low (by omega);have A:=X9 l.high (by omega);have E:=X9 l.speed (by omega);have F:=X9 l.brake (by omega);have G:=b0d l.shape (by omega) (by omega);generalize j6 I5 l.shape=J at*;generalize I7 l.length=H at*;generalize I7 l.low=K at*;generalize I7 l.high=P at*;generalize I7 l.speed=M at*;generalize I7 l.brake=I at*;simp only[j4,TT,OA,MM,LL,VV,FF];simp only[Lk.c,Lk.enc,rc,vts,sb]at*
 (repeat first|refine uA ?_|simp(disch:=omega) only[go_sem,Nat.reduceAdd,x9,R4,d0c,d0o]|refine uB D rfl ?_|refine uB B rfl ?_|refine uB A rfl ?_|refine uB E rfl ?_|refine uB F rfl ?_|refine uB G rfl ?_);exact uS rfl rfl
def c6u(a:Am)(D:(amB a).length<=140737488355328)(E:Ab 1048576 a):p8 Tryz.prog 15 [a.c,.ep [.v (.func (.func 11) #[] #[])]] (sb (amB a)):=by
 refine kS Tryz.func15 (by cbv) (by rfl) λw O=>?_;obtain⟨N,R,P,H⟩:=E;unfold amB at D ⊢;simp only[d0c]at D;have F:=a5R a.name (by omega);have I:=a6W a.base (by omega);have G:=b8U 11 (by kernel_rfl) lkB a.links (by omega) (by omega) (λz B=>c5x z (P7 lkB B (by omega)) (H z B));obtain⟨A,u,h⟩:=a;simp only at*;generalize j6 lkB h=M at*;generalize a0E A=J at*;generalize frB u=K at*;simp only[j4,TT,OA,MM,LL,VV,FF];simp only[Am.c,Am.enc,Fr.c,Fr.enc,lks,sb]at*;(repeat first|refine uA ?_|simp(disch:=omega) only[go_sem,Nat.reduceAdd,x9,R4,d0c,d0o]|refine uB F rfl ?_|refine uB I rfl ?_|refine uB G rfl ?_);exact uS rfl rfl
def c2q(p:Pt)(B:(ptB p).length<=140737488355328)(D:Pb 1048576 p):p8 Tryz.prog 21 [p.c] (sb (ptB p)):=by
 refine kS Tryz.func21 (by cbv) (by rfl) λw O=>?_;have J:=D.2.1.1;unfold ptB at B ⊢;simp only[d0c]at B;have G:=a5R p.name (by omega);have F:=b0d p.shape (by omega) (by omega);have E:=a6W p.grasp (by omega);obtain⟨A,u,h⟩:=p;simp only at*;generalize j6 I5 u=K at*;generalize a0E A=H at*;generalize frB h=I at*;simp only[j4,TT,OA,MM,LL,VV,FF];simp only[Pt.c,Pt.enc,Fr.c,Fr.enc,vts,sb]at*;(repeat first|refine uA ?_|simp(disch:=omega) only[go_sem,Nat.reduceAdd,x9,R4,d0c,d0o]|refine uB G rfl ?_|refine uB F rfl ?_|refine uB E rfl ?_);exact uS rfl rfl
def c2r(s:Sl)(B:(slB s).length<=140737488355328):p8 Tryz.prog 23 [s.c] (sb (slB s)):=by
 refine kS Tryz.func23 (by cbv) (by rfl) λw O=>?_;unfold slB at B ⊢;simp only[d0c]at B;have F:=a5R s.name (by omega);have E:=a6W s.frame (by omega);have D:=X9 s.within (by omega);obtain⟨A,u,h⟩:=s;simp only at*;generalize a0E A=G at*;generalize frB u=H at*;generalize I7 h=I at*;simp only[j4,TT,OA,MM,LL,VV,FF];simp only[Sl.c,Sl.enc,Fr.c,Fr.enc,rc,sb]at*;(repeat first|refine uA ?_|simp(disch:=omega) only[go_sem,Nat.reduceAdd,x9,R4,d0c,d0o]|refine uB F rfl ?_|refine uB E rfl ?_|refine uB D rfl ?_);exact uS rfl rfl
def c3R(g:Gt)(B:(gtB g).length<=140737488355328):p8 Tryz.prog 25 [g.c] (sb (gtB g)):=by
 refine kS Tryz.func25 (by cbv) (by rfl) λw O=>?_;unfold gtB at B ⊢;simp only[d0c]at B;have F:=a5R g.name (by omega);have E:=a6g g.low (by omega);have D:=a6g g.high (by omega);obtain⟨u,A,h⟩:=g;simp only at*;generalize a0E u=G at*;generalize I5 A=H at*;generalize I5 h=I at*;simp only[j4,TT,OA,MM,LL,VV,FF];simp only[Gt.c,Gt.enc,Vt.c,Vt.enc,sb]at*;(repeat first|refine uA ?_|simp(disch:=omega) only[go_sem,Nat.reduceAdd,x9,R4,d0c,d0o]|refine uB F rfl ?_|refine uB E rfl ?_|refine uB D rfl ?_);exact uS rfl rfl
set_option maxRecDepth 100000
set_option maxHeartbeats 8000000
def b5H(h:Int)(c:UInt8):Int:=IntKind.u64.wrap (Go.bits .xor .u64 h (c.toNat:Int)*1099511628211)
def a3Y(b:List UInt8):Int:=b.foldl b5H 14695981039346656037
def a1W(b:List UInt8):Int:=Go.bits .xor .u64 (a3Y b) (IntKind.u64.wrap ((a3Y b).tdiv 536870912))
def b3r{b:List UInt8}{i:Nat}{c:UInt8}(h:b[i]?=some c):a3Y (b.take (i+1))=b5H (a3Y (b.take i)) c:=by
 obtain⟨u,rfl⟩:=d0i.1 h;unfold a3Y;rw[d0T u,List.foldl_append];rfl
def b3z(b:List UInt8):a3Y (b.take 0)=14695981039346656037:=rfl
def c0V(b:List UInt8)(J:b.length<=140737488355328):p8 Tryz.prog 5 [sb b] (.v (.int .u64 (a1W b))):=by
 refine kS Tryz.func5 (by cbv) (by rfl) λw O=>?_;simp only[j4,TT,II,OA,MM,sb];(repeat first|refine uA ?_|simp(disch:=omega) only[go_sem,x9]);refine S.loop (X:=Nat×Int) (λx=>⟨[(0,sb b),(3,.v (.int .u64 x.2)),(6,ints b.length),(7,ints x.1)],[]⟩) (λx=>x.1<=b.length/\x.2=a3Y (b.take x.1)) (λx=>b.length-x.1) (0,14695981039346656037) ⟨d0k _,(b3z b).symm⟩ (by repeat first|refine uA ?_|refine⟨rfl,?_⟩|rfl|simp) ?_
 rintro⟨i,h⟩ ⟨G,B⟩;simp only[sb,ints]at G B ⊢;refine uV rfl ?_;apply uJ rfl<;>intro K
 ·have A:i<b.length:=by omega
  have u:=d0b A;have D:=b3r u;rw[<- B]at D;generalize b[i]=c at u D;unfold b5H at D;have I:=UInt8.toNat_lt c;have H:IntKind.u64.wrap (c.toNat:Int)=(c.toNat:Int):=by rw[a4l];omega
  have E:(bs b).data.toList.getD i 0=c:=by
   show b.getD i 0=c;rw[d0C,u];rfl
  (repeat first|refine uA ?_|simp(disch:=omega) only[go_sem,ww,x9,E,d0h,H]);generalize IntKind.u64.wrap (Go.bits .xor .u64 h (c.toNat:Int)*1099511628211)=F at*;refine S.next (x:=(i,h)) (i+1,F) ⟨by simp only;omega,by simp only;exact D.symm⟩ (by simp only;omega) (by repeat first|refine uA ?_|refine⟨rfl,?_⟩|rfl|simp)
 ·have A:i=b.length:=by omega
  subst A;rw[d0w]at B;unfold a1W;rw[<- B];(repeat first|refine uA ?_|simp(disch:=omega) only[go_sem]);exact uS rfl rfl
def leB:Nat->Int->List UInt8
 | 0,_=>[]
 | k+1,n=>UInt8.ofNat (n%256).toNat::leB k (n.fdiv 256)
theorem b7M:∀(k:Nat) (n:Int),(leB k n).length=k
 | 0,_=>rfl
 | k+1,n=>by rw[leB,d0j,b7M k]
def b9W(n:Int):IntKind.u8.wrap n=((UInt8.ofNat (n%256).toNat).toNat:Int):=by
 rw[b1l,UInt8.toNat_ofNat'];omega
def b5A(b:List UInt8):0<=a3Y b/\a3Y b<18446744073709551616:=by
 unfold a3Y;rcases List.eq_nil_or_concat b with rfl|⟨l,c,rfl⟩
 ·decide
 ·rw[List.concat_eq_append,List.foldl_append];simp only[List.foldl_cons,List.foldl_nil,b5H];rw[a4l];omega
def c6T(b:List UInt8)(N:b.length<=140737488355328):p8 Tryz.prog 46 [.sl 1 (b.map u7)] (.v (.int .u64 (a1W b))):=by
 refine kS Tryz.func46 (by cbv) (by rfl) λw O=>?_;simp only[j4,TT,II,OA,MM,VV];(repeat first|refine uA ?_|simp(disch:=omega) only[go_sem,d0d]);refine S.loop (X:=Nat×Int) (λx=>⟨[(0,.sl 1 (b.map u7)),(3,.v (.int .u64 x.2)),(6,.sl 1 (b.map u7)),(7,ints b.length),(8,ints x.1)],[]⟩) (λx=>x.1<=b.length/\x.2=a3Y (b.take x.1)) (λx=>b.length-x.1) (0,14695981039346656037) ⟨d0k _,(b3z b).symm⟩ (by repeat first|refine uA ?_|refine⟨rfl,?_⟩|rfl|simp) ?_
 rintro⟨i,h⟩ ⟨J,B⟩;simp only[ints]at J B ⊢;refine uV rfl ?_;apply uJ rfl<;>intro M
 ·have A:i<b.length:=by omega
  have u:=d0b A;have D:=b3r u;rw[<- B]at D;generalize b[i]=c at u D;unfold b5H at D;have H:=UInt8.toNat_lt c;have G:IntKind.u64.wrap (c.toNat:Int)=(c.toNat:Int):=by rw[a4l];omega
  (repeat first|refine uA ?_|simp(disch:=omega) only[go_sem,ww,d0d,d0q,u,d0e,u7,d0h,G]);generalize IntKind.u64.wrap (Go.bits .xor .u64 h (c.toNat:Int)*1099511628211)=I at*;refine S.next (x:=(i,h)) (i+1,I) ⟨by simp only;omega,by simp only;exact D.symm⟩ (by simp only;omega) (by repeat first|refine uA ?_|refine⟨rfl,?_⟩|rfl|simp)
 ·have A:i=b.length:=by omega
  subst A;rw[d0w]at B;obtain⟨F,K⟩:=b5A b;rw[<- B]at F K;have E:h.fdiv 536870912=IntKind.u64.wrap (h.tdiv 536870912):=by
   rw[a4l,Int.fdiv_eq_ediv_of_nonneg _ (by decide),Int.tdiv_eq_ediv_of_nonneg F];omega
  unfold a1W;rw[<- B,<- E];(repeat first|refine uA ?_|simp(disch:=omega) only[go_sem]);exact uS rfl rfl
def c4g{N k:Nat}(j:Nat)(A:k+j+1=8):leB (j+1) (((N/2^(8*k):Nat)):Int)=UInt8.ofNat (N/2^(8*k)%256)::leB j (((N/2^(8*(k+1)):Nat)):Int):=by
 rw[leB];have u:((((N/2^(8*k):Nat)):Int)%256).toNat=N/2^(8*k)%256:=by omega
 have h:(((N/2^(8*k):Nat)):Int).fdiv 256=((N/2^(8*(k+1)):Nat):Int):=by
  rw[Int.fdiv_eq_ediv_of_nonneg _ (by decide),show 8*(k+1)=8*k+8 by omega,Nat.pow_add,<- Nat.div_div_eq_div_mul];generalize N/2^(8*k)=q;omega
 rw[u,h]
def byte_at(N k:Nat):IntKind.u8.wrap ((N:Int).fdiv (2^(8*(k:Int)).toNat))=((UInt8.ofNat (N/2^(8*k)%256)).toNat:Int):=by
 have u:(8*(k:Int)).toNat=8*k:=by omega
 have h:(2:Int)^(8*k)=((2^(8*k):Nat):Int):=by rw[Int.natCast_pow];rfl
 rw[u,h,Int.fdiv_eq_ediv_of_nonneg _ (Int.natCast_nonneg _),<- Int.natCast_ediv,b1l,UInt8.toNat_ofNat'];generalize N/2^(8*k)=q;omega
def c4e(b:List UInt8):∃N:Nat,a1W b=(N:Int)/\N<18446744073709551616:=by
 obtain⟨A,B⟩:=b5A b;obtain⟨a,h⟩:∃a:Nat,a3Y b=(a:Int):=⟨(a3Y b).toNat,by omega⟩
 have u:IntKind.u64.wrap ((a3Y b).tdiv 536870912)=((a/536870912:Nat):Int):=by
  rw[h,a4l,show((a:Int)).tdiv 536870912=((a/536870912:Nat):Int) from rfl];omega
 refine⟨a ^^^ (a/536870912),?_,Nat.xor_lt_two_pow (n:=64) (by omega) (by omega)⟩;unfold a1W;rw[u,h];exact bits_xor_u64_nat _ _ (by omega) (by omega)
def b6c{E:Ctx}(O:E.P=Tryz.prog)(b:List UInt8)(hl:b.length<=1000000000)(H:TypeId)(h:List C)(D:C.clL h=true) :
  l5 E [.box H h,.row 5 1 (b.map u7)] 8 [.rv 1] (.rv 1) [.box H h,.row 5 1 ((b++leB 8 (a1W b)).map u7)] [1]:=by
 obtain⟨P,Z,N0,w0,R,V,U,T⟩:=E;simp only at O;subst O;have I:=F4 [1] D;haveI:Clz h:=⟨D⟩
 have K:=c6T b (by omega);refine l5.of (eff:=J6) Tryz.func8 (by cbv) (by exact d0n rfl) λw own av ν G=>?_;have u:ν.length<=2:=by rw[G];exact d0m _
 obtain⟨N,M,Y⟩:∃N:Nat,a1W b=(N:Int)/\N<18446744073709551616:=c4e b;rw[M]at K;simp only[M];simp only[j4,TT,II,OA,MM]
 (repeat first|refine uA ?_|simp(disch:=omega) only[go_sem]|(refine uC K ?_ ?_ ?_;exact rfl;focus (repeat' first|exact j3.nil|exact Imp.refl rfl|exact Imp.frz rfl rfl rfl|(refine Imp.O0 rfl rfl ?_ ?_;(focus ((try simp only[d0c]);omega));(focus first|rfl|assumption))|refine j3.cons ?_ ?_);done));refine S.loop (X:=Nat×List UInt8) (λx=>⟨[(0,.rv 1),(3,.v (.int .u64 N)),(7,ints x.1)],[.box H h,.row 5 1 (x.2.map u7)]⟩) (λx=>x.1<=8/\x.2.length=b.length+x.1/\x.2++leB (8-x.1) ((N/2^(8*x.1):Nat):Int)=b++leB 8 N) (λx=>8-x.1) (0,b) ⟨d0k _,rfl,by simp⟩ (by repeat first|refine uA ?_|(refine⟨?_,?_⟩;· first|rfl|simp[slot])|rfl|simp|exact d0f u (by simp)) ?_
 rintro⟨k,out⟩ ⟨W,F,A⟩;simp only[ints]at W F A ⊢;refine uV rfl ?_;apply uJ rfl<;>intro hc
 ·have B:k<8:=by omega
  rw[show 8-k=(8-(k+1))+1 by omega,c4g (8-(k+1)) (by omega)]at A;have J:=byte_at N k;generalize UInt8.ofNat (N/2^(8*k)%256)=c at A J;(repeat first|refine uA ?_|(apply uK;· first|omega|(intros;simp_all<;>omega))|simp(disch:=omega) only[go_sem,Nat.reduceAdd,ww,I,J,d0u,d0l,d0p,d0d,d0j,List.length_nil]);refine S.next (x:=(k,out)) (k+1,out++[c]) ⟨by simp only;omega,by simp only[d0c,d0j,List.length_nil];omega,by simp only;rw[d0o];exact A⟩ (by simp only;omega) (by simp only[d0u,d0l,d0p,u7];exact(by repeat first|refine uA ?_|(refine⟨?_,?_⟩;· first|rfl|simp[slot])|rfl|simp|exact d0f u (by simp)))
 ·have B:k=8:=by omega
  subst B;rw[Nat.sub_self,leB,List.append_nil]at A;subst A
  (exact uY rfl rfl (Imp.refl rfl) (by repeat first|refine uA ?_|refine⟨rfl,?_⟩|rfl|simp) (d0f u (by simp)))
end Go.Proofs.YtfkipfnkpeobjaaGreatDoor
namespace Go.Proofs.YtfkipfnkpeobjaaGreatDoor.Eng
open Go Go.RowKit
mutual
def C.sh(n:Nat):C->C
 | .rv k=>.rv (n+k)
 | .agg cs=>.agg (C.shL n cs)
 | .tup cs=>.tup (C.shL n cs)
 | c=>c
def C.shL(n:Nat):List C->List C
 | []=>[]
 | c::cs=>C.sh n c::C.shL n cs
end
mutual
def C.okS:C->Bool
 | .rv _=>true
 | .agg cs=>C.b5i cs
 | .tup cs=>C.b5i cs
 | c=>c.cl
def C.b5i:List C->Bool
 | []=>true
 | c::cs=>C.okS c&&C.b5i cs
end
section
variable {ν ν':List Value} {w:World} {O O':Nat->Prop}
mutual
theorem c2l(u:∀b,O' b->O b):∀{c:C} {y:Value},c.okS=true->Den ν' w O c y->Den (ν++ν') w O' (C.sh ν.length c) y
 | .rv k,y,_,h=>by
  simp only[C.sh,Den]at h ⊢;exact⟨by rw[d0D (by omega),show ν.length+k-ν.length=k by omega];exact h.1,h.2⟩
 | .agg cs,y,hc,h=>by
  simp only[C.sh,Den,C.okS]at h hc ⊢;obtain⟨vs,h1,h2⟩:=h;exact⟨vs,b2s u hc h1,h2⟩
 | .tup cs,y,hc,h=>by
  simp only[C.sh,Den,C.okS]at h hc ⊢;obtain⟨vs,h1,h2⟩:=h;exact⟨vs,b2s u hc h1,h2⟩
 | .v x,y,hc,h=>by simpa only[C.sh,Den] using h
 | .sl sz es,y,hc,h=>by simp only[C.sh];exact(Fz.keep (Keeps.sub u) (h.fz hc)).den _
 | .nl,y,hc,h=>by simpa only[C.sh,Den] using h
 | .ep cs,y,hc,h=>by simp only[C.sh];exact(Fz.keep (Keeps.sub u) (h.fz hc)).den _
 | .clo f cs,y,hc,h=>by simp only[C.sh];exact(Fz.keep (Keeps.sub u) (h.fz hc)).den _
 | .bnd f x,y,hc,h=>by simp only[C.sh];exact(Fz.keep (Keeps.sub u) (h.fz hc)).den _
 | .any S,y,hc,h=>by simpa only[C.sh,Den] using h
 | .bp _ _,y,hc,h=>by simp only[C.okS,C.cl]at hc;cases hc
 | .rp _ _ _ _,y,hc,h=>by simp only[C.okS,C.cl]at hc;cases hc
 | .mp _,y,hc,h=>by simp only[C.okS,C.cl]at hc;cases hc
 | .wv _ _ _ _,y,hc,h=>by simp only[C.okS,C.cl]at hc;cases hc
 | .g _ _,y,hc,h=>by simp only[C.okS,C.cl]at hc;cases hc
 | .junk,y,hc,h=>by simp only[C.okS,C.cl]at hc;cases hc
theorem b2s(u:∀b,O' b->O b):∀{cs:List C} {vs:List Value},C.b5i cs=true->l6 ν' w O cs vs->l6 (ν++ν') w O' (C.shL ν.length cs) vs
 | [],vs,_,h=>by simpa only[C.shL,l6] using h
 | c::cs,vs,hc,h=>by
  simp only[C.shL,l6,C.b5i,d0s]at h hc ⊢;obtain⟨y,ys,e,h1,h2⟩:=h;exact⟨y,ys,e,c2l u hc.1 h1,b2s u hc.2 h2⟩
end
end
def Res.c4u:Res->Bool
 | .gone=>true
 | r=>r.shut
def c2A{ν A:List Value}{w:World}{O O':Nat->Prop}{x:Value}{r:Res}(B:r.c4u=true)(u:∀b,O' b->O b)(h:N8 ν w O x r):N8 A w O' x r:=by
 cases r with
 | gone=>trivial
 | box t cs=>exact a5O B u h
 | row e sz es=>exact a5O rfl u h
 | map s es=>exact a5O rfl u h
 | fb e bs=>exact a5O rfl u h
def l5.pre{E:Ctx}{rs rs':List Res}{f:Nat}{K:List C}{s:C}(h:l5 E [] f K s rs' [])(hr:rs'.all Res.c4u=true)(hs:s.okS=true)(ha:C.clL K=true):l5 E rs f K (C.sh rs.length s) (rs++rs') []:=by
 intro av ν w vs B ah hF hD;rw[List.all_eq_true]at hr
 let av':Nat->Prop:=OO av rs ν
 have af:∀b,av' b->b<w.heap.size:=λb u=>by
  rcases u with u|u
  ·exact B.av b u
  ·exact(B.low b u).1
 have M:∀b,¬owned [] [] b:=λb ⟨k,r,x,H,_⟩=>by simp at H
 have ae:RG av' E.own0 E.w0.heap.size [] [] w:=⟨rfl,λk r H=>by simp at H,λk l r r' x x' b _ H=>by simp at H,λb u=>(M b u).elim,af,B.n0⟩
 have ai:∀b,OO av' [] [] b->OO av rs ν b:=λb u=>u.elim id λh=>(M b h).elim;refine(h av' [] w vs ae (λb u=>.inl (ah b u)) hF ((FzL.keep (Keeps.sub ai) (hD.fz ha)).den _)).mono ?_;rintro e w' ⟨y,A,rfl,h1,P,h3⟩;have U:(ν++A).length=(rs++rs').length:=by rw[d0c,d0c,B.len,h1.len]
 have aj:(ν++A).take rs.length=ν:=by rw[<- B.len];simp
 have G:=λb=>a5n U b;rw[aj]at G;have O:∀b,(∃k r x,rs'[k]?=some r/\(ν++A)[rs.length+k]?=some x/\fp r x b)->owned rs' A b:=by
  rintro b ⟨k,r,x,g1,Z,g3⟩;rw[<- B.len,d0D (by omega),show ν.length+k-ν.length=k by omega]at Z;exact⟨k,r,x,g1,Z,g3⟩
 have X:∀b,owned rs' A b->w.heap.size<=b:=λb u=>(P.own b u).elim (λh=>(M b h).elim) id;have ab:a0t [] ν (ν++A):=λk x _ Y=>by rw[d0v (d0i.1 Y).1];exact Y
 have hM:Mv rs ν w [] (rs++rs') (ν++A) w':=by
  refine⟨P.os,P.tape,P.output,P.size,λb u _=>P.block b u (M b),λb u=>?_,ab⟩;rcases(G b).1 u with u|u
  ·exact .inl u
  ·exact .inr (X b (O b u))
 have V:∀b,OO av (rs++rs') (ν++A) b->OO av' rs' A b:=λb u=>by
  rcases u with u|u
  ·exact .inl (.inl u)
  ·rcases(G b).1 u with u|u
   ·exact .inl (.inr u)
   ·exact .inr (O b u)
 refine⟨y,ν++A,rfl,⟨U,λk r H=>?_,λl m q q' z z' b ag g1 Z g3 g4 g5=>?_,λb u=>?_,λb u=>d0E (B.av b u) P.size,d0f B.n0 P.size⟩,hM,by rw[<- B.len];exact c2l V hs h3⟩
 ·rcases d0B k rs.length with ac|T
  ·rw[d0v ac]at H;obtain⟨x,Y,aa⟩:=B.res k r H;have:=aa.mv (hM.keeps (av:=av)) hM.nu (λb hf=>P.block b (B.lt H Y hf) (M b));rw[a3T]at this;exact⟨x,ab k x (λh=>by cases h) Y,this⟩
  ·rw[d0D T]at H;obtain⟨x,Y,aa⟩:=h1.res _ r H;refine⟨x,by rw[d0D (by rw[B.len];exact T),B.len];exact Y,c2A (hr r (d0g H)) V aa⟩
 ·have R:∀{l q z},l<rs.length->(rs++rs')[l]?=some q->(ν++A)[l]?=some z->rs[l]?=some q/\ν[l]?=some z:=λhl F D=>by
   rw[d0v hl]at F;rw[d0v (by rw[B.len];exact hl)]at D;exact⟨F,D⟩
  have new:∀{l q z},rs.length<=l->(rs++rs')[l]?=some q->(ν++A)[l]?=some z->rs'[l-rs.length]?=some q/\A[l-rs.length]?=some z:=λhl F D=>by
   rw[d0D hl]at F;rw[d0D (by rw[B.len];exact hl),B.len]at D;exact⟨F,D⟩
  rcases d0B l rs.length with N|N<;>rcases d0B m rs.length with I|I
  ·obtain⟨F,D⟩:=R N g1 g3;obtain⟨J,W⟩:=R I Z g4;exact B.dis l m q q' z z' b ag F J D W g5
  ·obtain⟨F,D⟩:=R N g1 g3;obtain⟨J,W⟩:=new I Z g4;intro hf;have:=B.lt F D g5;have:=X b ⟨_,_,_,J,W,hf⟩;omega
  ·obtain⟨F,D⟩:=new N g1 g3;obtain⟨J,W⟩:=R I Z g4;intro hf;have:=B.lt J W hf;have:=X b ⟨_,_,_,F,D,g5⟩;omega
  ·obtain⟨F,D⟩:=new N g1 g3;obtain⟨J,W⟩:=new I Z g4;exact h1.dis _ _ q q' z z' b (by omega) F J D W g5
 ·rcases(G b).1 u with u|u
  ·obtain⟨F,D,J⟩:=B.low b u;exact⟨d0E F P.size,D,J⟩
  ·obtain⟨F,D,J⟩:=h1.low b (O b u);exact⟨F,λha=>D (.inl ha),J⟩
end Go.Proofs.YtfkipfnkpeobjaaGreatDoor.Eng
namespace Go.Proofs.YtfkipfnkpeobjaaGreatDoor
attribute [local go_sem] Eng.nbq beq_self_eq_true Eng.ww Eng.uk Eng.uk2
open Go Go.RowKit Eng
set_option maxRecDepth 100000
set_option maxHeartbeats 8000000
def b6G(es:List (List C))(E:es.length<=1073741824):FNew Tryz.prog 232 [.sl 3 es] 29 3 es:=by
 refine FNew.of (eff:=eff) Tryz.func232 (by cbv) (by exact d0n rfl) λw O=>?_;simp only[j4,TT,OA,MM];(repeat first|refine uA ?_|simp(disch:=omega) only[go_sem]);refine S.split 4 (Sx:=λy=>∃b,y=.bool b/\(es≠[]->b=false)) rfl λy B=>?_
 obtain⟨b,rfl,A⟩:=B;apply S.cond rfl<;>intro u
 ·have D:es=[]:=Classical.byContradiction λh=>by rw[A h]at u;cases u
  subst D;(repeat first|refine uA ?_|simp(disch:=omega) only[go_sem]);refine S.weaken (Ent.pack 2 29 3 rfl) ?_
  exact S.done (H6.new rfl rfl rfl)
 ·(repeat first|refine uA ?_|simp(disch:=omega) only[go_sem]);exact S.done (H6.new rfl rfl rfl)
def b7B(q:Rat):Nm.ofQ (q9 q)=⟨false,Nm.enc q.num.natAbs,Nm.enc q.den⟩:=by
 unfold q9;by_cases h:q.num<0
 ·rw[if_pos h,b1c];simp[h]
 ·rw[if_neg h];unfold Nm.ofQ;rw[decide_eq_false h]
def a2W(a:Nm.Rt)(h:Rb 17179869184 a):FZ 45 [rc a] (rq (q9 (Nm.d9 a))):=by
 unfold rq;rw[b7B];exact c8B a h
def a6H{k:Nat}{p:Rat}(h:Rb k (Nm.ofQ p)):Rb k (Nm.ofQ (q9 p)):=by rw[b7B];exact h
def c2V(a:Nm.Rt)(A:Rb 68719476736 a):FZ 184 [rc a] (.v (.bool (!F9 a))):=by
 refine kW Tryz.func184 (by cbv) (by rfl) λw O u=>?_;have h:=a0S a A;unfold F9;generalize decide a.I4=q at*;simp only[j4,TT,OA,MM,LL];simp only[rc,sb]at*;(repeat first|refine uA ?_|simp(disch:=omega) only[go_sem,Nat.reduceAdd]|refine uD h (tz u) rfl ?_);exact uS rfl rfl
def a9X(l:List Nm.Rt)(u:Rbs 68719476736 l):FZ 141 [rts l] (.v (.bool (l.all F9))):=by
 refine kW Tryz.func141 (by cbv) (by rfl) λw O A=>?_;have h:=c3l 184 (by kernel_rfl) (λa=>!F9 a) l (by have:=u.1;omega) (λa B=>c2V a (u.2 a B));have e:l.all F9=!l.any λa=>!F9 a:=by rw[List.not_any_eq_all_not];simp
 rw[e];generalize(l.any λa=>!F9 a)=q at*;simp only[j4,TT,OA,MM];simp only[rts]at*;(repeat first|refine uA ?_|simp(disch:=omega) only[go_sem]|refine uD h (tz A) rfl ?_);exact uS rfl rfl
def c4o(f:Fr)(G:Fb 17179869184 f):FZ 139 [f.c] (.v (.bool (a2K f))):=by
 refine kW Tryz.func139 (by cbv) (by rfl) λw O A=>?_;obtain⟨x,y,h,t⟩:=f;obtain⟨B,E,u⟩:=G;simp only at B E u;have D:=a9X _ (Rbs.three (by decide) (B.mono (m:=68719476736) (by decide)) (E.mono (m:=68719476736) (by decide)) (u.mono (m:=68719476736) (by decide)));rw[a7e]at D;have F:=U4 t u;unfold a2K a4X;simp only;generalize(F9 x&&F9 y&&F9 t)=q1 at*;generalize F3 (Nm.d9 t)=n at*;simp only[j4,TT,II,OA,OC,MM,LL,FF,MG,LG,VG,FG];simp only[Fr.c,Fr.enc,rts,rcs,rc,sb,ints,d0l,d0p]at*
 (repeat first|refine uA ?_|(apply uK;· first|omega|(intros;simp_all<;>omega))|simp(disch:=omega) only[go_sem,Nat.reduceAdd]|refine uD F (tz A) rfl ?_|(refine uE D ?_ ?_ ?_ ?_;exact tz A;exact rfl;focus (repeat' first|exact j3.nil|exact Imp.refl rfl|exact Imp.frz rfl rfl rfl|(refine Imp.O0 rfl rfl ?_ ?_;(focus ((try simp only[d0c]);omega));(focus first|rfl|assumption))|refine j3.cons ?_ ?_);done));have e:(q1 && !(h && !decide (n=0)))=(q1&&(!h||decide (n=0))):=by cases q1<;>cases h<;>simp
 rw[e];exact S.done (H6.out rfl (Imp.refl (by rfl)) rfl)
def c6M(f:Fr)(A:Fb 17179869184 f):FZ 138 [f.c] (.v (.bool (!a2K f))):=by
 refine kW Tryz.func138 (by cbv) (by rfl) λw O u=>?_;have h:=c4o f A;generalize a2K f=q at*;simp only[j4,TT,OA,MM,LL];simp only[Fr.c,Fr.enc,sb]at*;(repeat first|refine uA ?_|simp(disch:=omega) only[go_sem,Nat.reduceAdd]|refine uD h (tz u) rfl ?_);exact uS rfl rfl
def c4U(v:Vt)(u:Vb 68719476736 v):FZ 140 [v.c] (.v (.bool (!a4g v))):=by
 refine kW Tryz.func140 (by cbv) (by rfl) λw O A=>?_;have h:=a9X _ (Rbs.two (by decide) u.1 u.2);rw[a5Q]at h;unfold a4g;generalize(F9 v.x&&F9 v.y)=q at*;simp only[j4,TT,OA,MM,LL,FF];simp only[Vt.c,Vt.enc,rts,rcs,sb,d0l,d0p]at*;(repeat first|refine uA ?_|simp(disch:=omega) only[go_sem,Nat.reduceAdd]|(refine uE h ?_ ?_ ?_ ?_;exact tz A;exact rfl;focus (repeat' first|exact j3.nil|exact Imp.refl rfl|exact Imp.frz rfl rfl rfl|(refine Imp.O0 rfl rfl ?_ ?_;(focus ((try simp only[d0c]);omega));(focus first|rfl|assumption))|refine j3.cons ?_ ?_);done));exact uS rfl rfl
def c0W{a:Am}{q:List Nm.Rt}(h:Y1 a q=0):q.length=a.links.length:=by
 unfold Y1 at h;split at h
 ·rename_i u;exact absurd h u
 ·split at h
  ·cases h
  ·rename_i A;exact Classical.not_not.1 A
def c9n(a:Am)(x:Ast)(u:Nat)(ha:Ab 1073741824 a)(J:Asb 1073741824 x)(P:u<=1073741824):FZ 136 [a.c,x.c,.v (.int .i64 (u:Int))] (ints (a3v a x u)):=by
 refine kW Tryz.func136 (by cbv) (by rfl) λw O M=>?_;have h1:=a9X x.q ⟨by have:=J.1.1;omega,λr hr=>(J.1.2 r hr).m rfl⟩;have h2:=a9X x.v ⟨by have:=J.2.1;omega,λr hr=>(J.2.2 r hr).m rfl⟩;have h3:=b4E a x.q ha J.1;have A:=c0W (a:=a) (q:=x.q);unfold a3v;generalize Y1 a x.q=e at*;obtain⟨q,v,H,I⟩:=x;simp only at h1 h2 h3 A ⊢;generalize q.all F9=g1 at*;generalize v.all F9=g2 at*;obtain⟨U,N⟩:=J.2;obtain⟨ab,⟨bx,ac,aa,t⟩,h⟩:=a;obtain⟨b0,⟨b1,b2,b3⟩,hn,Y⟩:=ha;simp only at b0 b1 b2 b3 hn Y A U N ⊢;simp only[j4,TT,II,OA,OB,OC,MM,LL,VV,FF,MG,VG,FG];simp only[Am.c,Am.enc,Ast.c,Ast.enc,lks,rts,sb,ints]at*
 (repeat first|refine uA ?_|simp(disch:=omega) only[go_sem,Nat.reduceAdd]|refine uD h1 (tz M) rfl ?_|refine uD h2 (tz M) rfl ?_);apply S.cond rfl<;>intro D
 ·rw[if_pos (by cases g1<;>cases g2<;>simp_all)];exact uT rfl rfl rfl
 rw[if_neg (by cases g1<;>cases g2<;>simp_all)];(repeat first|refine uA ?_|simp(disch:=omega) only[go_sem,Nat.reduceAdd]|refine uD h3 (tz M) rfl ?_);apply S.cond rfl<;>intro D
 ·rw[if_pos (by simpa using D)];exact uT rfl rfl rfl
 rw[if_neg (by simpa using D)];have A:=A (by simpa using D);(repeat first|refine uA ?_|simp(disch:=omega) only[go_sem,Nat.reduceAdd,d0d]);apply S.cond rfl<;>intro D
 ·rw[if_pos (by simp only[d0R,Bool.not_eq_true',d0t,d0x]at D;omega)];exact uT rfl rfl rfl
 rw[if_neg (by simp only[d0F,Bool.not_eq_false',d0t,d0x]at D;omega)];have af:v.length=h.length:=by simp only[d0F,Bool.not_eq_false',d0t,d0x]at D;omega
 (repeat first|refine uA ?_|simp(disch:=omega) only[go_sem,Nat.reduceAdd,d0d]);refine S.loop (X:=Nat) (λi=>⟨[(4,.bp 1 0),(46,lks h),(47,ints h.length),(48,ints i)],[.gone,.box 115 [rts q,rts v,.v (.bool H),ints I]]⟩) (λi=>i<=h.length/\G7 a1r (h.zip v)=G7 a1r ((h.zip v).drop i)) (λi=>h.length-i) 0 ⟨d0k _,rfl⟩ (by repeat first|refine uA ?_|refine⟨rfl,?_⟩|rfl|simp) ?_
 rintro i ⟨hi,V⟩;simp only[lks,ints,rts];refine uV rfl ?_;apply uJ rfl<;>intro D
 ·have W:i<h.length:=by omega
  have E:=d0b W;have F:=d0b (show i<v.length by omega);generalize h[i]=l at E;generalize v[i]'_=r at F;have hz:=M5 E F;have G:=a0s (f:=a1r) hz;have B:=a0r (f:=a1r) hz;have bl:=Y l (d0g E);have Z:=(N r (d0g F)).mono (m:=17179869184) (by decide);have R:=a2W r Z;have T:=P8 (Nm.ofQ (q9 (Nm.d9 r))) l.speed (a6H (Z.g rfl)) (bl.2.2.2.1.m rfl);rw[Nm.y8]at T;unfold a1r at G B;simp only at G B;generalize Nm.A9 (q9 (Nm.d9 r)) (Nm.d9 l.speed)=n1 at*;unfold rq at R;generalize Nm.ofQ (q9 (Nm.d9 r))=ar at*;have ae:(i:Int)<v.length:=by omega
  simp only[rc,sb,ints]at R T;(repeat first|refine uA ?_|simp(disch:=omega) only[go_sem,Nat.reduceAdd,E,F,d0e,d0d,Lk.enc,rcs,vts,sb,d0h]|refine uD R (tz M) rfl ?_|refine uD T (tz M) rfl ?_);apply S.cond rfl<;>intro K
  ·have P:0<n1:=by simpa using K
   rw[if_pos P]at G;rw[V,show a1r=λx:Lk×Nm.Rt=>if 0<Nm.A9 (q9 (Nm.d9 x.2)) (Nm.d9 x.1.speed) then 1 else 0 from rfl,G (by decide)];exact uT rfl rfl rfl
  ·have P:¬0<n1:=by simpa using K
   rw[if_neg P]at B;(repeat first|refine uA ?_|simp(disch:=omega) only[go_sem]);refine S.next (i+1) ⟨by omega,?_⟩ (by omega) (by repeat first|refine uA ?_|refine⟨rfl,?_⟩|rfl|simp)
   rw[V,show a1r=λx:Lk×Nm.Rt=>if 0<Nm.A9 (q9 (Nm.d9 x.2)) (Nm.d9 x.1.speed) then 1 else 0 from rfl,B rfl]
 ·rw[V,a0N (by rw[List.length_zip];omega)];exact uT rfl rfl rfl
set_option maxHeartbeats 16000000
def c8T(h:List Int)(n:Int):(a0d (.int .i64 n) (hdE h)).getD (.bool false)=.bool (h.contains n):=by
 rw[c6H];cases h.contains n<;>rfl
def b7y{α:Type}(p:α->Bool)(l:List α):l.all p=!l.any λx=>!p x:=by rw[List.not_any_eq_all_not];simp
def c3i(w:Wk)(s:Stt)(T:Wb 1073741824 w)(hs:Stb 1073741824 s):FZ 99 [w.c,s.c] (ints (Z5 w s)):=by
 refine kW Tryz.func99 (by cbv) (by rfl) λw' O hw=>?_;have W:=c2Q w T;obtain⟨⟨n1,b1⟩,⟨n2,b2⟩,⟨n3,b3⟩,n4⟩:=hs;have aa:=λ(a:Am) (x:Ast) (ha:a∈w.arms) (hx:x∈s.arms)=>c9n a x w.parts.length (T.arms.2 a ha) (b1 x hx) (by have:=T.parts.1;omega);have Z:=b8O 138 (by kernel_rfl) (λf=>!a2K f) s.parts (by omega) (λf hf=>c6M f ⟨(b2 f hf).1.m rfl,(b2 f hf).2.1.m rfl,(b2 f hf).2.2.m rfl⟩);have ab:=b4K 140 (by kernel_rfl) (λv=>!a4g v) s.people (by omega) (λv hv=>c4U v ((b3 v hv).m rfl));have m1:=T.arms.1;have m2:=T.parts.1;have m3:=T.gates.1;unfold Z5;rw[b7y a2K,b7y a4g];generalize a3e w=e0 at*;generalize(s.parts.any λf=>!a2K f)=g1 at*
 generalize(s.people.any λv=>!a4g v)=g2 at*;obtain⟨B,P,A,R,N,F⟩:=w;obtain⟨Y,u,I,K,G⟩:=s;simp only at*;simp only[j4,TT,II,OA,OB,OC,MM,LL,VV,FF,MG,VG,FG];simp only[Wk.c,Wk.enc,Stt.c,Stt.enc,ams,wls,pts,sls,gts,J9,frs,vts,bls,sb,ints]at W Z ab ⊢;(repeat first|refine uA ?_|simp(disch:=omega) only[go_sem,Nat.reduceAdd]|refine uD W (tz hw) rfl ?_);apply S.cond rfl<;>intro E
 ·rw[if_pos (by simpa using E)];exact uT rfl rfl rfl
 rw[if_neg (by simpa using E)];(repeat first|refine uA ?_|simp(disch:=omega) only[go_sem,Nat.reduceAdd,d0d]);apply S.cond rfl<;>intro E
 ·rw[if_pos (by simp only[d0t]at E;omega)];exact uT rfl rfl rfl
 rw[if_neg (by simp only[d0x]at E;omega)];(repeat first|refine uA ?_|simp(disch:=omega) only[go_sem,Nat.reduceAdd,d0d]);apply S.cond rfl<;>intro E
 ·rw[if_pos (by simp only[d0R,Bool.not_eq_true',d0t,d0x]at E;omega)];exact uT rfl rfl rfl
 have af:u.length=B.length:=by simp only[d0F,Bool.not_eq_false',d0t,d0x]at E;omega
 rw[if_neg (by simp only[d0F,Bool.not_eq_false',d0t,d0x]at E;omega)];(repeat first|refine uA ?_|simp(disch:=omega) only[go_sem,Nat.reduceAdd,d0d]);refine S.loop (X:=Nat×List Int) (λx=>⟨[(2,.bp 0 0),(3,.bp 1 0),(6,.mp 2),(56,J9 u),(57,ints u.length),(58,ints x.1)],[.box 31 [ams B,wls P,pts A,sls R,gts N,.v (.bool F.neg),sb F.num,sb F.den],.box 37 [ints Y,J9 u,frs I,vts K,bls G],.map false (hdE x.2)]⟩)
  (λx=>x.1<=u.length/\H8 (a1Z A.length) [] (B.zip u)=H8 (a1Z A.length) x.2 ((B.zip u).drop x.1)) (λx=>u.length-x.1) (0,[]) ⟨d0k _,rfl⟩ (by repeat first|refine uA ?_|refine⟨rfl,?_⟩|rfl|simp) ?_
 rintro⟨i,h⟩ ⟨hi,hg⟩;simp only[ams,wls,pts,sls,gts,J9,frs,vts,bls,sb,ints]at hi hg ⊢;refine uV rfl ?_;apply uJ rfl<;>intro E
 ·have M:=d0b (show i<u.length by omega);have J:=d0b (show i<B.length by omega);generalize u[i]'_=x at M;generalize B[i]'_=a at J;have hz:=M5 J M;have D:=a0p (f:=a1Z A.length) (s:=h) hz;have H:=a0n (f:=a1Z A.length) (s:=h) hz;have ho:=aa a x (d0g J) (d0g M);have ae:=c8T h x.holds;have ac:=c7O h x.holds;have ag:(i:Int)<B.length:=by omega
  have hv:a1Z A.length h (a,x)=if a3v a x A.length≠0 then(a3v a x A.length,h) else if(decide (0<=x.holds)&&h.contains x.holds)=true then(10,h) else(0,a4P h x.holds):=rfl
  rw[hv]at D H;clear hv;generalize a3v a x A.length=e1 at*;generalize h.contains x.holds=c1 at*;simp only[Am.c,Am.enc,Ast.c,Ast.enc,lks,rts,sb,ints]at ho;(repeat first|refine uA ?_|simp(disch:=omega) only[go_sem,Nat.reduceAdd,J,M,d0e,d0d,Am.enc,Ast.enc,lks,rts,sb,ints,d0h]|refine uD ho (tz hw) rfl ?_);apply S.cond rfl<;>intro U
  ·have h0:e1≠0:=by simpa using U
   rw[if_pos h0]at D;rw[hg,D h0,if_pos h0];exact uT rfl rfl rfl
  have h0:e1=0:=by simpa using U
  rw[if_neg (by simp[h0])]at D H;(repeat first|refine uA ?_|simp(disch:=omega) only[go_sem,Nat.reduceAdd,ae]);apply S.cond rfl<;>intro V
  ·rw[if_pos V]at D;rw[hg,D (by simp),if_pos (by simp)];exact uT rfl rfl rfl
  ·rw[if_neg (by rw[V];decide)]at H;(repeat first|refine uA ?_|simp(disch:=omega) only[go_sem,Nat.reduceAdd,ww,ac]);refine S.next (x:=(i,h)) (i+1,a4P h x.holds) ⟨by simp only;omega,by simp only;rw[hg,H rfl]⟩ (by simp only;omega) (by repeat first|refine uA ?_|refine⟨rfl,?_⟩|rfl|simp)
 ·rw[hg,a0Q (by rw[List.length_zip];omega),if_neg (by simp)];(repeat first|refine uA ?_|simp(disch:=omega) only[go_sem,Nat.reduceAdd]|refine uD Z (tz hw) rfl ?_|refine uD ab (tz hw) rfl ?_);apply S.cond rfl<;>intro E
  ·rw[if_neg (by cases g1<;>cases g2<;>simp_all)];exact uT rfl rfl rfl
  ·rw[if_pos (by cases g1<;>cases g2<;>simp_all)];exact uT rfl rfl rfl
def a1j:Rb 8 (Nm.ofQ 0):=⟨Nm.O1 (by decide),Nm.O1 (by decide)⟩
def a4e:FZ 115 [.v (.int .i64 0)] (rq 0):=by
 have:=a2M 0 (by decide) (by decide);rwa[show((0:Int):Rat)=0 from rfl]at this
open Go Eng
def c9f:List Nat:=[232]
def c9C(f:Nat):Bool:=c9f.contains f
set_option maxHeartbeats 8000000
def b9Y{b v:Rat}(h:0<F3 b)(D:F3 v=0):Nm.A9 (q9 v) b<=0:=by
 have A:=a2y b;have u:=a2y v;have B:v=0:=by
  rcases u with u|u|u
  ·omega
  ·exact u.2
  ·omega
 have E:0<b:=by
  rcases A with A|A|A
  ·omega
  ·omega
  ·exact A.2
 have F:¬0<Nm.A9 (q9 v) b:=λh=>by
  have:=(a2P _ _).1 h;rw[B,show q9 0=0 from rfl]at this;grind
 omega
def c3j(b v:Nm.Rt)(D:Rb 1073741824 b)(B:Rb 1073741824 v)(h:0<F3 (Nm.d9 b)):FZ 233 [rc b,rc v] (rc (Y5 b v)):=by
 refine kW Tryz.func233 (by cbv) (by rfl) λw O A=>?_;have H:=U4 b (D.m rfl);have J:=a2W v (B.m rfl);have F:=P8 (Nm.ofQ (q9 (Nm.d9 v))) b (a6H ((B.mono (m:=17179869184) (by decide)).g rfl)) (D.m rfl);rw[Nm.y8]at F;have I:=a4e;have K:=U4 v (B.m rfl);have M:=a5c v b (B.m rfl) (D.m rfl);have G:=a0X v b (B.m rfl) (D.m rfl);have N:=b9Y (v:=Nm.d9 v) h;have U:=a2y (Nm.d9 v);unfold Y5 a1c;generalize Nm.A9 (q9 (Nm.d9 v)) (Nm.d9 b)=c at*;generalize F3 (Nm.d9 b)=R at*;generalize F3 (Nm.d9 v)=P at*;unfold rq at*;generalize Nm.ofQ (q9 (Nm.d9 v))=T at*;generalize Nm.ofQ (Nm.d9 v-Nm.d9 b)=d at*;generalize Nm.ofQ (Nm.d9 v+Nm.d9 b)=e at*;generalize Nm.ofQ 0=z at*
 simp only[j4,TT,II,OA,OB,OC,MM,LL,LG];simp only[rc,sb,ints]at*;(repeat first|refine uA ?_|(refine uK ?_ ?_;focus first|omega|(intros;simp_all<;>omega))|simp(disch:=omega) only[go_sem,Nat.reduceAdd]|(refine uD H ?_ ?_ ?_;exact tz A;exact rfl)|(refine uD J ?_ ?_ ?_;exact tz A;exact rfl)|(refine uD F ?_ ?_ ?_;exact tz A;exact rfl));refine S.cond rfl (λu=>?_) (λu=>?_)
 ·rw[if_pos (by simp only[d0R,d0t]at u;omega)];(repeat first|refine uA ?_|(refine uK ?_ ?_;focus first|omega|(intros;simp_all<;>omega))|simp(disch:=omega) only[go_sem,Nat.reduceAdd]|(refine uD I ?_ ?_ ?_;exact tz A;exact rfl));(exact uS rfl rfl)
 have E:¬c<=0:=by simp only[d0F,d0x]at u;omega
 rw[if_neg E];(repeat first|refine uA ?_|(refine uK ?_ ?_;focus first|omega|(intros;simp_all<;>omega))|simp(disch:=omega) only[go_sem,Nat.reduceAdd]|(refine uD K ?_ ?_ ?_;exact tz A;exact rfl));refine S.cond rfl (λu=>?_) (λu=>?_)
 ·rw[if_neg (by simp only[d0t]at u;omega)];(repeat first|refine uA ?_|(refine uK ?_ ?_;focus first|omega|(intros;simp_all<;>omega))|simp(disch:=omega) only[go_sem,Nat.reduceAdd]|(refine uD M ?_ ?_ ?_;exact tz A;exact rfl));(exact uS rfl rfl)
 ·rw[if_pos (by simp only[d0x]at u;omega)];(repeat first|refine uA ?_|(refine uK ?_ ?_;focus first|omega|(intros;simp_all<;>omega))|simp(disch:=omega) only[go_sem,Nat.reduceAdd]|(refine uD G ?_ ?_ ?_;exact tz A;exact rfl));(exact uS rfl rfl)
def b2F(a:Am)(q v:List Nm.Rt)(D:Ab 1073741824 a)(I:J2 a=0)(G:q.length=a.links.length)(F:v.length=a.links.length):FZ 231 [a.c,rts q,rts v] (ints 0):=by
 refine kW Tryz.func231 (by cbv) (by rfl) λw O E=>?_;have h:=a6D a D;rw[I]at h;have H:=D.2.2.1;obtain⟨A,⟨x,y,B,t⟩,links⟩:=a;simp only at G F H;simp only[j4,TT,II,OA,OC,MM,LL,VV,FF,MG,VG,FG];simp only[Am.c,Am.enc,lks,rts,sb,ints]at*;(repeat first|refine uA ?_|(refine uK ?_ ?_;focus first|omega|(intros;simp_all<;>omega))|simp(disch:=omega) only[go_sem,Nat.reduceAdd]|(refine uD h ?_ ?_ ?_;exact tz E;exact rfl));refine S.cond rfl (λu=>by simp at u) (λu=>?_)
 (repeat first|refine uA ?_|(refine uK ?_ ?_;focus first|omega|(intros;simp_all<;>omega))|simp(disch:=omega) only[go_sem,Nat.reduceAdd,d0d]);refine S.cond rfl (λu=>by simp only[d0R,Bool.not_eq_true',d0x]at u;omega) (λu=>?_)
 (repeat first|refine uA ?_|(refine uK ?_ ?_;focus first|omega|(intros;simp_all<;>omega))|simp(disch:=omega) only[go_sem]);exact uS rfl rfl
def b7I{a:Am}{x:Ast}{i:Nat}{l:Lk}{q v:Nm.Rt}(u:a.links[i]?=some l)(B:x.v[i]?=some v)(A:x.q[i]?=some q):(X4 a x)[i]?=some (Y5 l.brake v)/\(a7s a x)[i]?=some (a1c q (Y5 l.brake v)):=by
 have h:(X4 a x)[i]?=some (Y5 l.brake v):=by
  unfold X4;rw[d0q,M5 u B];rfl
 refine⟨h,?_⟩;unfold a7s;rw[d0q,M5 A h];rfl
def b7O{a:Am}{x:Ast}(h:x.q.length=a.links.length)(u:x.v.length=a.links.length):(X4 a x).length=a.links.length/\(a7s a x).length=a.links.length:=by
 unfold a7s X4;simp only[d0d,List.length_zip];omega
def b2v{α:Type}{l m:List α}{i:Nat}{y:α}(f:α->List C)(h:l.length=m.length)(u:l[i]?=some y):((l.take i++m.drop i).map f).set i (f y)=(l.take (i+1)++m.drop (i+1)).map f:=by
 rw[<- List.map_set,c5o h u]
def c5J{α:Type}{l m:List α}{i:Nat}{y:α}(A:l.length=m.length)(h:l[i]?=some y):(l.take (i+1)++m.drop (i+1))[i]?=some y:=by
 obtain⟨u,rfl⟩:=d0i.1 h;rw[d0v (by rw[d0r];omega),List.getElem?_take,if_pos (by omega),d0b u]
def b2t{k:Nat}{b v:Nm.Rt}(A:8<=k)(h:Rb k b)(u:Rb k v):Rb (k+k+1) (Y5 b v):=by
 unfold Y5;split
 ·exact a1j.mono (by omega)
 split
 ·exact O4 (u.fit (by omega)) (h.fit (by omega))
 ·exact R6 (u.fit (by omega)) (h.fit (by omega))
def c5a(a:Am)(x:Ast)(N:Ab 1073741824 a)(M:Asb 1073741824 x)(ha:J2 a=0)(R:x.q.length=a.links.length)(K:x.v.length=a.links.length):FZ 185 [a.c,x.c] (.tup [(Ast.mk (a7s a x) (X4 a x) x.power x.holds).c,ints 0]):=by
 refine a0w.of (eff:=c9C) Tryz.func185 (by cbv) (by exact d0n rfl) λw O T=>?_;have h:=b2F a x.q x.v N ha R K;have I:=λl N=>a4i ((R9 ha).2 l N);have F:=@b7I a x;obtain⟨W,ac⟩:=b7O R K;have c1:=b6G (x.q.map rcs) (by rw[d0d];exact M.1.1);have c2:=b6G (x.v.map rcs) (by rw[d0d];exact M.2.1);generalize X4 a x=V at*;generalize a7s a x=Q at*;obtain⟨Z,J⟩:=M.1;obtain⟨Y,H⟩:=M.2;obtain⟨af,⟨bx,ag,ae,t⟩,links⟩:=a;obtain⟨q,v,power,holds⟩:=x;obtain⟨b0,⟨b1,b2,b3⟩,hn,hb⟩:=N;simp only at R K hn hb I Z J Y H W ac F h c1 c2 ⊢;simp only[j4,TT,II,OA,OB,MM,LL,VV,FF];simp only[Am.c,Am.enc,Ast.c,Ast.enc,lks,rts,sb,ints]at h c1 c2 ⊢
 (repeat first|refine uA ?_|(refine uK ?_ ?_;focus first|omega|(intros;simp_all<;>omega))|simp(disch:=omega) only[go_sem,Nat.reduceAdd]|(refine uD h ?_ ?_ ?_;exact tz T;exact rfl));refine S.cond rfl (λP=>by simp at P) (λP=>?_)
 (repeat first|refine uI ?_|(refine uK ?_ ?_;focus first|omega|(intros;simp_all<;>omega))|simp(disch:=omega) only[go_sem,Nat.reduceBEq,Nat.reduceAdd,ww]);refine S.a1d [.gone,.box 115 [.sl 3 (q.map rcs),.sl 3 (v.map rcs),.v (.bool power),.v (.int .i64 holds)]] (by simp[Eng.J7,Eng.Q6]) ?_
 (repeat first|refine uA ?_|(refine uK ?_ ?_;focus first|omega|(intros;simp_all<;>omega))|simp(disch:=omega) only[go_sem,Nat.reduceAdd,d0d]|refine j5.t (FNew.t c1 rfl) ?_|refine j5.t (FNew.t c2 rfl) ?_);refine S.loop (X:=Nat) (λi=>⟨[(3,.bp 1 0),(4,.bp 2 0),(7,.bp 5 0),(32,lks links),(33,ints links.length),(34,ints i)],[.gone,.box 115 [.sl 3 (q.map rcs),.sl 3 (v.map rcs),.v (.bool power),.v (.int .i64 holds)],.box 115 [.v (.slice none 0 0),.v (.slice none 0 0),.v (.bool false),.v (.int .i64 0)],.row 29 3 ((Q.take i++q.drop i).map rcs),.row 29 3 ((V.take i++v.drop i).map rcs),.box 115 [.rv 3,.rv 4,.v (.bool power),.v (.int .i64 holds)]]⟩) (λi=>i<=links.length) (λi=>links.length-i) 0 (d0k _) (by(repeat first|refine uA ?_|(refine⟨?_,?_⟩;focus first|rfl|simp[slot])|rfl|simp)) ?_
 intro i hi;simp only[lks,ints];(repeat first|refine uA ?_|(refine uK ?_ ?_;focus first|omega|(intros;simp_all<;>omega))|simp(disch:=omega) only[go_sem]);(refine uJ rfl (λP=>?_) λP=>?_)
 ·have E:i<links.length:=by omega
  have A:=d0b E;have B:=d0b (show i<q.length by omega);have D:=d0b (show i<v.length by omega);generalize links[i]=l at A;generalize q[i]'_=qi at B;generalize v[i]'_=G at D;obtain⟨g1,g2⟩:=F A D B;have bl:=hb l (d0g A);have bv:=H G (d0g D);have bq:=J qi (d0g B);have o1:=c3j l.brake G bl.2.2.2.2.1 bv (I l (d0g A));have U:=a0X qi (Y5 l.brake G) (bq.m rfl) ((b2t (by decide) bl.2.2.2.2.1 bv).m rfl);have s1:=b2v rcs (by omega) g1 (m:=v);have s2:=b2v rcs (by omega) g2 (m:=q);have s3:=c5J (by omega) g1 (m:=v);have m1:=a9H (l:=V) (m:=v) (i:=i) (by omega) (by omega);have m2:=a9H (l:=Q) (m:=q) (i:=i) (by omega) (by omega)
  have m3:=a9H (l:=V) (m:=v) (i:=i+1) (by omega) (by omega);unfold rq at U;unfold a1c at s2;generalize Nm.ofQ (Nm.d9 qi+Nm.d9 (Y5 l.brake G))=z at*;generalize Y5 l.brake G=y at*;generalize V.take i++v.drop i=V0 at*;generalize ab:V.take (i+1)++v.drop (i+1)=V1 at*;generalize aa:Q.take (i+1)++q.drop (i+1)=Q1 at*;generalize Q.take i++q.drop i=Q0 at*;have e1:∃u,V0[i]?=some u:=⟨_,d0b (show i<V0.length by omega)⟩
  have e2:∃u,Q0[i]?=some u:=⟨_,d0b (show i<Q0.length by omega)⟩
  obtain⟨u1,e1⟩:=e1;obtain⟨u2,e2⟩:=e2;simp only[rc,rcs,sb]at o1 U s1 s2;(repeat first|refine uA ?_|(refine uK ?_ ?_;focus first|omega|(intros;simp_all<;>omega))|simp(disch:=omega) only[go_sem,Nat.reduceAdd,ww,A,B,D,e1,e2,s1,s2,s3,m1,m2,m3,d0e,d0d,Lk.enc,rcs,vts,sb,d0h]|(refine uD o1 ?_ ?_ ?_;exact tz T;exact rfl)|(refine uD U ?_ ?_ ?_;exact tz T;exact rfl));refine S.next (i+1) (by omega) (by omega) (by simp only[ab,aa];exact(by(repeat first|refine uA ?_|(refine⟨?_,?_⟩;focus first|rfl|simp[slot])|rfl|simp)))
 ·have E:i=links.length:=by omega
  subst E;rw[show Q.take links.length++q.drop links.length=Q by rw[<- R];exact mid_end (by omega),show V.take links.length++v.drop links.length=V by rw[<- K];exact mid_end (by omega)];(repeat first|refine uA ?_|(refine uK ?_ ?_;focus first|omega|(intros;simp_all<;>omega))|simp(disch:=omega) only[go_sem,Nat.reduceAdd]);(exact uQ rfl (Imp.tup (by(repeat' (first|exact j3.nil|exact Imp.refl rfl|exact Imp.frz rfl rfl rfl|exact Imp.D8|refine Imp.agg ?_|refine j3.cons ?_ ?_)))) rfl rfl)
def c3v{α:Type}{f:α->Bool}{l:List α}{i:Nat}{x:α}(h:l[i]?=some x):(l.drop i).all f=(f x&&(l.drop (i+1)).all f):=by
 rw[drop_at h,List.all_cons]
def take_at{α:Type}{l:List α}{i:Nat}{x:α}(h:l[i]?=some x):l.take (i+1)=l.take i++[x]:=by
 obtain⟨u,rfl⟩:=d0i.1 h;exact d0T u
def tB:Nat->Nat
 | 0=>8
 | n+1=>2*(2*(tB n+2097664)+16+8)+16
def xB:Nat->Nat
 | 0=>8
 | n+1=>xB n+2*(8+4*tB n+18)+2+2*(8+4*(2*(tB n+2097664)+16)+18)+2
def Fx(i:Nat)(f:Fr):Prop:=Rb (xB i) f.x/\Rb (xB i) f.y/\Rb (tB i) f.t
def a7V{a:Am}(h:J2 a=0):Fx 0 a.base/\∀l∈a.links,Rb 8 l.length:=by
 have E:=(R9 h).2;unfold J2 at h;split at h
 ·cases h
 split at h
 ·cases h
 split at h
 ·cases h
 rename_i F;have A:(l7 a.base.x&&l7 a.base.y&&l7 a.base.t)=true:=by
  cases B:(l7 a.base.x&&l7 a.base.y&&l7 a.base.t) with
  | true=>rfl
  | false=>exact absurd (.inr (.inl B)) F
 simp only[d0s]at A;refine⟨⟨(a2B A.1.1).m rfl,(a2B A.1.2).m rfl,(a2B A.2).m rfl⟩,λl G=>?_⟩;have:=E l G;unfold a0Y at this;split at this
 ·cases this
 rename_i D;have u:(l7 l.length&&l7 l.low&&l7 l.high&&l7 l.speed&&l7 l.brake)=true:=by
  cases B:(l7 l.length&&l7 l.low&&l7 l.high&&l7 l.speed&&l7 l.brake) with
  | true=>rfl
  | false=>exact absurd (.inl B) D
 simp only[d0s]at u;exact(a2B u.1.1.1.1).m rfl
set_option maxHeartbeats 16000000
def c8J(v:Vt)(z:Gt):Prop:=Nm.A9 (Nm.d9 v.x) (Nm.d9 z.low.x)<0\/0<Nm.A9 (Nm.d9 v.x) (Nm.d9 z.high.x)\/Nm.A9 (Nm.d9 v.y) (Nm.d9 z.low.y)<0\/0<Nm.A9 (Nm.d9 v.y) (Nm.d9 z.high.y)
instance(v:Vt)(z:Gt):Decidable (c8J v z):=by unfold c8J;infer_instance
def c7W{α β γ:Type}{f:α×β->γ}{l:List α}{m:List β}{z:γ}(h:z∈(l.zip m).map f):∃a∈l,∃b∈m,z=f (a,b):=by
 obtain⟨⟨a,b⟩,u,rfl⟩:=List.mem_map.1 h;exact⟨a,(List.of_mem_zip u).1,b,(List.of_mem_zip u).2,rfl⟩
set_option maxHeartbeats 4000000
def a6Q(q:Rat):(q<0/\q9 q=-q)\/(0<=q/\q9 q=q):=by
 unfold q9;have h:=@Rat.num_nonneg q;by_cases u:q.num<0
 ·rw[if_pos u];left;exact⟨by rw[<- Rat.not_le,<- h];omega,rfl⟩
 ·rw[if_neg u];right;exact⟨h.1 (by omega),rfl⟩
def b2b{b:Rat}(h:0<F3 b):0<b:=by
 rcases a2y b with⟨u,_⟩|⟨u,_⟩|⟨_,u⟩
 ·omega
 ·omega
 ·exact u
structure Calm(w:Wk)(s:Stt)(k:Nat):Prop where
 st:Z5 w s=0
 people:s.people=[]
 holds:∀x∈s.arms,x.holds=-1
 q:∀x∈s.arms,∀r∈x.q,Rb (100+1000*k) r
 v:∀x∈s.arms,∀r∈x.v,Rb (200+20*k) r
 tick:s.tick=k
 parts:∀f∈s.parts,Fb 1048576 f
def aQ(b v:Rat)(j:Nat):Rat:=if v-(j:Rat)*b<=0 then 0 else v-(j:Rat)*b
def sQ(b v:Rat):Nat->Rat
 | 0=>0
 | j+1=>sQ b v j+aQ b v (j+1)
def a5o(j:Nat):((j+1:Nat):Rat)=(j:Rat)+1:=by
 rw[Rat.natCast_add];rfl
def b6s(b v:Rat)(j:Nat):0<=aQ b v j:=by
 unfold aQ;split<;>grind
def c0B{b v:Rat}(u:0<=v):aQ b v 0=v:=by
 unfold aQ;have h:((0:Nat):Rat)=0:=rfl;rw[h];split<;>grind
def c7t{b v:Rat}(h:0<b)(j:Nat):aQ b v (j+1)=if aQ b v j<=b then 0 else aQ b v j-b:=by
 unfold aQ;rw[a5o];generalize(j:Rat)=J;have e:(J+1)*b=J*b+b:=by grind
 rw[e];generalize J*b=t;split<;>split<;>(try split)<;>grind
theorem b1O(b v:Rat):∀(j k:Nat),j<=k->sQ b v j<=sQ b v k
 | j,0,h=>by
  have:j=0:=by omega
  subst this;exact Rat.le_refl
 | j,k+1,h=>by
  rcases d0B j (k+1) with u|u
  ·have B:=b1O b v j k (by omega);have A:=b6s b v (k+1);rw[sQ];grind
  ·have:j=k+1:=by omega
   subst this;exact Rat.le_refl
def b4G(b v:Rat)(j:Nat):0<=sQ b v j:=b1O b v 0 j (d0k _)
def b4l{b v:Rat}(B:0<b){n j:Nat}(h:v<=(n:Rat)*b)(A:n<=j):aQ b v j=0:=by
 unfold aQ;have u:(n:Rat)<=(j:Rat):=by exact_mod_cast A
 have D:(n:Rat)*b<=(j:Rat)*b:=Rat.mul_le_mul_of_nonneg_right u (by grind);rw[if_pos (by grind)]
theorem c4O{b v:Rat}(u:0<b){n:Nat}(h:v<=(n:Rat)*b):∀j,n<=j->sQ b v j=sQ b v n
 | 0,hj=>by
  have:n=0:=by omega
  subst this;rfl
 | j+1,hj=>by
  rcases d0B n (j+1) with A|A
  ·rw[sQ,c4O u h j (by omega),b4l u h hj];grind
  ·have:n=j+1:=by omega
   subst this;rfl
def c8U{b v:Rat}(A:0<b){n:Nat}(h:v<=(n:Rat)*b)(j:Nat):sQ b v j<=sQ b v n:=by
 rcases Nat.le_total j n with u|u
 ·exact b1O b v j n u
 ·rw[c4O A h j u];exact Rat.le_refl
theorem b0E{b v:Rat}(A:0<b):∀(m:Nat),(m:Rat)*b<=v->sQ b v m=(m:Rat)*v-b*((m:Rat)*((m:Rat)+1)/2)
 | 0,_=>by
  have h:((0:Nat):Rat)=0:=rfl;rw[h,sQ];grind
 | m+1,h=>by
  rw[a5o]at h ⊢;have u:(m:Rat)*b<=v:=by
   have e:((m:Rat)+1)*b=(m:Rat)*b+b:=by grind
   grind
  have B:aQ b v (m+1)=v-((m:Rat)+1)*b:=by
   unfold aQ;rw[a5o];split<;>grind
  rw[sQ,b0E A m u,B];generalize(m:Rat)=M;grind
def a6f(b v:Rat)(n:Nat):Rat:=if n<2 then 0 else((n-1:Nat):Rat)*v-b*((n*(n-1)/2:Nat):Rat)
def b3h(n:Nat):((n*(n-1)/2:Nat):Rat)=((n-1:Nat):Rat)*(((n-1:Nat):Rat)+1)/2:=by
 cases n with
 | zero=>decide +kernel
 | succ m=>
  have D:2∣(m+1)*m:=by
   rcases Nat.mod_two_eq_zero_or_one m with h|h
   ·exact Nat.dvd_trans (Nat.dvd_of_mod_eq_zero h) (Nat.dvd_mul_left _ _)
   ·exact Nat.dvd_trans (Nat.dvd_of_mod_eq_zero (by omega)) (Nat.dvd_mul_right _ _)
  obtain⟨k,A⟩:=D;have u:(m+1)*(m+1-1)/2=k:=by rw[Nat.add_sub_cancel,A];omega
  rw[u,Nat.add_sub_cancel];have B:((m+1:Nat):Rat)*(m:Rat)=2*(k:Rat):=by
   have:=congrArg (λn:Nat=>(n:Rat)) A;simp only[Rat.natCast_mul]at this;exact this
  rw[a5o]at B;grind
def c1I{b v:Rat}(h:0<b){n:Nat}(u:v<=(n:Rat)*b)(D:1<=n->((n-1:Nat):Rat)*b<=v):a6f b v n=sQ b v n:=by
 unfold a6f;split
 ·rename_i E;have:n=0\/n=1:=by omega
  rcases this with rfl|rfl
  ·rfl
  ·rw[sQ,b4l h u (d0m _)]
   show(0:Rat)=0+0;grind
 ·rename_i E;obtain⟨m,rfl⟩:∃m,n=m+1:=⟨n-1,by omega⟩
  have B:=b0E h m (D (by omega));have A:=b3h (m+1);rw[Nat.add_sub_cancel]at A ⊢;rw[A,sQ,b4l h u (d0m _),B];grind
def sgQ(v:Rat):Rat:=if v<0 then -1 else 1
def c2d(v:Rat):sgQ v*q9 v=v:=by
 unfold sgQ;rcases a6Q v with⟨h,e⟩|⟨h,e⟩
 ·rw[if_pos h,e];grind
 ·rw[if_neg (by grind),e];grind
def abs_nonneg(v:Rat):0<=q9 v:=by
 rcases a6Q v with⟨h,e⟩|⟨h,e⟩<;>rw[e]<;>grind
structure Jnt(T V B:Rat)(j:Nat)(q v:Nm.Rt):Prop where
 v:Nm.d9 v=sgQ V*aQ B (q9 V) j
 q:Nm.d9 q=T+sgQ V*sQ B (q9 V) j
def Jnt.start(q u:Nm.Rt)(B:Rat):Jnt (Nm.d9 q+Nm.d9 u) (Nm.d9 u) B 0 (a1c q u) u:=by
 refine⟨by rw[c0B (abs_nonneg _),c2d],?_⟩;unfold a1c;rw[Nm.y8,sQ];grind
def Jnt.next{T V B:Rat}{j:Nat}{q v b:Nm.Rt}(h:Jnt T V B j q v)(H:Nm.d9 b=B)(N:0<B):Jnt T V B (j+1) (a1c q (Y5 b v)) (Y5 b v):=by
 have F:Nm.d9 (Y5 b v)=sgQ V*aQ B (q9 V) (j+1):=by
  have K:=h.v;have I:=c7t (v:=q9 V) N j;have P:=b6s B (q9 V) j;rw[I];unfold Y5 a1c;rw[H,K];generalize aQ B (q9 V) j=a at*;have D:sgQ V=1\/sgQ V=-1:=by unfold sgQ;split<;>simp
  generalize sgQ V=s at*;have M:q9 (s*a)=a:=by
   rcases a6Q (s*a) with⟨O,G⟩|⟨O,G⟩<;>rcases D with rfl|rfl<;>rw[G]<;>grind
  rw[M];have u:Nm.A9 a B<=0 <-> a<=B:=by
   have:=a2P a B;constructor
   ·intro h;have:¬B<a:=λE=>by have:=this.2 E;omega
    grind
   ·intro h;have:¬0<Nm.A9 a B:=λE=>by have:=this.1 E;grind
    omega
  by_cases A:a<=B
  ·rw[if_pos (u.2 A),if_pos A,Nm.y8];grind
  ·rw[if_neg (λh=>A (u.1 h)),if_neg A];have J:=a2y (s*a);split
   ·rw[Nm.y8];rcases D with rfl|rfl<;>grind
   ·rw[Nm.y8];rcases D with rfl|rfl<;>grind
 refine⟨F,?_⟩;unfold a1c;rw[Nm.y8,h.q,F,sQ];grind
def Jnt.range{T V B:Rat}{j n:Nat}{q v:Nm.Rt}(h:Jnt T V B j q v)(A:0<B)(u:q9 V<=(n:Rat)*B)(D:1<=n->((n-1:Nat):Rat)*B<=q9 V) :
  (T<=Nm.d9 q/\Nm.d9 q<=T+sgQ V*a6f B (q9 V) n)\/(T+sgQ V*a6f B (q9 V) n<=Nm.d9 q/\Nm.d9 q<=T):=by
 rw[h.q,c1I A u D];have F:=b4G B (q9 V) j;have G:=c8U A u j;have E:sgQ V=1\/sgQ V=-1:=by unfold sgQ;split<;>simp
 rcases E with e|e<;>rw[e]
 ·left;grind
 ·right;grind
def D9(B V:Rat):Int:=if((q9 V/B).floor:Rat)<q9 V/B then(q9 V/B).floor+1 else(q9 V/B).floor
def a5Z{B V:Rat}(I:0<B):0<=D9 B V/\q9 V<=(((D9 B V).toNat:Nat):Rat)*B/\(1<=(D9 B V).toNat->(((D9 B V).toNat-1:Nat):Rat)*B<=q9 V):=by
 have F:q9 V/B*B=q9 V:=Rat.div_mul_cancel (by grind);have H:0<=q9 V/B:=by
  rw[Rat.div_def];exact Rat.mul_nonneg (abs_nonneg V) (Rat.le_of_lt (Rat.inv_pos.2 I))
 unfold D9;generalize q9 V/B=q at*;have K:0<=q.floor:=Rat.le_floor_iff.2 (by simpa using H);have u:=Rat.floor_le q;have D:=Rat.lt_floor_add_one q;obtain⟨f,h⟩:∃f:Nat,q.floor=f:=⟨q.floor.toNat,by omega⟩
 rw[h]at u D ⊢;have G:(((f:Int)+1:Int):Rat)=(f:Rat)+1:=by rw[Rat.intCast_add];rfl
 have E:(((f:Nat):Int):Rat)=(f:Rat):=rfl;rw[G]at D;rw[E]at u ⊢;rw[<- F];split
 ·rename_i A;refine⟨by omega,?_,λ_=>?_⟩
  ·rw[show((f:Int)+1).toNat=f+1 by omega,a5o];exact Rat.mul_le_mul_of_nonneg_right (by grind) (by grind)
  ·rw[show((f:Int)+1).toNat-1=f by omega];exact Rat.mul_le_mul_of_nonneg_right u (by grind)
 ·rename_i A;refine⟨by omega,?_,λ_=>?_⟩
  ·rw[d0h];exact Rat.mul_le_mul_of_nonneg_right (by grind) (by grind)
  ·rw[d0h];have J:((f-1:Nat):Rat)<=(f:Rat):=by exact_mod_cast Nat.sub_le f 1
   exact Rat.mul_le_mul_of_nonneg_right (by grind) (by grind)
def c5u(p q:Rat):K3 p q<=p/\K3 p q<=q:=by
 unfold K3;have h:=a2P p q;split
 ·have:¬q<p:=λu=>by have:=h.2 u;omega
  grind
 ·have:q<p:=h.1 (by omega);grind
def c5C(p q:Rat):p<=J8 p q/\q<=J8 p q:=by
 unfold J8;have h:=b2h p q;split
 ·have:¬p<q:=λu=>by have:=h.2 u;omega
  grind
 ·have:p<q:=h.1 (by omega);grind
def b4C(q u b:Nm.Rt):Rat:=Nm.d9 q+Nm.d9 u+sgQ (Nm.d9 u)*a6f (Nm.d9 b) (q9 (Nm.d9 u)) (D9 (Nm.d9 b) (Nm.d9 u)).toNat
def loQ(q u b:Nm.Rt):Rat:=K3 (K3 (Nm.d9 q+Nm.d9 u) (b4C q u b)) (Nm.d9 q)
def hiQ(q u b:Nm.Rt):Rat:=J8 (J8 (Nm.d9 q+Nm.d9 u) (b4C q u b)) (Nm.d9 q)
def c9G(q0 u b:Nm.Rt):Nat->Nm.Rt->Nm.Rt->Prop
 | 0,q,v=>q=q0/\Nm.d9 v=0
 | k+1,q,v=>Jnt (Nm.d9 q0+Nm.d9 u) (Nm.d9 u) (Nm.d9 b) k q v\/(q=q0/\Nm.d9 v=0)
set_option maxHeartbeats 8000000
def c7l(n:Nat)(K:(Nm.enc n).length<=1099511627776):p8 Tryz.prog 256 [sb (Nm.enc n)] (.tup [ints (if n<9223372036854775808 then n else 0:Nat),ints (if n<9223372036854775808 then 0 else 2:Nat)]):=by
 refine kS Tryz.func256 (by cbv) (by rfl) λw O=>?_;have G:=a1m (Nm.enc n) (by omega);rw[Nm.a8t (Nm.a3D _)]at G;have B:=a2O (Nm.enc n) (by omega);rw[Nm.L8]at B;have D:(256:Nat)^8=18446744073709551616:=by decide
 by_cases I:(Nm.enc n).length<=8
 ·have F:n<18446744073709551616:=by rw[<- D];exact Nm.a0H I
  rw[Nat.mod_eq_of_lt F]at B;generalize Nm.enc n=l at*;have E:decide ((8:Int)<(l.length:Int))=false:=decide_eq_false (by omega);simp only[j4,TT,II,OA,OC,MM,MG];simp only[sb,ints]at*;by_cases u:n<9223372036854775808
  ·rw[if_pos u,if_pos u];have H:decide ((9223372036854775807:Int)<(n:Int))=false:=decide_eq_false (by omega);have J:IntKind.i64.wrap (n:Int)=(n:Int):=Eng.wrap_i64 (by omega);(repeat first|refine uA ?_|simp(disch:=omega) only[go_sem,x9,E,H]|refine uB G rfl ?_|refine uB B rfl ?_);refine S.cond rfl (λA=>by simp at A) (λA=>?_)
   (repeat first|refine uA ?_|simp(disch:=omega) only[go_sem,J]|refine uB B rfl ?_);(exact uQ rfl (Imp.tup (by repeat' first|exact j3.nil|exact Imp.refl rfl|apply j3.cons)) rfl rfl)
  ·rw[if_neg u,if_neg u];have H:decide ((9223372036854775807:Int)<(n:Int))=true:=decide_eq_true (by omega);(repeat first|refine uA ?_|simp(disch:=omega) only[go_sem,x9,E,H]|refine uB G rfl ?_|refine uB B rfl ?_);refine S.cond rfl (λA=>?_) (λA=>by simp at A)
   (exact uX rfl rfl (Imp.tup (by repeat' first|exact j3.nil|exact Imp.refl rfl|apply j3.cons)) rfl rfl)
 ·have F:¬n<9223372036854775808:=λh=>I (Nm.O1 (by omega));rw[if_neg F,if_neg F];generalize Nm.enc n=l at*;have E:decide ((8:Int)<(l.length:Int))=true:=decide_eq_true (by omega);simp only[j4,TT,II,OA,OC,MM,MG];simp only[sb,ints]at*;(repeat first|refine uF B ?_|refine uA ?_|(apply uK;· first|omega|(intros;simp_all<;>omega))|simp(disch:=omega) only[go_sem,x9,E]|refine uB G rfl ?_);refine S.cond rfl (λA=>?_) (λA=>by simp at A)
  (exact uX rfl rfl (Imp.tup (by repeat' first|exact j3.nil|exact Imp.refl rfl|apply j3.cons)) rfl rfl)
def b6u{p:Rat}(h:0<=p):0<=p.floor:=Rat.le_floor_iff.2 (by simpa using h)
def b0o(p:Rat):p.floor=Nm.sgn (decide (p.num<0)) (if p.num<0/\p.num.natAbs%p.den≠0 then p.num.natAbs/p.den+1 else p.num.natAbs/p.den):=by
 rw[Rat.floor_def];have D:0<p.den:=Nat.pos_of_ne_zero p.den_nz;generalize p.den=d at*;generalize p.num=n at*;unfold Nm.sgn;by_cases h:n<0
 ·rw[decide_eq_true h,if_pos rfl];obtain⟨m,rfl⟩:∃m:Nat,n=-(m:Int):=⟨n.natAbs,by omega⟩
  rw[Int.natAbs_neg,Int.natAbs_natCast];have E:=Nat.div_add_mod m d;have G:=Nat.mod_lt m D;have F:((m:Int))=(d:Int)*((m/d:Nat):Int)+((m%d:Nat):Int):=by rw[<- Int.natCast_mul,<- Int.natCast_add,E]
  by_cases u:m%d=0
  ·rw[if_neg (by simp[u])];refine((Int.ediv_emod_unique (r:=0) (show(0:Int)<d by omega)).2 ⟨?_,by omega,by omega⟩).1;rw[F,u];grind
  ·rw[if_pos ⟨h,u⟩];refine((Int.ediv_emod_unique (r:=((d-m%d:Nat):Int)) (show(0:Int)<d by omega)).2 ⟨?_,by omega,by omega⟩).1;have B:((d-m%d:Nat):Int)=(d:Int)-((m%d:Nat):Int):=by omega
   rw[B];have A:((m/d+1:Nat):Int)=((m/d:Nat):Int)+1:=by omega
   rw[A];grind
 ·rw[decide_eq_false h,if_neg (by decide),if_neg (by simp[h])];rw[Int.natCast_ediv];congr 1;omega
def b8l(p:Rat)(K:Rb 1073741824 (Nm.ofQ p)):FZ 255 [rq p] (rq (p.floor:Rat)):=by
 refine kW Tryz.func255 (by cbv) (by rfl) λw O G=>?_;obtain⟨N,T⟩:=K;simp only[Nm.ofQ]at N T;have D:=b4j (Nm.enc p.num.natAbs) (Nm.enc p.den) (by omega) (by omega) (by rw[Nm.L8];exact p.den_nz);simp only[Nm.L8]at D;have F:p.num.natAbs/p.den<=p.num.natAbs:=Nat.div_le_self _ _;have R:=Nm.a3w F;have J:=f_add (Nm.enc (p.num.natAbs/p.den)) [1] (by omega) (by decide);rw[Nm.L8,show Nm.val [1]=1 from rfl]at J;have M:=Nm.a3c (k:=1073741824) (show(Nm.enc (p.num.natAbs/p.den)).length<=1073741824 by omega) (show(Nm.enc 1).length<=1073741824 by rw[Nm.a0m];decide);have A:=a3R (decide (p.num<0)) (p.num.natAbs/p.den) 1 (by decide) (by omega) (by rw[Nm.a0m];decide)
 have H:=a3R (decide (p.num<0)) (p.num.natAbs/p.den+1) 1 (by decide) (by omega) (by rw[Nm.a0m];decide);rw[Rat.mkRat_one,Nm.a0m]at A H;have u:=b0o p;have I:(Nm.enc (p.num.natAbs%p.den)=[])=(p.num.natAbs%p.den=0):=a3G _;generalize p.floor=f at*;by_cases B:p.num<0
 ·by_cases E:p.num.natAbs%p.den=0
  ·rw[if_neg (by simp[E])]at u;rw[<- u]at A;have e0:decide (p.num<0)=true:=decide_eq_true B;simp only[j4,TT,OA,OB,OC,MM,VV,FF,MG];simp only[rq,rc,sb,ints,Nm.ofQ,e0]at*;(repeat first|refine uA ?_|simp(disch:=omega) only[go_sem,Nat.reduceAdd,a0V,E]|refine uB D rfl ?_);refine S.cond rfl (λh=>by first|exact absurd (a3G 0 ▸ rfl) h|(simp[a3G]at h)) (λh=>?_)
   (repeat first|refine uA ?_|simp(disch:=omega) only[go_sem,Nat.reduceAdd]|refine uD A (tz G) rfl ?_);(exact uS rfl rfl)
  ·rw[if_pos ⟨B,E⟩]at u;rw[<- u]at H;have e0:decide (p.num<0)=true:=decide_eq_true B;have P:decide (p.num.natAbs%p.den=0)=false:=decide_eq_false E;simp only[j4,TT,OA,OB,OC,MM,VV,FF,MG];simp only[rq,rc,sb,ints,Nm.ofQ,e0]at*;(repeat first|refine uA ?_|simp(disch:=omega) only[go_sem,Nat.reduceAdd,a0V,I,P]|refine uB D rfl ?_);refine S.cond rfl (λh=>?_) (λh=>by simp at h)
   (repeat first|refine uA ?_|simp(disch:=omega) only[go_sem,Nat.reduceAdd]|refine uB J rfl ?_|refine uD H (tz G) rfl ?_);(exact uS rfl rfl)
 ·rw[if_neg (by simp[B])]at u;rw[<- u]at A;have e0:decide (p.num<0)=false:=decide_eq_false B;simp only[j4,TT,OA,OB,OC,MM,VV,FF,MG];simp only[rq,rc,sb,ints,Nm.ofQ,e0]at*;(repeat first|refine uA ?_|simp(disch:=omega) only[go_sem,Nat.reduceAdd]|refine uB D rfl ?_);refine S.cond rfl (λh=>by simp at h) (λh=>?_)
  (repeat first|refine uA ?_|simp(disch:=omega) only[go_sem,Nat.reduceAdd]|refine uD A (tz G) rfl ?_);(exact uS rfl rfl)
def flI(p:Rat):Int:=if p.floor.natAbs<9223372036854775808 then p.floor else 0
def flE(p:Rat):Int:=if p.floor.natAbs<9223372036854775808 then 0 else 2
def b0S{k:Nat}{p:Rat}(h:Rb k (Nm.ofQ p)):Rb (k+1) (Nm.ofQ (p.floor:Rat)):=by
 have D:=a6u h;have A:=h.1;simp only[Nm.ofQ]at A;rw[b0o];have u:(Nm.enc (p.num.natAbs/p.den)).length<=k:=d0f (Nm.a3w (Nat.div_le_self _ _)) A;have B:(Nm.enc 1).length<=k:=by rw[Nm.a0m];exact D
 refine⟨?_,?_⟩
 ·show(Nm.enc (Rat.num _).natAbs).length<=_;rw[Rat.num_intCast];have e:∀b n,(Nm.sgn b n).natAbs=n:=λb n=>by unfold Nm.sgn;split<;>omega
  rw[e];split
  ·exact Nm.a3c u B
  ·omega
 ·show(Nm.enc (Rat.den _)).length<=_;rw[Rat.den_intCast];omega
def b0J(a:Nm.Rt)(D:Rb 1073741824 a):FZ 207 [rc a] (.tup [ints (flI (Nm.d9 a)),ints (flE (Nm.d9 a))]):=by
 refine kW Tryz.func207 (by cbv) (by rfl) λw O B=>?_;have K:=Z8 a (D.m rfl);have A:=D.fit (show 1<=1073741824 by decide);have E:=b8l (Nm.d9 a) A;have u:=(b0S A).1;unfold flI flE;generalize(Nm.d9 a).floor=f at*;have G:Nm.ofQ (f:Rat)=⟨decide (f<0),Nm.enc f.natAbs,Nm.enc 1⟩:=by
  unfold Nm.ofQ;rw[Rat.num_intCast,Rat.den_intCast]
 rw[G]at u;simp only at u;have H:=c7l f.natAbs (by omega);unfold rq at*;rw[G]at E;generalize Nm.ofQ (Nm.d9 a)=z at*;have I:(if f.natAbs<9223372036854775808 then f else 0)=if f<0 then IntKind.i64.wrap (0-((if f.natAbs<9223372036854775808 then f.natAbs else 0:Nat):Int)) else((if f.natAbs<9223372036854775808 then f.natAbs else 0:Nat):Int):=by
  by_cases h:f.natAbs<9223372036854775808
  ·rw[if_pos h,if_pos h];split
   ·rw[Eng.wrap_i64 (by omega)];omega
   ·omega
  ·rw[if_neg h,if_neg h];split
   ·rw[Eng.wrap_i64 (by omega)];rfl
   ·rfl
 have J:(if f.natAbs<9223372036854775808 then(0:Int) else 2)=((if f.natAbs<9223372036854775808 then 0 else 2:Nat):Int):=by split<;>rfl
 rw[I,J];generalize(if f.natAbs<9223372036854775808 then f.natAbs else 0)=m at*;generalize(if f.natAbs<9223372036854775808 then 0 else 2)=e at*;simp only[j4,TT,II,OA,OB,MM,LL,VV,FF];simp only[rc,sb,ints]at*;(repeat first|refine uA ?_|simp(disch:=omega) only[go_sem,Nat.reduceAdd]|refine uB H rfl ?_|refine uD K (tz B) rfl ?_|refine uD E (tz B) rfl ?_);apply S.cond rfl<;>intro F
 ·rw[if_pos (by simpa using F)];(repeat first|refine uA ?_|simp(disch:=omega) only[go_sem]);(exact uQ rfl (Imp.tup (by repeat' first|exact j3.nil|exact Imp.refl rfl|apply j3.cons)) rfl rfl)
 ·rw[if_neg (by simpa using F)]
  (exact uX rfl rfl (Imp.tup (by repeat' first|exact j3.nil|exact Imp.refl rfl|apply j3.cons)) rfl rfl)
def a3W{n:Int}(h:n.natAbs<18446744073709551616):Rb 8 (Nm.ofQ (n:Rat)):=by
 refine⟨Nm.O1 ?_,Nm.O1 ?_⟩
 ·rw[Rat.num_intCast,show(256:Nat)^8=18446744073709551616 by decide];exact h
 ·rw[Rat.den_intCast];decide
def a0j{k:Nat}{p:Rat}(h:Rb k (Nm.ofQ p)):Rb k (Nm.ofQ (q9 p)):=by
 rcases a6Q p with⟨_,e⟩|⟨_,e⟩<;>rw[e]
 ·exact a1Q h
 ·exact h
structure Few(l:Lk)(v:Nm.Rt):Prop where
 hb:Rb 3 l.brake
 hv:Rb 1024 v
 pos:0<F3 (Nm.d9 l.brake)
 few:D9 (Nm.d9 l.brake) (Nm.d9 v)<=8
def a0c(l:Lk)(v:Nm.Rt):Rat:=sgQ (Nm.d9 v)*a6f (Nm.d9 l.brake) (q9 (Nm.d9 v)) (D9 (Nm.d9 l.brake) (Nm.d9 v)).toNat
def c2J(v:Rat):F3 v<0 <-> v<0:=by
 have h:=a2y v;rcases h with h|h|h<;>constructor<;>intro u<;>first|omega|grind
structure Sn where
 lo:Nm.Rt
 hi:Nm.Rt
def Sn.enc(s:Sn):List C:=[.v (.bool s.lo.neg),sb s.lo.num,sb s.lo.den,.v (.bool s.hi.neg),sb s.hi.num,sb s.hi.den]
def Sn.c(s:Sn):C:=.agg s.enc
def snQ(p q:Rat):Sn:=⟨Nm.ofQ p,Nm.ofQ q⟩
structure Sp where
 lo:Rat
 hi:Rat
def Sp.c(s:Sp):C:=(snQ s.lo s.hi).c
def Zb(k:Nat)(s:Sp):Prop:=Rb k (Nm.ofQ s.lo)/\Rb k (Nm.ofQ s.hi)
theorem Zb.mono{k m:Nat}{s:Sp}(h:Zb k s)(u:k<=m):Zb m s:=⟨h.1.mono u,h.2.mono u⟩
theorem Zb.m{k m:Nat}{s:Sp}(h:Zb k s)(e:Nat.ble k m=true):Zb m s:=h.mono (d0n e)
def J5(s:Sp):Sp:=if Nm.A9 s.lo s.hi<=0 then s else⟨0,0⟩
def a6c{k:Nat}(h:1<=k):Rb k (Nm.ofQ 0):=⟨by show(Nm.enc (Rat.num 0).natAbs).length<=k;rw[show(Rat.num 0).natAbs=0 from rfl,Nm.a3s];exact d0k _,by show(Nm.enc (Rat.den 0)).length<=k;rw[show Rat.den 0=1 from rfl,Nm.a0m];exact h⟩
def M7{k:Nat}{s:Sp}(h:Zb k s):Zb k (J5 s):=by
 unfold J5;split
 ·exact h
 ·exact⟨a6c (a6u h.1),a6c (a6u h.1)⟩
def b2u{p q:Rat}(h:p<=q):J5 ⟨p,q⟩=⟨p,q⟩:=by
 unfold J5;rw[if_pos];have u:=a2P p q;have:¬0<Nm.A9 p q:=λA=>by have:=u.1 A;grind
 simp only;omega
def a0y(a:Nm.Rt)(h:Rb 1073741824 a):FZ 157 [rc a] (Sp.mk (Nm.d9 a) (Nm.d9 a)).c:=by
 refine kW Tryz.func157 (by cbv) (by rfl) λw O A=>?_;have u:=a5b a a (h.m rfl) (h.m rfl);rw[show K3 (Nm.d9 a) (Nm.d9 a)=Nm.d9 a by unfold K3;split<;>rfl]at u;unfold Sp.c snQ;unfold rq at*;simp only;generalize Nm.ofQ (Nm.d9 a)=z at*;simp only[j4,TT,OA,OB,LL];simp only[Sn.c,Sn.enc,rc,sb]at*;(repeat first|refine uA ?_|simp(disch:=omega) only[go_sem,Nat.reduceAdd]|refine uD u (tz A) rfl ?_);(exact uS rfl rfl)
def c3Y(s:Sp)(h:Zb 1073741824 s):FZ 246 [s.c] (.v (.bool (decide (Nm.A9 s.lo s.hi<=0)))):=by
 refine kW Tryz.func246 (by cbv) (by rfl) λw O u=>?_;obtain⟨p,q⟩:=s;obtain⟨A,B⟩:=h;simp only at A B;have F:=a0S (Nm.ofQ p) (A.m rfl);have E:=a0S (Nm.ofQ q) (B.m rfl);rw[decide_eq_true (Nm.b8B _)]at F E;have D:=P8 (Nm.ofQ p) (Nm.ofQ q) (A.m rfl) (B.m rfl);rw[Nm.y8,Nm.y8]at D;unfold Sp.c snQ;simp only;generalize Nm.A9 p q=c at*;generalize Nm.ofQ p=x at*;generalize Nm.ofQ q=y at*;simp only[j4,TT,II,OA,OC,MM,LL,FF,LG,FG];simp only[Sn.c,Sn.enc,rc,sb,ints]at*;(repeat first|refine uA ?_|simp(disch:=omega) only[go_sem,Nat.reduceAdd]|refine uD F (tz u) rfl ?_|refine uD E (tz u) rfl ?_|refine uD D (tz u) rfl ?_);exact uS rfl rfl
def a1P(s:Sp)(h:Zb 1073741824 s):FZ 200 [s.c] (J5 s).c:=by
 refine kW Tryz.func200 (by cbv) (by rfl) λw O B=>?_;have A:=c3Y s h;have E:=a4e;have D:=a0y (Nm.ofQ 0) (a1j.m rfl);rw[Nm.y8]at D;obtain⟨p,q⟩:=s;unfold J5;simp only at A ⊢;generalize Nm.A9 p q=c at*;unfold Sp.c snQ at*;unfold rq at*;simp only at A D ⊢;by_cases u:c<=0
 ·rw[if_pos u];rw[decide_eq_true u]at A;simp only;generalize Nm.ofQ p=x at*;generalize Nm.ofQ q=y at*;simp only[j4,TT,II,OA,OB,LL];simp only[Sn.c,Sn.enc,sb]at A ⊢;(repeat first|refine uA ?_|simp(disch:=omega) only[go_sem,Nat.reduceAdd]|refine uD A (tz B) rfl ?_);refine S.cond rfl (λu=>by simp at u) (λu=>?_)
  (repeat first|refine uA ?_|simp(disch:=omega) only[go_sem,Nat.reduceAdd]);(exact uS rfl rfl)
 ·rw[if_neg u];rw[decide_eq_false u]at A;simp only;generalize Nm.ofQ 0=z at*;generalize Nm.ofQ p=x at*;generalize Nm.ofQ q=y at*;simp only[j4,TT,II,OA,OB,LL];simp only[Sn.c,Sn.enc,rc,sb]at A E D ⊢;(repeat first|refine uA ?_|simp(disch:=omega) only[go_sem,Nat.reduceAdd]|refine uD A (tz B) rfl ?_);refine S.cond rfl (λu=>?_) (λu=>by simp at u)
  (repeat first|refine uA ?_|simp(disch:=omega) only[go_sem,Nat.reduceAdd]|refine uD E (tz B) rfl ?_|refine uD D (tz B) rfl ?_);(exact uS rfl rfl)
def U6(a b:Sp):Sp:=⟨K3 (J5 a).lo (J5 b).lo,J8 (J5 a).hi (J5 b).hi⟩
def a6I(a b:Sp)(H:Zb 1073741824 a)(G:Zb 1073741824 b):FZ 156 [a.c,b.c] (U6 a b).c:=by
 refine kW Tryz.func156 (by cbv) (by rfl) λw O h=>?_;have D:=a1P a H;have E:=a1P b G;have I:=M7 H;have fb:=M7 G;unfold U6;generalize J5 a=B at*;generalize J5 b=F at*;obtain⟨p,q⟩:=B;obtain⟨r,s⟩:=F;have A:=a5b (Nm.ofQ p) (Nm.ofQ r) (I.1.m rfl) (fb.1.m rfl);have u:=a6k (Nm.ofQ q) (Nm.ofQ s) (I.2.m rfl) (fb.2.m rfl);rw[Nm.y8,Nm.y8]at A u;obtain⟨K,B⟩:=a;obtain⟨J,F⟩:=b;unfold Sp.c snQ at*;unfold rq at*;simp only at D E A u ⊢;generalize Nm.ofQ (K3 p r)=M at*;generalize Nm.ofQ (J8 q s)=N at*;generalize Nm.ofQ p=x at*;generalize Nm.ofQ q=y at*;generalize Nm.ofQ r=z at*;generalize Nm.ofQ s=t at*;generalize Nm.ofQ K=U at*;generalize Nm.ofQ B=T at*
 generalize Nm.ofQ J=P at*;generalize Nm.ofQ F=R at*;simp only[j4,TT,OA,OB,LL,FF];simp only[Sn.c,Sn.enc,rc,sb]at D E A u ⊢;(repeat first|refine uA ?_|simp(disch:=omega) only[go_sem,Nat.reduceAdd]|refine uD D (tz h) rfl ?_|refine uD E (tz h) rfl ?_|refine uD A (tz h) rfl ?_|refine uD u (tz h) rfl ?_);(exact uS rfl rfl)
def b1i(l:Lk)(t v:Nm.Rt):Sn:=snQ (K3 (Nm.d9 t) (Nm.d9 t+a0c l v)) (J8 (Nm.d9 t) (Nm.d9 t+a0c l v))
def a5k(L:List Lk)(t v:List Nm.Rt):List Sn:=(L.zip (t.zip v)).map λz=>b1i z.1 z.2.1 z.2.2
def a9v{L:List Lk}{t v:List Nm.Rt}{i:Nat}{l:Lk}{x y:Nm.Rt}(h:L[i]?=some l)(A:t[i]?=some x)(u:v[i]?=some y):(a5k L t v)[i]?=some (b1i l x y):=by
 unfold a5k;rw[d0q,M5 h (M5 A u)];rfl
def a9f{L:List Lk}{t v:List Nm.Rt}(h:t.length=L.length)(u:v.length=L.length):(a5k L t v).length=L.length:=by
 unfold a5k;simp only[d0d,List.length_zip];omega
def a0e(a b:Sp):Sp:=⟨(J5 a).lo+(J5 b).lo,(J5 a).hi+(J5 b).hi⟩
def a4x{k m:Nat}{a b:Sp}(ha:Zb k a)(hb:Zb m b):Zb (k+m+1) (a0e a b):=⟨O4 (M7 ha).1 (M7 hb).1,O4 (M7 ha).2 (M7 hb).2⟩
def a5N(a b:Sp)(H:Zb 1073741824 a)(G:Zb 1073741824 b):FZ 254 [a.c,b.c] (a0e a b).c:=by
 refine kW Tryz.func254 (by cbv) (by rfl) λw O h=>?_;have A:=a1P a H;have D:=a1P b G;have I:=M7 H;have fb:=M7 G;unfold a0e;generalize J5 a=u at*;generalize J5 b=F at*;obtain⟨p,q⟩:=u;obtain⟨r,s⟩:=F;have E:=a3l p r (I.1.m rfl) (fb.1.m rfl);have B:=a3l q s (I.2.m rfl) (fb.2.m rfl);obtain⟨K,u⟩:=a;obtain⟨J,F⟩:=b;unfold Sp.c snQ at*;unfold rq at*;simp only at A D E B ⊢;generalize Nm.ofQ (p+r)=M at*;generalize Nm.ofQ (q+s)=N at*;generalize Nm.ofQ p=x at*;generalize Nm.ofQ q=y at*;generalize Nm.ofQ r=z at*;generalize Nm.ofQ s=t at*;generalize Nm.ofQ K=U at*;generalize Nm.ofQ u=T at*;generalize Nm.ofQ J=P at*;generalize Nm.ofQ F=R at*
 simp only[j4,TT,OA,OB,LL,FF];simp only[Sn.c,Sn.enc,rc,sb]at A D E B ⊢;(repeat first|refine uA ?_|simp(disch:=omega) only[go_sem,Nat.reduceAdd]|refine uD A (tz h) rfl ?_|refine uD D (tz h) rfl ?_|refine uD E (tz h) rfl ?_|refine uD B (tz h) rfl ?_);(exact uS rfl rfl)
def a3p(a b:Sp):Sp:=⟨(J5 a).lo-(J5 b).hi,(J5 a).hi-(J5 b).lo⟩
def b2o{k m:Nat}{a b:Sp}(ha:Zb k a)(hb:Zb m b):Zb (k+m+1) (a3p a b):=⟨R6 (M7 ha).1 (M7 hb).2,R6 (M7 ha).2 (M7 hb).1⟩
def b7D(a b:Sp)(H:Zb 1073741824 a)(G:Zb 1073741824 b):FZ 252 [a.c,b.c] (a3p a b).c:=by
 refine kW Tryz.func252 (by cbv) (by rfl) λw O h=>?_;have A:=a1P a H;have D:=a1P b G;have I:=M7 H;have fb:=M7 G;unfold a3p;generalize J5 a=u at*;generalize J5 b=F at*;obtain⟨p,q⟩:=u;obtain⟨r,s⟩:=F;have E:=a7d p s (I.1.m rfl) (fb.2.m rfl);have B:=a7d q r (I.2.m rfl) (fb.1.m rfl);obtain⟨K,u⟩:=a;obtain⟨J,F⟩:=b;unfold Sp.c snQ at*;unfold rq at*;simp only at A D E B ⊢;generalize Nm.ofQ (p-s)=M at*;generalize Nm.ofQ (q-r)=N at*;generalize Nm.ofQ p=x at*;generalize Nm.ofQ q=y at*;generalize Nm.ofQ r=z at*;generalize Nm.ofQ s=t at*;generalize Nm.ofQ K=U at*;generalize Nm.ofQ u=T at*;generalize Nm.ofQ J=P at*;generalize Nm.ofQ F=R at*
 simp only[j4,TT,OA,OB,LL,FF];simp only[Sn.c,Sn.enc,rc,sb]at A D E B ⊢;(repeat first|refine uA ?_|simp(disch:=omega) only[go_sem,Nat.reduceAdd]|refine uD A (tz h) rfl ?_|refine uD D (tz h) rfl ?_|refine uD E (tz h) rfl ?_|refine uD B (tz h) rfl ?_);(exact uS rfl rfl)
def a8q{k:Nat}{p q:Rat}(u:Rb k (Nm.ofQ p))(h:Rb k (Nm.ofQ q)):Rb k (Nm.ofQ (K3 p q)):=by unfold K3;split;exact u;exact h
def a6j{k:Nat}{p q:Rat}(u:Rb k (Nm.ofQ p))(h:Rb k (Nm.ofQ q)):Rb k (Nm.ofQ (J8 p q)):=by unfold J8;split;exact u;exact h
def arF(q:Rat)(l:List Rat):Sp:=l.foldl (λs a=>⟨K3 s.lo a,J8 s.hi a⟩) ⟨q,q⟩
theorem b9M{k:Nat}:∀(l:List Rat) (s:Sp),Zb k s->(∀a∈l,Rb k (Nm.ofQ a))->Zb k (l.foldl (λs a=>⟨K3 s.lo a,J8 s.hi a⟩) s)
 | [],s,h,_=>h
 | a::l,s,h,hl=>b9M l _ ⟨a8q h.1 (hl a (by simp)),a6j h.2 (hl a (by simp))⟩ λb hb=>hl b (by simp[hb])
def arI(q:Rat)(l:List Rat)(i:Nat):Sp:=arF q (l.take i)
def c9a{k:Nat}{q:Rat}{l:List Rat}(hq:Rb k (Nm.ofQ q))(hl:∀a∈l,Rb k (Nm.ofQ a))(i:Nat):Zb k (arI q l i):=b9M _ _ ⟨hq,hq⟩ λa h=>hl a (List.mem_of_mem_take h)
def c3m{q:Rat}{l:List Rat}{i:Nat}{a:Rat}(h:l[i]?=some a):arI q l (i+1)=⟨K3 (arI q l i).lo a,J8 (arI q l i).hi a⟩:=by
 unfold arI arF;rw[take_at h,List.foldl_append];rfl
def b4s(q:Rat)(l:List Rat)(N:Rb 1073741824 (Nm.ofQ q))(M:∀a∈l,Rb 1073741824 (Nm.ofQ a))(U:l.length<=1000):FZ 288 [.sl 3 (rcs (Nm.ofQ q)::l.map λa=>rcs (Nm.ofQ a))] (arF q l).c:=by
 refine kW Tryz.func288 (by cbv) (by rfl) λw O E=>?_;have u:=a0y (Nm.ofQ q) N;rw[Nm.y8]at u;have P:arI q l l.length=arF q l:=by unfold arI;rw[d0w]
 have K:=c9a N M;have I:=@c3m q l;have J:arI q l 0=⟨q,q⟩:=rfl;rw[<- P];clear P;generalize arI q l=F at*;simp only[j4,TT,II,OA,OB,MM,LL,FF];simp only[Sp.c,snQ,Sn.c,Sn.enc,rc,rcs,sb]at u ⊢
 (repeat first|refine uA ?_|simp(disch:=omega) only[go_sem,Nat.reduceAdd,d0j,d0d,List.getElem?_cons_zero,Int.toNat_zero,Nat.add_sub_cancel,d0w]|refine uD u (tz E) rfl ?_);refine S.loop (X:=Nat) (λi=>⟨[(2,.bp 0 0),(3,.bp 1 0),(11,.sl 3 (l.map λa=>rcs (Nm.ofQ a))),(12,ints l.length),(13,ints i)],[.box 252 [.v (.bool false),sb [],sb [],.v (.bool false),sb [],sb []],.box 252 (snQ (F i).lo (F i).hi).enc]⟩) (λi=>i<=l.length) (λi=>l.length-i) 0 (d0k _) (by rw[J];exact(by repeat first|refine uA ?_|refine⟨rfl,?_⟩|rfl|simp)) ?_
 intro i V;simp only[rcs,sb,ints,snQ,Sn.enc];refine uV rfl ?_;apply uJ rfl<;>intro T
 ·have h:i<l.length:=by omega
  have G:=d0b h;generalize l[i]=a at*;have R:=I G;have H:=M a (d0g G);have D:=K i;have A:=a5b (Nm.ofQ (F i).lo) (Nm.ofQ a) (D.1.m rfl) (H.m rfl);have B:=a6k (Nm.ofQ (F i).hi) (Nm.ofQ a) (D.2.m rfl) (H.m rfl);rw[Nm.y8,Nm.y8]at A B;clear K I J u D H;unfold rq at A B;simp only[rc,sb]at A B;(repeat first|refine uA ?_|simp(disch:=omega) only[go_sem,Nat.reduceAdd,ww,G,d0e,d0d,d0h]|refine uD A (tz E) rfl ?_|refine uD B (tz E) rfl ?_);refine S.next (i+1) (by omega) (by omega) (by rw[R];exact(by repeat first|refine uA ?_|refine⟨rfl,?_⟩|rfl|simp))
 ·have h:i=l.length:=by omega
  subst h;(repeat first|refine uA ?_|simp(disch:=omega) only[go_sem,Nat.reduceAdd]);(exact uS rfl rfl)
def K7(a b:Sp):Sp:=arF ((J5 a).lo*(J5 b).lo) [(J5 a).lo*(J5 b).hi,(J5 a).hi*(J5 b).lo,(J5 a).hi*(J5 b).hi]
def Z6{k m:Nat}{a b:Sp}(B:Zb k a)(A:Zb m b):Zb (k+m) (K7 a b):=by
 have h:=M7 B;have fb:=M7 A;refine b9M _ _ ⟨L6 h.1 fb.1,L6 h.1 fb.1⟩ λx u=>?_;simp only[List.mem_cons,List.not_mem_nil,or_false]at u;rcases u with rfl|rfl|rfl
 ·exact L6 h.1 fb.2
 ·exact L6 h.2 fb.1
 ·exact L6 h.2 fb.2
def a2p(a b:Sp)(K:Zb 268435456 a)(G:Zb 268435456 b):FZ 253 [a.c,b.c] (K7 a b).c:=by
 refine kW Tryz.func253 (by cbv) (by rfl) λw O u=>?_;have B:=a1P a (K.m rfl);have E:=a1P b (G.m rfl);have h:=M7 K;have fb:=M7 G;unfold K7;generalize J5 a=D at*;generalize J5 b=F at*;obtain⟨p,q⟩:=D;obtain⟨r,s⟩:=F
 try simp only at h fb
 have M:=a3k p r (h.1.m rfl) (fb.1.m rfl);have H:=a3k p s (h.1.m rfl) (fb.2.m rfl);have J:=a3k q r (h.2.m rfl) (fb.1.m rfl);have N:=a3k q s (h.2.m rfl) (fb.2.m rfl);have A:=b4s (p*r) [p*s,q*r,q*s] ((L6 h.1 fb.1).m rfl) (λx I=>by
  simp only[List.mem_cons,List.not_mem_nil,or_false]at I;rcases I with rfl|rfl|rfl
  ·exact(L6 h.1 fb.2).m rfl
  ·exact(L6 h.2 fb.1).m rfl
  ·exact(L6 h.2 fb.2).m rfl) (by simp)
 simp only;generalize arF (p*r) [p*s,q*r,q*s]=R at*;obtain⟨V,D⟩:=a;obtain⟨U,F⟩:=b;obtain⟨P,T⟩:=R;unfold Sp.c snQ at*;unfold rq at*;simp only[d0l,d0p]at B E A ⊢;generalize Nm.ofQ (p*r)=W at*;generalize Nm.ofQ (p*s)=Y at*;generalize Nm.ofQ (q*r)=m3 at*;generalize Nm.ofQ (q*s)=X at*;generalize Nm.ofQ p=x at*;generalize Nm.ofQ q=y at*;generalize Nm.ofQ r=z at*;generalize Nm.ofQ s=t at*;generalize Nm.ofQ V=n1 at*;generalize Nm.ofQ D=n2 at*;generalize Nm.ofQ U=Z at*;generalize Nm.ofQ F=n4 at*;generalize Nm.ofQ P=n5 at*;generalize Nm.ofQ T=n6 at*;simp only[j4,TT,OA,OB,LL,FF];simp only[Sn.c,Sn.enc,rc,rcs,sb]at B E M H J N A ⊢
 (repeat first|refine uA ?_|simp(disch:=omega) only[go_sem,Nat.reduceAdd]|refine uD B (tz u) rfl ?_|refine uD E (tz u) rfl ?_|refine uD M (tz u) rfl ?_|refine uD H (tz u) rfl ?_|refine uD J (tz u) rfl ?_|refine uD N (tz u) rfl ?_|(refine uE A ?_ ?_ ?_ ?_;exact tz u;exact rfl;focus (repeat' first|exact j3.nil|exact Imp.refl rfl|exact Imp.frz rfl rfl rfl|(refine Imp.O0 rfl rfl ?_ ?_;(focus ((try simp only[d0c]);omega));(focus first|rfl|assumption))|refine j3.cons ?_ ?_);done));(exact uS rfl rfl)
def a7i(s:Sp)(a:Rat):Bool:=decide (Nm.A9 (J5 s).lo a<=0)&&decide (Nm.A9 a (J5 s).hi<=0)
def b8m(s:Sp)(a:Nm.Rt)(F:Zb 1073741824 s)(G:Rb 1073741824 a):FZ 285 [s.c,rc a] (.v (.bool (a7i s (Nm.d9 a)))):=by
 refine kW Tryz.func285 (by cbv) (by rfl) λw O u=>?_;have h:=a1P s F;have D:=M7 F;unfold a7i;generalize J5 s=B at*;obtain⟨p,q⟩:=B
 try simp only at D
 have A:=P8 (Nm.ofQ p) a (D.1.m rfl) (G.m rfl);have E:=P8 a (Nm.ofQ q) (G.m rfl) (D.2.m rfl);rw[Nm.y8]at A E;obtain⟨H,B⟩:=s;unfold Sp.c snQ at*;simp only at h ⊢;generalize Nm.A9 p (Nm.d9 a)=K at*;generalize Nm.A9 (Nm.d9 a) q=M at*;generalize Nm.ofQ p=x at*;generalize Nm.ofQ q=y at*;generalize Nm.ofQ H=J at*;generalize Nm.ofQ B=I at*;simp only[j4,TT,II,OA,OB,OC,MM,LL,FF,LG,FG];simp only[Sn.c,Sn.enc,rc,sb,ints]at h A E ⊢;(repeat first|refine uA ?_|simp(disch:=omega) only[go_sem,Nat.reduceAdd]|refine uD h (tz u) rfl ?_|refine uD A (tz u) rfl ?_|refine uD E (tz u) rfl ?_);exact uS rfl rfl
def sqI(s:Sp):Sp:=arF ((J5 s).lo*(J5 s).lo) [(J5 s).hi*(J5 s).hi]
def a7l(s:Sp):Sp:=if a7i (J5 s) 0=true then⟨0,(sqI s).hi⟩ else sqI s
def c4T{k:Nat}{s:Sp}(h:Zb k s):Zb (k+k) (sqI s):=by
 have u:=M7 h;refine b9M _ _ ⟨L6 u.1 u.1,L6 u.1 u.1⟩ λx A=>?_;rw[List.mem_singleton]at A;subst A;exact L6 u.2 u.2
def b5d{k:Nat}{s:Sp}(h:Zb k s):Zb (k+k) (a7l s):=by
 have:=c4T h;unfold a7l;split
 ·exact⟨a6c (a6u this.1),this.2⟩
 ·exact this
def a2b(p:Rat):Rat:=mkRat (p*1000000).floor 1000000
def a9P:(Nm.enc 1000000).length<=3:=Nm.O1 (by decide)
def c0C:Nm.ofQ (1000000:Rat)=⟨false,Nm.enc 1000000,Nm.enc 1⟩:=by
 unfold Nm.ofQ;rw[show(1000000:Rat)=((1000000:Int):Rat) from rfl,Rat.num_intCast,Rat.den_intCast];rfl
def b4M:Rb 3 (Nm.ofQ (1000000:Rat)):=by
 rw[c0C];exact⟨a9P,by show(Nm.enc 1).length<=3;rw[Nm.a0m];decide⟩
def b2e(f:Int):Nm.sgn (decide (f<0)) f.natAbs=f:=by
 unfold Nm.sgn;by_cases h:f<0
 ·rw[decide_eq_true h,if_pos rfl];omega
 ·rw[decide_eq_false h,if_neg (by decide)];omega
def b0H(f:Int):Nm.ofQ (f:Rat)=⟨decide (f<0),Nm.enc f.natAbs,Nm.enc 1⟩:=by
 unfold Nm.ofQ;rw[Rat.num_intCast,Rat.den_intCast]
def b6d{k:Nat}{p:Rat}(h:Rb k (Nm.ofQ p)):Rb (k+4) (Nm.ofQ (a2b p)):=by
 have u:=(b0S (L6 h b4M)).1;rw[b0H]at u;unfold a2b;rw[<- b2e (p*1000000).floor];have A:=a9P;exact a7Z (k:=k+4) (by decide) (by simp only at u;omega) (by omega) (by omega) (d0m _)
def b7F(p:Rat)(E:Rb 536870912 (Nm.ofQ p)):FZ 297 [rq p,.v (.int .i64 1000000)] (rq (a2b p)):=by
 refine kW Tryz.func297 (by cbv) (by rfl) λw O u=>?_;have F:=b5E 1000000 (by decide);rw[show(1000000:Int).toNat=1000000 from rfl]at F;have A:=a3k p 1000000 (E.m rfl) (b4M.m rfl);have h:=L6 E b4M;have B:=b8l (p*1000000) (h.m rfl);have D:=(b0S h).1;unfold a2b;generalize p*1000000=x at*;generalize x.floor=f at*;have H:=a9P;rw[b0H]at D;have G:=a3R (decide (f<0)) f.natAbs 1000000 (by decide) (by simp only at D;omega) (by omega);rw[b2e]at G;unfold rq at*;rw[c0C]at A;rw[b0H]at B;rw[Nm.a0m]at A B;clear h D H E;generalize Nm.enc 1000000=e at*;generalize decide (f<0)=s at*;generalize Nm.enc f.natAbs=n at*;generalize Nm.ofQ (mkRat f 1000000)=r at*
 generalize Nm.ofQ p=I at*;generalize Nm.ofQ x=J at*;simp only[j4,TT,II,OA,OB,MM,LL,VV,FF];simp only[rc,sb,ints]at*;(repeat first|refine uA ?_|simp(disch:=omega) only[go_sem,Nat.reduceAdd]|refine uB F rfl ?_|refine uD A (tz u) rfl ?_|refine uD B (tz u) rfl ?_|refine uD G (tz u) rfl ?_);(exact uS rfl rfl)
def upQ(p:Rat):Rat:=- a2b (- p)
def c9Q{k:Nat}{p:Rat}(h:Rb k (Nm.ofQ p)):Rb (k+4) (Nm.ofQ (upQ p)):=a1Q (b6d (a1Q h))
def c9H(p:Rat)(A:Rb 268435456 (Nm.ofQ p)):FZ 298 [rq p,.v (.int .i64 1000000)] (rq (upQ p)):=by
 refine kW Tryz.func298 (by cbv) (by rfl) λw O h=>?_;have D:=a7T (Nm.ofQ p) (A.m rfl);have B:=a1Q A;have E:=b7F (-p) (B.m rfl);have u:=a7T (Nm.ofQ (a2b (-p))) ((b6d B).m rfl);rw[Nm.y8]at D u;unfold upQ;unfold rq at*;generalize Nm.ofQ (- a2b (-p))=F at*;generalize Nm.ofQ (a2b (-p))=H at*;generalize Nm.ofQ (-p)=I at*;generalize Nm.ofQ p=G at*;simp only[j4,TT,OA,OB,MM,LL];simp only[rc,sb]at*;(repeat first|refine uA ?_|simp(disch:=omega) only[go_sem,Nat.reduceAdd]|refine uD D (tz h) rfl ?_|refine uD E (tz h) rfl ?_|refine uD u (tz h) rfl ?_);(exact uS rfl rfl)
def a9w(s:Sp):Sp:=⟨a2b (J5 s).lo,upQ (J5 s).hi⟩
def b5x{k:Nat}{s:Sp}(h:Zb k s):Zb (k+4) (a9w s):=⟨b6d (M7 h).1,c9Q (M7 h).2⟩
def c6w(s:Sp)(B:Zb 268435456 s):FZ 286 [s.c,.v (.int .i64 1000000)] (a9w s).c:=by
 refine kW Tryz.func286 (by cbv) (by rfl) λw O u=>?_;have h:=a1P s (B.m rfl);have D:=M7 B;unfold a9w;generalize J5 s=t at*;obtain⟨p,q⟩:=t;have A:=b7F p (D.1.m rfl);have E:=c9H q (D.2.m rfl);obtain⟨G,F⟩:=s;unfold Sp.c snQ at*;unfold rq at*;simp only at h ⊢;generalize Nm.ofQ (a2b p)=H at*;generalize Nm.ofQ (upQ q)=K at*;generalize Nm.ofQ p=M at*;generalize Nm.ofQ q=J at*;generalize Nm.ofQ G=I at*;generalize Nm.ofQ F=N at*;simp only[j4,TT,OA,OB,MM,LL,FF];simp only[Sn.c,Sn.enc,rc,sb]at h A E ⊢
 (repeat first|refine uA ?_|simp(disch:=omega) only[go_sem,Nat.reduceAdd]|refine uD h (tz u) rfl ?_|refine uD A (tz u) rfl ?_|refine uD E (tz u) rfl ?_);(exact uS rfl rfl)
def c2W:Sp:=⟨-1,1⟩
def a9D:Rb 8 (Nm.ofQ (-1)):=a1Q V7
def c7Q:FZ 287 [] c2W.c:=by
 refine kW Tryz.func287 (by cbv) (by rfl) λw O A=>?_;have u:=a2M 1 (by decide) (by decide);have h:=a2M (-1) (by decide) (by decide);rw[show((1:Int):Rat)=1 from rfl]at u;rw[show((-1:Int):Rat)=-1 from rfl]at h;unfold Sp.c snQ c2W;unfold rq at*;simp only;generalize Nm.ofQ (-1)=B at*;generalize Nm.ofQ 1=D at*;simp only[j4,TT,II,OA,OB];simp only[Sn.c,Sn.enc,rc,sb,ints]at u h ⊢;(repeat first|refine uA ?_|simp(disch:=omega) only[go_sem,Nat.reduceAdd]|refine uD u (tz A) rfl ?_|refine uD h (tz A) rfl ?_);(exact uS rfl rfl)
def a2E(s:Sp):Sp:=⟨J8 (a9w s).lo (-1),K3 (a9w s).hi 1⟩
def c1U{k:Nat}{s:Sp}(h:Zb k s):Zb (k+12) (a2E s):=⟨a6j ((b5x h).1.mono (by omega)) (a9D.mono (by omega)),a8q ((b5x h).2.mono (by omega)) (V7.mono (by omega))⟩
def c4D(s:Sp)(E:Zb 268435456 s):FZ 251 [s.c] (a2E s).c:=by
 refine kW Tryz.func251 (by cbv) (by rfl) λw O h=>?_;have A:=c6w s E;have F:=b5x E;have u:=c7Q;unfold a2E;generalize a9w s=t at*;obtain⟨p,q⟩:=t;have D:=a6k (Nm.ofQ p) (Nm.ofQ (-1)) (F.1.m rfl) (a9D.m rfl);have B:=a5b (Nm.ofQ q) (Nm.ofQ 1) (F.2.m rfl) (V7.m rfl);rw[Nm.y8,Nm.y8]at D B;obtain⟨H,G⟩:=s;unfold c2W at u;unfold Sp.c snQ at*;unfold rq at*;simp only at A u ⊢;generalize Nm.ofQ (J8 p (-1))=I at*;generalize Nm.ofQ (K3 q 1)=M at*;generalize Nm.ofQ p=P at*;generalize Nm.ofQ q=K at*;generalize Nm.ofQ H=J at*;generalize Nm.ofQ G=R at*;generalize Nm.ofQ (-1)=N at*;generalize Nm.ofQ 1=T at*;simp only[j4,TT,II,OA,OB,LL,FF]
 simp only[Sn.c,Sn.enc,rc,sb]at A u D B ⊢;(repeat first|refine uA ?_|simp(disch:=omega) only[go_sem,Nat.reduceAdd]|refine uD A (tz h) rfl ?_|refine uD u (tz h) rfl ?_|refine uD D (tz h) rfl ?_|refine uD B (tz h) rfl ?_);(exact uS rfl rfl)
def a8z(a:Rat):Rat:=(1-a)/(1+a)
def one_add{a:Rat}(h:0<=a):1+a≠0:=by
 intro e;have u:(0:Rat)<1:=by decide
 grind
def c0f{k:Nat}{a:Rat}(h0:0<=a)(h:Rb k (Nm.ofQ a)):Rb (k+k+18) (Nm.ofQ (a8z a)):=(b1d (one_add h0) (R6 V7 h) (O4 V7 h)).mono (by omega)
def c1p(a:Rat)(F:0<=a)(h:Rb 1073741824 (Nm.ofQ a)):FZ 283 [rq a] (rq (a8z a)):=by
 refine kW Tryz.func283 (by cbv) (by rfl) λw O u=>?_;have B:=a2M 1 (by decide) (by decide);rw[show((1:Int):Rat)=1 from rfl]at B;have E:=a7d 1 a (V7.m rfl) (h.m rfl);have D:=a3l 1 a (V7.m rfl) (h.m rfl);have A:=b9h (1-a) (1+a) ((R6 V7 h).m rfl) ((O4 V7 h).m rfl);rw[show a4E (1-a) (1+a)=Nm.ofQ ((1-a)/(1+a)) by unfold a4E;rw[if_neg (one_add F)]]at A;unfold a8z;unfold rq at*;generalize Nm.ofQ ((1-a)/(1+a))=G at*;generalize Nm.ofQ (1-a)=K at*;generalize Nm.ofQ (1+a)=J at*;generalize Nm.ofQ a=I at*;generalize Nm.ofQ 1=H at*;simp only[j4,TT,II,OA,OB,MM,LL];simp only[rc,sb,ints]at*
 (repeat first|refine uA ?_|simp(disch:=omega) only[go_sem,Nat.reduceAdd]|refine uD B (tz u) rfl ?_|refine uD E (tz u) rfl ?_|refine uD D (tz u) rfl ?_|refine uD A (tz u) rfl ?_);(exact uS rfl rfl)
theorem c1T:∀(l:List Rat) (s:Sp),0<=s.lo->0<=s.hi->(∀a∈l,0<=a)->0<=(l.foldl (λs a=>(⟨K3 s.lo a,J8 s.hi a⟩:Sp)) s).lo/\0<=(l.foldl (λs a=>(⟨K3 s.lo a,J8 s.hi a⟩:Sp)) s).hi
 | [],s,h1,h2,_=>⟨h1,h2⟩
 | a::l,s,h1,h2,hl=>c1T l _ (by simp only[K3];split;exact h1;exact hl a (by simp)) (by simp only[J8];split;exact h2;exact hl a (by simp)) λb hb=>hl b (by simp[hb])
def c5N(s:Sp):0<=(sqI s).lo/\0<=(sqI s).hi:=c1T _ _ (sq_nonneg _) (sq_nonneg _) λa h=>by
 rw[List.mem_singleton]at h;rw[h];exact sq_nonneg _
def a6J(s:Sp):0<=(a7l s).lo/\0<=(a7l s).hi:=by
 have h:=c5N s;unfold a7l;split
 ·exact⟨Rat.le_refl,h.2⟩
 ·exact h
def b0L(s:Sp):Sp:=⟨a8z (a7l s).hi,a8z (a7l s).lo⟩
def c7q{k:Nat}{s:Sp}(h:Zb k s):Zb (4*k+18) (b0L s):=⟨(c0f (a6J s).2 (b5d h).2).mono (by omega),(c0f (a6J s).1 (b5d h).1).mono (by omega)⟩
structure Lq where
 x:Sp
 y:Sp
 c:Sp
 s:Sp
def Sp.enc(s:Sp):List C:=(snQ s.lo s.hi).enc
def Lq.enc(l:Lq):List C:=l.x.enc++l.y.enc++l.c.enc++l.s.enc
def Zl(k:Nat)(l:Lq):Prop:=Zb k l.x/\Zb k l.y/\Zb k l.c/\Zb k l.s
def ptS(a:Nm.Rt):Sp:=⟨Nm.d9 a,Nm.d9 a⟩
def a4S{k:Nat}{a:Nm.Rt}(h:Rb k a)(hk:1<=k):Zb k (ptS a):=⟨h.fit hk,h.fit hk⟩
def atX(l:Lq)(v:Vt):Sp:=a0e l.x (a3p (K7 (ptS v.x) l.c) (K7 (ptS v.y) l.s))
def atY(l:Lq)(v:Vt):Sp:=a0e l.y (a0e (K7 (ptS v.x) l.s) (K7 (ptS v.y) l.c))
def a4J{k:Nat}{a b:Sp}(ha:Zb k a)(hb:Zb k b):Zb k (U6 a b):=⟨a8q (M7 ha).1 (M7 hb).1,a6j (M7 ha).2 (M7 hb).2⟩
def ptQ(q:Rat):Sp:=⟨q,q⟩
def a4s(u s:Sp)(l:List Int):Sp:=l.foldl (λs (n:Int)=>if a7i u (n:Rat)=true then U6 s (ptQ n) else s) s
def b9a(u:Sp):Sp:=U6 (ptQ (a0v u.lo)) (ptQ (a0v u.hi))
def b0C(t:Sp):Sp:=a4s (U6 t t) (b9a (U6 t t)) [-1,1]
def a5i{k:Nat}{q:Rat}(h:Rb k (Nm.ofQ q)):Rb (4*k+18) (Nm.ofQ (a0v q)):=(b1d (b1g q) (O4 h h) (O4 V7 (L6 h h))).mono (by omega)
def c1b{k:Nat}{u:Sp}(h:Zb k u):Zb (4*k+18) (b9a u):=a4J ⟨a5i h.1,a5i h.1⟩ ⟨a5i h.2,a5i h.2⟩
def b8z{k:Nat}{n:Int}(u:8<=k)(h:n=-1\/n=1):Rb k (Nm.ofQ (n:Rat)):=by
 rcases h with rfl|rfl
 ·exact a9D.mono u
 ·exact V7.mono u
theorem b6q{k:Nat}{u:Sp}(A:8<=k):∀(l:List Int) (s:Sp),Zb k s->(∀n∈l,n=-1\/n=1)->Zb k (a4s u s l)
 | [],s,h,_=>h
 | n::l,s,h,hl=>by
  refine b6q A l _ ?_ λm hm=>hl m (by simp[hm]);have:=b8z A (hl n (by simp))
  show Zb k (if a7i u (n:Rat)=true then U6 s (ptQ n) else s);split
  ·exact a4J h ⟨this,this⟩
  ·exact h
def c8h{k:Nat}{t:Sp}(h:Zb k t):Zb (4*k+18) (b0C t):=b6q (by omega) _ _ (c1b (a4J h h)) (by simp)
def c1S(u s:Sp){l:List Int}{i:Nat}{n:Int}(h:l[i]?=some n):a4s u s (l.take (i+1))=if a7i u (n:Rat)=true then U6 (a4s u s (l.take i)) (ptQ n) else a4s u s (l.take i):=by
 unfold a4s;rw[take_at h,List.foldl_append];rfl
def a7a(n:Lq)(t:Sp):Lq:=⟨n.x,n.y,a2E (a3p (K7 n.c (b0L t)) (K7 n.s (b0C t))),a2E (a0e (K7 n.s (b0L t)) (K7 n.c (b0C t)))⟩
def b9B(f:Lq)(l:Lk):Lq:=⟨a0e f.x (K7 (ptS l.length) f.c),a0e f.y (K7 (ptS l.length) f.s),f.c,f.s⟩
def U9:Lq->List (Lk×Sp)->List Lq
 | n,[]=>[n]
 | n,(l,t)::r=>a7a n t::U9 (b9B (a7a n t) l) r
def a1L(b:Fr):Lq:=⟨ptS b.x,ptS b.y,ptQ (a2w b.half (M8 b.half b.t)),ptQ (a0v (M8 b.half b.t))⟩
def SB(i:Nat):Nat:=262144*6^i
theorem Zl.mono{k m:Nat}{l:Lq}(h:Zl k l)(u:k<=m):Zl m l:=⟨h.1.mono u,h.2.1.mono u,h.2.2.1.mono u,h.2.2.2.mono u⟩
theorem Zl.m{k m:Nat}{l:Lq}(h:Zl k l)(e:Nat.ble k m=true):Zl m l:=h.mono (d0n e)
def c9S{L:List Lk}{q:List Sp}{i:Nat}{l:Lk}{t:Sp}(h:L[i]?=some l)(u:q[i]?=some t):(L.zip q)[i]?=some (l,t):=by
 rw[List.getElem?_zip_eq_some];exact⟨h,u⟩
structure Bq where
 lx:Rat
 ly:Rat
 hx:Rat
 hy:Rat
def Bq.enc(b:Bq):List C:=[.v (.bool (Nm.ofQ b.lx).neg),sb (Nm.ofQ b.lx).num,sb (Nm.ofQ b.lx).den,.v (.bool (Nm.ofQ b.ly).neg),sb (Nm.ofQ b.ly).num,sb (Nm.ofQ b.ly).den,.v (.bool (Nm.ofQ b.hx).neg),sb (Nm.ofQ b.hx).num,sb (Nm.ofQ b.hx).den,.v (.bool (Nm.ofQ b.hy).neg),sb (Nm.ofQ b.hy).num,sb (Nm.ofQ b.hy).den]
def b2x(l:Lq):Bq:=⟨l.x.lo,l.y.lo,l.x.hi,l.y.hi⟩
def c8R(l:Lq):FZ 205 [.agg l.enc] (.agg (b2x l).enc):=by
 refine kW Tryz.func205 (by cbv) (by rfl) λw O h=>?_;obtain⟨⟨D,u⟩,⟨B,A⟩,⟨E,H⟩,⟨G,F⟩⟩:=l;simp only[j4,TT,OA,OB,LL,FF];simp only[b2x,Bq.enc,Lq.enc,Sp.enc,Sn.enc,snQ,sb,List.cons_append,List.nil_append];(repeat first|refine uA ?_|simp(disch:=omega) only[go_sem,Nat.reduceAdd]);(exact uS rfl rfl)
theorem a4d:∀(Z:List (Lk×Sp)) (n:Lq),(U9 n Z).length=Z.length+1
 | [],_=>rfl
 | (l,t)::r,n=>by rw[U9,d0j,a4d r,d0j]
def a3g(a:Am)(q:List Sp):List Bq:=(U9 (a1L a.base) (a.links.zip q)).map b2x
def c7Y(x y:Sp):FZ 205 [.agg (x.enc++y.enc++[.v (.bool false),sb [],sb [],.v (.bool false),sb [],sb [],.v (.bool false),sb [],sb [],.v (.bool false),sb [],sb []])] (.agg (Bq.mk x.lo y.lo x.hi y.hi).enc):=by
 refine kW Tryz.func205 (by cbv) (by rfl) λw O h=>?_;obtain⟨D,u⟩:=x;obtain⟨B,A⟩:=y;simp only[j4,TT,OA,OB,LL,FF];simp only[Bq.enc,Sp.enc,Sn.enc,snQ,sb,List.cons_append,List.nil_append];(repeat first|refine uA ?_|simp(disch:=omega) only[go_sem,Nat.reduceAdd]);(exact uS rfl rfl)
def b1V{l:Lk}(h:a0Y l=0):3<=l.shape.length/\l.shape.length<=8/\∀v∈l.shape,Rb 8 v.x/\Rb 8 v.y:=by
 unfold a0Y at h;split at h
 ·cases h
 split at h
 ·cases h
 split at h
 ·rename_i u;exact absurd h u
 ·rename_i u;have u:a0f l.shape 8=0:=Classical.not_not.1 u;unfold a0f at u;split at u
  ·cases u
  split at u
  ·cases u
  split at h
  ·rename_i B;refine⟨by omega,by omega,λv A=>?_⟩;have:=List.all_eq_true.1 B v A;simp only[d0s]at this;exact⟨(a2B this.1).m rfl,(a2B this.2).m rfl⟩
  ·cases h
def ptI(f:Lq)(s:Sp×Sp)(r:List Vt):Sp×Sp:=r.foldl (λs v=>(U6 s.1 (atX f v),U6 s.2 (atY f v))) s
def shB(f:Lq)(l:Lk):Bq:=match l.shape with
 | []=>⟨0,0,0,0⟩
 | v::r=>⟨(ptI f (atX f v,atY f v) r).1.lo,(ptI f (atX f v,atY f v) r).2.lo,(ptI f (atX f v,atY f v) r).1.hi,(ptI f (atX f v,atY f v) r).2.hi⟩
def a3E(T:List Lq)(L:List Lk):List Bq:=(L.zip T).map λz=>shB z.2 z.1
def c2C(f:Lq)(s:Sp×Sp){r:List Vt}{i:Nat}{v:Vt}(h:r[i]?=some v):ptI f s (r.take (i+1))=(U6 (ptI f s (r.take i)).1 (atX f v),U6 (ptI f s (r.take i)).2 (atY f v)):=by
 unfold ptI;rw[take_at h,List.foldl_append];rfl
def b7H{a:Am}(D:J2 a=0):Zl (SB 0) (a1L a.base):=by
 obtain⟨fb,_⟩:=a7V D;have B:=b2H (h:=a.base.half) (fb.2.2.mono (show tB 0<=64 by decide)) (by decide);have A:Rb 262144 (Nm.ofQ (a2w a.base.half (M8 a.base.half a.base.t))):=(c1k _ B).m rfl;have u:Rb 262144 (Nm.ofQ (a0v (M8 a.base.half a.base.t))):=(a5i B).m rfl;exact⟨(a4S (fb.1.mono (show xB 0<=64 by decide)) (by decide)).m rfl,(a4S (fb.2.1.mono (show xB 0<=64 by decide)) (by decide)).m rfl,⟨A,A⟩,⟨u,u⟩⟩
def Bb(k:Nat)(b:Bq):Prop:=Rb k (Nm.ofQ b.lx)/\Rb k (Nm.ofQ b.ly)/\Rb k (Nm.ofQ b.hx)/\Rb k (Nm.ofQ b.hy)
def a4U(b:Bq)(r:Rat):Bq:=⟨b.lx-r,b.ly-r,b.hx+r,b.hy+r⟩
def c6f{k m:Nat}{b:Bq}{r:Rat}(h:Bb k b)(hr:Rb m (Nm.ofQ r)):Bb (k+m+1) (a4U b r):=⟨R6 h.1 hr,R6 h.2.1 hr,O4 h.2.2.1 hr,O4 h.2.2.2 hr⟩
def c6Z(b:Bq)(r:Rat)(N:Bb 1073741824 b)(hr:Rb 1073741824 (Nm.ofQ r)):FZ 273 [.agg b.enc,rq r] (.agg (a4U b r).enc):=by
 refine kW Tryz.func273 (by cbv) (by rfl) λw O h=>?_;obtain⟨E,u,F,K⟩:=b;obtain⟨G,M,H,I⟩:=N;simp only at G M H I;have A:=a7d E r (G.m rfl) (hr.m rfl);have D:=a7d u r (M.m rfl) (hr.m rfl);have J:=a3l F r (H.m rfl) (hr.m rfl);have B:=a3l K r (I.m rfl) (hr.m rfl);unfold a4U;simp only;generalize E-r=T at*;generalize u-r=P at*;generalize F+r=R at*;generalize K+r=U at*;simp only[j4,TT,OA,OB,LL,FF];simp only[Bq.enc,rq,rc,sb]at A D J B ⊢;(repeat first|refine uA ?_|simp(disch:=omega) only[go_sem,Nat.reduceAdd]|refine uD A (tz h) rfl ?_|refine uD D (tz h) rfl ?_|refine uD J (tz h) rfl ?_|refine uD B (tz h) rfl ?_);(exact uS rfl rfl)
abbrev Cl:=Int×Int
def b4Z(a b:Int):Int:=if a<b then -1 else if b<a then 1 else 0
def a3a(a b:Cl):Int:=if b4Z a.2 b.2=0 then b4Z a.1 b.1 else b4Z a.2 b.2
def ltC(a b:Cl):Bool:=decide (a3a a b<0)
def c5U{a b:Cl}:a3a a b<0 <-> a.2<b.2\/(a.2=b.2/\a.1<b.1):=by
 obtain⟨A,h⟩:=a;obtain⟨B,u⟩:=b;simp only[a3a,b4Z];split<;>(try split)<;>(try split)<;>(try split)<;>omega
def b7W{a b:Cl}:a3a a b=0 <-> a=b:=by
 obtain⟨A,h⟩:=a;obtain⟨B,u⟩:=b;rw[Prod.mk.injEq];simp only[a3a,b4Z];split<;>(try split)<;>(try split)<;>(try split)<;>omega
def a9L{a b:Cl}:ltC a b=true <-> a.2<b.2\/(a.2=b.2/\a.1<b.1):=by
 unfold ltC;rw[decide_eq_true_iff,c5U]
def b0a{a b:Cl}:ltC a b=false <-> ¬(a.2<b.2\/(a.2=b.2/\a.1<b.1)):=by
 rw[<- a9L,Bool.not_eq_true]
def a2a(a:Cl):ltC a a=false:=by rw[b0a];omega
def a3J{a b c:Cl}(h:ltC a b=true)(k:ltC b c=true):ltC a c=true:=by rw[a9L]at*;omega
def a8G{a b c:Cl}(h:ltC a b=false)(k:ltC b c=false):ltC a c=false:=by rw[b0a]at*;omega
def a7f{a b:Cl}(h:ltC a b=false)(k:ltC b a=false):a=b:=by
 rw[b0a]at*;exact Prod.ext (by omega) (by omega)
def c7s{a b c:Cl}(h:ltC b a=false)(k:ltC b c=true):ltC a c=true:=by rw[b0a]at h;rw[a9L]at*;omega
def Up(l:List Cl):Prop:=l.Pairwise λa b=>ltC a b=true
def Up.sub{l m:List Cl}(h:Up l)(s:m.Sublist l):Up m:=h.sublist s
def Up.get{l:List Cl}(h:Up l){i j:Nat}{x y:Cl}(u:i<j)(B:l[i]?=some x)(A:l[j]?=some y):ltC x y=true:=by
 obtain⟨a,rfl⟩:=d0i.1 B;obtain⟨b,rfl⟩:=d0i.1 A;exact List.pairwise_iff_getElem.1 h i j a b u
def dd(l:List Cl):Nat->List Cl
 | 0=>[]
 | r+1=>if 0<r/\l[r-1]?=l[r]? then dd l r else dd l r++(l[r]?).toList
def b6x{l:List Cl}{r:Nat}{x y:Cl}(hr:0<r)(u:l[r]?=some x)(A:l[r-1]?=some y)(h:x=y):dd l (r+1)=dd l r:=by
 show(if 0<r/\l[r-1]?=l[r]? then dd l r else dd l r++(l[r]?).toList)=_;rw[if_pos ⟨hr,by rw[u,A,h]⟩]
def b9U{l:List Cl}{r:Nat}{x y:Cl}(u:l[r]?=some x)(A:l[r-1]?=some y)(h:x≠y):dd l (r+1)=dd l r++[x]:=by
 show(if 0<r/\l[r-1]?=l[r]? then dd l r else dd l r++(l[r]?).toList)=_;rw[if_neg (λk=>h (by have:=k.2;rw[u,A]at this;injection this with this;exact this.symm)),u];rfl
def c8e{l:List Cl}{x:Cl}(h:l[0]?=some x):dd l 1=[x]:=by
 show(if 0<0/\l[0-1]?=l[0]? then dd l 0 else dd l 0++(l[0]?).toList)=_;rw[if_neg (λk=>absurd k.1 (Nat.lt_irrefl _)),h];rfl
theorem b5v{l:List Cl}:∀r:Nat,r<=l.length->(∀j,0<j->j<r->l[j]? ≠ l[j-1]?)->dd l r=l.take r
 | 0,_,_=>by simp[dd]
 | r+1,hr,h=>by
  have ih:=b5v r (by omega) λj A B=>h j A (by omega);have u:=d0b (show r<l.length by omega);generalize l[r]'_=x at u
  show(if 0<r/\l[r-1]?=l[r]? then dd l r else dd l r++(l[r]?).toList)=_;rw[if_neg (λk=>h r k.1 (by omega) k.2.symm),ih,List.take_add_one]
theorem a7W{l:List Cl}(K:l.Pairwise λa b=>ltC b a=false):∀r:Nat,r<=l.length->Up (dd l r)/\(∀x,x∈dd l r <-> x∈l.take r)/\(dd l r).length<=r
 | 0,_=>⟨List.Pairwise.nil,by simp[dd],d0m _⟩
 | r+1,hr=>by
  obtain⟨h1,h2,h3⟩:=a7W K r (by omega);have D:=d0b (show r<l.length by omega);generalize l[r]'_=x at D;have M:l.take (r+1)=l.take r++[x]:=by rw[List.take_add_one,D];rfl
  rw[M];rcases d0K r with F|F
  ·subst F;rw[c8e D];exact⟨List.pairwise_singleton _ _,by simp,by simp⟩
  ·have B:=d0b (show r-1<l.length by omega);generalize l[r-1]'_=y at B;have G:y∈l.take r:=d0g (i:=r-1) (by rw[List.getElem?_take,if_pos (by omega)];exact B);by_cases A:x=y
   ·rw[b6x F D B A];subst A;refine⟨h1,λz=>?_,by omega⟩;rw[h2,List.mem_append,List.mem_singleton];exact⟨.inl,λh=>h.elim id λe=>e ▸ G⟩
   ·rw[b9U D B A];have O:=List.pairwise_iff_getElem.1 K;have get:∀{i j:Nat} {a b:Cl},i<j->l[i]?=some a->l[j]?=some b->ltC b a=false:=λ{i j a b} H P u=>by
     obtain⟨p,rfl⟩:=d0i.1 P;obtain⟨q,rfl⟩:=d0i.1 u;exact O i j p q H
    have E:ltC y x=true:=by
     have h:=get (show r-1<r by omega) B D;cases N:ltC y x with
     | true=>rfl
     | false=>exact absurd (a7f h N) A
    refine⟨List.pairwise_append.2 ⟨h1,List.pairwise_singleton _ _,λz J w I=>?_⟩,λz=>?_,by rw[d0c];simp;omega⟩
    ·rw[List.mem_singleton]at I;subst I;rw[h2]at J;obtain⟨j,u⟩:=List.mem_iff_getElem?.1 J;rw[List.getElem?_take]at u;split at u
     ·rcases d0B j (r-1) with h|h
      ·exact c7s (get h u B) E
      ·have:j=r-1:=by omega
       subst this;rw[B]at u;injection u with u;rw[<- u];exact E
     ·cases u
    ·rw[List.mem_append,List.mem_append,h2]
def leC(a b:Cl):Bool:=!ltC b a
def Y4(l:List Cl):List Cl:=dd (l.mergeSort leC) (l.mergeSort leC).length
def a6v(l:List Cl):(l.mergeSort leC).Pairwise λa b=>ltC b a=false:=by
 have h:=List.pairwise_mergeSort (le:=leC) (λa b c A u=>by
  unfold leC at*;rw[Bool.not_eq_true']at*;exact a8G u A) (λa b=>by
  unfold leC;cases h:ltC b a with
  | false=>rfl
  | true=>
   cases k:ltC a b with
   | false=>rfl
   | true=>exact absurd (a3J h k) (by rw[a2a];decide)) l
 exact h.imp λ{a b} k=>by unfold leC at k;rwa[Bool.not_eq_true']at k
def b4F(l:List Cl):Up (Y4 l):=(a7W (a6v l) _ (d0m _)).1
def a9b{l:List Cl}{x:Cl}:x∈Y4 l <-> x∈l:=by
 unfold Y4;rw[(a7W (a6v l) _ (d0m _)).2.1,d0w,List.mem_mergeSort]
def a9q(l:List Cl):(Y4 l).length<=l.length:=by
 have:=(a7W (a6v l) _ (d0m _)).2.2;rw[List.length_mergeSort]at this;unfold Y4;rwa[List.length_mergeSort]
def a3P(a b:List Cl):List Cl:=Y4 (a++b)
def a4G(l:List Cl)(c:Cl):Bool:=l.contains c
def a8C(a b:List Cl):List Cl:=(Y4 a).filter λc=>a4G (Y4 b) c
def c0v{a b:List Cl}{x:Cl}:x∈a8C a b <-> x∈a/\x∈b:=by
 unfold a8C a4G;rw[List.mem_filter,a9b,List.contains_iff_mem,a9b]
def b8Z{l:List Cl}(E:Up l){t:Cl}{i:Nat}(F:∀k x,k<i->l[k]?=some x->ltC x t=true)(D:∀k x,i<=k->l[k]?=some x->ltC x t=false) :
  a4G l t=match l[i]? with|some x=>decide (a3a x t=0)|none=>false:=by
 unfold a4G;have B:l.contains t=true->l[i]?=some t:=λh=>by
  obtain⟨m,A⟩:=List.mem_iff_getElem?.1 (List.contains_iff_mem.1 h);rcases Nat.lt_trichotomy m i with k|k|k
  ·have:=F m t k A;rw[a2a]at this;cases this
  ·rw[<- k];exact A
  ·have u:=d0b (show i<l.length by have:=(d0i.1 A).1;omega);have a:=E.get k u A;rw[D i _ (d0m _) u]at a;cases a
 cases h:l.contains t with
 | true=>rw[B h];simp[b7W]
 | false=>
  cases u:l[i]? with
  | none=>rfl
  | some x=>
   simp only;refine(decide_eq_false λe=>?_).symm;rw[b7W]at e;subst e;rw[List.contains_iff_mem.2 (d0g u)]at h;cases h
end Go.Proofs.YtfkipfnkpeobjaaGreatDoor
namespace Go.Proofs
open Go.Shelf
def Tryz.a2n:Go.Shelf.Ren:=⟨fun|6=>121|15=>165|14=>164|28=>217|29=>218|20=>209|21=>210|22=>211|23=>212|24=>213|25=>214|26=>215|27=>216|46=>257|47=>258|48=>259|49=>260|50=>261|57=>289|n=>n,fun|22=>113|24=>120|25=>227|3=>3|39=>47|0=>0|53=>232|55=>45|4=>4|46=>308|45=>307|50=>312|5=>5|9=>9|66=>342|70=>138|76=>369|77=>370|n=>n,fun|n=>n⟩
def Tryz.a6V:Go.Proofs.SlLaysF0.n6 Tryz.prog Tryz.a2n:={
 mixed:=by kernel_rfl
 f6:=⟨Tryz.f121.name,by decide,Tryz.func121.trans (congrArg some (by kernel_rfl))⟩
 f14:=⟨Tryz.f164.name,by decide,Tryz.func164.trans (congrArg some (by kernel_rfl))⟩
 f15:=Tryz.func165.trans (congrArg some (by kernel_rfl))
 f20:=⟨Tryz.f209.name,by decide,Tryz.func209.trans (congrArg some (by kernel_rfl))⟩
 f21:=⟨Tryz.f210.name,by decide,Tryz.func210.trans (congrArg some (by kernel_rfl))⟩
 f22:=⟨Tryz.f211.name,by decide,Tryz.func211.trans (congrArg some (by kernel_rfl))⟩
 f23:=⟨Tryz.f212.name,by decide,Tryz.func212.trans (congrArg some (by kernel_rfl))⟩
 f24:=⟨Tryz.f213.name,by decide,Tryz.func213.trans (congrArg some (by kernel_rfl))⟩
 f25:=⟨Tryz.f214.name,by decide,Tryz.func214.trans (congrArg some (by kernel_rfl))⟩
 f26:=⟨Tryz.f215.name,by decide,Tryz.func215.trans (congrArg some (by kernel_rfl))⟩
 f27:=⟨Tryz.f216.name,by decide,Tryz.func216.trans (congrArg some (by kernel_rfl))⟩
 f28:=Tryz.func217.trans (congrArg some (by kernel_rfl))
 f29:=Tryz.func218.trans (congrArg some (by kernel_rfl))
 f46:=⟨Tryz.f257.name,by decide,Tryz.func257.trans (congrArg some (by kernel_rfl))⟩
 f47:=Tryz.func258.trans (congrArg some (by kernel_rfl))
 f48:=Tryz.func259.trans (congrArg some (by kernel_rfl))
 f49:=⟨Tryz.f260.name,by decide,Tryz.func260.trans (congrArg some (by kernel_rfl))⟩
 f50:=⟨Tryz.f261.name,by decide,Tryz.func261.trans (congrArg some (by kernel_rfl))⟩
 f57:=⟨Tryz.f289.name,by decide,Tryz.func289.trans (congrArg some (by kernel_rfl))⟩
 t0:=Tryz.underlying0
 a0:=Tryz.isAgg0
 z0:=Tryz.sizeOf0
 v0:=Tryz.zeroValue0
 t3:=Tryz.underlying3
 a3:=Tryz.isAgg3
 z3:=Tryz.sizeOf3
 v3:=Tryz.zeroValue3
 t4:=Tryz.underlying4
 a4:=Tryz.isAgg4
 z4:=Tryz.sizeOf4
 v4:=Tryz.zeroValue4
 t5:=Tryz.underlying5
 a5:=Tryz.isAgg5
 z5:=Tryz.sizeOf5
 v5:=Tryz.zeroValue5
 t9:=Tryz.underlying9
 a9:=Tryz.isAgg9
 z9:=Tryz.sizeOf9
 v9:=Tryz.zeroValue9
 t22:=Tryz.underlying113
 a22:=Tryz.isAgg113
 z22:=Tryz.sizeOf113
 v22:=Tryz.zeroValue113
 t25:=Tryz.underlying227
 a25:=Tryz.isAgg227
 z25:=Tryz.sizeOf227
 v25:=Tryz.zeroValue227
 t39:=Tryz.underlying47
 a39:=Tryz.isAgg47
 z39:=Tryz.sizeOf47
 v39:=Tryz.zeroValue47
 t45:=Tryz.underlying307
 a45:=Tryz.isAgg307
 z45:=Tryz.sizeOf307
 v45:=Tryz.zeroValue307
 t46:=Tryz.underlying308
 a46:=Tryz.isAgg308
 z46:=Tryz.sizeOf308
 v46:=Tryz.zeroValue308
 t50:=Tryz.underlying312
 a50:=Tryz.isAgg312
 z50:=Tryz.sizeOf312
 v50:=Tryz.zeroValue312
 t53:=Tryz.underlying232
 a53:=Tryz.isAgg232
 z53:=Tryz.sizeOf232
 v53:=Tryz.zeroValue232
 t55:=Tryz.underlying45
 a55:=Tryz.isAgg45
 z55:=Tryz.sizeOf45
 v55:=Tryz.zeroValue45
 t66:=Tryz.underlying342
 a66:=Tryz.isAgg342
 z66:=Tryz.sizeOf342
 v66:=Tryz.zeroValue342
 t70:=Tryz.underlying138
 a70:=Tryz.isAgg138
 z70:=Tryz.sizeOf138
 v70:=Tryz.zeroValue138
 t76:=Tryz.underlying369
 a76:=Tryz.isAgg369
 z76:=Tryz.sizeOf369
 v76:=Tryz.zeroValue369
 t77:=Tryz.underlying370
 a77:=Tryz.isAgg370
 z77:=Tryz.sizeOf370
 v77:=Tryz.zeroValue370 }
def Tryz.b6S:Go.Shelf.Ren:=⟨fun|122=>275|215=>291|n=>n,fun|3=>3|4=>4|n=>n,fun|n=>n⟩
def Tryz.c4X:Go.Proofs.Lays.n122 Tryz.prog Tryz.b6S:={
 mixed:=by kernel_rfl
 f122:=Tryz.func275.trans (congrArg some (by kernel_rfl))
 f215:=Tryz.func291.trans (congrArg some (by kernel_rfl))
 t3:=Tryz.underlying3
 a3:=Tryz.isAgg3
 z3:=Tryz.sizeOf3
 v3:=Tryz.zeroValue3
 t4:=Tryz.underlying4
 a4:=Tryz.isAgg4
 z4:=Tryz.sizeOf4
 v4:=Tryz.zeroValue4 }
open Go.RowKit in
theorem Tryz.cmp_Compare_int(x y:Int)(w:World) :
  Calls Tryz.prog 275 #[.int .i64 x,.int .i64 y] w λe w'=>e=.returned (.int .i64 (Lib.compareInt x y))/\w'=w:=Any.cmp_Compare_int Tryz.c4X x y w
end Go.Proofs
namespace Go.Proofs.YtfkipfnkpeobjaaGreatDoor
open Go Go.RowKit Go.Lib Go.Sort Eng
set_option maxRecDepth 100000
set_option maxHeartbeats 4000000
def ce(p:Cl):List C:=[.v (.int .i64 p.1),.v (.int .i64 p.2)]
def cls(l:List Cl):C:=.sl 2 (l.map ce)
def cv(p:Cl):List Value:=[.int .i64 p.1,.int .i64 p.2]
def c8E{l:List Cl}:∀q∈l.map ce,q.length=2:=λq h=>by
 obtain⟨p,_,rfl⟩:=List.mem_map.1 h;rfl
def b5G{l:List Cl}:∀q∈l.map cv,q.length=2:=λq h=>by
 obtain⟨p,_,rfl⟩:=List.mem_map.1 h;rfl
theorem b4k:∀l:List Cl,(l.map ce).flatten=((l.map cv).flatten).map C.v
 | []=>rfl
 | p::l=>by
  rw[d0l,List.flatten_cons,b4k l,d0l,List.flatten_cons,d0u];rfl
theorem b9i{w:World}{O:Nat->Prop}:∀(u vs:List Value),FzL w O (u.map C.v) vs->vs=u
 | [],vs,h=>by simpa only[d0p,FzL] using h
 | x::u,vs,h=>by
  simp only[d0l,FzL,Fz]at h;obtain⟨y,ys,rfl,rfl,h⟩:=h;rw[b9i u ys h]
def flat_get{α:Type}{es:List (List α)}{sz k i:Nat}{q:List α}(h:∀q∈es,q.length=sz)(A:es[k]?=some q)(u:i<sz):es.flatten[k*sz+i]?=q[i]?:=by
 rw[<- a3B h A,List.getElem?_take,if_pos u,d0Q]
def b8n(l:List Cl):(flatK cv 2 l.toArray).toList=(l.map cv).flatten:=by
 apply List.ext_getElem?;intro j;have A:(l.map cv).flatten.length=l.length*2:=by rw[Q9 (sz:=2) b5G,d0d]
 rcases d0B j (l.length*2) with h|h
 ·have B:j/2<l.length:=by omega
  have E:(l.map cv)[j/2]?=some (cv l[j/2]):=by rw[d0q,d0b B];rfl
  have u:=flat_get (i:=j%2) b5G E (by omega);rw[show j/2*2+j%2=j by omega]at u;rw[u];simp only[flatK,Array.getElem?_toList,Array.getElem?_map,Array.getElem?_range,List.size_toArray];rw[if_pos h,d0e,getElem!_pos l.toArray (j/2) (by simpa using B)];have D:(cv l[j/2])[j%2]?=some ((cv l[j/2])[j%2]!):=by
   rcases(show j%2=0\/j%2=1 by omega) with h|h<;>rw[h]<;>rfl
  rw[D];rfl
 ·rw[d0J (by simpa using h),d0J (by omega)]
def b7Z(D u B A:Int)(W:World):Calls Tryz.prog 238 #[.agg #[.int .i64 D,.int .i64 u],.agg #[.int .i64 B,.int .i64 A]] W λe w'=>e=.returned (.int .i64 (a3a (D,u) (B,A)))/\∃q os',w'=grow (W.drewN q) os':=by
 have E:a3a (D,u) (B,A)=if Lib.compareInt u A=0 then Lib.compareInt D B else Lib.compareInt u A:=rfl
 rw[E];have h:=λa b F=>Tryz.cmp_Compare_int a b F;clear E;generalize Lib.compareInt=G at*
 go_enter Tryz.func238,Tryz.ntmps238
 go_wp2_with (go_at_call 275;refine(h _ _ _).mono ?_;rintro e w' ⟨rfl,rfl⟩)
 all_goals (go_ret;exact⟨by simp_all,0,_,by rw[alloc_eq_grow,alloc_eq_grow,grow_grow];rfl⟩)
def c5w(a b:Cl):p8 Tryz.prog 238 [.agg (ce a),.agg (ce b)] (ints (a3a a b)):=by
 intro O w vs H u;simp only[FzL,ce,Fz]at u;obtain⟨y,K,rfl,⟨B,⟨z,E,rfl,rfl,G,h,rfl,rfl,rfl⟩,rfl⟩,J,F,rfl,⟨B,⟨z,E,rfl,rfl,G,h,rfl,rfl,rfl⟩,rfl⟩,rfl⟩:=u;refine(b7Z a.1 a.2 b.1 b.2 w).mono ?_;rintro e I ⟨rfl,q,A,rfl⟩;refine⟨_,rfl,⟨rfl,rfl,rfl,?_,λk D=>?_⟩,by simp only[ints,Fz]⟩
 ·show w.heap.size<=(w.heap++A).size;simp
 ·show(w.heap++A)[k]?=w.heap[k]?;rw[Array.getElem?_append_left D]
def c6U{E:Ctx}(hP:E.P=Tryz.prog)(es:List Cl)(hn:es.length<4611686018427387904) :
 l5 E [.row 120 2 (es.map ce)] 121 [.rv 0,.v (.func (.func 238) #[] #[])] (.v (.tuple #[])) [.row 120 2 ((es.mergeSort leC).map ce)] []:=by
 obtain⟨P,aj,N,w0,I,am,ap,an⟩:=E;simp only at hP;subst hP;intro av ν w vs hR aq hF hD;simp only[l6,Den]at hD;obtain⟨x,ys,rfl,⟨hx,_⟩,y2,al,rfl,rfl,rfl⟩:=hD;obtain⟨hl,vs,ae,ai,H⟩:=hR.get (k:=0) rfl hx;have aa:ν=[x]:=by
  have U:=hR.len
  match ν,U,hx with
  | [z],_,h=>simp at h;rw[h]
 subst aa;have ab:vs=(es.map cv).flatten:=b9i _ _ (by rw[<- b4k];exact ae);rw[d0d]at H;have fin:∀J,RG av I w0.heap.size [x] ([Res.row 120 2 (es.map ce)].set 0 (.row 120 2 ((es.mergeSort leC).map ce))) J/\Mv [Res.row 120 2 (es.map ce)] [x] w [] ([Res.row 120 2 (es.map ce)].set 0 (.row 120 2 ((es.mergeSort leC).map ce))) [x] J ->
  ∃B,RG av I w0.heap.size B [.row 120 2 ((es.mergeSort leC).map ce)] J/\Mv [.row 120 2 (es.map ce)] [x] w [] [.row 120 2 ((es.mergeSort leC).map ce)] B J/\Den B J (OO av [.row 120 2 ((es.mergeSort leC).map ce)] B) (.v (.tuple #[])) (.tuple #[]):=
  λJ h=>⟨[x],h.1,h.2,by simp only[Den]⟩
 rcases H.2 with⟨h0,A,rfl⟩|⟨g,cap,D,rfl,ac,hg,Z,ah,X,O⟩
 ·have he:es=[]:=d0I h0;subst he;have h:=AnyF.slices_SortFunc_none (P:=Tryz.prog) (ρ:=Tryz.a2n) { Tryz.a6V with } A 0 (.func (.func 238) #[] #[]) w;refine h.mono ?_;rintro e J ⟨rfl,rfl⟩;refine(fin _ ?_).elim λB h=>⟨_,B,rfl,h⟩
  rw[show([]:List Cl).mergeSort leC=[] by simp,set_self rfl];exact⟨hR,Mv.of_below (Below.refl _ _)⟩
 ·have W:g<w.heap.size:=(Array.getElem?_eq_some_iff.1 hg).1;have ao:es.length*2<=D.size:=by rw[X];exact d0M _ Z
  have hH:HoldsK cv 2 w g 0 es.toArray:=by
   intro j R;rw[size_flatK,List.size_toArray]at R;have e1:(flatK cv 2 es.toArray)[j]! = D[j]'(by omega):=by
    have h1:(flatK cv 2 es.toArray).toList[j]?=D.toList[j]?:=by
     rw[b8n,<- ab,<- O,List.getElem?_take,if_pos R]
    rw[Array.getElem?_toList,Array.getElem?_toList,Array.getElem?_eq_getElem (show j<D.size by omega),Array.getElem?_eq_getElem (show j<(flatK cv 2 es.toArray).size by rw[size_flatK,List.size_toArray];exact R)]at h1;injection h1 with h1;rw[getElem!_pos _ _ (by rw[size_flatK,List.size_toArray];exact R),h1]
   rw[e1];have K:j<D.size:=by omega
   constructor
   ·simp[World.cell?,hg,K]
   ·simp[World.frozen?,hg]
  have V:CmpLays Tryz.prog 238 #[] cv 2 a3a g 0 es.toArray.size w:=λ_ _ _ _ a b=>b7Z a.1 a.2 b.1 b.2 _;have eg:∀args w,(callFunc 238 args).run Tryz.prog w=.ok (.enter 238 args) w:=enters_of Tryz.func238 (by kernel_rfl) rfl;have T:SWO (ltOf a3a):=⟨a2a,λ_ _ _ h k=>a3J h k,λ_ _ _ h k=>a8G h k⟩
  have h:=AnyQ.slices_SortFunc_total (P:=Tryz.prog) (ρ:=Tryz.a2n) Tryz.a6V 2 Tryz.isAgg120 Tryz.sizeOf120 cv (λ_=>rfl) (λa v hv=>by simp[cv]at hv;rcases hv with rfl|rfl<;>rfl) a3a T 238 #[] g 0 cap es.toArray w eg V hH W (by simpa using hn) (λ_ _ h k=>a7f h k);have af:es.toArray.size=es.length:=by simp
  rw[af]at h;refine Calls.mono h ?_;rintro e J ⟨rfl,n,os,rfl⟩;refine(fin _ ?_).elim λB h=>⟨_,B,rfl,h⟩
  have ag:(List.mergeSort es.toArray.toList λx y=>!(ltOf a3a) y x)=es.mergeSort leC:=rfl;rw[ag];generalize hM:es.mergeSort leC=M;have G:M.length=es.length:=by rw[<- hM,List.length_mergeSort]
  have F:∀k,k<w.heap.size->(sortWorldK cv 2 w g 0 n M.toArray os).heap[k]?=if g=k then some (.cells (putCells id 0 (flatK cv 2 M.toArray) D) 120 (0,0)) else w.heap[k]?:=λk hk=>by
   show((w.heap.modify g (onCells (putCells id 0 (flatK cv 2 M.toArray))))++os)[k]?=_;rw[Array.getElem?_append_left (by simpa using hk),Array.getElem?_modify];split
   ·rename_i e;subst e;rw[hg];rfl
   ·rfl
  refine hR.upd (r':=.row 120 2 (M.map ce)) rfl rfl ⟨rfl,rfl,rfl,?_,λb hb hn=>?_⟩ (λb hb=>hb) λak=>?_
  ·show w.heap.size<=((w.heap.modify g _)++os).size;simp
  ·rw[F b hb,if_neg λe=>hn (by simp only[fp,E8];rw[if_neg (by omega),e])]
  ·refine⟨c8E,(M.map cv).flatten,by rw[b4k];exact FzL.vs _,λu hu=>?_,?_⟩
   ·obtain⟨q,hq,hu⟩:=List.mem_flatten.1 hu;obtain⟨p,_,rfl⟩:=List.mem_map.1 hq;simp[cv]at hu;rcases hu with rfl|rfl<;>rfl
   ·rw[d0d,G];refine⟨by rw[Q9 (sz:=2) b5G,d0d,G],.inr ⟨g,cap,_,rfl,ac,by rw[F g W,if_pos rfl],Z,ah,by simpa[putCells] using X,?_⟩⟩;rw[<- b8n];apply List.ext_getElem?;intro j;rw[List.getElem?_take];split
    ·rename_i R;have Y:j<(flatK cv 2 M.toArray).size:=by rw[size_flatK,List.size_toArray,G];exact R
     have K:j<D.size:=by omega
     simp only[Array.getElem?_toList,putCells,Array.getElem?_mapIdx];rw[Array.getElem?_eq_getElem K,d0e,if_pos ⟨d0k _,by omega⟩,Array.getElem?_eq_getElem Y,Nat.sub_zero,getElem!_pos (flatK cv 2 M.toArray) j Y];rfl
    ·rename_i R;rw[d0J];rw[Array.length_toList,size_flatK,List.size_toArray,G];omega
open Go Eng
end Go.Proofs.YtfkipfnkpeobjaaGreatDoor
namespace Go.Proofs.YtfkipfnkpeobjaaGreatDoor
attribute [local go_sem] Eng.nbq beq_self_eq_true Eng.ww Eng.uk Eng.uk2
open Go Go.RowKit Eng
set_option maxRecDepth 100000
set_option maxHeartbeats 8000000
def l5.vg{E:Ctx}{rs rs2 rs':List Res}{f:Nat}{A u:List C}{s:C}{pk:List Nat}(h:l5 E rs2 f u s rs' pk)(W:j3 rs rs2 A u)(F:C9 rs rs2 rs2 rs)(D:rs2.length=rs.length):l5 E rs f A s rs' pk:=by
 intro X ν w vs I N R V;have K:=a2F F;have G:=W.den I (Cut.of I K) V;have O:ν.take rs2.length=ν:=by rw[D,<- I.len];exact d0w
 rw[O]at G;have H:=I.weak F;rw[O]at H;refine(h X ν w vs H N R G).mono ?_;rintro e Z ⟨y,M,rfl,P,B,T⟩;exact⟨y,M,rfl,P,⟨B.os,B.tape,B.output,B.size,λb J Y=>B.block b J (λU=>Y (a3L K U)),λb J=>(B.own b J).imp (a3L K) id,B.nu⟩,T⟩
def c5y(n:Nat)(u:n<=1000000000):FNew Tryz.prog 274 [.v (.slice none 0 0),ints n] 120 2 []:=by
 refine FNew.of (eff:=eff) Tryz.func274 (by cbv) (by exact d0n rfl) λw O=>?_;simp only[j4,TT,II,OA,OB,MM,ints];refine uV rfl ?_;apply uJ rfl<;>intro h
 ·omega
 (repeat first|refine uA ?_|simp(disch:=omega) only[go_sem,Nat.reduceAdd]);apply uJ rfl<;>intro h
 ·(repeat first|refine uA ?_|simp(disch:=omega) only[go_sem,Nat.reduceAdd]);refine S.weaken (Ent.shrink 4 0 rfl rfl (d0k _) ⟨.inr (d0k _),trivial⟩) ?_
  exact S.done (H6.new rfl rfl rfl)
 ·(repeat first|refine uA ?_|simp(disch:=omega) only[go_sem]);refine S.weaken (Ent.pack 4 120 2 rfl) ?_
  exact S.done (H6.new rfl rfl rfl)
def a1O(ls:List (List Cl)):C:=.sl 1 (ls.map λl=>[cls l])
def b2T{ls:List (List Cl)}{i:Nat}{l:List Cl}(h:ls[i]?=some l):(ls.take (i+1)).flatten=(ls.take i).flatten++l:=by
 rw[List.take_add_one,h,List.flatten_append];simp
def a3x(ls:List (List Cl))(i:Nat):Nat:=((ls.take i).flatten).length
def c1V(ls:List (List Cl)):a3x ls 0=0:=by simp[a3x]
def c1C{ls:List (List Cl)}{i:Nat}{l:List Cl}(h:ls[i]?=some l):a3x ls (i+1)=a3x ls i+l.length:=by unfold a3x;rw[b2T h,d0c]
def c3Z(ls:List (List Cl))(P:ls.length<=1000)(A:∀i,a3x ls i<=1000000000):FNew Tryz.prog 237 [a1O ls] 120 2 (ls.flatten.map ce):=by
 refine FNew.of (eff:=eff) Tryz.func237 (by cbv) (by exact d0n rfl) λw O=>?_;have E:=c5y ls.flatten.length (by have:=A ls.length;unfold a3x at this;rwa[d0w]at this);simp only[j4,TT,II,OA,OB,MM,VV,a1O];(repeat first|refine uA ?_|simp(disch:=omega) only[go_sem,d0d]);refine S.loop (X:=Nat) (λi=>⟨[(0,a1O ls),(3,ints (a3x ls i:Nat)),(9,a1O ls),(10,ints ls.length),(11,ints i)],[]⟩) (λi=>i<=ls.length) (λi=>ls.length-i) 0 (d0k _) (by simp only[c1V];exact(by repeat first|refine uA ?_|refine⟨rfl,?_⟩|rfl|simp)) ?_
 ·intro i M;simp only[a1O,ints];(repeat first|refine uA ?_|simp(disch:=omega) only[go_sem]);apply uJ rfl<;>intro H
  ·have h:i<ls.length:=by omega
   have u:=d0b h;generalize ls[i]=l at u;have F:=c1C u;have B:=A (i+1);generalize D:a3x ls (i+1)=J at*;generalize a3x ls i=I at*;have G:(I:Int)+(l.length:Int)=(J:Int):=by omega
   (repeat first|refine uA ?_|simp(disch:=omega) only[go_sem,ww,d0d,d0q,u,d0e,d0h,cls,G]);apply uJ rfl<;>intro H
   ·omega
   (repeat first|refine uA ?_|simp(disch:=omega) only[go_sem]);refine S.next (i+1) (by omega) (by omega) (by simp only[D];exact(by repeat first|refine uA ?_|refine⟨rfl,?_⟩|rfl|simp))
  ·have h:i=ls.length:=by omega
   subst h;rw[show a3x ls ls.length=ls.flatten.length by unfold a3x;rw[d0w]];generalize N:ls.flatten.length=m at E;(repeat first|refine uA ?_|simp(disch:=omega) only[go_sem,d0d]|refine j5.t (FNew.t E rfl) ?_);refine S.loop (X:=Nat) (λi=>⟨[(6,.rv 0),(25,a1O ls),(26,ints ls.length),(27,ints i)],[.row 120 2 (((ls.take i).flatten).map ce)]⟩) (λi=>i<=ls.length) (λi=>ls.length-i) 0 (d0k _) (by simp only[List.take_zero,List.flatten_nil,d0p];exact(by repeat first|refine uA ?_|refine⟨rfl,?_⟩|rfl|simp)) ?_
   intro i M;clear E;simp only[a1O,ints];(repeat first|refine uA ?_|simp(disch:=omega) only[go_sem]);apply uJ rfl<;>intro H
   ·have h:i<ls.length:=by omega
    have u:=d0b h;generalize ls[i]=l at u;have F:=b2T u;have B:=A (i+1);have K:=A i;unfold a3x at B K;rw[F,d0c]at B;generalize D:(ls.take (i+1)).flatten=J at*;generalize(ls.take i).flatten=I at*;(repeat first|refine uA ?_|(apply uK;· first|omega|(intros;simp_all<;>omega))|simp(disch:=omega) only[go_sem,ww,d0d,d0q,u,d0e,d0h,cls]);refine S.next (i+1) (by omega) (by omega) (by simp only[D,F,d0u];exact(by repeat first|refine uA ?_|refine⟨rfl,?_⟩|rfl|simp[slot]))
   ·have h:i=ls.length:=by omega
    subst h;rw[d0w];(repeat first|refine uA ?_|simp(disch:=omega) only[go_sem]);exact S.done (H6.new rfl rfl rfl)
end Go.Proofs.YtfkipfnkpeobjaaGreatDoor
