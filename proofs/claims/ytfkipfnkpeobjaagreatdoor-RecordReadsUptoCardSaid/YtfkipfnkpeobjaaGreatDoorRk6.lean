/- A part of the proof: lemmas only, with the conditions that each names. -/
import Derived.Test.YtfkipfnkpeobjaaGreatDoorProg
import Derived.KernelRfl
import Derived.Shelf.Strings.SlTrimAscii
import Derived.Test.YtfkipfnkpeobjaaGreatDoorRk5
set_option linter.all false
namespace Go.Proofs.YtfkipfnkpeobjaaGreatDoor
attribute [local go_sem] Eng.nbq beq_self_eq_true Eng.ww Eng.uk Eng.uk2
open Go Go.RowKit Eng
set_option maxRecDepth 10000
set_option maxHeartbeats 8000000
def lsI(e:TypeId)(agg:Bool)(sz bytes:Nat)(zero:List Value):a3N:=⟨57,[],.seq (.reg [MM 11 1,OA 12 (.nilck (TT 11)),VV 13 12,OA 14 (.len false (TT 13)),OA 6 (.alloc 3 [.int .i64 0]),OB (.store 1 (TT 6) (TT 14))]) (.seq (.reg [MM 15 0,OA 16 (.call 53 [TT 15,TT 6])]) (.seq (.seq (.reg [MM 17 0,OA 18 (.nilck (TT 17)),FF 19 2 18,VV 20 19,OA 21 (.un .not (TT 20))]) (.cond (TT 21) (.seq (.seq (.reg [MM 22 1,OA 23 (.nilck (TT 22)),VV 24 23,OA 25 (.len false (TT 24)),OA 26 (.mv (II 0))]) (.block 0 (.loop (.seq (.reg [OA 27 (.bin .lss (TT 26) (TT 25))]) (.seq (.cond (TT 27) .skip (.exit 0)) (.seq (.block 1 (.seq (.reg [OA 28 (.iaddr sz (TT 24) (TT 26)),OA 29 (.load agg sz (TT 28)),OA 8 (.alloc e zero),OB (.store sz (TT 8) (TT 29))]) (.reg [MM 30 2,OA 31 (.Z4 (TT 30) [TT 8])]))) (.reg [OA 32 (.bin .add (TT 26) (II 1)),MM 26 32]))))))) .ret) .skip)) (.seq (.reg [MM 33 1,OA 34 (.nilck (TT 33)),OB (.store 1 (TT 34) (.const (.slice none 0 0)))]) (.seq (.reg [OA 9 (.mv (II 0))]) (.block 2 (.loop (.seq (.seq (.reg [MM 35 9,VV 36 6,OA 37 (.bin .lss (TT 35) (TT 36)),MM 38 37,MG 39 0 38 true,OC 40 (.nilck (TT 39)) 38 true,FG 41 3 40 38 true,VG 42 41 38 true,OC 43 (.un .not (TT 42)) 38 true,OA 44 (.pick (TT 38) (TT 43) (.const (.bool false)))]) (.cond (TT 44) .skip (.exit 2))) (.seq (.block 3 (.seq (.reg [OA 10 (.alloc e zero)]) (.seq (.reg [MM 47 2,OA 48 (.Z4 (TT 47) [TT 10])]) (.a1d [.f,.q,.q,.q,.q,.q,.e none false,.q,.e none true] [MM 49 1,MM 50 1,OA 51 (.nilck (TT 50)),VV 52 51,OA 53 (.load agg sz (TT 10)),OA 54 (.bsl e sz 1 zero [(0,TT 53)]),OA 55 (.app e sz bytes (TT 52) (TT 54)),OA 56 (.nilck (TT 49)),OB (.store 1 (TT 56) (TT 55))])))) (.reg [MM 45 9,OA 46 (.bin .add (TT 45) (II 1)),MM 9 46])))))))))⟩
structure LsA{α:Type}(sz bytes:Nat)(zero:List Value)(enc:α->List C)(d:α):Prop where
 len:∀x,(enc x).length=sz
 pos:0<sz
 cl:∀x,C.clL (enc x)=true
 ones:∀x,C.ones (enc x)=true
 z1:a0g zero=true
 zl:zero.length=sz
 zd:∀rs rs',j3 rs rs' (zero.map .v) (enc d)
 by_:bytes<=500000
 small:sz<=1000
def b4i{α:Type}{f g:Nat}{fn:Func}{e:TypeId}{sz bytes:Nat}{zero:List Value}{enc:α->List C}{d:α}{w:α->List UInt8}{D:α->Prop}{r:Rdr α}(U:Tryz.prog.funcs[f]?=some fn)(G:a0D J6 Tryz.prog fn=some (lsI e true sz bytes zero))(H:LsA sz bytes zero enc d)(T:callable Tryz.prog g=true)(hg:CX g [] enc (Pw d w D) (tr r w)):CX f [.bnd g (.bp 0 0)] (λl:List α=>[.sl sz (l.map enc)]) (Pw [] (j6 w) (LsD D)) (tr (q8 r) (j6 w)):=by
 intro E M c l t pre u hp hq I;obtain⟨P,ef,N0,w0,aq,az,ax,ar⟩:=E;simp only at M;subst M;obtain⟨rd,i,b,o,fr⟩:=c;have O:=λpk=>F4 pk hp;have N:=λpk=>F4 pk hq;haveI:Clz pre:=⟨hp⟩
 haveI:Clz u:=⟨hq⟩
 have V:∀x,C.clL (enc x)=true:=H.cl;haveI:∀x,Clz (enc x):=λx=>⟨V x⟩
 have ae:∀x,(enc x).take sz=enc x:=λx=>d0y (by rw[H.len];exact d0m _);have ab:(zero.map C.v).length=sz:=by rw[d0d];exact H.zl
 have al:(zero.map C.v).drop sz=[]:=List.drop_of_length_le (by rw[ab];exact d0m _);have ao:=H.pos;have ak:=H.by_;have aw:=H.small;refine l5.of (eff:=J6) U G (by exact d0n rfl) λwd own av ν am=>?_;have A:ν.length<=3:=by rw[am];exact d0m _
 cases rd
 ·obtain⟨⟨ay,hD⟩,hl⟩:=I.2 rfl;unfold j6 at hl;rw[d0c]at hl;have hl:o.length+((J3 l.length).length+(l.flatMap w).length)<=16777216:=hl;have hi:G8 (l.length:Int)=J3 l.length:=U7 (by omega);have K:=λ(E:Ctx) (M:E.P=Tryz.prog)=>a1K.on M (rs:=[Cd.box ⟨false,i,b,o,fr⟩,.box t (pre++(.sl sz (l.map enc)::u)),Cd.row ⟨false,i,b,o,fr⟩,.box 3 [ints l.length]]) (m:=3) (off:=0) [] [] rfl rfl (λ_=>rfl) (c:=⟨false,i,b,o,fr⟩) (x:=l.length) (λ_=>by rw[hi];omega) rfl rfl rfl rfl rfl rfl rfl rfl rfl;have hR:tr (q8 r) (j6 w) ⟨false,i,b,o,fr⟩ l=(⟨false,i,b,(o++J3 l.length)++l.flatMap w,false⟩,l):=by rw[d0o];rfl
  have hN:tr (l9 l.length) G8 ⟨false,i,b,o,fr⟩ l.length=(⟨false,i,b,o++G8 l.length,false⟩,(l.length:Int)):=rfl
  try dsimp only at K
  rw[hN,hi]at K
  try dsimp only
  rw[hR];obtain⟨R0,aa,ah⟩:∃R,Cd.row ⟨false,i,b,o,fr⟩=R/\(R=.fb 5 o\/R=.row 5 1 (o.map u7)):=⟨_,rfl,by cases fr<;>first|exact .inl rfl|exact .inr rfl⟩
  simp only[RR,aa]at K ⊢;clear hN hR I aa ah hi;have au:(o++J3 l.length).length+(l.flatMap w).length<=16777216:=by rw[d0c];omega
  generalize o++J3 l.length=o1 at*;simp only[lsI,j4,TT,II,OA,OB,OC,MM,VV,FF,MG,FG,VG];simp only[Cd.box,Cd.cells,Cd.row,cond_false,ints]at K ⊢;(repeat first|refine uA ?_|(apply uK;· first|omega|(intros;simp_all<;>omega))|simp(disch:=omega) only[go_sem,Nat.reduceAdd,O,N,List.drop_left,d0l,d0p,d0u,List.cons_append,List.nil_append,List.append_nil,d0A,d0d]|refine j5.t (K _ rfl) ?_);refine S.cond rfl (λG=>?_) (λG=>by simp at G)
  (repeat first|refine uA ?_|simp(disch:=omega) only[go_sem,List.drop_left]);refine S.loop (X:=Nat×List UInt8) (λy=>⟨[(0,.bp 0 0),(1,.bp 1 pre.length),(2,.bnd g (.bp 0 0)),(24,.sl sz (l.map enc)),(25,ints l.length),(26,ints y.1)],[.box 54 [.rv 2,.sl 1 (i.map u7),.v (.bool false),.v (.bool b)],.box t (pre++(.sl sz (l.map enc)::u)),.row 5 1 (y.2.map u7)]⟩)
   (λy=>y.1<=l.length/\y.2=o1++(l.take y.1).flatMap w) (λy=>l.length-y.1) (0,o1) ⟨d0k _,by simp⟩ (by repeat first|refine uA ?_|(refine⟨?_,?_⟩;· first|rfl|simp[slot])|rfl|simp|exact d0f A (by simp)) ?_
  rintro⟨k,out⟩ ⟨hk,ho⟩;simp only[ints]at hk ho ⊢;refine uV rfl ?_;apply uJ rfl<;>intro G
  ·have J:k<l.length:=by omega
   have Z:=d0b J;have ag:=a2q w J;have ai:=a3f w J;have af:=hD _ (d0z J);generalize l[k]=x at Z ag ai af;have aj:=congrArg List.length ho;rw[d0c]at aj;have Y:=λ(E:Ctx) (M:E.P=Tryz.prog)=>hg.on M (rs:=[Cd.box ⟨false,i,b,out,false⟩,.box t (pre++(.sl sz (l.map enc)::u)),Cd.row ⟨false,i,b,out,false⟩,.box e (enc x)]) (m:=3) (off:=0) (cs:=(enc x)) (cs2:=(enc x)) [] [] rfl rfl V (c:=⟨false,i,b,out,false⟩) (x:=x) (t:=e) ⟨λh=>(by cases h),λ_=>⟨af,by show out.length+_<=_;omega⟩⟩ (List.append_nil _).symm (List.append_nil _).symm rfl rfl rfl rfl rfl rfl rfl;simp only[tr,cond_false]at Y;simp only[Cd.box,Cd.cells,Cd.row,cond_false]at Y
   (repeat first|refine uA ?_|(apply uK;· first|omega|(intros;simp_all<;>omega))|simp(disch:=omega) only[go_sem,Nat.reduceAdd,ww,O,N,d0l,d0p,d0u,List.cons_append,List.nil_append,List.append_nil,d0A,ae,H.ones,H.len,H.z1,ab,al,Z,d0e,d0d,d0h,T]|refine j5.t (Y _ rfl) ?_);refine S.next (x:=(k,out)) (k+1,out++w x) ⟨by simp only;omega,by simp only;rw[ag,ho,d0o]⟩ (by simp only;omega) (by repeat first|refine uA ?_|(refine⟨?_,?_⟩;· first|rfl|simp[slot])|rfl|simp|exact d0f A (by simp))
  ·have J:k=l.length:=by omega
   subst J;rw[d0w]at ho;subst ho
   (exact uY rfl rfl (Imp.refl rfl) (by repeat first|refine uA ?_|refine⟨rfl,?_⟩|rfl|simp) (d0f A (by simp)))
 ·have hx:=I.1 rfl;subst hx;have K:=λ(E:Ctx) (M:E.P=Tryz.prog)=>a1K.on M (rs:=[Cd.box ⟨true,i,b,o,fr⟩,.box t (pre++(.sl sz []::u)),Cd.row ⟨true,i,b,o,fr⟩,.box 3 [ints 0]]) (m:=3) (off:=0) [] [] rfl rfl (λ_=>rfl) (c:=⟨true,i,b,o,fr⟩) (x:=0) (λh=>by cases h) rfl rfl rfl rfl rfl rfl rfl rfl rfl;have hR:tr (q8 r) (j6 w) ⟨true,i,b,o,fr⟩ []=(⟨true,(F7 r (l9 0 ⟨i,b⟩).1.toNat (l9 0 ⟨i,b⟩).2).2.inp,(F7 r (l9 0 ⟨i,b⟩).1.toNat (l9 0 ⟨i,b⟩).2).2.bad,o,fr⟩,(F7 r (l9 0 ⟨i,b⟩).1.toNat (l9 0 ⟨i,b⟩).2).1):=rfl;have hN:tr (l9 0) G8 ⟨true,i,b,o,fr⟩ 0=(⟨true,(l9 0 ⟨i,b⟩).2.inp,(l9 0 ⟨i,b⟩).2.bad,o,fr⟩,(l9 0 ⟨i,b⟩).1):=rfl;have W:=Z9 (old:=0) ⟨by decide,by decide⟩ i.length ⟨i,b⟩ (d0m _)
  try dsimp only at K
  rw[hN]at K
  try dsimp only
  rw[hR];clear hN hR I;generalize l9 0 ⟨i,b⟩=q0 at*;obtain⟨n,s0⟩:=q0;simp only at W;obtain⟨n,rfl⟩:∃m:Nat,n=m:=⟨n.toNat,by have:=W.1;omega⟩
  have hn:n<268435456:=by have:=W.2;omega
  simp only[RR,d0h]at K ⊢;generalize hF:F7 r n s0=F;simp only[lsI,j4,TT,II,OA,OB,OC,MM,VV,FF,MG,FG,VG];simp only[Cd.box,Cd.cells,Cd.row,cond_true,ints,d0p]at K ⊢;(repeat first|refine uA ?_|(apply uK;· first|omega|(intros;simp_all<;>omega))|simp(disch:=omega) only[go_sem,Nat.reduceAdd,O,N,List.drop_left,d0l,d0p,d0u,List.cons_append,List.nil_append,List.append_nil,d0A,List.length_nil]|refine j5.t (K _ rfl) ?_);refine S.cond rfl (λG=>by simp at G) (λG=>?_)
  (repeat first|refine uA ?_|simp(disch:=omega) only[go_sem,Y9,List.take_left,d0o,List.cons_append,List.nil_append,d0A]);refine S.loop (X:=Nat×List α×Rs) (λy=>⟨[(0,.bp 0 0),(1,.bp 1 pre.length),(2,.bnd g (.bp 0 0)),(6,.bp 3 0),(9,ints y.1)],[.box 54 [.v (.slice none 0 0),.sl 1 (y.2.2.inp.map u7),.v (.bool true),.v (.bool y.2.2.bad)],.box t (pre++(.rv 4::u)),.gone,.box 3 [ints n],.row e sz (y.2.1.map enc)]⟩)
   (λy=>y.1<=n/\y.2.1.length=y.1/\(y.2.1++(F7 r (n-y.1) y.2.2).1,(F7 r (n-y.1) y.2.2).2)=F) (λy=>n-y.1) (0,[],s0) ⟨d0k _,rfl,hF⟩
   (Ent.trans (Ent.a5w 1 pre.length e sz (c:=.v (.slice none 0 0)) rfl (by simp) rfl) (by simp only[List.set_cons_succ,List.set_cons_zero,a7K,List.cons_append,List.nil_append,d0j,List.length_nil];exact(by repeat first|refine uA ?_|(refine⟨?_,?_⟩;· first|rfl|simp[slot])|rfl|simp|exact d0f A (by simp)))) ?_
  rintro⟨k,L,s⟩ ⟨hk,hL,U⟩;simp only[ints]at hk hL U ⊢;(repeat first|refine uA ?_|simp(disch:=omega) only[go_sem,d0A]);apply S.cond rfl<;>intro G
  ·have G:k<n/\s.bad=false:=by simp at G;exact G
   obtain⟨B,ap⟩:=s;simp only at G;obtain⟨zs,rfl⟩:=G;rw[show n-k=(n-(k+1))+1 by omega,a4k]at U;have Y:=λ(E:Ctx) (M:E.P=Tryz.prog)=>hg.on M (rs:=[Cd.box ⟨true,B,false,o,fr⟩,.box t (pre++(.rv 4::u)),Cd.row ⟨true,B,false,o,fr⟩,.box 3 [ints n],.row e sz (L.map enc),.box e (enc d)]) (m:=5) (off:=0) (cs:=(enc d)) (cs2:=(enc (tr r w ⟨true,B,false,o,fr⟩ d).2)) [] [] rfl rfl V (c:=⟨true,B,false,o,fr⟩) (x:=d) (t:=e) ⟨λ_=>rfl,λh=>(by cases h)⟩ (List.append_nil _).symm (List.append_nil _).symm rfl rfl rfl rfl rfl rfl rfl;simp only[tr,cond_true]at Y;generalize r ⟨B,false⟩=q at*;obtain⟨y,s2⟩:=q;simp only[Cd.box,Cd.cells,Cd.row,cond_true]at Y
   have an:(k+1)*bytes<=140737488355328:=d0f (Nat.mul_le_mul (show k+1<=268435456 by omega) ak) (by decide)
   (repeat first|refine uA ?_|(apply uK;· first|omega|(intros;simp_all<;>omega))|simp(disch:=omega) only[go_sem,Nat.reduceAdd,ww,O,N,Y9,List.drop_left,List.take_left,d0l,d0p,d0u,d0o,List.cons_append,List.nil_append,List.append_nil,d0A,ae,H.cl,H.ones,H.len,H.z1,H.zl,T,d0d,hL,an,d0c,d0j,List.length_nil,List.replicate_succ,List.replicate_zero]|refine j5.t (l5.vg (Y _ rfl) (j3.eq rfl rfl) (by repeat' first|exact C9.nil|exact RI.gone _|exact RI.row _ _ _ _ rfl|(refine RI.box _ _ _ (j3.eq rfl ?_);exact(by repeat first|refine uA ?_|refine⟨rfl,?_⟩|rfl|simp[slot]))|exact RI.box _ _ _ (H.zd _ _)|refine C9.cons ?_ ?_) rfl) ?_);refine S.next (x:=(k,L,⟨B,false⟩)) (k+1,L++[y],s2) ⟨by simp only;omega,by simp only[d0c,d0j,List.length_nil];omega,by simp only at U ⊢;rw[d0o];exact U⟩ (by simp only;omega) (by simp only[d0u,d0l,d0p];exact(by repeat first|refine uA ?_|(refine⟨?_,?_⟩;· first|rfl|simp[slot])|rfl|simp|exact d0f A (by simp)))
  ·have ac:F7 r (n-k) s=([],s):=by
    rcases d0B k n with h|h
    ·exact a4Z _ (by simp at G;exact G h)
    ·rw[show n-k=0 by omega];rfl
   rw[ac,List.append_nil]at U;subst U;(repeat first|refine uA ?_|simp(disch:=omega) only[go_sem]);exact uRe rfl (Imp.refl rfl) (C9.cons (.box _ _ _ (j3.eq rfl rfl)) (C9.cons (.box _ _ _ (a7B (Imp.frz rfl rfl rfl))) (C9.cons (.gone _) C9.nil))) (d0f A (by simp))
def c7j{α:Type}{f g:Nat}{fn:Func}{e:TypeId}{z:Nat}{G:α->List (List C)}{d:α}{w:α->List UInt8}{D:α->Prop}{r:Rdr α}(V:Tryz.prog.funcs[f]?=some fn)(H:a0D J6 Tryz.prog fn=some (lsI e false 1 24 [.slice none 0 0]))(hd:G d=[])(U:callable Tryz.prog g=true)(hg:CX g [] (λx=>[.sl z (G x)]) (Pw d w D) (tr r w)):CX f [.bnd g (.bp 0 0)] (λl:List α=>[.sl 1 (l.map (λx=>[.sl z (G x)]))]) (Pw [] (j6 w) (LsD D)) (tr (q8 r) (j6 w)):=by
 intro E M c l t pre u hp hq I;obtain⟨P,ef,N0,w0,aj,an,ap,ao⟩:=E;simp only at M;subst M;obtain⟨rd,i,b,o,fr⟩:=c;have O:=λpk=>F4 pk hp;have N:=λpk=>F4 pk hq;haveI:Clz pre:=⟨hp⟩
 haveI:Clz u:=⟨hq⟩
 have W:∀x,C.clL [.sl z (G x)]=true:=λx=>rfl;haveI:∀x,Clz [.sl z (G x)]:=λx=>⟨W x⟩
 refine l5.of (eff:=J6) V H (by exact d0n rfl) λwd own av ν ai=>?_;have A:ν.length<=3:=by rw[ai];exact d0m _
 cases rd
 ·obtain⟨⟨aq,hD⟩,hl⟩:=I.2 rfl;unfold j6 at hl;rw[d0c]at hl;have hl:o.length+((J3 l.length).length+(l.flatMap w).length)<=16777216:=hl;have hi:G8 (l.length:Int)=J3 l.length:=U7 (by omega);have K:=λ(E:Ctx) (M:E.P=Tryz.prog)=>a1K.on M (rs:=[Cd.box ⟨false,i,b,o,fr⟩,.box t (pre++(.sl 1 (l.map (λx=>[.sl z (G x)]))::u)),Cd.row ⟨false,i,b,o,fr⟩,.box 3 [ints l.length]]) (m:=3) (off:=0) [] [] rfl rfl (λ_=>rfl) (c:=⟨false,i,b,o,fr⟩) (x:=l.length) (λ_=>by rw[hi];omega) rfl rfl rfl rfl rfl rfl rfl rfl rfl;have hR:tr (q8 r) (j6 w) ⟨false,i,b,o,fr⟩ l=(⟨false,i,b,(o++J3 l.length)++l.flatMap w,false⟩,l):=by rw[d0o];rfl
  have hN:tr (l9 l.length) G8 ⟨false,i,b,o,fr⟩ l.length=(⟨false,i,b,o++G8 l.length,false⟩,(l.length:Int)):=rfl
  try dsimp only at K
  rw[hN,hi]at K
  try dsimp only
  rw[hR];obtain⟨R0,ab,af⟩:∃R,Cd.row ⟨false,i,b,o,fr⟩=R/\(R=.fb 5 o\/R=.row 5 1 (o.map u7)):=⟨_,rfl,by cases fr<;>first|exact .inl rfl|exact .inr rfl⟩
  simp only[RR,ab]at K ⊢;clear hN hR I ab af hi;have am:(o++J3 l.length).length+(l.flatMap w).length<=16777216:=by rw[d0c];omega
  generalize o++J3 l.length=o1 at*;simp only[lsI,j4,TT,II,OA,OB,OC,MM,VV,FF,MG,FG,VG];simp only[Cd.box,Cd.cells,Cd.row,cond_false,ints]at K ⊢;(repeat first|refine uA ?_|(apply uK;· first|omega|(intros;simp_all<;>omega))|simp(disch:=omega) only[go_sem,Nat.reduceAdd,O,N,List.drop_left,d0l,d0p,d0u,List.cons_append,List.nil_append,List.append_nil,d0A,d0j,List.length_nil,d0d]|refine j5.t (K _ rfl) ?_);refine S.cond rfl (λH=>?_) (λH=>by simp at H)
  (repeat first|refine uA ?_|simp(disch:=omega) only[go_sem,List.drop_left]);refine S.loop (X:=Nat×List UInt8) (λy=>⟨[(0,.bp 0 0),(1,.bp 1 pre.length),(2,.bnd g (.bp 0 0)),(24,.sl 1 (l.map (λx=>[.sl z (G x)]))),(25,ints l.length),(26,ints y.1)],[.box 54 [.rv 2,.sl 1 (i.map u7),.v (.bool false),.v (.bool b)],.box t (pre++(.sl 1 (l.map (λx=>[.sl z (G x)]))::u)),.row 5 1 (y.2.map u7)]⟩)
   (λy=>y.1<=l.length/\y.2=o1++(l.take y.1).flatMap w) (λy=>l.length-y.1) (0,o1) ⟨d0k _,by simp⟩ (by repeat first|refine uA ?_|(refine⟨?_,?_⟩;· first|rfl|simp[slot])|rfl|simp|exact d0f A (by simp)) ?_
  rintro⟨k,out⟩ ⟨hk,ho⟩;simp only[ints]at hk ho ⊢;refine uV rfl ?_;apply uJ rfl<;>intro H
  ·have J:k<l.length:=by omega
   have aa:=d0b J;have ae:=a2q w J;have ag:=a3f w J;have ac:=hD _ (d0z J);generalize l[k]=x at aa ae ag ac;have ah:=congrArg List.length ho;rw[d0c]at ah;have T:=λ(E:Ctx) (M:E.P=Tryz.prog)=>hg.on M (rs:=[Cd.box ⟨false,i,b,out,false⟩,.box t (pre++(.sl 1 (l.map (λx=>[.sl z (G x)]))::u)),Cd.row ⟨false,i,b,out,false⟩,.box e [.sl z (G x)]]) (m:=3) (off:=0) (cs:=[.sl z (G x)]) (cs2:=[.sl z (G x)]) [] [] rfl rfl W (c:=⟨false,i,b,out,false⟩) (x:=x) (t:=e) ⟨λh=>(by cases h),λ_=>⟨ac,by show out.length+_<=_;omega⟩⟩ (List.append_nil _).symm (List.append_nil _).symm rfl rfl rfl rfl rfl rfl rfl;simp only[tr,cond_false]at T
   simp only[Cd.box,Cd.cells,Cd.row,cond_false]at T;(repeat first|refine uA ?_|(apply uK;· first|omega|(intros;simp_all<;>omega))|simp(disch:=omega) only[go_sem,Nat.reduceAdd,ww,O,N,d0l,d0p,d0u,List.cons_append,List.nil_append,List.append_nil,d0A,d0j,List.length_nil,aa,d0e,d0d,d0h,U]|refine j5.t (T _ rfl) ?_);refine S.next (x:=(k,out)) (k+1,out++w x) ⟨by simp only;omega,by simp only;rw[ae,ho,d0o]⟩ (by simp only;omega) (by repeat first|refine uA ?_|(refine⟨?_,?_⟩;· first|rfl|simp[slot])|rfl|simp|exact d0f A (by simp))
  ·have J:k=l.length:=by omega
   subst J;rw[d0w]at ho;subst ho
   (exact uY rfl rfl (Imp.refl rfl) (by repeat first|refine uA ?_|refine⟨rfl,?_⟩|rfl|simp) (d0f A (by simp)))
 ·have hx:=I.1 rfl;subst hx;have K:=λ(E:Ctx) (M:E.P=Tryz.prog)=>a1K.on M (rs:=[Cd.box ⟨true,i,b,o,fr⟩,.box t (pre++(.sl 1 []::u)),Cd.row ⟨true,i,b,o,fr⟩,.box 3 [ints 0]]) (m:=3) (off:=0) [] [] rfl rfl (λ_=>rfl) (c:=⟨true,i,b,o,fr⟩) (x:=0) (λh=>by cases h) rfl rfl rfl rfl rfl rfl rfl rfl rfl;have hR:tr (q8 r) (j6 w) ⟨true,i,b,o,fr⟩ []=(⟨true,(F7 r (l9 0 ⟨i,b⟩).1.toNat (l9 0 ⟨i,b⟩).2).2.inp,(F7 r (l9 0 ⟨i,b⟩).1.toNat (l9 0 ⟨i,b⟩).2).2.bad,o,fr⟩,(F7 r (l9 0 ⟨i,b⟩).1.toNat (l9 0 ⟨i,b⟩).2).1):=rfl;have hN:tr (l9 0) G8 ⟨true,i,b,o,fr⟩ 0=(⟨true,(l9 0 ⟨i,b⟩).2.inp,(l9 0 ⟨i,b⟩).2.bad,o,fr⟩,(l9 0 ⟨i,b⟩).1):=rfl;have Y:=Z9 (old:=0) ⟨by decide,by decide⟩ i.length ⟨i,b⟩ (d0m _)
  try dsimp only at K
  rw[hN]at K
  try dsimp only
  rw[hR];clear hN hR I;generalize l9 0 ⟨i,b⟩=q0 at*;obtain⟨n,s0⟩:=q0;simp only at Y;obtain⟨n,rfl⟩:∃m:Nat,n=m:=⟨n.toNat,by have:=Y.1;omega⟩
  have hn:n<268435456:=by have:=Y.2;omega
  simp only[RR,d0h]at K ⊢;generalize hF:F7 r n s0=F;simp only[lsI,j4,TT,II,OA,OB,OC,MM,VV,FF,MG,FG,VG];simp only[Cd.box,Cd.cells,Cd.row,cond_true,ints,d0p]at K ⊢;(repeat first|refine uA ?_|(apply uK;· first|omega|(intros;simp_all<;>omega))|simp(disch:=omega) only[go_sem,Nat.reduceAdd,O,N,List.drop_left,d0l,d0p,d0u,List.cons_append,List.nil_append,List.append_nil,d0A,d0j,List.length_nil,List.length_nil]|refine j5.t (K _ rfl) ?_);refine S.cond rfl (λH=>by simp at H) (λH=>?_)
  (repeat first|refine uA ?_|simp(disch:=omega) only[go_sem,Y9,List.take_left,d0o,List.cons_append,List.nil_append,d0A,d0j,List.length_nil]);refine S.loop (X:=Nat×List α×Rs) (λy=>⟨[(0,.bp 0 0),(1,.bp 1 pre.length),(2,.bnd g (.bp 0 0)),(6,.bp 3 0),(9,ints y.1)],[.box 54 [.v (.slice none 0 0),.sl 1 (y.2.2.inp.map u7),.v (.bool true),.v (.bool y.2.2.bad)],.box t (pre++(.rv 4::u)),.gone,.box 3 [ints n],.row e 1 (y.2.1.map (λx=>[.sl z (G x)]))]⟩)
   (λy=>y.1<=n/\y.2.1.length=y.1/\(y.2.1++(F7 r (n-y.1) y.2.2).1,(F7 r (n-y.1) y.2.2).2)=F) (λy=>n-y.1) (0,[],s0) ⟨d0k _,rfl,hF⟩
   (Ent.trans (Ent.a5w 1 pre.length e 1 (c:=.v (.slice none 0 0)) rfl (by simp) rfl) (by simp only[List.set_cons_succ,List.set_cons_zero,a7K,List.cons_append,List.nil_append,d0j,List.length_nil];exact(by repeat first|refine uA ?_|(refine⟨?_,?_⟩;· first|rfl|simp[slot])|rfl|simp|exact d0f A (by simp)))) ?_
  rintro⟨k,L,s⟩ ⟨hk,hL,V⟩;simp only[ints]at hk hL V ⊢;(repeat first|refine uA ?_|simp(disch:=omega) only[go_sem,d0A]);apply S.cond rfl<;>intro H
  ·have H:k<n/\s.bad=false:=by simp at H;exact H
   obtain⟨B,ak⟩:=s;simp only at H;obtain⟨al,rfl⟩:=H;rw[show n-k=(n-(k+1))+1 by omega,a4k]at V;have T:=λ(E:Ctx) (M:E.P=Tryz.prog)=>hg.on M (rs:=[Cd.box ⟨true,B,false,o,fr⟩,.box t (pre++(.rv 4::u)),Cd.row ⟨true,B,false,o,fr⟩,.box 3 [ints n],.row e 1 (L.map (λx=>[.sl z (G x)])),.box e [.sl z (G d)]]) (m:=5) (off:=0) (cs:=[.sl z (G d)]) (cs2:=[.sl z (G (tr r w ⟨true,B,false,o,fr⟩ d).2)]) [] [] rfl rfl W (c:=⟨true,B,false,o,fr⟩) (x:=d) (t:=e) ⟨λ_=>rfl,λh=>(by cases h)⟩ (List.append_nil _).symm (List.append_nil _).symm rfl rfl rfl rfl rfl rfl rfl;simp only[tr,cond_true]at T;generalize r ⟨B,false⟩=q at*;obtain⟨y,s2⟩:=q
   simp only[Cd.box,Cd.cells,Cd.row,cond_true]at T;rw[hd]at T
   (repeat first|refine uA ?_|(apply uK;· first|omega|(intros;simp_all<;>omega))|simp(disch:=omega) only[go_sem,Nat.reduceAdd,ww,O,N,Y9,List.drop_left,List.take_left,d0l,d0p,d0u,d0o,List.cons_append,List.nil_append,List.append_nil,d0A,d0j,List.length_nil,U,d0d,hL,d0c,d0j,List.length_nil,List.replicate_succ,List.replicate_zero]|refine j5.t (l5.vg (T _ rfl) (j3.eq rfl rfl) (by repeat' first|exact C9.nil|exact RI.gone _|exact RI.row _ _ _ _ rfl|(refine RI.box _ _ _ (j3.eq rfl ?_);exact(by repeat first|refine uA ?_|refine⟨rfl,?_⟩|rfl|simp[slot]))|exact RI.box _ _ _ (j3.cons Imp.D8 j3.nil)|refine C9.cons ?_ ?_) rfl) ?_);refine S.next (x:=(k,L,⟨B,false⟩)) (k+1,L++[y],s2) ⟨by simp only;omega,by simp only[d0c,d0j,List.length_nil];omega,by simp only at V ⊢;rw[d0o];exact V⟩ (by simp only;omega) (by simp only[d0u,d0l,d0p];exact(by repeat first|refine uA ?_|(refine⟨?_,?_⟩;· first|rfl|simp[slot])|rfl|simp|exact d0f A (by simp)))
  ·have Z:F7 r (n-k) s=([],s):=by
    rcases d0B k n with h|h
    ·exact a4Z _ (by simp at H;exact H h)
    ·rw[show n-k=0 by omega];rfl
   rw[Z,List.append_nil]at V;subst V;(repeat first|refine uA ?_|simp(disch:=omega) only[go_sem]);exact uRe rfl (Imp.refl rfl) (C9.cons (.box _ _ _ (j3.eq rfl rfl)) (C9.cons (.box _ _ _ (a7B (Imp.frz rfl rfl rfl))) (C9.cons (.gone _) C9.nil))) (d0f A (by simp))
def c7Z{f g:Nat}{fn:Func}{e:TypeId} {d:Bool}{w:Bool->List UInt8}{D:Bool->Prop}{r:Rdr Bool}(T:Tryz.prog.funcs[f]?=some fn)(G:a0D J6 Tryz.prog fn=some (lsI e false 1 1 [.bool false]))(hd:d=false)(O:callable Tryz.prog g=true)(hg:CX g [] (λx=>[.v (.bool x)]) (Pw d w D) (tr r w)):CX f [.bnd g (.bp 0 0)] (λl:List Bool=>[.sl 1 (l.map (λx=>[.v (.bool x)]))]) (Pw [] (j6 w) (LsD D)) (tr (q8 r) (j6 w)):=by
 intro E K c l t pre u hp hq H;obtain⟨P,ef,N0,w0,aj,ap,an,ak⟩:=E;simp only at K;subst K;obtain⟨rd,i,b,o,fr⟩:=c;have N:=λpk=>F4 pk hp;have M:=λpk=>F4 pk hq;haveI:Clz pre:=⟨hp⟩
 haveI:Clz u:=⟨hq⟩
 have U:∀x,C.clL [.v (.bool x)]=true:=λx=>rfl;haveI:∀x,Clz [.v (.bool x)]:=λx=>⟨U x⟩
 refine l5.of (eff:=J6) T G (by exact d0n rfl) λwd own av ν ah=>?_;have A:ν.length<=3:=by rw[ah];exact d0m _
 cases rd
 ·obtain⟨⟨ao,hD⟩,hl⟩:=H.2 rfl;unfold j6 at hl;rw[d0c]at hl;have hl:o.length+((J3 l.length).length+(l.flatMap w).length)<=16777216:=hl;have hi:G8 (l.length:Int)=J3 l.length:=U7 (by omega);have J:=λ(E:Ctx) (K:E.P=Tryz.prog)=>a1K.on K (rs:=[Cd.box ⟨false,i,b,o,fr⟩,.box t (pre++(.sl 1 (l.map (λx=>[.v (.bool x)]))::u)),Cd.row ⟨false,i,b,o,fr⟩,.box 3 [ints l.length]]) (m:=3) (off:=0) [] [] rfl rfl (λ_=>rfl) (c:=⟨false,i,b,o,fr⟩) (x:=l.length) (λ_=>by rw[hi];omega) rfl rfl rfl rfl rfl rfl rfl rfl rfl;have hR:tr (q8 r) (j6 w) ⟨false,i,b,o,fr⟩ l=(⟨false,i,b,(o++J3 l.length)++l.flatMap w,false⟩,l):=by rw[d0o];rfl
  have hN:tr (l9 l.length) G8 ⟨false,i,b,o,fr⟩ l.length=(⟨false,i,b,o++G8 l.length,false⟩,(l.length:Int)):=rfl
  try dsimp only at J
  rw[hN,hi]at J
  try dsimp only
  rw[hR];obtain⟨R0,Z,ae⟩:∃R,Cd.row ⟨false,i,b,o,fr⟩=R/\(R=.fb 5 o\/R=.row 5 1 (o.map u7)):=⟨_,rfl,by cases fr<;>first|exact .inl rfl|exact .inr rfl⟩
  simp only[RR,Z]at J ⊢;clear hN hR H Z ae hi;have am:(o++J3 l.length).length+(l.flatMap w).length<=16777216:=by rw[d0c];omega
  generalize o++J3 l.length=o1 at*;simp only[lsI,j4,TT,II,OA,OB,OC,MM,VV,FF,MG,FG,VG];simp only[Cd.box,Cd.cells,Cd.row,cond_false,ints]at J ⊢;(repeat first|refine uA ?_|(apply uK;· first|omega|(intros;simp_all<;>omega))|simp(disch:=omega) only[go_sem,Nat.reduceAdd,N,M,List.drop_left,d0l,d0p,d0u,List.cons_append,List.nil_append,List.append_nil,d0A,d0j,List.length_nil,d0d]|refine j5.t (J _ rfl) ?_);refine S.cond rfl (λG=>?_) (λG=>by simp at G)
  (repeat first|refine uA ?_|simp(disch:=omega) only[go_sem,List.drop_left]);refine S.loop (X:=Nat×List UInt8) (λy=>⟨[(0,.bp 0 0),(1,.bp 1 pre.length),(2,.bnd g (.bp 0 0)),(24,.sl 1 (l.map (λx=>[.v (.bool x)]))),(25,ints l.length),(26,ints y.1)],[.box 54 [.rv 2,.sl 1 (i.map u7),.v (.bool false),.v (.bool b)],.box t (pre++(.sl 1 (l.map (λx=>[.v (.bool x)]))::u)),.row 5 1 (y.2.map u7)]⟩)
   (λy=>y.1<=l.length/\y.2=o1++(l.take y.1).flatMap w) (λy=>l.length-y.1) (0,o1) ⟨d0k _,by simp⟩ (by repeat first|refine uA ?_|(refine⟨?_,?_⟩;· first|rfl|simp[slot])|rfl|simp|exact d0f A (by simp)) ?_
  rintro⟨k,out⟩ ⟨hk,ho⟩;simp only[ints]at hk ho ⊢;refine uV rfl ?_;apply uJ rfl<;>intro G
  ·have I:k<l.length:=by omega
   have Y:=d0b I;have ac:=a2q w I;have af:=a3f w I;have ab:=hD _ (d0z I);generalize l[k]=x at Y ac af ab;have ag:=congrArg List.length ho;rw[d0c]at ag;have W:=λ(E:Ctx) (K:E.P=Tryz.prog)=>hg.on K (rs:=[Cd.box ⟨false,i,b,out,false⟩,.box t (pre++(.sl 1 (l.map (λx=>[.v (.bool x)]))::u)),Cd.row ⟨false,i,b,out,false⟩,.box e [.v (.bool x)]]) (m:=3) (off:=0) (cs:=[.v (.bool x)]) (cs2:=[.v (.bool x)]) [] [] rfl rfl U (c:=⟨false,i,b,out,false⟩) (x:=x) (t:=e) ⟨λh=>(by cases h),λ_=>⟨ab,by show out.length+_<=_;omega⟩⟩ (List.append_nil _).symm (List.append_nil _).symm rfl rfl rfl rfl rfl rfl rfl;simp only[tr,cond_false]at W
   simp only[Cd.box,Cd.cells,Cd.row,cond_false]at W;(repeat first|refine uA ?_|(apply uK;· first|omega|(intros;simp_all<;>omega))|simp(disch:=omega) only[go_sem,Nat.reduceAdd,ww,N,M,d0l,d0p,d0u,List.cons_append,List.nil_append,List.append_nil,d0A,d0j,List.length_nil,Y,d0e,d0d,d0h,O]|refine j5.t (W _ rfl) ?_);refine S.next (x:=(k,out)) (k+1,out++w x) ⟨by simp only;omega,by simp only;rw[ac,ho,d0o]⟩ (by simp only;omega) (by repeat first|refine uA ?_|(refine⟨?_,?_⟩;· first|rfl|simp[slot])|rfl|simp|exact d0f A (by simp))
  ·have I:k=l.length:=by omega
   subst I;rw[d0w]at ho;subst ho
   (exact uY rfl rfl (Imp.refl rfl) (by repeat first|refine uA ?_|refine⟨rfl,?_⟩|rfl|simp) (d0f A (by simp)))
 ·have hx:=H.1 rfl;subst hx;have J:=λ(E:Ctx) (K:E.P=Tryz.prog)=>a1K.on K (rs:=[Cd.box ⟨true,i,b,o,fr⟩,.box t (pre++(.sl 1 []::u)),Cd.row ⟨true,i,b,o,fr⟩,.box 3 [ints 0]]) (m:=3) (off:=0) [] [] rfl rfl (λ_=>rfl) (c:=⟨true,i,b,o,fr⟩) (x:=0) (λh=>by cases h) rfl rfl rfl rfl rfl rfl rfl rfl rfl;have hR:tr (q8 r) (j6 w) ⟨true,i,b,o,fr⟩ []=(⟨true,(F7 r (l9 0 ⟨i,b⟩).1.toNat (l9 0 ⟨i,b⟩).2).2.inp,(F7 r (l9 0 ⟨i,b⟩).1.toNat (l9 0 ⟨i,b⟩).2).2.bad,o,fr⟩,(F7 r (l9 0 ⟨i,b⟩).1.toNat (l9 0 ⟨i,b⟩).2).1):=rfl;have hN:tr (l9 0) G8 ⟨true,i,b,o,fr⟩ 0=(⟨true,(l9 0 ⟨i,b⟩).2.inp,(l9 0 ⟨i,b⟩).2.bad,o,fr⟩,(l9 0 ⟨i,b⟩).1):=rfl;have V:=Z9 (old:=0) ⟨by decide,by decide⟩ i.length ⟨i,b⟩ (d0m _)
  try dsimp only at J
  rw[hN]at J
  try dsimp only
  rw[hR];clear hN hR H;generalize l9 0 ⟨i,b⟩=q0 at*;obtain⟨n,s0⟩:=q0;simp only at V;obtain⟨n,rfl⟩:∃m:Nat,n=m:=⟨n.toNat,by have:=V.1;omega⟩
  have hn:n<268435456:=by have:=V.2;omega
  simp only[RR,d0h]at J ⊢;generalize hF:F7 r n s0=F;simp only[lsI,j4,TT,II,OA,OB,OC,MM,VV,FF,MG,FG,VG];simp only[Cd.box,Cd.cells,Cd.row,cond_true,ints,d0p]at J ⊢;(repeat first|refine uA ?_|(apply uK;· first|omega|(intros;simp_all<;>omega))|simp(disch:=omega) only[go_sem,Nat.reduceAdd,N,M,List.drop_left,d0l,d0p,d0u,List.cons_append,List.nil_append,List.append_nil,d0A,d0j,List.length_nil,List.length_nil]|refine j5.t (J _ rfl) ?_);refine S.cond rfl (λG=>by simp at G) (λG=>?_)
  (repeat first|refine uA ?_|simp(disch:=omega) only[go_sem,Y9,List.take_left,d0o,List.cons_append,List.nil_append,d0A,d0j,List.length_nil]);refine S.loop (X:=Nat×List Bool×Rs) (λy=>⟨[(0,.bp 0 0),(1,.bp 1 pre.length),(2,.bnd g (.bp 0 0)),(6,.bp 3 0),(9,ints y.1)],[.box 54 [.v (.slice none 0 0),.sl 1 (y.2.2.inp.map u7),.v (.bool true),.v (.bool y.2.2.bad)],.box t (pre++(.rv 4::u)),.gone,.box 3 [ints n],.row e 1 (y.2.1.map (λx=>[.v (.bool x)]))]⟩)
   (λy=>y.1<=n/\y.2.1.length=y.1/\(y.2.1++(F7 r (n-y.1) y.2.2).1,(F7 r (n-y.1) y.2.2).2)=F) (λy=>n-y.1) (0,[],s0) ⟨d0k _,rfl,hF⟩
   (Ent.trans (Ent.a5w 1 pre.length e 1 (c:=.v (.slice none 0 0)) rfl (by simp) rfl) (by simp only[List.set_cons_succ,List.set_cons_zero,a7K,List.cons_append,List.nil_append,d0j,List.length_nil];exact(by repeat first|refine uA ?_|(refine⟨?_,?_⟩;· first|rfl|simp[slot])|rfl|simp|exact d0f A (by simp)))) ?_
  rintro⟨k,L,s⟩ ⟨hk,hL,T⟩;simp only[ints]at hk hL T ⊢;(repeat first|refine uA ?_|simp(disch:=omega) only[go_sem,d0A]);apply S.cond rfl<;>intro G
  ·have G:k<n/\s.bad=false:=by simp at G;exact G
   obtain⟨B,ai⟩:=s;simp only at G;obtain⟨al,rfl⟩:=G;rw[show n-k=(n-(k+1))+1 by omega,a4k]at T;have W:=λ(E:Ctx) (K:E.P=Tryz.prog)=>hg.on K (rs:=[Cd.box ⟨true,B,false,o,fr⟩,.box t (pre++(.rv 4::u)),Cd.row ⟨true,B,false,o,fr⟩,.box 3 [ints n],.row e 1 (L.map (λx=>[.v (.bool x)])),.box e [.v (.bool d)]]) (m:=5) (off:=0) (cs:=[.v (.bool d)]) (cs2:=[.v (.bool (tr r w ⟨true,B,false,o,fr⟩ d).2)]) [] [] rfl rfl U (c:=⟨true,B,false,o,fr⟩) (x:=d) (t:=e) ⟨λ_=>rfl,λh=>(by cases h)⟩ (List.append_nil _).symm (List.append_nil _).symm rfl rfl rfl rfl rfl rfl rfl;simp only[tr,cond_true]at W;generalize r ⟨B,false⟩=q at*;obtain⟨y,s2⟩:=q
   simp only[Cd.box,Cd.cells,Cd.row,cond_true]at W;subst hd
   (repeat first|refine uA ?_|(apply uK;· first|omega|(intros;simp_all<;>omega))|simp(disch:=omega) only[go_sem,Nat.reduceAdd,ww,N,M,Y9,List.drop_left,List.take_left,d0l,d0p,d0u,d0o,List.cons_append,List.nil_append,List.append_nil,d0A,d0j,List.length_nil,O,d0d,hL,d0c,d0j,List.length_nil,List.replicate_succ,List.replicate_zero]|refine j5.t (l5.vg (W _ rfl) (j3.eq rfl rfl) (by repeat' first|exact C9.nil|exact RI.gone _|exact RI.row _ _ _ _ rfl|(refine RI.box _ _ _ (j3.eq rfl ?_);exact(by repeat first|refine uA ?_|refine⟨rfl,?_⟩|rfl|simp[slot]))|exact RI.box _ _ _ (j3.cons (Imp.refl rfl) j3.nil)|refine C9.cons ?_ ?_) rfl) ?_);refine S.next (x:=(k,L,⟨B,false⟩)) (k+1,L++[y],s2) ⟨by simp only;omega,by simp only[d0c,d0j,List.length_nil];omega,by simp only at T ⊢;rw[d0o];exact T⟩ (by simp only;omega) (by simp only[d0u,d0l,d0p];exact(by repeat first|refine uA ?_|(refine⟨?_,?_⟩;· first|rfl|simp[slot])|rfl|simp|exact d0f A (by simp)))
  ·have aa:F7 r (n-k) s=([],s):=by
    rcases d0B k n with h|h
    ·exact a4Z _ (by simp at G;exact G h)
    ·rw[show n-k=0 by omega];rfl
   rw[aa,List.append_nil]at T;subst T;(repeat first|refine uA ?_|simp(disch:=omega) only[go_sem]);exact uRe rfl (Imp.refl rfl) (C9.cons (.box _ _ _ (j3.eq rfl rfl)) (C9.cons (.box _ _ _ (a7B (Imp.frz rfl rfl rfl))) (C9.cons (.gone _) C9.nil))) (d0f A (by simp))
def a8B{α:Type}{f g:Nat}{fn:Func}{e:TypeId}{sz bytes:Nat}{zero:List Value}{enc:α->List C}{d:α}{w:α->List UInt8}{D:α->Prop}{r:Rdr α}(U:Tryz.prog.funcs[f]?=some fn)(G:a0D J6 Tryz.prog fn=some (lsI e true sz bytes zero))(H:LsA sz bytes zero enc d)(T:callable Tryz.prog g=true)(hg:CY g enc (Pw d w D) (tr r w)):CL f g (λl:List α=>[.sl sz (l.map enc)]) (Pw [] (j6 w) (LsD D)) (tr (q8 r) (j6 w)):=by
 intro E M c l t pre u hp hq I;obtain⟨P,ef,N0,w0,aq,az,ax,ar⟩:=E;simp only at M;subst M;obtain⟨rd,i,b,o,fr⟩:=c;have O:=λpk=>F4 pk hp;have N:=λpk=>F4 pk hq;haveI:Clz pre:=⟨hp⟩
 haveI:Clz u:=⟨hq⟩
 have V:∀x,C.clL (enc x)=true:=H.cl;haveI:∀x,Clz (enc x):=λx=>⟨V x⟩
 have ae:∀x,(enc x).take sz=enc x:=λx=>d0y (by rw[H.len];exact d0m _);have ab:(zero.map C.v).length=sz:=by rw[d0d];exact H.zl
 have al:(zero.map C.v).drop sz=[]:=List.drop_of_length_le (by rw[ab];exact d0m _);have ao:=H.pos;have ak:=H.by_;have aw:=H.small;refine l5.of (eff:=J6) U G (by exact d0n rfl) λwd own av ν am=>?_;have A:ν.length<=4:=by rw[am];exact d0m _
 cases rd
 ·obtain⟨⟨ay,hD⟩,hl⟩:=I.2 rfl;unfold j6 at hl;rw[d0c]at hl;have hl:o.length+((J3 l.length).length+(l.flatMap w).length)<=16777216:=hl;have hi:G8 (l.length:Int)=J3 l.length:=U7 (by omega);have K:=λ(E:Ctx) (M:E.P=Tryz.prog)=>a1K.on M (rs:=[Cd.box ⟨false,i,b,o,fr⟩,.box t (pre++(.sl sz (l.map enc)::u)),Cd.row ⟨false,i,b,o,fr⟩,O8,.box 3 [ints l.length]]) (m:=4) (off:=0) [] [] rfl rfl (λ_=>rfl) (c:=⟨false,i,b,o,fr⟩) (x:=l.length) (λ_=>by rw[hi];omega) rfl rfl rfl rfl rfl rfl rfl rfl rfl;have hR:tr (q8 r) (j6 w) ⟨false,i,b,o,fr⟩ l=(⟨false,i,b,(o++J3 l.length)++l.flatMap w,false⟩,l):=by rw[d0o];rfl
  have hN:tr (l9 l.length) G8 ⟨false,i,b,o,fr⟩ l.length=(⟨false,i,b,o++G8 l.length,false⟩,(l.length:Int)):=rfl
  try dsimp only at K
  rw[hN,hi]at K
  try dsimp only
  rw[hR];obtain⟨R0,aa,ah⟩:∃R,Cd.row ⟨false,i,b,o,fr⟩=R/\(R=.fb 5 o\/R=.row 5 1 (o.map u7)):=⟨_,rfl,by cases fr<;>first|exact .inl rfl|exact .inr rfl⟩
  simp only[aa]at K ⊢;clear hN hR I aa ah hi;have au:(o++J3 l.length).length+(l.flatMap w).length<=16777216:=by rw[d0c];omega
  generalize o++J3 l.length=o1 at*;simp only[lsI,j4,TT,II,OA,OB,OC,MM,VV,FF,MG,FG,VG];simp only[Cd.box,Cd.cells,Cd.row,cond_false,ints,O8]at K ⊢;(repeat first|refine uA ?_|(apply uK;· first|omega|(intros;simp_all<;>omega))|simp(disch:=omega) only[go_sem,Nat.reduceAdd,O,N,List.drop_left,d0l,d0p,d0u,List.cons_append,List.nil_append,List.append_nil,d0A,d0d]|refine j5.t (K _ rfl) ?_);refine S.cond rfl (λG=>?_) (λG=>by simp at G)
  (repeat first|refine uA ?_|simp(disch:=omega) only[go_sem,List.drop_left]);refine S.loop (X:=Nat×List UInt8) (λy=>⟨[(0,.bp 0 0),(1,.bp 1 pre.length),(2,.clo g [.bp 3 0]),(24,.sl sz (l.map enc)),(25,ints l.length),(26,ints y.1)],[.box 54 [.rv 2,.sl 1 (i.map u7),.v (.bool false),.v (.bool b)],.box t (pre++(.sl sz (l.map enc)::u)),.row 5 1 (y.2.map u7),.box 52 [.bp 0 0]]⟩)
   (λy=>y.1<=l.length/\y.2=o1++(l.take y.1).flatMap w) (λy=>l.length-y.1) (0,o1) ⟨d0k _,by simp⟩ (by repeat first|refine uA ?_|(refine⟨?_,?_⟩;· first|rfl|simp[slot])|rfl|simp|exact d0f A (by simp)) ?_
  rintro⟨k,out⟩ ⟨hk,ho⟩;simp only[ints]at hk ho ⊢;refine uV rfl ?_;apply uJ rfl<;>intro G
  ·have J:k<l.length:=by omega
   have Z:=d0b J;have ag:=a2q w J;have ai:=a3f w J;have af:=hD _ (d0z J);generalize l[k]=x at Z ag ai af;have aj:=congrArg List.length ho;rw[d0c]at aj;have Y:=λ(E:Ctx) (M:E.P=Tryz.prog)=>hg.on M (rs:=[Cd.box ⟨false,i,b,out,false⟩,.box t (pre++(.sl sz (l.map enc)::u)),Cd.row ⟨false,i,b,out,false⟩,O8,.box e (enc x)]) (m:=4) (p:=3) (cs:=(enc x)) (cs2:=(enc x)) (c:=⟨false,i,b,out,false⟩) (x:=x) (t:=e) V ⟨λh=>(by cases h),λ_=>⟨af,by show out.length+_<=_;omega⟩⟩ rfl rfl rfl rfl rfl rfl rfl rfl;simp only[tr,cond_false]at Y;simp only[Cd.box,Cd.cells,Cd.row,cond_false,O8]at Y
   (repeat first|refine uA ?_|(apply uK;· first|omega|(intros;simp_all<;>omega))|simp(disch:=omega) only[go_sem,Nat.reduceAdd,ww,O,N,d0l,d0p,d0u,List.cons_append,List.nil_append,List.append_nil,d0A,ae,H.ones,H.len,H.z1,ab,al,Z,d0e,d0d,d0h,T]|refine j5.t (Y _ rfl) ?_);refine S.next (x:=(k,out)) (k+1,out++w x) ⟨by simp only;omega,by simp only;rw[ag,ho,d0o]⟩ (by simp only;omega) (by repeat first|refine uA ?_|(refine⟨?_,?_⟩;· first|rfl|simp[slot])|rfl|simp|exact d0f A (by simp))
  ·have J:k=l.length:=by omega
   subst J;rw[d0w]at ho;subst ho
   (exact uY rfl rfl (Imp.refl rfl) (by repeat first|refine uA ?_|refine⟨rfl,?_⟩|rfl|simp) (d0f A (by simp)))
 ·have hx:=I.1 rfl;subst hx;have K:=λ(E:Ctx) (M:E.P=Tryz.prog)=>a1K.on M (rs:=[Cd.box ⟨true,i,b,o,fr⟩,.box t (pre++(.sl sz []::u)),Cd.row ⟨true,i,b,o,fr⟩,O8,.box 3 [ints 0]]) (m:=4) (off:=0) [] [] rfl rfl (λ_=>rfl) (c:=⟨true,i,b,o,fr⟩) (x:=0) (λh=>by cases h) rfl rfl rfl rfl rfl rfl rfl rfl rfl;have hR:tr (q8 r) (j6 w) ⟨true,i,b,o,fr⟩ []=(⟨true,(F7 r (l9 0 ⟨i,b⟩).1.toNat (l9 0 ⟨i,b⟩).2).2.inp,(F7 r (l9 0 ⟨i,b⟩).1.toNat (l9 0 ⟨i,b⟩).2).2.bad,o,fr⟩,(F7 r (l9 0 ⟨i,b⟩).1.toNat (l9 0 ⟨i,b⟩).2).1):=rfl;have hN:tr (l9 0) G8 ⟨true,i,b,o,fr⟩ 0=(⟨true,(l9 0 ⟨i,b⟩).2.inp,(l9 0 ⟨i,b⟩).2.bad,o,fr⟩,(l9 0 ⟨i,b⟩).1):=rfl;have W:=Z9 (old:=0) ⟨by decide,by decide⟩ i.length ⟨i,b⟩ (d0m _)
  try dsimp only at K
  rw[hN]at K
  try dsimp only
  rw[hR];clear hN hR I;generalize l9 0 ⟨i,b⟩=q0 at*;obtain⟨n,s0⟩:=q0;simp only at W;obtain⟨n,rfl⟩:∃m:Nat,n=m:=⟨n.toNat,by have:=W.1;omega⟩
  have hn:n<268435456:=by have:=W.2;omega
  simp only[d0h]at K ⊢;generalize hF:F7 r n s0=F;simp only[lsI,j4,TT,II,OA,OB,OC,MM,VV,FF,MG,FG,VG];simp only[Cd.box,Cd.cells,Cd.row,cond_true,ints,d0p,O8]at K ⊢;(repeat first|refine uA ?_|(apply uK;· first|omega|(intros;simp_all<;>omega))|simp(disch:=omega) only[go_sem,Nat.reduceAdd,O,N,List.drop_left,d0l,d0p,d0u,List.cons_append,List.nil_append,List.append_nil,d0A,List.length_nil]|refine j5.t (K _ rfl) ?_);refine S.cond rfl (λG=>by simp at G) (λG=>?_)
  (repeat first|refine uA ?_|simp(disch:=omega) only[go_sem,Y9,List.take_left,d0o,List.cons_append,List.nil_append,d0A]);refine S.loop (X:=Nat×List α×Rs) (λy=>⟨[(0,.bp 0 0),(1,.bp 1 pre.length),(2,.clo g [.bp 3 0]),(6,.bp 4 0),(9,ints y.1)],[.box 54 [.v (.slice none 0 0),.sl 1 (y.2.2.inp.map u7),.v (.bool true),.v (.bool y.2.2.bad)],.box t (pre++(.rv 5::u)),.gone,.box 52 [.bp 0 0],.box 3 [ints n],.row e sz (y.2.1.map enc)]⟩)
   (λy=>y.1<=n/\y.2.1.length=y.1/\(y.2.1++(F7 r (n-y.1) y.2.2).1,(F7 r (n-y.1) y.2.2).2)=F) (λy=>n-y.1) (0,[],s0) ⟨d0k _,rfl,hF⟩
   (Ent.trans (Ent.a5w 1 pre.length e sz (c:=.v (.slice none 0 0)) rfl (by simp) rfl) (by simp only[List.set_cons_succ,List.set_cons_zero,a7K,List.cons_append,List.nil_append,d0j,List.length_nil];exact(by repeat first|refine uA ?_|(refine⟨?_,?_⟩;· first|rfl|simp[slot])|rfl|simp|exact d0f A (by simp)))) ?_
  rintro⟨k,L,s⟩ ⟨hk,hL,U⟩;simp only[ints]at hk hL U ⊢;(repeat first|refine uA ?_|simp(disch:=omega) only[go_sem,d0A]);apply S.cond rfl<;>intro G
  ·have G:k<n/\s.bad=false:=by simp at G;exact G
   obtain⟨B,ap⟩:=s;simp only at G;obtain⟨zs,rfl⟩:=G;rw[show n-k=(n-(k+1))+1 by omega,a4k]at U;have Y:=λ(E:Ctx) (M:E.P=Tryz.prog)=>hg.on M (rs:=[Cd.box ⟨true,B,false,o,fr⟩,.box t (pre++(.rv 5::u)),Cd.row ⟨true,B,false,o,fr⟩,O8,.box 3 [ints n],.row e sz (L.map enc),.box e (enc d)]) (m:=6) (p:=3) (cs:=(enc d)) (cs2:=(enc (tr r w ⟨true,B,false,o,fr⟩ d).2)) (c:=⟨true,B,false,o,fr⟩) (x:=d) (t:=e) V ⟨λ_=>rfl,λh=>(by cases h)⟩ rfl rfl rfl rfl rfl rfl rfl rfl;simp only[tr,cond_true]at Y;generalize r ⟨B,false⟩=q at*;obtain⟨y,s2⟩:=q;simp only[Cd.box,Cd.cells,Cd.row,cond_true,O8]at Y
   have an:(k+1)*bytes<=140737488355328:=d0f (Nat.mul_le_mul (show k+1<=268435456 by omega) ak) (by decide)
   (repeat first|refine uA ?_|(apply uK;· first|omega|(intros;simp_all<;>omega))|simp(disch:=omega) only[go_sem,Nat.reduceAdd,ww,O,N,Y9,List.drop_left,List.take_left,d0l,d0p,d0u,d0o,List.cons_append,List.nil_append,List.append_nil,d0A,ae,H.cl,H.ones,H.len,H.z1,H.zl,T,d0d,hL,an,d0c,d0j,List.length_nil,List.replicate_succ,List.replicate_zero]|refine j5.t (l5.vg (Y _ rfl) (j3.eq rfl rfl) (by repeat' first|exact C9.nil|exact RI.gone _|exact RI.row _ _ _ _ rfl|(refine RI.box _ _ _ (j3.eq rfl ?_);exact(by repeat first|refine uA ?_|refine⟨rfl,?_⟩|rfl|simp[slot]))|exact RI.box _ _ _ (H.zd _ _)|refine C9.cons ?_ ?_) rfl) ?_);refine S.next (x:=(k,L,⟨B,false⟩)) (k+1,L++[y],s2) ⟨by simp only;omega,by simp only[d0c,d0j,List.length_nil];omega,by simp only at U ⊢;rw[d0o];exact U⟩ (by simp only;omega) (by simp only[d0u,d0l,d0p];exact(by repeat first|refine uA ?_|(refine⟨?_,?_⟩;· first|rfl|simp[slot])|rfl|simp|exact d0f A (by simp)))
  ·have ac:F7 r (n-k) s=([],s):=by
    rcases d0B k n with h|h
    ·exact a4Z _ (by simp at G;exact G h)
    ·rw[show n-k=0 by omega];rfl
   rw[ac,List.append_nil]at U;subst U;(repeat first|refine uA ?_|simp(disch:=omega) only[go_sem]);exact uRe rfl (Imp.refl rfl) (C9.cons (.box _ _ _ (j3.eq rfl rfl)) (C9.cons (.box _ _ _ (a7B (Imp.frz rfl rfl rfl))) (C9.cons (.gone _) (C9.cons (.box _ _ _ (j3.eq rfl rfl)) C9.nil)))) (d0f A (by simp))
def c7x{α:Type}{f g:Nat}{fn:Func}{e:TypeId}{z:Nat}{G:α->List (List C)}{d:α}{w:α->List UInt8}{D:α->Prop}{r:Rdr α}(V:Tryz.prog.funcs[f]?=some fn)(H:a0D J6 Tryz.prog fn=some (lsI e false 1 24 [.slice none 0 0]))(hd:G d=[])(U:callable Tryz.prog g=true)(hg:CY g (λx=>[.sl z (G x)]) (Pw d w D) (tr r w)):CL f g (λl:List α=>[.sl 1 (l.map (λx=>[.sl z (G x)]))]) (Pw [] (j6 w) (LsD D)) (tr (q8 r) (j6 w)):=by
 intro E M c l t pre u hp hq I;obtain⟨P,ef,N0,w0,aj,an,ap,ao⟩:=E;simp only at M;subst M;obtain⟨rd,i,b,o,fr⟩:=c;have O:=λpk=>F4 pk hp;have N:=λpk=>F4 pk hq;haveI:Clz pre:=⟨hp⟩
 haveI:Clz u:=⟨hq⟩
 have W:∀x,C.clL [.sl z (G x)]=true:=λx=>rfl;haveI:∀x,Clz [.sl z (G x)]:=λx=>⟨W x⟩
 refine l5.of (eff:=J6) V H (by exact d0n rfl) λwd own av ν ai=>?_;have A:ν.length<=4:=by rw[ai];exact d0m _
 cases rd
 ·obtain⟨⟨aq,hD⟩,hl⟩:=I.2 rfl;unfold j6 at hl;rw[d0c]at hl;have hl:o.length+((J3 l.length).length+(l.flatMap w).length)<=16777216:=hl;have hi:G8 (l.length:Int)=J3 l.length:=U7 (by omega);have K:=λ(E:Ctx) (M:E.P=Tryz.prog)=>a1K.on M (rs:=[Cd.box ⟨false,i,b,o,fr⟩,.box t (pre++(.sl 1 (l.map (λx=>[.sl z (G x)]))::u)),Cd.row ⟨false,i,b,o,fr⟩,O8,.box 3 [ints l.length]]) (m:=4) (off:=0) [] [] rfl rfl (λ_=>rfl) (c:=⟨false,i,b,o,fr⟩) (x:=l.length) (λ_=>by rw[hi];omega) rfl rfl rfl rfl rfl rfl rfl rfl rfl;have hR:tr (q8 r) (j6 w) ⟨false,i,b,o,fr⟩ l=(⟨false,i,b,(o++J3 l.length)++l.flatMap w,false⟩,l):=by rw[d0o];rfl
  have hN:tr (l9 l.length) G8 ⟨false,i,b,o,fr⟩ l.length=(⟨false,i,b,o++G8 l.length,false⟩,(l.length:Int)):=rfl
  try dsimp only at K
  rw[hN,hi]at K
  try dsimp only
  rw[hR];obtain⟨R0,ab,af⟩:∃R,Cd.row ⟨false,i,b,o,fr⟩=R/\(R=.fb 5 o\/R=.row 5 1 (o.map u7)):=⟨_,rfl,by cases fr<;>first|exact .inl rfl|exact .inr rfl⟩
  simp only[ab]at K ⊢;clear hN hR I ab af hi;have am:(o++J3 l.length).length+(l.flatMap w).length<=16777216:=by rw[d0c];omega
  generalize o++J3 l.length=o1 at*;simp only[lsI,j4,TT,II,OA,OB,OC,MM,VV,FF,MG,FG,VG];simp only[Cd.box,Cd.cells,Cd.row,cond_false,ints,O8]at K ⊢;(repeat first|refine uA ?_|(apply uK;· first|omega|(intros;simp_all<;>omega))|simp(disch:=omega) only[go_sem,Nat.reduceAdd,O,N,List.drop_left,d0l,d0p,d0u,List.cons_append,List.nil_append,List.append_nil,d0A,d0j,List.length_nil,d0d]|refine j5.t (K _ rfl) ?_);refine S.cond rfl (λH=>?_) (λH=>by simp at H)
  (repeat first|refine uA ?_|simp(disch:=omega) only[go_sem,List.drop_left]);refine S.loop (X:=Nat×List UInt8) (λy=>⟨[(0,.bp 0 0),(1,.bp 1 pre.length),(2,.clo g [.bp 3 0]),(24,.sl 1 (l.map (λx=>[.sl z (G x)]))),(25,ints l.length),(26,ints y.1)],[.box 54 [.rv 2,.sl 1 (i.map u7),.v (.bool false),.v (.bool b)],.box t (pre++(.sl 1 (l.map (λx=>[.sl z (G x)]))::u)),.row 5 1 (y.2.map u7),.box 52 [.bp 0 0]]⟩)
   (λy=>y.1<=l.length/\y.2=o1++(l.take y.1).flatMap w) (λy=>l.length-y.1) (0,o1) ⟨d0k _,by simp⟩ (by repeat first|refine uA ?_|(refine⟨?_,?_⟩;· first|rfl|simp[slot])|rfl|simp|exact d0f A (by simp)) ?_
  rintro⟨k,out⟩ ⟨hk,ho⟩;simp only[ints]at hk ho ⊢;refine uV rfl ?_;apply uJ rfl<;>intro H
  ·have J:k<l.length:=by omega
   have aa:=d0b J;have ae:=a2q w J;have ag:=a3f w J;have ac:=hD _ (d0z J);generalize l[k]=x at aa ae ag ac;have ah:=congrArg List.length ho;rw[d0c]at ah;have T:=λ(E:Ctx) (M:E.P=Tryz.prog)=>hg.on M (rs:=[Cd.box ⟨false,i,b,out,false⟩,.box t (pre++(.sl 1 (l.map (λx=>[.sl z (G x)]))::u)),Cd.row ⟨false,i,b,out,false⟩,O8,.box e [.sl z (G x)]]) (m:=4) (p:=3) (cs:=[.sl z (G x)]) (cs2:=[.sl z (G x)]) (c:=⟨false,i,b,out,false⟩) (x:=x) (t:=e) W ⟨λh=>(by cases h),λ_=>⟨ac,by show out.length+_<=_;omega⟩⟩ rfl rfl rfl rfl rfl rfl rfl rfl;simp only[tr,cond_false]at T;simp only[Cd.box,Cd.cells,Cd.row,cond_false,O8]at T
   (repeat first|refine uA ?_|(apply uK;· first|omega|(intros;simp_all<;>omega))|simp(disch:=omega) only[go_sem,Nat.reduceAdd,ww,O,N,d0l,d0p,d0u,List.cons_append,List.nil_append,List.append_nil,d0A,d0j,List.length_nil,aa,d0e,d0d,d0h,U]|refine j5.t (T _ rfl) ?_);refine S.next (x:=(k,out)) (k+1,out++w x) ⟨by simp only;omega,by simp only;rw[ae,ho,d0o]⟩ (by simp only;omega) (by repeat first|refine uA ?_|(refine⟨?_,?_⟩;· first|rfl|simp[slot])|rfl|simp|exact d0f A (by simp))
  ·have J:k=l.length:=by omega
   subst J;rw[d0w]at ho;subst ho
   (exact uY rfl rfl (Imp.refl rfl) (by repeat first|refine uA ?_|refine⟨rfl,?_⟩|rfl|simp) (d0f A (by simp)))
 ·have hx:=I.1 rfl;subst hx;have K:=λ(E:Ctx) (M:E.P=Tryz.prog)=>a1K.on M (rs:=[Cd.box ⟨true,i,b,o,fr⟩,.box t (pre++(.sl 1 []::u)),Cd.row ⟨true,i,b,o,fr⟩,O8,.box 3 [ints 0]]) (m:=4) (off:=0) [] [] rfl rfl (λ_=>rfl) (c:=⟨true,i,b,o,fr⟩) (x:=0) (λh=>by cases h) rfl rfl rfl rfl rfl rfl rfl rfl rfl;have hR:tr (q8 r) (j6 w) ⟨true,i,b,o,fr⟩ []=(⟨true,(F7 r (l9 0 ⟨i,b⟩).1.toNat (l9 0 ⟨i,b⟩).2).2.inp,(F7 r (l9 0 ⟨i,b⟩).1.toNat (l9 0 ⟨i,b⟩).2).2.bad,o,fr⟩,(F7 r (l9 0 ⟨i,b⟩).1.toNat (l9 0 ⟨i,b⟩).2).1):=rfl;have hN:tr (l9 0) G8 ⟨true,i,b,o,fr⟩ 0=(⟨true,(l9 0 ⟨i,b⟩).2.inp,(l9 0 ⟨i,b⟩).2.bad,o,fr⟩,(l9 0 ⟨i,b⟩).1):=rfl;have Y:=Z9 (old:=0) ⟨by decide,by decide⟩ i.length ⟨i,b⟩ (d0m _)
  try dsimp only at K
  rw[hN]at K
  try dsimp only
  rw[hR];clear hN hR I;generalize l9 0 ⟨i,b⟩=q0 at*;obtain⟨n,s0⟩:=q0;simp only at Y;obtain⟨n,rfl⟩:∃m:Nat,n=m:=⟨n.toNat,by have:=Y.1;omega⟩
  have hn:n<268435456:=by have:=Y.2;omega
  simp only[d0h]at K ⊢;generalize hF:F7 r n s0=F;simp only[lsI,j4,TT,II,OA,OB,OC,MM,VV,FF,MG,FG,VG];simp only[Cd.box,Cd.cells,Cd.row,cond_true,ints,d0p,O8]at K ⊢;(repeat first|refine uA ?_|(apply uK;· first|omega|(intros;simp_all<;>omega))|simp(disch:=omega) only[go_sem,Nat.reduceAdd,O,N,List.drop_left,d0l,d0p,d0u,List.cons_append,List.nil_append,List.append_nil,d0A,d0j,List.length_nil,List.length_nil]|refine j5.t (K _ rfl) ?_);refine S.cond rfl (λH=>by simp at H) (λH=>?_)
  (repeat first|refine uA ?_|simp(disch:=omega) only[go_sem,Y9,List.take_left,d0o,List.cons_append,List.nil_append,d0A,d0j,List.length_nil]);refine S.loop (X:=Nat×List α×Rs) (λy=>⟨[(0,.bp 0 0),(1,.bp 1 pre.length),(2,.clo g [.bp 3 0]),(6,.bp 4 0),(9,ints y.1)],[.box 54 [.v (.slice none 0 0),.sl 1 (y.2.2.inp.map u7),.v (.bool true),.v (.bool y.2.2.bad)],.box t (pre++(.rv 5::u)),.gone,.box 52 [.bp 0 0],.box 3 [ints n],.row e 1 (y.2.1.map (λx=>[.sl z (G x)]))]⟩)
   (λy=>y.1<=n/\y.2.1.length=y.1/\(y.2.1++(F7 r (n-y.1) y.2.2).1,(F7 r (n-y.1) y.2.2).2)=F) (λy=>n-y.1) (0,[],s0) ⟨d0k _,rfl,hF⟩
   (Ent.trans (Ent.a5w 1 pre.length e 1 (c:=.v (.slice none 0 0)) rfl (by simp) rfl) (by simp only[List.set_cons_succ,List.set_cons_zero,a7K,List.cons_append,List.nil_append,d0j,List.length_nil];exact(by repeat first|refine uA ?_|(refine⟨?_,?_⟩;· first|rfl|simp[slot])|rfl|simp|exact d0f A (by simp)))) ?_
  rintro⟨k,L,s⟩ ⟨hk,hL,V⟩;simp only[ints]at hk hL V ⊢;(repeat first|refine uA ?_|simp(disch:=omega) only[go_sem,d0A]);apply S.cond rfl<;>intro H
  ·have H:k<n/\s.bad=false:=by simp at H;exact H
   obtain⟨B,ak⟩:=s;simp only at H;obtain⟨al,rfl⟩:=H;rw[show n-k=(n-(k+1))+1 by omega,a4k]at V;have T:=λ(E:Ctx) (M:E.P=Tryz.prog)=>hg.on M (rs:=[Cd.box ⟨true,B,false,o,fr⟩,.box t (pre++(.rv 5::u)),Cd.row ⟨true,B,false,o,fr⟩,O8,.box 3 [ints n],.row e 1 (L.map (λx=>[.sl z (G x)])),.box e [.sl z (G d)]]) (m:=6) (p:=3) (cs:=[.sl z (G d)]) (cs2:=[.sl z (G (tr r w ⟨true,B,false,o,fr⟩ d).2)]) (c:=⟨true,B,false,o,fr⟩) (x:=d) (t:=e) W ⟨λ_=>rfl,λh=>(by cases h)⟩ rfl rfl rfl rfl rfl rfl rfl rfl;simp only[tr,cond_true]at T;generalize r ⟨B,false⟩=q at*;obtain⟨y,s2⟩:=q;simp only[Cd.box,Cd.cells,Cd.row,cond_true,O8]at T;rw[hd]at T
   (repeat first|refine uA ?_|(apply uK;· first|omega|(intros;simp_all<;>omega))|simp(disch:=omega) only[go_sem,Nat.reduceAdd,ww,O,N,Y9,List.drop_left,List.take_left,d0l,d0p,d0u,d0o,List.cons_append,List.nil_append,List.append_nil,d0A,d0j,List.length_nil,U,d0d,hL,d0c,d0j,List.length_nil,List.replicate_succ,List.replicate_zero]|refine j5.t (l5.vg (T _ rfl) (j3.eq rfl rfl) (by repeat' first|exact C9.nil|exact RI.gone _|exact RI.row _ _ _ _ rfl|(refine RI.box _ _ _ (j3.eq rfl ?_);exact(by repeat first|refine uA ?_|refine⟨rfl,?_⟩|rfl|simp[slot]))|exact RI.box _ _ _ (j3.cons Imp.D8 j3.nil)|refine C9.cons ?_ ?_) rfl) ?_);refine S.next (x:=(k,L,⟨B,false⟩)) (k+1,L++[y],s2) ⟨by simp only;omega,by simp only[d0c,d0j,List.length_nil];omega,by simp only at V ⊢;rw[d0o];exact V⟩ (by simp only;omega) (by simp only[d0u,d0l,d0p];exact(by repeat first|refine uA ?_|(refine⟨?_,?_⟩;· first|rfl|simp[slot])|rfl|simp|exact d0f A (by simp)))
  ·have Z:F7 r (n-k) s=([],s):=by
    rcases d0B k n with h|h
    ·exact a4Z _ (by simp at H;exact H h)
    ·rw[show n-k=0 by omega];rfl
   rw[Z,List.append_nil]at V;subst V;(repeat first|refine uA ?_|simp(disch:=omega) only[go_sem]);exact uRe rfl (Imp.refl rfl) (C9.cons (.box _ _ _ (j3.eq rfl rfl)) (C9.cons (.box _ _ _ (a7B (Imp.frz rfl rfl rfl))) (C9.cons (.gone _) (C9.cons (.box _ _ _ (j3.eq rfl rfl)) C9.nil)))) (d0f A (by simp))
def a8p:CX 54 [.bnd 55 (.bp 0 0)] (λl:List Nm.Rt=>[.sl 3 (l.map rcs)]) (Pw [] (j6 I7) (LsD Y7)) (tr (q8 P6) (j6 I7)):=b4i (e:=29) (bytes:=40) (zero:=[.bool false,.string ⟨#[]⟩,.string ⟨#[]⟩]) Tryz.func54 (by kernel_rfl) (⟨λ_=>rfl,by decide,λ_=>rfl,λ_=>rfl,rfl,rfl,λ_ _=>(by repeat' first|exact j3.nil|exact Imp.D8|exact Imp.refl rfl|refine j3.cons ?_ ?_),by decide,by decide⟩) (by kernel_rfl) a3O
def b1a:CX 97 [.bnd 92 (.bp 0 0)] (λl:List Vt=>[.sl 6 (l.map Vt.enc)]) (Pw [] (j6 I5) (LsD Y7)) (tr (q8 a1D) (j6 I5)):=b4i (e:=66) (bytes:=80) (zero:=[.bool false,.string ⟨#[]⟩,.string ⟨#[]⟩,.bool false,.string ⟨#[]⟩,.string ⟨#[]⟩]) Tryz.func97 (by kernel_rfl) (⟨λ_=>rfl,by decide,λ_=>rfl,λ_=>rfl,rfl,rfl,λ_ _=>(by repeat' first|exact j3.nil|exact Imp.D8|exact Imp.refl rfl|refine j3.cons ?_ ?_),by decide,by decide⟩) (by kernel_rfl) b4e
def b7c:CX 98 [.bnd 95 (.bp 0 0)] (λl:List Bool=>[.sl 1 (l.map boC)]) (Pw [] (j6 a1s) (LsD Y7)) (tr (q8 a0C) (j6 a1s)):=c7Z (e:=4) Tryz.func98 (by kernel_rfl) (rfl) (by kernel_rfl) b2a
def b5u:CX 96 [.bnd 87 (.bp 0 0)] (λl:List Fr=>[.sl 10 (l.map Fr.enc)]) (Pw [] (j6 frB) (LsD Y7)) (tr (q8 a0h) (j6 frB)):=b4i (e:=70) (bytes:=128) (zero:=[.bool false,.string ⟨#[]⟩,.string ⟨#[]⟩,.bool false,.string ⟨#[]⟩,.string ⟨#[]⟩,.bool false,.bool false,.string ⟨#[]⟩,.string ⟨#[]⟩]) Tryz.func96 (by kernel_rfl) (⟨λ_=>rfl,by decide,λ_=>rfl,λ_=>rfl,rfl,rfl,λ_ _=>(by repeat' first|exact j3.nil|exact Imp.D8|exact Imp.refl rfl|refine j3.cons ?_ ?_),by decide,by decide⟩) (by kernel_rfl) a9V
def plC(s:List Vt):List C:=[.sl 6 (s.map Vt.enc)]
def lk0:Lk:=⟨rt0,rt0,rt0,rt0,rt0,[]⟩
def LkD(x:Lk):Prop:=LsD Y7 x.shape
def b5F:CX 59 [] plC (Pw [] (j6 I5) (LsD Y7)) (tr a0B (j6 I5)):=by
 intro E O c x t pre B J M u;obtain⟨P,ef,N0,w0,R,aa,V,U⟩:=E;simp only at O;subst O;have I:=λH=>F4 H J;have D:=λH=>F4 H M;haveI:Clz pre:=⟨J⟩
 haveI:Clz B:=⟨M⟩
 have hl:c.rd=false->c.o.length+((j6 I5) x).length<=16777216:=λh=>(u.2 h).2;obtain⟨K,N,T,u1,Z,X⟩:=b1a.go (λ_=>rfl) rfl (c:=c) (x:=x) ⟨λh=>congrArg (λx=>x) (u.1 h),λh=>⟨by exact(u.2 h).1,by have a0:=hl h;omega⟩⟩;have s1:K.rd=c.rd:=u1;have t1:c.rd=false->K.o.length=c.o.length+_:=λh=>Z h;have Y:tr a0B (j6 I5) c x=(K,N):=by
  obtain⟨W,i,b,o,fr⟩:=c;cases W
  ·obtain⟨rfl,rfl⟩:=z8 T;rfl
  ·obtain⟨z1,G,rfl⟩:=D6 T;have G:(q8 a1D) ⟨i,b⟩=(N,z1):=G;simp only[tr,cond_true,a0B,G]
 rw[Y];refine l5.of (eff:=J6) Tryz.func59 (by cbv) (by exact d0n rfl) λw own av ν F=>?_;have A:ν.length<=3:=by rw[F];exact d0m _
 simp only[j4,TT,OA,MM];simp only[RR,plC,List.cons_append,List.nil_append];(repeat first|refine uA ?_|(apply uK;· first|omega|(intros;simp_all<;>omega))|simp(disch:=omega) only[go_sem,Nat.reduceAdd,d0l,d0p,d0u,List.cons_append,List.nil_append,I,D]|refine j5.t (X rfl pre [] rfl rfl J rfl M rfl rfl rfl rfl) ?_);(exact uRe rfl (Imp.refl rfl) (by repeat first|refine uA ?_|refine⟨rfl,?_⟩|rfl|simp[slot]) (d0f A (by simp)))
def c7G:CY 134 Lk.enc (Pw lk0 lkB LkD) (tr a5F lkB):=by
 intro E hP c x t u;obtain⟨P,ef,N0,w0,ab,ac,af,ae⟩:=E;simp only at hP;subst hP;have I:c.rd=false->c.o.length+(lkB x).length<=16777216:=λh=>(u.2 h).2;simp only[lkB,d0c]at I;have hD:c.rd=false->LkD x:=λh=>(u.2 h).1;obtain⟨R,D,q1,u1,o1,h1⟩:=a3O.go (λ_=>rfl) rfl (c:=c) (x:=x.length) ⟨λh=>congrArg (λx=>x.length) (u.1 h),λh=>⟨trivial,by have G:=I h;(try simp only[lkB,d0c]at G ⊢);omega⟩⟩;have s1:R.rd=c.rd:=u1;have M:c.rd=false->R.o.length=c.o.length+_:=λh=>o1 h
 try simp only[lkB,d0c]at M
 obtain⟨T,F,q2,u2,o2,h2⟩:=a3O.go (λ_=>rfl) rfl (c:=R) (x:=x.low) ⟨λh=>congrArg (λx=>x.low) (u.1 (by rwa[s1]at h)),λh=>⟨trivial,by rw[s1]at h;have G:=I h;have a1:=M h;(try simp only[lkB,d0c]at G ⊢);omega⟩⟩;have s2:T.rd=c.rd:=u2.trans s1;have V:c.rd=false->T.o.length=R.o.length+_:=λh=>o2 (s1.trans h)
 try simp only[lkB,d0c]at V
 obtain⟨O,H,q3,u3,o3,h3⟩:=a3O.go (λ_=>rfl) rfl (c:=T) (x:=x.high) ⟨λh=>congrArg (λx=>x.high) (u.1 (by rwa[s2]at h)),λh=>⟨trivial,by rw[s2]at h;have G:=I h;have a1:=M h;have a2:=V h;(try simp only[lkB,d0c]at G ⊢);omega⟩⟩;have W:O.rd=c.rd:=u3.trans s2;have Y:c.rd=false->O.o.length=T.o.length+_:=λh=>o3 (s2.trans h)
 try simp only[lkB,d0c]at Y
 obtain⟨N,J,q4,u4,o4,h4⟩:=a3O.go (λ_=>rfl) rfl (c:=O) (x:=x.speed) ⟨λh=>congrArg (λx=>x.speed) (u.1 (by rwa[W]at h)),λh=>⟨trivial,by rw[W]at h;have G:=I h;have a1:=M h;have a2:=V h;have a3:=Y h;(try simp only[lkB,d0c]at G ⊢);omega⟩⟩;have Z:N.rd=c.rd:=u4.trans W;have t4:c.rd=false->N.o.length=O.o.length+_:=λh=>o4 (W.trans h)
 try simp only[lkB,d0c]at t4
 obtain⟨K,y5,q5,u5,o5,h5⟩:=a3O.go (λ_=>rfl) rfl (c:=N) (x:=x.brake) ⟨λh=>congrArg (λx=>x.brake) (u.1 (by rwa[Z]at h)),λh=>⟨trivial,by rw[Z]at h;have G:=I h;have a1:=M h;have a2:=V h;have a3:=Y h;have a4:=t4 h;(try simp only[lkB,d0c]at G ⊢);omega⟩⟩;have U:K.rd=c.rd:=u5.trans Z;have t5:c.rd=false->K.o.length=N.o.length+_:=λh=>o5 (Z.trans h)
 try simp only[lkB,d0c]at t5
 obtain⟨c6,y6,q6,u6,o6,h6⟩:=b5F.go (λ_=>rfl) rfl (c:=K) (x:=x.shape) ⟨λh=>congrArg (λx=>x.shape) (u.1 (by rwa[U]at h)),λh=>⟨by rw[U]at h;exact hD h,by rw[U]at h;have G:=I h;have a1:=M h;have a2:=V h;have a3:=Y h;have a4:=t4 h;have a5:=t5 h;(try simp only[lkB,d0c]at G ⊢);omega⟩⟩;have s6:c6.rd=c.rd:=u6.trans U;have t6:c.rd=false->c6.o.length=K.o.length+_:=λh=>o6 (U.trans h)
 try simp only[lkB,d0c]at t6
 have hT:tr a5F lkB c x=(c6,⟨D,F,H,J,y5,y6⟩):=by
  obtain⟨rd,i,b,o,fr⟩:=c;cases rd
  ·obtain⟨rfl,rfl⟩:=z8 q1;obtain⟨rfl,rfl⟩:=z8 q2;obtain⟨rfl,rfl⟩:=z8 q3;obtain⟨rfl,rfl⟩:=z8 q4;obtain⟨rfl,rfl⟩:=z8 q5;obtain⟨rfl,rfl⟩:=z8 q6;simp only[tr,cond_false,lkB,d0o]
  ·obtain⟨z1,e1,rfl⟩:=D6 q1;have e1:P6 ⟨i,b⟩=(D,z1):=e1;obtain⟨z2,e2,rfl⟩:=D6 q2;have e2:P6 z1=(F,z2):=e2;obtain⟨z3,e3,rfl⟩:=D6 q3;have e3:P6 z2=(H,z3):=e3;obtain⟨z4,e4,rfl⟩:=D6 q4;have e4:P6 z3=(J,z4):=e4;obtain⟨z5,e5,rfl⟩:=D6 q5;have e5:P6 z4=(y5,z5):=e5;obtain⟨z6,e6,rfl⟩:=D6 q6;have e6:a0B z5=(y6,z6):=e6;simp only[tr,cond_true,a5F,p9,H9,e1,e2,e3,e4,e5,e6]
 rw[hT];refine l5.of (eff:=J6) Tryz.func134 (by cbv) (by exact d0n rfl) λw own av ν aa=>?_;have A:ν.length<=4:=by rw[aa];exact d0m _
 simp only[j4,TT,II,OA,MM,VV,FF];simp only[O8,Lk.enc,vts,sb]
 (repeat first|refine uA ?_|simp(disch:=omega) only[go_sem,Nat.reduceAdd,d0l,d0p,List.cons_append,List.nil_append,Nat.reduceAdd,KMd,opsV,List.flatten_cons,List.flatten_nil]);refine S.loop (X:=Nat) (λk=>⟨[(0,.bp 1 0),(1,.bp 3 0),(20,.wv 4 1 0 5),(21,ints 5),(22,ints (match k with|0=>0|1=>1|2=>2|3=>3|4=>4|_=>5))],[(match k with|0=>c|1=>R|2=>T|3=>O|4=>N|_=>K).box,.box t (match k with|0=>rcs x.length++(rcs x.low++(rcs x.high++(rcs x.speed++(rcs x.brake++([vts x.shape])))))|1=>rcs D++(rcs x.low++(rcs x.high++(rcs x.speed++(rcs x.brake++([vts x.shape])))))|2=>rcs D++(rcs F++(rcs x.high++(rcs x.speed++(rcs x.brake++([vts x.shape])))))|3=>rcs D++(rcs F++(rcs H++(rcs x.speed++(rcs x.brake++([vts x.shape])))))|4=>rcs D++(rcs F++(rcs H++(rcs J++(rcs x.brake++([vts x.shape])))))|_=>rcs D++(rcs F++(rcs H++(rcs J++(rcs y5++([vts x.shape])))))),(match k with|0=>c|1=>R|2=>T|3=>O|4=>N|_=>K).row,.box 52 [.bp 0 0],.box 185 [.bp 1 0,.bp 1 3,.bp 1 6,.bp 1 9,.bp 1 12]]⟩) (λk=>k<=5) (λk=>5-k) 0 (by decide) (by repeat first|refine uA ?_|(refine⟨?_,?_⟩;· first|rfl|simp[slot])|rfl|simp|exact d0f A (by simp)) ?_
 intro k hk;rcases k with _|_|_|_|_|_|k
 ·simp only[ints,rcs,vts,sb,List.cons_append,List.nil_append];(repeat first|refine uA ?_|simp(disch:=omega) only[go_sem]|refine j5.t (h1 rfl [] [] rfl rfl rfl rfl rfl rfl rfl rfl rfl) ?_);refine S.cond rfl (λB=>?_) (λB=>by simp at B)
  (repeat first|refine uA ?_|(apply uK;· first|omega|(intros;simp_all<;>omega))|simp(disch:=omega) only[go_sem,Nat.reduceAdd,ww,d0l,d0p,List.cons_append,List.nil_append,rcs,sb,Nat.reduceMul,Nat.reduceAdd]|refine j5.t (h1 rfl [] [] rfl rfl rfl rfl rfl rfl rfl rfl rfl) ?_);exact S.next (x:=0) 1 (by decide) (by decide) (by repeat first|refine uA ?_|(refine⟨?_,?_⟩;· first|rfl|simp[slot])|rfl|simp|exact d0f A (by simp))
 ·simp only[ints,rcs,vts,sb,List.cons_append,List.nil_append];(repeat first|refine uA ?_|simp(disch:=omega) only[go_sem,Nat.reduceAdd,Nat.reduceAdd]|refine j5.t (h2 rfl [] (rcs D) rfl rfl rfl rfl rfl rfl rfl rfl rfl) ?_);refine S.cond rfl (λB=>?_) (λB=>by simp at B)
  (repeat first|refine uA ?_|(apply uK;· first|omega|(intros;simp_all<;>omega))|simp(disch:=omega) only[go_sem,Nat.reduceAdd,ww,d0l,d0p,List.cons_append,List.nil_append,rcs,sb,Nat.reduceMul,Nat.reduceAdd]|refine j5.t (h2 rfl [] (rcs D) rfl rfl rfl rfl rfl rfl rfl rfl rfl) ?_);exact S.next (x:=1) 2 (by decide) (by decide) (by repeat first|refine uA ?_|(refine⟨?_,?_⟩;· first|rfl|simp[slot])|rfl|simp|exact d0f A (by simp))
 ·simp only[ints,rcs,vts,sb,List.cons_append,List.nil_append];(repeat first|refine uA ?_|simp(disch:=omega) only[go_sem,Nat.reduceAdd,Nat.reduceAdd]|refine j5.t (h3 rfl [] (rcs D++rcs F) rfl rfl rfl rfl rfl rfl rfl rfl rfl) ?_);refine S.cond rfl (λB=>?_) (λB=>by simp at B)
  (repeat first|refine uA ?_|(apply uK;· first|omega|(intros;simp_all<;>omega))|simp(disch:=omega) only[go_sem,Nat.reduceAdd,ww,d0l,d0p,List.cons_append,List.nil_append,rcs,sb,Nat.reduceMul,Nat.reduceAdd]|refine j5.t (h3 rfl [] (rcs D++rcs F) rfl rfl rfl rfl rfl rfl rfl rfl rfl) ?_);exact S.next (x:=2) 3 (by decide) (by decide) (by repeat first|refine uA ?_|(refine⟨?_,?_⟩;· first|rfl|simp[slot])|rfl|simp|exact d0f A (by simp))
 ·simp only[ints,rcs,vts,sb,List.cons_append,List.nil_append];(repeat first|refine uA ?_|simp(disch:=omega) only[go_sem,Nat.reduceAdd,Nat.reduceAdd]|refine j5.t (h4 rfl [] (rcs D++rcs F++rcs H) rfl rfl rfl rfl rfl rfl rfl rfl rfl) ?_);refine S.cond rfl (λB=>?_) (λB=>by simp at B)
  (repeat first|refine uA ?_|(apply uK;· first|omega|(intros;simp_all<;>omega))|simp(disch:=omega) only[go_sem,Nat.reduceAdd,ww,d0l,d0p,List.cons_append,List.nil_append,rcs,sb,Nat.reduceMul,Nat.reduceAdd]|refine j5.t (h4 rfl [] (rcs D++rcs F++rcs H) rfl rfl rfl rfl rfl rfl rfl rfl rfl) ?_);exact S.next (x:=3) 4 (by decide) (by decide) (by repeat first|refine uA ?_|(refine⟨?_,?_⟩;· first|rfl|simp[slot])|rfl|simp|exact d0f A (by simp))
 ·simp only[ints,rcs,vts,sb,List.cons_append,List.nil_append];(repeat first|refine uA ?_|simp(disch:=omega) only[go_sem,Nat.reduceAdd,Nat.reduceAdd]|refine j5.t (h5 rfl [] (rcs D++rcs F++rcs H++rcs J) rfl rfl rfl rfl rfl rfl rfl rfl rfl) ?_);refine S.cond rfl (λB=>?_) (λB=>by simp at B)
  (repeat first|refine uA ?_|(apply uK;· first|omega|(intros;simp_all<;>omega))|simp(disch:=omega) only[go_sem,Nat.reduceAdd,ww,d0l,d0p,List.cons_append,List.nil_append,rcs,sb,Nat.reduceMul,Nat.reduceAdd]|refine j5.t (h5 rfl [] (rcs D++rcs F++rcs H++rcs J) rfl rfl rfl rfl rfl rfl rfl rfl rfl) ?_);exact S.next (x:=4) 5 (by decide) (by decide) (by repeat first|refine uA ?_|(refine⟨?_,?_⟩;· first|rfl|simp[slot])|rfl|simp|exact d0f A (by simp))
 ·simp only[ints,rcs,vts,sb,List.cons_append,List.nil_append];(repeat first|refine uA ?_|simp(disch:=omega) only[go_sem,Nat.reduceAdd,Nat.reduceAdd]);refine S.cond rfl (λB=>by simp at B) (λB=>?_)
  (repeat first|refine uA ?_|(apply uK;· first|omega|(intros;simp_all<;>omega))|simp(disch:=omega) only[go_sem,Nat.reduceAdd,tX,d0l,d0p,List.cons_append,List.nil_append,plC,rcs,sb,Nat.reduceAdd]|refine j5.t (h6 rfl [] (rcs D++rcs F++rcs H++rcs J++rcs y5) rfl rfl rfl rfl rfl rfl rfl rfl rfl) ?_);(exact uRe rfl (Imp.refl rfl) (by repeat first|refine uA ?_|refine⟨rfl,?_⟩|rfl|simp[slot]) (d0f A (by simp)))
 ·omega
def am0:Am:=⟨[],fr0,[]⟩
def pt0:Pt:=⟨[],[],fr0⟩
def sl0:Sl:=⟨[],fr0,rt0⟩
def gt0:Gt:=⟨[],vt0,vt0⟩
def wk0:Wk:=⟨[],[],[],[],[],rt0⟩
def AmD(x:Am):Prop:=LsD LkD x.links
def PtD(x:Pt):Prop:=LsD Y7 x.shape
def WkD(x:Wk):Prop:=LsD AmD x.arms/\LsD (LsD Y7) x.walls/\LsD PtD x.parts/\LsD Y7 x.slots/\LsD Y7 x.gates
def b7k:CL 133 134 (λl:List Lk=>[.sl 16 (l.map Lk.enc)]) (Pw [] (j6 lkB) (LsD LkD)) (tr (q8 a5F) (j6 lkB)):=a8B (e:=60) (bytes:=224) (zero:=[.bool false,.string ⟨#[]⟩,.string ⟨#[]⟩,.bool false,.string ⟨#[]⟩,.string ⟨#[]⟩,.bool false,.string ⟨#[]⟩,.string ⟨#[]⟩,.bool false,.string ⟨#[]⟩,.string ⟨#[]⟩,.bool false,.string ⟨#[]⟩,.string ⟨#[]⟩,.slice none 0 0]) Tryz.func133 (by kernel_rfl) (⟨λ_=>rfl,by decide,λ_=>rfl,λ_=>rfl,rfl,rfl,λ_ _=>(by repeat' first|exact j3.nil|exact Imp.D8|exact Imp.refl rfl|refine j3.cons ?_ ?_),by decide,by decide⟩) (by kernel_rfl) c7G
def b0s:CX 58 [.bnd 59 (.bp 0 0)] (λl:List (List Vt)=>[.sl 1 (l.map plC)]) (Pw [] (j6 (j6 I5)) (LsD (LsD Y7))) (tr (q8 a0B) (j6 (j6 I5))):=c7j (e:=34) Tryz.func58 (by kernel_rfl) (rfl) (by kernel_rfl) b5F
def c8W:CX 83 [] Am.enc (Pw am0 amB AmD) (tr a8g amB):=by
 intro E hP c x t pre H F G u;obtain⟨P,ef,N0,w0,aa,ae,ac,ab⟩:=E;simp only at hP;subst hP;have X:=λU=>F4 U F;have O:=λU=>F4 U G;haveI:Clz pre:=⟨F⟩
 haveI:Clz H:=⟨G⟩
 have K:c.rd=false->c.o.length+(amB x).length<=16777216:=λh=>(u.2 h).2;simp only[amB,d0c]at K;have hD:c.rd=false->AmD x:=λh=>(u.2 h).1;obtain⟨M,I,q1,u1,o1,h1⟩:=a7J.go (λ_=>rfl) rfl (c:=c) (x:=x.name) ⟨λh=>congrArg (λx=>x.name) (u.1 h),λh=>⟨trivial,by have A:=K h;(try simp only[amB,d0c]at A ⊢);omega⟩⟩;have J:M.rd=c.rd:=u1;have W:c.rd=false->M.o.length=c.o.length+_:=λh=>o1 h
 try simp only[amB,d0c]at W
 obtain⟨N,Z,q2,u2,o2,h2⟩:=a9V.go (λ_=>rfl) rfl (c:=M) (x:=x.base) ⟨λh=>congrArg (λx=>x.base) (u.1 (by rwa[J]at h)),λh=>⟨trivial,by rw[J]at h;have A:=K h;have a1:=W h;(try simp only[amB,d0c]at A ⊢);omega⟩⟩;have D:N.rd=c.rd:=u2.trans J;have t2:c.rd=false->N.o.length=M.o.length+_:=λh=>o2 (J.trans h)
 try simp only[amB,d0c]at t2
 obtain⟨c3,y3,q3,u3,o3,h3⟩:=b7k.go (c:=N) (x:=x.links) ⟨λh=>congrArg (λx=>x.links) (u.1 (by rwa[D]at h)),λh=>⟨by rw[D]at h;exact hD h,by rw[D]at h;have A:=K h;have a1:=W h;have a2:=t2 h;(try simp only[amB,d0c]at A ⊢);omega⟩⟩;have s3:c3.rd=c.rd:=u3.trans D;have t3:c.rd=false->c3.o.length=N.o.length+_:=λh=>o3 (D.trans h)
 try simp only[amB,d0c]at t3
 have hT:tr a8g amB c x=(c3,⟨I,Z,y3⟩):=by
  obtain⟨rd,i,b,o,fr⟩:=c;cases rd
  ·obtain⟨rfl,rfl⟩:=z8 q1;obtain⟨rfl,rfl⟩:=z8 q2;obtain⟨rfl,rfl⟩:=z8 q3;simp only[tr,cond_false,amB,d0o]
  ·obtain⟨z1,T,rfl⟩:=D6 q1;have T:Y6 ⟨i,b⟩=(I,z1):=T;obtain⟨z2,V,rfl⟩:=D6 q2;have V:a0h z1=(Z,z2):=V;obtain⟨z3,Y,rfl⟩:=D6 q3;have Y:(q8 a5F) z2=(y3,z3):=Y;simp only[tr,cond_true,a8g,p9,H9,T,V,Y]
 rw[hT];refine l5.of (eff:=J6) Tryz.func83 (by cbv) (by exact d0n rfl) λw own av ν R=>?_;have B:ν.length<=3:=by rw[R];exact d0m _
 simp only[j4,TT,OA,MM,VV,FF];simp only[RR,Am.enc,lks,sb,List.cons_append,List.nil_append];(repeat first|refine uA ?_|(apply uK;· first|omega|(intros;simp_all<;>omega))|simp(disch:=omega) only[go_sem,Nat.reduceAdd,tX,d0l,d0p,d0u,List.cons_append,List.nil_append,X,O,O8,Fr.enc,sb]|refine j5.t (h1 rfl pre [] rfl rfl F rfl G rfl rfl rfl rfl) ?_|refine j5.t (h2 rfl pre ([sb I]) rfl rfl F rfl G rfl rfl rfl rfl) ?_|refine j5.t (h3 rfl pre ([sb I]++Fr.enc Z) rfl rfl F rfl G rfl) ?_);(exact uRe rfl (Imp.refl rfl) (by repeat first|refine uA ?_|refine⟨rfl,?_⟩|rfl|simp[slot]) (d0f B (by simp)))
def c7T:CY 85 Pt.enc (Pw pt0 ptB PtD) (tr a3S ptB):=by
 intro E W c x t u;obtain⟨P,ef,N0,w0,X,ac,ab,aa⟩:=E;simp only at W;subst W;have H:c.rd=false->c.o.length+(ptB x).length<=16777216:=λh=>(u.2 h).2;simp only[ptB,d0c]at H;have hD:c.rd=false->PtD x:=λh=>(u.2 h).1;obtain⟨I,F,q1,u1,o1,h1⟩:=a7J.go (λ_=>rfl) rfl (c:=c) (x:=x.name) ⟨λh=>congrArg (λx=>x.name) (u.1 h),λh=>⟨trivial,by have A:=H h;(try simp only[ptB,d0c]at A ⊢);omega⟩⟩;have D:I.rd=c.rd:=u1;have O:c.rd=false->I.o.length=c.o.length+_:=λh=>o1 h
 try simp only[ptB,d0c]at O
 obtain⟨J,T,Y,u2,o2,h2⟩:=b5F.go (λ_=>rfl) rfl (c:=I) (x:=x.shape) ⟨λh=>congrArg (λx=>x.shape) (u.1 (by rwa[D]at h)),λh=>⟨by rw[D]at h;exact hD h,by rw[D]at h;have A:=H h;have a1:=O h;(try simp only[ptB,d0c]at A ⊢);omega⟩⟩;have G:J.rd=c.rd:=u2.trans D;have Z:c.rd=false->J.o.length=I.o.length+_:=λh=>o2 (D.trans h)
 try simp only[ptB,d0c]at Z
 obtain⟨U,V,q3,u3,o3,h3⟩:=a9V.go (λ_=>rfl) rfl (c:=J) (x:=x.grasp) ⟨λh=>congrArg (λx=>x.grasp) (u.1 (by rwa[G]at h)),λh=>⟨trivial,by rw[G]at h;have A:=H h;have a1:=O h;have a2:=Z h;(try simp only[ptB,d0c]at A ⊢);omega⟩⟩;have s3:U.rd=c.rd:=u3.trans G;have t3:c.rd=false->U.o.length=J.o.length+_:=λh=>o3 (G.trans h)
 try simp only[ptB,d0c]at t3
 have hT:tr a3S ptB c x=(U,⟨F,T,V⟩):=by
  obtain⟨rd,i,b,o,fr⟩:=c;cases rd
  ·obtain⟨rfl,rfl⟩:=z8 q1;obtain⟨rfl,rfl⟩:=z8 Y;obtain⟨rfl,rfl⟩:=z8 q3;simp only[tr,cond_false,ptB,d0o]
  ·obtain⟨z1,M,rfl⟩:=D6 q1;have M:Y6 ⟨i,b⟩=(F,z1):=M;obtain⟨z2,N,rfl⟩:=D6 Y;have N:a0B z1=(T,z2):=N;obtain⟨z3,R,rfl⟩:=D6 q3;have R:a0h z2=(V,z3):=R;simp only[tr,cond_true,a3S,p9,H9,M,N,R]
 rw[hT];refine l5.of (eff:=J6) Tryz.func85 (by cbv) (by exact d0n rfl) λw own av ν K=>?_;have B:ν.length<=4:=by rw[K];exact d0m _
 simp only[j4,TT,OA,MM,VV,FF];simp only[O8,Pt.enc,vts,sb];(repeat first|refine uA ?_|(apply uK;· first|omega|(intros;simp_all<;>omega))|simp(disch:=omega) only[go_sem,Nat.reduceAdd,tX,d0l,d0p,List.cons_append,List.nil_append,plC,Fr.enc,sb]|refine j5.t (h1 rfl [] [] rfl rfl rfl rfl rfl rfl rfl rfl rfl) ?_|refine j5.t (h2 rfl [] ([sb F]) rfl rfl rfl rfl rfl rfl rfl rfl rfl) ?_|refine j5.t (h3 rfl [] ([sb F]++plC T) rfl rfl rfl rfl rfl rfl rfl rfl rfl) ?_);(exact uRe rfl (Imp.refl rfl) (by repeat first|refine uA ?_|refine⟨rfl,?_⟩|rfl|simp[slot]) (d0f B (by simp)))
def c8I:CY 89 Sl.enc (Pw sl0 slB Y7) (tr a3o slB):=by
 intro E W c x t u;obtain⟨P,ef,N0,w0,X,ac,ab,aa⟩:=E;simp only at W;subst W;have H:c.rd=false->c.o.length+(slB x).length<=16777216:=λh=>(u.2 h).2;simp only[slB,d0c]at H;obtain⟨I,D,q1,u1,o1,h1⟩:=a7J.go (λ_=>rfl) rfl (c:=c) (x:=x.name) ⟨λh=>congrArg (λx=>x.name) (u.1 h),λh=>⟨trivial,by have A:=H h;(try simp only[slB,d0c]at A ⊢);omega⟩⟩;have G:I.rd=c.rd:=u1;have O:c.rd=false->I.o.length=c.o.length+_:=λh=>o1 h
 try simp only[slB,d0c]at O
 obtain⟨J,T,Y,u2,o2,h2⟩:=a9V.go (λ_=>rfl) rfl (c:=I) (x:=x.frame) ⟨λh=>congrArg (λx=>x.frame) (u.1 (by rwa[G]at h)),λh=>⟨trivial,by rw[G]at h;have A:=H h;have a1:=O h;(try simp only[slB,d0c]at A ⊢);omega⟩⟩;have F:J.rd=c.rd:=u2.trans G;have Z:c.rd=false->J.o.length=I.o.length+_:=λh=>o2 (G.trans h)
 try simp only[slB,d0c]at Z
 obtain⟨U,V,q3,u3,o3,h3⟩:=a3O.go (λ_=>rfl) rfl (c:=J) (x:=x.within) ⟨λh=>congrArg (λx=>x.within) (u.1 (by rwa[F]at h)),λh=>⟨trivial,by rw[F]at h;have A:=H h;have a1:=O h;have a2:=Z h;(try simp only[slB,d0c]at A ⊢);omega⟩⟩;have s3:U.rd=c.rd:=u3.trans F;have t3:c.rd=false->U.o.length=J.o.length+_:=λh=>o3 (F.trans h)
 try simp only[slB,d0c]at t3
 have hT:tr a3o slB c x=(U,⟨D,T,V⟩):=by
  obtain⟨rd,i,b,o,fr⟩:=c;cases rd
  ·obtain⟨rfl,rfl⟩:=z8 q1;obtain⟨rfl,rfl⟩:=z8 Y;obtain⟨rfl,rfl⟩:=z8 q3;simp only[tr,cond_false,slB,d0o]
  ·obtain⟨z1,M,rfl⟩:=D6 q1;have M:Y6 ⟨i,b⟩=(D,z1):=M;obtain⟨z2,N,rfl⟩:=D6 Y;have N:a0h z1=(T,z2):=N;obtain⟨z3,R,rfl⟩:=D6 q3;have R:P6 z2=(V,z3):=R;simp only[tr,cond_true,a3o,p9,H9,M,N,R]
 rw[hT];refine l5.of (eff:=J6) Tryz.func89 (by cbv) (by exact d0n rfl) λw own av ν K=>?_;have B:ν.length<=4:=by rw[K];exact d0m _
 simp only[j4,TT,OA,MM,VV,FF];simp only[O8,Sl.enc,sb];(repeat first|refine uA ?_|(apply uK;· first|omega|(intros;simp_all<;>omega))|simp(disch:=omega) only[go_sem,Nat.reduceAdd,tX,d0l,d0p,List.cons_append,List.nil_append,Fr.enc,rcs,sb]|refine j5.t (h1 rfl [] [] rfl rfl rfl rfl rfl rfl rfl rfl rfl) ?_|refine j5.t (h2 rfl [] ([sb D]) rfl rfl rfl rfl rfl rfl rfl rfl rfl) ?_|refine j5.t (h3 rfl [] ([sb D]++Fr.enc T) rfl rfl rfl rfl rfl rfl rfl rfl rfl) ?_);(exact uRe rfl (Imp.refl rfl) (by repeat first|refine uA ?_|refine⟨rfl,?_⟩|rfl|simp[slot]) (d0f B (by simp)))
def c8l:CY 91 Gt.enc (Pw gt0 gtB Y7) (tr a2J gtB):=by
 intro E W c x t u;obtain⟨P,ef,N0,w0,X,ac,ab,aa⟩:=E;simp only at W;subst W;have H:c.rd=false->c.o.length+(gtB x).length<=16777216:=λh=>(u.2 h).2;simp only[gtB,d0c]at H;obtain⟨I,D,q1,u1,o1,h1⟩:=a7J.go (λ_=>rfl) rfl (c:=c) (x:=x.name) ⟨λh=>congrArg (λx=>x.name) (u.1 h),λh=>⟨trivial,by have A:=H h;(try simp only[gtB,d0c]at A ⊢);omega⟩⟩;have G:I.rd=c.rd:=u1;have O:c.rd=false->I.o.length=c.o.length+_:=λh=>o1 h
 try simp only[gtB,d0c]at O
 obtain⟨J,T,Y,u2,o2,h2⟩:=b4e.go (λ_=>rfl) rfl (c:=I) (x:=x.low) ⟨λh=>congrArg (λx=>x.low) (u.1 (by rwa[G]at h)),λh=>⟨trivial,by rw[G]at h;have A:=H h;have a1:=O h;(try simp only[gtB,d0c]at A ⊢);omega⟩⟩;have F:J.rd=c.rd:=u2.trans G;have Z:c.rd=false->J.o.length=I.o.length+_:=λh=>o2 (G.trans h)
 try simp only[gtB,d0c]at Z
 obtain⟨U,V,q3,u3,o3,h3⟩:=b4e.go (λ_=>rfl) rfl (c:=J) (x:=x.high) ⟨λh=>congrArg (λx=>x.high) (u.1 (by rwa[F]at h)),λh=>⟨trivial,by rw[F]at h;have A:=H h;have a1:=O h;have a2:=Z h;(try simp only[gtB,d0c]at A ⊢);omega⟩⟩;have s3:U.rd=c.rd:=u3.trans F;have t3:c.rd=false->U.o.length=J.o.length+_:=λh=>o3 (F.trans h)
 try simp only[gtB,d0c]at t3
 have hT:tr a2J gtB c x=(U,⟨D,T,V⟩):=by
  obtain⟨rd,i,b,o,fr⟩:=c;cases rd
  ·obtain⟨rfl,rfl⟩:=z8 q1;obtain⟨rfl,rfl⟩:=z8 Y;obtain⟨rfl,rfl⟩:=z8 q3;simp only[tr,cond_false,gtB,d0o]
  ·obtain⟨z1,M,rfl⟩:=D6 q1;have M:Y6 ⟨i,b⟩=(D,z1):=M;obtain⟨z2,N,rfl⟩:=D6 Y;have N:a1D z1=(T,z2):=N;obtain⟨z3,R,rfl⟩:=D6 q3;have R:a1D z2=(V,z3):=R;simp only[tr,cond_true,a2J,p9,H9,M,N,R]
 rw[hT];refine l5.of (eff:=J6) Tryz.func91 (by cbv) (by exact d0n rfl) λw own av ν K=>?_;have B:ν.length<=4:=by rw[K];exact d0m _
 simp only[j4,TT,OA,MM,VV,FF];simp only[O8,Gt.enc,sb];(repeat first|refine uA ?_|(apply uK;· first|omega|(intros;simp_all<;>omega))|simp(disch:=omega) only[go_sem,Nat.reduceAdd,tX,d0l,d0p,List.cons_append,List.nil_append,Vt.enc,sb]|refine j5.t (h1 rfl [] [] rfl rfl rfl rfl rfl rfl rfl rfl rfl) ?_|refine j5.t (h2 rfl [] ([sb D]) rfl rfl rfl rfl rfl rfl rfl rfl rfl) ?_|refine j5.t (h3 rfl [] ([sb D]++Vt.enc T) rfl rfl rfl rfl rfl rfl rfl rfl rfl) ?_);(exact uRe rfl (Imp.refl rfl) (by repeat first|refine uA ?_|refine⟨rfl,?_⟩|rfl|simp[slot]) (d0f B (by simp)))
def b9f:CX 82 [.bnd 83 (.bp 0 0)] (λl:List Am=>[.sl 12 (l.map Am.enc)]) (Pw [] (j6 amB) (LsD AmD)) (tr (q8 a8g) (j6 amB)):=b4i (e:=73) (bytes:=168) (zero:=[.string ⟨#[]⟩,.bool false,.string ⟨#[]⟩,.string ⟨#[]⟩,.bool false,.string ⟨#[]⟩,.string ⟨#[]⟩,.bool false,.bool false,.string ⟨#[]⟩,.string ⟨#[]⟩,.slice none 0 0]) Tryz.func82 (by kernel_rfl) (⟨λ_=>rfl,by decide,λ_=>rfl,λ_=>rfl,rfl,rfl,λ_ _=>(by repeat' first|exact j3.nil|exact Imp.D8|exact Imp.refl rfl|refine j3.cons ?_ ?_),by decide,by decide⟩) (by kernel_rfl) c8W
def b7a:CL 84 85 (λl:List Pt=>[.sl 12 (l.map Pt.enc)]) (Pw [] (j6 ptB) (LsD PtD)) (tr (q8 a3S) (j6 ptB)):=a8B (e:=81) (bytes:=168) (zero:=[.string ⟨#[]⟩,.slice none 0 0,.bool false,.string ⟨#[]⟩,.string ⟨#[]⟩,.bool false,.string ⟨#[]⟩,.string ⟨#[]⟩,.bool false,.bool false,.string ⟨#[]⟩,.string ⟨#[]⟩]) Tryz.func84 (by kernel_rfl) (⟨λ_=>rfl,by decide,λ_=>rfl,λ_=>rfl,rfl,rfl,λ_ _=>(by repeat' first|exact j3.nil|exact Imp.D8|exact Imp.refl rfl|refine j3.cons ?_ ?_),by decide,by decide⟩) (by kernel_rfl) c7T
def b6K:CL 88 89 (λl:List Sl=>[.sl 14 (l.map Sl.enc)]) (Pw [] (j6 slB) (LsD Y7)) (tr (q8 a3o) (j6 slB)):=a8B (e:=85) (bytes:=184) (zero:=[.string ⟨#[]⟩,.bool false,.string ⟨#[]⟩,.string ⟨#[]⟩,.bool false,.string ⟨#[]⟩,.string ⟨#[]⟩,.bool false,.bool false,.string ⟨#[]⟩,.string ⟨#[]⟩,.bool false,.string ⟨#[]⟩,.string ⟨#[]⟩]) Tryz.func88 (by kernel_rfl) (⟨λ_=>rfl,by decide,λ_=>rfl,λ_=>rfl,rfl,rfl,λ_ _=>(by repeat' first|exact j3.nil|exact Imp.D8|exact Imp.refl rfl|refine j3.cons ?_ ?_),by decide,by decide⟩) (by kernel_rfl) c8I
def b6U:CL 90 91 (λl:List Gt=>[.sl 13 (l.map Gt.enc)]) (Pw [] (j6 gtB) (LsD Y7)) (tr (q8 a2J) (j6 gtB)):=a8B (e:=91) (bytes:=176) (zero:=[.string ⟨#[]⟩,.bool false,.string ⟨#[]⟩,.string ⟨#[]⟩,.bool false,.string ⟨#[]⟩,.string ⟨#[]⟩,.bool false,.string ⟨#[]⟩,.string ⟨#[]⟩,.bool false,.string ⟨#[]⟩,.string ⟨#[]⟩]) Tryz.func90 (by kernel_rfl) (⟨λ_=>rfl,by decide,λ_=>rfl,λ_=>rfl,rfl,rfl,λ_ _=>(by repeat' first|exact j3.nil|exact Imp.D8|exact Imp.refl rfl|refine j3.cons ?_ ?_),by decide,by decide⟩) (by kernel_rfl) c8l
def c4W:CX 47 [] Wk.enc (Pw wk0 wkB WkD) (tr a4Y wkB):=by
 intro E hP c x t pre R B D u;obtain⟨P,ef,N0,w0,ae,af,ah,ag⟩:=E;simp only at hP;subst hP;have ac:=λpk=>F4 pk B;have aa:=λpk=>F4 pk D;haveI:Clz pre:=⟨B⟩
 haveI:Clz R:=⟨D⟩
 have F:c.rd=false->c.o.length+(wkB x).length<=16777216:=λh=>(u.2 h).2;simp only[wkB,d0c]at F;have M:c.rd=false->WkD x:=λh=>(u.2 h).1;obtain⟨c1,G,q1,u1,o1,h1⟩:=b9f.go (λ_=>rfl) rfl (c:=c) (x:=x.arms) ⟨λh=>congrArg (λx=>x.arms) (u.1 h),λh=>⟨by exact(M h).1,by have A:=F h;(try simp only[wkB,d0c]at A ⊢);omega⟩⟩;have V:c1.rd=c.rd:=u1;have H:c.rd=false->c1.o.length=c.o.length+_:=λh=>o1 h
 try simp only[wkB,d0c]at H
 obtain⟨c2,I,q2,u2,o2,h2⟩:=b0s.go (λ_=>rfl) rfl (c:=c1) (x:=x.walls) ⟨λh=>congrArg (λx=>x.walls) (u.1 (by rwa[V]at h)),λh=>⟨by rw[V]at h;exact(M h).2.1,by rw[V]at h;have A:=F h;have a1:=H h;(try simp only[wkB,d0c]at A ⊢);omega⟩⟩;have U:c2.rd=c.rd:=u2.trans V;have O:c.rd=false->c2.o.length=c1.o.length+_:=λh=>o2 (V.trans h)
 try simp only[wkB,d0c]at O
 obtain⟨c3,K,q3,u3,o3,h3⟩:=b7a.go (c:=c2) (x:=x.parts) ⟨λh=>congrArg (λx=>x.parts) (u.1 (by rwa[U]at h)),λh=>⟨by rw[U]at h;exact(M h).2.2.1,by rw[U]at h;have A:=F h;have a1:=H h;have a2:=O h;(try simp only[wkB,d0c]at A ⊢);omega⟩⟩;have J:c3.rd=c.rd:=u3.trans U;have Y:c.rd=false->c3.o.length=c2.o.length+_:=λh=>o3 (U.trans h)
 try simp only[wkB,d0c]at Y
 obtain⟨Z,y4,q4,u4,o4,h4⟩:=b6K.go (c:=c3) (x:=x.slots) ⟨λh=>congrArg (λx=>x.slots) (u.1 (by rwa[J]at h)),λh=>⟨by rw[J]at h;exact(M h).2.2.2.1,by rw[J]at h;have A:=F h;have a1:=H h;have a2:=O h;have a3:=Y h;(try simp only[wkB,d0c]at A ⊢);omega⟩⟩;have T:Z.rd=c.rd:=u4.trans J;have t4:c.rd=false->Z.o.length=c3.o.length+_:=λh=>o4 (J.trans h)
 try simp only[wkB,d0c]at t4
 obtain⟨W,y5,q5,u5,o5,h5⟩:=b6U.go (c:=Z) (x:=x.gates) ⟨λh=>congrArg (λx=>x.gates) (u.1 (by rwa[T]at h)),λh=>⟨by rw[T]at h;exact(M h).2.2.2.2,by rw[T]at h;have A:=F h;have a1:=H h;have a2:=O h;have a3:=Y h;have a4:=t4 h;(try simp only[wkB,d0c]at A ⊢);omega⟩⟩;have X:W.rd=c.rd:=u5.trans T;have t5:c.rd=false->W.o.length=Z.o.length+_:=λh=>o5 (T.trans h)
 try simp only[wkB,d0c]at t5
 obtain⟨c6,y6,q6,u6,o6,h6⟩:=a3O.go (λ_=>rfl) rfl (c:=W) (x:=x.walk) ⟨λh=>congrArg (λx=>x.walk) (u.1 (by rwa[X]at h)),λh=>⟨trivial,by rw[X]at h;have A:=F h;have a1:=H h;have a2:=O h;have a3:=Y h;have a4:=t4 h;have a5:=t5 h;(try simp only[wkB,d0c]at A ⊢);omega⟩⟩;have s6:c6.rd=c.rd:=u6.trans X;have t6:c.rd=false->c6.o.length=W.o.length+_:=λh=>o6 (X.trans h)
 try simp only[wkB,d0c]at t6
 have hT:tr a4Y wkB c x=(c6,⟨G,I,K,y4,y5,y6⟩):=by
  obtain⟨rd,i,b,o,fr⟩:=c;cases rd
  ·obtain⟨rfl,rfl⟩:=z8 q1;obtain⟨rfl,rfl⟩:=z8 q2;obtain⟨rfl,rfl⟩:=z8 q3;obtain⟨rfl,rfl⟩:=z8 q4;obtain⟨rfl,rfl⟩:=z8 q5;obtain⟨rfl,rfl⟩:=z8 q6;simp only[tr,cond_false,wkB,d0o]
  ·obtain⟨z1,e1,rfl⟩:=D6 q1;have e1:(q8 a8g) ⟨i,b⟩=(G,z1):=e1;obtain⟨z2,e2,rfl⟩:=D6 q2;have e2:(q8 a0B) z1=(I,z2):=e2;obtain⟨z3,e3,rfl⟩:=D6 q3;have e3:(q8 a3S) z2=(K,z3):=e3;obtain⟨z4,e4,rfl⟩:=D6 q4;have e4:(q8 a3o) z3=(y4,z4):=e4;obtain⟨z5,e5,rfl⟩:=D6 q5;have e5:(q8 a2J) z4=(y5,z5):=e5;obtain⟨z6,e6,rfl⟩:=D6 q6;have e6:P6 z5=(y6,z6):=e6;simp only[tr,cond_true,a4Y,p9,H9,e1,e2,e3,e4,e5,e6]
 rw[hT];refine l5.of (eff:=J6) Tryz.func47 (by cbv) (by exact d0n rfl) λw own av ν ab=>?_;have N:ν.length<=3:=by rw[ab];exact d0m _
 simp only[j4,TT,OA,MM,VV,FF];simp only[RR,Wk.enc,ams,wls,pts,sls,gts,sb,List.cons_append,List.nil_append]
 (repeat first|refine uA ?_|(apply uK;· first|omega|(intros;simp_all<;>omega))|simp(disch:=omega) only[go_sem,Nat.reduceAdd,tX,d0l,d0p,d0u,List.cons_append,List.nil_append,ac,aa,O8,ams,wls,pts,sls,gts,rcs,sb]|refine j5.t (h1 rfl pre [] rfl rfl B rfl D rfl rfl rfl rfl) ?_|refine j5.t (h2 rfl pre ([ams G]) rfl rfl B rfl D rfl rfl rfl rfl) ?_|refine j5.t (h3 rfl pre ([ams G]++[wls I]) rfl rfl B rfl D rfl) ?_|refine j5.t (h4 rfl pre ([ams G]++[wls I]++[pts K]) rfl rfl B rfl D rfl) ?_|refine j5.t (h5 rfl pre ([ams G]++[wls I]++[pts K]++[sls y4]) rfl rfl B rfl D rfl) ?_|refine j5.t (h6 rfl pre ([ams G]++[wls I]++[pts K]++[sls y4]++[gts y5]) rfl rfl B rfl D rfl rfl rfl rfl) ?_);(exact uRe rfl (Imp.refl rfl) (by repeat first|refine uA ?_|refine⟨rfl,?_⟩|rfl|simp[slot]) (d0f N (by simp)))
def ky0:Ky:=⟨0,[]⟩
def ft0:Ft:=⟨0,0,0⟩
def as0:Ast:=⟨[],[],false,0⟩
def b2D:Stt:=⟨0,[],[],[],[]⟩
def dy0:Dy:=⟨wk0,b2D,[],[],[],0⟩
def KyD(x:Ky):Prop:=LsD Y7 x.q
def AsD(x:Ast):Prop:=LsD Y7 x.q/\LsD Y7 x.v/\-1<=x.holds/\x.holds<268435456
def StD(s:Stt):Prop:=LsD AsD s.arms/\LsD Y7 s.parts/\LsD Y7 s.people/\LsD Y7 s.gates
def DyD(d:Dy):Prop:=WkD d.works/\StD d.start/\LsD (LsD KyD) d.tracks/\LsD Y7 d.faults/\LsD (LsD Y7) d.walks
def c9j:CY 52 Ky.enc (Pw ky0 kyB KyD) (tr a3t kyB):=by
 intro E N c x t u;obtain⟨P,ef,N0,w0,O,aa,Y,X⟩:=E;simp only at N;subst N;have K:c.rd=false->c.o.length+(kyB x).length<=16777216:=λh=>(u.2 h).2;simp only[kyB,d0c]at K;have hD:c.rd=false->KyD x:=λh=>(u.2 h).1;obtain⟨D,G,T,u1,o1,h1⟩:=a7G.go (λ_=>rfl) rfl (c:=c) (x:=x.tick) ⟨λh=>congrArg (λx=>x.tick) (u.1 h),λh=>⟨trivial,by have H:=K h;(try simp only[kyB,d0c]at H ⊢);omega⟩⟩;have B:D.rd=c.rd:=u1;have U:c.rd=false->D.o.length=c.o.length+_:=λh=>o1 h
 try simp only[kyB,d0c]at U
 obtain⟨M,V,R,u2,o2,h2⟩:=a8p.go (λ_=>rfl) rfl (c:=D) (x:=x.q) ⟨λh=>congrArg (λx=>x.q) (u.1 (by rwa[B]at h)),λh=>⟨by rw[B]at h;exact hD h,by rw[B]at h;have H:=K h;have a1:=U h;(try simp only[kyB,d0c]at H ⊢);omega⟩⟩;have s2:M.rd=c.rd:=u2.trans B;have t2:c.rd=false->M.o.length=D.o.length+_:=λh=>o2 (B.trans h)
 try simp only[kyB,d0c]at t2
 have hT:tr a3t kyB c x=(M,⟨G,V⟩):=by
  obtain⟨Z,i,b,o,fr⟩:=c;cases Z
  ·obtain⟨rfl,rfl⟩:=z8 T;obtain⟨rfl,rfl⟩:=z8 R;simp only[tr,cond_false,kyB,d0o]
  ·obtain⟨W,I,rfl⟩:=D6 T;have I:(l9 0) ⟨i,b⟩=(G,W):=I;obtain⟨z2,J,rfl⟩:=D6 R;have J:(q8 P6) W=(V,z2):=J;simp only[tr,cond_true,a3t,p9,H9,I,J]
 rw[hT];refine l5.of (eff:=J6) Tryz.func52 (by cbv) (by exact d0n rfl) λw own av ν F=>?_;have A:ν.length<=4:=by rw[F];exact d0m _
 simp only[j4,TT,OA,MM,VV,FF];simp only[O8,Ky.enc,rts,ints];(repeat first|refine uA ?_|(apply uK;· first|omega|(intros;simp_all<;>omega))|simp(disch:=omega) only[go_sem,Nat.reduceAdd,tX,d0l,d0p,List.cons_append,List.nil_append,ints]|refine j5.t (h1 rfl [] [] rfl rfl rfl rfl rfl rfl rfl rfl rfl) ?_|refine j5.t (h2 rfl [] ([ints G]) rfl rfl rfl rfl rfl rfl rfl rfl rfl) ?_);(exact uRe rfl (Imp.refl rfl) (by repeat first|refine uA ?_|refine⟨rfl,?_⟩|rfl|simp[slot]) (d0f A (by simp)))
def c5G:CY 57 Ft.enc (Pw ft0 ftB Y7) (tr a2j ftB):=by
 intro E W c x t u;obtain⟨P,ef,N0,w0,X,ac,ab,aa⟩:=E;simp only at W;subst W;have H:c.rd=false->c.o.length+(ftB x).length<=16777216:=λh=>(u.2 h).2;simp only[ftB,d0c]at H;obtain⟨I,D,q1,u1,o1,h1⟩:=a7G.go (λ_=>rfl) rfl (c:=c) (x:=x.tick) ⟨λh=>congrArg (λx=>x.tick) (u.1 h),λh=>⟨trivial,by have A:=H h;(try simp only[ftB,d0c]at A ⊢);omega⟩⟩;have G:I.rd=c.rd:=u1;have O:c.rd=false->I.o.length=c.o.length+_:=λh=>o1 h
 try simp only[ftB,d0c]at O
 obtain⟨J,T,Y,u2,o2,h2⟩:=a7G.go (λ_=>rfl) rfl (c:=I) (x:=x.kind) ⟨λh=>congrArg (λx=>x.kind) (u.1 (by rwa[G]at h)),λh=>⟨trivial,by rw[G]at h;have A:=H h;have a1:=O h;(try simp only[ftB,d0c]at A ⊢);omega⟩⟩;have F:J.rd=c.rd:=u2.trans G;have Z:c.rd=false->J.o.length=I.o.length+_:=λh=>o2 (G.trans h)
 try simp only[ftB,d0c]at Z
 obtain⟨U,V,q3,u3,o3,h3⟩:=a7G.go (λ_=>rfl) rfl (c:=J) (x:=x.n) ⟨λh=>congrArg (λx=>x.n) (u.1 (by rwa[F]at h)),λh=>⟨trivial,by rw[F]at h;have A:=H h;have a1:=O h;have a2:=Z h;(try simp only[ftB,d0c]at A ⊢);omega⟩⟩;have s3:U.rd=c.rd:=u3.trans F;have t3:c.rd=false->U.o.length=J.o.length+_:=λh=>o3 (F.trans h)
 try simp only[ftB,d0c]at t3
 have hT:tr a2j ftB c x=(U,⟨D,T,V⟩):=by
  obtain⟨rd,i,b,o,fr⟩:=c;cases rd
  ·obtain⟨rfl,rfl⟩:=z8 q1;obtain⟨rfl,rfl⟩:=z8 Y;obtain⟨rfl,rfl⟩:=z8 q3;simp only[tr,cond_false,ftB,d0o]
  ·obtain⟨z1,M,rfl⟩:=D6 q1;have M:(l9 0) ⟨i,b⟩=(D,z1):=M;obtain⟨z2,N,rfl⟩:=D6 Y;have N:(l9 0) z1=(T,z2):=N;obtain⟨z3,R,rfl⟩:=D6 q3;have R:(l9 0) z2=(V,z3):=R;simp only[tr,cond_true,a2j,p9,H9,M,N,R]
 rw[hT];refine l5.of (eff:=J6) Tryz.func57 (by cbv) (by exact d0n rfl) λw own av ν K=>?_;have B:ν.length<=4:=by rw[K];exact d0m _
 simp only[j4,TT,OA,MM,VV,FF];simp only[O8,Ft.enc];(repeat first|refine uA ?_|(apply uK;· first|omega|(intros;simp_all<;>omega))|simp(disch:=omega) only[go_sem,Nat.reduceAdd,tX,d0l,d0p,List.cons_append,List.nil_append,ints]|refine j5.t (h1 rfl [] [] rfl rfl rfl rfl rfl rfl rfl rfl rfl) ?_|refine j5.t (h2 rfl [] ([ints D]) rfl rfl rfl rfl rfl rfl rfl rfl rfl) ?_|refine j5.t (h3 rfl [] ([ints D]++[ints T]) rfl rfl rfl rfl rfl rfl rfl rfl rfl) ?_);(exact uRe rfl (Imp.refl rfl) (by repeat first|refine uA ?_|refine⟨rfl,?_⟩|rfl|simp[slot]) (d0f B (by simp)))
def b9q:CL 51 52 (λl:List Ky=>[.sl 2 (l.map Ky.enc)]) (Pw [] (j6 kyB) (LsD KyD)) (tr (q8 a3t) (j6 kyB)):=a8B (e:=101) (bytes:=32) (zero:=[.int .i64 0,.slice none 0 0]) Tryz.func51 (by kernel_rfl) (⟨λ_=>rfl,by decide,λ_=>rfl,λ_=>rfl,rfl,rfl,λ_ _=>(by repeat' first|exact j3.nil|exact Imp.D8|exact Imp.refl rfl|refine j3.cons ?_ ?_),by decide,by decide⟩) (by kernel_rfl) c9j
def b4t:CL 56 57 (λl:List Ft=>[.sl 3 (l.map Ft.enc)]) (Pw [] (j6 ftB) (LsD Y7)) (tr (q8 a2j) (j6 ftB)):=a8B (e:=108) (bytes:=24) (zero:=[.int .i64 0,.int .i64 0,.int .i64 0]) Tryz.func56 (by kernel_rfl) (⟨λ_=>rfl,by decide,λ_=>rfl,λ_=>rfl,rfl,rfl,λ_ _=>(by repeat' first|exact j3.nil|exact Imp.D8|exact Imp.refl rfl|refine j3.cons ?_ ?_),by decide,by decide⟩) (by kernel_rfl) c5G
def CL.on{α:Type}{f g:Nat}{enc:α->List C}{B:Cd->α->Prop}{T:Cd->α->Cd×α}(h:CL f g enc B T){E:Ctx}(M:E.P=Tryz.prog){rs rs2:List Res}{m p:Nat}{cs cs2:List C}{c:Cd}{x:α}{t:TypeId}
  (H:∀x,C.clL (enc x)=true) (u:B c x) (G:cs=enc x) (A:cs2=enc (T c x).2)
  (I:rs[0]?=some c.box) (N:rs[m]?=some (.box t cs)) (K:rs[2]?=some c.row) (J:rs[p]?=some O8) (D:(m==0||m==2||m==p||p==0||p==2)=false)
  (F:rs2=(((rs.map (Res.y9 [2])).set 0 (T c x).1.box).set m (.box t cs2)).set 2 (T c x).1.row):l5 E rs f [.bp 0 0,.bp m 0,.clo g [.bp p 0]] (a0K []) rs2 [2]:=by
 subst G A;have:=h E M c x t [] [] rfl rfl u;rw[List.append_nil,List.append_nil,List.nil_append,List.nil_append]at this;exact b3F this (H _) (H _) I N K J D rfl F
def c6m:CY 50 tkC (Pw [] (j6 kyB) (LsD KyD)) (tr (q8 a3t) (j6 kyB)):=by
 intro E A c x t u;obtain⟨P,J,M,N,F,I,H,G⟩:=E;simp only at A;subst A;have D:=λ(E:Ctx) (A:E.P=Tryz.prog)=>b9q.on A (rs:=[c.box,.box t (tkC x),c.row,O8,.box 96 (tkC x)]) (m:=4) (p:=3) (cs:=tkC x) (cs2:=tkC (tr (q8 a3t) (j6 kyB) c x).2) (t:=96) (λ_=>rfl) u rfl rfl rfl rfl rfl rfl rfl rfl
 try dsimp only at D
 generalize tr (q8 a3t) (j6 kyB) c x=q at*;obtain⟨O,y⟩:=q;refine l5.of (eff:=J6) Tryz.func50 (by cbv) (by exact d0n rfl) λw own K ν B=>?_;have h:ν.length<=4:=by rw[B];exact d0m _
 simp only[j4,TT,OA,OB,MM,VV];simp only[O8,tkC]at D ⊢;(repeat first|refine uA ?_|(apply uK;· first|omega|(intros;simp_all<;>omega))|simp(disch:=omega) only[go_sem,Nat.reduceAdd,d0l,d0p,List.cons_append,List.nil_append,List.append_nil]|refine j5.t (D _ rfl) ?_);(exact uRe rfl (Imp.refl rfl) (by repeat first|refine uA ?_|refine⟨rfl,?_⟩|rfl|simp[slot]) (d0f h (by simp)))
def b5Z:CL 49 50 (λl:List (List Ky)=>[.sl 1 (l.map tkC)]) (Pw [] (j6 (j6 kyB)) (LsD (LsD KyD))) (tr (q8 (q8 a3t)) (j6 (j6 kyB))):=c7x (e:=97) Tryz.func49 (by kernel_rfl) (rfl) (by kernel_rfl) c6m
def c7V:CY 94 Ast.enc (Pw as0 a2x AsD) (tr a4V a2x):=by
 intro E M c x t u;obtain⟨P,ef,N0,w0,aa,ab,ae,ac⟩:=E;simp only at M;subst M;have D:c.rd=false->c.o.length+(a2x x).length<=16777216:=λh=>(u.2 h).2;simp only[a2x,d0c,b0W]at D;have W:c.rd=false->AsD x:=λh=>(u.2 h).1;have hb:-1<=x.holds/\x.holds<268435456:=by
  cases F:c.rd with
  | false=>exact(W F).2.2
  | true=>rw[u.1 F];decide
 obtain⟨R,B,q1,u1,o1,h1⟩:=a8p.go (λ_=>rfl) rfl (c:=c) (x:=x.q) ⟨λh=>congrArg Ast.q (u.1 h),λh=>⟨(W h).1,by have V:=D h;omega⟩⟩;have H:R.rd=c.rd:=u1;have X:c.rd=false->R.o.length=c.o.length+_:=λh=>o1 h;obtain⟨T,J,q2,u2,o2,h2⟩:=a8p.go (λ_=>rfl) rfl (c:=R) (x:=x.v) ⟨λh=>congrArg Ast.v (u.1 (by rwa[H]at h)),λh=>⟨(by rw[H]at h;exact(W h).2.1),by rw[H]at h;have V:=D h;have a1:=X h;omega⟩⟩;have O:T.rd=c.rd:=u2.trans H;have t2:c.rd=false->T.o.length=R.o.length+_:=λh=>o2 (H.trans h)
 obtain⟨A,N,q3,u3,o3,h3⟩:=b2a.go (λ_=>rfl) rfl (c:=T) (x:=x.power) ⟨λh=>congrArg Ast.power (u.1 (by rwa[O]at h)),λh=>⟨trivial,by rw[O]at h;have V:=D h;have a1:=X h;have a2:=t2 h;omega⟩⟩;have s3:A.rd=c.rd:=u3.trans O;have t3:c.rd=false->A.o.length=T.o.length+_:=λh=>o3 (O.trans h);have K:=λ(E:Ctx) (M:E.P=Tryz.prog)=>a1K.on M (rs:=[A.box,.box t [rts B,rts J,.v (.bool N),ints (x.holds+1)],A.row,O8]) (m:=1) (off:=3) [rts B,rts J,.v (.bool N)] [] rfl rfl (λ_=>rfl) (c:=A) (x:=x.holds+1) (λh=>by rw[s3]at h;have V:=D h;have a1:=X h;have a2:=t2 h;have a3:=t3 h;omega) rfl rfl rfl rfl rfl rfl rfl rfl rfl
 try dsimp only at K
 obtain⟨Y,n,I⟩:∃Y n,tr (l9 (x.holds+1)) G8 A (x.holds+1)=(Y,n):=⟨_,_,rfl⟩
 rw[I]at K
 try dsimp only at K
 have hn:0<=n/\n<=268435456:=by
  obtain⟨rd,i,b,o,fr⟩:=A;cases rd
  ·obtain⟨_,rfl⟩:=z8 I;omega
  ·obtain⟨z,e,_⟩:=D6 I;have hx:x.holds=0:=by rw[u.1 s3.symm];rfl
   have:=Z9 (old:=x.holds+1) ⟨by omega,by omega⟩ i.length ⟨i,b⟩ (d0m _);rw[e]at this;exact⟨this.1,Int.le_of_lt this.2⟩
 have hT:tr a4V a2x c x=(Y,⟨B,J,N,n-1⟩):=by
  obtain⟨rd,i,b,o,fr⟩:=c;cases rd
  ·obtain⟨rfl,rfl⟩:=z8 q1;obtain⟨rfl,rfl⟩:=z8 q2;obtain⟨rfl,rfl⟩:=z8 q3;obtain⟨rfl,rfl⟩:=z8 I;simp only[tr,cond_false,a2x,b0W,d0o,Int.add_sub_cancel]
  ·have hx:=u.1 rfl;subst hx;obtain⟨z1,e1,rfl⟩:=D6 q1;have e1:(q8 P6) ⟨i,b⟩=(B,z1):=e1;obtain⟨z2,e2,rfl⟩:=D6 q2;have e2:(q8 P6) z1=(J,z2):=e2;obtain⟨z3,Z,rfl⟩:=D6 q3;have Z:a0C z2=(N,z3):=Z;obtain⟨z4,e4,rfl⟩:=D6 I;have e4:l9 1 z3=(n,z4):=e4;simp only[tr,cond_true,a4V,a5p,p9,H9,e1,e2,Z,e4]
 rw[hT];refine l5.of (eff:=J6) Tryz.func94 (by cbv) (by exact d0n rfl) λw own av ν U=>?_;have G:ν.length<=4:=by rw[U];exact d0m _
 simp only[j4,TT,II,OA,OB,MM,VV,FF];simp only[O8,Ast.enc,rts,ints,List.cons_append,List.nil_append]at K ⊢;(repeat first|refine uA ?_|(apply uK;· first|omega|(intros;simp_all<;>omega))|simp(disch:=omega) only[go_sem,Nat.reduceAdd,ww,tX,d0l,d0p,List.cons_append,List.nil_append,rts]|refine j5.t (h1 rfl [] [] rfl rfl rfl rfl rfl rfl rfl rfl rfl) ?_|refine j5.t (h2 rfl [] [rts B] rfl rfl rfl rfl rfl rfl rfl rfl rfl) ?_|refine j5.t (h3 rfl [] ([rts B]++[rts J]) rfl rfl rfl rfl rfl rfl rfl rfl rfl) ?_|refine j5.t (K _ rfl) ?_);(exact uRe rfl (Imp.refl rfl) (by repeat first|refine uA ?_|refine⟨rfl,?_⟩|rfl|simp[slot]) (d0f G (by simp)))
def b6Q:CL 93 94 (λl:List Ast=>[.sl 4 (l.map Ast.enc)]) (Pw [] (j6 a2x) (LsD AsD)) (tr (q8 a4V) (j6 a2x)):=a8B (e:=115) (bytes:=64) (zero:=[.slice none 0 0,.slice none 0 0,.bool false,.int .i64 0]) Tryz.func93 (by kernel_rfl) (⟨λ_=>rfl,by decide,λ_=>rfl,λ_=>rfl,rfl,rfl,λ_ _=>(by repeat' first|exact j3.nil|exact Imp.D8|exact Imp.refl rfl|refine j3.cons ?_ ?_),by decide,by decide⟩) (by kernel_rfl) c7V
def c5n:CX 48 [] Stt.enc (Pw b2D a0M StD) (tr a3V a0M):=by
 intro E hP c x t pre K B D u;obtain⟨P,ef,N0,w0,ae,af,ah,ag⟩:=E;simp only at hP;subst hP;have ac:=λpk=>F4 pk B;have aa:=λpk=>F4 pk D;haveI:Clz pre:=⟨B⟩
 haveI:Clz K:=⟨D⟩
 have F:c.rd=false->c.o.length+(a0M x).length<=16777216:=λh=>(u.2 h).2;simp only[a0M,d0c]at F;have U:c.rd=false->StD x:=λh=>(u.2 h).1;obtain⟨Y,G,q1,u1,o1,h1⟩:=a7G.go (λ_=>rfl) rfl (c:=c) (x:=x.tick) ⟨λh=>congrArg (λx=>x.tick) (u.1 h),λh=>⟨trivial,by have A:=F h;(try simp only[a0M,d0c]at A ⊢);omega⟩⟩;have O:Y.rd=c.rd:=u1;have I:c.rd=false->Y.o.length=c.o.length+_:=λh=>o1 h
 try simp only[a0M,d0c]at I
 obtain⟨Z,R,q2,u2,o2,h2⟩:=b6Q.go (c:=Y) (x:=x.arms) ⟨λh=>congrArg (λx=>x.arms) (u.1 (by rwa[O]at h)),λh=>⟨by rw[O]at h;exact(U h).1,by rw[O]at h;have A:=F h;have a1:=I h;(try simp only[a0M,d0c]at A ⊢);omega⟩⟩;have N:Z.rd=c.rd:=u2.trans O;have W:c.rd=false->Z.o.length=Y.o.length+_:=λh=>o2 (O.trans h)
 try simp only[a0M,d0c]at W
 obtain⟨X,T,q3,u3,o3,h3⟩:=b5u.go (λ_=>rfl) rfl (c:=Z) (x:=x.parts) ⟨λh=>congrArg (λx=>x.parts) (u.1 (by rwa[N]at h)),λh=>⟨by rw[N]at h;exact(U h).2.1,by rw[N]at h;have A:=F h;have a1:=I h;have a2:=W h;(try simp only[a0M,d0c]at A ⊢);omega⟩⟩;have H:X.rd=c.rd:=u3.trans N;have t3:c.rd=false->X.o.length=Z.o.length+_:=λh=>o3 (N.trans h)
 try simp only[a0M,d0c]at t3
 obtain⟨V,y4,q4,u4,o4,h4⟩:=b1a.go (λ_=>rfl) rfl (c:=X) (x:=x.people) ⟨λh=>congrArg (λx=>x.people) (u.1 (by rwa[H]at h)),λh=>⟨by rw[H]at h;exact(U h).2.2.1,by rw[H]at h;have A:=F h;have a1:=I h;have a2:=W h;have a3:=t3 h;(try simp only[a0M,d0c]at A ⊢);omega⟩⟩;have M:V.rd=c.rd:=u4.trans H;have t4:c.rd=false->V.o.length=X.o.length+_:=λh=>o4 (H.trans h)
 try simp only[a0M,d0c]at t4
 obtain⟨c5,y5,q5,u5,o5,h5⟩:=b7c.go (λ_=>rfl) rfl (c:=V) (x:=x.gates) ⟨λh=>congrArg (λx=>x.gates) (u.1 (by rwa[M]at h)),λh=>⟨by rw[M]at h;exact(U h).2.2.2,by rw[M]at h;have A:=F h;have a1:=I h;have a2:=W h;have a3:=t3 h;have a4:=t4 h;(try simp only[a0M,d0c]at A ⊢);omega⟩⟩;have s5:c5.rd=c.rd:=u5.trans M;have t5:c.rd=false->c5.o.length=V.o.length+_:=λh=>o5 (M.trans h)
 try simp only[a0M,d0c]at t5
 have hT:tr a3V a0M c x=(c5,⟨G,R,T,y4,y5⟩):=by
  obtain⟨rd,i,b,o,fr⟩:=c;cases rd
  ·obtain⟨rfl,rfl⟩:=z8 q1;obtain⟨rfl,rfl⟩:=z8 q2;obtain⟨rfl,rfl⟩:=z8 q3;obtain⟨rfl,rfl⟩:=z8 q4;obtain⟨rfl,rfl⟩:=z8 q5;simp only[tr,cond_false,a0M,d0o]
  ·obtain⟨z1,e1,rfl⟩:=D6 q1;have e1:(l9 0) ⟨i,b⟩=(G,z1):=e1;obtain⟨z2,e2,rfl⟩:=D6 q2;have e2:(q8 a4V) z1=(R,z2):=e2;obtain⟨z3,e3,rfl⟩:=D6 q3;have e3:(q8 a0h) z2=(T,z3):=e3;obtain⟨z4,e4,rfl⟩:=D6 q4;have e4:(q8 a1D) z3=(y4,z4):=e4;obtain⟨z5,e5,rfl⟩:=D6 q5;have e5:(q8 a0C) z4=(y5,z5):=e5;simp only[tr,cond_true,a3V,p9,H9,e1,e2,e3,e4,e5]
 rw[hT];refine l5.of (eff:=J6) Tryz.func48 (by cbv) (by exact d0n rfl) λw own av ν ab=>?_;have J:ν.length<=3:=by rw[ab];exact d0m _
 simp only[j4,TT,OA,MM,VV,FF];simp only[RR,Stt.enc,J9,frs,vts,bls,ints,List.cons_append,List.nil_append]
 (repeat first|refine uA ?_|(apply uK;· first|omega|(intros;simp_all<;>omega))|simp(disch:=omega) only[go_sem,Nat.reduceAdd,tX,d0l,d0p,d0u,List.cons_append,List.nil_append,ac,aa,O8,J9,frs,vts,ints]|refine j5.t (h1 rfl pre [] rfl rfl B rfl D rfl rfl rfl rfl) ?_|refine j5.t (h2 rfl pre ([ints G]) rfl rfl B rfl D rfl) ?_|refine j5.t (h3 rfl pre ([ints G]++[J9 R]) rfl rfl B rfl D rfl rfl rfl rfl) ?_|refine j5.t (h4 rfl pre ([ints G]++[J9 R]++[frs T]) rfl rfl B rfl D rfl rfl rfl rfl) ?_|refine j5.t (h5 rfl pre ([ints G]++[J9 R]++[frs T]++[vts y4]) rfl rfl B rfl D rfl rfl rfl rfl) ?_);(exact uRe rfl (Imp.refl rfl) (by repeat first|refine uA ?_|refine⟨rfl,?_⟩|rfl|simp[slot]) (d0f J (by simp)))
def c4C:CX 9 [] Dy.enc (Pw dy0 dyB DyD) (tr a9t dyB):=by
 intro E hP c x t pre R B D u;obtain⟨P,ef,N0,w0,ae,af,ah,ag⟩:=E;simp only at hP;subst hP;have ac:=λpk=>F4 pk B;have aa:=λpk=>F4 pk D;haveI:Clz pre:=⟨B⟩
 haveI:Clz R:=⟨D⟩
 have F:c.rd=false->c.o.length+(dyB x).length<=16777216:=λh=>(u.2 h).2;simp only[dyB,tlB,d0c]at F;have M:c.rd=false->DyD x:=λh=>(u.2 h).1;obtain⟨c1,G,q1,u1,o1,h1⟩:=c4W.go (λ_=>rfl) rfl (c:=c) (x:=x.works) ⟨λh=>congrArg (λx=>x.works) (u.1 h),λh=>⟨by exact(M h).1,by have A:=F h;(try simp only[dyB,tlB,d0c]at A ⊢);omega⟩⟩;have V:c1.rd=c.rd:=u1;have H:c.rd=false->c1.o.length=c.o.length+_:=λh=>o1 h
 try simp only[dyB,tlB,d0c]at H
 obtain⟨c2,I,q2,u2,o2,h2⟩:=c5n.go (λ_=>rfl) rfl (c:=c1) (x:=x.start) ⟨λh=>congrArg (λx=>x.start) (u.1 (by rwa[V]at h)),λh=>⟨by rw[V]at h;exact(M h).2.1,by rw[V]at h;have A:=F h;have a1:=H h;(try simp only[dyB,tlB,d0c]at A ⊢);omega⟩⟩;have U:c2.rd=c.rd:=u2.trans V;have O:c.rd=false->c2.o.length=c1.o.length+_:=λh=>o2 (V.trans h)
 try simp only[dyB,tlB,d0c]at O
 obtain⟨c3,K,q3,u3,o3,h3⟩:=b5Z.go (c:=c2) (x:=x.tracks) ⟨λh=>congrArg (λx=>x.tracks) (u.1 (by rwa[U]at h)),λh=>⟨by rw[U]at h;exact(M h).2.2.1,by rw[U]at h;have A:=F h;have a1:=H h;have a2:=O h;(try simp only[dyB,tlB,d0c]at A ⊢);omega⟩⟩;have J:c3.rd=c.rd:=u3.trans U;have Y:c.rd=false->c3.o.length=c2.o.length+_:=λh=>o3 (U.trans h)
 try simp only[dyB,tlB,d0c]at Y
 obtain⟨Z,y4,q4,u4,o4,h4⟩:=b4t.go (c:=c3) (x:=x.faults) ⟨λh=>congrArg (λx=>x.faults) (u.1 (by rwa[J]at h)),λh=>⟨by rw[J]at h;exact(M h).2.2.2.1,by rw[J]at h;have A:=F h;have a1:=H h;have a2:=O h;have a3:=Y h;(try simp only[dyB,tlB,d0c]at A ⊢);omega⟩⟩;have T:Z.rd=c.rd:=u4.trans J;have t4:c.rd=false->Z.o.length=c3.o.length+_:=λh=>o4 (J.trans h)
 try simp only[dyB,tlB,d0c]at t4
 obtain⟨W,y5,q5,u5,o5,h5⟩:=b0s.go (λ_=>rfl) rfl (c:=Z) (x:=x.walks) ⟨λh=>congrArg (λx=>x.walks) (u.1 (by rwa[T]at h)),λh=>⟨by rw[T]at h;exact(M h).2.2.2.2,by rw[T]at h;have A:=F h;have a1:=H h;have a2:=O h;have a3:=Y h;have a4:=t4 h;(try simp only[dyB,tlB,d0c]at A ⊢);omega⟩⟩;have X:W.rd=c.rd:=u5.trans T;have t5:c.rd=false->W.o.length=Z.o.length+_:=λh=>o5 (T.trans h)
 try simp only[dyB,tlB,d0c]at t5
 obtain⟨c6,y6,q6,u6,o6,h6⟩:=a7G.go (λ_=>rfl) rfl (c:=W) (x:=x.ticks) ⟨λh=>congrArg (λx=>x.ticks) (u.1 (by rwa[X]at h)),λh=>⟨trivial,by rw[X]at h;have A:=F h;have a1:=H h;have a2:=O h;have a3:=Y h;have a4:=t4 h;have a5:=t5 h;(try simp only[dyB,tlB,d0c]at A ⊢);omega⟩⟩;have s6:c6.rd=c.rd:=u6.trans X;have t6:c.rd=false->c6.o.length=W.o.length+_:=λh=>o6 (X.trans h)
 try simp only[dyB,tlB,d0c]at t6
 have hT:tr a9t dyB c x=(c6,⟨G,I,K,y4,y5,y6⟩):=by
  obtain⟨rd,i,b,o,fr⟩:=c;cases rd
  ·obtain⟨rfl,rfl⟩:=z8 q1;obtain⟨rfl,rfl⟩:=z8 q2;obtain⟨rfl,rfl⟩:=z8 q3;obtain⟨rfl,rfl⟩:=z8 q4;obtain⟨rfl,rfl⟩:=z8 q5;obtain⟨rfl,rfl⟩:=z8 q6;simp only[tr,cond_false,dyB,tlB,d0o]
  ·obtain⟨z1,e1,rfl⟩:=D6 q1;have e1:a4Y ⟨i,b⟩=(G,z1):=e1;obtain⟨z2,e2,rfl⟩:=D6 q2;have e2:a3V z1=(I,z2):=e2;obtain⟨z3,e3,rfl⟩:=D6 q3;have e3:(q8 (q8 a3t)) z2=(K,z3):=e3;obtain⟨z4,e4,rfl⟩:=D6 q4;have e4:(q8 a2j) z3=(y4,z4):=e4;obtain⟨z5,e5,rfl⟩:=D6 q5;have e5:(q8 a0B) z4=(y5,z5):=e5;obtain⟨z6,e6,rfl⟩:=D6 q6;have e6:(l9 0) z5=(y6,z6):=e6;simp only[tr,cond_true,a9t,p9,H9,e1,e2,e3,e4,e5,e6]
 rw[hT];refine l5.of (eff:=J6) Tryz.func9 (by cbv) (by exact d0n rfl) λw own av ν ab=>?_;have N:ν.length<=3:=by rw[ab];exact d0m _
 simp only[j4,TT,OA,MM,VV,FF];simp only[RR,Dy.enc,ams,wls,pts,sls,gts,J9,frs,vts,bls,tks,fts,sb,ints,List.cons_append,List.nil_append]
 (repeat first|refine uA ?_|(apply uK;· first|omega|(intros;simp_all<;>omega))|simp(disch:=omega) only[go_sem,Nat.reduceAdd,tX,d0l,d0p,d0u,List.cons_append,List.nil_append,ac,aa,O8,Wk.enc,Stt.enc,ams,wls,pts,sls,gts,J9,frs,vts,bls,tks,fts,sb,ints]|refine j5.t (h1 rfl pre [] rfl rfl B rfl D rfl rfl rfl rfl) ?_|refine j5.t (h2 rfl pre (Wk.enc G) rfl rfl B rfl D rfl rfl rfl rfl) ?_|refine j5.t (h3 rfl pre (Wk.enc G++Stt.enc I) rfl rfl B rfl D rfl) ?_|refine j5.t (h4 rfl pre (Wk.enc G++Stt.enc I++[tks K]) rfl rfl B rfl D rfl) ?_|refine j5.t (h5 rfl pre (Wk.enc G++Stt.enc I++[tks K]++[fts y4]) rfl rfl B rfl D rfl rfl rfl rfl) ?_|refine j5.t (h6 rfl pre (Wk.enc G++Stt.enc I++[tks K]++[fts y4]++[wls y5]) rfl rfl B rfl D rfl rfl rfl rfl) ?_);(exact uRe rfl (Imp.refl rfl) (by repeat first|refine uA ?_|refine⟨rfl,?_⟩|rfl|simp[slot]) (d0f N (by simp)))
open Go Eng
set_option maxRecDepth 100000
def b7t(g:Nat)(hcal:callable Tryz.prog g=true)(w:Ky->List UInt8)(l:List Ky)(hl:(j6 w l).length<=140737488355328)(hn:l.length<=1099511627776)(hg:∀x∈l,p8 Tryz.prog g [.agg x.enc] (sb (w x))):p8 Tryz.prog 30 [.sl 2 (l.map Ky.enc),.v (.func (.func g) #[] #[])] (sb (j6 w l)):=
 a4K (sz:=2) (e:=101) (zero:=[.int .i64 0,.slice none 0 0]) Tryz.func30 (by kernel_rfl) ⟨λ_=>rfl,by decide,λ_=>rfl,λ_=>rfl,rfl,rfl,by decide⟩ hcal l hl hn hg
def b3Q(g:Nat)(hcal:callable Tryz.prog g=true)(w:Ft->List UInt8)(l:List Ft)(hl:(j6 w l).length<=140737488355328)(hn:l.length<=1099511627776)(hg:∀x∈l,p8 Tryz.prog g [.agg x.enc] (sb (w x))):p8 Tryz.prog 34 [.sl 3 (l.map Ft.enc),.v (.func (.func g) #[] #[])] (sb (j6 w l)):=
 a4K (sz:=3) (e:=108) (zero:=[.int .i64 0,.int .i64 0,.int .i64 0]) Tryz.func34 (by kernel_rfl) ⟨λ_=>rfl,by decide,λ_=>rfl,λ_=>rfl,rfl,rfl,by decide⟩ hcal l hl hn hg
def b3T(g:Nat)(hcal:callable Tryz.prog g=true)(w:List Ky->List UInt8)(l:List (List Ky))(hl:(j6 w l).length<=140737488355328)(hn:l.length<=1099511627776)(hg:∀x∈l,p8 Tryz.prog g [.sl 2 (x.map Ky.enc)] (sb (w x))):p8 Tryz.prog 28 [.sl 1 (l.map tkC),.v (.func (.func g) #[] #[])] (sb (j6 w l)):=
 c4S Tryz.func28 (by kernel_rfl) hcal l hl hn hg
def c8p(x:Ky)(u:(kyB x).length<=140737488355328)(D:x.q.length<=1099511627776):p8 Tryz.prog 31 [.agg x.enc] (sb (kyB x)):=by
 refine kS Tryz.func31 (by cbv) (by rfl) λE O=>?_;unfold kyB at u ⊢;rw[d0c]at u;have A:=a2i x.tick;have h:=a7v 12 (by kernel_rfl) I7 x.q (by omega) D λz B=>X9 z (P7 I7 B (by omega));generalize j6 I7 x.q=r at*;generalize G8 x.tick=t at*;simp only[j4,TT,OA,MM,VV,FF];simp only[Ky.enc,rts,sb,ints]at A h ⊢;(repeat first|refine uA ?_|simp(disch:=omega) only[go_sem,Nat.reduceAdd,x9,R4]|refine uB A rfl ?_|refine uB h rfl ?_);exact uS rfl rfl
def c3o(x:Ft)(A:(ftB x).length<=140737488355328):p8 Tryz.prog 35 [.agg x.enc] (sb (ftB x)):=by
 refine kS Tryz.func35 (by cbv) (by rfl) λD O=>?_;unfold ftB at A ⊢;rw[d0c,d0c]at A;have B:=a2i x.tick;have u:=a2i x.kind;have h:=a2i x.n;generalize G8 x.tick=E at*;generalize G8 x.kind=F at*;generalize G8 x.n=G at*;simp only[j4,TT,OA,MM,VV,FF];simp only[Ft.enc,sb,ints]at B u h ⊢;(repeat first|refine uA ?_|simp(disch:=omega) only[go_sem,Nat.reduceAdd,x9,R4,d0c,d0o]|refine uB B rfl ?_|refine uB u rfl ?_|refine uB h rfl ?_);exact uS rfl rfl
def c4r(x:List Ky)(h:(j6 kyB x).length<=140737488355328)(B:x.length<=1099511627776)(D:∀k∈x,k.q.length<=1099511627776):p8 Tryz.prog 29 [.sl 2 (x.map Ky.enc)] (sb (j6 kyB x)):=by
 refine kS Tryz.func29 (by cbv) (by rfl) λE O=>?_;have u:=b7t 31 (by kernel_rfl) kyB x h B λk A=>c8p k (P7 kyB A h) (D k A);generalize j6 kyB x=r at*;simp only[j4,TT,OA,MM];simp only[sb]at u ⊢;(repeat first|refine uA ?_|simp(disch:=omega) only[go_sem]|refine uB u rfl ?_);exact uS rfl rfl
def a2r(d:Dy):List UInt8:=(71::49::dyB d)++leB 8 (a1W (71::49::dyB d))
def b3i(d:Dy)(u:Dyb 1048576 d)(hl:(dyB d).length<=1000000000):p8 Tryz.prog 6 [d.c] (sb (a2r d)):=by
 refine kS Tryz.func6 (by cbv) (by rfl) λw' O=>?_;have ab:=hl;unfold dyB wkB tlB at hl;simp only[d0c]at hl;have h1:=b8W 15 11 (by kernel_rfl) amB d.works.arms (by omega) (d0f u.works.arms.1 (by decide)) λz h=>c6u z (P7 amB h (by omega)) (u.works.arms.2 z h);have h2:=b0q 13 (by kernel_rfl) (j6 I5) d.works.walls (by omega) (d0f u.works.walls.1 (by decide)) λz h=>b0d z (P7 (j6 I5) h (by omega)) (d0f (u.works.walls.2 z h).1 (by decide));have h3:=b8R 21 (by kernel_rfl) ptB d.works.parts (by omega) (d0f u.works.parts.1 (by decide)) λz h=>c2q z (P7 ptB h (by omega)) (u.works.parts.2 z h)
 have h4:=b8H 23 (by kernel_rfl) slB d.works.slots (by omega) (d0f u.works.slots.1 (by decide)) λz h=>c2r z (P7 slB h (by omega));have h5:=b8E 25 (by kernel_rfl) gtB d.works.gates (by omega) (d0f u.works.gates.1 (by decide)) λz h=>c3R z (P7 gtB h (by omega));have h6:=X9 d.works.walk (by omega);have h7:=c4f d.start (u.start.m rfl).w (by omega);have h8:=b3T 29 (by kernel_rfl) (j6 kyB) d.tracks (by omega) (d0f u.tracks.1 (by decide)) λz h=>c4r z (P7 (j6 kyB) h (by omega)) (d0f (u.tracks.2 z h).1 (by decide)) λk hk=>d0f ((u.tracks.2 z h).2 k hk).2.1 (by decide)
 have h9:=b3Q 35 (by kernel_rfl) ftB d.faults (by omega) (d0f u.faults.1 (by decide)) λz h=>c3o z (P7 ftB h (by omega));have K:=b0q 13 (by kernel_rfl) (j6 I5) d.walks (by omega) (d0f u.walks.1 (by decide)) λz h=>b0d z (P7 (j6 I5) h (by omega)) (d0f (u.walks.2 z h).1 (by decide));have Y:=a2i d.ticks;have H:=c0V (71::49::dyB d) (by simp only[d0j];omega);have hG:(⟨#[71,49]⟩:ByteArray)=bs [71,49]:=rfl;have V:a2r d=(71::49::dyB d)++leB 8 (a1W (71::49::dyB d)):=rfl
 have N:dyB d=j6 amB d.works.arms++(j6 (j6 I5) d.works.walls++(j6 ptB d.works.parts++(j6 slB d.works.slots++(j6 gtB d.works.gates++(I7 d.works.walk++(a0M d.start++(j6 (j6 kyB) d.tracks++(j6 ftB d.faults++(j6 (j6 I5) d.walks++G8 d.ticks))))))))):=by simp only[dyB,wkB,tlB,d0o]
 generalize a2r d=R at*;generalize dyB d=T at*;obtain⟨⟨Z,I,D,J,F,U⟩,start,B,A,E,G⟩:=d;simp only at*;generalize j6 amB Z=r1 at*;generalize j6 (j6 I5) I=r2 at*;generalize j6 ptB D=r3 at*;generalize j6 slB J=r4 at*;generalize j6 gtB F=r5 at*;generalize I7 U=r6 at*;generalize a0M start=r7 at*;generalize j6 (j6 kyB) B=r8 at*;generalize j6 ftB A=r9 at*;generalize j6 (j6 I5) E=ae at*;generalize G8 G=ac at*;simp only[j4,TT,II,OA,OB,MM,LL,VV,FF];simp only[Dy.c,Dy.enc,Stt.c,Stt.enc,J9,frs,bls,ams,wls,pts,sls,gts,vts,tks,fts,rc,sb,ints]at h1 h2 h3 h4 h5 h6 h7 h8 h9 K Y H ⊢;rw[N]at H
 (repeat first|refine uA ?_|simp(disch:=omega) only[go_sem,Nat.reduceAdd,hG,x9,R4,d0c,d0o,List.cons_append,List.nil_append,d0j]|refine uB h2 rfl ?_|refine uB h3 rfl ?_|refine uB h4 rfl ?_|refine uB h5 rfl ?_|refine uB h6 rfl ?_|refine uB h8 rfl ?_|refine uB h9 rfl ?_|refine uB Y rfl ?_|refine uB H rfl ?_|(refine uC h1 ?_ ?_ ?_;exact rfl;focus (repeat' first|exact j3.nil|exact Imp.refl rfl|exact Imp.D8|exact Imp.fbx rfl rfl (j3.refl rfl) rfl rfl|refine Imp.clo ?_|exact Imp.frz rfl rfl rfl|(refine Imp.O0 rfl rfl ?_ ?_;(focus ((try simp only[d0c,hG,x9,R4,d0c,d0o,List.cons_append,List.nil_append,d0j]);omega));(focus first|rfl|assumption))|refine Imp.agg ?_|refine j3.cons ?_ ?_);done)|(refine uC h7 ?_ ?_ ?_;exact rfl;focus (repeat' first|exact j3.nil|exact Imp.refl rfl|exact Imp.D8|exact Imp.fbx rfl rfl (j3.refl rfl) rfl rfl|refine Imp.clo ?_|exact Imp.frz rfl rfl rfl|(refine Imp.O0 rfl rfl ?_ ?_;(focus ((try simp only[d0c,hG,x9,R4,d0c,d0o,List.cons_append,List.nil_append,d0j]);omega));(focus first|rfl|assumption))|refine Imp.agg ?_|refine j3.cons ?_ ?_);done)|(refine uC K ?_ ?_ ?_;exact rfl;focus (repeat' first|exact j3.nil|exact Imp.refl rfl|exact Imp.D8|exact Imp.fbx rfl rfl (j3.refl rfl) rfl rfl|refine Imp.clo ?_|exact Imp.frz rfl rfl rfl|(refine Imp.O0 rfl rfl ?_ ?_;(focus ((try simp only[d0c,hG,x9,R4,d0c,d0o,List.cons_append,List.nil_append,d0j]);omega));(focus first|rfl|assumption))|refine Imp.agg ?_|refine j3.cons ?_ ?_);done))
 rw[<- N];have hM:(71::49::T:List UInt8).length<=1000000102:=by simp only[d0j];omega
 generalize(71::49::T:List UInt8)=M at*;generalize a1W M=N0 at*;refine S.loop (X:=Nat×Int×List UInt8) (λx=>⟨[(4,sb x.2.2),(5,.v (.int .u64 x.2.1)),(67,ints x.1)],[]⟩) (λx=>x.1<=8/\x.2.2.length=M.length+x.1/\x.2.2++leB (8-x.1) x.2.1=R) (λx=>8-x.1) (0,N0,M) ⟨d0k 8,rfl,V.symm⟩ (by repeat first|refine uA ?_|refine⟨rfl,?_⟩|rfl|simp) ?_;rintro⟨i,n,out⟩ ⟨hi,aa,W⟩;simp only[sb,ints]at hi aa W ⊢;refine uV rfl ?_;apply uJ rfl<;>intro hc
 ·have P:i<8:=by omega
  rw[show 8-i=(8-(i+1))+1 by omega,leB]at W;(repeat first|refine uA ?_|simp(disch:=omega) only[go_sem,Nat.reduceAdd,ww,b5T,a1J,x9,R4,b9W,d0j,List.length_nil]);refine S.next (x:=(i,n,out)) (i+1,n.fdiv 256,out++[UInt8.ofNat (n%256).toNat]) ⟨by simp only;omega,by simp only[d0c,d0j,List.length_nil];omega,by simp only;rw[d0o];exact W⟩ (by simp only;omega) (by repeat first|refine uA ?_|refine⟨rfl,?_⟩|rfl|simp)
 ·have P:i=8:=by omega
  subst P;rw[Nat.sub_self,leB,List.append_nil]at W;subst W;exact uT rfl rfl rfl
def c0E{E:Ctx}(hP:E.P=Tryz.prog)(l:List Cl)(hn:l.length<=1000000000) :
 l5 E [.row 120 2 (l.map ce)] 239 [.rv 0] (.wv 0 2 0 (dd l l.length).length) [.row 120 2 ((dd l l.length++List.replicate (l.length-(dd l l.length).length) (0,0)).map ce)] []:=by
 obtain⟨P,ar,N,w0,zs,ay,au,aw⟩:=E;simp only at hP;subst hP;refine l5.of (eff:=eff) Tryz.func239 (by cbv) (by exact d0n rfl) λw own av ν ag=>?_;have A:ν.length<=1:=by rw[ag];exact d0m _
 have T:(∀j,0<j->j<l.length->l[j]? ≠ l[j-1]?)->dd l l.length=l:=λh=>by rw[b5v l.length (d0m _) h,d0w]
 have I:(∀j,0<j->j<l.length->l[j]? ≠ l[j-1]?)->(dd l l.length).length=l.length/\(dd l l.length++List.replicate (l.length-(dd l l.length).length) (0,0)).map ce=l.map ce:=λh=>by
  rw[T h];simp
 clear T;simp only[j4,TT,II,OA,OB,MM,LL];(repeat first|refine uA ?_|simp(disch:=omega) only[go_sem,d0d]);apply uJ rfl<;>intro D
 ·obtain⟨Z,h2⟩:=I λj h0 Z=>by omega
  rw[h2,Z];(repeat first|refine uA ?_|simp(disch:=omega) only[go_sem]);exact S.done (H6.b0V (Imp.win rfl (by rw[d0d]) Nat.zero_lt_one) (by repeat first|refine uA ?_|refine⟨rfl,?_⟩|rfl|simp) A)
 (repeat first|refine uA ?_|simp(disch:=omega) only[go_sem]);refine S.loop (X:=Nat) (λk=>⟨[(0,.rv 0),(3,ints k)],[.row 120 2 (l.map ce)]⟩) (λk=>(1<=k/\k<=l.length)/\∀j,0<j->j<k->l[j]? ≠ l[j-1]?) (λk=>l.length-k) 1 ⟨⟨d0m _,by omega⟩,λj h0 Z=>by omega⟩ (by repeat first|refine uA ?_|(refine⟨?_,?_⟩;· first|rfl|simp[slot])|rfl|simp|exact d0f A (by simp)) ?_
 rintro k ⟨⟨ax,aq⟩,hm⟩;simp only[ints];(repeat first|refine uA ?_|simp(disch:=omega) only[go_sem,d0d]);apply uJ rfl<;>intro D
 ·have hk:k<l.length:=by omega
  have O:=d0b hk;have M:=d0b (show k-1<l.length by omega);generalize l[k]'_=x at O;generalize l[k-1]'_=y at M;have ah:((k:Int)-1).toNat=k-1:=by omega
  (repeat first|refine uA ?_|simp(disch:=omega) only[go_sem,Nat.reduceAdd,ww,d0d,d0q,O,M,ah,d0e,d0h,ce]);apply S.cond rfl<;>intro D
  ·have W:x=y:=by
    simp only[d0s,d0t]at D;exact Prod.ext D.1 (by first|exact D.2.1|exact D.2)
   have K:dd l (k+1)=l.take k:=by rw[b6x (by omega) O M W,b5v k (by omega) hm]
   clear I hm;(repeat first|refine uA ?_|simp(disch:=omega) only[go_sem,d0d,d0h]);refine S.loop (X:=Nat×List Cl) (λp=>⟨[(0,.rv 0),(3,ints ((dd l (k+p.1)).length:Nat)),(4,.wv 0 2 k (l.length-k)),(5,ints p.1)],[.row 120 2 (p.2.map ce)]⟩)
    (λp=>(1<=p.1/\k+p.1<=l.length)/\p.2.length=l.length/\p.2.take (dd l (k+p.1)).length=dd l (k+p.1)/\(dd l (k+p.1)).length+1<=k+p.1/\∀j,k+p.1-1<=j->p.2[j]?=l[j]?) (λp=>l.length-p.1) (1,l)
    ⟨⟨d0m _,by simp only;omega⟩,rfl,by simp only[K,d0r];rw[Nat.min_eq_left (by omega)],by simp only[K,d0r];omega,λ_ _=>rfl⟩ (by simp only[K,d0r,Nat.min_eq_left aq];exact(by repeat first|refine uA ?_|(refine⟨?_,?_⟩;· first|rfl|simp[slot])|rfl|simp|exact d0f A (by simp))) ?_
   rintro⟨r,H⟩ ⟨⟨ai,an⟩,G,J,aa,F⟩;simp only at ai an G J aa F;simp only[ints];(repeat first|refine uA ?_|simp(disch:=omega) only[go_sem]);apply uJ rfl<;>intro D
   ·have hr:k+r<l.length:=by omega
    have gx:=d0b hr;have gy:=d0b (show k+r-1<l.length by omega);generalize l[k+r]'_=u at gx;generalize l[k+r-1]'_=v at gy;have ex:=(F (k+r) (by omega)).trans gx;have ey:=(F (k+r-1) (d0m _)).trans gy;have af:((r:Int)-1).toNat=r-1:=by omega
    have al:k+(r-1)=k+r-1:=by omega
    (repeat first|refine uA ?_|simp(disch:=omega) only[go_sem,Nat.reduceAdd,ww,d0d,d0q,G,ex,ey,af,al,d0e,d0h,ce]);apply S.cond rfl<;>intro D
    ·have Y:u≠v:=λe=>by
      subst e;simp at D
     have B:=b9U gx gy Y;rw[show k+r+1=k+(r+1) by omega]at B;have V:(dd l (k+(r+1))).length=(dd l (k+r)).length+1:=by rw[B,d0c];rfl
     generalize hm:(dd l (k+r)).length=m at*;have ac:=d0b (show m<H.length by omega);generalize H[m]'_=z at ac;have ab:(H.map ce).set m [C.v (.int .i64 u.1),C.v (.int .i64 u.2)]=(H.set m u).map ce:=by rw[List.map_set];rfl
     have ao:(H.set m u).take (m+1)=dd l (k+(r+1)):=by
      rw[B,List.take_add_one,List.getElem?_set_self (by omega),List.take_set_of_le (d0m _),J];rfl
     have ak:∀j,k+(r+1)-1<=j->(H.set m u)[j]?=l[j]?:=λj hj=>by
      rw[List.getElem?_set_ne (by omega)];exact F j (by omega)
     have aj:(H.set m u).length=l.length:=by rw[d0S,G]
     generalize H.set m u=ap at*;(repeat first|refine uA ?_|simp(disch:=omega) only[go_sem,Nat.reduceAdd,ww,d0d,d0q,G,ex,ac,d0e,d0h,ce,List.take_zero,List.drop_zero,List.drop_succ_cons,List.nil_append,List.append_nil,ab]);refine S.next (m:=λp:Nat×List Cl=>l.length-p.1) (x:=(r,H)) (r+1,ap) ⟨⟨by simp only;omega,by simp only;omega⟩,aj,by simp only[V];exact ao,by simp only[V];omega,ak⟩ (by simp only;omega) (by simp only[V];exact(by repeat first|refine uA ?_|(refine⟨?_,?_⟩;· first|rfl|simp[slot])|rfl|simp|exact d0f A (by simp)))
    ·have Y:u=v:=by
      simp at D;exact Prod.ext D.1 D.2
     have B:=b6x (by omega) gx gy Y;rw[show k+r+1=k+(r+1) by omega]at B;(repeat first|refine uA ?_|simp(disch:=omega) only[go_sem]);refine S.next (m:=λp:Nat×List Cl=>l.length-p.1) (x:=(r,H)) (r+1,H) ⟨⟨by simp only;omega,by simp only;omega⟩,G,by simp only[B];exact J,by simp only[B];omega,λj hj=>F j (by omega)⟩ (by simp only;omega) (by simp only[B];exact(by repeat first|refine uA ?_|(refine⟨?_,?_⟩;· first|rfl|simp[slot])|rfl|simp|exact d0f A (by simp)))
   ·have am:k+r=l.length:=by omega
    rw[am]at J aa ⊢;clear F K;generalize hm:(dd l l.length).length=m at*;generalize dd l l.length=d at*;have hz:(H.map ce).take m++List.replicate (l.length-m) [C.v (.int .i64 0),.v (.int .i64 0)]=(d++List.replicate (l.length-m) (0,0)).map ce:=by
     rw[d0u,List.map_replicate,<- List.map_take,J];rfl
    generalize(d++List.replicate (l.length-m) (0,0)).map ce=R at*;have ae:R.length=l.length:=by rw[<- hz];simp;omega
    have U:=hz;rw[<- List.map_take]at U;(repeat first|refine uA ?_|simp(disch:=omega) only[go_sem,Nat.reduceAdd,d0d,G,d0h,U,ae]);exact S.done (H6.b0V (Imp.refl rfl) (C9.cons (RI.row _ _ _ _ (by first|exact hz|exact U|rfl)) C9.nil) A)
  ·have W:x≠y:=λe=>by
    subst e;simp at D
   (repeat first|refine uA ?_|simp(disch:=omega) only[go_sem]);refine S.next (k+1) ⟨⟨by omega,by omega⟩,λj h0 Z=>?_⟩ (by omega) (by repeat first|refine uA ?_|(refine⟨?_,?_⟩;· first|rfl|simp[slot])|rfl|simp|exact d0f A (by simp))
   rcases d0B j k with h|h
   ·exact hm j h0 h
   ·have:j=k:=by omega
    subst this;rw[O,M];exact λe=>W (Option.some.inj e)
 ·have hk:k=l.length:=by omega
  subst hk;obtain⟨Z,h2⟩:=I hm;rw[h2,Z];(repeat first|refine uA ?_|simp(disch:=omega) only[go_sem]);exact S.done (H6.b0V (Imp.win rfl (by rw[d0d]) Nat.zero_lt_one) (by repeat first|refine uA ?_|refine⟨rfl,?_⟩|rfl|simp) A)
def c6F{ls:List (List Cl)}{i:Nat}:a3x ls i<=ls.flatten.length:=by
 unfold a3x;have h:ls.flatten=(ls.take i).flatten++(ls.drop i).flatten:=by rw[<- List.flatten_append,List.take_append_drop]
 rw[h,d0c];omega
def b0Q(ls:List (List Cl))(G:ls.length<=1000)(u:ls.flatten.length<=1000000000):FNew Tryz.prog 188 [a1O ls] 120 2 ((Y4 ls.flatten).map ce):=by
 refine FNew.of (eff:=eff) Tryz.func188 (by cbv) (by exact d0n rfl) λw O=>?_;have h:=c3Z ls G (λi=>d0f c6F u);have B:=λ(E:Ctx) (hP:E.P=Tryz.prog)=>c6U (E:=E) hP ls.flatten (by omega);have A:=λ(E:Ctx) (hP:E.P=Tryz.prog)=>c0E (E:=E) hP (ls.flatten.mergeSort leC) (by rw[List.length_mergeSort];exact u);have H:=(a7W (a6v ls.flatten) _ (d0m _)).2.2;have D:Y4 ls.flatten=dd (ls.flatten.mergeSort leC) (ls.flatten.mergeSort leC).length:=rfl;rw[D];generalize dd (ls.flatten.mergeSort leC) (ls.flatten.mergeSort leC).length=d at*;generalize I:(ls.flatten.mergeSort leC).length-d.length=m at*;generalize ls.flatten.mergeSort leC=M at*;generalize ls.flatten=F at*
 simp only[j4,TT,OA,MM,a1O]at h ⊢;(repeat first|refine uA ?_|simp(disch:=omega) only[go_sem]|refine j5.t (FNew.t h rfl) ?_|refine j5.t (B _ rfl) ?_|refine j5.t (A _ rfl) ?_);refine S.weaken (Ent.shrink 2 0 rfl rfl (by simp) ⟨.inr (d0k _),trivial⟩) ?_
 exact S.done (H6.new rfl rfl (by simp[a1h,Res.y9]))
def c7y(a b:List Cl)(A:a.length<=100000000)(u:b.length<=100000000):p8 Tryz.prog 236 [cls a,cls b] (cls (a3P a b)):=by
 refine kS Tryz.func236 (by cbv) (by rfl) λw O=>?_;have h:=(b0Q [a,b] (by show 2<=1000;decide) (by simp;omega)).spec;rw[show[a,b].flatten=a++b by simp]at h;unfold a3P;generalize Y4 (a++b)=r at*;simp only[j4,TT,OA,MM,cls];simp only[a1O,d0l,d0p,cls]at h;(repeat first|refine uA ?_|simp(disch:=omega) only[go_sem,Nat.reduceAdd]);refine j5.b8D [.sl 1 [[cls a],[cls b]]] [.gone] h (j3.cons (Imp.frz rfl rfl rfl) j3.nil) rfl (C9.cons (RI.gone _) C9.nil) rfl ?_
 (repeat first|refine uA ?_|simp(disch:=omega) only[go_sem]);exact uS rfl rfl
def Imp.c6R{rs rs':List Res}{c:C}:Imp rs rs' c (.any λ_=>True):=λ_ _ _ _ _ _ _ _ _=>by simp only[Den]
def c2a(l:List Cl)(t:Cl)(R:Up l)(hn:l.length<=1000000000):p8 Tryz.prog 240 [cls l,.agg (ce t),.v (.func (.func 238) #[] #[])] (.tup [.any λ_=>True,.v (.bool (a4G l t))]):=by
 refine kS Tryz.func240 (by cbv) (by rfl) λw O=>?_;have W:=λa=>c5w a t;have A:callable Tryz.prog 238=true:=by kernel_rfl
 simp only[j4,TT,II,OA,OC,MM,LL,MG,LG,cls,ce]at W ⊢;(repeat first|refine uA ?_|simp(disch:=omega) only[go_sem,Nat.reduceAdd,d0d]);refine S.loop (X:=Nat×Nat) (λp=>⟨[(0,cls l),(2,.v (.func (.func 238) #[] #[])),(4,.bp 0 0),(8,ints l.length),(9,ints p.1),(10,ints p.2)],[.box 120 (ce t)]⟩)
  (λp=>(p.1<=p.2/\p.2<=l.length)/\(∀k x,k<p.1->l[k]?=some x->ltC x t=true)/\(∀k x,p.2<=k->l[k]?=some x->ltC x t=false)) (λp=>p.2-p.1) (0,l.length)
  ⟨⟨d0k _,d0m _⟩,λ_ _ h=>absurd h (Nat.not_lt_zero _),λk x h hx=>by have:=(d0i.1 hx).1;simp only at h;omega⟩ (by repeat first|refine uA ?_|refine⟨rfl,?_⟩|rfl|simp) ?_
 rintro⟨i,j⟩ ⟨⟨h1,Z⟩,M,K⟩;simp only at h1 Z M K;simp only[cls,ce,ints];refine uV rfl ?_;apply uJ rfl<;>intro hc
 ·obtain⟨h,hh⟩:∃h:Nat,h=(i+j)/2:=⟨_,rfl⟩
  have G:h<l.length:=by omega
  have F:=d0b G;generalize l[h]=x at F;have T:((i:Int)+(j:Int)).fdiv (2^1)=(h:Int):=by
   rw[Int.fdiv_eq_ediv_of_nonneg _ (by decide)];omega
  have D:=W x;have u:ltC x t=decide (a3a x t<0):=rfl;generalize a3a x t=c at D u;(repeat first|refine uA ?_|simp(disch:=omega) only[go_sem,Nat.reduceAdd,ww,T,F,A,d0d,d0q,d0e,d0h,ce]|refine uB D rfl ?_);apply S.cond rfl<;>intro I
  ·rw[I]at u;(repeat first|refine uA ?_|simp(disch:=omega) only[go_sem]);refine S.next (m:=λp:Nat×Nat=>p.2-p.1) (x:=(i,j)) (h+1,j) ⟨⟨by simp only;omega,Z⟩,λk y N B=>?_,K⟩ (by simp only;omega) (by repeat first|refine uA ?_|refine⟨rfl,?_⟩|rfl|simp)
   rcases d0B k h with E|E
   ·exact a3J (R.get E B F) u
   ·have:k=h:=by simp only at N;omega
    subst this;rw[F]at B;injection B with B;rw[<- B];exact u
  ·rw[I]at u;(repeat first|refine uA ?_|simp(disch:=omega) only[go_sem]);refine S.next (m:=λp:Nat×Nat=>p.2-p.1) (x:=(i,j)) (i,h) ⟨⟨by simp only;omega,by simp only;omega⟩,M,λk y N B=>?_⟩ (by simp only;omega) (by repeat first|refine uA ?_|refine⟨rfl,?_⟩|rfl|simp)
   rcases d0B h k with E|E
   ·cases P:ltC y t with
    | false=>rfl
    | true=>rw[a3J (R.get E F B) P]at u;cases u
   ·have:k=h:=by simp only at N;omega
    subst this;rw[F]at B;injection B with B;rw[<- B];exact u
 ·have U:j=i:=by omega
  subst U;have Y:=b8Z R M K;rw[Y];clear M K Y;rcases d0B j l.length with G|J
  ·have F:=d0b G;generalize l[j]=x at F;have D:=W x;rw[F];simp only;generalize a3a x t=c at D;have H:decide ((j:Int)<(l.length:Int))=true:=decide_eq_true (by omega);(repeat first|refine uA ?_|simp(disch:=omega) only[go_sem,Nat.reduceAdd,F,A,d0d,d0q,d0e,d0h,ce,H]|refine uB D rfl ?_);refine S.done ?_
   simp only[a3Q,go_sem];exact H6.out rfl (Imp.tup (j3.cons Imp.c6R (j3.cons (Imp.eq (by simp) rfl) j3.nil))) rfl
  ·rw[d0J J];have V:l[j]?=none:=d0J J;have H:decide ((j:Int)<(l.length:Int))=false:=decide_eq_false (by omega);(repeat first|refine uA ?_|simp(disch:=omega) only[go_sem,Nat.reduceAdd,d0d,H,V,d0q,Option.map_none,A,d0h]);refine a1H.mk (r:=.v (.int .i64 0)) (λhp=>by cases hp) ?_
   (repeat first|refine uA ?_|simp(disch:=omega) only[go_sem]);refine S.done ?_
   simp only[a3Q,go_sem];exact H6.out rfl (Imp.tup (j3.cons Imp.c6R (j3.cons (Imp.eq (by simp) rfl) j3.nil))) rfl
def c8M(l:List Cl)(t:Cl)(u:Up l)(A:l.length<=1000000000):p8 Tryz.prog 191 [cls l,.agg (ce t)] (.v (.bool (a4G l t))):=by
 refine kS Tryz.func191 (by cbv) (by rfl) λw O=>?_;have h:=c2a l t u A;generalize a4G l t=b at*;simp only[j4,TT,OA,MM,LL,cls,ce]at h ⊢;(repeat first|refine uA ?_|simp(disch:=omega) only[go_sem,Nat.reduceAdd]|refine uB h rfl ?_);exact uS rfl rfl
def c4V(l:List Cl)(t:Cl)(u:Up l)(A:l.length<=1000000000):p8 Tryz.prog 190 [.agg (ce t),.ep [cls l]] (.v (.bool (!a4G l t))):=by
 refine kS Tryz.func190 (by cbv) (by rfl) λw O=>?_;have h:=c8M l t u A;generalize a4G l t=b at*;simp only[j4,TT,OA,MM,LL,VV,cls,ce]at h ⊢;(repeat first|refine uA ?_|simp(disch:=omega) only[go_sem,Nat.reduceAdd]|refine uB h rfl ?_);exact uS rfl rfl
def c1l(g:Nat)(D:callable Tryz.prog g=true)(X:C)(p:Cl->Bool)(l:List Cl)(M:l.length<=1000000000)(N:C.cl X=true)(J:∀x:Cl,p8 Tryz.prog g [.agg (ce x),.ep [X]] (.v (.bool (p x)))) :
  p8 Tryz.prog 76 [cls l,.clo g [.ep [X]]] (ints (a1b p l)):=by
 refine kS Tryz.func76 (by cbv) (by rfl) λw O=>?_;simp only[j4,TT,II,OA,MM,LL,cls,ints];(repeat first|refine uA ?_|simp(disch:=omega) only[go_sem,Nat.reduceAdd,d0d]);refine S.loop (X:=Nat) (λi=>⟨[(0,cls l),(1,.clo g [.ep [X]]),(7,ints l.length),(8,ints i)],[]⟩) (λi=>i<=l.length/\∀j,j<i->∀x,l[j]?=some x->p x=false) (λi=>l.length-i) 0 ⟨d0k _,λ_ h=>absurd h (Nat.not_lt_zero _)⟩ (by repeat first|refine uA ?_|refine⟨rfl,?_⟩|rfl|simp) ?_
 rintro i ⟨R,F⟩;simp only[cls,ints];refine uV rfl ?_;apply uJ rfl<;>intro K
 ·have A:i<l.length:=by omega
  have u:=d0b A;generalize l[i]=x at u;have G:=J x;simp only[ce]at G;generalize E:p x=b at G;(repeat first|refine uA ?_|simp(disch:=omega) only[go_sem,Nat.reduceAdd,u,d0e,d0d,d0q,ce,d0h,D]|refine uB G rfl ?_);apply S.cond rfl<;>intro B
  ·rw[a2e (p:=p) u (E.trans B) F];exact uT rfl rfl rfl
  ·(repeat first|refine uA ?_|simp(disch:=omega) only[go_sem]);refine S.next (i+1) ⟨by omega,λj P y H=>?_⟩ (by omega) (by repeat first|refine uA ?_|refine⟨rfl,?_⟩|rfl|simp)
   rcases d0B j i with I|I
   ·exact F j I y H
   ·have:j=i:=by omega
    subst this;rw[u]at H;cases H;exact E.trans B
 ·have A:i=l.length:=by omega
  subst A;rw[a1l F];exact uT rfl rfl rfl
def c6K(g:Nat)(u:callable Tryz.prog g=true)(X:C)(p:Cl->Bool)(l:List Cl)(D:l.length<=1000000000)(B:C.cl X=true)(A:∀x:Cl,p8 Tryz.prog g [.agg (ce x),.ep [X]] (.v (.bool (p x)))) :
  p8 Tryz.prog 40 [cls l,.clo g [.ep [X]]] (.v (.bool (l.any p))):=by
 refine kS Tryz.func40 (by cbv) (by rfl) λw O=>?_;have h:=c1l g u X p l D B A;rw[<- a2A];generalize a1b p l=n at*;simp only[j4,TT,II,OA,MM];simp only[cls,ints]at*;(repeat first|refine uA ?_|simp(disch:=omega) only[go_sem,Nat.reduceAdd]|refine uB h rfl ?_);exact uS rfl rfl
theorem b3C{α:Type}(p:α->Bool):∀l:List α,(∀(j:Nat) (x:α),j<l.length->l[j]?=some x->p x=false)\/∃(i:Nat) (x:α),l[i]?=some x/\p x=true/\∀j,j<i->∀x,l[j]?=some x->p x=false
 | []=>.inl λj x h=>by simp at h
 | a::l=>by
  cases ha:p a with
  | true=>exact .inr ⟨0,a,rfl,ha,λj h=>absurd h (Nat.not_lt_zero _)⟩
  | false=>
   rcases b3C p l with h|⟨i,x,hx,hp,h⟩
   ·refine .inl λj x hj hx=>?_;cases j with
    | zero=>simp at hx;subst hx;exact ha
    | succ j=>exact h j x (by simpa using hj) (by simpa using hx)
   ·refine .inr ⟨i+1,x,by simpa using hx,hp,λj hj y hy=>?_⟩;cases j with
    | zero=>simp at hy;subst hy;exact ha
    | succ j=>exact h j (by omega) y (by simpa using hy)
def b6n{p:Cl->Bool}{l:List Cl}(i:Nat)(h:∀j,j<i->∀x,l[j]?=some x->p x=false):(l.take i).filter (λx=>!p x)=l.take i:=by
 rw[List.filter_eq_self];intro x A;obtain⟨j,u⟩:=List.mem_iff_getElem?.1 A;rw[List.getElem?_take]at u;split at u
 ·rw[h j (by assumption) x u];rfl
 ·cases u
def b3J{p:Cl->Bool}{l:List Cl}{i:Nat}{x:Cl}(h:l[i]?=some x):(l.take (i+1)).filter (λx=>!p x)=(l.take i).filter (λx=>!p x)++(if p x=true then[] else[x]):=by
 rw[List.take_add_one,h,List.filter_append];cases u:p x<;>simp[u]
def c3H{E:Ctx}(hP:E.P=Tryz.prog)(g:Nat)(O:callable Tryz.prog g=true)(B:List Cl)(p:Cl->Bool)(l:List Cl)(hn:l.length<=1000000000)(hg:∀x:Cl,p8 Tryz.prog g [.agg (ce x),.ep [cls B]] (.v (.bool (p x)))) :
  l5 E [.gone,.gone,.gone,.row 120 2 (l.map ce)] 189 [.rv 3,.clo g [.ep [cls B]]] (.wv 3 2 0 (l.filter λx=>!p x).length) [.gone,.gone,.gone,.row 120 2 (((l.filter λx=>!p x)++List.replicate (l.length-(l.filter λx=>!p x).length) (0,0)).map ce)] []:=by
 obtain⟨P,ao,N,w0,ap,zs,ar,aq⟩:=E;simp only at hP;subst hP;refine l5.of (eff:=eff) Tryz.func189 (by cbv) (by exact d0n rfl) λw own av ν ag=>?_;have A:ν.length<=4:=by rw[ag];exact d0m _
 have U:=c1l g O (cls B) p l hn rfl hg;simp only[j4,TT,II,OA,OB,MM,LL];rcases b3C p l with I|⟨i,x0,M,Y,h⟩
 ·rw[a1l (λj hj x hx=>I j x hj hx)]at U;have hF:l.filter (λx=>!p x)=l:=by
   have:=b6n (p:=p) (l:=l) l.length (λj hj x hx=>I j x hj hx);rwa[d0w]at this
  rw[hF];simp only[cls,ints,Nat.sub_self,List.replicate_zero,List.append_nil]at U ⊢;(repeat first|refine uA ?_|simp(disch:=omega) only[go_sem,Nat.reduceAdd]|(refine uC U ?_ ?_ ?_;exact rfl;focus (repeat' first|exact j3.nil|exact Imp.refl rfl|exact Imp.D8|exact Imp.fbx rfl rfl (j3.refl rfl) rfl rfl|refine Imp.clo ?_|exact Imp.frz rfl rfl rfl|(refine Imp.O0 rfl rfl ?_ ?_;(focus ((try simp only[d0c]);omega));(focus first|rfl|assumption))|refine Imp.agg ?_|refine j3.cons ?_ ?_);done));apply uJ rfl<;>intro W
  ·(repeat first|refine uA ?_|simp(disch:=omega) only[go_sem]);exact S.done (H6.b0V (Imp.win rfl (by rw[d0d]) (by show 3<4;decide)) (by repeat first|refine uA ?_|refine⟨rfl,?_⟩|rfl|simp) A)
  ·first|omega|exact(W rfl).elim|(simp at W;done)
 ·rw[a2e (p:=p) M Y h]at U;have Z:=(d0i.1 M).1;simp only[cls,ints]at U ⊢;(repeat first|refine uA ?_|simp(disch:=omega) only[go_sem,Nat.reduceAdd]|(refine uC U ?_ ?_ ?_;exact rfl;focus (repeat' first|exact j3.nil|exact Imp.refl rfl|exact Imp.D8|exact Imp.fbx rfl rfl (j3.refl rfl) rfl rfl|refine Imp.clo ?_|exact Imp.frz rfl rfl rfl|(refine Imp.O0 rfl rfl ?_ ?_;(focus ((try simp only[d0c]);omega));(focus first|rfl|assumption))|refine Imp.agg ?_|refine j3.cons ?_ ?_);done));apply uJ rfl<;>intro W
  ·omega
  have K:(l.take (i+1)).filter (λx=>!p x)=l.take i:=by rw[b3J M,if_pos Y,List.append_nil,b6n i h]
  (repeat first|refine uA ?_|simp(disch:=omega) only[go_sem]);refine S.loop (X:=Nat×List Cl) (λq=>⟨[(0,.rv 3),(1,.clo g [.ep [cls B]]),(5,ints (((l.take q.1).filter λx=>!p x).length:Nat)),(6,ints q.1)],[.gone,.gone,.gone,.row 120 2 (q.2.map ce)]⟩)
   (λq=>(1<=q.1/\q.1<=l.length)/\q.2.length=l.length/\q.2.take ((l.take q.1).filter λx=>!p x).length=(l.take q.1).filter (λx=>!p x)/\((l.take q.1).filter λx=>!p x).length+1<=q.1/\∀j,q.1<=j->q.2[j]?=l[j]?) (λq=>l.length-q.1) (i+1,l)
   ⟨⟨by simp only;omega,Z⟩,rfl,by simp only[K,d0r];rw[Nat.min_eq_left (by omega)],by simp only[K,d0r];omega,λ_ _=>rfl⟩ (by simp only[K,d0r,Nat.min_eq_left (Nat.le_of_lt Z),cls];exact(by repeat first|refine uA ?_|(refine⟨?_,?_⟩;· first|rfl|simp[slot])|rfl|simp|exact d0f A (by simp))) ?_
  clear U K h M;rintro⟨r,G⟩ ⟨⟨ah,al⟩,F,J,aa,H⟩;simp only at ah al F J aa H;simp only[ints,cls];(repeat first|refine uA ?_|simp(disch:=omega) only[go_sem,d0d]);apply uJ rfl<;>intro W
  ·have hr:r<l.length:=by omega
   have gx:=d0b hr;generalize l[r]=u at gx;have ex:=(H r (d0m _)).trans gx;have D:=b3J (p:=p) gx;have ab:=hg u;simp only[cls,ce]at ab;generalize p u=b at*;(repeat first|refine uA ?_|simp(disch:=omega) only[go_sem,Nat.reduceAdd,d0d,d0q,F,ex,d0e,d0h,ce,O]|refine uB ab rfl ?_);apply S.cond rfl<;>intro W
   ·have hb:b=false:=by simpa using W
    rw[hb,if_neg (by decide)]at D;have V:((l.take (r+1)).filter λx=>!p x).length=((l.take r).filter λx=>!p x).length+1:=by rw[D,d0c];rfl
    generalize hm:((l.take r).filter λx=>!p x).length=m at*;have ae:=d0b (show m<G.length by omega);generalize G[m]'_=z at ae;have ac:(G.map ce).set m [C.v (.int .i64 u.1),C.v (.int .i64 u.2)]=(G.set m u).map ce:=by rw[List.map_set];rfl
    have am:(G.set m u).take (m+1)=(l.take (r+1)).filter λx=>!p x:=by
     rw[D,List.take_add_one,List.getElem?_set_self (by omega),List.take_set_of_le (d0m _),J];rfl
    have aj:∀j,r+1<=j->(G.set m u)[j]?=l[j]?:=λj hj=>by
     rw[List.getElem?_set_ne (by omega)];exact H j (by omega)
    have ai:(G.set m u).length=l.length:=by rw[d0S,F]
    generalize G.set m u=an at*;(repeat first|refine uA ?_|simp(disch:=omega) only[go_sem,Nat.reduceAdd,ww,d0d,d0q,F,ae,d0e,d0h,ce,List.take_zero,List.drop_zero,List.drop_succ_cons,List.nil_append,List.append_nil,ac]);refine S.next (m:=λq:Nat×List Cl=>l.length-q.1) (x:=(r,G)) (r+1,an) ⟨⟨by simp only;omega,hr⟩,ai,by simp only[V];exact am,by simp only[V];omega,aj⟩ (by simp only;omega) (by simp only[V];exact(by repeat first|refine uA ?_|(refine⟨?_,?_⟩;· first|rfl|simp[slot])|rfl|simp|exact d0f A (by simp)))
   ·have hb:b=true:=by simpa using W
    rw[hb,if_pos rfl,List.append_nil]at D;(repeat first|refine uA ?_|simp(disch:=omega) only[go_sem]);refine S.next (m:=λq:Nat×List Cl=>l.length-q.1) (x:=(r,G)) (r+1,G) ⟨⟨by simp only;omega,hr⟩,F,by simp only[D];exact J,by simp only[D];omega,λj hj=>H j (by omega)⟩ (by simp only;omega) (by simp only[D];exact(by repeat first|refine uA ?_|(refine⟨?_,?_⟩;· first|rfl|simp[slot])|rfl|simp|exact d0f A (by simp)))
  ·have ak:r=l.length:=by omega
   subst ak;rw[d0w]at J aa ⊢;clear H Z Y;generalize hm:(l.filter λx=>!p x).length=m at*;generalize(l.filter λx=>!p x)=d at*;have hz:(G.map ce).take m++List.replicate (l.length-m) [C.v (.int .i64 0),.v (.int .i64 0)]=(d++List.replicate (l.length-m) (0,0)).map ce:=by
    rw[d0u,List.map_replicate,<- List.map_take,J];rfl
   generalize(d++List.replicate (l.length-m) (0,0)).map ce=R at*;have af:R.length=l.length:=by rw[<- hz];simp;omega
   have T:=hz;rw[<- List.map_take]at T;(repeat first|refine uA ?_|simp(disch:=omega) only[go_sem,Nat.reduceAdd,d0d,F,d0h,T,af]);exact S.done (H6.b0V (Imp.refl rfl) (C9.cons (RI.gone _) (C9.cons (RI.gone _) (C9.cons (RI.gone _) (C9.cons (RI.row _ _ _ _ (by first|exact hz|exact T|rfl)) C9.nil)))) A)
def c8v(a b:List Cl)(N:a.length<=100000000)(I:b.length<=100000000):p8 Tryz.prog 147 [cls a,cls b] (cls (a8C a b)):=by
 refine kS Tryz.func147 (by cbv) (by rfl) λw O=>?_;have h:=(b0Q [b] (by show 1<=1000;decide) (by simp;omega)).spec;have u:=b0Q [a] (by show 1<=1000;decide) (by simp;omega);rw[show[b].flatten=b by simp]at h;rw[show[a].flatten=a by simp]at u;have M:=a9q b;have J:=a9q a;have H:=b4F b;have D:=λ(E:Ctx) (hP:E.P=Tryz.prog)=>c3H (E:=E) hP 190 (by kernel_rfl) (Y4 b) (λt=>!a4G (Y4 b) t) (Y4 a) (by omega) (λx=>c4V (Y4 b) x H (by omega));have G:a8C a b=(Y4 a).filter λt=>!(!a4G (Y4 b) t):=by unfold a8C;simp
 rw[G];have R:=List.length_filter_le (λt=>!(!a4G (Y4 b) t)) (Y4 a);generalize((Y4 a).filter λt=>!(!a4G (Y4 b) t))=F at*;generalize K:(Y4 a).length-F.length=m at*;generalize Y4 b=B at*;generalize Y4 a=A at*;simp only[j4,TT,OA,OB,MM,VV,cls];simp only[a1O,d0l,d0p,cls]at h u D;(repeat first|refine uA ?_|simp(disch:=omega) only[go_sem,Nat.reduceAdd]);refine j5.b8D [.sl 1 [[cls b]]] [.box 113 [cls b],.gone] h (j3.cons (Imp.frz rfl rfl rfl) j3.nil) rfl (C9.cons (RI.box _ _ _ (j3.refl rfl)) (C9.cons (RI.gone _) C9.nil)) rfl ?_
 (repeat first|refine uA ?_|simp(disch:=omega) only[go_sem,Nat.reduceAdd]);refine j5.t (l5.vg (rs2:=[.box 113 [cls B],.gone,.gone]) (FNew.t u rfl) (j3.cons (Imp.frz rfl rfl rfl) j3.nil) (C9.cons (RI.box _ _ _ (j3.refl rfl)) (C9.cons (RI.gone _) (C9.cons (RI.gone _) C9.nil))) rfl) ?_
 (repeat first|refine uA ?_|simp(disch:=omega) only[go_sem,Nat.reduceAdd]);refine j5.t (l5.vg (D _ rfl) (j3.cons (Imp.refl rfl) (j3.cons (Imp.clo (j3.cons (Imp.fbx rfl rfl (j3.refl rfl) rfl rfl) j3.nil)) j3.nil)) (C9.cons (RI.gone _) (C9.cons (RI.gone _) (C9.cons (RI.gone _) (C9.cons (RI.row _ _ _ _ rfl) C9.nil)))) rfl) ?_
 (repeat first|refine uA ?_|simp(disch:=omega) only[go_sem]);exact S.done (H6.out rfl (Imp.O0 rfl rfl (by simp) (by simp)) rfl)
open Go
def onB(n:Int):Bool:=decide (-64<=n)&&decide (n<64)
def a5J{n:Int}:onB n=true <-> -64<=n/\n<64:=by unfold onB;rw[d0s,decide_eq_true_iff,decide_eq_true_iff]
def R3(lo:Rat):Int:=-flI (-lo)-1
def a2l(lo hi:Rat):Bool:=decide (flE hi=0)&&decide (flE (-lo)=0)&&onB (R3 lo)&&onB (flI hi)
def ofE(b:Bq):Int:=if 0<Nm.A9 b.lx b.hx\/0<Nm.A9 b.ly b.hy then 1 else if(a2l b.lx b.hx&&a2l b.ly b.hy)=false then 17 else if 400<(flI b.hx-R3 b.lx+1)*(flI b.hy-R3 b.ly+1) then 2 else 0
def a4m(x0 y:Int)(n:Nat):List Cl:=(List.range n).map λk:Nat=>(x0+(k:Int),y)
def a5V(x0 y0:Int)(m n:Nat):List Cl:=(List.range n).flatMap λk:Nat=>a4m x0 (y0+(k:Int)) m
def c1K(x0 y:Int)(n:Nat):a4m x0 y (n+1)=a4m x0 y n++[(x0+(n:Int),y)]:=by simp[a4m,List.range_succ]
def b2M(x0 h:Int)(m n:Nat):a5V x0 h m (n+1)=a5V x0 h m n++a4m x0 (h+(n:Int)) m:=by simp[a5V,List.range_succ]
def b4u(x0 y:Int)(n:Nat):(a4m x0 y n).length=n:=by simp[a4m]
theorem b0D(x0 y0:Int)(m:Nat):∀n,(a5V x0 y0 m n).length=n*m
 | 0=>by simp[a5V]
 | n+1=>by rw[b2M,d0c,b0D x0 y0 m n,b4u,Nat.succ_mul]
def wid(a b:Int):Nat:=(b+1-a).toNat
def ofC(b:Bq):List Cl:=if ofE b=0 then a5V (R3 b.lx) (R3 b.ly) (wid (R3 b.lx) (flI b.hx)) (wid (R3 b.ly) (flI b.hy)) else[]
def b5w{b:Bq}(h:ofE b=0):(onB (R3 b.lx)=true/\onB (flI b.hx)=true)/\(onB (R3 b.ly)=true/\onB (flI b.hy)=true):=by
 unfold ofE at h;split at h
 ·cases h
 ·split at h
  ·cases h
  ·rename_i _ u;rw[Bool.not_eq_false,d0s]at u;unfold a2l at u;simp only[d0s]at u;exact⟨⟨u.1.1.2,u.1.2⟩,⟨u.2.1.2,u.2.2⟩⟩
def c7r{b:Bq}{c:Cl}(h:c∈ofC b):onB c.1=true/\onB c.2=true:=by
 unfold ofC at h;split at h
 ·rename_i D;obtain⟨⟨E,H⟩,G,F⟩:=b5w D;obtain⟨k,A,B⟩:=List.mem_flatMap.1 h;obtain⟨j,u,rfl⟩:=List.mem_map.1 B;rw[List.mem_range]at A u;rw[a5J]at*;unfold wid at A u;simp only;rw[a5J];omega
 ·cases h
def a9R(b:Bq):(ofC b).length<=16384:=by
 unfold ofC;split
 ·rename_i A;obtain⟨⟨B,F⟩,E,D⟩:=b5w A;rw[b0D];rw[a5J]at*;have u:wid (R3 b.lx) (flI b.hx)<=128:=by unfold wid;omega
  have h:wid (R3 b.ly) (flI b.hy)<=128:=by unfold wid;omega
  exact d0f (Nat.mul_le_mul h u) (by decide)
 ·exact d0k _
def O5(bs:List Bq):List Cl:=bs.foldl (λo b=>a3P o (ofC b)) []
def b7w(bs:List Bq)(b:Bq):O5 (bs++[b])=a3P (O5 bs) (ofC b):=by unfold O5;rw[List.foldl_append];rfl
theorem a5D:∀(bs:List Bq) (o:List Cl),Up o->Up (bs.foldl (λo b=>a3P o (ofC b)) o)/\(∀x,x∈bs.foldl (λo b=>a3P o (ofC b)) o <-> x∈o\/∃b∈bs,x∈ofC b)/\(bs.foldl (λo b=>a3P o (ofC b)) o).length<=o.length+16384*bs.length
 | [],o,h=>⟨h,λx=>by simp,by simp⟩
 | b::r,o,h=>by
  obtain⟨h1,h2,h3⟩:=a5D r (a3P o (ofC b)) (b4F _);refine⟨h1,λx=>?_,?_⟩
  ·rw[List.foldl_cons,h2];unfold a3P;rw[a9b,List.mem_append];constructor
   ·rintro((h|h)|⟨c,u,A⟩)
    ·exact .inl h
    ·exact .inr ⟨b,List.mem_cons_self,h⟩
    ·exact .inr ⟨c,List.mem_cons_of_mem _ u,A⟩
   ·rintro(h|⟨c,u,A⟩)
    ·exact .inl (.inl h)
    ·rcases List.mem_cons.1 u with rfl|u
     ·exact .inl (.inr A)
     ·exact .inr ⟨c,u,A⟩
  ·have B:=a9q (o++ofC b);have D:=a9R b;rw[d0c]at B;rw[List.foldl_cons,d0j];unfold a3P at h3 ⊢;omega
def c2g(bs:List Bq):Up (O5 bs):=(a5D bs [] List.Pairwise.nil).1
def b9e{bs:List Bq}{x:Cl}:x∈O5 bs <-> ∃b∈bs,x∈ofC b:=by
 unfold O5;rw[(a5D bs [] List.Pairwise.nil).2.1];simp
def b1y(bs:List Bq):(O5 bs).length<=16384*bs.length:=by
 have:=(a5D bs [] List.Pairwise.nil).2.2;simpa[O5] using this
def a5q(bs:List Bq):Int:=match bs.find? λb=>!decide (ofE b=0) with
 | some b=>ofE b
 | none=>0
def cellsE(bs:List Bq):Int:=if a5q bs=0 then if 400<(O5 bs).length then 2 else 0 else a5q bs
def c0N{bs:List Bq}(h:a5q bs=0):∀b∈bs,ofE b=0:=by
 unfold a5q at h;intro b A;split at h
 ·rename_i c u;have:=List.find?_some u;simp[h]at this
 ·rename_i u;have:=List.find?_eq_none.1 u b A;simpa using this
def b5O{bs:List Bq}{i:Nat}{b:Bq}(u:bs[i]?=some b)(h:ofE b≠0)(D:∀j,j<i->∀c,bs[j]?=some c->ofE c=0):a5q bs=ofE b:=by
 have:bs.find? (λb=>!decide (ofE b=0))=some b:=by
  obtain⟨B,E⟩:=d0i.1 u;rw[List.find?_eq_some_iff_getElem];refine⟨by simpa using h,i,B,E,λj A=>?_⟩;have:=D j A _ (d0b (by omega));simp[this]
 unfold a5q;rw[this]
def b2K{bs:List Bq}(A:∀j,j<bs.length->∀c,bs[j]?=some c->ofE c=0):a5q bs=0:=by
 have:bs.find? (λb=>!decide (ofE b=0))=none:=List.find?_eq_none.2 λb u=>by
  obtain⟨j,h⟩:=List.mem_iff_getElem?.1 u;simp[A j (d0i.1 h).1 b h]
 unfold a5q;rw[this]
def b7d{bs:List Bq}(h:cellsE bs=0):(∀b∈bs,ofE b=0)/\(O5 bs).length<=400:=by
 unfold cellsE at h;split at h
 ·rename_i u;split at h
  ·cases h
  ·exact⟨c0N u,by omega⟩
 ·contradiction
def c7I(n:Int):p8 Tryz.prog 208 [ints n] (.v (.bool (onB n))):=by
 refine kS Tryz.func208 (by cbv) (by rfl) λw O=>?_;unfold onB;simp only[j4,TT,II,OA,OC,MM,MG,ints];(repeat first|refine uA ?_|simp(disch:=omega) only[go_sem]);exact uS rfl rfl
def c4N(p:Rat):-9223372036854775807<=flI p/\flI p<=9223372036854775807:=by
 unfold flI;split<;>omega
def b8A(h u:Rat)(I:Rb 1000000000 (Nm.ofQ h))(N:Rb 1000000000 (Nm.ofQ u)):FZ 163 [rq h,rq u] (.tup [ints (R3 h),ints (flI u),.v (.bool (a2l h u))]):=by
 refine kW Tryz.func163 (by cbv) (by rfl) λw O D=>?_;have B:=b0J (Nm.ofQ u) (N.m rfl);have E:=a7T (Nm.ofQ h) (I.m rfl);have J:=a1Q I;have F:=b0J (Nm.ofQ (-h)) (J.m rfl);rw[Nm.y8]at B E F;have U:=c4N u;have W:=c4N (-h);have M:R3 h=-flI (-h)-1:=rfl;have K:a2l h u=(decide (flE u=0)&&decide (flE (-h)=0)&&onB (R3 h)&&onB (flI u)):=rfl;rw[K];generalize R3 h=x at*;generalize flE u=R at*;generalize flE (-h)=V at*;generalize flI u=y at*;generalize flI (-h)=z at*;have G:=c7I x;have H:=c7I y;have T:-z-1=x:=M.symm;have A:0-z-1=x:=by omega
 generalize onB x=P at*;generalize onB y=X at*;simp only[j4,TT,II,OA,OC,MM,LL,MG];simp only[rq,rc,sb,ints]at B E F G H ⊢;(repeat first|refine uA ?_|simp(disch:=omega) only[go_sem,Nat.reduceAdd,ww,A]|refine uB G rfl ?_|refine uB H rfl ?_|refine uD B (tz D) rfl ?_|refine uD E (tz D) rfl ?_|refine uD F (tz D) rfl ?_);refine S.done ?_
 simp only[a3Q,go_sem];(repeat(refine⟨?_,?_⟩;· first|trivial|omega|simp));exact H6.out rfl (Imp.tup (j3.cons (Imp.refl rfl) (j3.cons (Imp.refl rfl) (j3.cons (Imp.eq (by simp) rfl) j3.nil)))) rfl
def c6O(b:Bq)(hb:Bb 1000000000 b):FZ 120 [.agg b.enc] (.tup [cls (ofC b),ints (ofE b)]):=by
 refine kW Tryz.func120 (by cbv) (by rfl) λw O hw=>?_;have af:=@b5w b;have D:ofE b=if 0<Nm.A9 b.lx b.hx\/0<Nm.A9 b.ly b.hy then 1 else if(a2l b.lx b.hx&&a2l b.ly b.hy)=false then 17 else if 400<(flI b.hx-R3 b.lx+1)*(flI b.hy-R3 b.ly+1) then 2 else 0:=rfl
 have hC:ofC b=if ofE b=0 then a5V (R3 b.lx) (R3 b.ly) (wid (R3 b.lx) (flI b.hx)) (wid (R3 b.ly) (flI b.hy)) else[]:=rfl
 have hS:(a2l b.lx b.hx&&a2l b.ly b.hy)=true->(onB (R3 b.lx)=true/\onB (flI b.hx)=true)/\(onB (R3 b.ly)=true/\onB (flI b.hy)=true):=λG=>by
  unfold a2l at G;simp only[d0s]at G;exact⟨⟨G.1.1.2,G.1.2⟩,⟨G.2.1.2,G.2.2⟩⟩
 rw[hC];clear af hC;obtain⟨N,M,H,I⟩:=b;obtain⟨b1,b2,b3,b4⟩:=hb;simp only at b1 b2 b3 b4 D hS ⊢;have o1:=P8 (Nm.ofQ N) (Nm.ofQ H) (b1.m rfl) (b3.m rfl);have o2:=P8 (Nm.ofQ M) (Nm.ofQ I) (b2.m rfl) (b4.m rfl);rw[Nm.y8,Nm.y8]at o1 o2;have o3:=b8A N H b1 b3;have o4:=b8A M I b2 b4;generalize ofE ⟨N,M,H,I⟩=E at*;generalize Nm.A9 N H=c1 at*;generalize Nm.A9 M I=c2 at*;generalize a2l N H=s1 at*;generalize a2l M I=s2 at*;generalize R3 N=h at*;generalize R3 M=F at*;generalize flI H=J at*;generalize flI I=K at*;clear b1 b2 b3 b4;simp only[j4,TT,II,OA,OC,MM,LL,FF,MG,LG,FG];simp only[Bq.enc,rq,rc,sb,ints,cls]at o1 o2 o3 o4 ⊢
 (repeat first|refine uA ?_|(refine uK ?_ ?_;focus first|omega|(intros;simp_all<;>omega))|simp(disch:=omega) only[go_sem,Nat.reduceAdd]|(refine uD o1 ?_ ?_ ?_;exact tz hw;exact rfl)|(refine uD o2 ?_ ?_ ?_;exact tz hw;exact rfl));refine S.cond rfl (λu=>?_) (λu=>?_)
 ·have h1:0<c1\/0<c2:=by
   revert u;by_cases k1:0<c1<;>by_cases k2:0<c2<;>simp[k1,k2]
  rw[if_pos h1]at D;subst D;rw[if_neg (by decide)];(repeat first|refine uA ?_|(refine uK ?_ ?_;focus first|omega|(intros;simp_all<;>omega))|simp(disch:=omega) only[go_sem]);(exact uQ rfl (Imp.tup (by(repeat' (first|exact j3.nil|exact Imp.refl rfl|exact Imp.frz rfl rfl rfl|exact Imp.D8|refine Imp.agg ?_|refine j3.cons ?_ ?_)))) rfl rfl)
 have h1:¬(0<c1\/0<c2):=by
  revert u;by_cases k1:0<c1<;>by_cases k2:0<c2<;>simp[k1,k2]
 rw[if_neg h1]at D;(repeat first|refine uA ?_|(refine uK ?_ ?_;focus first|omega|(intros;simp_all<;>omega))|simp(disch:=omega) only[go_sem,Nat.reduceAdd]|(refine uD o3 ?_ ?_ ?_;exact tz hw;exact rfl)|(refine uD o4 ?_ ?_ ?_;exact tz hw;exact rfl));refine S.cond rfl (λu=>?_) (λu=>?_)
 ·have G:(s1&&s2)=false:=by
   revert u;cases s1<;>cases s2<;>simp
  rw[if_pos G]at D;subst D;rw[if_neg (by decide)];(repeat first|refine uA ?_|(refine uK ?_ ?_;focus first|omega|(intros;simp_all<;>omega))|simp(disch:=omega) only[go_sem]);(exact uQ rfl (Imp.tup (by(repeat' (first|exact j3.nil|exact Imp.refl rfl|exact Imp.frz rfl rfl rfl|exact Imp.D8|refine Imp.agg ?_|refine j3.cons ?_ ?_)))) rfl rfl)
 have G:(s1&&s2)=true:=by
  revert u;cases s1<;>cases s2<;>simp
 obtain⟨⟨e1,e2⟩,e3,e4⟩:=hS G;rw[if_neg (by rw[G];decide)]at D;rw[a5J]at e1 e2 e3 e4;obtain⟨A,hA⟩:∃A,A=J-h+1:=⟨_,rfl⟩
 obtain⟨B,hB⟩:∃B,B=K-F+1:=⟨_,rfl⟩
 rw[<- hA,<- hB]at D;have hP:-65536<=A*B/\A*B<=65536:=by
  have a1:-128<=A/\A<=128:=by omega
  have a2:-128<=B/\B<=128:=by omega
  have hq:=Int.natAbs_mul A B;have:=Nat.mul_le_mul (show A.natAbs<=128 by omega) (show B.natAbs<=128 by omega);omega
 have U:J-h+1=A:=hA.symm;have W:K-F+1=B:=hB.symm;generalize ab:A*B=AB at D hP;(repeat first|refine uA ?_|(refine uK ?_ ?_;focus first|omega|(intros;simp_all<;>omega))|simp(disch:=omega) only[go_sem,ww,U,W,ab]);refine S.cond rfl (λu=>?_) (λu=>?_)
 ·rw[if_pos (by simpa using u)]at D;subst D;rw[if_neg (by decide)];(repeat first|refine uA ?_|(refine uK ?_ ?_;focus first|omega|(intros;simp_all<;>omega))|simp(disch:=omega) only[go_sem]);(exact uQ rfl (Imp.tup (by(repeat' (first|exact j3.nil|exact Imp.refl rfl|exact Imp.frz rfl rfl rfl|exact Imp.D8|refine Imp.agg ?_|refine j3.cons ?_ ?_)))) rfl rfl)
 rw[if_neg (by simpa using u)]at D;subst D;rw[if_pos rfl];obtain⟨m,hm⟩:∃m,m=wid h J:=⟨_,rfl⟩
 obtain⟨n,hn⟩:∃n,n=wid F K:=⟨_,rfl⟩
 have am:m=(J+1-h).toNat:=hm;have al:n=(K+1-F).toNat:=hn;rw[<- hm,<- hn];have V:∀i j,i<=n->j<=m->(a5V h F m i).length+j<=20000:=λi j hi hj=>by
  rw[b0D];have:=Nat.mul_le_mul (show i<=128 by omega) (show m<=128 by omega);omega
 clear o1 o2 o3 o4 hP ab U W hA hB hm hn;(repeat first|refine uA ?_|(refine uK ?_ ?_;focus first|omega|(intros;simp_all<;>omega))|simp(disch:=omega) only[go_sem]);refine S.loop (X:=Nat) (λi=>⟨[(4,ints h),(5,ints J),(8,ints K),(10,.rv 1),(11,ints (F+(i:Int)))],[.gone,.row 120 2 ((a5V h F m i).map ce)]⟩) (λi=>i<=n) (λi=>n-i) 0 (d0k _) (Ent.trans (Ent.pack 10 120 2 rfl) (by simp only[ints,Int.natCast_zero,Int.add_zero,show a5V h F m 0=[] from rfl,d0p];exact(by(repeat first|refine uA ?_|(refine⟨?_,?_⟩;focus first|rfl|simp[slot])|rfl|simp)))) ?_
 intro i hi;simp only[ints];(repeat first|refine uA ?_|(refine uK ?_ ?_;focus first|omega|(intros;simp_all<;>omega))|simp(disch:=omega) only[go_sem]);(refine uJ rfl (λu=>?_) λu=>?_)
 ·have Y:i<n:=by omega
  have ah:=V i;have ac:=b2M h F m i;generalize a5V h F m i=T at*;obtain⟨y,I⟩:∃y,y=F+(i:Int):=⟨_,rfl⟩
  have ag:F+((i+1:Nat):Int)=y+1:=by omega
  rw[<- I]at ac ⊢;(repeat first|refine uA ?_|(refine uK ?_ ?_;focus first|omega|(intros;simp_all<;>omega))|simp(disch:=omega) only[go_sem]);refine S.loop (X:=Nat) (λj=>⟨[(4,ints h),(5,ints J),(8,ints K),(10,.rv 1),(11,ints y),(12,ints (h+(j:Int)))],[.gone,.row 120 2 ((T++a4m h y j).map ce)]⟩) (λj=>j<=m) (λj=>m-j) 0 (d0k _) (by simp only[ints,Int.natCast_zero,Int.add_zero,show a4m h y 0=[] from rfl,List.append_nil];exact(by(repeat first|refine uA ?_|(refine⟨?_,?_⟩;focus first|rfl|simp[slot])|rfl|simp))) ?_
  intro j hj;simp only[ints];(repeat first|refine uA ?_|(refine uK ?_ ?_;focus first|omega|(intros;simp_all<;>omega))|simp(disch:=omega) only[go_sem]);(refine uJ rfl (λu=>?_) λu=>?_)
  ·have P:j<m:=by omega
   have ai:=ah j (by omega) hj;have Z:=c1K h y j;have aj:=b4u h y j;have aa:h+((j+1:Nat):Int)=h+(j:Int)+1:=by omega
   obtain⟨x,H⟩:∃x,x=h+(j:Int):=⟨_,rfl⟩
   rw[<- H]at Z aa ⊢;have ae:(T++a4m h y (j+1)).map ce=(T++a4m h y j).map ce++[[C.v (.int .i64 x),.v (.int .i64 y)]]:=by
    rw[Z,<- d0o,d0u (l₂:=[(x,y)])];rfl
   have ak:((T++a4m h y j).map ce).length<=20000:=by rw[d0d,d0c,aj];exact ai
   generalize(T++a4m h y j).map ce=R at*;(repeat first|refine uA ?_|(refine uK ?_ ?_;focus first|omega|(intros;simp_all<;>omega))|simp(disch:=omega) only[go_sem,Nat.reduceAdd,ww]);refine S.next (j+1) (by omega) (by omega) (by simp only[aa,ae];exact(by(repeat first|refine uA ?_|(refine⟨?_,?_⟩;focus first|rfl|simp[slot])|rfl|simp)))
  ·have P:j=m:=by omega
   subst P;rw[<- ac];(repeat first|refine uA ?_|(refine uK ?_ ?_;focus first|omega|(intros;simp_all<;>omega))|simp(disch:=omega) only[go_sem,ww]);refine S.next (i+1) (by omega) (by omega) (by simp only[ag];exact(by(repeat first|refine uA ?_|(refine⟨?_,?_⟩;focus first|rfl|simp[slot])|rfl|simp)))
 ·have Y:i=n:=by omega
  subst Y;(repeat first|refine uA ?_|(refine uK ?_ ?_;focus first|omega|(intros;simp_all<;>omega))|simp(disch:=omega) only[go_sem]);(exact uQ rfl (Imp.tup (by(repeat' (first|exact j3.nil|exact Imp.refl rfl|exact Imp.frz rfl rfl rfl|exact Imp.D8|refine Imp.agg ?_|refine j3.cons ?_ ?_)))) rfl rfl)
set_option maxHeartbeats 4000000
def nuI(a:Nm.Rt):Int:=Nm.sgn a.neg (Nm.val a.num)
def deI(a:Nm.Rt):Int:=max (Nm.val a.den:Int) 1
def c8Y(x:Lk)(k:Int):Nm.Rt:=Q (8*nuI x.low*deI x.high+(nuI x.high*deI x.low-nuI x.low*deI x.high)*k) (8*deI x.low*deI x.high)
def c4P:List Lk->List Int->List Nm.Rt
 | [],_=>[]
 | x::r,l=>c8Y x (nx l 9)::c4P r (l.drop 1)
structure c9Y(x:Lk)(k:Int):Prop where
 n1:-1000000<=nuI x.low/\nuI x.low<=1000000
 n2:-1000000<=nuI x.high/\nuI x.high<=1000000
 d1:1<=deI x.low/\deI x.low<=1000
 d2:1<=deI x.high/\deI x.high<=1000
 p1:-1000000000<=nuI x.low*deI x.high/\nuI x.low*deI x.high<=1000000000
 p2:-1000000000<=nuI x.high*deI x.low/\nuI x.high*deI x.low<=1000000000
 p3:-16000000000<=(nuI x.high*deI x.low-nuI x.low*deI x.high)*k/\(nuI x.high*deI x.low-nuI x.low*deI x.high)*k<=16000000000
 p4:1<=deI x.low*deI x.high/\deI x.low*deI x.high<=1000000
 p5:8*nuI x.low*deI x.high=8*(nuI x.low*deI x.high)
 p6:8*deI x.low*deI x.high=8*(deI x.low*deI x.high)
def b0G(l:List UInt8)(b:UInt8):Nm.val (l++[b])=256*Nm.val l+b.toNat:=by
 unfold Nm.val;rw[List.foldl_append];rfl
def c9z(x:Lk)(c q:Nm.Rt):Nm.Rt:=Nm.ofQ (J8 (-(Nm.d9 x.speed)) (K3 (Nm.d9 x.speed) (Nm.d9 c-Nm.d9 q)))
def c8O(L:List Lk)(c q:List Nm.Rt):List Nm.Rt:=(L.zip (c.zip q)).map λz=>c9z z.1 z.2.1 z.2.2
def c8S(z:List (Am×Ast))(to:List Int)(i:Nat):List Nm.Rt:=match z[i]? with
 | some (a,x)=>c8O a.links (c4P a.links (to.drop (3*i))) x.q
 | none=>[]
def c4K(z:List (Am×Ast))(to:List Int)(n:Nat):List (List Nm.Rt):=(List.range n).map (c8S z to)
structure c9Z(w:Wk)(s:Stt)(k:Nat):Prop where
 st:Z5 w s=0
 q:∀x∈s.arms,∀r∈x.q,Rb (100+1000*k) r
structure c7U(y b:Ast)(j:Nat)(v:Nm.Rt):Prop where
 ex:∃bv q bq,b.v[j]?=some bv/\y.q[j]?=some q/\b.q[j]?=some bq/\¬0<Nm.A9 (q9 (Nm.d9 v)) (q9 (Nm.d9 bv))/\(F3 (Nm.d9 bv)=0->q=bq)/\Rb 1048576 bv/\Rb 1048576 v
structure d0a(y b:Ast):Prop where
 power:y.power=false
 vlen:y.v.length=b.v.length
 qlen:y.q.length=y.v.length
 small:y.v.length<=3
 joint:∀j v,y.v[j]?=some v->c7U y b j v
structure c9X(w:Wk)(s:Stt)(to:List Int):Prop where
 step:c9m w s (c4K (w.arms.zip s.arms) to w.arms.length) (List.replicate w.arms.length true) []=0
 next:Calm w (c9g w s (c4K (w.arms.zip s.arms) to w.arms.length) (List.replicate w.arms.length true) []) 1
set_option maxRecDepth 10000
set_option maxHeartbeats 8000000
instance :DecidableEq Nm.Rt:=λ⟨a,b,c⟩ ⟨d,e,f⟩=>decidable_of_iff (a=d/\b=e/\c=f) ⟨λ⟨B,A,u⟩=>by rw[B,A,u],λh=>by injection h with B A u;exact⟨B,A,u⟩⟩
instance :DecidableEq Vt:=λ⟨a,b⟩ ⟨d,e⟩=>decidable_of_iff (a=d/\b=e) ⟨λ⟨A,u⟩=>by rw[A,u],λh=>by injection h with A u;exact⟨A,u⟩⟩
instance :DecidableEq Fr:=λ⟨a,b,c,g⟩ ⟨d,e,f,h⟩=>decidable_of_iff (a=d/\b=e/\c=f/\g=h) ⟨λ⟨B,A,u,D⟩=>by rw[B,A,u,D],λh=>by injection h with B A u D;exact⟨B,A,u,D⟩⟩
instance :DecidableEq Ast:=λ⟨a,b,c,g⟩ ⟨d,e,f,h⟩=>decidable_of_iff (a=d/\b=e/\c=f/\g=h) ⟨λ⟨B,A,u,D⟩=>by rw[B,A,u,D],λh=>by injection h with B A u D;exact⟨B,A,u,D⟩⟩
instance :DecidableEq Stt:=λ⟨a,b,c,g,i⟩ ⟨d,e,f,h,j⟩=>decidable_of_iff (a=d/\b=e/\c=f/\g=h/\i=j) ⟨λ⟨B,A,u,D,E⟩=>by rw[B,A,u,D,E],λh=>by injection h with B A u D E;exact⟨B,A,u,D,E⟩⟩
set_option maxHeartbeats 4000000
def azL:List UInt8:=[97,98,99,100,101,102,103,104,105,106,107,108,109,110,111,112,113,114,115,116,117,118,119,120,121,122]
def c8r:∀n:Fin 256,azL.contains (UInt8.ofNat n)=M9 (UInt8.ofNat n):=by decide +kernel
def c1d(b:UInt8):azL.contains b=M9 b:=by
 have h:=c8r ⟨b.toNat,b.toNat_lt⟩;simpa using h
theorem c1i{p:UInt8->Bool}{x:UInt8}:∀{l:List UInt8},x∈l.takeWhile p->p x=true
 | [],h=>by simp at h
 | y::l,h=>by
  rw[List.takeWhile_cons]at h;split at h
  ·rcases List.mem_cons.1 h with rfl|h
   ·assumption
   ·exact c1i h
  ·cases h
theorem b4w{p:UInt8->Bool}:∀{l:List UInt8},l.dropWhile p=[] <-> l.all p=true
 | []=>by simp
 | x::l=>by
  rw[List.dropWhile_cons,List.all_cons];cases h:p x
  ·simp
  ·simpa using b4w (p:=p) (l:=l)
def c2N(l:List UInt8):Lib.trimS l azL=[] <-> l.all M9=true:=by
 have E:(λb=>azL.contains b)=M9:=funext c1d;unfold Lib.trimS Lib.trimLeftS Lib.trimRightS;rw[E,b4w];constructor
 ·intro h;rw[List.all_eq_true]at h ⊢;intro x A;cases D:M9 x with
  | true=>rfl
  | false=>
   have:x∈(l.reverse.dropWhile M9).reverse:=by
    rw[List.mem_reverse];have u:x∈l.reverse:=List.mem_reverse.2 A;rw[<- List.takeWhile_append_dropWhile (p:=M9) (l:=l.reverse)]at u;rcases List.mem_append.1 u with B|B
    ·have:=c1i B;rw[D]at this;cases this
    ·exact B
   have:=h x this;rw[D]at this;cases this
 ·intro h;rw[List.all_eq_true]at h ⊢;intro x A;exact h x (List.mem_reverse.1 ((List.dropWhile_sublist _).mem (List.mem_reverse.1 A)))
def c6D(s:List UInt8)(B:s.length<=1099511627776):p8 Tryz.prog 149 [sb s,.v (.string ⟨#[97,98,99,100,101,102,103,104,105,106,107,108,109,110,111,112,113,114,115,116,117,118,119,120,121,122]⟩)] (sb (Lib.trimS s azL)):=by
 intro O w vs F h;simp only[FzL,sb,Fz]at h;obtain⟨y,D,rfl,rfl,z,E,rfl,rfl,rfl⟩:=h;refine(Any.strings_Trim_laid Tryz.c5j (by kernel_rfl) (bs s) ⟨#[97,98,99,100,101,102,103,104,105,106,107,108,109,110,111,112,113,114,115,116,117,118,119,120,121,122]⟩ w (by rw[x9];omega) (by decide) (ascii_of_all (by decide))).mono ?_;rintro e A ⟨rfl,u⟩;exact⟨_,rfl,u,by simp only[sb,Fz,a0F];rfl⟩
def c6G(s:List UInt8)(B:s.length<=1099511627776):p8 Tryz.prog 106 [sb s] (.v (.bool (a1G s))):=by
 refine kS Tryz.func106 (by cbv) (by rfl) λw O=>?_;have h:=c6D s B;have e:a1G s=((!decide (s=[])&&decide ((s.length:Int)<=12))&&decide (Lib.trimS s azL=[])):=by
  have D:decide (Lib.trimS s azL=[])=s.all M9:=by
   have:=c2N s;cases h:s.all M9
   ·exact decide_eq_false (λu=>by rw[this.1 u]at h;cases h)
   ·exact decide_eq_true (this.2 h)
  have u:(s.all λb=>decide (97<=b.toNat)&&decide (b.toNat<=122))=s.all M9:=rfl;have A:decide (1<=s.length)=!decide (s=[]):=by cases s<;>simp
  have E:decide (s.length<=12)=decide ((s.length:Int)<=12):=by apply decide_eq_decide.2;omega
  unfold a1G;rw[D,u,A,E];cases s.all M9<;>cases(decide (s=[]))<;>cases(decide ((s.length:Int)<=12))<;>rfl
 rw[e];generalize Lib.trimS s azL=t at*;simp only[j4,TT,II,OA,OC,MM,MG];simp only[sb]at*;(repeat first|refine uA ?_|simp(disch:=omega) only[go_sem,x9,a0V]|refine uB h rfl ?_);exact uS rfl rfl
def a6E{α:Type}{f:α->Bool}{l:List α}{i:Nat}{x:α}(h:l[i]?=some x):(l.drop i).all f=(f x&&(l.drop (i+1)).all f):=by
 obtain⟨u,A⟩:=d0i.1 h;rw[List.drop_eq_getElem_cons u,List.all_cons,A]
def a7y{α:Type}{f:α->Bool}{l:List α}{i:Nat}(h:l.length<=i):(l.drop i).all f=true:=by rw[List.drop_eq_nil_of_le h];rfl
def a1w{a:Nm.Rt}:l7 a=(decide a.I4&&l7 a):=by
 unfold l7;cases decide a.I4<;>simp
def a6o(l:List Nm.Rt)(K:Rbs 17179869184 l):FZ 110 [rts l] (.v (.bool (l.all l7))):=by
 refine kW Tryz.func110 (by cbv) (by rfl) λw O F=>?_;obtain⟨P,I⟩:=K;simp only[j4,TT,II,OA,OB,OC,MM,LL,LG,rts];(repeat first|refine uA ?_|simp(disch:=omega) only[go_sem,d0d]);refine S.loop (X:=Nat) (λi=>⟨[(5,rts l),(6,ints l.length),(7,ints i)],[]⟩) (λi=>i<=l.length/\l.all l7=(l.drop i).all l7) (λi=>l.length-i) 0 ⟨d0k _,rfl⟩ (by repeat first|refine uA ?_|refine⟨rfl,?_⟩|rfl|simp) ?_
 rintro i ⟨M,B⟩;simp only[rts,ints]at M ⊢;refine uV rfl ?_;apply uJ rfl<;>intro N
 ·have h:=d0b (show i<l.length by omega);generalize l[i]'(_)=x at h;have H:=I x (d0g h);have D:=a6E (f:=l7) h;have E:=a0S x (H.m rfl);have G:=a4C x H;rw[a1w]at D;generalize decide x.I4=A at*;generalize l7 x=u at*;simp only[rc,sb]at E G;(repeat first|refine uA ?_|simp(disch:=omega) only[go_sem,Nat.reduceAdd,h,d0e,d0d,rcs,sb,d0h]|refine uD E (tz F) rfl ?_|refine uD G (tz F) rfl ?_);apply S.cond rfl<;>intro J
  ·rw[B,D,show(A&&u)=false by cases A<;>cases u<;>simp_all,Bool.false_and];exact uT rfl rfl rfl
  ·(repeat first|refine uA ?_|simp(disch:=omega) only[go_sem]);refine S.next (i+1) ⟨by omega,by rw[B,D,show(A&&u)=true by cases A<;>cases u<;>simp_all,Bool.true_and]⟩ (by omega) (by repeat first|refine uA ?_|refine⟨rfl,?_⟩|rfl|simp)
 ·rw[B,a7y (by omega)];exact uT rfl rfl rfl
def a7U(l:List Nm.Rt)(I:Rbs 17179869184 l):FZ 43 [rts l] (.v (.bool (l.all F9))):=by
 refine kW Tryz.func43 (by cbv) (by rfl) λw O F=>?_;obtain⟨K,G⟩:=I;simp only[j4,TT,II,OA,OB,MM,LL,rts];(repeat first|refine uA ?_|simp(disch:=omega) only[go_sem,d0d]);refine S.loop (X:=Nat) (λi=>⟨[(5,rts l),(6,ints l.length),(7,ints i)],[]⟩) (λi=>i<=l.length/\l.all F9=(l.drop i).all F9) (λi=>l.length-i) 0 ⟨d0k _,rfl⟩ (by repeat first|refine uA ?_|refine⟨rfl,?_⟩|rfl|simp) ?_
 rintro i ⟨J,A⟩;simp only[rts,ints]at J ⊢;refine uV rfl ?_;apply uJ rfl<;>intro M
 ·have h:=d0b (show i<l.length by omega);generalize l[i]'(_)=x at h;have H:=G x (d0g h);have D:=a6E (f:=F9) h;have B:=a0S x (H.m rfl);rw[show decide x.I4=F9 x from rfl]at B;generalize F9 x=E at*;simp only[rc,sb]at B;(repeat first|refine uA ?_|simp(disch:=omega) only[go_sem,Nat.reduceAdd,h,d0e,d0d,rcs,sb,d0h]|refine uD B (tz F) rfl ?_);apply S.cond rfl<;>intro u
  ·rw[A,D,show E=false by simpa using u,Bool.false_and];exact uT rfl rfl rfl
  ·(repeat first|refine uA ?_|simp(disch:=omega) only[go_sem]);refine S.next (i+1) ⟨by omega,by rw[A,D,show E=true by simpa using u,Bool.true_and]⟩ (by omega) (by repeat first|refine uA ?_|refine⟨rfl,?_⟩|rfl|simp)
 ·rw[A,a7y (by omega)];exact uT rfl rfl rfl
def okF_eq(f:Fr):okF f=([f.x,f.y,f.t].all l7 && !a4X f.half f.t):=by
 rw[a7e,a1w (a:=f.x),a1w (a:=f.y),a1w (a:=f.t)];unfold okF okV;simp only;generalize a4X f.half f.t=z;cases decide f.x.I4<;>cases decide f.y.I4<;>cases decide f.t.I4<;>cases l7 f.x<;>cases l7 f.y<;>cases l7 f.t<;>cases z<;>rfl
def b6F(v:Vt):okV v=[v.x,v.y].all l7:=by
 rw[a5Q,a1w (a:=v.x),a1w (a:=v.y)];unfold okV;cases decide v.x.I4<;>cases decide v.y.I4<;>cases l7 v.x<;>cases l7 v.y<;>rfl
def b5V(f:Fr)(G:Fb 17179869184 f):FZ 109 [f.c] (.v (.bool (okF f))):=by
 refine kW Tryz.func109 (by cbv) (by rfl) λw O u=>?_;rw[okF_eq];obtain⟨x,y,B,t⟩:=f;obtain⟨A,D,h⟩:=G;simp only at A D h;have E:=a6o _ (Rbs.three (by decide) A D h);have F:=U4 t h;unfold a4X;simp only;generalize[x,y,t].all l7=q1 at*;generalize F3 (Nm.d9 t)=n at*;simp only[j4,TT,II,OA,OC,MM,LL,FF,MG,LG,VG,FG];simp only[Fr.c,Fr.enc,rts,rcs,rc,sb,ints,d0l,d0p]at*
 (repeat first|refine uA ?_|(apply uK;· first|omega|(intros;simp_all<;>omega))|simp(disch:=omega) only[go_sem,Nat.reduceAdd]|refine uD F (tz u) rfl ?_|(refine uE E ?_ ?_ ?_ ?_;exact tz u;exact rfl;focus (repeat' first|exact j3.nil|exact Imp.refl rfl|exact Imp.frz rfl rfl rfl|(refine Imp.O0 rfl rfl ?_ ?_;(focus ((try simp only[d0c]);omega));(focus first|rfl|assumption))|refine j3.cons ?_ ?_);done));exact S.done (H6.out rfl (Imp.refl (by rfl)) rfl)
def b4D(l:List Vt)(G:Vbs 1073741824 l):FZ 108 [vts l] (ints (U3 l)):=by
 refine kW Tryz.func108 (by cbv) (by rfl) λw O E=>?_;have J:=a7n l G;obtain⟨M,I⟩:=G;unfold U3;generalize a0f l 8=e at*;simp only[j4,TT,II,OA,OB,MM,LL,FF];simp only[vts,ints]at*;(repeat first|refine uA ?_|simp(disch:=omega) only[go_sem]|refine uD J (tz E) rfl ?_);apply S.cond rfl<;>intro D
 ·rw[if_pos (by simpa using D)];exact uT rfl rfl rfl
 rw[if_neg (by simpa using D)];(repeat first|refine uA ?_|simp(disch:=omega) only[go_sem,d0d]);refine S.loop (X:=Nat) (λi=>⟨[(11,vts l),(12,ints l.length),(13,ints i)],[]⟩) (λi=>i<=l.length/\l.all okV=(l.drop i).all okV) (λi=>l.length-i) 0 ⟨d0k _,rfl⟩ (by repeat first|refine uA ?_|refine⟨rfl,?_⟩|rfl|simp) ?_
 rintro i ⟨K,A⟩;simp only[vts,ints]at K ⊢;refine uV rfl ?_;apply uJ rfl<;>intro D
 ·have h:=d0b (show i<l.length by omega);generalize l[i]'(_)=v at h;have F:=I v (d0g h);have B:=a6E (f:=okV) h;rw[b6F]at B;have H:=a6o _ (Rbs.two (by decide) (F.1.mono (m:=17179869184) (by decide)) (F.2.mono (m:=17179869184) (by decide)));generalize[v.x,v.y].all l7=q at*;simp only[rts,rcs,sb,d0l,d0p]at H
  (repeat first|refine uA ?_|simp(disch:=omega) only[go_sem,Nat.reduceAdd,h,d0e,d0d,Vt.enc,sb,d0h]|(refine uE H ?_ ?_ ?_ ?_;exact tz E;exact rfl;focus (repeat' first|exact j3.nil|exact Imp.refl rfl|exact Imp.frz rfl rfl rfl|(refine Imp.O0 rfl rfl ?_ ?_;(focus ((try simp only[d0c,h,d0e,d0d,Vt.enc,sb,d0h]);omega));(focus first|rfl|assumption))|refine j3.cons ?_ ?_);done));apply S.cond rfl<;>intro u
  ·rw[A,B,show q=false by simpa using u,Bool.false_and,if_neg (by decide)];exact uT rfl rfl rfl
  ·(repeat first|refine uA ?_|simp(disch:=omega) only[go_sem]);refine S.next (i+1) ⟨by omega,by rw[A,B,show q=true by simpa using u,Bool.true_and]⟩ (by omega) (by repeat first|refine uA ?_|refine⟨rfl,?_⟩|rfl|simp)
 ·rw[A,a7y (by omega),if_pos rfl];exact uT rfl rfl rfl
set_option maxHeartbeats 16000000
def nmR(n:Nms):List (List C):=n.map λs=>[sb s]
def c7g(n:Nms)(s:List UInt8)(I:n.length<=1099511627776):p8 Tryz.prog 150 [.sl 1 (nmR n),sb s] (ints (a1b (λx=>decide (s=x)) n)):=by
 refine kS Tryz.func150 (by cbv) (by rfl) λw O=>?_;simp only[j4,TT,II,OA,MM,VV,nmR,sb];(repeat first|refine uA ?_|simp(disch:=omega) only[go_sem,Nat.reduceAdd,d0d]);refine S.loop (X:=Nat) (λi=>⟨[(0,.sl 1 (nmR n)),(1,sb s),(7,ints n.length),(8,ints i)],[]⟩) (λi=>i<=n.length/\∀j,j<i->∀x,n[j]?=some x->decide (s=x)=false) (λi=>n.length-i) 0 ⟨d0k _,λ_ h=>absurd h (Nat.not_lt_zero _)⟩ (by simp only[nmR,sb];exact(by repeat first|refine uA ?_|refine⟨rfl,?_⟩|rfl|simp)) ?_
 rintro i ⟨H,E⟩;simp only[nmR,sb,ints];refine uV rfl ?_;apply uJ rfl<;>intro J
 ·have u:=d0b (show i<n.length by omega);generalize n[i]'(_)=x at u;(repeat first|refine uA ?_|simp(disch:=omega) only[go_sem,u,d0e,d0d,d0h,a6S]);apply S.cond rfl<;>intro A
  ·rw[a2e (p:=λx=>decide (s=x)) u A E];exact uT rfl rfl rfl
  ·(repeat first|refine uA ?_|simp(disch:=omega) only[go_sem]);refine S.next (i+1) ⟨by omega,λj G y B=>?_⟩ (by omega) (by repeat first|refine uA ?_|refine⟨rfl,?_⟩|rfl|simp)
   rcases d0B j i with F|F
   ·exact E j F y B
   ·have:j=i:=by omega
    subst this;rw[u]at B;cases B;exact A
 ·have D:i=n.length:=by omega
  subst D;rw[a1l E];exact uT rfl rfl rfl
def c5t(n:Nms)(s:List UInt8):n.any (λx=>decide (s=x))=n.contains s:=by
 rw[Bool.eq_iff_iff,List.any_eq_true,List.contains_iff_mem];exact⟨λ⟨x,u,A⟩=>by rw[of_decide_eq_true A];exact u,λh=>⟨s,h,by simp⟩⟩
def c7o(n:Nms)(s:List UInt8)(u:n.length<=1099511627776):p8 Tryz.prog 107 [.sl 1 (nmR n),sb s] (.v (.bool (n.contains s))):=by
 refine kS Tryz.func107 (by cbv) (by rfl) λw O=>?_;have h:=c7g n s u;rw[<- c5t,<- a2A];generalize a1b (λx=>decide (s=x)) n=k at*;simp only[j4,TT,II,OA,MM];simp only[sb,ints]at*;(repeat first|refine uA ?_|simp(disch:=omega) only[go_sem,Nat.reduceAdd]|refine uB h rfl ?_);exact uS rfl rfl
def rsR(w:Wk)(n:Nms):List Res:=[.box 31 w.enc,.box 209 [.rv 2],.row 9 1 (nmR n)]
def c5P{E:Ctx}(J:E.P=Tryz.prog)(w:Wk)(n:Nms)(s:List UInt8)(X:s.length<=1099511627776)(Z:n.length<=1000000) :
  l5 E (rsR w n) 105 [sb s,.bp 1 0] (ints (R5 n s).1) (rsR w (R5 n s).2) [2]:=by
 obtain⟨P,K,N,w0,M,W,V,U⟩:=E;simp only at J;subst J;refine l5.of (eff:=eff) Tryz.func105 (by cbv) (by exact d0n rfl) λw' own av ν D=>?_;have h:ν.length<=3:=by rw[D];exact d0m _
 have I:=c6G s X;have R:=c7o n s (by omega);have u:nmR (n++[s])=nmR n++[[sb s]]:=by simp[nmR]
 unfold R5;generalize a1G s=q at*;generalize n.contains s=c at*;have Y:(nmR n).length=n.length:=by simp[nmR]
 obtain⟨T,G,B,H,F,O⟩:=w;simp only[j4,TT,II,OA,OB,MM,VV];simp only[rsR,Wk.enc,ams,wls,pts,sls,gts,sb,ints]at I R u ⊢;(repeat first|refine uA ?_|simp(disch:=omega) only[go_sem,Nat.reduceAdd]|refine uB I rfl ?_);apply S.cond rfl<;>intro A
 ·rw[if_pos (by simpa using A)]
  (exact uY rfl rfl (Imp.refl rfl) (by repeat first|refine uA ?_|refine⟨rfl,?_⟩|rfl|simp) (d0f h (by simp)))
 rw[if_neg (by simpa using A)];(repeat first|refine uA ?_|simp(disch:=omega) only[go_sem]|(refine uC R ?_ ?_ ?_;exact rfl;focus (repeat' first|exact j3.nil|exact Imp.refl rfl|exact Imp.frz rfl rfl rfl|(refine Imp.O0 rfl rfl ?_ ?_;(focus ((try simp only[d0c]);omega));(focus first|rfl|assumption))|refine j3.cons ?_ ?_);done));apply S.cond rfl<;>intro A
 ·rw[if_pos A]
  (exact uY rfl rfl (Imp.refl rfl) (by repeat first|refine uA ?_|refine⟨rfl,?_⟩|rfl|simp) (d0f h (by simp)))
 ·rw[if_neg (by rw[A];decide)];simp only[u];(repeat first|refine uA ?_|(apply uK;· first|omega|(intros;simp_all<;>omega))|simp(disch:=omega) only[go_sem,Nat.reduceAdd,Y]);(exact uR rfl (Imp.refl rfl) (by repeat first|refine uA ?_|refine⟨rfl,?_⟩|rfl|simp[slot]) (d0f h (by simp)))
def a8w(n:Nms)(s:List UInt8):(R5 n s).2.length<=n.length+1:=by
 unfold R5;split
 ·simp
 ·split
  ·simp
  ·simp
def b7S(p q:Rat):decide (Nm.A9 p q=1)=!decide (Nm.A9 p q<=0):=by
 have h:-1<=Nm.A9 p q/\Nm.A9 p q<=1:=by
  unfold Nm.A9
  repeat' split
  all_goals first
   | omega
   | (have:=b1C (p.num.natAbs*q.den) (q.num.natAbs*p.den);omega)
 by_cases u:Nm.A9 p q<=0
 ·rw[decide_eq_true u,decide_eq_false (by omega)];rfl
 ·rw[decide_eq_false u,decide_eq_true (by omega)];rfl
def b5X(q:Rat):-1<=F3 q/\F3 q<=1:=by unfold F3;split;omega;split<;>omega
def sign_one(q:Rat):decide (F3 q<1)=!decide (0<F3 q):=by
 rw[<- decide_not];apply decide_eq_decide.2;omega
def c0e(q:Rat):decide (F3 q=-1)=!decide (0<=F3 q):=by
 have:=b5X q;rw[<- decide_not];apply decide_eq_decide.2;omega
set_option maxRecDepth 100000
def dX(t f g:Fr):Rat:=Nm.d9 t.x-c7h f ⟨g.x,g.y⟩
def dY(t f g:Fr):Rat:=Nm.d9 t.y-c7c f ⟨g.x,g.y⟩
def c8w(t f g:Fr):Prop:=0<Nm.A9 (q9 (dX t f g)) (1/8)\/0<Nm.A9 (q9 (dY t f g)) (1/8)
instance(t f g:Fr):Decidable (c8w t f g):=by unfold c8w;infer_instance
set_option maxHeartbeats 4000000
set_option maxHeartbeats 16000000
set_option maxHeartbeats 32000000
set_option maxHeartbeats 16000000
def l5.b8D{E:Ctx}{rs rs2 rs':List Res}{f:Nat}{A u:List C}{s:C}{pk:List Nat}(h:l5 E rs2 f u s rs' pk)(W:j3 rs rs2 A u)(F:C9 rs rs2 rs2 rs)(D:rs2.length=rs.length):l5 E rs f A s rs' pk:=by
 intro X ν w vs I N R V;have K:=a2F F;have G:=W.den I (Cut.of I K) V;have O:ν.take rs2.length=ν:=by rw[D,<- I.len];exact d0w
 rw[O]at G;have H:=I.weak F;rw[O]at H;refine(h X ν w vs H N R G).mono ?_;rintro e Z ⟨y,M,rfl,P,B,T⟩;exact⟨y,M,rfl,P,⟨B.os,B.tape,B.output,B.size,λb J Y=>B.block b J (λU=>Y (a3L K U)),λb J=>(B.own b J).imp (a3L K) id,B.nu⟩,T⟩
def c3h{α:Type}{l m:List α}{i:Nat}{y:α}(A:l.length=m.length)(h:m[i]?=some y):(l.take i++m.drop i)[i]?=some y:=by
 have B:=(d0i.1 h).1;have u:(l.take i).length=i:=by rw[d0r];omega
 rw[d0D (by omega),u,Nat.sub_self,d0Q,Nat.add_zero,h]
set_option maxHeartbeats 4000000
structure Run(a:Am)(q0 u:List Nm.Rt)(j:Nat)(y:Ast):Prop where
 q:y.q.length=a.links.length
 v:y.v.length=a.links.length
 pos:∀(i:Nat) (l:Lk) (b c q v:Nm.Rt),a.links[i]?=some l->q0[i]?=some b->u[i]?=some c->y.q[i]?=some q->y.v[i]?=some v->c9G b c l.brake j q v
def V4(z:List (Lk×Nm.Rt)):Int:=z.foldl (λm z=>max m (D9 (Nm.d9 z.1.brake) (Nm.d9 z.2))) 0
theorem b4N{α:Type}{f:α->Int}:∀(l:List α) (m:Int),m<=l.foldl (λm z=>max m (f z)) m/\∀z∈l,f z<=l.foldl (λm z=>max m (f z)) m
 | [],m=>⟨Int.le_refl _,λz hz=>by cases hz⟩
 | x::l,m=>by
  obtain⟨h1,h2⟩:=b4N (f:=f) l (max m (f x));rw[List.foldl_cons];refine⟨by omega,λz hz=>?_⟩;rcases List.mem_cons.1 hz with rfl|hz
  ·omega
  ·exact h2 z hz
def b4a(z:List (Lk×Nm.Rt)):0<=V4 z:=(b4N (f:=λz:Lk×Nm.Rt=>D9 (Nm.d9 z.1.brake) (Nm.d9 z.2)) z 0).1
set_option maxHeartbeats 8000000
def b1j(l:Lk)(q u:Nm.Rt):Sn:=snQ (loQ q u l.brake) (hiQ q u l.brake)
def K5(L:List Lk)(q u:List Nm.Rt):List Sn:=(L.zip (q.zip u)).map λz=>b1j z.1 z.2.1 z.2.2
def b2W{L:List Lk}{t v:List Nm.Rt}{i:Nat}{l:Lk}{x y:Nm.Rt}(h:L[i]?=some l)(A:t[i]?=some x)(u:v[i]?=some y):(K5 L t v)[i]?=some (b1j l x y):=by
 unfold K5;rw[d0q,M5 h (M5 A u)];rfl
def a6P{L:List Lk}{t v:List Nm.Rt}(h:t.length=L.length)(u:v.length=L.length):(K5 L t v).length=L.length:=by
 unfold K5;simp only[d0d,List.length_zip];omega
def toL(q u:List Nm.Rt):List Nm.Rt:=(q.zip u).map λz=>a1c z.1 z.2
def c1J{q u:List Nm.Rt}{i:Nat}{x y:Nm.Rt}(A:q[i]?=some x)(h:u[i]?=some y):(toL q u)[i]?=some (a1c x y):=by
 unfold toL;rw[d0q,M5 A h];rfl
def c0I{q u:List Nm.Rt}(h:u.length=q.length):(toL q u).length=q.length:=by
 unfold toL;simp only[d0d,List.length_zip];omega
def b0w{z:List (Lk×Nm.Rt)}{i:Nat}{x:Lk×Nm.Rt}(h:z[i]?=some x):V4 (z.take (i+1))=if V4 (z.take i)<D9 (Nm.d9 x.1.brake) (Nm.d9 x.2) then D9 (Nm.d9 x.1.brake) (Nm.d9 x.2) else V4 (z.take i):=by
 unfold V4;rw[take_at h,List.foldl_append,List.foldl_cons,List.foldl_nil];generalize List.foldl _ _ _=m;generalize D9 _ _=k;split<;>omega
def c5B(p q:Rat):K3 p q<=J8 p q:=by
 have h:=(c5u p q).1;have u:=(c5C p q).1;grind
def a7X{k:Nat}{p q:Rat}(u:Rb k (Nm.ofQ p))(h:Rb k (Nm.ofQ q)):Rb k (Nm.ofQ (K3 p q)):=by unfold K3;split;exact u;exact h
def a7D{k:Nat}{p q:Rat}(u:Rb k (Nm.ofQ p))(h:Rb k (Nm.ofQ q)):Rb k (Nm.ofQ (J8 p q)):=by unfold J8;split;exact u;exact h
def a2u(a:Am)(q:List Sp):List Bq:=a3E (U9 (a1L a.base) (a.links.zip q)) a.links
def b0P{a:Am}{q:List Sp}(h:q.length=a.links.length):(a2u a q).length=a.links.length:=by
 unfold a2u a3E;rw[d0d,List.length_zip,a4d,List.length_zip];omega
def b1W(bs:List Bq):List Cl:=if cellsE bs=0 then O5 bs else[]
set_option maxRecDepth 10000
set_option maxHeartbeats 4000000
set_option maxRecDepth 100000
set_option maxHeartbeats 8000000
def Zr(k:Nat)(s:Sn):Prop:=Rb k s.lo/\Rb k s.hi
theorem Zr.mono{k m:Nat}{s:Sn}(h:Zr k s)(u:k<=m):Zr m s:=⟨h.1.mono u,h.2.mono u⟩
theorem Zr.m{k m:Nat}{s:Sn}(h:Zr k s)(e:Nat.ble k m=true):Zr m s:=h.mono (d0n e)
def I8(s:Sn):Sp:=if F9 s.lo=true/\F9 s.hi=true then⟨Nm.d9 s.lo,Nm.d9 s.hi⟩ else⟨0,0⟩
def a7S{k:Nat}{s:Sn}(h:Zr k s)(u:1<=k):Zb k (I8 s):=by
 unfold I8;split
 ·exact⟨h.1.fit u,h.2.fit u⟩
 ·exact⟨a6c u,a6c u⟩
def c3K{s:Sn}(h:F9 s.lo=true/\F9 s.hi=true):s.c=(I8 s).c:=by
 unfold I8;rw[if_pos h];unfold Sp.c snQ;rw[Nm.b1M (of_decide_eq_true h.1),Nm.b1M (of_decide_eq_true h.2)]
def c3a{s:Sn}(h:¬(F9 s.lo=true/\F9 s.hi=true)):I8 s=⟨0,0⟩:=if_neg h
def c0g(s:Sn)(G:Zr 1073741824 s)(h:¬(F9 s.lo=true/\F9 s.hi=true)):FZ 246 [s.c] (.v (.bool false)):=by
 refine kW Tryz.func246 (by cbv) (by rfl) λw O u=>?_;obtain⟨x,y⟩:=s;obtain⟨E,F⟩:=G;simp only at E F h;have B:=a0S x (E.m rfl);have A:=a0S y (F.m rfl);have e:∀a:Nm.Rt,decide a.I4=F9 a:=λ_=>rfl;rw[e]at B A;have D:=P8 x y (E.m rfl) (F.m rfl);generalize Nm.A9 (Nm.d9 x) (Nm.d9 y)=c at*;clear e;generalize F9 x=H at*;generalize F9 y=I at*;simp only[j4,TT,II,OA,OC,MM,LL,FF,LG,FG];simp only[Sn.c,Sn.enc,rc,sb,ints]at*;cases H
 ·(repeat first|refine uG B ?_|refine uG A ?_|refine uG D ?_|refine uA ?_|(apply uK;· first|omega|(intros;simp_all<;>omega))|simp(disch:=omega) only[go_sem,Nat.reduceAdd]|refine uD B (tz u) rfl ?_|refine uD A (tz u) rfl ?_|refine uD D (tz u) rfl ?_);exact uS rfl rfl
 ·cases I
  ·(repeat first|refine uG B ?_|refine uG A ?_|refine uG D ?_|refine uA ?_|(apply uK;· first|omega|(intros;simp_all<;>omega))|simp(disch:=omega) only[go_sem,Nat.reduceAdd]|refine uD B (tz u) rfl ?_|refine uD A (tz u) rfl ?_|refine uD D (tz u) rfl ?_);exact uS rfl rfl
  ·exact absurd ⟨rfl,rfl⟩ h
def c3s:J5 ⟨0,0⟩=⟨0,0⟩:=b2u Rat.le_refl
def b6y(s:Sn)(E:Zr 1073741824 s):FZ 200 [s.c] (J5 (I8 s)).c:=by
 by_cases h:F9 s.lo=true/\F9 s.hi=true
 ·rw[c3K h];exact a1P _ (a7S E (by decide))
 refine kW Tryz.func200 (by cbv) (by rfl) λw O B=>?_;have A:=c0g s E h;have D:=a4e;have u:=a0y (Nm.ofQ 0) (a1j.m rfl);rw[Nm.y8]at u;rw[c3a h,c3s];obtain⟨x,y⟩:=s;unfold Sp.c snQ at*;unfold rq at*;simp only at A u ⊢;generalize Nm.ofQ 0=z at*;simp only[j4,TT,II,OA,OB,LL];simp only[Sn.c,Sn.enc,rc,sb]at A D u ⊢;(repeat first|refine uG A ?_|refine uA ?_|(apply uK;· first|omega|(intros;simp_all<;>omega))|simp(disch:=omega) only[go_sem,Nat.reduceAdd]|refine uD A (tz B) rfl ?_);refine S.cond rfl (λF=>?_) (λF=>by simp at F)
 (repeat first|refine uG D ?_|refine uG u ?_|refine uA ?_|(apply uK;· first|omega|(intros;simp_all<;>omega))|simp(disch:=omega) only[go_sem,Nat.reduceAdd]|refine uD D (tz B) rfl ?_|refine uD u (tz B) rfl ?_)
 (exact uS rfl rfl)
def c0K(t:Sn)(a:Sp)(A:I8 t=a)(G:Zr 1073741824 t):FZ 156 [t.c,t.c] (U6 a a).c:=by
 refine kW Tryz.func156 (by cbv) (by rfl) λw O E=>?_;have D:=b6y t G;rw[A]at D;have B:=M7 (a7S G (by decide));rw[A]at B;unfold U6;generalize J5 a=F at*;obtain⟨p,q⟩:=F;have h:=a5b (Nm.ofQ p) (Nm.ofQ p) (B.1.m rfl) (B.1.m rfl);have u:=a6k (Nm.ofQ q) (Nm.ofQ q) (B.2.m rfl) (B.2.m rfl);rw[Nm.y8]at h u;obtain⟨H,F⟩:=t;unfold Sp.c snQ at*;unfold rq at*;simp only at D h u ⊢;generalize Nm.ofQ (K3 p p)=I at*;generalize Nm.ofQ (J8 q q)=J at*;generalize Nm.ofQ p=x at*;generalize Nm.ofQ q=y at*;simp only[j4,TT,OA,OB,LL,FF];simp only[Sn.c,Sn.enc,rc,sb]at D h u ⊢
 (repeat first|refine uG D ?_|refine uG h ?_|refine uG u ?_|refine uA ?_|(apply uK;· first|omega|(intros;simp_all<;>omega))|simp(disch:=omega) only[go_sem,Nat.reduceAdd]|refine uD D (tz E) rfl ?_|refine uD h (tz E) rfl ?_|refine uD u (tz E) rfl ?_)
 (exact uS rfl rfl)
def c6g(t:Sn)(s:Sp)(J:I8 t=s)(P:Zr 268435456 t):FZ 282 [t.c] (a7l s).c:=by
 refine kW Tryz.func282 (by cbv) (by rfl) λw O h=>?_;have A:=b6y t (P.m rfl);have M:=a7S P (by decide);rw[J]at A M;clear J;have u:=M7 M;have N:=c4T M;have B:=a4e;have D:=b8m (J5 s) (Nm.ofQ 0) (u.m rfl) (a1j.m rfl);rw[Nm.y8]at D;unfold a7l;unfold sqI at*;generalize W:J5 s=T at*;obtain⟨p,q⟩:=T
 try simp only at u N ⊢
 have F:=a3k p p (u.1.m rfl) (u.1.m rfl);have G:=a3k q q (u.2.m rfl) (u.2.m rfl);have E:=b4s (p*p) [q*q] ((L6 u.1 u.1).m rfl) (λx U=>by
  rw[List.mem_singleton]at U;subst U;exact(L6 u.2 u.2).m rfl) (by simp)
 generalize arF (p*p) [q*q]=R at*;generalize a7i ⟨p,q⟩ 0=b at*;obtain⟨s1,T⟩:=t;obtain⟨K,H⟩:=R;unfold Sp.c snQ at*;unfold rq at*;simp only[d0l,d0p]at A D E ⊢;generalize Nm.ofQ (p*p)=m1 at*;generalize Nm.ofQ (q*q)=m2 at*;have V:∀b:Bool,(if b=true then(⟨0,H⟩:Sp) else⟨K,H⟩)=⟨if b=true then 0 else K,H⟩:=λb=>by cases b<;>rfl
 rw[V];simp only;cases b
 ·simp only[d0P,if_false];generalize Nm.ofQ 0=Z at*;generalize Nm.ofQ p=x at*;generalize Nm.ofQ q=y at*;generalize Nm.ofQ K=Y at*;generalize Nm.ofQ H=X at*;simp only[j4,TT,II,OA,OB,LL,FF];simp only[Sn.c,Sn.enc,rc,rcs,sb]at A F G B D E ⊢
  (repeat first|refine uG A ?_|refine uG F ?_|refine uG G ?_|refine uG B ?_|refine uG D ?_|refine uG E ?_|refine uA ?_|(apply uK;· first|omega|(intros;simp_all<;>omega))|simp(disch:=omega) only[go_sem,Nat.reduceAdd]|refine uD A (tz h) rfl ?_|refine uD F (tz h) rfl ?_|refine uD G (tz h) rfl ?_|refine uD B (tz h) rfl ?_|refine uD D (tz h) rfl ?_|(refine uE E ?_ ?_ ?_ ?_;exact tz h;exact rfl;focus (repeat' first|exact j3.nil|exact Imp.refl rfl|exact Imp.frz rfl rfl rfl|(refine Imp.O0 rfl rfl ?_ ?_;(focus ((try simp only[d0c]);omega));(focus first|rfl|assumption))|refine j3.cons ?_ ?_);done));refine S.cond rfl (λI=>by simp at I) (λI=>?_)
  (repeat first|refine uA ?_|simp(disch:=omega) only[go_sem,Nat.reduceAdd]);(exact uS rfl rfl)
 ·simp only[if_true];generalize Nm.ofQ 0=Z at*;generalize Nm.ofQ p=x at*;generalize Nm.ofQ q=y at*;generalize Nm.ofQ K=Y at*;generalize Nm.ofQ H=X at*;simp only[j4,TT,II,OA,OB,LL,FF];simp only[Sn.c,Sn.enc,rc,rcs,sb]at A F G B D E ⊢
  (repeat first|refine uG A ?_|refine uG F ?_|refine uG G ?_|refine uG B ?_|refine uG D ?_|refine uG E ?_|refine uA ?_|(apply uK;· first|omega|(intros;simp_all<;>omega))|simp(disch:=omega) only[go_sem,Nat.reduceAdd]|refine uD A (tz h) rfl ?_|refine uD F (tz h) rfl ?_|refine uD G (tz h) rfl ?_|refine uD B (tz h) rfl ?_|refine uD D (tz h) rfl ?_|(refine uE E ?_ ?_ ?_ ?_;exact tz h;exact rfl;focus (repeat' first|exact j3.nil|exact Imp.refl rfl|exact Imp.frz rfl rfl rfl|(refine Imp.O0 rfl rfl ?_ ?_;(focus ((try simp only[d0c]);omega));(focus first|rfl|assumption))|refine j3.cons ?_ ?_);done));refine S.cond rfl (λI=>?_) (λI=>by simp at I)
  (repeat first|refine uG B ?_|refine uA ?_|(apply uK;· first|omega|(intros;simp_all<;>omega))|simp(disch:=omega) only[go_sem,Nat.reduceAdd]|refine uD B (tz h) rfl ?_)
  (exact uS rfl rfl)
def c7N(r:Sn)(s:Sp)(h:I8 r=s)(hr:Zr 268435456 r):FZ 249 [r.c] (b0L s).c:=by
 refine kW Tryz.func249 (by cbv) (by rfl) λw O A=>?_;have u:=c6g r s h hr;have E:=a7S hr (by decide);rw[h]at E;have F:=b5d E;have G:=a6J s;unfold b0L;generalize a7l s=t at*;obtain⟨p,q⟩:=t;have B:=c1p q G.2 (F.2.m rfl);have D:=c1p p G.1 (F.1.m rfl);obtain⟨M,K⟩:=r;unfold Sp.c snQ at*;unfold rq at*;simp only at u ⊢;generalize Nm.ofQ (a8z p)=H at*;generalize Nm.ofQ (a8z q)=J at*;generalize Nm.ofQ p=N at*;generalize Nm.ofQ q=I at*;simp only[j4,TT,OA,OB,MM,LL,FF];simp only[Sn.c,Sn.enc,rc,sb]at u B D ⊢
 (repeat first|refine uG u ?_|refine uA ?_|(apply uK;· first|omega|(intros;simp_all<;>omega))|simp(disch:=omega) only[go_sem,Nat.reduceAdd]|refine uD u (tz A) rfl ?_);refine⟨rfl,?_⟩;(repeat first|refine uG B ?_|refine uA ?_|(apply uK;· first|omega|(intros;simp_all<;>omega))|simp(disch:=omega) only[go_sem,Nat.reduceAdd]|refine uD B (tz A) rfl ?_);refine⟨rfl,?_⟩;(repeat first|refine uG D ?_|refine uA ?_|(apply uK;· first|omega|(intros;simp_all<;>omega))|simp(disch:=omega) only[go_sem,Nat.reduceAdd]|refine uD D (tz A) rfl ?_)
 (exact uS rfl rfl)
def c8d(r:Sn)(t:Sp)(N:I8 r=t)(hr:Zr 16777216 r):FZ 250 [r.c] (b0C t).c:=by
 refine kW Tryz.func250 (by cbv) (by rfl) λw O A=>?_;have H:=c0K r t N (hr.m rfl);have Z:=a7S hr (by decide);rw[N]at Z;have G:=a4J Z Z;unfold b0C;generalize U6 t t=u at*;have E:=b9E (Nm.ofQ u.lo) (G.1.m rfl);have F:=b9E (Nm.ofQ u.hi) (G.2.m rfl);have B:=b4p false (Nm.ofQ u.lo) (G.1.m rfl);have J:=b4p false (Nm.ofQ u.hi) (G.2.m rfl);simp only[M8,d0P,if_false]at B J;rw[Nm.y8]at E F B J;have T:=a5i G.1;have U:=a5i G.2;have R:=a0y (Nm.ofQ (a0v u.lo)) (T.m rfl);have M:=a0y (Nm.ofQ (a0v u.hi)) (U.m rfl);rw[Nm.y8]at R M;have K:=a6I (ptQ (a0v u.lo)) (ptQ (a0v u.hi)) ⟨T.m rfl,T.m rfl⟩ ⟨U.m rfl,U.m rfl⟩
 rw[show U6 (ptQ (a0v u.lo)) (ptQ (a0v u.hi))=b9a u from rfl]at K;have d0:=c1b G;generalize b9a u=s at*;unfold ptQ at K;generalize a0v u.lo=x1 at*;generalize a0v u.hi=x2 at*;have hI:a4s u s []=s:=rfl;obtain⟨L,hL,hn,W⟩:∃L:List Int,L=[-1,1]/\L.length=2/\∀n∈L,n=-1\/n=1:=⟨_,rfl,rfl,by simp⟩
 rw[<- hL];simp only[j4,TT,II,OA,OB,MM,LL,VV,FF];simp only[Sp.c,Sn.c,Sn.enc,snQ,rq,tq,rc,tc,sb]at H E F B J R M K ⊢;(repeat first|refine uG H ?_|refine uG E ?_|refine uG F ?_|refine uG B ?_|refine uG J ?_|refine uG R ?_|refine uG M ?_|refine uG K ?_|refine uA ?_|(apply uK;· first|omega|(intros;simp_all<;>omega))|simp(disch:=omega) only[go_sem,Nat.reduceAdd]|refine uD H (tz A) rfl ?_|refine uD E (tz A) rfl ?_|refine uD F (tz A) rfl ?_|refine uD B (tz A) rfl ?_|refine uD J (tz A) rfl ?_|refine uD R (tz A) rfl ?_|refine uD M (tz A) rfl ?_|refine uD K (tz A) rfl ?_)
 refine S.loop (X:=Nat) (λi=>⟨[(1,.bp 0 0),(2,.bp 1 0),(3,.bp 2 0),(21,.rv 3),(22,ints L.length),(23,ints i)],[.box 252 u.enc,.box 252 [.v (.bool false),sb [],sb [],.v (.bool false),sb [],sb []],.box 252 (a4s u s (L.take i)).enc,.row 3 1 (L.map λn=>[ints n])]⟩) (λi=>i<=L.length) (λi=>L.length-i) 0 (d0k _) (by simp only[List.take_zero,hI,hL,Sp.enc,snQ,Sn.enc,sb];exact(by repeat first|refine uA ?_|refine⟨rfl,?_⟩|rfl|simp)) ?_;intro i hi;clear H E F B J R M K hI hL;simp only[Sp.enc,Sn.enc,snQ,sb,ints];refine uV rfl ?_;apply uJ rfl<;>intro V
 ·have I:i<L.length:=by omega
  have Y:=d0b I;generalize L[i]=n at*;have D:=c1S u s Y;have hu:=W n (d0g Y);have P:=b8z (k:=16777216) (by decide) hu;have H:=a2M n (by omega) (by omega);have E:=b8m u (Nm.ofQ (n:Rat)) (G.m rfl) (P.m rfl);have F:=a0y (Nm.ofQ (n:Rat)) (P.m rfl);have dI:Zb 67108882 (a4s u s (L.take i)):=b6q (by decide) _ _ (d0.m rfl) λm h=>W m (List.mem_of_mem_take h);have B:=a6I (a4s u s (L.take i)) (ptQ n) (dI.m rfl) ⟨P.m rfl,P.m rfl⟩;rw[Nm.y8]at E F;generalize a4s u s (L.take i)=v at*;unfold ptQ at B D;generalize a7i u (n:Rat)=b at*;clear P dI d0 G T U hu W;generalize(n:Rat)=q at*;generalize U6 v ⟨q,q⟩=v3 at*
  simp only[Sp.c,Sn.c,Sn.enc,snQ,rq,rc,sb,ints]at H E F B;(repeat first|refine uG H ?_|refine uG E ?_|refine uA ?_|(apply uK;· first|omega|(intros;simp_all<;>omega))|simp(disch:=omega) only[go_sem,Nat.reduceAdd,Y,d0e,d0d,d0h]|refine uD H (tz A) rfl ?_|refine uD E (tz A) rfl ?_);apply S.cond rfl<;>intro V
  ·rw[if_pos (by simpa using V)]at D;(repeat first|refine uG F ?_|refine uG B ?_|refine uA ?_|(apply uK;· first|omega|(intros;simp_all<;>omega))|simp(disch:=omega) only[go_sem,Nat.reduceAdd,ww]|refine uD F (tz A) rfl ?_|refine uD B (tz A) rfl ?_);refine S.next (i+1) (by omega) (by omega) (by rw[D];exact(by repeat first|refine uA ?_|refine⟨rfl,?_⟩|rfl|simp))
  ·rw[if_neg (by simpa using V)]at D;(repeat first|refine uA ?_|simp(disch:=omega) only[go_sem]);refine S.next (i+1) (by omega) (by omega) (by rw[D];exact(by repeat first|refine uA ?_|refine⟨rfl,?_⟩|rfl|simp))
 ·have I:i=L.length:=by omega
  subst I;rw[d0w];(repeat first|refine uA ?_|simp(disch:=omega) only[go_sem,Nat.reduceAdd]);(exact uS rfl rfl)
set_option maxHeartbeats 16000000
def SC:Nat->Nat
 | 0=>262144
 | 1=>9000000
 | 2=>27000000
 | _=>63000000
def SX:Nat->Nat
 | 0=>262144
 | 1=>9300000
 | 2=>36400000
 | _=>99500000
def Zm(i:Nat)(l:Lq):Prop:=Zb (SX i) l.x/\Zb (SX i) l.y/\Zb (SC i) l.c/\Zb (SC i) l.s
def b8S:∀{i:Nat},i<=3->SX i<=134217728/\SC i<=134217728
 | 0,_=>by decide
 | 1,_=>by decide
 | 2,_=>by decide
 | 3,_=>by decide
def Zm.zl{i:Nat}{l:Lq}(h:Zm i l)(hi:i<=3):Zl 134217728 l:=⟨h.1.mono (b8S hi).1,h.2.1.mono (b8S hi).1,h.2.2.1.mono (b8S hi).2,h.2.2.2.mono (b8S hi).2⟩
def Zm.lt{i:Nat}{l:Lq}(h:Zm i l)(u:i<3):Zb 36400000 l.x/\Zb 36400000 l.y/\Zb 27000000 l.c/\Zb 27000000 l.s:=by
 rcases(show i=0\/i=1\/i=2 by omega) with rfl|rfl|rfl
 ·exact⟨h.1.m rfl,h.2.1.m rfl,h.2.2.1.m rfl,h.2.2.2.m rfl⟩
 ·exact⟨h.1.m rfl,h.2.1.m rfl,h.2.2.1.m rfl,h.2.2.2.m rfl⟩
 ·exact h
def b8j(l:Lq)(v:Vt)(hl:Zl 134217728 l)(F:Rb 16777216 v.x)(G:Rb 16777216 v.y):FZ 204 [.agg l.enc,.agg v.enc] (.tup [(atX l v).c,(atY l v).c]):=by
 refine kW Tryz.func204 (by cbv) (by rfl) λw O h=>?_;obtain⟨lx,W,H,ls⟩:=l;obtain⟨u,v2⟩:=v;obtain⟨N,R,A,B⟩:=hl;simp only at N R A B F G;have J:=a0y u (F.m rfl);have K:=a0y v2 (G.m rfl);have D:=a4S F (by decide);have E:=a4S G (by decide);have o3:=a2p (ptS u) H (D.m rfl) (A.m rfl);have Z:=a2p (ptS v2) ls (E.m rfl) (B.m rfl);have P:=Z6 D A;have I:=Z6 E B;have o5:=b7D _ _ (P.m rfl) (I.m rfl);have U:=b2o P I;have o6:=a5N lx _ (N.m rfl) (U.m rfl);have V:=a2p (ptS u) ls (D.m rfl) (B.m rfl);have o8:=a2p (ptS v2) H (E.m rfl) (A.m rfl);have M:=Z6 D B;have T:=Z6 E A;have X:=a5N _ _ (M.m rfl) (T.m rfl);have Y:=a4x M T
 have oa:=a5N W _ (R.m rfl) (Y.m rfl);clear P I U M T Y N R A B F G D E;unfold atX atY;simp only;rw[show Sp.mk (Nm.d9 u) (Nm.d9 u)=ptS u from rfl]at J;rw[show Sp.mk (Nm.d9 v2) (Nm.d9 v2)=ptS v2 from rfl]at K;simp only[j4,TT,OA,OB,LL,FF];generalize K7 (ptS u) H=s1 at*;generalize K7 (ptS v2) ls=s2 at*;generalize a3p s1 s2=s3 at*;generalize K7 (ptS u) ls=s4 at*;generalize K7 (ptS v2) H=s5 at*;generalize a0e s4 s5=s6 at*;generalize ptS u=s7 at*;generalize ptS v2=s8 at*;generalize a0e lx s3=s9 at*;generalize a0e W s6=aa at*;simp only[Vt.enc,Lq.enc,Sp.enc,Sp.c,Sn.c,Sn.enc,snQ,rc,sb,List.cons_append,List.nil_append]at J K o3 Z o5 o6 V o8 X oa ⊢
 (repeat first|refine uA ?_|(refine uK ?_ ?_;focus first|omega|(intros;simp_all<;>omega))|simp(disch:=omega) only[go_sem,Nat.reduceAdd]|(refine uD J ?_ ?_ ?_;exact tz h;exact rfl)|(refine uD K ?_ ?_ ?_;exact tz h;exact rfl)|(refine uD o3 ?_ ?_ ?_;exact tz h;exact rfl)|(refine uD Z ?_ ?_ ?_;exact tz h;exact rfl)|(refine uD o5 ?_ ?_ ?_;exact tz h;exact rfl)|(refine uD o6 ?_ ?_ ?_;exact tz h;exact rfl)|(refine uD V ?_ ?_ ?_;exact tz h;exact rfl)|(refine uD o8 ?_ ?_ ?_;exact tz h;exact rfl)|(refine uD X ?_ ?_ ?_;exact tz h;exact rfl)|(refine uD oa ?_ ?_ ?_;exact tz h;exact rfl));(exact uQ rfl (Imp.tup (by(repeat' (first|exact j3.nil|exact Imp.refl rfl|exact Imp.frz rfl rfl rfl|exact Imp.D8|refine Imp.agg ?_|refine j3.cons ?_ ?_)))) rfl rfl)
def a1X(g:Fr)(l:List Vt):Rat:=l.foldl (λm c=>J8 m (q9 (Nm.d9 c.x-Nm.d9 g.x)+q9 (Nm.d9 c.y-Nm.d9 g.y))) 0
def b3y(g:Fr){l:List Vt}{i:Nat}{c:Vt}(h:l[i]?=some c):a1X g (l.take (i+1))=J8 (a1X g (l.take i)) (q9 (Nm.d9 c.x-Nm.d9 g.x)+q9 (Nm.d9 c.y-Nm.d9 g.y)):=by
 unfold a1X;rw[take_at h,List.foldl_append];rfl
theorem b0Z{g:Fr}(u:Rb 1048576 g.x)(A:Rb 1048576 g.y):∀(l:List Vt) (m:Rat),(∀v∈l,Rb 1048576 v.x/\Rb 1048576 v.y)->Rb 4194400 (Nm.ofQ m)->Rb 4194400 (Nm.ofQ (l.foldl (λm c=>J8 m (q9 (Nm.d9 c.x-Nm.d9 g.x)+q9 (Nm.d9 c.y-Nm.d9 g.y))) m))
 | [],_,_,hm=>hm
 | c::r,m,hv,hm=>by
  have h:=hv c (by simp);exact b0Z u A r _ (λv hm=>hv v (by simp[hm])) (a6j hm ((O4 (a0j (R6 (h.1.g rfl) (u.g rfl))) (a0j (R6 (h.2.g rfl) (A.g rfl)))).m rfl))
def a9s(a:Am)(Q:List Sp):Bq:=(a3g a Q).getD a.links.length ⟨0,0,0,0⟩
def b2E{a:Am}{Q:List Sp}(h:Q.length=a.links.length):(a3g a Q)[a.links.length]?=some (a9s a Q)/\(a3g a Q).length=a.links.length+1:=by
 have u:(a3g a Q).length=a.links.length+1:=by
  unfold a3g;rw[d0d,a4d,List.length_zip];omega
 refine⟨?_,u⟩;unfold a9s;rw[d0C,d0b (by omega)];rfl
set_option maxHeartbeats 8000000
structure Jo(l:Lk)(v:Nm.Rt):Prop where
 hb:Rb 3 l.brake
 hv:Rb 1048576 v
 pos:0<F3 (Nm.d9 l.brake)
def c2E(q:Rat)(u:0<=q.floor):(flI q=q.floor/\flE q=0)\/(flI q=0/\flE q=2/\2000<q.floor):=by
 unfold flI flE;by_cases h:q.floor.natAbs<9223372036854775808
 ·exact .inl ⟨if_pos h,if_pos h⟩
 ·exact .inr ⟨if_neg h,if_neg h,by omega⟩
def b0U(l:Lk)(v:Nm.Rt)(h:Jo l v):FZ 272 [l.c,rc v] (.tup [ints (if D9 (Nm.d9 l.brake) (Nm.d9 v)<=2000 then D9 (Nm.d9 l.brake) (Nm.d9 v) else 0),ints (if D9 (Nm.d9 l.brake) (Nm.d9 v)<=2000 then 0 else 2)]):=by
 refine kW Tryz.func272 (by cbv) (by rfl) λw O G=>?_;obtain⟨P,Y,h0⟩:=h;have hB:=b2b h0;have D:Nm.d9 l.brake≠0:=by grind
 have ra:=a0j (Y.g rfl);have Z:=b1d D ra (P.g rfl);have o1:=U4 l.brake (P.m rfl);have o2:=a2W v (Y.m rfl);have M:=c0h (Nm.ofQ (q9 (Nm.d9 v))) l.brake (ra.m rfl) (P.m rfl);rw[Nm.y8]at M;unfold a4E b0T at M;rw[if_neg D,if_neg D]at M;have W:0<=q9 (Nm.d9 v)/Nm.d9 l.brake:=by
  rw[Rat.div_def];exact Rat.mul_nonneg (abs_nonneg _) (Rat.le_of_lt (Rat.inv_pos.2 hB))
 have I:D9 (Nm.d9 l.brake) (Nm.d9 v)=if((q9 (Nm.d9 v)/Nm.d9 l.brake).floor:Rat)<q9 (Nm.d9 v)/Nm.d9 l.brake then(q9 (Nm.d9 v)/Nm.d9 l.brake).floor+1 else(q9 (Nm.d9 v)/Nm.d9 l.brake).floor:=rfl
 have V:=b6u W;generalize q9 (Nm.d9 v)/Nm.d9 l.brake=q at*;generalize D9 (Nm.d9 l.brake) (Nm.d9 v)=T at*;have o4:=b0J (Nm.ofQ q) (Z.m rfl);rw[Nm.y8]at o4;have aa:=c2E q V;have U:=λH:q.floor<=2000=>a2M q.floor (by omega) (by omega);have N:=λH:q.floor<=2000=>P8 (Nm.ofQ (q.floor:Rat)) (Nm.ofQ q) ((a3W (by omega)).m rfl) (Z.m rfl);rw[Nm.y8,Nm.y8]at N;have E:=b2h (q.floor:Rat) q;have A:T=if Nm.A9 (q.floor:Rat) q<0 then q.floor+1 else q.floor:=by
  rw[I];by_cases u:(q.floor:Rat)<q
  ·rw[if_pos u,if_pos (E.2 u)]
  ·rw[if_neg u,if_neg λh=>u (E.1 h)]
 clear E I;generalize Nm.A9 (q.floor:Rat) q=cc at*;generalize flI q=J at*;generalize flE q=K at*;generalize q.floor=F at*;have R:(K≠0\/2000<J)->¬T<=2000:=λh=>by
  split at A<;>omega
 have X:¬(K≠0\/2000<J)->J=F/\F<=2000:=λh=>by omega
 unfold rq at*;generalize Nm.ofQ (q9 (Nm.d9 v))=z1 at*;generalize Nm.ofQ q=z2 at*;generalize Nm.ofQ (F:Rat)=z3 at*;generalize F3 (Nm.d9 l.brake)=sg at*;simp only[j4,TT,II,OA,OB,OC,MM,LL,FF,MG];simp only[Lk.c,Lk.enc,rc,vts,sb,ints]at*;(repeat first|refine uA ?_|(refine uK ?_ ?_;focus first|omega|(intros;simp_all<;>omega))|simp(disch:=omega) only[go_sem,Nat.reduceAdd]|(refine uD o1 ?_ ?_ ?_;exact tz G;exact rfl));refine S.cond rfl (λu=>by simp at u;omega) (λu=>?_)
 (repeat first|refine uA ?_|(refine uK ?_ ?_;focus first|omega|(intros;simp_all<;>omega))|simp(disch:=omega) only[go_sem,Nat.reduceAdd]|(refine uD o2 ?_ ?_ ?_;exact tz G;exact rfl)|(refine uD M ?_ ?_ ?_;exact tz G;exact rfl)|(refine uD o4 ?_ ?_ ?_;exact tz G;exact rfl));refine S.cond rfl (λu=>?_) (λu=>?_)
 ·have B:=R (by by_cases k:K=0<;>simp_all);rw[if_neg B,if_neg B];(repeat first|refine uA ?_|(refine uK ?_ ?_;focus first|omega|(intros;simp_all<;>omega))|simp(disch:=omega) only[go_sem]);(exact uQ rfl (Imp.tup (by(repeat' (first|exact j3.nil|exact Imp.refl rfl|exact Imp.frz rfl rfl rfl|exact Imp.D8|refine Imp.agg ?_|refine j3.cons ?_ ?_)))) rfl rfl)
 obtain⟨rfl,H⟩:=X (by by_cases k:K=0<;>simp_all);have U:=U H;have N:=N H;(repeat first|refine uA ?_|(refine uK ?_ ?_;focus first|omega|(intros;simp_all<;>omega))|simp(disch:=omega) only[go_sem,Nat.reduceAdd]|(refine uD U ?_ ?_ ?_;exact tz G;exact rfl)|(refine uD N ?_ ?_ ?_;exact tz G;exact rfl));refine S.cond rfl (λu=>?_) (λu=>?_)
 ·rw[if_pos (by simpa using u)]at A;subst A;(repeat first|refine uA ?_|(refine uK ?_ ?_;focus first|omega|(intros;simp_all<;>omega))|simp(disch:=omega) only[go_sem,ww]);refine S.cond rfl (λu=>?_) (λu=>?_)
  ·have B:¬J+1<=2000:=by simp at u;omega
   rw[if_neg B,if_neg B];(repeat first|refine uA ?_|(refine uK ?_ ?_;focus first|omega|(intros;simp_all<;>omega))|simp(disch:=omega) only[go_sem]);(exact uQ rfl (Imp.tup (by(repeat' (first|exact j3.nil|exact Imp.refl rfl|exact Imp.frz rfl rfl rfl|exact Imp.D8|refine Imp.agg ?_|refine j3.cons ?_ ?_)))) rfl rfl)
  ·have B:J+1<=2000:=by simp at u;omega
   rw[if_pos B,if_pos B];(repeat first|refine uA ?_|(refine uK ?_ ?_;focus first|omega|(intros;simp_all<;>omega))|simp(disch:=omega) only[go_sem]);(exact uQ rfl (Imp.tup (by(repeat' (first|exact j3.nil|exact Imp.refl rfl|exact Imp.frz rfl rfl rfl|exact Imp.D8|refine Imp.agg ?_|refine j3.cons ?_ ?_)))) rfl rfl)
 ·rw[if_neg (by simpa using u)]at A;subst A;rw[if_pos H,if_pos H];(repeat first|refine uA ?_|(refine uK ?_ ?_;focus first|omega|(intros;simp_all<;>omega))|simp(disch:=omega) only[go_sem]);refine S.cond rfl (λu=>by simp at u;omega) (λu=>?_)
  (repeat first|refine uA ?_|(refine uK ?_ ?_;focus first|omega|(intros;simp_all<;>omega))|simp(disch:=omega) only[go_sem]);(exact uQ rfl (Imp.tup (by(repeat' (first|exact j3.nil|exact Imp.refl rfl|exact Imp.frz rfl rfl rfl|exact Imp.D8|refine Imp.agg ?_|refine j3.cons ?_ ?_)))) rfl rfl)
def c2L:C:=.agg [.v (.bool false),sb [],sb []]
def c7p(l:Lk)(v:Nm.Rt)(h:Jo l v)(u:¬D9 (Nm.d9 l.brake) (Nm.d9 v)<=2000):FZ 290 [l.c,rc v] (.tup [c2L,ints 2]):=by
 refine kW Tryz.func290 (by cbv) (by rfl) λw O D=>?_;have B:=b0U l v h;rw[if_neg u,if_neg u]at B;unfold c2L;simp only[j4,TT,II,OA,OB,MM,LL,FF];simp only[Lk.c,Lk.enc,rc,vts,sb,ints]at*;(repeat first|refine uA ?_|(refine uK ?_ ?_;focus first|omega|(intros;simp_all<;>omega))|simp(disch:=omega) only[go_sem,Nat.reduceAdd]|(refine uD B ?_ ?_ ?_;exact tz D;exact rfl));refine S.cond rfl (λA=>?_) (λA=>by simp at A)
 (repeat first|refine uA ?_|(refine uK ?_ ?_;focus first|omega|(intros;simp_all<;>omega))|simp(disch:=omega) only[go_sem,Nat.reduceAdd]);(exact uQ rfl (Imp.tup (by(repeat' (first|exact j3.nil|exact Imp.refl rfl|exact Imp.frz rfl rfl rfl|exact Imp.D8|refine Imp.agg ?_|refine j3.cons ?_ ?_)))) rfl rfl)
def a9A{l:Lk}{v:Nm.Rt}(h:Jo l v)(A:D9 (Nm.d9 l.brake) (Nm.d9 v)<=2000):Rb 1048704 (Nm.ofQ (a0c l v)):=by
 obtain⟨B,D,M⟩:=h;have E:sgQ (Nm.d9 v)=1\/sgQ (Nm.d9 v)=-1:=by unfold sgQ;split<;>simp
 have I:=a0j (D.g rfl);have F:=B.g rfl;have u:Rb 1048704 (Nm.ofQ (a6f (Nm.d9 l.brake) (q9 (Nm.d9 v)) (D9 (Nm.d9 l.brake) (Nm.d9 v)).toNat)):=by
  have H:(D9 (Nm.d9 l.brake) (Nm.d9 v)).toNat<=2000:=by omega
  generalize(D9 (Nm.d9 l.brake) (Nm.d9 v)).toNat=n at*;have K:n*(n-1)<=2000*2000:=Nat.mul_le_mul H (by omega);have J:Rb 8 (Nm.ofQ ((n-1:Nat):Rat)):=a3W (n:=((n-1:Nat):Int)) (by omega);have G:Rb 8 (Nm.ofQ ((n*(n-1)/2:Nat):Rat)):=a3W (n:=((n*(n-1)/2:Nat):Int)) (by omega);unfold a6f;split
  ·exact a1j.m rfl
  ·exact(R6 (L6 J I) (L6 F G)).m rfl
 unfold a0c;rcases E with e|e<;>rw[e]
 ·rw[Rat.one_mul];exact u
 ·rw[show(-1:Rat)*a6f (Nm.d9 l.brake) (q9 (Nm.d9 v)) (D9 (Nm.d9 l.brake) (Nm.d9 v)).toNat=-a6f (Nm.d9 l.brake) (q9 (Nm.d9 v)) (D9 (Nm.d9 l.brake) (Nm.d9 v)).toNat by grind];exact a1Q u
def c1n(l:Lk)(v:Nm.Rt)(h:Jo l v)(F:D9 (Nm.d9 l.brake) (Nm.d9 v)<=2000):FZ 290 [l.c,rc v] (.tup [rq (a0c l v),ints 0]):=by
 refine kW Tryz.func290 (by cbv) (by rfl) λw O A=>?_;have K:=b0U l v h;rw[if_pos F,if_pos F]at K;obtain⟨M,J,h0⟩:=h;have hT:=(a5Z (V:=Nm.d9 v) (b2b h0)).1;have W:=a0j (J.g rfl);have rb:=M.g rfl;have o2:=a4e;have o3:=a2W v (J.m rfl);have o4:=U4 v (J.m rfl);have E:=c2J (Nm.d9 v);unfold a0c sgQ a6f;obtain⟨n,hn⟩:∃n:Nat,D9 (Nm.d9 l.brake) (Nm.d9 v)=n:=⟨(D9 (Nm.d9 l.brake) (Nm.d9 v)).toNat,by omega⟩
 rw[hn]at F K ⊢;rw[d0h];clear hn;generalize q9 (Nm.d9 v)=V at*;generalize H:Nm.d9 l.brake=B at*;by_cases h2:n<2
 ·rw[if_pos h2,show(if Nm.d9 v<0 then(-1:Rat) else 1)*0=0 by grind];unfold rq at*;generalize Nm.ofQ 0=z at*;simp only[j4,TT,II,OA,OB,MM,LL,FF];simp only[Lk.c,Lk.enc,rc,vts,sb,ints]at*;(repeat first|refine uA ?_|(refine uK ?_ ?_;focus first|omega|(intros;simp_all<;>omega))|simp(disch:=omega) only[go_sem,Nat.reduceAdd]|(refine uD K ?_ ?_ ?_;exact tz A;exact rfl));refine S.cond rfl (λu=>by simp at u) (λu=>?_)
  (repeat first|refine uA ?_|(refine uK ?_ ?_;focus first|omega|(intros;simp_all<;>omega))|simp(disch:=omega) only[go_sem]);refine S.cond rfl (λu=>?_) (λu=>by simp at u;omega)
  (repeat first|refine uA ?_|(refine uK ?_ ?_;focus first|omega|(intros;simp_all<;>omega))|simp(disch:=omega) only[go_sem,Nat.reduceAdd]|(refine uD o2 ?_ ?_ ?_;exact tz A;exact rfl));(exact uQ rfl (Imp.tup (by(repeat' (first|exact j3.nil|exact Imp.refl rfl|exact Imp.frz rfl rfl rfl|exact Imp.D8|refine Imp.agg ?_|refine j3.cons ?_ ?_)))) rfl rfl)
 rw[if_neg h2];have hm:n*(n-1)<=2000*2000:=Nat.mul_le_mul (show n<=2000 by omega) (by omega);have U:(n:Int)*((n:Int)-1)=((n*(n-1):Nat):Int):=by
  rw[Int.natCast_mul];congr 1;omega
 have e1:IntKind.i64.wrap ((n:Int)-1)=((n-1:Nat):Int):=by rw[Eng.wrap_i64 (by omega)];omega
 have e2:IntKind.i64.wrap ((n:Int)*((n-1:Nat):Int))=((n*(n-1):Nat):Int):=by
  rw[<- Int.natCast_mul];exact Eng.wrap_i64 (by omega)
 have e3:IntKind.i64.wrap (((n*(n-1):Nat):Int).tdiv 2)=((n*(n-1)/2:Nat):Int):=by
  rw[show((n*(n-1):Nat):Int).tdiv 2=((n*(n-1)/2:Nat):Int) from rfl];exact Eng.wrap_i64 (by omega)
 have T:Rb 8 (Nm.ofQ ((n-1:Nat):Rat)):=a3W (n:=((n-1:Nat):Int)) (by omega);have X:Rb 8 (Nm.ofQ ((n*(n-1)/2:Nat):Rat)):=a3W (n:=((n*(n-1)/2:Nat):Int)) (by omega);have o5:=a2M ((n-1:Nat):Int) (by omega) (by omega);have o6:=a2M ((n*(n-1)/2:Nat):Int) (by omega) (by omega);have o7:=a3k ((n-1:Nat):Rat) V (T.m rfl) (W.m rfl);have o8:=b4R l.brake (Nm.ofQ ((n*(n-1)/2:Nat):Rat)) (M.m rfl) (X.m rfl);rw[Nm.y8,H]at o8;have N:=L6 T W;have R:=L6 rb X;have o9:=a7d (((n-1:Nat):Rat)*V) (B*((n*(n-1)/2:Nat):Rat)) (N.m rfl) (R.m rfl);have r3:=R6 N R;have G:=a7T (Nm.ofQ (((n-1:Nat):Rat)*V-B*((n*(n-1)/2:Nat):Rat))) (r3.m rfl);rw[Nm.y8]at G
 rw[show(((n-1:Nat):Int):Rat)=((n-1:Nat):Rat) from rfl]at o5;rw[show(((n*(n-1)/2:Nat):Int):Rat)=((n*(n-1)/2:Nat):Rat) from rfl]at o6;have I:(if Nm.d9 v<0 then(-1:Rat) else 1)*(((n-1:Nat):Rat)*V-B*((n*(n-1)/2:Nat):Rat))=if F3 (Nm.d9 v)<0 then -(((n-1:Nat):Rat)*V-B*((n*(n-1)/2:Nat):Rat)) else((n-1:Nat):Rat)*V-B*((n*(n-1)/2:Nat):Rat):=by
  by_cases D:Nm.d9 v<0
  ·rw[if_pos D,if_pos (E.2 D)];grind
  ·rw[if_neg D,if_neg λh=>D (E.1 h)];grind
 rw[I];clear I E N R r3 T X W rb hm U J M h0 H;generalize F3 (Nm.d9 v)=sg at*;generalize((n-1:Nat):Rat)*V=x1 at*;generalize B*((n*(n-1)/2:Nat):Rat)=Y at*;generalize x1-Y=P at*;generalize -P=x4 at*;generalize aa:n-1=Z at*;generalize n*Z/2=k2 at*;unfold rq at*;generalize Nm.ofQ V=y1 at*;generalize Nm.ofQ (Z:Rat)=y2 at*;generalize Nm.ofQ (k2:Rat)=y3 at*;generalize Nm.ofQ x1=y4 at*;generalize Nm.ofQ Y=y5 at*;simp only[j4,TT,II,OA,OB,MM,LL,FF];simp only[Lk.c,Lk.enc,rc,vts,sb,ints]at*
 (repeat first|refine uA ?_|(refine uK ?_ ?_;focus first|omega|(intros;simp_all<;>omega))|simp(disch:=omega) only[go_sem,Nat.reduceAdd]|(refine uD K ?_ ?_ ?_;exact tz A;exact rfl));refine S.cond rfl (λu=>by simp at u) (λu=>?_)
 (repeat first|refine uA ?_|(refine uK ?_ ?_;focus first|omega|(intros;simp_all<;>omega))|simp(disch:=omega) only[go_sem]);refine S.cond rfl (λu=>by simp at u;omega) (λu=>?_)
 (repeat first|refine uA ?_|(refine uK ?_ ?_;focus first|omega|(intros;simp_all<;>omega))|simp(disch:=omega) only[go_sem,Nat.reduceAdd,e1,e2,e3]|(refine uD o5 ?_ ?_ ?_;exact tz A;exact rfl)|(refine uD o3 ?_ ?_ ?_;exact tz A;exact rfl)|(refine uD o7 ?_ ?_ ?_;exact tz A;exact rfl)|(refine uD o6 ?_ ?_ ?_;exact tz A;exact rfl)|(refine uD o8 ?_ ?_ ?_;exact tz A;exact rfl)|(refine uD o9 ?_ ?_ ?_;exact tz A;exact rfl)|(refine uD o4 ?_ ?_ ?_;exact tz A;exact rfl));refine S.cond rfl (λu=>?_) (λu=>?_)
 ·rw[if_pos (by simpa using u)];generalize Nm.ofQ P=y6 at*;generalize Nm.ofQ x4=y7 at*;(repeat first|refine uA ?_|(refine uK ?_ ?_;focus first|omega|(intros;simp_all<;>omega))|simp(disch:=omega) only[go_sem,Nat.reduceAdd]|(refine uD G ?_ ?_ ?_;exact tz A;exact rfl));(exact uQ rfl (Imp.tup (by(repeat' (first|exact j3.nil|exact Imp.refl rfl|exact Imp.frz rfl rfl rfl|exact Imp.D8|refine Imp.agg ?_|refine j3.cons ?_ ?_)))) rfl rfl)
 ·rw[if_neg (by simpa using u)];generalize Nm.ofQ P=y6 at*;(repeat first|refine uA ?_|(refine uK ?_ ?_;focus first|omega|(intros;simp_all<;>omega))|simp(disch:=omega) only[go_sem,Nat.reduceAdd]);(exact uQ rfl (Imp.tup (by(repeat' (first|exact j3.nil|exact Imp.refl rfl|exact Imp.frz rfl rfl rfl|exact Imp.D8|refine Imp.agg ?_|refine j3.cons ?_ ?_)))) rfl rfl)
def a9u(p q r s:Rat)(u:p<=q)(A:r<=s)(B:Rb 1073741824 (Nm.ofQ p))(E:Rb 1073741824 (Nm.ofQ q))(hr:Rb 1073741824 (Nm.ofQ r))(D:Rb 1073741824 (Nm.ofQ s)):FZ 156 [(snQ p q).c,(snQ r s).c] (snQ (K3 p r) (J8 q s)).c:=by
 have h:=a6I ⟨p,q⟩ ⟨r,s⟩ ⟨B,E⟩ ⟨hr,D⟩;unfold U6 at h;rw[b2u u,b2u A]at h;exact h
def c3F{E:Ctx}(hP:E.P=Tryz.prog)(aa:Tz E)(a:Am)(t v:List Nm.Rt)(hl:Ab 1073741824 a)(ha:J2 a=0)(hq:t.length=a.links.length)(W:v.length=a.links.length)(R:∀r∈t,Rb 2097153 r)(hf:∀(i:Nat) (l:Lk) (x:Nm.Rt),a.links[i]?=some l->v[i]?=some x->Jo l x/\D9 (Nm.d9 l.brake) (Nm.d9 x)<=2000) :
  l5 E [] 271 [a.c,rts t,rts v] (.tup [.rv 1,ints 0]) [.gone,.row 252 6 ((a5k a.links t v).map Sn.enc)] []:=by
 obtain⟨P,af,N,w0,ag,al,aj,ai⟩:=E;simp only at hP;subst hP;refine l5.ofT (eff:=eff) aa Tryz.func271 (by cbv) (by exact d0n rfl) λw' own av ν Z A=>?_;have h:ν.length<=0:=by rw[Z];exact d0m _
 have u:=b2F a t v hl ha hq W;have hn:=hl.2.2.1;have ab:=a9f hq W;have B:=@a9v a.links t v;have hz:=a4e;generalize a5k a.links t v=SL at*;obtain⟨ah,⟨bx,ak,ae,tu⟩,links⟩:=a;simp only at hq W hn hf ab B ⊢;simp only[j4,TT,II,OA,OB,MM,LL,VV,FF];simp only[Am.c,Am.enc,lks,rts,sb,ints]at u ⊢;(repeat first|refine uA ?_|simp(disch:=omega) only[go_sem,Nat.reduceAdd]|(refine uD u ?_ ?_ ?_;exact A;exact rfl));refine S.cond rfl (λJ=>by simp at J) (λJ=>?_)
 (repeat first|refine uA ?_|simp(disch:=omega) only[go_sem,Nat.reduceAdd,d0d]);refine S.loop (X:=Nat) (λi=>⟨[(1,rts t),(2,rts v),(9,.rv 1),(24,lks links),(25,ints links.length),(26,ints i)],[.gone,.row 252 6 ((SL.take i).map Sn.enc)]⟩) (λi=>i<=links.length) (λi=>links.length-i) 0 (d0k _)
  (Ent.trans (Ent.pack 9 252 6 rfl) (by repeat first|refine uA ?_|(refine⟨?_,?_⟩;· first|rfl|simp[slot])|rfl|simp|exact d0f h (by simp))) ?_
 intro i hi;simp only[lks,rts,ints];refine uV rfl ?_;apply uJ rfl<;>intro J
 ·have G:i<links.length:=by omega
  have I:=d0b G;have F:=d0b (show i<t.length by omega);have H:=d0b (show i<v.length by omega);generalize links[i]=l at*;generalize t[i]'_=x at*;generalize v[i]'_=y at*;have O:=B I F H;have K:=take_at O;have ac:(SL.take i).length=i:=by rw[d0r];omega
  have M:=hf i l y I H;have rx:=R x (d0g F);have D:=a9A M.1 M.2;have r0:=rx.g rfl;have o1:=c1n l y M.1 M.2;have U:=a0X x (Nm.ofQ 0) (rx.m rfl) (a1j.m rfl);rw[Nm.y8,Rat.add_zero]at U;have o3:=a3l (Nm.d9 x) (a0c l y) (r0.m rfl) (D.m rfl);have Y:=O4 r0 D;have T:=a5b (Nm.ofQ (Nm.d9 x)) (Nm.ofQ (Nm.d9 x+a0c l y)) (r0.m rfl) (Y.m rfl);have V:=a6k (Nm.ofQ (Nm.d9 x)) (Nm.ofQ (Nm.d9 x+a0c l y)) (r0.m rfl) (Y.m rfl);rw[Nm.y8,Nm.y8]at T V;unfold b1i snQ at K;unfold rq at o1 U o3 T V hz;generalize Nm.ofQ (K3 (Nm.d9 x) (Nm.d9 x+a0c l y))=m1 at*;generalize Nm.ofQ (J8 (Nm.d9 x) (Nm.d9 x+a0c l y))=m2 at*;generalize Nm.ofQ (Nm.d9 x+a0c l y)=z1 at*
  generalize Nm.ofQ (Nm.d9 x)=z2 at*;generalize Nm.ofQ (a0c l y)=z3 at*;generalize Nm.ofQ 0=z0 at*;clear B hf R O M rx D r0 Y;simp only[Lk.c,Lk.enc,vts,rc,sb,ints]at o1 U o3 T V hz;(repeat first|refine uA ?_|simp(disch:=omega) only[go_sem,Nat.reduceAdd,I,H,d0e,d0d,Lk.enc,rcs,vts,sb,d0h]|(refine uD o1 ?_ ?_ ?_;exact A;exact rfl));refine S.cond rfl (λJ=>by simp at J) (λJ=>?_)
  (repeat first|refine uA ?_|simp(disch:=omega) only[go_sem,Nat.reduceAdd,ww,F,d0e,d0d,ac,rcs,sb,d0h]|(refine uD hz ?_ ?_ ?_;exact A;exact rfl)|(refine uD U ?_ ?_ ?_;exact A;exact rfl)|(refine uD o3 ?_ ?_ ?_;exact A;exact rfl)|(refine uD T ?_ ?_ ?_;exact A;exact rfl)|(refine uD V ?_ ?_ ?_;exact A;exact rfl));refine S.next (i+1) (by omega) (by omega) (by simp only[K,d0u,d0l,d0p,Sn.enc,sb];exact(by repeat first|refine uA ?_|(refine⟨?_,?_⟩;· first|rfl|simp[slot])|rfl|simp|exact d0f h (by simp)))
 ·have G:i=links.length:=by omega
  subst G;rw[d0y (by omega)]
  (exact uY rfl rfl (Imp.tup (by repeat' first|exact j3.nil|exact Imp.refl rfl|apply j3.cons)) (by repeat first|refine uA ?_|refine⟨rfl,?_⟩|rfl|simp) (d0f h (by simp)))
def c3c(a:Am)(q u:List Nm.Rt)(hl:Ab 1073741824 a)(ha:J2 a=0)(hq:q.length=a.links.length)(hv:u.length=a.links.length)(G:∀r∈q,Rb 1048576 r)(hf:∀(i:Nat) (l:Lk) (x:Nm.Rt),a.links[i]?=some l->u[i]?=some x->Jo l x/\D9 (Nm.d9 l.brake) (Nm.d9 x)<=2000) :
  FZ 234 [a.c,rts q,rts u] (.tup [.sl 6 ((K5 a.links q u).map Sn.enc),ints (V4 (a.links.zip u)+1),ints 0]):=by
 refine kW Tryz.func234 (by cbv) (by rfl) λw O hw=>?_;have af:=a6D a hl;rw[ha]at af;have hn:=hl.2.2.1;have ai:=c0I (q:=q) (u:=u) (by omega);have Y:=@c1J q u;have K:=λ(E:Ctx) (hP:E.P=Tryz.prog) (ht:Tz E)=>c3F hP ht a (toL q u) u hl ha (by omega) hv (λr hr=>by
  obtain⟨x,hx,y,hy,rfl⟩:=c7W hr;obtain⟨i,hi⟩:=List.getElem?_of_mem hy;have aw:=(d0i.1 hi).1;exact(O4 ((G x hx).g rfl) ((hf i _ y (d0b (show i<a.links.length by omega)) hi).1.hv.g rfl)).m rfl) hf
 have ah:=a9f (L:=a.links) (t:=toL q u) (v:=u) (by omega) hv;have ab:=@a9v a.links (toL q u) u;have al:=a6P (L:=a.links) hq hv;have aa:=@b2W a.links q u;have ag:=@b0w (a.links.zip u);have an:(a.links.zip u).length=a.links.length:=by rw[List.length_zip];omega
 have zs:∀i,0<=V4 ((a.links.zip u).take i)/\V4 ((a.links.zip u).take i)<=2000:=λi=>by
  refine⟨b4a _,?_⟩;have ao:∀(z:List (Lk×Nm.Rt)) (m:Int),m<=2000->(∀x∈z,D9 (Nm.d9 x.1.brake) (Nm.d9 x.2)<=2000)->z.foldl (λm z=>max m (D9 (Nm.d9 z.1.brake) (Nm.d9 z.2))) m<=2000:=by
   intro z
   induction z with
   | nil=>intro m hm _;exact hm
   | cons x z ih=>
    intro m hm hx;rw[List.foldl_cons];have:=hx x (by simp);exact ih _ (by omega) λy hy=>hx y (by simp[hy])
  refine ao _ 0 (by decide) λx hx=>?_;obtain⟨j,hj⟩:=List.getElem?_of_mem (List.mem_of_mem_take hx);rw[List.getElem?_zip_eq_some]at hj;exact(hf j _ _ hj.1 hj.2).2
 have U:=λ(i:Nat) (l:Lk) (x:Nm.Rt) (h1:a.links[i]?=some l) (h2:u[i]?=some x)=>M5 h1 h2;have ap:V4 ((a.links.zip u).take 0)=0:=rfl;have ae:(a.links.zip u).take a.links.length=a.links.zip u:=d0y (by omega);generalize a5k a.links (toL q u) u=J at*;generalize toL q u=T at*;generalize K5 a.links q u=RL at*;generalize a.links.zip u=Z at*;obtain⟨M,⟨W,B,I,N⟩,links⟩:=a;simp only at hq hv hn hf ah ab al aa an ae U K ⊢;simp only[j4,TT,II,OA,OB,OC,MM,LL,VV,FF,MG,VG,FG];simp only[Am.c,Am.enc,lks,rts,sb,ints]at af K ⊢
 (repeat first|refine uA ?_|(apply uK;· first|omega|(intros;simp_all<;>omega))|simp(disch:=omega) only[go_sem,Nat.reduceAdd]|(refine uD af ?_ ?_ ?_;exact tz hw;rfl));refine S.cond rfl (λF=>by simp at F) (λF=>?_)
 (repeat first|refine uA ?_|(apply uK;· first|omega|(intros;simp_all<;>omega))|simp(disch:=omega) only[go_sem,Nat.reduceAdd,d0d]);refine S.cond rfl (λF=>by simp[hq,hv]at F) (λF=>?_)
 (repeat first|refine uA ?_|(apply uK;· first|omega|(intros;simp_all<;>omega))|simp(disch:=omega) only[go_sem,d0d]);refine S.loop (X:=Nat) (λi=>⟨[(1,rts q),(2,rts u),(3,.bp 0 0),(10,.rv 1),(38,ints q.length),(39,ints i)],[.box 73 [sb M,.v (.bool W.neg),sb W.num,sb W.den,.v (.bool B.neg),sb B.num,sb B.den,.v (.bool I),.v (.bool N.neg),sb N.num,sb N.den,lks links],.row 29 3 ((T.take i).map rcs)]⟩) (λi=>i<=q.length) (λi=>q.length-i) 0 (d0k _)
  (Ent.trans (Ent.pack 10 29 3 rfl) (by repeat first|refine uA ?_|(refine⟨?_,?_⟩;· first|rfl|simp[slot])|rfl|simp)) ?_
 intro i hi;simp only[lks,rts,sb,ints];(repeat first|refine uA ?_|(apply uK;· first|omega|(intros;simp_all<;>omega))|simp(disch:=omega) only[go_sem]);apply uJ rfl<;>intro F
 ·have H:i<q.length:=by omega
  have D:=d0b (show i<links.length by omega);have A:=d0b H;have h:=d0b (show i<u.length by omega);generalize q[i]'_=x at*;generalize u[i]'_=y at*;have aj:=take_at (Y A h);have ai:(T.take i).length=i:=by rw[d0r];omega
  have o1:=a0X x y ((G x (d0g A)).m rfl) ((hf i _ y D h).1.hv.m rfl);unfold a1c at aj;unfold rq at o1;generalize Nm.ofQ (Nm.d9 x+Nm.d9 y)=z at*;clear ab hf G aa Y ag K D U;simp only[rc,sb]at o1;(repeat first|refine uA ?_|(apply uK;· first|omega|(intros;simp_all<;>omega))|simp(disch:=omega) only[go_sem,Nat.reduceAdd,ww,A,h,d0e,d0d,ai,rcs,sb,d0h]|(refine uD o1 ?_ ?_ ?_;exact tz hw;rfl));refine S.next (i+1) (by omega) (by omega) (by simp only[aj,d0u,d0l,d0p,rcs,sb];exact(by repeat first|refine uA ?_|(refine⟨?_,?_⟩;· first|rfl|simp[slot])|rfl|simp))
 have H:i=q.length:=by omega
 subst H;rw[d0y (by omega)];refine S.exit rfl ?_
 refine S.weaken (st':=⟨[(1,rts q),(2,rts u),(3,.bp 0 0),(10,.sl 3 (T.map rcs))],[.box 73 [sb M,.v (.bool W.neg),sb W.num,sb W.den,.v (.bool B.neg),sb B.num,sb B.den,.v (.bool I),.v (.bool N.neg),sb N.num,sb N.den,lks links]]⟩) (Ent.mk _ _ (by(repeat' (first|exact Z0.nil|exact Imp.junk|exact Imp.refl rfl|exact Imp.frz rfl rfl rfl|exact Imp.eq (by simp[slot];done) rfl|refine Z0.cons ?_ ?_))) (by(repeat' (first|exact C9.nil|exact RI.gone _|exact RI.row _ _ _ _ rfl|exact RI.map _ _ _ rfl|exact RI.box _ _ _ (j3.refl rfl)|(refine RI.box _ _ _ ?_;(repeat' (first|exact j3.nil|exact Imp.refl rfl|exact Imp.frz rfl rfl rfl|exact Imp.D8|refine j3.cons ?_ ?_)))|refine C9.cons ?_ ?_))) (d0k _)) ?_
 simp only[lks,rts,sb];(repeat first|refine uA ?_|(apply uK;· first|omega|(intros;simp_all<;>omega))|simp(disch:=omega) only[go_sem,Nat.reduceAdd,C.sh,C.shL,d0j,List.length_nil]|refine j5.t (l5.pre (K _ rfl (tz hw)) rfl rfl rfl) ?_);refine S.cond rfl (λF=>by simp at F) (λF=>?_)
 (repeat first|refine uA ?_|(apply uK;· first|omega|(intros;simp_all<;>omega))|simp(disch:=omega) only[go_sem,d0d]);refine S.loop (X:=Nat) (λi=>⟨[(1,rts q),(2,rts u),(3,.bp 0 0),(12,.rv 2),(14,ints (V4 (Z.take i))),(66,ints J.length),(67,ints i)],[.box 73 [sb M,.v (.bool W.neg),sb W.num,sb W.den,.v (.bool B.neg),sb B.num,sb B.den,.v (.bool I),.v (.bool N.neg),sb N.num,sb N.den,lks links],.gone,.row 252 6 ((RL.take i++J.drop i).map Sn.enc)]⟩) (λi=>i<=J.length) (λi=>J.length-i) 0 (d0k _) (by rw[ap];exact(by repeat first|refine uA ?_|(refine⟨?_,?_⟩;· first|rfl|simp[slot])|rfl|simp)) ?_
 intro i hi;simp only[lks,rts,sb,ints];have am:=zs i;(repeat first|refine uA ?_|(apply uK;· first|omega|(intros;simp_all<;>omega))|simp(disch:=omega) only[go_sem]);apply uJ rfl<;>intro F
 ·have H:i<J.length:=by omega
  have D:=d0b (show i<links.length by omega);have A:=d0b (show i<q.length by omega);have h:=d0b (show i<u.length by omega);generalize links[i]'_=l at*;generalize q[i]'_=x at*;generalize u[i]'_=y at*;have ac:=ab D (Y A h) h;have R:=aa D A h;have hF:=hf i l y D h;have ak:=ag (U i l y D h);have r1:=(G x (d0g A)).g rfl;have r2:=hF.1.hv.g rfl;have r3:=O4 r1 r2;have r4:=O4 r3 (a9A hF.1 hF.2);have e1:Nm.d9 (a1c x y)=Nm.d9 x+Nm.d9 y:=by unfold a1c;rw[Nm.y8]
  have e2:b4C x y l.brake=Nm.d9 x+Nm.d9 y+a0c l y:=rfl;unfold b1i at ac;unfold b1j loQ hiQ at R;rw[e1]at ac;rw[e2]at R;have o1:FZ 157 [rc x] (snQ (Nm.d9 x) (Nm.d9 x)).c:=a0y x ((G x (d0g A)).m rfl);have o2:=a9u (K3 (Nm.d9 x+Nm.d9 y) (Nm.d9 x+Nm.d9 y+a0c l y)) (J8 (Nm.d9 x+Nm.d9 y) (Nm.d9 x+Nm.d9 y+a0c l y)) (Nm.d9 x) (Nm.d9 x) (c5B _ _) Rat.le_refl ((a7X (r3.m rfl) r4).m rfl) ((a7D (r3.m rfl) r4).m rfl) (r1.m rfl) (r1.m rfl);have o3:=b0U l y hF.1;rw[if_pos hF.2,if_pos hF.2]at o3;have m1:=c3h (l:=RL) (m:=J) (by omega) ac;have s1:=b2v Sn.enc (by omega) R (m:=J);have ar:=a9H (l:=RL) (m:=J) (i:=i) (by omega) (by omega);have av:=hF.2
  have au:=(a5Z (V:=Nm.d9 y) (b2b hF.1.pos)).1;simp only at ak;clear r1 r2 r3 r4 e1 e2 ac R hF ab hf G aa Y ag K U;generalize D9 (Nm.d9 l.brake) (Nm.d9 y)=tk at*;unfold snQ at*;generalize Nm.ofQ (K3 (K3 (Nm.d9 x+Nm.d9 y) (Nm.d9 x+Nm.d9 y+a0c l y)) (Nm.d9 x))=n1 at*;generalize Nm.ofQ (J8 (J8 (Nm.d9 x+Nm.d9 y) (Nm.d9 x+Nm.d9 y+a0c l y)) (Nm.d9 x))=n2 at*;generalize Nm.ofQ (K3 (Nm.d9 x+Nm.d9 y) (Nm.d9 x+Nm.d9 y+a0c l y))=n3 at*;generalize Nm.ofQ (J8 (Nm.d9 x+Nm.d9 y) (Nm.d9 x+Nm.d9 y+a0c l y))=n4 at*;generalize Nm.ofQ (Nm.d9 x)=n5 at*;generalize V4 (Z.take i)=t0 at*;generalize aq:RL.take (i+1)++J.drop (i+1)=M1 at*;generalize RL.take i++J.drop i=M0 at*
  simp only[Lk.c,Lk.enc,Sn.c,Sn.enc,vts,rc,sb,ints]at o1 o2 o3 s1;(repeat first|refine uA ?_|(apply uK;· first|omega|(intros;simp_all<;>omega))|simp(disch:=omega) only[go_sem,Nat.reduceAdd,D,A,h,m1,s1,ar,d0e,d0d,Lk.enc,Sn.enc,rcs,vts,sb,d0h]|(refine uD o1 ?_ ?_ ?_;exact tz hw;rfl)|(refine uD o2 ?_ ?_ ?_;exact tz hw;rfl)|(refine uD o3 ?_ ?_ ?_;exact tz hw;rfl));refine S.cond rfl (λF=>by simp at F) (λF=>?_)
  (repeat first|refine uA ?_|(apply uK;· first|omega|(intros;simp_all<;>omega))|simp(disch:=omega) only[go_sem,ww]);refine S.next (i+1) (by omega) (by omega) (by simp only[aq,ak];exact(by repeat first|refine uA ?_|(refine⟨?_,?_⟩;· first|rfl|simp[slot])|rfl|simp))
 ·have H:i=J.length:=by omega
  subst H;rw[ah,ae]at am;rw[ah,ae,<- al,d0w,List.drop_eq_nil_of_le (by omega),List.append_nil];generalize V4 Z=tz at*;(repeat first|refine uA ?_|(apply uK;· first|omega|(intros;simp_all<;>omega))|simp(disch:=omega) only[go_sem,ww]);(exact uQ rfl (Imp.tup (by(repeat' (first|exact j3.nil|exact Imp.refl rfl|exact Imp.frz rfl rfl rfl|exact Imp.D8|refine Imp.agg ?_|refine j3.cons ?_ ?_)))) rfl rfl)
def c3z(a:Am)(t v:List Nm.Rt)(k:Nat)(hl:Ab 1073741824 a)(ha:J2 a=0)(hq:t.length=a.links.length)(Z:v.length=a.links.length)(P:∀r∈t,Rb 2097153 r)(W:∀(i:Nat) (l:Lk) (x:Nm.Rt),a.links[i]?=some l->v[i]?=some x->Jo l x)(hk:k<a.links.length)
  (h:∀(l:Lk) (x:Nm.Rt),a.links[k]?=some l->v[k]?=some x->¬D9 (Nm.d9 l.brake) (Nm.d9 x)<=2000) (u:∀(i:Nat) (l:Lk) (x:Nm.Rt),i<k->a.links[i]?=some l->v[i]?=some x->D9 (Nm.d9 l.brake) (Nm.d9 x)<=2000) :
  FZ 271 [a.c,rts t,rts v] (.tup [.v (.slice none 0 0),ints 2]):=by
 refine kW Tryz.func271 (by cbv) (by rfl) λw' O F=>?_;have G:=b2F a t v hl ha hq Z;have hn:=hl.2.2.1;have aa:=a9f hq Z;have E:=@a9v a.links t v;have hz:=a4e;generalize a5k a.links t v=SL at*;obtain⟨af,⟨bx,ag,ae,tu⟩,links⟩:=a;simp only at hq Z hn W aa E hk h u ⊢;simp only[j4,TT,II,OA,OB,MM,LL,VV,FF];simp only[Am.c,Am.enc,lks,rts,sb,ints]at G ⊢;(repeat first|refine uA ?_|simp(disch:=omega) only[go_sem,Nat.reduceAdd]|refine uD G (tz F) rfl ?_);refine S.cond rfl (λD=>by simp at D) (λD=>?_)
 (repeat first|refine uA ?_|simp(disch:=omega) only[go_sem,Nat.reduceAdd,d0d]);refine S.loop (X:=Nat) (λi=>⟨[(1,rts t),(2,rts v),(9,.rv 1),(24,lks links),(25,ints links.length),(26,ints i)],[.gone,.row 252 6 ((SL.take i).map Sn.enc)]⟩) (λi=>i<=k) (λi=>links.length-i) 0 (d0k _)
  (Ent.trans (Ent.pack 9 252 6 rfl) (by repeat first|refine uA ?_|refine⟨rfl,?_⟩|rfl|simp)) ?_
 intro i hi;simp only[lks,rts,ints];refine uV rfl ?_;apply uJ rfl<;>intro D
 ·have ab:i<links.length:=by omega
  have B:=d0b ab;have M:=d0b (show i<t.length by omega);have A:=d0b (show i<v.length by omega);generalize links[i]=l at*;generalize t[i]'_=x at*;generalize v[i]'_=y at*;have N:=E B M A;have H:=take_at N;have ac:(SL.take i).length=i:=by rw[d0r];omega
  have R:=W i l y B A;by_cases Y:i=k
  ·subst Y;have I:=c7p l y R (h l y B A);clear E W P N R H h u;unfold c2L at I;simp only[Lk.c,Lk.enc,vts,rc,sb,ints]at I;(repeat first|refine uA ?_|simp(disch:=omega) only[go_sem,Nat.reduceAdd,B,A,d0e,d0d,Lk.enc,rcs,vts,sb,d0h]|refine uD I (tz F) rfl ?_);refine S.cond rfl (λD=>?_) (λD=>by simp at D)
   (exact uX rfl rfl (Imp.tup (by repeat' first|exact j3.nil|exact Imp.refl rfl|apply j3.cons)) rfl rfl)
  have J:=u i l y (by omega) B A;have rx:=P x (d0g M);have K:=a9A R J;have r0:=rx.g rfl;have I:=c1n l y R J;have U:=a0X x (Nm.ofQ 0) (rx.m rfl) (a1j.m rfl);rw[Nm.y8,Rat.add_zero]at U;have o3:=a3l (Nm.d9 x) (a0c l y) (r0.m rfl) (K.m rfl);have r1:=O4 r0 K;have T:=a5b (Nm.ofQ (Nm.d9 x)) (Nm.ofQ (Nm.d9 x+a0c l y)) (r0.m rfl) (r1.m rfl);have V:=a6k (Nm.ofQ (Nm.d9 x)) (Nm.ofQ (Nm.d9 x+a0c l y)) (r0.m rfl) (r1.m rfl);rw[Nm.y8,Nm.y8]at T V;unfold b1i snQ at H;unfold rq at I U o3 T V hz;generalize Nm.ofQ (K3 (Nm.d9 x) (Nm.d9 x+a0c l y))=m1 at*;generalize Nm.ofQ (J8 (Nm.d9 x) (Nm.d9 x+a0c l y))=m2 at*;generalize Nm.ofQ (Nm.d9 x+a0c l y)=z1 at*
  generalize Nm.ofQ (Nm.d9 x)=z2 at*;generalize Nm.ofQ (a0c l y)=z3 at*;generalize Nm.ofQ 0=z0 at*;clear E W P N R rx K r0 r1 h u J;simp only[Lk.c,Lk.enc,vts,rc,sb,ints]at I U o3 T V hz;(repeat first|refine uA ?_|simp(disch:=omega) only[go_sem,Nat.reduceAdd,B,A,d0e,d0d,Lk.enc,rcs,vts,sb,d0h]|refine uD I (tz F) rfl ?_);refine S.cond rfl (λD=>by simp at D) (λD=>?_)
  (repeat first|refine uA ?_|(apply uK;· first|omega|(intros;simp_all<;>omega))|simp(disch:=omega) only[go_sem,Nat.reduceAdd,ww,M,d0e,d0d,ac,rcs,sb,d0h]|refine uD hz (tz F) rfl ?_|refine uD U (tz F) rfl ?_|refine uD o3 (tz F) rfl ?_|refine uD T (tz F) rfl ?_|refine uD V (tz F) rfl ?_);refine S.next (i+1) (by omega) (by omega) (by simp only[H,d0u,d0l,d0p,Sn.enc,sb];exact(by repeat first|refine uA ?_|refine⟨rfl,?_⟩|rfl|simp[slot]))
 ·omega
def c2y(a:Am)(q u:List Nm.Rt)(k:Nat)(hl:Ab 1073741824 a)(ha:J2 a=0)(hq:q.length=a.links.length)(Z:u.length=a.links.length)(I:∀r∈q,Rb 1048576 r)(Y:∀(i:Nat) (l:Lk) (x:Nm.Rt),a.links[i]?=some l->u[i]?=some x->Jo l x)(hk:k<a.links.length)
  (A:∀(l:Lk) (x:Nm.Rt),a.links[k]?=some l->u[k]?=some x->¬D9 (Nm.d9 l.brake) (Nm.d9 x)<=2000) (G:∀(i:Nat) (l:Lk) (x:Nm.Rt),i<k->a.links[i]?=some l->u[i]?=some x->D9 (Nm.d9 l.brake) (Nm.d9 x)<=2000) :
  FZ 234 [a.c,rts q,rts u] (.tup [.v (.slice none 0 0),ints 0,ints 2]):=by
 refine kW Tryz.func234 (by cbv) (by rfl) λw O hw=>?_;have J:=a6D a hl;rw[ha]at J;have hn:=hl.2.2.1;have W:=c0I (q:=q) (u:=u) (by omega);have R:=@c1J q u;have D:=c3z a (toL q u) u k hl ha (by omega) Z (λr hr=>by
  obtain⟨x,hx,y,hy,rfl⟩:=c7W hr;obtain⟨i,hi⟩:=List.getElem?_of_mem hy;have aa:=(d0i.1 hi).1;exact(O4 ((I x hx).g rfl) ((Y i _ y (d0b (show i<a.links.length by omega)) hi).hv.g rfl)).m rfl) Y hk A G
 generalize toL q u=T at*;obtain⟨F,⟨P,h,E,N⟩,links⟩:=a;simp only at hq Z hn Y D ⊢;simp only[j4,TT,II,OA,OB,OC,MM,LL,VV,FF,MG,VG,FG];simp only[Am.c,Am.enc,lks,rts,sb,ints]at J D ⊢;(repeat first|refine uA ?_|simp(disch:=omega) only[go_sem,Nat.reduceAdd]|refine uD J (tz hw) rfl ?_);refine S.cond rfl (λB=>by simp at B) (λB=>?_)
 (repeat first|refine uA ?_|simp(disch:=omega) only[go_sem,Nat.reduceAdd,d0d]);refine S.cond rfl (λB=>by simp[hq,Z]at B) (λB=>?_)
 (repeat first|refine uA ?_|simp(disch:=omega) only[go_sem,d0d]);refine S.loop (X:=Nat) (λi=>⟨[(1,rts q),(2,rts u),(3,.bp 0 0),(10,.rv 1),(38,ints q.length),(39,ints i)],[.box 73 [sb F,.v (.bool P.neg),sb P.num,sb P.den,.v (.bool h.neg),sb h.num,sb h.den,.v (.bool E),.v (.bool N.neg),sb N.num,sb N.den,lks links],.row 29 3 ((T.take i).map rcs)]⟩) (λi=>i<=q.length) (λi=>q.length-i) 0 (d0k _)
  (Ent.trans (Ent.pack 10 29 3 rfl) (by repeat first|refine uA ?_|refine⟨rfl,?_⟩|rfl|simp)) ?_
 intro i hi;simp only[lks,rts,sb,ints];refine uV rfl ?_;apply uJ rfl<;>intro B
 ·have M:i<q.length:=by omega
  have V:=d0b (show i<links.length by omega);have K:=d0b M;have H:=d0b (show i<u.length by omega);generalize q[i]'_=x at*;generalize u[i]'_=y at*;have U:=take_at (R K H);have W:(T.take i).length=i:=by rw[d0r];omega
  have o1:=a0X x y ((I x (d0g K)).m rfl) ((Y i _ y V H).hv.m rfl);unfold a1c at U;unfold rq at o1;generalize Nm.ofQ (Nm.d9 x+Nm.d9 y)=z at*;clear Y I R D V A G;simp only[rc,sb]at o1;(repeat first|refine uA ?_|(apply uK;· first|omega|(intros;simp_all<;>omega))|simp(disch:=omega) only[go_sem,Nat.reduceAdd,ww,K,H,d0e,d0d,W,rcs,sb,d0h]|refine uD o1 (tz hw) rfl ?_);refine S.next (i+1) (by omega) (by omega) (by simp only[U,d0u,d0l,d0p,rcs,sb];exact(by repeat first|refine uA ?_|refine⟨rfl,?_⟩|rfl|simp[slot]))
 have M:i=q.length:=by omega
 subst M;rw[d0y (by omega)];refine S.exit rfl ?_
 refine S.weaken (st':=⟨[(1,rts q),(2,rts u),(3,.bp 0 0),(10,.sl 3 (T.map rcs))],[.box 73 [sb F,.v (.bool P.neg),sb P.num,sb P.den,.v (.bool h.neg),sb h.num,sb h.den,.v (.bool E),.v (.bool N.neg),sb N.num,sb N.den,lks links]]⟩) (Ent.mk _ _ (by(repeat' (first|exact Z0.nil|exact Imp.junk|exact Imp.refl rfl|exact Imp.frz rfl rfl rfl|exact Imp.eq (by simp[slot];done) rfl|refine Z0.cons ?_ ?_))) (by(repeat' (first|exact C9.nil|exact RI.gone _|exact RI.row _ _ _ _ rfl|exact RI.map _ _ _ rfl|exact RI.box _ _ _ (j3.refl rfl)|(refine RI.box _ _ _ ?_;(repeat' (first|exact j3.nil|exact Imp.refl rfl|exact Imp.frz rfl rfl rfl|exact Imp.D8|refine j3.cons ?_ ?_)))|refine C9.cons ?_ ?_))) (d0k _)) ?_
 simp only[lks,rts,sb];(repeat first|refine uA ?_|simp(disch:=omega) only[go_sem,Nat.reduceAdd]|refine uD D (tz hw) rfl ?_);refine S.cond rfl (λB=>?_) (λB=>by simp at B)
 (exact uX rfl rfl (Imp.tup (by repeat' first|exact j3.nil|exact Imp.refl rfl|apply j3.cons)) rfl rfl)
def bqs(l:List Bq):C:=.sl 12 (l.map Bq.enc)
end Go.Proofs.YtfkipfnkpeobjaaGreatDoor
