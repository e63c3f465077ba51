/- A part of the proof: lemmas only, with the conditions that each names. -/
import Derived.Test.YtfkipfnkpeobjaaGreatDoorProg
import Derived.KernelRfl
import Derived.Laws.Bits64b
import Derived.Test.YtfkipfnkpeobjaaGreatDoorRk3
set_option linter.all false
namespace Go.Proofs.YtfkipfnkpeobjaaGreatDoor
attribute [local go_sem] Eng.nbq beq_self_eq_true Eng.ww Eng.uk Eng.uk2
open Go Go.RowKit Eng
set_option maxRecDepth 10000
set_option maxHeartbeats 4000000
structure Hv where
 s:Bool
 u:List Nat
 lo:Nat
 n:Nat
 v:Nat
 o:List Nat
 lo2:Nat
 n2:Nat
 v2:Nat
def c2H(a b:List UInt8)(ha:a.length<=68719476736)(hb:b.length<=68719476736)(au:Nm.val a≠0)(aD:Nm.val b≠0):FZ 168 [sb a,sb b] (sb (Nm.enc (Nat.gcd (Nm.val a) (Nm.val b)))):=by
 refine kW Tryz.func168 (by cbv) (by rfl) λw O hw=>?_;simp only[j4,TT,II,OA,OB,OC,MM,VV,MG,sb];have a2:=b7Y a (by omega);have bh:=b7Y b (by omega);have ah:=Nm.b1H a;have aj:=Nm.b1H b;have az:=Nm.b1R a;have aB:=Nm.b1R b;have bt:=Nm.b0u a;have br:=Nm.b0u b;obtain⟨za,aw,R⟩:=Nm.a4u au;obtain⟨zb,aA,M⟩:=Nm.a4u aD;have U:Nat.gcd (Nm.val a) (Nm.val b)=2^(min (Nm.v2 (Nm.val a)) (Nm.v2 (Nm.val b)))*Nat.gcd za zb:=by
  conv=>lhs;rw[aw,aA]
  exact Nm.c3W R M
 rw[U];have a0:=a9N (Nm.X6 a) (by omega) az (by rw[ah];exact au);have aL:=a9N (Nm.X6 b) (by omega) aB (by rw[aj];exact aD);rw[ah]at a0;rw[aj]at aL;have bB:Nm.v2 (Nm.val a)<=549755813888:=by
  have h1:=Nm.a0U a;have h3:2^Nm.v2 (Nm.val a)<=Nm.val a:=by
   conv=>rhs;rw[aw]
   exact Nat.le_mul_of_pos_right _ (by omega)
  have h4:2^Nm.v2 (Nm.val a)<2^(8*a.length):=by rw[Nat.pow_mul];exact Nat.lt_of_le_of_lt h3 h1
  have h5:=(Nat.pow_lt_pow_iff_right (by decide:1<2)).1 h4;omega
 have bz:Nm.v2 (Nm.val b)<=549755813888:=by
  have h1:=Nm.a0U b;have h3:2^Nm.v2 (Nm.val b)<=Nm.val b:=by
   conv=>rhs;rw[aA]
   exact Nat.le_mul_of_pos_right _ (by omega)
  have h4:2^Nm.v2 (Nm.val b)<2^(8*b.length):=by rw[Nat.pow_mul];exact Nat.lt_of_le_of_lt h3 h1
  have h5:=(Nat.pow_lt_pow_iff_right (by decide:1<2)).1 h4;omega
 have bj:0<(Nm.X6 a).length:=by
  rcases d0K (Nm.X6 a).length with h|h
  ·have:=List.length_eq_zero_iff.1 h;rw[this]at ah;exact absurd ah.symm au
  ·exact h
 have ba:0<(Nm.X6 b).length:=by
  rcases d0K (Nm.X6 b).length with h|h
  ·have:=List.length_eq_zero_iff.1 h;rw[this]at aj;exact absurd aj.symm aD
  ·exact h
 generalize Nm.v2 (Nm.val a)=p at*;generalize Nm.v2 (Nm.val b)=q at*;have a7:Nm.wv 18446744073709551616 (((Nm.X6 a).drop 0).take (Nm.X6 a).length)=za*2^p:=by
  rw[List.drop_zero,d0w,ah,aw,Nat.mul_comm]
 have a5:Nm.wv 18446744073709551616 (((Nm.X6 b).drop 0).take (Nm.X6 b).length)=zb*2^q:=by
  rw[List.drop_zero,d0w,aj,aA,Nat.mul_comm]
 clear U aw aA ah aj au aD;generalize hA:Nm.X6 a=A at*;generalize hB:Nm.X6 b=B at*;have aa:=λ(E:Ctx) (N:E.P=Tryz.prog)=>a9U (E:=E) N true A B 0 A.length p za (by omega) (by omega) (by omega) az (by omega) a7;obtain⟨bk,aW,_⟩:=aa ⟨Tryz.prog,eff,0,w,λ_=>False,O,[],[]⟩ rfl;have aa:=λE N=>(aa E N).2.2;have F:=Win.put (u:=A) (l1:=0+p/64) (p:=A.length-p/64) (z:=za) (by omega) (by omega) (by omega) az aW;generalize bn:put A (0+p/64) (Nm.dig 18446744073709551616 (A.length-p/64) za)=A1 at*;generalize 0+p/64=la at*;generalize(Nm.J4 (Nm.dig 18446744073709551616 (A.length-p/64) za)).length=na at*
 have al:=λ(E:Ctx) (N:E.P=Tryz.prog)=>a9U (E:=E) N false B A1 0 B.length q zb (by omega) (by omega) (by omega) aB (by omega) a5;obtain⟨bo,ac,_⟩:=al ⟨Tryz.prog,eff,0,w,λ_=>False,O,[],[]⟩ rfl;have al:=λE N=>(al E N).2.2;have D:=Win.put (u:=B) (l1:=0+q/64) (p:=B.length-q/64) (z:=zb) (by omega) (by omega) (by omega) aB ac;generalize bu:put B (0+q/64) (Nm.dig 18446744073709551616 (B.length-q/64) zb)=B1 at*;generalize 0+q/64=lb at*;generalize(Nm.J4 (Nm.dig 18446744073709551616 (B.length-q/64) zb)).length=nb at*
 have aG:∀(E:Ctx),E.P=Tryz.prog->l5 E [.row 45 1 (ls A),.row 45 1 (ls B)] 222 [.rv 0,ints p] (.wv 0 1 la na) [.row 45 1 (ls A1),.row 45 1 (ls B)] []:=λE N=>l5.imp (aa E N) (j3.cons (Imp.win (k:=0) (e:=45) (sz:=1) (es:=ls A) rfl (I6 _).symm (by simp)) (j3.cons (Imp.refl rfl) j3.nil));have aH:∀(E:Ctx),E.P=Tryz.prog->l5 E [.row 45 1 (ls A1),.row 45 1 (ls B)] 222 [.rv 1,ints q] (.wv 1 1 lb nb) [.row 45 1 (ls A1),.row 45 1 (ls B1)] []:=λE N=>l5.imp (al E N) (j3.cons (Imp.win (k:=1) (e:=45) (sz:=1) (es:=ls B) rfl (I6 _).symm (by simp)) (j3.cons (Imp.refl rfl) j3.nil))
 (repeat first|refine uA ?_|(apply uK;· omega)|simp(disch:=omega) only[go_sem,Nat.reduceAdd]|refine j5.t (FNew.t a2 rfl) ?_|refine j5.t (FNew.t bh rfl) ?_|refine j5.t (aG _ rfl) ?_|refine j5.t (aH _ rfl) ?_|(apply uE a0;exact tz hw;exact rfl;focus (repeat' first|exact j3.nil|exact Imp.refl rfl|exact Imp.frz rfl rfl rfl|(refine Imp.O0 rfl rfl ?_ ?_;(focus ((try simp only[d0c]);omega));(focus first|rfl|assumption))|refine j3.cons ?_ ?_);done)|(apply uE aL;exact tz hw;exact rfl;focus (repeat' first|exact j3.nil|exact Imp.refl rfl|exact Imp.frz rfl rfl rfl|(refine Imp.O0 rfl rfl ?_ ?_;(focus ((try simp only[d0c]);omega));(focus first|rfl|assumption))|refine j3.cons ?_ ?_);done))
 clear aa al aG aH a2 bh a0 aL a7 a5 hA hB bn bu aW ac bk bo az aB bj ba bt br;have af:min p q<=549755813888:=by omega
 generalize U:Nat.gcd za zb=G at*;refine S.b8T (Y:=Hv) (λx=>⟨[(5,.wv (kx x.s) 1 x.lo x.n),(6,.wv (kx !x.s) 1 x.lo2 x.n2),(7,ints p),(8,ints q)],rw2 x.s x.u x.o⟩)
  (λx=>Win x.u x.lo x.n x.v/\Win x.o x.lo2 x.n2 x.v2/\((x.n=0/\x.v2=G)\/(x.n=1/\x.n2=1/\Nat.gcd x.v x.v2=G))) ?_ ?_
 ·refine S.loop (X:=Hv) (λx=>⟨[(5,.wv (kx x.s) 1 x.lo x.n),(6,.wv (kx !x.s) 1 x.lo2 x.n2),(7,ints p),(8,ints q)],rw2 x.s x.u x.o⟩)
   (λx=>Win x.u x.lo x.n x.v/\Win x.o x.lo2 x.n2 x.v2/\x.v%2=1/\x.v2%2=1/\Nat.gcd x.v x.v2=G) (λx=>x.v+x.v2) ⟨true,A1,la,na,za,B1,lb,nb,zb⟩ ⟨F,D,R,M,U⟩ (by repeat first|refine uA ?_|refine⟨rfl,?_⟩|rfl|simp) ?_
  clear F D U R M;rintro⟨s,u,V,n,v,o,H,J,v2⟩ ⟨F,D,R,M,U⟩;simp only[ints]at F D R M U ⊢;(repeat first|refine uA ?_|simp(disch:=omega) only[go_sem]);apply uJ rfl<;>intro hc
  ·refine S.skip ?_;refine S.block ?_;refine S.seq ?_;have ar:=F.hl;have aV:=D.hl;have ai:=F.hn;have ax:=D.hn;have av:∀(u:List Nat) V n,ls ((u.drop V).take n)=((ls u).drop V).take n:=λu V n=>by simp[ls,List.map_drop,List.map_take]
   refine S.join (Y:=Hv) (λx=>⟨[(5,.wv (kx x.s) 1 x.lo x.n),(6,.wv (kx !x.s) 1 x.lo2 x.n2),(7,ints p),(8,ints q)],rw2 x.s x.u x.o⟩)
    (λx=>Win x.u x.lo x.n x.v/\Win x.o x.lo2 x.n2 x.v2/\x.v%2=1/\x.v2%2=1/\Nat.gcd x.v x.v2=G/\x.v2<=x.v/\x.v+x.v2=v+v2) ?_ ?_
   ·have hb:=c6x ((u.drop V).take n) ((o.drop H).take J) (by rw[F.len];omega) (by rw[D.len];omega) F.all D.all F.last D.last;rw[av,av,F.hv,D.hv]at hb;cases s
    all_goals
     simp only[rw2,kx,Bool.not_true,Bool.not_false];(repeat first|refine uA ?_|(apply uK;· omega)|simp only[go_sem]|simp(disch:=omega) only[ww,I6]|(apply uC hb;exact rfl;focus (repeat' first|exact j3.nil|exact Imp.refl rfl|exact Imp.frz rfl rfl rfl|(refine Imp.O0 rfl rfl ?_ ?_;(focus ((try simp only[I6]);omega));(focus first|rfl|assumption))|refine j3.cons ?_ ?_);done));apply S.cond rfl<;>intro hc
     all_goals simp only[d0t,d0x]at hc
    ·(repeat first|refine uA ?_|(apply uK;· omega)|simp(disch:=omega) only[go_sem]);exact S.met ⟨true,o,H,J,v2,u,V,n,v⟩ ⟨D,F,M,R,by rw[Nat.gcd_comm];exact U,by simp only;omega,by simp only;omega⟩ (by repeat first|refine uA ?_|refine⟨rfl,?_⟩|rfl|simp[slot])
    ·(repeat first|refine uA ?_|(apply uK;· omega)|simp(disch:=omega) only[go_sem,ww]);exact S.met ⟨false,u,V,n,v,o,H,J,v2⟩ ⟨F,D,R,M,U,by simp only;omega,rfl⟩ (by repeat first|refine uA ?_|refine⟨rfl,?_⟩|rfl|simp[slot])
    ·(repeat first|refine uA ?_|(apply uK;· omega)|simp(disch:=omega) only[go_sem]);exact S.met ⟨false,o,H,J,v2,u,V,n,v⟩ ⟨D,F,M,R,by rw[Nat.gcd_comm];exact U,by simp only;omega,by simp only;omega⟩ (by repeat first|refine uA ?_|refine⟨rfl,?_⟩|rfl|simp[slot])
    ·(repeat first|refine uA ?_|(apply uK;· omega)|simp(disch:=omega) only[go_sem,ww]);exact S.met ⟨true,u,V,n,v,o,H,J,v2⟩ ⟨F,D,R,M,U,by simp only;omega,rfl⟩ (by repeat first|refine uA ?_|refine⟨rfl,?_⟩|rfl|simp[slot])
   clear ar aV ai ax F D R M U hc;rintro⟨s,u1,K,n1,x1,o1,ae,n3,x3⟩ ⟨F,D,R,M,U,ak,a9⟩;simp only[ints]at F D R M U ak a9 ⊢;have ar:=F.hl;have aV:=D.hl;have ai:=F.hn;have ax:=D.hn;have ag:=F.hlo;have bx:x1<18446744073709551616^n1:=by
    have:=Nm.Q7 18446744073709551616 F.all;rwa[F.len,F.hv]at this
   have af:=λ(E:Ctx) (N:E.P=Tryz.prog) (s:Bool)=>c6q (E:=E) N s u1 o1 K n1 ae n3 (by omega) (by omega) ai ag ax (F.le D ak) F.ha D.ha F.hv.symm D.hv.symm ak;have I:=Win.put (u:=u1) (l1:=K) (p:=n1) (z:=x1-x3) ai ag ar F.ha (by omega);generalize put u1 K (Nm.dig 18446744073709551616 n1 (x1-x3))=u2 at*;generalize(Nm.J4 (Nm.dig 18446744073709551616 n1 (x1-x3))).length=m1 at*;have bf:=I.hl;have bb:=I.hn;have bq:∀E:Ctx,E.P=Tryz.prog->l5 E [.row 45 1 (ls u1),.row 45 1 (ls o1)] 224 [.wv 0 1 K n1,.wv 1 1 ae n3] (.wv 0 1 K m1) [.row 45 1 (ls u2),.row 45 1 (ls o1)] []:=λE N=>af E N true
   have bl:∀E:Ctx,E.P=Tryz.prog->l5 E [.row 45 1 (ls o1),.row 45 1 (ls u1)] 224 [.wv 1 1 K n1,.wv 0 1 ae n3] (.wv 1 1 K m1) [.row 45 1 (ls o1),.row 45 1 (ls u2)] []:=λE N=>af E N false;clear af;cases s
   all_goals
    simp only[rw2,kx,Bool.not_true,Bool.not_false];(repeat first|refine uA ?_|(apply uK;· omega)|simp only[go_sem]|simp(disch:=omega) only[ww,I6]|refine j5.t (bq _ rfl) ?_|refine j5.t (bl _ rfl) ?_);apply uJ rfl<;>intro hc
   ·(repeat first|refine uA ?_|(apply uK;· omega)|simp(disch:=omega) only[go_sem,ww]);have h0:=I.nonzero (by omega);have h1:x1=x3:=by omega
    subst h1;rw[Nat.gcd_self]at U;exact S.met ⟨false,u2,K,m1,x1-x1,o1,ae,n3,x1⟩ ⟨I,D,.inl ⟨by simp only;omega,U⟩⟩ (by repeat first|refine uA ?_|refine⟨rfl,?_⟩|rfl|simp[slot])
   ·have h0:x1-x3≠0:=λh=>by have:=I.zero h;omega
    obtain⟨z,hz,aJ⟩:=Nm.a4u h0;have ap:=a9N ((u2.drop K).take m1) (by rw[I.len];omega) I.all (by rw[I.hv];exact h0);rw[av,I.hv]at ap;have aZ:=I.v2 h0;generalize Nm.v2 (x1-x3)=e at*;have Z:=λ(E:Ctx) (N:E.P=Tryz.prog)=>a9U (E:=E) N false u2 o1 K m1 e z (by omega) bb aZ I.ha (by omega) (by rw[I.hv,hz,Nat.mul_comm]);obtain⟨hj,ac,_⟩:=Z ⟨Tryz.prog,eff,0,w,λ_=>False,O,[],[]⟩ rfl;have Z:=λE N=>(Z E N).2.2;have aY:=Win.put (u:=u2) (l1:=K+e/64) (p:=m1-e/64) (z:=z) (by omega) (by omega) bf I.ha ac;generalize put u2 (K+e/64) (Nm.dig 18446744073709551616 (m1-e/64) z)=u4 at*;generalize K+e/64=ao at*
    generalize(Nm.J4 (Nm.dig 18446744073709551616 (m1-e/64) z)).length=m4 at*;have an:∀(E:Ctx),E.P=Tryz.prog->l5 E [.row 45 1 (ls o1),.row 45 1 (ls u2)] 222 [.wv 1 1 K m1,ints e] (.wv 1 1 ao m4) [.row 45 1 (ls o1),.row 45 1 (ls u4)] []:=λE N=>Z E N;have aT:Nat.gcd z x3=G:=by
     have h1:=Nm.a8K (d:=z) M e;rw[<- h1,<- hz,Nm.b3E ak,U]
    have a1:z<=x1-x3:=by
     conv=>rhs;rw[hz]
     exact Nat.le_mul_of_pos_left _ (Nat.pow_pos (by decide))
    (repeat first|refine uA ?_|(apply uK;· omega)|simp only[go_sem]|simp(disch:=omega) only[ww,I6]|refine j5.t (an _ rfl) ?_|(apply uE ap;exact tz hw;exact rfl;focus (repeat' first|exact j3.nil|exact Imp.refl rfl|exact Imp.frz rfl rfl rfl|(refine Imp.O0 rfl rfl ?_ ?_;(focus ((try simp only[I6]);omega));(focus first|rfl|assumption))|refine j3.cons ?_ ?_);done));refine S.next (x:=(⟨true,u,V,n,v,o,H,J,v2⟩:Hv)) (⟨false,u4,ao,m4,z,o1,ae,n3,x3⟩:Hv) ⟨aY,D,aJ,M,aT⟩ (by simp only;omega) (by repeat first|refine uA ?_|refine⟨rfl,?_⟩|rfl|simp[slot])
   ·(repeat first|refine uA ?_|(apply uK;· omega)|simp(disch:=omega) only[go_sem,ww]);have h0:=I.nonzero (by omega);have h1:x1=x3:=by omega
    subst h1;rw[Nat.gcd_self]at U;exact S.met ⟨true,u2,K,m1,x1-x1,o1,ae,n3,x1⟩ ⟨I,D,.inl ⟨by simp only;omega,U⟩⟩ (by repeat first|refine uA ?_|refine⟨rfl,?_⟩|rfl|simp[slot])
   ·have h0:x1-x3≠0:=λh=>by have:=I.zero h;omega
    obtain⟨z,hz,aJ⟩:=Nm.a4u h0;have ap:=a9N ((u2.drop K).take m1) (by rw[I.len];omega) I.all (by rw[I.hv];exact h0);rw[av,I.hv]at ap;have aZ:=I.v2 h0;generalize Nm.v2 (x1-x3)=e at*;have Z:=λ(E:Ctx) (N:E.P=Tryz.prog)=>a9U (E:=E) N true u2 o1 K m1 e z (by omega) bb aZ I.ha (by omega) (by rw[I.hv,hz,Nat.mul_comm]);obtain⟨hj,ac,_⟩:=Z ⟨Tryz.prog,eff,0,w,λ_=>False,O,[],[]⟩ rfl;have Z:=λE N=>(Z E N).2.2;have aY:=Win.put (u:=u2) (l1:=K+e/64) (p:=m1-e/64) (z:=z) (by omega) (by omega) bf I.ha ac;generalize put u2 (K+e/64) (Nm.dig 18446744073709551616 (m1-e/64) z)=u4 at*;generalize K+e/64=ao at*
    generalize(Nm.J4 (Nm.dig 18446744073709551616 (m1-e/64) z)).length=m4 at*;have an:∀(E:Ctx),E.P=Tryz.prog->l5 E [.row 45 1 (ls u2),.row 45 1 (ls o1)] 222 [.wv 0 1 K m1,ints e] (.wv 0 1 ao m4) [.row 45 1 (ls u4),.row 45 1 (ls o1)] []:=λE N=>Z E N;have aT:Nat.gcd z x3=G:=by
     have h1:=Nm.a8K (d:=z) M e;rw[<- h1,<- hz,Nm.b3E ak,U]
    have a1:z<=x1-x3:=by
     conv=>rhs;rw[hz]
     exact Nat.le_mul_of_pos_left _ (Nat.pow_pos (by decide))
    (repeat first|refine uA ?_|(apply uK;· omega)|simp only[go_sem]|simp(disch:=omega) only[ww,I6]|refine j5.t (an _ rfl) ?_|(apply uE ap;exact tz hw;exact rfl;focus (repeat' first|exact j3.nil|exact Imp.refl rfl|exact Imp.frz rfl rfl rfl|(refine Imp.O0 rfl rfl ?_ ?_;(focus ((try simp only[I6]);omega));(focus first|rfl|assumption))|refine j3.cons ?_ ?_);done));refine S.next (x:=(⟨true,u,V,n,v,o,H,J,v2⟩:Hv)) (⟨true,u4,ao,m4,z,o1,ae,n3,x3⟩:Hv) ⟨aY,D,aJ,M,aT⟩ (by simp only;omega) (by repeat first|refine uA ?_|refine⟨rfl,?_⟩|rfl|simp[slot])
  ·(repeat first|refine uA ?_|(apply uK;· omega)|simp(disch:=omega) only[go_sem,ww]);have bC:n<=1/\J<=1:=by omega
   have aW:n≠0:=λh=>by have:=F.nonzero h;omega
   have ac:J≠0:=λh=>by have:=D.nonzero h;omega
   exact S.met ⟨s,u,V,n,v,o,H,J,v2⟩ ⟨F,D,   .inr ⟨by simp only;omega,by simp only;omega,U⟩⟩ (by cases s<;>exact(by repeat first|refine uA ?_|refine⟨rfl,?_⟩|rfl|simp[slot]))
 clear F D U R M;rintro⟨s,u,V,n,v,o,H,J,v2⟩ ⟨F,D,aC⟩;simp only[ints]at F D aC ⊢;refine S.seq ?_;have ar:=F.hl;have aV:=D.hl;have ai:=F.hn;have ax:=D.hn;have ag:=F.hlo;have bi:=D.hlo;refine S.join (Y:=Bool×List Nat×List Nat) (λx=>⟨[(6,.wv (kx !x.1) 1 H J),(7,ints p),(8,ints q)],rw2 x.1 x.2.1 x.2.2⟩)
  (λx=>x.2.2.length=o.length/\Nm.R7 x.2.2/\Nm.wv 18446744073709551616 ((x.2.2.drop H).take J)=G) ?_ ?_
 ·have one:∀{u:List Nat} {V v:Nat},Win u V 1 v->u[V]?=some v/\v<18446744073709551616:=λ{u V v} h=>by
   have hg:u[V]?=some (u[V]'h.hlo):=d0b h.hlo;have h1:=h.hv;have h2:(u.drop V).take 1=[u[V]'h.hlo]:=by rw[List.drop_eq_getElem_cons h.hlo];rfl
   rw[h2]at h1;simp only[Nm.wv]at h1;have h3:=h.ha _ (d0z h.hlo);rw[Nat.mul_zero,Nat.add_zero]at h1;rw[hg,h1];exact⟨rfl,by omega⟩
  (repeat first|refine uA ?_|simp(disch:=omega) only[go_sem]);apply uJ rfl<;>intro hc
  ·have hn:n=1:=by omega
   have hm:J=1:=by omega
   subst hn hm;obtain⟨g1,b1⟩:=one F;obtain⟨g2,b2⟩:=one D;have hg:Nat.gcd v v2=G:=by rcases aC with h|h;exact absurd h.1 (by decide);exact h.2.2
   have bg:=b6A v v2 b1 b2;rw[hg]at bg;have aE:Nm.wv 18446744073709551616 (((o.set H G).drop H).take 1)=G:=by
    rw[List.drop_eq_getElem_cons (by rw[d0S];exact bi),List.getElem_set_self];simp[Nm.wv]
   have aF:G<18446744073709551616:=by
    have:v2≠0:=λh=>by have:=D.zero h;omega
    have:=Nat.gcd_le_right v (show 0<v2 by omega);omega
   cases s
   all_goals
    simp only[rw2,kx,Bool.not_true,Bool.not_false];(repeat first|refine uA ?_|(apply uK;· omega)|simp only[go_sem,Nat.reduceAdd,Nat.reduceLeDiff,I6,T9,g1,g2,d0e,lm,Nat.add_zero,a2D]|simp(disch:=omega) only[ww,I6,T9,g1,g2,d0e,lm,Nat.add_zero,a2D]|refine uB bg rfl ?_)
   ·exact S.met (⟨false,u,o.set H G⟩:Bool×List Nat×List Nat) ⟨by simp,λw hw=>by
     rcases Nm.mem_set hw with rfl|hw
     ·exact aF
     ·exact D.ha w hw,aE⟩ (by repeat first|refine uA ?_|refine⟨rfl,?_⟩|rfl|simp)
   ·exact S.met (⟨true,u,o.set H G⟩:Bool×List Nat×List Nat) ⟨by simp,λw hw=>by
     rcases Nm.mem_set hw with rfl|hw
     ·exact aF
     ·exact D.ha w hw,aE⟩ (by repeat first|refine uA ?_|refine⟨rfl,?_⟩|rfl|simp)
  ·(repeat first|refine uA ?_|(apply uK;· omega)|simp(disch:=omega) only[go_sem,ww]);have hg:v2=G:=by
    rcases aC with h|h
    ·exact h.2
    ·omega
   exact S.met (⟨s,u,o⟩:Bool×List Nat×List Nat) ⟨rfl,D.ha,by rw[<- hg];exact D.hv⟩ (by cases s<;>exact(by repeat first|refine uA ?_|refine⟨rfl,?_⟩|rfl|simp[slot]))
 rintro⟨s',u',o'⟩ ⟨bv,be,aM⟩;simp only[ints]at bv be aM ⊢;have a8:((o'.drop H).take J).length=J:=by rw[d0r,d0L];omega
 have ay:Nm.R7 ((o'.drop H).take J):=(be.drop H).take _;have a4:∀i,i<J->o'[H+i]?=((o'.drop H).take J)[i]?:=λi hi=>by rw[List.getElem?_take_of_lt hi,d0Q]
 generalize(o'.drop H).take J=W at*;have aX:=a4W (Nm.a3q W) (Nm.oB (2^(min p q%8))::List.replicate (min p q/8) 0) (by rw[Nm.b3e ay];omega) (by rw[d0j,List.length_replicate];omega);rw[Nm.c1R,Nm.c1z ay,aM,Nat.mul_comm]at aX;have bA:W.length<=17179869184:=by omega
 have bm:List.replicate (8*(J:Int)).toNat [C.v (.int .u8 0)]=(Nm.a6C W 0).map u7:=by
  rw[Nm.c0t,<- a4v,show(8*(J:Int)).toNat=8*W.length by omega]
 have a6:IntKind.i64.wrap (((min p q:Nat):Int).tdiv 8)=((min p q/8:Nat):Int):=c4z _ (by omega);have a3:(if(q:Int)<(p:Int) then(q:Int) else(p:Int))=((min p q:Nat):Int):=by split<;>omega
 generalize min p q=r at*;clear F D aC ai ar ag aM;cases s'
 all_goals
  simp only[rw2,kx,Bool.not_true,Bool.not_false];(repeat first|refine uA ?_|(apply uK;· omega)|simp only[go_sem,Nat.reduceAdd]|simp(disch:=omega) only[ww,bm])
 ·refine S.loop (X:=Nat) (λi=>⟨[(6,.wv 0 1 H J),(7,ints p),(8,ints q),(9,.rv 2),(72,.wv 0 1 H J),(73,ints J),(74,ints i)],[.row 45 1 (ls o'),.row 45 1 (ls u')]++[.row 5 1 ((Nm.a6C W i).map u7)]⟩) (λi=>i<=J) (λi=>J-i) 0 (d0k _) (by(repeat first|refine uA ?_|(refine⟨?_,?_⟩;focus first|rfl|trivial|(simp[slot];done))|rfl|trivial|simp)) ?_;intro i hi;simp only[ints,List.cons_append,List.nil_append];(repeat first|refine uA ?_|(apply uK;focus omega)|simp(disch:=omega) only[go_sem]);(refine uJ rfl (λhc=>?_) λhc=>?_)
  ·have ab:i<J:=by omega
   have T:i<W.length:=by omega
   have aq:o'[H+i]?=some (W[i]'T):=by rw[a4 i ab,d0b T]
   have aK:W.getD i 0=W[i]'T:=Nm.getD_lt T;(repeat first|refine uA ?_|(apply uK;focus omega)|simp only[go_sem,I6,T9,aq,d0e,lm]|simp(disch:=omega) only[ww,I6,T9,aq,d0e,lm]);rw[<- Nm.b3P T];refine S.loop (X:=Nat) (λk=>⟨[(6,.wv 0 1 H J),(7,ints p),(8,ints q),(9,.rv 2),(72,.wv 0 1 H J),(73,ints J),(74,ints i),(10,ints i),(11,.v (.int .u64 (W[i]'T:Int))),(79,ints k)],[.row 45 1 (ls o'),.row 45 1 (ls u')]++[.row 5 1 ((Nm.a2Z W i k).map u7)]⟩) (λk=>k<=8) (λk=>8-k) 0 (d0k _) (by(repeat first|refine uA ?_|(refine⟨?_,?_⟩;focus first|rfl|trivial|(simp[slot];done))|rfl|trivial|simp)) ?_;intro k hk;simp only[ints,List.cons_append,List.nil_append]
   have bw:=Nm.b4A ay T hk;(repeat first|refine uA ?_|(apply uK;focus omega)|simp(disch:=omega) only[go_sem]);(refine uJ rfl (λhc=>?_) λhc=>?_)
   ·have am:k<8:=by omega
    have zs:=Nm.b3H (l:=W) (i:=i) am;rw[aK]at zs;have aO:IntKind.u8.wrap (Int.fdiv ((W[i]'T:Nat):Int) (2^min (56-8*(k:Int)).toNat 64))=(((Nm.oB ((W[i]'T)/2^(56-8*k))).toNat:Nat):Int):=by
     rw[<- a8D,show min (56-8*(k:Int)).toNat 64=56-8*k by omega];congr 2
    have aP:(8*((J:Int)-1-(i:Int))+(k:Int)).toNat=8*(W.length-1-i)+k:=by omega
    have aN:(Nm.a2Z W i k)[8*(W.length-1-i)+k]?=some ((Nm.a2Z W i k)[8*(W.length-1-i)+k]'(by omega)):=d0b (by omega);(repeat first|refine uA ?_|(apply uK;focus omega)|simp only[go_sem,Nat.reduceAdd,Nat.reduceLeDiff,d0d,d0q,b5Y,zs]|simp(disch:=omega) only[ww,aO,aP,aN,d0e,u7]);refine S.next (x:=k) (k+1) am (by omega) (by(repeat first|refine uA ?_|(refine⟨?_,?_⟩;focus first|rfl|trivial|(simp[slot];done))|rfl|trivial|simp))
   ·have aR:k=8:=by omega
    subst aR;rw[Nm.b1A T];(repeat first|refine uA ?_|(apply uK;focus omega)|simp(disch:=omega) only[go_sem,ww]);refine S.next (x:=i) (i+1) ab (by omega) (by(repeat first|refine uA ?_|(refine⟨?_,?_⟩;focus first|rfl|trivial|(simp[slot];done))|rfl|trivial|simp))
  ·have ab:i=J:=by omega
   subst ab;rw[<- a8,Nm.b6b];have aa:((r/8:Nat):Int)+1=((r/8+1:Nat):Int):=by omega
   have bc:List.replicate (((r/8+1:Nat):Int)).toNat [C.v (.int .u8 0)]=(List.replicate (r/8+1) (0:UInt8)).map u7:=by rw[<- a4v];rfl
   have aS:(r:Int).tmod 8=((r%8:Nat):Int):=b4J r;have aU:IntKind.u8.wrap (1*2^min (r%8) 8)=(((Nm.oB (2^(r%8))).toNat:Nat):Int):=by
    rw[show min (r%8) 8=r%8 by omega,Nm.a3d,<- a4L];congr 1;simp
   have aI:a0L ([C.v (.int .u8 (((Nm.oB (2^(r%8))).toNat:Nat):Int))]::List.replicate (r/8) [C.v (.int .u8 0)])=some (Nm.oB (2^(r%8))::List.replicate (r/8) 0):=by
    rw[a4v];exact Q8 (Nm.oB (2^(r%8))::List.replicate (r/8) 0)
   (repeat first|refine uA ?_|(apply uK;focus omega)|simp only[go_sem,Nat.reduceAdd,Nat.reduceLeDiff,a3,a6,aa,aS,aU,aI,Q8,a1J,d0h]|simp(disch:=omega) only[ww,d0h]|(apply uB aX;exact rfl));exact uS rfl rfl
 ·refine S.loop (X:=Nat) (λi=>⟨[(6,.wv 1 1 H J),(7,ints p),(8,ints q),(9,.rv 2),(72,.wv 1 1 H J),(73,ints J),(74,ints i)],[.row 45 1 (ls u'),.row 45 1 (ls o')]++[.row 5 1 ((Nm.a6C W i).map u7)]⟩) (λi=>i<=J) (λi=>J-i) 0 (d0k _) (by(repeat first|refine uA ?_|(refine⟨?_,?_⟩;focus first|rfl|trivial|(simp[slot];done))|rfl|trivial|simp)) ?_;intro i hi;simp only[ints,List.cons_append,List.nil_append];(repeat first|refine uA ?_|(apply uK;focus omega)|simp(disch:=omega) only[go_sem]);(refine uJ rfl (λhc=>?_) λhc=>?_)
  ·have ab:i<J:=by omega
   have T:i<W.length:=by omega
   have aq:o'[H+i]?=some (W[i]'T):=by rw[a4 i ab,d0b T]
   have aK:W.getD i 0=W[i]'T:=Nm.getD_lt T;(repeat first|refine uA ?_|(apply uK;focus omega)|simp only[go_sem,I6,T9,aq,d0e,lm]|simp(disch:=omega) only[ww,I6,T9,aq,d0e,lm]);rw[<- Nm.b3P T];refine S.loop (X:=Nat) (λk=>⟨[(6,.wv 1 1 H J),(7,ints p),(8,ints q),(9,.rv 2),(72,.wv 1 1 H J),(73,ints J),(74,ints i),(10,ints i),(11,.v (.int .u64 (W[i]'T:Int))),(79,ints k)],[.row 45 1 (ls u'),.row 45 1 (ls o')]++[.row 5 1 ((Nm.a2Z W i k).map u7)]⟩) (λk=>k<=8) (λk=>8-k) 0 (d0k _) (by(repeat first|refine uA ?_|(refine⟨?_,?_⟩;focus first|rfl|trivial|(simp[slot];done))|rfl|trivial|simp)) ?_;intro k hk;simp only[ints,List.cons_append,List.nil_append]
   have bw:=Nm.b4A ay T hk;(repeat first|refine uA ?_|(apply uK;focus omega)|simp(disch:=omega) only[go_sem]);(refine uJ rfl (λhc=>?_) λhc=>?_)
   ·have am:k<8:=by omega
    have zs:=Nm.b3H (l:=W) (i:=i) am;rw[aK]at zs;have aO:IntKind.u8.wrap (Int.fdiv ((W[i]'T:Nat):Int) (2^min (56-8*(k:Int)).toNat 64))=(((Nm.oB ((W[i]'T)/2^(56-8*k))).toNat:Nat):Int):=by
     rw[<- a8D,show min (56-8*(k:Int)).toNat 64=56-8*k by omega];congr 2
    have aP:(8*((J:Int)-1-(i:Int))+(k:Int)).toNat=8*(W.length-1-i)+k:=by omega
    have aN:(Nm.a2Z W i k)[8*(W.length-1-i)+k]?=some ((Nm.a2Z W i k)[8*(W.length-1-i)+k]'(by omega)):=d0b (by omega);(repeat first|refine uA ?_|(apply uK;focus omega)|simp only[go_sem,Nat.reduceAdd,Nat.reduceLeDiff,d0d,d0q,b5Y,zs]|simp(disch:=omega) only[ww,aO,aP,aN,d0e,u7]);refine S.next (x:=k) (k+1) am (by omega) (by(repeat first|refine uA ?_|(refine⟨?_,?_⟩;focus first|rfl|trivial|(simp[slot];done))|rfl|trivial|simp))
   ·have aR:k=8:=by omega
    subst aR;rw[Nm.b1A T];(repeat first|refine uA ?_|(apply uK;focus omega)|simp(disch:=omega) only[go_sem,ww]);refine S.next (x:=i) (i+1) ab (by omega) (by(repeat first|refine uA ?_|(refine⟨?_,?_⟩;focus first|rfl|trivial|(simp[slot];done))|rfl|trivial|simp))
  ·have ab:i=J:=by omega
   subst ab;rw[<- a8,Nm.b6b];have aa:((r/8:Nat):Int)+1=((r/8+1:Nat):Int):=by omega
   have bc:List.replicate (((r/8+1:Nat):Int)).toNat [C.v (.int .u8 0)]=(List.replicate (r/8+1) (0:UInt8)).map u7:=by rw[<- a4v];rfl
   have aS:(r:Int).tmod 8=((r%8:Nat):Int):=b4J r;have aU:IntKind.u8.wrap (1*2^min (r%8) 8)=(((Nm.oB (2^(r%8))).toNat:Nat):Int):=by
    rw[show min (r%8) 8=r%8 by omega,Nm.a3d,<- a4L];congr 1;simp
   have aI:a0L ([C.v (.int .u8 (((Nm.oB (2^(r%8))).toNat:Nat):Int))]::List.replicate (r/8) [C.v (.int .u8 0)])=some (Nm.oB (2^(r%8))::List.replicate (r/8) 0):=by
    rw[a4v];exact Q8 (Nm.oB (2^(r%8))::List.replicate (r/8) 0)
   (repeat first|refine uA ?_|(apply uK;focus omega)|simp only[go_sem,Nat.reduceAdd,Nat.reduceLeDiff,a3,a6,aa,aS,aU,aI,Q8,a1J,d0h]|simp(disch:=omega) only[ww,d0h]|(apply uB aX;exact rfl));exact uS rfl rfl
def c4s(a b:List UInt8)(ha:a.length<=68719476736)(hb:b.length<=68719476736):FZ 125 [sb a,sb b] (sb (Nm.enc (Nat.gcd (Nm.val a) (Nm.val b)))):=by
 refine kW Tryz.func125 (by cbv) (by rfl) λw O hw=>?_;simp only[j4,TT,II,OA,OC,MM,MG,sb];have Z:=Nm.a0J a;have aa:=Nm.a0J b;have J:=Nm.X5 a;have T:=Nm.X5 b;have V:=Nm.a0q a;have K:=Nm.a0q b;have R:=a1m a (by omega);have I:=a1m b (by omega);rw[<- J,<- T];clear J T;generalize Nm.trim a=x at*;generalize Nm.trim b=y at*;generalize B:Nat.gcd (Nm.val x) (Nm.val y)=G at*
 (repeat first|refine uA ?_|simp(disch:=omega) only[go_sem,Nat.reduceAdd]|refine uB R rfl ?_|refine uB I rfl ?_);refine S.loop (X:=List UInt8×List UInt8) (λs=>⟨[(0,sb s.1),(1,sb s.2)],[]⟩) (λs=>Nm.canon s.1/\Nm.canon s.2/\s.1.length<=68719476736/\s.2.length<=68719476736/\Nat.gcd (Nm.val s.1) (Nm.val s.2)=G) (λs=>Nm.val s.1+Nm.val s.2) (x,y) ⟨V,K,by simp only;omega,by simp only;omega,B⟩ (by repeat first|refine uA ?_|refine⟨rfl,?_⟩|rfl|simp) ?_
 clear R I V K Z aa B;rintro⟨x,y⟩ ⟨u,A,D,H,B⟩;simp only[sb]at u A D H B ⊢;(repeat first|refine uA ?_|simp(disch:=omega) only[go_sem]);apply uJ rfl<;>intro E
 ·rw[a0V,a0V]at E;have F:=E;refine S.skip ?_;refine S.block ?_;refine S.seq ?_;refine S.join (Y:=List UInt8×List UInt8) (λs=>⟨[(0,sb s.1),(1,sb s.2)],[]⟩) (λs=>Nm.canon s.1/\Nm.canon s.2/\s.1.length<=68719476736/\s.2.length<=s.1.length/\Nat.gcd (Nm.val s.1) (Nm.val s.2)=G/\s.1≠[]/\s.2≠[]/\Nm.val s.1+Nm.val s.2=Nm.val x+Nm.val y) ?_ ?_
  ·(repeat first|refine uA ?_|simp(disch:=omega) only[go_sem,x9]);apply uJ rfl<;>intro E
   ·(repeat first|refine uA ?_|simp(disch:=omega) only[go_sem]);exact S.met (⟨y,x⟩:List UInt8×List UInt8) ⟨A,u,H,by simp only;omega,by rw[Nat.gcd_comm];exact B,F.2,F.1,by simp only;omega⟩ (by repeat first|refine uA ?_|refine⟨rfl,?_⟩|rfl|simp)
   ·(repeat first|refine uA ?_|simp(disch:=omega) only[go_sem,Nat.reduceAdd]);exact S.met (⟨x,y⟩:List UInt8×List UInt8) ⟨u,A,D,by simp only;omega,B,F.1,F.2,rfl⟩ (by repeat first|refine uA ?_|refine⟨rfl,?_⟩|rfl|simp)
  clear u A D H B E F;rintro⟨p,q⟩ ⟨u,A,D,H,B,M,U,P⟩;simp only[sb]at u A D H B M U P ⊢;have ab:Nm.val p≠0:=λh=>M ((Nm.val_zero u).1 h);have N:Nm.val q≠0:=λh=>U ((Nm.val_zero A).1 h);(repeat first|refine uA ?_|simp(disch:=omega) only[go_sem,x9]);apply uJ rfl<;>intro E
  ·have ai:=Nm.a1u (l:=p) (k:=8) (by omega);have ah:=Nm.a1u (l:=q) (k:=8) (by omega);have e1:Nm.val p%18446744073709551616=Nm.val p:=Nat.mod_eq_of_lt (by omega);have e2:Nm.val q%18446744073709551616=Nm.val q:=Nat.mod_eq_of_lt (by omega);have fx:=a2O p (by omega);have fy:=a2O q (by omega);rw[e1]at fx;rw[e2]at fy;have W:=b6A (Nm.val p) (Nm.val q) (by omega) (by omega);rw[B]at W;have ag:G<=Nm.val q:=by rw[<- B];exact Nat.gcd_le_right _ (by omega)
   have hf:=a1A G (by omega);(repeat first|refine uA ?_|simp(disch:=omega) only[go_sem]|refine uB fx rfl ?_|refine uB fy rfl ?_|refine uB W rfl ?_|refine uB hf rfl ?_);exact uS rfl rfl
  (repeat first|refine uA ?_|simp(disch:=omega) only[go_sem,ww,x9]);apply uJ rfl<;>intro E
  ·have hh:=c2H p q D (by omega) ab N;rw[B]at hh;(repeat first|refine uA ?_|simp(disch:=omega) only[go_sem]|refine uD hh (tz hw) rfl ?_);exact uS rfl rfl
  ·have hd:=b4j p q (by omega) (by omega) N;have ae:Nm.val p%Nm.val q<Nm.val q:=Nat.mod_lt _ (by omega);have ac:=Nm.a0U q;have af:=Nm.a4h u (a:=q) (b:=p) (by omega);have aj:(Nm.enc (Nm.val p%Nm.val q)).length<=q.length:=Nm.O1 (by omega);(repeat first|refine uA ?_|simp(disch:=omega) only[go_sem]|refine uB hd rfl ?_);refine S.next (x:=(x,y)) (q,Nm.enc (Nm.val p%Nm.val q)) ⟨A,Nm.a3D _,by simp only;omega,by simp only;omega,?_⟩ (by simp only[Nm.L8];omega) (by repeat first|refine uA ?_|refine⟨rfl,?_⟩|rfl|simp)
   simp only[Nm.L8];rw[Nat.gcd_comm,<- Nat.gcd_rec,Nat.gcd_comm];exact B
 ·have hr:Nm.enc G=x++y:=by
   rw[a0V,a0V]at E;rcases Classical.em (x=[]) with h|h
   ·subst h;rw[Nm.b2f,Nat.gcd_zero_left]at B;rw[<- B,Nm.a2I A];rfl
   ·have hy:y=[]:=by
     rcases E with E|E
     ·exact absurd E h
     ·exact E
    subst hy;rw[Nm.b2f,Nat.gcd_zero_right]at B;rw[<- B,Nm.a2I u,List.append_nil]
  rw[hr];(repeat first|refine uA ?_|simp(disch:=omega) only[go_sem,R4,x9]);exact uS rfl rfl
def rc(a:Nm.Rt):C:=.agg [.v (.bool a.neg),sb a.num,sb a.den]
def rq(q:Rat):C:=rc (Nm.ofQ q)
def Rb(k:Nat)(a:Nm.Rt):Prop:=a.num.length<=k/\a.den.length<=k
def a7R(l:List UInt8):(bs l=(⟨#[1]⟩:ByteArray))=(l=[1]):=a6S l [1]
def b3l(l:List UInt8):Nm.canon l <-> (l=[]\/l.getD 0 0≠0):=by
 cases l with
 | nil=>simp[Nm.a9z]
 | cons b r=>
  simp only[List.getD_cons_zero,reduceCtorEq,false_or];constructor
  ·intro h u;exact h r (by rw[u])
  ·intro h q e;injection e with A _;exact h A
def a0S(a:Nm.Rt)(P:Rb 68719476736 a):FZ 78 [rc a] (.v (.bool (decide a.I4))):=by
 refine kW Tryz.func78 (by cbv) (by rfl) λw O J=>?_;obtain⟨B,u,den⟩:=a;obtain⟨K,T⟩:=P;simp only[rc]at K T ⊢;simp only[j4,TT,II,OA,OC,MM,VV,FF,MG,VG,FG,sb];have N:=c4s u den (by omega) (by omega);have A:Nm.Rt.I4 ⟨B,u,den⟩ <-> den≠[]/\Nm.canon den/\Nm.canon u/\(u=[]->B=false/\den=[1])/\(den=[1]\/Nat.gcd (Nm.val u) (Nm.val den)=1):=Iff.rfl;rw[b3l,b3l]at A;have I:(!decide (den=[]))=true->0<(den.length:Int):=λh=>by
  have:den≠[]:=by simpa using h
  have:=List.length_pos_iff.2 this;omega
 have M:u≠[]->0<(u.length:Int):=λh=>by
  have:=List.length_pos_iff.2 h;omega
 have E:∀{p:Prop} [Decidable p],(Nm.Rt.I4 ⟨B,u,den⟩ <-> p)->decide (Nm.Rt.I4 ⟨B,u,den⟩)=decide p:=λh=>decide_eq_decide.2 h;have F:=E A;clear A E;generalize decide (Nm.Rt.I4 ⟨B,u,den⟩)=H at*;(repeat first|refine uA ?_|(apply uK;· first|omega|trivial|(intro h;rw[h];rfl)|(intro h R;rw[h,R];rfl)|(intro h;(try simp at h);omega)|(intros;simp_all<;>omega))|simp only[go_sem,Nat.reduceAdd,x9,a0F,a9F,a0V,a7R]|simp(disch:=omega) only[ww,x9,a0F,a9F,a0V,a7R]);apply S.cond rfl<;>intro G
 ·have:H=false:=by
   rw[F,d0x];simp only[d0R,d0s,d0t,Bool.not_eq_true',d0x]at G;grind
  rw[this];exact uT rfl rfl rfl
 ·have D:(Nm.enc (Nat.gcd (Nm.val u) (Nm.val den))=[1])=(Nat.gcd (Nm.val u) (Nm.val den)=1):=by
   rw[<- Nm.a0m];exact propext ⟨Nm.a9Q,λh=>by rw[h]⟩
  have:H=(decide (den=[1])||decide (Nat.gcd (Nm.val u) (Nm.val den)=1)):=by
   rw[F,<- Bool.decide_or];simp only[d0F,Bool.and_eq_false_iff,d0t,Bool.not_eq_false',d0x]at G;refine decide_eq_decide.2 ⟨λh=>h.2.2.2.2,λh=>?_⟩;grind
  rw[this];(repeat first|refine uA ?_|simp only[go_sem,Nat.reduceAdd,a7R,D]|simp(disch:=omega) only[ww,a0V,a7R,D]|refine uD N (tz J) rfl ?_);exact uS rfl rfl
def c1q:p8 Tryz.prog 126 [] (rc Nm.a5E):=by
 refine kS Tryz.func126 (by cbv) (by rfl) λw O=>?_;simp only[j4,TT,OA,OB,rc,Nm.a5E,sb];(repeat first|refine uA ?_|simp(disch:=omega) only[go_sem,Nat.reduceAdd]);(exact uS rfl rfl)
def c8L(a:Nm.Rt)(D:Rb 68719476736 a):FZ 79 [rc a] (rq (Nm.d9 a)):=by
 refine kW Tryz.func79 (by cbv) (by rfl) λw O B=>?_;have u:=a0S a D;have fz:=c1q;unfold rq;by_cases h:a.I4
 ·rw[Nm.b1M h];rw[show decide a.I4=true from decide_eq_true h]at u;simp only[j4,TT,OA,OB,LL,rc,sb]at u ⊢;(repeat first|refine uA ?_|simp(disch:=omega) only[go_sem,Nat.reduceAdd]|refine uD u (tz B) rfl ?_);exact S.cond rfl (λA=>by cases A) (λ_=>by
   (repeat first|refine uA ?_|simp(disch:=omega) only[go_sem,Nat.reduceAdd]);(exact uS rfl rfl))
 ·have e:Nm.ofQ (Nm.d9 a)=Nm.a5E:=by unfold Nm.d9;rw[if_neg h,Nm.a6i]
  rw[e];rw[show decide a.I4=false from decide_eq_false h]at u;simp only[j4,TT,OA,OB,LL,rc,sb,Nm.a5E]at u fz ⊢;(repeat first|refine uA ?_|simp(disch:=omega) only[go_sem,Nat.reduceAdd]|refine uD u (tz B) rfl ?_);exact S.cond rfl (λ_=>by
   (repeat first|refine uA ?_|simp(disch:=omega) only[go_sem,Nat.reduceAdd]|refine uB fz rfl ?_)
   (exact uS rfl rfl)) (λA=>by cases A)
def c5c{n d k:Nat}(hd:0<d)(h:(Nm.enc d).length<=k):(Nm.enc (Nat.gcd n d)).length<=k:=Nm.O1 (Nat.lt_of_le_of_lt (Nat.gcd_le_right n hd) (Nm.a0H h))
def a3R(A:Bool)(n d:Nat)(J:d≠0)(N:(Nm.enc n).length<=68719476736)(B:(Nm.enc d).length<=68719476736) :
  FZ 153 [.v (.bool A),sb (Nm.enc n),sb (Nm.enc d)] (rq (mkRat (Nm.sgn A n) d)):=by
 refine kW Tryz.func153 (by cbv) (by rfl) λw O K=>?_;have fz:=c1q;have I:=c4s (Nm.enc n) (Nm.enc d) N B;rw[Nm.L8,Nm.L8]at I;unfold rq;rw[<- Nm.b7z A J];have M:(Nm.enc n=[])=(n=0):=propext ⟨λh=>Classical.byContradiction λP=>Nm.a7Q P h,λh=>by rw[h,Nm.a3s]⟩;have H:∀d,(Nm.enc d=[1])=(d=1):=λd=>by
  rw[<- Nm.a0m];exact propext ⟨Nm.a9Q,λh=>by rw[h]⟩
 have F:Nat.gcd n d≠0:=λh=>J (Nat.eq_zero_of_gcd_eq_zero_right h);have R:(Nm.enc (Nat.gcd n d)).length<=68719476736:=by
  exact c5c (by omega) B
 have G:=b4j (Nm.enc n) (Nm.enc (Nat.gcd n d)) (by omega) (by omega) (by rw[Nm.L8];exact F);have E:=b4j (Nm.enc d) (Nm.enc (Nat.gcd n d)) (by omega) (by omega) (by rw[Nm.L8];exact F);simp only[Nm.L8]at G E;generalize D:Nat.gcd n d=g at*;simp only[j4,TT,OA,OB,MM,sb];(repeat first|refine uA ?_|simp(disch:=omega) only[go_sem,Nat.reduceAdd,a0V,M]);apply uJ rfl<;>intro u
 ·rw[if_pos u];simp only[rc,Nm.a5E,sb]at fz ⊢;(repeat first|refine uA ?_|simp(disch:=omega) only[go_sem,Nat.reduceAdd]|refine uB fz rfl ?_);(exact uS rfl rfl)
 rw[if_neg u];simp only[rc,sb];(repeat first|refine uA ?_|simp(disch:=omega) only[go_sem,a7R,H]);apply uJ rfl<;>intro u
 ·(repeat first|refine uA ?_|simp(disch:=omega) only[go_sem,a7R,H]|refine uD I (tz K) rfl ?_);apply uJ rfl<;>intro u
  ·(repeat first|refine uA ?_|simp(disch:=omega) only[go_sem,Nat.reduceAdd]|refine uB G rfl ?_|refine uB E rfl ?_);(exact uS rfl rfl)
  ·rw[u,Nat.div_one,Nat.div_one];(repeat first|refine uA ?_|simp(disch:=omega) only[go_sem,Nat.reduceAdd]);(exact uS rfl rfl)
 ·rw[u,Nat.gcd_one_right]at D;subst D;rw[u,Nat.div_one,Nat.div_one];(repeat first|refine uA ?_|simp(disch:=omega) only[go_sem,Nat.reduceAdd]);(exact uS rfl rfl)
def b6l(u E:Bool)(a b:List UInt8)(M:a.length<=68719476736)(K:b.length<=68719476736) :
  p8 Tryz.prog 166 [.v (.bool u),sb a,.v (.bool E),sb b] (.tup [.v (.bool (Nm.R8 u (Nm.val a) E (Nm.val b)).1),sb (Nm.enc (Nm.R8 u (Nm.val a) E (Nm.val b)).2)]):=by
 refine kS Tryz.func166 (by cbv) (by rfl) λw O=>?_;have D:=f_add a b (by omega) (by omega);have A:=c4J a b (by omega) (by omega);have F:=c4J b a (by omega) (by omega);simp only[j4,TT,II,OA,MM,sb];(repeat first|refine uA ?_|simp(disch:=omega) only[go_sem,Nat.reduceAdd]);apply S.cond rfl<;>intro B
 ·have e:u=E:=by simpa using B
  subst e;unfold Nm.R8;rw[if_pos rfl];(repeat first|refine uA ?_|simp(disch:=omega) only[go_sem]|refine uB D rfl ?_);exact uS rfl rfl
 ·have e:u≠E:=by simpa using B
  unfold Nm.R8;rw[if_neg e];by_cases h:Nm.val b<=Nm.val a
  ·rw[if_pos h];have H:J7 (Nm.val a) (Nm.val b)=Nm.enc (Nm.val a-Nm.val b):=by unfold J7;rw[if_pos h]
   have G:a6B (Nm.val a) (Nm.val b)=0:=by unfold a6B;rw[if_pos h]
   rw[H,G]at A;(repeat first|refine uA ?_|simp(disch:=omega) only[go_sem]|refine uB A rfl ?_);apply S.cond rfl<;>intro B
   ·exact uT rfl rfl rfl
   ·simp at B
  ·rw[if_neg h];have H:J7 (Nm.val a) (Nm.val b)=[]:=by unfold J7;rw[if_neg h]
   have G:a6B (Nm.val a) (Nm.val b)=1:=by unfold a6B;rw[if_neg h]
   have I:J7 (Nm.val b) (Nm.val a)=Nm.enc (Nm.val b-Nm.val a):=by unfold J7;rw[if_pos (by omega)]
   have J:a6B (Nm.val b) (Nm.val a)=0:=by unfold a6B;rw[if_pos (by omega)]
   rw[H,G]at A;rw[I,J]at F;(repeat first|refine uA ?_|simp(disch:=omega) only[go_sem]|refine uB A rfl ?_);apply S.cond rfl<;>intro B
   ·simp at B
   ·(repeat first|refine uA ?_|simp(disch:=omega) only[go_sem]|refine uB F rfl ?_);exact uS rfl rfl
namespace Nm
def M4{a b k m:Nat}(u:(enc a).length<=k)(h:(enc b).length<=m):(enc (a*b)).length<=k+m:=by
 refine O1 ?_;rw[Nat.pow_add];exact Nat.mul_lt_mul'' (a0H u) (a0H h)
def a3c{a b k:Nat}(u:(enc a).length<=k)(h:(enc b).length<=k):(enc (a+b)).length<=k+1:=by
 refine O1 ?_;have A:=a0H u;have B:=a0H h;rw[d0O];omega
def a3w{a b:Nat}(h:a<=b):(enc a).length<=(enc b).length:=O1 (Nat.lt_of_le_of_lt h (a0H (d0m _)))
def a8f(h:Bool)(a:Nat)(u:Bool)(b:Nat):(R8 h a u b).2<=a+b:=by
 unfold R8;repeat' split
 all_goals simp only;omega
def add_same{p q:Rat}(h:p.den=q.den):p+q=mkRat (p.num+q.num) p.den:=by
 rw[Rat.add_def',<- h,<- Int.add_mul,Rat.mkRat_mul_right p.den_nz]
def a9M(p:Rat):sgn (decide (p.num<0)) p.num.natAbs=p.num:=b7Q p
def c4n{p q:Rat}(h:p.den=q.den):mkRat (sgn (R8 (decide (p.num<0)) p.num.natAbs (decide (q.num<0)) q.num.natAbs).1 (R8 (decide (p.num<0)) p.num.natAbs (decide (q.num<0)) q.num.natAbs).2) p.den=p+q:=by
 rw[b2S,a9M,a9M,add_same h]
def b3c(p q:Rat):mkRat (sgn (R8 (decide (p.num<0)) (p.num.natAbs*q.den) (decide (q.num<0)) (q.num.natAbs*p.den)).1 (R8 (decide (p.num<0)) (p.num.natAbs*q.den) (decide (q.num<0)) (q.num.natAbs*p.den)).2) (p.den*q.den)=p+q:=by
 rw[b2S,a7u,a7u,a9M,a9M,Rat.add_def']
def b5P(p q:Rat):mkRat (sgn (decide (p.num<0) != decide (q.num<0)) (p.num.natAbs*q.num.natAbs)) (p.den*q.den)=p*q:=by
 rw[c5l,a9M,a9M,Rat.mul_def']
def b6o(p q:Rat)(h:q≠0):mkRat (sgn (decide (p.num<0) != decide (q.num<0)) (p.num.natAbs*q.den)) (p.den*q.num.natAbs)=p/q:=by
 have J:q.num≠0:=λe=>h (Rat.num_eq_zero.1 e);have E:q.num.natAbs≠0:=by omega
 generalize hr:mkRat (sgn (decide (p.num<0) != decide (q.num<0)) (p.num.natAbs*q.den)) (p.den*q.num.natAbs)=r;have F:p=r*q:=by
  rw[<- hr];have A:p=mkRat p.num p.den:=(Rat.mkRat_self p).symm;have u:q=mkRat q.num q.den:=(Rat.mkRat_self q).symm;have I:p.den*q.num.natAbs*q.den≠0:=Nat.mul_ne_zero (Nat.mul_ne_zero p.den_nz E) q.den_nz;have H:mkRat (sgn (decide (p.num<0) != decide (q.num<0)) (p.num.natAbs*q.den)) (p.den*q.num.natAbs)*q=mkRat (sgn (decide (p.num<0) != decide (q.num<0)) (p.num.natAbs*q.den)*q.num) (p.den*q.num.natAbs*q.den):=by
   conv=>lhs;rw[u]
   rw[Rat.mkRat_mul_mkRat];simp only[Rat.mkRat_self]
  rw[H]
  conv=>lhs;rw[A]
  rw[Rat.mkRat_eq_iff p.den_nz I];have G:sgn (decide (p.num<0) != decide (q.num<0)) (p.num.natAbs*q.den)*q.num=p.num*((q.num.natAbs:Nat):Int)*q.den:=by
   rw[a7u];have:sgn (decide (p.num<0) != decide (q.num<0)) p.num.natAbs*q.num=p.num*((q.num.natAbs:Nat):Int):=by
    unfold sgn;by_cases D:p.num<0
    ·by_cases B:q.num<0
     ·simp only[D,B,decide_true,bne_self_eq_false,d0P,if_false];have A:((p.num.natAbs:Nat):Int)=-p.num:=by omega
      have u:((q.num.natAbs:Nat):Int)=-q.num:=by omega
      rw[A,u];grind
     ·simp only[D,B,decide_true,decide_false,Bool.bne_false,if_true];have A:((p.num.natAbs:Nat):Int)=-p.num:=by omega
      have u:((q.num.natAbs:Nat):Int)=q.num:=by omega
      rw[A,u];grind
    ·by_cases B:q.num<0
     ·simp only[D,B,decide_true,decide_false,Bool.bne_true,Bool.not_false,if_true];have A:((p.num.natAbs:Nat):Int)=p.num:=by omega
      have u:((q.num.natAbs:Nat):Int)=-q.num:=by omega
      rw[A,u];grind
     ·simp only[D,B,decide_false,bne_self_eq_false,d0P,if_false];have A:((p.num.natAbs:Nat):Int)=p.num:=by omega
      have u:((q.num.natAbs:Nat):Int)=q.num:=by omega
      rw[A,u]
   calc sgn (decide (p.num<0) != decide (q.num<0)) p.num.natAbs*(q.den:Int)*q.num=(sgn (decide (p.num<0) != decide (q.num<0)) p.num.natAbs*q.num)*(q.den:Int):=by grind
    _=_:=by rw[this]
  rw[G]
  push_cast
  grind
 rw[Rat.div_def]
 conv=>rhs;rw[F]
 rw[Rat.mul_assoc,Rat.mul_inv_cancel _ h,Rat.mul_one]
end Nm
def Rb.fit{k:Nat}{a:Nm.Rt}(h:Rb k a)(A:1<=k):Rb k (Nm.ofQ (Nm.d9 a)):=by
 by_cases u:a.I4
 ·rw[Nm.b1M u];exact h
 ·have e:Nm.ofQ (Nm.d9 a)=Nm.a5E:=by unfold Nm.d9;rw[if_neg u,Nm.a6i]
  rw[e];exact⟨d0k _,A⟩
def Rb.g{k:Nat}{a:Nm.Rt}(h:Rb k a)(e:Nat.ble 1 k=true):Rb k (Nm.ofQ (Nm.d9 a)):=h.fit (d0n e)
def Z8(a:Nm.Rt)(ha:Rb 17179869184 a):FZ 79 [rc a] (rq (Nm.d9 a)):=c8L a ⟨by have:=ha.1;omega,by have:=ha.2;omega⟩
def c5q(a b:Nat):(Nm.enc a=Nm.enc b)=(a=b):=propext ⟨Nm.a9Q,λh=>by rw[h]⟩
def a3G(n:Nat):(Nm.enc n=[])=(n=0):=propext ⟨λh=>Classical.byContradiction λu=>Nm.a7Q u h,λh=>by rw[h,Nm.a3s]⟩
def a2M(n:Int)(G:-9223372036854775808<=n)(F:n<=9223372036854775807):FZ 115 [ints n] (rq (n:Rat)):=by
 refine kW Tryz.func115 (by cbv) (by rfl) λw O E=>?_;have B:∀k:Nat,k<=9223372036854775808->(Nm.enc k).length<=8:=λk H=>Nm.O1 (by omega);have J:sb [1]=sb (Nm.enc 1):=by rw[Nm.a0m]
 simp only[j4,TT,II,OA,OB,MM,ints];(repeat first|refine uA ?_|simp(disch:=omega) only[go_sem]);apply uJ rfl<;>intro I
 ·have u:=b5E n (by omega);have A:=a3R false n.toNat 1 (by decide) (by have:=B n.toNat (by omega);omega) (by have:=B 1 (by decide);omega);have e:mkRat (Nm.sgn false n.toNat) 1=(n:Rat):=by
   rw[Rat.mkRat_one];congr 1;unfold Nm.sgn;simp;omega
  rw[e,Nm.a0m]at A;simp only[rq,rc,sb,ints]at A u ⊢;(repeat first|refine uA ?_|simp(disch:=omega) only[go_sem,Nat.reduceAdd]|refine uB u rfl ?_|refine uD A (tz E) rfl ?_);(exact uS rfl rfl)
 ·have u:=b5E (-(n+1)) (by omega);have h:=f_add (Nm.enc (-(n+1)).toNat) [1] (by have:=B (-(n+1)).toNat (by omega);omega) (by decide);have A:=a3R true ((-(n+1)).toNat+1) 1 (by decide) (by have:=B ((-(n+1)).toNat+1) (by omega);omega) (by have:=B 1 (by decide);omega);have e:mkRat (Nm.sgn true ((-(n+1)).toNat+1)) 1=(n:Rat):=by
   rw[Rat.mkRat_one];congr 1;unfold Nm.sgn;simp;omega
  rw[Nm.L8,show Nm.val [1]=1 from rfl]at h;rw[e,Nm.a0m]at A;have D:IntKind.i64.wrap (0-(n+1))=-(n+1):=by rw[Eng.wrap_i64 (by omega)];omega
  simp only[rq,rc,sb,ints]at A u h ⊢;(repeat first|refine uA ?_|simp(disch:=omega) only[go_sem,Nat.reduceAdd,ww,D]|refine uB u rfl ?_|refine uB h rfl ?_|refine uD A (tz E) rfl ?_);(exact uS rfl rfl)
def a0X(a b:Nm.Rt)(R:Rb 17179869184 a)(J:Rb 17179869184 b):FZ 124 [rc a,rc b] (rq (Nm.d9 a+Nm.d9 b)):=by
 refine kW Tryz.func124 (by cbv) (by rfl) λw O A=>?_;have E:=Z8 a R;have G:=Z8 b J;obtain⟨F,H⟩:=R.g rfl;obtain⟨D,B⟩:=J.g rfl;generalize Nm.d9 a=p at*;generalize Nm.d9 b=q at*;simp only[Nm.ofQ]at F H D B;have U:=p.den_nz;have W:=q.den_nz;have l1:=Nm.M4 F B;have l2:=Nm.M4 D H;have l3:=Nm.M4 H B;have P:=b6l (decide (p.num<0)) (decide (q.num<0)) (Nm.enc p.num.natAbs) (Nm.enc q.num.natAbs) (by omega) (by omega);have I:=a4W (Nm.enc p.num.natAbs) (Nm.enc q.den) (by omega) (by omega);have K:=a4W (Nm.enc q.num.natAbs) (Nm.enc p.den) (by omega) (by omega);have T:=a4W (Nm.enc p.den) (Nm.enc q.den) (by omega) (by omega);simp only[Nm.L8]at P I K T
 have N:=b6l (decide (p.num<0)) (decide (q.num<0)) (Nm.enc (p.num.natAbs*q.den)) (Nm.enc (q.num.natAbs*p.den)) (by omega) (by omega);simp only[Nm.L8]at N;have X:(Nm.enc (Nm.R8 (decide (p.num<0)) p.num.natAbs (decide (q.num<0)) q.num.natAbs).2).length<=17179869185:=d0f (Nm.a3w (Nm.a8f _ _ _ _)) (Nm.a3c F D);have Y:(Nm.enc (Nm.R8 (decide (p.num<0)) (p.num.natAbs*q.den) (decide (q.num<0)) (q.num.natAbs*p.den)).2).length<=34359738369:=d0f (Nm.a3w (Nm.a8f _ _ _ _)) (Nm.a3c l1 l2);have M:=a3R (Nm.R8 (decide (p.num<0)) p.num.natAbs (decide (q.num<0)) q.num.natAbs).1 (Nm.R8 (decide (p.num<0)) p.num.natAbs (decide (q.num<0)) q.num.natAbs).2 p.den U (by omega) (by omega)
 have v2:=a3R (Nm.R8 (decide (p.num<0)) (p.num.natAbs*q.den) (decide (q.num<0)) (q.num.natAbs*p.den)).1 (Nm.R8 (decide (p.num<0)) (p.num.natAbs*q.den) (decide (q.num<0)) (q.num.natAbs*p.den)).2 (p.den*q.den) (Nat.mul_ne_zero U W) (by omega) (by omega);rw[Nm.b3c]at v2;have u:=λh=>Nm.c4n (p:=p) (q:=q) h;generalize p+q=r at*;generalize Nm.R8 (decide (p.num<0)) p.num.natAbs (decide (q.num<0)) q.num.natAbs=t1 at*;generalize Nm.R8 (decide (p.num<0)) (p.num.natAbs*q.den) (decide (q.num<0)) (q.num.natAbs*p.den)=Z at*;simp only[j4,TT,OA,OB,MM,LL,VV,FF];simp only[rq,rc,sb,Nm.ofQ]at*
 (repeat first|refine uA ?_|simp(disch:=omega) only[go_sem,Nat.reduceAdd,a6S,c5q]|refine uD E (tz A) rfl ?_|refine uD G (tz A) rfl ?_);apply uJ rfl<;>intro V
 ·rw[u V]at M;(repeat first|refine uA ?_|simp(disch:=omega) only[go_sem,Nat.reduceAdd]|refine uB P rfl ?_|refine uD M (tz A) rfl ?_);(exact uS rfl rfl)
 ·(repeat first|refine uA ?_|simp(disch:=omega) only[go_sem,Nat.reduceAdd]|refine uB I rfl ?_|refine uB K rfl ?_|refine uB T rfl ?_|refine uB N rfl ?_|refine uD v2 (tz A) rfl ?_);(exact uS rfl rfl)
def b4R(a b:Nm.Rt)(G:Rb 17179869184 a)(D:Rb 17179869184 b):FZ 117 [rc a,rc b] (rq (Nm.d9 a*Nm.d9 b)):=by
 refine kW Tryz.func117 (by cbv) (by rfl) λw O h=>?_;have u:=Z8 a G;have A:=Z8 b D;obtain⟨I,J⟩:=G.g rfl;obtain⟨F,E⟩:=D.g rfl;generalize Nm.d9 a=p at*;generalize Nm.d9 b=q at*;simp only[Nm.ofQ]at I J F E;have K:=p.den_nz;have M:=q.den_nz;have l1:=Nm.M4 I F;have l3:=Nm.M4 J E;have B:=a4W (Nm.enc p.num.natAbs) (Nm.enc q.num.natAbs) (by omega) (by omega);have H:=a4W (Nm.enc p.den) (Nm.enc q.den) (by omega) (by omega);simp only[Nm.L8]at B H;have v2:=a3R (decide (p.num<0) != decide (q.num<0)) (p.num.natAbs*q.num.natAbs) (p.den*q.den) (Nat.mul_ne_zero K M) (by omega) (by omega);rw[Nm.b5P]at v2;generalize p*q=r at*;simp only[j4,TT,OA,OB,LL,VV,FF]
 simp only[rq,rc,sb,Nm.ofQ]at*;(repeat first|refine uA ?_|simp(disch:=omega) only[go_sem,Nat.reduceAdd]|refine uB B rfl ?_|refine uB H rfl ?_|refine uD u (tz h) rfl ?_|refine uD A (tz h) rfl ?_|refine uD v2 (tz h) rfl ?_);(exact uS rfl rfl)
def F3(q:Rat):Int:=if q.num=0 then 0 else if q.num<0 then -1 else 1
def b1c(p:Rat):Nm.ofQ (-p)=⟨!decide (p.num<0) && !decide (p.num.natAbs=0),Nm.enc p.num.natAbs,Nm.enc p.den⟩:=by
 unfold Nm.ofQ;rw[Rat.neg_num,Rat.neg_den,Int.natAbs_neg];congr 1;by_cases h:p.num<0
 ·simp[h];omega
 ·by_cases u:p.num=0
  ·simp[u]
  ·have:¬p.num.natAbs=0:=by omega
   simp[h,this];omega
def a7T(a:Nm.Rt)(A:Rb 17179869184 a):FZ 69 [rc a] (rq (- Nm.d9 a)):=by
 refine kW Tryz.func69 (by cbv) (by rfl) λw O u=>?_;have h:=Z8 a A;generalize Nm.d9 a=p at*;simp only[j4,TT,OA,OB,OC,MM,LL,VV,FF,VG,FG];unfold rq at*;rw[b1c];simp only[rc,sb,Nm.ofQ]at*;(repeat first|refine uA ?_|simp(disch:=omega) only[go_sem,Nat.reduceAdd,a0V,a3G]|refine uD h (tz u) rfl ?_);(exact uS rfl rfl)
def c0z{k:Nat}{a:Nm.Rt}(h:Rb k a)(A:1<=k):Rb k (Nm.ofQ (- Nm.d9 a)):=by
 obtain⟨u,B⟩:=h.fit A;rw[b1c];exact⟨u,B⟩
def a5c(a b:Nm.Rt)(D:Rb 17179869184 a)(A:Rb 17179869184 b):FZ 116 [rc a,rc b] (rq (Nm.d9 a-Nm.d9 b)):=by
 refine kW Tryz.func116 (by cbv) (by rfl) λw O u=>?_;have B:=a7T b A;have h:=a0X a (Nm.ofQ (- Nm.d9 b)) D (c0z A (by decide));rw[Nm.y8,<- Rat.sub_eq_add_neg]at h;unfold rq at*;generalize Nm.ofQ (- Nm.d9 b)=c at*;generalize Nm.ofQ (Nm.d9 a-Nm.d9 b)=d at*;simp only[j4,TT,OA,OB,LL];simp only[rc,sb]at*;(repeat first|refine uA ?_|simp(disch:=omega) only[go_sem,Nat.reduceAdd]|refine uD B (tz u) rfl ?_|refine uD h (tz u) rfl ?_);(exact uS rfl rfl)
def a4E(p q:Rat):Nm.Rt:=if q=0 then⟨false,[],[]⟩ else Nm.ofQ (p/q)
def b0T(q:Rat):Int:=if q=0 then 12 else 0
def c0h(a b:Nm.Rt)(N:Rb 17179869184 a)(I:Rb 17179869184 b):FZ 281 [rc a,rc b] (.tup [rc (a4E (Nm.d9 a) (Nm.d9 b)),ints (b0T (Nm.d9 b))]):=by
 refine kW Tryz.func281 (by cbv) (by rfl) λw O B=>?_;have D:=Z8 a N;have G:=Z8 b I;obtain⟨R,T⟩:=N.g rfl;obtain⟨M,K⟩:=I.g rfl;generalize Nm.d9 a=p at*;generalize Nm.d9 b=q at*;simp only[Nm.ofQ]at R T M K;have U:=p.den_nz;have l1:=Nm.M4 R K;have l3:=Nm.M4 T M;have H:=a4W (Nm.enc p.num.natAbs) (Nm.enc q.den) (by omega) (by omega);have P:=a4W (Nm.enc p.den) (Nm.enc q.num.natAbs) (by omega) (by omega);simp only[Nm.L8]at H P;have v2:=λu:q.num.natAbs≠0=>a3R (decide (p.num<0) != decide (q.num<0)) (p.num.natAbs*q.den) (p.den*q.num.natAbs) (Nat.mul_ne_zero U u) (by omega) (by omega);have A:=λh=>Nm.b6o p q h;simp only[j4,TT,II,OA,OB,LL,VV,FF]
 simp only[rq,rc,sb,Nm.ofQ,ints]at*;(repeat first|refine uA ?_|simp(disch:=omega) only[go_sem,Nat.reduceAdd,a0V,a3G]|refine uD D (tz B) rfl ?_|refine uD G (tz B) rfl ?_);apply uJ rfl<;>intro J
 ·have u:q=0:=Rat.num_eq_zero.1 (by omega);have E:a4E p q=⟨false,[],[]⟩:=by unfold a4E;rw[if_pos u]
  have F:b0T q=12:=by unfold b0T;rw[if_pos u]
  rw[E,F];(repeat first|refine uA ?_|simp(disch:=omega) only[go_sem,Nat.reduceAdd]);(exact uS rfl rfl)
 ·have u:q≠0:=λh=>J (by rw[Rat.num_eq_zero.2 h];rfl);have E:a4E p q=Nm.ofQ (p/q):=by unfold a4E;rw[if_neg u]
  have F:b0T q=0:=by unfold b0T;rw[if_neg u]
  rw[E,F];have v2:=v2 J;rw[A u]at v2;generalize p/q=r at*;simp only[Nm.ofQ]at*;(repeat first|refine uA ?_|simp(disch:=omega) only[go_sem,Nat.reduceAdd]|refine uB H rfl ?_|refine uB P rfl ?_|refine uD v2 (tz B) rfl ?_);(exact uS rfl rfl)
def U4(a:Nm.Rt)(B:Rb 17179869184 a):FZ 70 [rc a] (ints (F3 (Nm.d9 a))):=by
 refine kW Tryz.func70 (by cbv) (by rfl) λw O A=>?_;have h:=Z8 a B;generalize Nm.d9 a=p at*;simp only[j4,TT,II,OA,OB,MM,LL,VV,FF];simp only[rq,rc,sb,Nm.ofQ,ints]at*;(repeat first|refine uA ?_|simp(disch:=omega) only[go_sem,Nat.reduceAdd,a0V,a3G]|refine uD h (tz A) rfl ?_);apply uJ rfl<;>intro u
 ·have:F3 p=0:=by unfold F3;rw[if_pos (by omega)]
  rw[this];exact uT rfl rfl rfl
 (repeat first|refine uA ?_|simp(disch:=omega) only[go_sem,Nat.reduceAdd]);apply uJ rfl<;>intro u
 ·have:F3 p=-1:=by unfold F3;rw[if_neg (by omega),if_pos u]
  rw[this];exact uT rfl rfl rfl
 ·have:F3 p=1:=by unfold F3;rw[if_neg (by omega),if_neg u]
  rw[this];exact uT rfl rfl rfl
def b1C(a b:Nat):-1<=Nm.a1C a b/\Nm.a1C a b<=1:=by
 unfold Nm.a1C;by_cases h:a<b
 ·rw[if_pos h];omega
 ·rw[if_neg h];split<;>omega
def P8(a b:Nm.Rt)(P:Rb 17179869184 a)(G:Rb 17179869184 b):FZ 44 [rc a,rc b] (ints (Nm.A9 (Nm.d9 a) (Nm.d9 b))):=by
 refine kW Tryz.func44 (by cbv) (by rfl) λw O I=>?_;have D:=Z8 a P;have E:=Z8 b G;obtain⟨R,T⟩:=P.g rfl;obtain⟨K,J⟩:=G.g rfl;generalize Nm.d9 a=p at*;generalize Nm.d9 b=q at*;rw[Nm.c5h];simp only[Nm.ofQ]at R T K J;have l1:=Nm.M4 R J;have l2:=Nm.M4 K T;have F:=a4W (Nm.enc p.num.natAbs) (Nm.enc q.den) (by omega) (by omega);have H:=a4W (Nm.enc q.num.natAbs) (Nm.enc p.den) (by omega) (by omega);simp only[Nm.L8]at F H;have h:=b1q (Nm.enc (p.num.natAbs*q.den)) (Nm.enc (q.num.natAbs*p.den)) (by omega) (by omega);simp only[Nm.L8]at h;have U:=b1C (p.num.natAbs*q.den) (q.num.natAbs*p.den);generalize Nm.a1C (p.num.natAbs*q.den) (q.num.natAbs*p.den)=M at*
 simp only[j4,TT,II,OA,OB,MM,LL,VV,FF];simp only[rq,rc,sb,Nm.ofQ,ints]at*;generalize decide (p.num<0)=bp at*;generalize decide (q.num<0)=N at*;(repeat first|refine uA ?_|simp(disch:=omega) only[go_sem,Nat.reduceAdd]|refine uD D (tz I) rfl ?_|refine uD E (tz I) rfl ?_);apply S.cond rfl<;>intro u
 ·have B:bp≠N:=by simpa using u
  rw[if_pos B];(repeat first|refine uA ?_|simp(disch:=omega) only[go_sem,Nat.reduceAdd]);apply S.cond rfl<;>intro u
  ·rw[if_pos u];exact uT rfl rfl rfl
  ·rw[if_neg (by simp[u])];exact uT rfl rfl rfl
 ·have V:bp=N:=by simpa using u
  rw[if_neg (by simp[V])];(repeat first|refine uA ?_|simp(disch:=omega) only[go_sem,Nat.reduceAdd]|refine uB F rfl ?_|refine uB H rfl ?_|refine uB h rfl ?_);apply S.cond rfl<;>intro u
  ·rw[if_pos u];have A:IntKind.i64.wrap (0-M)=- M:=by rw[Eng.wrap_i64 (by omega)];omega
   (repeat first|refine uA ?_|simp(disch:=omega) only[go_sem,A]);exact uS rfl rfl
  ·rw[if_neg (by simp[u])];exact uT rfl rfl rfl
def K3(p q:Rat):Rat:=if Nm.A9 p q<=0 then p else q
def J8(p q:Rat):Rat:=if Nm.A9 p q>=0 then p else q
def a5b(a b:Nm.Rt)(E:Rb 17179869184 a)(D:Rb 17179869184 b):FZ 201 [rc a,rc b] (rq (K3 (Nm.d9 a) (Nm.d9 b))):=by
 refine kW Tryz.func201 (by cbv) (by rfl) λw O u=>?_;have B:=Z8 a E;have A:=Z8 b D;have h:=P8 a b E D;unfold K3;generalize Nm.A9 (Nm.d9 a) (Nm.d9 b)=F at*;simp only[j4,TT,II,OA,OB,LL];unfold rq at*;generalize Nm.d9 a=p at*;generalize Nm.d9 b=q at*;simp only[rc,sb,ints]at*;(repeat first|refine uA ?_|simp(disch:=omega) only[go_sem,Nat.reduceAdd]|refine uD h (tz u) rfl ?_);apply uJ rfl<;>intro h
 ·rw[if_pos h];(repeat first|refine uA ?_|simp(disch:=omega) only[go_sem,Nat.reduceAdd]|refine uD B (tz u) rfl ?_);(exact uS rfl rfl)
 ·rw[if_neg h];(repeat first|refine uA ?_|simp(disch:=omega) only[go_sem,Nat.reduceAdd]|refine uD A (tz u) rfl ?_);(exact uS rfl rfl)
def a6k(a b:Nm.Rt)(E:Rb 17179869184 a)(D:Rb 17179869184 b):FZ 202 [rc a,rc b] (rq (J8 (Nm.d9 a) (Nm.d9 b))):=by
 refine kW Tryz.func202 (by cbv) (by rfl) λw O u=>?_;have B:=Z8 a E;have A:=Z8 b D;have h:=P8 a b E D;unfold J8;generalize Nm.A9 (Nm.d9 a) (Nm.d9 b)=F at*;simp only[j4,TT,II,OA,OB,LL];unfold rq at*;generalize Nm.d9 a=p at*;generalize Nm.d9 b=q at*;simp only[rc,sb,ints]at*;(repeat first|refine uA ?_|simp(disch:=omega) only[go_sem,Nat.reduceAdd]|refine uD h (tz u) rfl ?_);apply uJ rfl<;>intro h
 ·rw[if_pos h];(repeat first|refine uA ?_|simp(disch:=omega) only[go_sem,Nat.reduceAdd]|refine uD B (tz u) rfl ?_);(exact uS rfl rfl)
 ·rw[if_neg h];(repeat first|refine uA ?_|simp(disch:=omega) only[go_sem,Nat.reduceAdd]|refine uD A (tz u) rfl ?_);(exact uS rfl rfl)
def c8B(a:Nm.Rt)(A:Rb 17179869184 a):FZ 45 [rc a] (rc ⟨false,Nm.enc (Nm.d9 a).num.natAbs,Nm.enc (Nm.d9 a).den⟩):=by
 refine kW Tryz.func45 (by cbv) (by rfl) λw O u=>?_;have h:=Z8 a A;generalize Nm.d9 a=p at*;simp only[j4,TT,OA,OB,LL,FF];unfold rq at*;simp only[rc,sb,Nm.ofQ]at*;(repeat first|refine uA ?_|simp(disch:=omega) only[go_sem,Nat.reduceAdd]|refine uD h (tz u) rfl ?_);(exact uS rfl rfl)
def l7(a:Nm.Rt):Bool:=decide (a.num.length<=3)&&decide (a.den.length<=2)&&decide a.I4&&decide (Nm.val a.num<=1000000)&&decide (Nm.val a.den<=1000)
def b7V(a b:Nat):(Nm.a1C a b<=0)=(a<=b):=by
 unfold Nm.a1C;by_cases h:a<b
 ·rw[if_pos h];simp;omega
 ·rw[if_neg h];split
  ·simp;omega
  ·simp;omega
def a4C(a:Nm.Rt)(E:Rb 17179869184 a):FZ 152 [rc a] (.v (.bool (l7 a))):=by
 refine kW Tryz.func152 (by cbv) (by rfl) λw O M=>?_;have N:=a0S a ⟨by have:=E.1;omega,by have:=E.2;omega⟩;have B:=b5E 1000000 (by decide);have D:=b5E 1000 (by decide);have J:∀k:Nat,k<=1000000->(Nm.enc k).length<=8:=λk U=>Nm.O1 (by omega);have K:=J 1000000 (by decide);have R:=J 1000 (by decide);have A:=b1q a.num (Nm.enc 1000000) (by have:=E.1;omega) (by omega);have u:=b1q a.den (Nm.enc 1000) (by have:=E.2;omega) (by omega);rw[Nm.L8]at A u;rw[show(1000000:Int).toNat=1000000 from rfl]at B;rw[show(1000:Int).toNat=1000 from rfl]at D;have H:=b7V (Nm.val a.num) 1000000;have F:=b7V (Nm.val a.den) 1000;unfold l7;generalize decide a.I4=g at*
 generalize Nm.enc 1000000=W at*;generalize Nm.enc 1000=X at*;obtain⟨P,h,den⟩:=a;obtain⟨T,V⟩:=E;simp only[j4,TT,II,OA,OC,MM,VV,FF,LG,VG,FG];simp only[rc,sb,ints]at*;generalize Nm.a1C (Nm.val h) 1000000=Y at*;generalize Nm.a1C (Nm.val den) 1000=Z at*;simp only[<- H,<- F];have G:decide ((h.length:Int)<=3)=decide (h.length<=3):=decide_eq_decide.2 (by omega);have I:decide ((den.length:Int)<=2)=decide (den.length<=2):=decide_eq_decide.2 (by omega);(repeat first|refine uA ?_|simp(disch:=omega) only[go_sem,Nat.reduceAdd,x9,G,I]|refine uB B rfl ?_|refine uB D rfl ?_|refine uB A rfl ?_|refine uB u rfl ?_|refine uD N (tz M) rfl ?_);exact uS rfl rfl
open Go Eng
def tc(h:Bool)(a:Nm.Rt):C:=.agg [.v (.bool h),.v (.bool a.neg),sb a.num,sb a.den]
def tq(h:Bool)(q:Rat):C:=tc h (Nm.ofQ q)
def b9E(a:Nm.Rt)(h:Rb 17179869184 a):FZ 284 [rc a] (tq false (Nm.d9 a)):=by
 refine kW Tryz.func284 (by cbv) (by rfl) λw O A=>?_;have u:=a5b a a h h;have e:K3 (Nm.d9 a) (Nm.d9 a)=Nm.d9 a:=by unfold K3;split<;>rfl
 rw[e]at u;unfold rq tq at*;generalize Nm.ofQ (Nm.d9 a)=r at*;simp only[j4,TT,OA,OB,LL];simp only[rc,tc,sb]at*;(repeat first|refine uA ?_|simp(disch:=omega) only[go_sem,Nat.reduceAdd]|refine uD u (tz A) rfl ?_);(exact uS rfl rfl)
def a7Z{h:Bool}{n d k m:Nat}(B:d≠0)(D:(Nm.enc n).length<=k)(u:(Nm.enc d).length<=k)(E:1<=k)(A:k<=m):Rb m (Nm.ofQ (mkRat (Nm.sgn h n) d)):=by
 rw[<- Nm.b7z h B];split
 ·exact⟨d0k _,d0f E A⟩
 ·exact⟨d0f (Nm.a3w (Nat.div_le_self _ _)) (d0f D A),d0f (Nm.a3w (Nat.div_le_self _ _)) (d0f u A)⟩
def a6u{k:Nat}{p:Rat}(h:Rb k (Nm.ofQ p)):1<=k:=by
 have u:=h.2;simp only[Nm.ofQ]at u;have:Nm.enc p.den≠[]:=Nm.a7Q p.den_nz;have:=List.length_pos_iff.2 this;omega
def O4{k m:Nat}{p q:Rat}(h:Rb k (Nm.ofQ p))(u:Rb m (Nm.ofQ q)):Rb (k+m+1) (Nm.ofQ (p+q)):=by
 have A:=a6u h;rw[<- Nm.b3c p q];have l1:=Nm.M4 h.1 u.2;have l2:=Nm.M4 u.1 h.2;have l3:=Nm.M4 h.2 u.2;exact a7Z (k:=k+m+1) (Nat.mul_ne_zero p.den_nz q.den_nz) (d0f (Nm.a3w (Nm.a8f _ _ _ _)) (Nm.a3c l1 (by omega))) (by omega) (by omega) (d0m _)
def L6{k m:Nat}{p q:Rat}(h:Rb k (Nm.ofQ p))(u:Rb m (Nm.ofQ q)):Rb (k+m) (Nm.ofQ (p*q)):=by
 have A:=a6u h;rw[<- Nm.b5P p q];exact a7Z (k:=k+m) (Nat.mul_ne_zero p.den_nz q.den_nz) (Nm.M4 h.1 u.1) (Nm.M4 h.2 u.2) (by omega) (d0m _)
def b1d{k m:Nat}{p q:Rat}(h:q≠0)(u:Rb k (Nm.ofQ p))(A:Rb m (Nm.ofQ q)):Rb (k+m) (Nm.ofQ (p/q)):=by
 have D:=a6u u;rw[<- Nm.b6o p q h];have B:q.num.natAbs≠0:=λe=>h (Rat.num_eq_zero.1 (by omega));exact a7Z (k:=k+m) (Nat.mul_ne_zero p.den_nz B) (Nm.M4 u.1 A.2) (Nm.M4 u.2 A.1) (by omega) (d0m _)
def a1Q{k:Nat}{p:Rat}(h:Rb k (Nm.ofQ p)):Rb k (Nm.ofQ (-p)):=by
 rw[b1c];exact h
def R6{k m:Nat}{p q:Rat}(u:Rb k (Nm.ofQ p))(h:Rb m (Nm.ofQ q)):Rb (k+m+1) (Nm.ofQ (p-q)):=by
 rw[Rat.sub_eq_add_neg];exact O4 u (a1Q h)
def Rb.mono{k m:Nat}{a:Nm.Rt}(h:Rb k a)(hm:k<=m):Rb m a:=⟨d0f h.1 hm,d0f h.2 hm⟩
theorem Rb.m{k m:Nat}{a:Nm.Rt}(h:Rb k a)(e:Nat.ble k m=true):Rb m a:=h.mono (d0n e)
def a3l(p q:Rat)(u:Rb 17179869184 (Nm.ofQ p))(h:Rb 17179869184 (Nm.ofQ q)):FZ 124 [rq p,rq q] (rq (p+q)):=by
 have:=a0X (Nm.ofQ p) (Nm.ofQ q) u h;rwa[Nm.y8,Nm.y8]at this
def a7d(p q:Rat)(u:Rb 17179869184 (Nm.ofQ p))(h:Rb 17179869184 (Nm.ofQ q)):FZ 116 [rq p,rq q] (rq (p-q)):=by
 have:=a5c (Nm.ofQ p) (Nm.ofQ q) u h;rwa[Nm.y8,Nm.y8]at this
def a3k(p q:Rat)(u:Rb 17179869184 (Nm.ofQ p))(h:Rb 17179869184 (Nm.ofQ q)):FZ 117 [rq p,rq q] (rq (p*q)):=by
 have:=b4R (Nm.ofQ p) (Nm.ofQ q) u h;rwa[Nm.y8,Nm.y8]at this
def b9h(p q:Rat)(u:Rb 17179869184 (Nm.ofQ p))(h:Rb 17179869184 (Nm.ofQ q)):FZ 281 [rq p,rq q] (.tup [rc (a4E p q),ints (b0T q)]):=by
 have:=c0h (Nm.ofQ p) (Nm.ofQ q) u h;rwa[Nm.y8,Nm.y8]at this
def c7P:FZ 296 [] (tq true 0):=by
 refine kW Tryz.func296 (by cbv) (by rfl) λw O u=>?_;have h:=a2M 0 (by decide) (by decide);rw[show((0:Int):Rat)=0 from rfl]at h;unfold rq tq at*;generalize Nm.ofQ 0=r at*;simp only[j4,TT,II,OA,OB];simp only[rc,tc,sb,ints]at*;(repeat first|refine uA ?_|simp(disch:=omega) only[go_sem,Nat.reduceAdd]|refine uD h (tz u) rfl ?_);(exact uS rfl rfl)
def M8(h:Bool)(a:Nm.Rt):Rat:=if h then 0 else Nm.d9 a
def c1w(h:Bool)(a:Nm.Rt)(D:Rb 17179869184 a):FZ 280 [tc h a] (tq h (M8 h a)):=by
 refine kW Tryz.func280 (by cbv) (by rfl) λw O A=>?_;have B:=c7P;have E:=b9E a D;unfold M8 tq at*;cases h
 ·simp only[d0P,if_false];generalize Nm.ofQ (Nm.d9 a)=r at*;simp only[j4,TT,OA,OB,LL,VV,FF];simp only[rc,tc,sb]at*;(repeat first|refine uA ?_|simp(disch:=omega) only[go_sem,Nat.reduceAdd]);exact S.cond rfl (λu=>by cases u) (λ_=>by
   (repeat first|refine uA ?_|simp(disch:=omega) only[go_sem,Nat.reduceAdd]|refine uD E (tz A) rfl ?_)
   (exact uS rfl rfl))
 ·simp only[if_true];generalize Nm.ofQ 0=r at*;simp only[j4,TT,OA,OB,LL,VV,FF];simp only[rc,tc,sb]at*;(repeat first|refine uA ?_|simp(disch:=omega) only[go_sem,Nat.reduceAdd]);exact S.cond rfl (λ_=>by
   (repeat first|refine uA ?_|simp(disch:=omega) only[go_sem,Nat.reduceAdd]|refine uD B (tz A) rfl ?_)
   (exact uS rfl rfl)) (λu=>by cases u)
def vc(x y:Nm.Rt):C:=.agg [.v (.bool x.neg),sb x.num,sb x.den,.v (.bool y.neg),sb y.num,sb y.den]
def vq(x y:Rat):C:=vc (Nm.ofQ x) (Nm.ofQ y)
def c6V(a b c d:Nm.Rt)(E:Rb 17179869184 a)(u:Rb 17179869184 b)(F:Rb 17179869184 c)(B:Rb 17179869184 d) :
  FZ 206 [vc a b,vc c d] (vq (Nm.d9 a+Nm.d9 c) (Nm.d9 b+Nm.d9 d)):=by
 refine kW Tryz.func206 (by cbv) (by rfl) λw O h=>?_;have D:=a0X a c E F;have A:=a0X b d u B;unfold vq rq at*;generalize Nm.ofQ (Nm.d9 a+Nm.d9 c)=G at*;generalize Nm.ofQ (Nm.d9 b+Nm.d9 d)=H at*;simp only[j4,TT,OA,OB,LL,FF];simp only[rc,vc,sb]at*;(repeat first|refine uA ?_|simp(disch:=omega) only[go_sem,Nat.reduceAdd]|refine uD D (tz h) rfl ?_|refine uD A (tz h) rfl ?_);(exact uS rfl rfl)
def b1h(a b c d:Nm.Rt)(E:Rb 17179869184 a)(u:Rb 17179869184 b)(F:Rb 17179869184 c)(B:Rb 17179869184 d) :
  FZ 160 [vc a b,vc c d] (vq (Nm.d9 a-Nm.d9 c) (Nm.d9 b-Nm.d9 d)):=by
 refine kW Tryz.func160 (by cbv) (by rfl) λw O h=>?_;have D:=a5c a c E F;have A:=a5c b d u B;unfold vq rq at*;generalize Nm.ofQ (Nm.d9 a-Nm.d9 c)=G at*;generalize Nm.ofQ (Nm.d9 b-Nm.d9 d)=H at*;simp only[j4,TT,OA,OB,LL,FF];simp only[rc,vc,sb]at*;(repeat first|refine uA ?_|simp(disch:=omega) only[go_sem,Nat.reduceAdd]|refine uD D (tz h) rfl ?_|refine uD A (tz h) rfl ?_);(exact uS rfl rfl)
structure Vt where
 x:Nm.Rt
 y:Nm.Rt
def Vt.enc(v:Vt):List C:=[.v (.bool v.x.neg),sb v.x.num,sb v.x.den,.v (.bool v.y.neg),sb v.y.num,sb v.y.den]
def Vt.c(v:Vt):C:=.agg v.enc
def Vt.zero:Vt:=⟨⟨false,[],[]⟩,⟨false,[],[]⟩⟩
def Vb(k:Nat)(v:Vt):Prop:=Rb k v.x/\Rb k v.y
theorem Vb.mono{k m:Nat}{v:Vt}(h:Vb k v)(u:k<=m):Vb m v:=⟨h.1.mono u,h.2.mono u⟩
theorem Vb.m{k m:Nat}{v:Vt}(h:Vb k v)(e:Nat.ble k m=true):Vb m v:=h.mono (d0n e)
def c3e(a b c d:Rat)(B:Rb 4294967296 (Nm.ofQ a))(u:Rb 4294967296 (Nm.ofQ b))(D:Rb 4294967296 (Nm.ofQ c))(A:Rb 4294967296 (Nm.ofQ d)) :
  FZ 279 [vq a b,vq c d] (rq (a*d-b*c)):=by
 refine kW Tryz.func279 (by cbv) (by rfl) λw O h=>?_;have G:=a3k a d (B.m rfl) (A.m rfl);have F:=a3k b c (u.m rfl) (D.m rfl);have E:=a7d (a*d) (b*c) ((L6 B A).m rfl) ((L6 u D).m rfl);unfold vq rq at*;generalize Nm.ofQ (a*d-b*c)=N at*;generalize Nm.ofQ (a*d)=H at*;generalize Nm.ofQ (b*c)=J at*;generalize Nm.ofQ a=M at*;generalize Nm.ofQ b=K at*;generalize Nm.ofQ c=r at*;generalize Nm.ofQ d=I at*;simp only[j4,TT,OA,OB,LL,FF];simp only[rc,vc,sb]at*;(repeat first|refine uA ?_|simp(disch:=omega) only[go_sem,Nat.reduceAdd]|refine uD G (tz h) rfl ?_|refine uD F (tz h) rfl ?_|refine uD E (tz h) rfl ?_);(exact uS rfl rfl)
def b4h(a b c:Vt):Int:=F3 ((Nm.d9 b.x-Nm.d9 a.x)*(Nm.d9 c.y-Nm.d9 a.y)-(Nm.d9 b.y-Nm.d9 a.y)*(Nm.d9 c.x-Nm.d9 a.x))
def c8c(a b c:Vt)(h:Vb 1073741824 a)(u:Vb 1073741824 b)(B:Vb 1073741824 c):FZ 245 [a.c,b.c,c.c] (ints (b4h a b c)):=by
 refine kW Tryz.func245 (by cbv) (by rfl) λw O D=>?_;have N:=b1h b.x b.y a.x a.y (u.1.m rfl) (u.2.m rfl) (h.1.m rfl) (h.2.m rfl);have T:=b1h c.x c.y a.x a.y (B.1.m rfl) (B.2.m rfl) (h.1.m rfl) (h.2.m rfl);have I:=R6 (u.1.g rfl) (h.1.g rfl);have K:=R6 (u.2.g rfl) (h.2.g rfl);have J:=R6 (B.1.g rfl) (h.1.g rfl);have H:=R6 (B.2.g rfl) (h.2.g rfl);unfold b4h;generalize Nm.d9 b.x-Nm.d9 a.x=G at*;generalize Nm.d9 b.y-Nm.d9 a.y=A at*;generalize Nm.d9 c.x-Nm.d9 a.x=E at*;generalize Nm.d9 c.y-Nm.d9 a.y=F at*;have P:=c3e G A E F (I.m rfl) (K.m rfl) (J.m rfl) (H.m rfl);have R:=R6 (L6 I H) (L6 K J);have M:=U4 (Nm.ofQ (G*F-A*E)) (R.m rfl)
 rw[Nm.y8]at M;generalize G*F-A*E=U at*;unfold vq rq at*;generalize Nm.ofQ G=V at*;generalize Nm.ofQ A=W at*;generalize Nm.ofQ E=X at*;generalize Nm.ofQ F=Z at*;generalize Nm.ofQ U=Y at*;simp only[j4,TT,II,OA,MM,LL];simp only[rc,vc,sb,Vt.c,Vt.enc]at*;(repeat first|refine uA ?_|simp(disch:=omega) only[go_sem,Nat.reduceAdd]|refine uD N (tz D) rfl ?_|refine uD T (tz D) rfl ?_|refine uD P (tz D) rfl ?_|refine uD M (tz D) rfl ?_);(exact uS rfl rfl)
def G7{α:Type}(f:α->Int):List α->Int
 | []=>0
 | x::r=>if f x=0 then G7 f r else f x
def H8{α σ:Type}(f:σ->α->Int×σ):σ->List α->Int×σ
 | s,[]=>(0,s)
 | s,x::r=>if(f s x).1=0 then H8 f (f s x).2 r else f s x
def drop_at{α:Type}{l:List α}{i:Nat}{x:α}(h:l[i]?=some x):l.drop i=x::l.drop (i+1):=by
 obtain⟨u,rfl⟩:=d0i.1 h;exact List.drop_eq_getElem_cons u
def a0s{α:Type}{f:α->Int}{l:List α}{i:Nat}{x:α}(h:l[i]?=some x)(u:f x≠0):G7 f (l.drop i)=f x:=by
 rw[drop_at h,G7,if_neg u]
def a0r{α:Type}{f:α->Int}{l:List α}{i:Nat}{x:α}(h:l[i]?=some x)(u:f x=0):G7 f (l.drop i)=G7 f (l.drop (i+1)):=by
 rw[drop_at h,G7,if_pos u]
def a0N{α:Type}{f:α->Int}{l:List α}{i:Nat}(h:l.length<=i):G7 f (l.drop i)=0:=by
 rw[List.drop_eq_nil_of_le h,G7]
def a0p{α σ:Type}{f:σ->α->Int×σ}{s:σ}{l:List α}{i:Nat}{x:α}(h:l[i]?=some x)(u:(f s x).1≠0):H8 f s (l.drop i)=f s x:=by
 rw[drop_at h,H8,if_neg u]
def a0n{α σ:Type}{f:σ->α->Int×σ}{s:σ}{l:List α}{i:Nat}{x:α}(h:l[i]?=some x)(u:(f s x).1=0):H8 f s (l.drop i)=H8 f (f s x).2 (l.drop (i+1)):=by
 rw[drop_at h,H8,if_pos u]
def a0Q{α σ:Type}{f:σ->α->Int×σ}{s:σ}{l:List α}{i:Nat}(h:l.length<=i):H8 f s (l.drop i)=(0,s):=by
 rw[List.drop_eq_nil_of_le h,H8]
structure Fr where
 x:Nm.Rt
 y:Nm.Rt
 half:Bool
 t:Nm.Rt
structure Lk where
 length:Nm.Rt
 low:Nm.Rt
 high:Nm.Rt
 speed:Nm.Rt
 brake:Nm.Rt
 shape:List Vt
structure Am where
 name:List UInt8
 base:Fr
 links:List Lk
structure Pt where
 name:List UInt8
 shape:List Vt
 grasp:Fr
structure Sl where
 name:List UInt8
 frame:Fr
 within:Nm.Rt
structure Gt where
 name:List UInt8
 low:Vt
 high:Vt
structure Wk where
 arms:List Am
 walls:List (List Vt)
 parts:List Pt
 slots:List Sl
 gates:List Gt
 walk:Nm.Rt
def rcs(a:Nm.Rt):List C:=[.v (.bool a.neg),sb a.num,sb a.den]
def Fr.enc(f:Fr):List C:=[.v (.bool f.x.neg),sb f.x.num,sb f.x.den,.v (.bool f.y.neg),sb f.y.num,sb f.y.den,.v (.bool f.half),.v (.bool f.t.neg),sb f.t.num,sb f.t.den]
def Fr.c(f:Fr):C:=.agg f.enc
def vts(l:List Vt):C:=.sl 6 (l.map Vt.enc)
def Lk.enc(l:Lk):List C:=[.v (.bool l.length.neg),sb l.length.num,sb l.length.den,.v (.bool l.low.neg),sb l.low.num,sb l.low.den,.v (.bool l.high.neg),sb l.high.num,sb l.high.den,.v (.bool l.speed.neg),sb l.speed.num,sb l.speed.den,.v (.bool l.brake.neg),sb l.brake.num,sb l.brake.den,vts l.shape]
def Lk.c(l:Lk):C:=.agg l.enc
def lks(l:List Lk):C:=.sl 16 (l.map Lk.enc)
def Am.enc(a:Am):List C:=[sb a.name,.v (.bool a.base.x.neg),sb a.base.x.num,sb a.base.x.den,.v (.bool a.base.y.neg),sb a.base.y.num,sb a.base.y.den,.v (.bool a.base.half),.v (.bool a.base.t.neg),sb a.base.t.num,sb a.base.t.den,lks a.links]
def Am.c(a:Am):C:=.agg a.enc
def ams(l:List Am):C:=.sl 12 (l.map Am.enc)
def Pt.enc(p:Pt):List C:=[sb p.name,vts p.shape,.v (.bool p.grasp.x.neg),sb p.grasp.x.num,sb p.grasp.x.den,.v (.bool p.grasp.y.neg),sb p.grasp.y.num,sb p.grasp.y.den,.v (.bool p.grasp.half),.v (.bool p.grasp.t.neg),sb p.grasp.t.num,sb p.grasp.t.den]
def Pt.c(p:Pt):C:=.agg p.enc
def pts(l:List Pt):C:=.sl 12 (l.map Pt.enc)
def Sl.enc(s:Sl):List C:=[sb s.name,.v (.bool s.frame.x.neg),sb s.frame.x.num,sb s.frame.x.den,.v (.bool s.frame.y.neg),sb s.frame.y.num,sb s.frame.y.den,.v (.bool s.frame.half),.v (.bool s.frame.t.neg),sb s.frame.t.num,sb s.frame.t.den,.v (.bool s.within.neg),sb s.within.num,sb s.within.den]
def Sl.c(s:Sl):C:=.agg s.enc
def sls(l:List Sl):C:=.sl 14 (l.map Sl.enc)
def Gt.enc(g:Gt):List C:=[sb g.name,.v (.bool g.low.x.neg),sb g.low.x.num,sb g.low.x.den,.v (.bool g.low.y.neg),sb g.low.y.num,sb g.low.y.den,.v (.bool g.high.x.neg),sb g.high.x.num,sb g.high.x.den,.v (.bool g.high.y.neg),sb g.high.y.num,sb g.high.y.den]
def Gt.c(g:Gt):C:=.agg g.enc
def gts(l:List Gt):C:=.sl 13 (l.map Gt.enc)
def wls(l:List (List Vt)):C:=.sl 1 (l.map λs=>[vts s])
def Wk.enc(w:Wk):List C:=[ams w.arms,wls w.walls,pts w.parts,sls w.slots,gts w.gates,.v (.bool w.walk.neg),sb w.walk.num,sb w.walk.den]
def Wk.c(w:Wk):C:=.agg w.enc
def Fb(k:Nat)(f:Fr):Prop:=Rb k f.x/\Rb k f.y/\Rb k f.t
def Vbs(k:Nat)(l:List Vt):Prop:=l.length<=k/\∀v∈l,Vb k v
def Lb(k:Nat)(l:Lk):Prop:=Rb k l.length/\Rb k l.low/\Rb k l.high/\Rb k l.speed/\Rb k l.brake/\Vbs k l.shape
def Ab(k:Nat)(a:Am):Prop:=a.name.length<=k/\Fb k a.base/\a.links.length<=k/\∀l∈a.links,Lb k l
def Pb(k:Nat)(p:Pt):Prop:=p.name.length<=k/\Vbs k p.shape/\Fb k p.grasp
def Sb(k:Nat)(s:Sl):Prop:=s.name.length<=k/\Fb k s.frame/\Rb k s.within
def Gb(k:Nat)(g:Gt):Prop:=g.name.length<=k/\Vb k g.low/\Vb k g.high
structure Wb(k:Nat)(w:Wk):Prop where
 arms:w.arms.length<=k/\∀x∈w.arms,Ab k x
 walls:w.walls.length<=k/\∀x∈w.walls,Vbs k x
 parts:w.parts.length<=k/\∀x∈w.parts,Pb k x
 slots:w.slots.length<=k/\∀x∈w.slots,Sb k x
 gates:w.gates.length<=k/\∀x∈w.gates,Gb k x
 walk:Rb k w.walk
def a1G(s:List UInt8):Bool:=(s.all λb=>decide (97<=b.toNat)&&decide (b.toNat<=122))&&decide (1<=s.length)&&decide (s.length<=12)
def a6r(l:List Vt)(i k:Nat):Int:=b4h (l.getD i Vt.zero) (l.getD ((i+1)%l.length) Vt.zero) (l.getD ((i+k)%l.length) Vt.zero)
def a0f(l:List Vt)(most:Nat):Int:=
 if most<l.length then 2 else if l.length<3 then 3 else
 if(List.range l.length).all λi=>(List.range l.length).all λk=>decide (k<2)||decide (0<a6r l i k) then 0 else 3
def a4X(h:Bool)(t:Nm.Rt):Bool:=h && !decide (F3 (Nm.d9 t)=0)
def a0Y(l:Lk):Int:=
 if(l7 l.length&&l7 l.low&&l7 l.high&&l7 l.speed&&l7 l.brake)=false\/F3 (Nm.d9 l.length)<=0\/0<=Nm.A9 (Nm.d9 l.low) (Nm.d9 l.high) then 1 else
 if F3 (Nm.d9 l.speed)<=0\/F3 (Nm.d9 l.brake)<=0 then 1 else
 if a0f l.shape 8≠0 then a0f l.shape 8 else
 if(l.shape.all λv=>l7 v.x&&l7 v.y) then 0 else 1
def J2(a:Am):Int:=
 if a1G a.name=false then 3 else
 if 3<a.links.length then 2 else
 if a.links.length=0\/(l7 a.base.x&&l7 a.base.y&&l7 a.base.t)=false\/a4X a.base.half a.base.t=true then 1 else
 G7 a0Y a.links
def Y1(a:Am)(q:List Nm.Rt):Int:=
 if J2 a≠0 then J2 a else if q.length≠a.links.length then 1 else
 G7 (λx:Lk×Nm.Rt=>if Nm.A9 (Nm.d9 x.2) (Nm.d9 x.1.low)<0\/0<Nm.A9 (Nm.d9 x.2) (Nm.d9 x.1.high) then 17 else 0) (a.links.zip q)
abbrev Nms:=List (List UInt8)
def R5(n:Nms)(s:List UInt8):Int×Nms:=if a1G s=false then(3,n) else if n.contains s then(5,n) else(0,n++[s])
def okV(v:Vt):Bool:=decide v.x.I4&&decide v.y.I4&&l7 v.x&&l7 v.y
def okF(f:Fr):Bool:=okV ⟨f.x,f.y⟩&&decide f.t.I4&&l7 f.t && !a4X f.half f.t
def U3(l:List Vt):Int:=if a0f l 8≠0 then a0f l 8 else if l.all okV then 0 else 1
def a2G(n:Nms)(a:Am):Int×Nms:=if J2 a≠0 then(J2 a,n) else R5 n a.name
def a1k(n:Nms)(p:Pt):Int×Nms:=
 if(R5 n p.name).1≠0 then R5 n p.name else
 if U3 p.shape≠0 then(U3 p.shape,(R5 n p.name).2) else
 (if okF p.grasp then 0 else 1,(R5 n p.name).2)
def a1v(n:Nms)(s:Sl):Int×Nms:=
 if(R5 n s.name).1≠0 then R5 n s.name else
 (if okF s.frame&&decide s.within.I4&&l7 s.within&&decide (0<F3 (Nm.d9 s.within)) then 0 else 1,(R5 n s.name).2)
def a1x(n:Nms)(g:Gt):Int×Nms:=
 if(R5 n g.name).1≠0 then R5 n g.name else
 (if okV g.low&&okV g.high&&decide (Nm.A9 (Nm.d9 g.low.x) (Nm.d9 g.high.x)<=0)&&decide (Nm.A9 (Nm.d9 g.low.y) (Nm.d9 g.high.y)<=0) then 0 else 1,(R5 n g.name).2)
def b4d(a:Nm.Rt):Int:=if decide a.I4&&l7 a&&decide (0<=F3 (Nm.d9 a)) then 0 else 1
def b1P(w:Wk):List Int:=
 let a:=H8 a2G [] w.arms
 let p:=H8 a1k a.2 w.parts
 let s:=H8 a1v p.2 w.slots
 let g:=H8 a1x s.2 w.gates
 [a.1,G7 U3 w.walls,p.1,s.1,g.1]
def a3e(w:Wk):Int:=
 if 4<w.arms.length\/10<w.walls.length\/6<w.parts.length\/8<w.slots.length\/4<w.gates.length then 2 else
 if w.arms.length=0 then 4 else
 if G7 id (b1P w)≠0 then G7 id (b1P w) else b4d w.walk
def nmE(n:Nms):List (Value×Value):=n.map λs=>(.string (bs s),.bool true)
def c5Q(n:Nms)(s:List UInt8):a0d (.string (bs s)) (nmE n)=if n.contains s then some (.bool true) else none:=by
 induction n with
 | nil=>rfl
 | cons a n ih=>
  simp only[nmE,d0l,a0d,a0Z];simp only[nmE]at ih;rw[ih];by_cases h:s=a
  ·subst h;simp
  ·have u:¬bs s=bs a:=λe=>h (b5h e);have A:(s==a)=false:=by simpa using h
   rw[List.contains_cons];simp only[A,Bool.false_or,decide_eq_false u,d0P,if_false]
def c8q(n:Nms)(s:List UInt8)(h:n.contains s=false):a0u (.string (bs s)) (.bool true) (nmE n)=nmE (n++[s]):=by
 induction n with
 | nil=>rfl
 | cons a n ih=>
  rw[List.contains_cons,d0F]at h;have A:¬bs s=bs a:=λe=>by have:=b5h e;subst this;simp at h
  have u:=ih h.2;simp only[nmE,d0l,List.cons_append,a0u,a0Z,decide_eq_false A,d0P,if_false]at u ⊢;rw[u]
structure Ast where
 q:List Nm.Rt
 v:List Nm.Rt
 power:Bool
 holds:Int
structure Stt where
 tick:Int
 arms:List Ast
 parts:List Fr
 people:List Vt
 gates:List Bool
def rts(l:List Nm.Rt):C:=.sl 3 (l.map rcs)
def Ast.enc(x:Ast):List C:=[rts x.q,rts x.v,.v (.bool x.power),ints x.holds]
def Ast.c(x:Ast):C:=.agg x.enc
def J9(l:List Ast):C:=.sl 4 (l.map Ast.enc)
def frs(l:List Fr):C:=.sl 10 (l.map Fr.enc)
def bls(l:List Bool):C:=.sl 1 (l.map λb=>[.v (.bool b)])
def Stt.enc(s:Stt):List C:=[ints s.tick,J9 s.arms,frs s.parts,vts s.people,bls s.gates]
def Stt.c(s:Stt):C:=.agg s.enc
def Rbs(k:Nat)(l:List Nm.Rt):Prop:=l.length<=k/\∀a∈l,Rb k a
def Asb(k:Nat)(x:Ast):Prop:=Rbs k x.q/\Rbs k x.v
structure Stb(k:Nat)(s:Stt):Prop where
 arms:s.arms.length<=k/\∀x∈s.arms,Asb k x
 parts:s.parts.length<=k/\∀x∈s.parts,Fb k x
 people:Vbs k s.people
 gates:s.gates.length<=k
def q9(q:Rat):Rat:=if q.num<0 then -q else q
def a1r(x:Lk×Nm.Rt):Int:=if 0<Nm.A9 (q9 (Nm.d9 x.2)) (Nm.d9 x.1.speed) then 1 else 0
def F9(a:Nm.Rt):Bool:=decide a.I4
def a3v(a:Am)(x:Ast)(parts:Nat):Int:=
 if(x.q.all F9&&x.v.all F9)=false then 3 else
 if Y1 a x.q≠0 then Y1 a x.q else
 if x.v.length≠a.links.length\/x.holds < -1\/(parts:Int)<=x.holds then 1 else
 G7 a1r (a.links.zip x.v)
def a4P(h:List Int)(n:Int):List Int:=if h.contains n then h else h++[n]
def hdE(h:List Int):List (Value×Value):=h.map λn=>(.int .i64 n,.bool true)
def a1Z(parts:Nat)(h:List Int)(x:Am×Ast):Int×List Int:=
 if a3v x.1 x.2 parts≠0 then(a3v x.1 x.2 parts,h) else
 if(decide (0<=x.2.holds)&&h.contains x.2.holds)=true then(10,h) else(0,a4P h x.2.holds)
def a2K(f:Fr):Bool:=(F9 f.x&&F9 f.y&&F9 f.t) && !a4X f.half f.t
def a4g(v:Vt):Bool:=F9 v.x&&F9 v.y
def Z5(w:Wk)(s:Stt):Int:=
 if a3e w≠0 then a3e w else
 if 4<s.people.length then 2 else
 if s.tick<0\/2000<s.tick\/s.arms.length≠w.arms.length\/s.parts.length≠w.parts.length\/s.gates.length≠w.gates.length then 1 else
 if(H8 (a1Z w.parts.length) [] (w.arms.zip s.arms)).1≠0 then(H8 (a1Z w.parts.length) [] (w.arms.zip s.arms)).1 else
 if s.parts.all a2K&&s.people.all a4g then 0 else 3
def c6H(h:List Int)(n:Int):a0d (.int .i64 n) (hdE h)=if h.contains n then some (.bool true) else none:=by
 induction h with
 | nil=>rfl
 | cons a h ih=>
  simp only[hdE,d0l,a0d,a0Z];simp only[hdE]at ih;rw[ih,List.contains_cons];by_cases e:n=a
  ·subst e;simp
  ·have u:(n==a)=false:=by simpa using e
   simp only[u,Bool.false_or,d0P,if_false]
def c7O(h:List Int)(n:Int):a0u (.int .i64 n) (.bool true) (hdE h)=hdE (a4P h n):=by
 induction h with
 | nil=>rfl
 | cons a h ih=>
  unfold a4P at ih ⊢;rw[List.contains_cons];by_cases e:n=a
  ·subst e;simp[hdE,a0u,a0Z]
  ·have u:(n==a)=false:=by simpa using e
   simp only[hdE,d0l,a0u,a0Z,u,Bool.false_or,d0P,if_false];simp only[hdE]at ih;rw[ih];split<;>simp[hdE]
def b9S{l:List Vt}{u i k:Nat}(D:¬u<l.length)(F:¬l.length<3)(G:i<l.length)(H:2<=k)(E:k<l.length)(h:¬0<a6r l i k):a0f l u=3:=by
 unfold a0f;rw[if_neg D,if_neg F,if_neg];intro A;rw[List.all_eq_true]at A;have B:=A i (List.mem_range.2 G);rw[List.all_eq_true]at B;have I:=B k (List.mem_range.2 E);rw[d0R,d0t,d0t]at I;omega
def b9s{l:List Vt}{u:Nat}(D:¬u<l.length)(B:¬l.length<3)(h:∀i,i<l.length->∀k,2<=k->k<l.length->0<a6r l i k):a0f l u=0:=by
 unfold a0f;rw[if_neg D,if_neg B,if_pos];rw[List.all_eq_true];intro i E;rw[List.all_eq_true];intro k F;rw[d0R,d0t,d0t];rcases d0B k 2 with A|A
 ·exact .inl A
 ·exact .inr (h i (List.mem_range.1 E) k A (List.mem_range.1 F))
def c1f{l:List Vt}{i k:Nat}{x y z:Vt}(u:l[i]?=some x)(A:l[(i+1)%l.length]?=some y)(h:l[(i+k)%l.length]?=some z):a6r l i k=b4h x y z:=by
 unfold a6r;rw[d0C,d0C,d0C,u,A,h];rfl
def c2Y(i k n:Nat):Int.tmod ((i:Int)+(k:Int)) (n:Int)=(((i+k)%n:Nat):Int):=rfl
def tmod_one(i n:Nat):Int.tmod ((i:Int)+1) (n:Int)=(((i+1)%n:Nat):Int):=rfl
def c7d(v:Vt):v.enc.length=6:=rfl
def c3f(l:List Vt)(u:Nat)(hl:Vbs 1073741824 l)(hm:u<=1000000):FZ 199 [vts l,ints u] (ints (a0f l u)):=by
 refine kW Tryz.func199 (by cbv) (by rfl) λw O hw=>?_;obtain⟨hn,K⟩:=hl;simp only[j4,TT,II,OA,OB,MM,LL,ints,vts];(repeat first|refine uA ?_|(apply uK;· first|omega|trivial|(intros;simp_all<;>omega))|simp(disch:=omega) only[go_sem,Nat.reduceAdd,d0d]);apply uJ rfl<;>intro G
 ·have P:a0f l u=2:=by unfold a0f;rw[if_pos (by omega)]
  rw[P];exact uT rfl rfl rfl
 have N:¬u<l.length:=by omega
 (repeat first|refine uA ?_|(apply uK;· first|omega|trivial|(intros;simp_all<;>omega))|simp(disch:=omega) only[go_sem]);apply uJ rfl<;>intro G
 ·have P:a0f l u=3:=by unfold a0f;rw[if_neg N,if_pos (by omega)]
  rw[P];exact uT rfl rfl rfl
 have Y:¬l.length<3:=by omega
 (repeat first|refine uA ?_|(apply uK;· first|omega|trivial|(intros;simp_all<;>omega))|simp(disch:=omega) only[go_sem,d0d]);refine S.loop (X:=Nat) (λi=>⟨[(0,vts l),(5,ints l.length),(18,vts l),(19,ints l.length),(20,ints i)],[]⟩)
  (λi=>i<=l.length/\∀j,j<i->∀k,2<=k->k<l.length->0<a6r l j k) (λi=>l.length-i) 0 ⟨d0k _,λ_ h=>absurd h (Nat.not_lt_zero _)⟩ (by repeat first|refine uA ?_|refine⟨rfl,?_⟩|rfl|simp) ?_
 rintro i ⟨hi,V⟩;simp only[ints,vts]at hi ⊢;(repeat first|refine uA ?_|simp(disch:=omega) only[go_sem]);apply uJ rfl<;>intro G
 ·have D:i<l.length:=by omega
  have B:=d0b D;generalize l[i]=x at B;(repeat first|refine uA ?_|(apply uK;· first|omega|trivial|(intros;simp_all<;>omega))|simp(disch:=omega) only[go_sem,Nat.reduceAdd,Nat.reduceLeDiff,B,d0e,d0d,c7d]);refine S.loop (X:=Nat) (λk=>⟨[(0,vts l),(5,ints l.length),(6,ints i),(7,.bp 0 0),(8,ints k),(18,vts l),(19,ints l.length),(20,ints i)],[.box 66 x.enc]⟩)
   (λk=>2<=k/\k<=l.length/\∀E,2<=E->E<k->0<a6r l i E) (λk=>l.length-k) 2 ⟨d0m _,by omega,λ_ h h'=>by omega⟩ (by repeat first|refine uA ?_|refine⟨rfl,?_⟩|rfl|simp) ?_
  rintro k ⟨T,Z,H⟩;simp only[ints,vts]at Z ⊢;(repeat first|refine uA ?_|(refine uK ?_ ?_;focus first|omega|trivial|(intros;simp_all<;>omega))|simp(disch:=omega) only[go_sem]);(refine uJ rfl (λG=>?_) λG=>?_)
  ·have F:k<l.length:=by omega
   have J:=d0b (show(i+1)%l.length<l.length from Nat.mod_lt _ (by omega));have I:=d0b (show(i+k)%l.length<l.length from Nat.mod_lt _ (by omega));have U:(i+1)%l.length<l.length:=Nat.mod_lt _ (by omega);have W:(i+k)%l.length<l.length:=Nat.mod_lt _ (by omega);generalize l[(i+1)%l.length]'_=y at J;generalize l[(i+k)%l.length]'_=z at I;have R:=c1f B J I;have A:=c8c x y z (K x (d0g B)) (K y (d0g J)) (K z (d0g I));rw[<- R]at A;simp only[Vt.c,Vt.enc,sb,ints]at A
   (repeat first|refine uA ?_|(refine uK ?_ ?_;focus first|omega|trivial|(intros;simp_all<;>omega))|simp(disch:=omega) only[go_sem,Nat.reduceAdd,Nat.reduceLeDiff,ww,J,I,d0e,c2Y,tmod_one,d0d,Vt.enc,sb,d0h]|(refine uD A ?_ ?_ ?_;exact tz hw;exact rfl));(refine uJ rfl (λG=>?_) λG=>?_)
   ·rw[b9S N Y D T F (by omega)];(repeat first|refine uA ?_|(refine uK ?_ ?_;focus first|omega|trivial|(intros;simp_all<;>omega))|simp(disch:=omega) only[go_sem]);exact uS rfl rfl
   ·(repeat first|refine uA ?_|(refine uK ?_ ?_;focus first|omega|trivial|(intros;simp_all<;>omega))|simp(disch:=omega) only[go_sem,ww]);refine S.next (k+1) ⟨by omega,by omega,λE M aa=>?_⟩ (by omega) (by(repeat first|refine uA ?_|(refine⟨?_,?_⟩;focus first|rfl|trivial|(simp[slot];done))|rfl|trivial|simp))
    rcases d0B E k with h|h
    ·exact H E M h
    ·have:E=k:=by omega
     subst this;omega
  ·have F:k=l.length:=by omega
   subst F;(repeat first|refine uA ?_|(refine uK ?_ ?_;focus first|omega|trivial|(intros;simp_all<;>omega))|simp(disch:=omega) only[go_sem,ww]);refine S.next (i+1) ⟨by omega,λj hj=>?_⟩ (by omega) (by(repeat first|refine uA ?_|(refine⟨?_,?_⟩;focus first|rfl|trivial|(simp[slot];done))|rfl|trivial|simp))
   rcases d0B j i with h|h
   ·exact V j h
   ·have:j=i:=by omega
    subst this;exact H
 ·have D:i=l.length:=by omega
  subst D;rw[b9s N Y V];exact uT rfl rfl rfl
def a7n(l:List Vt)(A:Vbs 1073741824 l):FZ 151 [vts l] (ints (a0f l 8)):=by
 refine kW Tryz.func151 (by cbv) (by rfl) λw O u=>?_;have h:=c3f l 8 A (by decide);simp only[j4,TT,II,OA,MM];simp only[vts,ints]at*;generalize a0f l 8=e at*;rw[show((8:Nat):Int)=8 from rfl]at h;(repeat first|refine uA ?_|simp(disch:=omega) only[go_sem]|refine uD h (tz u) rfl ?_);exact uS rfl rfl
def a4D:a3N:=⟨89,[.tmp 2],.seq (.reg [OA 1 (.box 31 (TT 0)),OA 2 (.mv (II 0))]) (.seq (.seq (.reg [FF 7 0 1,VV 8 7,OA 9 (.len false (TT 8)),OA 10 (.bin .gtr (TT 9) (II 4)),MM 11 10,FG 12 1 1 11 false,VG 13 12 11 false,OC 14 (.len
 false (TT 13)) 11 false,OC 15 (.bin .gtr (TT 14) (II 10)) 11 false,OA 16 (.pick (TT 11) (.const (.bool true)) (TT 15)),MM 17 16,FG 18 2 1 17 false,VG 19 18 17 false,OC 20 (.len false (TT 19)) 17 false,OC 21 (.bin .gtr (TT
 20) (II 6)) 17 false,OA 22 (.pick (TT 17) (.const (.bool true)) (TT 21)),MM 23 22,FG 24 3 1 23 false,VG 25 24 23 false,OC 26 (.len false (TT 25)) 23 false,OC 27 (.bin .gtr (TT 26) (II 8)) 23 false,OA 28 (.pick (TT 23)
 (.const (.bool true)) (TT 27)),MM 29 28,FG 30 4 1 29 false,VG 31 30 29 false,OC 32 (.len false (TT 31)) 29 false,OC 33 (.bin .gtr (TT 32) (II 4)) 29 false,OA 34 (.pick (TT 29) (.const (.bool true)) (TT 33))]) (.cond (TT
 34) (.seq (.reg [OA 2 (.mv (II 2))]) .ret) .skip)) (.seq (.seq (.reg [FF 35 0 1,VV 36 35,OA 37 (.len false (TT 36)),OA 38 (.bin .eql (TT 37) (II 0))]) (.cond (TT 38) (.seq (.reg [OA 2 (.mv (II 4))]) .ret) .skip)) (.seq (.reg
 [OA 39 (.mkmap true),OA 3 (.alloc 270 [.map none]),OB (.store 1 (TT 3) (TT 39))]) (.seq (.reg [OA 40 (.clo 171 [TT 3]),MM 4 40]) (.seq (.seq (.a1d [.q,.q,.q,.e none false,.l,.l,.q,.l,.l,.l,.l,.e none false,.l,
 .l,.l,.l,.e none false,.l,.l,.l,.l,.e none false,.q,.q,.l] [FF 41 0 1,VV 42 41,MM 43 4,OA 44 (.call 173 [TT 42,TT 43]),FF 45 1 1,VV 46 45,OA 47 (.call 174 [TT 46,.func 175]),FF 48 2 1,VV 49 48,VV 50 3,OA
 51 (.bnd 177 (TT 50)),OA 52 (.call 176 [TT 49,TT 51]),FF 53 3 1,VV 54 53,VV 55 3,OA 56 (.bnd 179 (TT 55)),OA 57 (.call 178 [TT 54,TT 56]),FF 58 4 1,VV 59 58,VV 60 3,OA 61 (.bnd 181 (TT 60)),OA 62 (.call 180 [TT 59,
 TT 61]),OA 63 (.bsl 42 1 5 [.int .i64 0] [(0,TT 44),(1,TT 47),(2,TT 52),(3,TT 57),(4,TT 62)]),OA 64 (.len false (TT 63)),OA 65 (.mv (II 0))]) (.block 0 (.loop (.seq (.reg [OA 66 (.bin .lss (TT 65) (TT 64))]) (.seq
 (.cond (TT 66) .skip (.exit 0)) (.seq (.block 1 (.seq (.reg [OA 67 (.iaddr 1 (TT 63) (TT 65)),VV 68 67,MM 6 68]) (.seq (.reg [MM 69 6,OA 70 (.bin .neq (TT 69) (II 0))]) (.cond (TT 70) (.seq (.reg [MM 71 6,MM 2 71]) .ret)
 .skip)))) (.reg [OA 72 (.bin .add (TT 65) (II 1)),MM 65 72]))))))) (.seq (.seq (.reg [FF 73 5 1,LL 74 3 73,OA 75 (.call 78 [TT 74]),OA 76 (.un .not (TT 75)),MM 77 76,FG 78 5 1 77 false,LG 79 3 78 77 false,OC 80 (.call
 152 [TT 79]) 77 false,OC 81 (.un .not (TT 80)) 77 false,OA 82 (.pick (TT 77) (.const (.bool true)) (TT 81)),MM 83 82,FG 84 5 1 83 false,LG 85 3 84 83 false,OC 86 (.call 70 [TT 85]) 83 false,OC 87 (.bin .lss (TT 86) (II
 0)) 83 false,OA 88 (.pick (TT 83) (.const (.bool true)) (TT 87))]) (.cond (TT 88) (.seq (.reg [OA 2 (.mv (II 1))]) .ret) .skip)) (.seq (.reg [OA 2 (.mv (II 0))]) .ret)))))))⟩
def b2B:a0D eff Tryz.prog Tryz.f135=some a4D:=by kernel_rfl
def b2q:Tryz.prog.funcs[135]?=some Tryz.f135:=Tryz.func135
def M9(b:UInt8):Bool:=decide (97<=b.toNat)&&decide (b.toNat<=122)
def b3o{s:List UInt8}{i:Nat}(u:i<s.length)(h:M9 s[i]=false):a1G s=false:=by
 unfold a1G;have:(s.all λb=>decide (97<=b.toNat)&&decide (b.toNat<=122))=false:=by
  rw[List.all_eq_false];exact⟨s[i],d0z u,by unfold M9 at h;rw[h];decide⟩
 rw[this];rfl
def b4P{s:List UInt8}(h:∀j (h:j<s.length),M9 s[j]=true):a1G s=(decide (1<=s.length)&&decide (s.length<=12)):=by
 unfold a1G;have:(s.all λb=>decide (97<=b.toNat)&&decide (b.toNat<=122))=true:=by
  rw[List.all_eq_true];intro x u;obtain⟨j,A,rfl⟩:=List.mem_iff_getElem.1 u;exact h j A
 rw[this,Bool.true_and]
def c3V(s:List UInt8)(J:s.length<=1099511627776):p8 Tryz.prog 112 [sb s] (.v (.bool (a1G s))):=by
 refine kS Tryz.func112 (by cbv) (by rfl) λw O=>?_;simp only[j4,TT,II,OA,OC,MM,MG,sb];(repeat first|refine uA ?_|simp(disch:=omega) only[go_sem,x9]);refine S.loop (X:=Nat) (λi=>⟨[(0,sb s),(5,ints s.length),(6,ints i)],[]⟩) (λi=>i<=s.length/\∀j (h:j<s.length),j<i->M9 s[j]=true) (λi=>s.length-i) 0 ⟨d0k _,λ_ _ h=>absurd h (Nat.not_lt_zero _)⟩ (by repeat first|refine uA ?_|refine⟨rfl,?_⟩|rfl|simp) ?_
 rintro i ⟨K,E⟩;simp only[sb,ints];refine uV rfl ?_;apply uJ rfl<;>intro D
 ·have u:i<s.length:=by omega
  have A:s.getD i 0=s[i]:=by rw[d0C,d0b u];rfl
  (repeat first|refine uA ?_|simp(disch:=omega) only[go_sem,x9,a0F,A,d0h]);apply S.cond rfl<;>intro D
  ·have B:M9 s[i]=false:=by
    unfold M9;simp only[d0R,d0t]at D;rw[Bool.and_eq_false_iff,d0x,d0x];omega
   rw[b3o u B];exact uT rfl rfl rfl
  ·have B:M9 s[i]=true:=by
    unfold M9;simp only[d0F,d0x]at D;rw[d0s,d0t,d0t];omega
   (repeat first|refine uA ?_|simp(disch:=omega) only[go_sem]);refine S.next (i+1) ⟨by omega,λj h I=>?_⟩ (by omega) (by repeat first|refine uA ?_|refine⟨rfl,?_⟩|rfl|simp)
   rcases d0B j i with G|G
   ·exact E j h G
   ·have:j=i:=by omega
    subst this;exact B
 ·have u:i=s.length:=by omega
  subst u;have H:decide ((1:Int)<=(s.length:Int))=decide (1<=s.length):=decide_eq_decide.2 (by omega);have F:decide ((s.length:Int)<=12)=decide (s.length<=12):=decide_eq_decide.2 (by omega);rw[b4P λj h=>E j h h];(repeat first|refine uA ?_|simp(disch:=omega) only[go_sem,x9,H,F])
  (try simp only[H,F,go_sem])
  exact uS rfl rfl
def c6h(s:List UInt8)(J:s.length<=1099511627776):p8 Tryz.prog 227 [sb s] (.v (.bool (a1G s))):=by
 refine kS Tryz.func227 (by cbv) (by rfl) λw O=>?_;simp only[j4,TT,II,OA,OC,MM,MG,sb];(repeat first|refine uA ?_|simp(disch:=omega) only[go_sem,x9]);refine S.loop (X:=Nat) (λi=>⟨[(0,sb s),(5,ints s.length),(6,ints i)],[]⟩) (λi=>i<=s.length/\∀j (h:j<s.length),j<i->M9 s[j]=true) (λi=>s.length-i) 0 ⟨d0k _,λ_ _ h=>absurd h (Nat.not_lt_zero _)⟩ (by repeat first|refine uA ?_|refine⟨rfl,?_⟩|rfl|simp) ?_
 rintro i ⟨K,E⟩;simp only[sb,ints];refine uV rfl ?_;apply uJ rfl<;>intro D
 ·have u:i<s.length:=by omega
  have A:s.getD i 0=s[i]:=by rw[d0C,d0b u];rfl
  (repeat first|refine uA ?_|simp(disch:=omega) only[go_sem,x9,a0F,A,d0h]);apply S.cond rfl<;>intro D
  ·have B:M9 s[i]=false:=by
    unfold M9;simp only[d0R,d0t]at D;rw[Bool.and_eq_false_iff,d0x,d0x];omega
   rw[b3o u B];exact uT rfl rfl rfl
  ·have B:M9 s[i]=true:=by
    unfold M9;simp only[d0F,d0x]at D;rw[d0s,d0t,d0t];omega
   (repeat first|refine uA ?_|simp(disch:=omega) only[go_sem]);refine S.next (i+1) ⟨by omega,λj h I=>?_⟩ (by omega) (by repeat first|refine uA ?_|refine⟨rfl,?_⟩|rfl|simp)
   rcases d0B j i with G|G
   ·exact E j h G
   ·have:j=i:=by omega
    subst this;exact B
 ·have u:i=s.length:=by omega
  subst u;have H:decide ((1:Int)<=(s.length:Int))=decide (1<=s.length):=decide_eq_decide.2 (by omega);have F:decide ((s.length:Int)<=12)=decide (s.length<=12):=decide_eq_decide.2 (by omega);rw[b4P λj h=>E j h h];(repeat first|refine uA ?_|simp(disch:=omega) only[go_sem,x9,H,F])
  (try simp only[H,F,go_sem])
  exact uS rfl rfl
def b0I(l:List Nm.Rt)(H:Rbs 17179869184 l):FZ 113 [rts l] (.v (.bool (l.all l7))):=by
 refine kW Tryz.func113 (by cbv) (by rfl) λw O F=>?_;obtain⟨J,G⟩:=H;simp only[j4,TT,II,OA,OB,MM,LL,rts];(repeat first|refine uA ?_|simp(disch:=omega) only[go_sem,d0d]);refine S.loop (X:=Nat) (λi=>⟨[(5,rts l),(6,ints l.length),(7,ints i)],[]⟩) (λi=>i<=l.length/\l.all l7=(l.drop i).all l7) (λi=>l.length-i) 0 ⟨d0k _,rfl⟩ (by repeat first|refine uA ?_|refine⟨rfl,?_⟩|rfl|simp) ?_
 rintro i ⟨I,A⟩;simp only[rts,ints];refine uV rfl ?_;apply uJ rfl<;>intro u
 ·have D:i<l.length:=by omega
  have h:=d0b D;generalize l[i]=x at h;have E:=drop_at h;have B:=a4C x (G x (d0g h));simp only[rc]at B;simp only[sb]at B;(repeat first|refine uA ?_|simp(disch:=omega) only[go_sem,Nat.reduceAdd,h,d0e,d0d,rcs,sb]|refine uD B (tz F) rfl ?_);apply S.cond rfl<;>intro u
  ·have:l.all l7=false:=by
    rw[A,E,List.all_cons];simp only[Bool.not_eq_true']at u;rw[u];rfl
   rw[this];exact uT rfl rfl rfl
  ·(repeat first|refine uA ?_|simp(disch:=omega) only[go_sem]);refine S.next (i+1) ⟨by omega,?_⟩ (by omega) (by repeat first|refine uA ?_|refine⟨rfl,?_⟩|rfl|simp)
   rw[A,E,List.all_cons];simp only[Bool.not_eq_false']at u;rw[u];rfl
 ·have:l.all l7=true:=by rw[A,List.drop_eq_nil_of_le (by omega)];rfl
  rw[this];exact uT rfl rfl rfl
namespace Eng
def frS(fr:List (Nat×C)):List (Nat×C)->Prop
 | []=>True
 | (t,s)::r=>(s=.junk\/slot fr t=s)/\frS fr r
theorem b6z{fr:List (Nat×C)}:∀{A:List (Nat×C)},frS fr A->∀t,slot A t=.junk\/slot fr t=slot A t
 | [],_,t=>.inl rfl
 | (u,s)::r,h,t=>by
  simp only[slot];cases hb:(u==t) with
  | true=>
   have:u=t:=by simpa using hb
   subst this;exact h.1
  | false=>exact b6z h.2 t
theorem Ent.fr{E:Ctx}{fr A:List (Nat×C)}{rs rs':List Res}(h:rs=rs')(B:frS fr A):Ent E ⟨fr,rs⟩ ⟨A,rs'⟩:=by
 subst h;intro D ν a w u;refine⟨ν,u.dfr,u.size,λt=>?_,u.rg,u.frm,u.nu⟩;rcases b6z B t with e|e
 ·rw[e];simp only[Den]
 ·rw[<- e];exact u.fr t
end Eng
def a1b{α:Type}(p:α->Bool)(l:List α):Int:=match l.findIdx? p with|some i=>i|none=>-1
def a2e{α:Type}{p:α->Bool}{l:List α}{i:Nat}{x:α}(h:l[i]?=some x)(A:p x=true)(D:∀j,j<i->∀y,l[j]?=some y->p y=false):a1b p l=i:=by
 obtain⟨B,rfl⟩:=d0i.1 h;have:l.findIdx? p=some i:=by
  rw[List.findIdx?_eq_some_iff_getElem];refine⟨B,A,λj u=>?_⟩;simp[D j u l[j] (d0b _)]
 unfold a1b;rw[this]
def a1l{α:Type}{p:α->Bool}{l:List α}(A:∀j,j<l.length->∀y,l[j]?=some y->p y=false):a1b p l=-1:=by
 have:l.findIdx? p=none:=by
  rw[List.findIdx?_eq_none_iff];intro x u;obtain⟨j,h⟩:=List.mem_iff_getElem?.1 u;exact A j (d0i.1 h).1 x h
 unfold a1b;rw[this]
def a2A{α:Type}(p:α->Bool)(l:List α):decide (0<=a1b p l)=l.any p:=by
 unfold a1b;cases h:l.findIdx? p with
 | none=>
  rw[List.findIdx?_eq_none_iff]at h;have:l.any p=false:=by rw[List.any_eq_false];intro x u;simp[h x u]
  rw[this];rfl
 | some i=>
  rw[List.findIdx?_eq_some_iff_getElem]at h;obtain⟨B,A,_⟩:=h;have:l.any p=true:=by rw[List.any_eq_true];exact⟨_,d0z B,A⟩
  rw[this];exact decide_eq_true (show(0:Int)<=(i:Int) by omega)
def c3E(g:Nat)(D:callable Tryz.prog g=true)(p:Vt->Bool)(l:List Vt)(M:l.length<=1099511627776)(J:∀x∈l,FZ g [x.c] (.v (.bool (p x)))) :
  FZ 148 [vts l,.v (.func (.func g) #[] #[])] (ints (a1b p l)):=by
 refine kW Tryz.func148 (by cbv) (by rfl) λw O I=>?_;simp only[j4,TT,II,OA,MM,LL,vts];(repeat first|refine uA ?_|simp(disch:=omega) only[go_sem,Nat.reduceAdd,d0d]);refine S.loop (X:=Nat) (λi=>⟨[(0,vts l),(1,.v (.func (.func g) #[] #[])),(7,ints l.length),(8,ints i)],[]⟩) (λi=>i<=l.length/\∀j,j<i->∀x,l[j]?=some x->p x=false) (λi=>l.length-i) 0 ⟨d0k _,λ_ h=>absurd h (Nat.not_lt_zero _)⟩ (by repeat first|refine uA ?_|refine⟨rfl,?_⟩|rfl|simp) ?_
 rintro i ⟨P,E⟩;simp only[vts,ints];refine uV rfl ?_;apply uJ rfl<;>intro K
 ·have A:i<l.length:=by omega
  have u:=d0b A;generalize l[i]=x at u;have H:=J x (d0g u);simp only[Vt.c,Vt.enc,sb]at H;(repeat first|refine uA ?_|simp(disch:=omega) only[go_sem,Nat.reduceAdd,u,d0e,d0d,Vt.enc,sb,d0h,D]|refine uD H (tz I) rfl ?_);apply S.cond rfl<;>intro B
  ·rw[a2e u B E];exact uT rfl rfl rfl
  ·(repeat first|refine uA ?_|simp(disch:=omega) only[go_sem]);refine S.next (i+1) ⟨by omega,λj N y F=>?_⟩ (by omega) (by repeat first|refine uA ?_|refine⟨rfl,?_⟩|rfl|simp)
   rcases d0B j i with G|G
   ·exact E j G y F
   ·have:j=i:=by omega
    subst this;rw[u]at F;cases F;exact B
 ·have A:i=l.length:=by omega
  subst A;rw[a1l E];exact uT rfl rfl rfl
def b4K(g:Nat)(u:callable Tryz.prog g=true)(p:Vt->Bool)(l:List Vt)(D:l.length<=1099511627776)(B:∀x∈l,FZ g [x.c] (.v (.bool (p x)))) :
  FZ 103 [vts l,.v (.func (.func g) #[] #[])] (.v (.bool (l.any p))):=by
 refine kW Tryz.func103 (by cbv) (by rfl) λw O A=>?_;have h:=c3E g u p l D B;have e:=a2A p l;generalize a1b p l=n at*;simp only[j4,TT,II,OA,MM];simp only[vts,ints]at*;(repeat first|refine uA ?_|simp(disch:=omega) only[go_sem,Nat.reduceAdd]|refine uD h (tz A) rfl ?_);rw[e];exact uS rfl rfl
def c3U(g:Nat)(D:callable Tryz.prog g=true)(p:Nm.Rt->Bool)(l:List Nm.Rt)(M:l.length<=1099511627776)(J:∀x∈l,FZ g [rc x] (.v (.bool (p x)))) :
  FZ 230 [rts l,.v (.func (.func g) #[] #[])] (ints (a1b p l)):=by
 refine kW Tryz.func230 (by cbv) (by rfl) λw O I=>?_;simp only[j4,TT,II,OA,MM,LL,rts];(repeat first|refine uA ?_|simp(disch:=omega) only[go_sem,Nat.reduceAdd,d0d]);refine S.loop (X:=Nat) (λi=>⟨[(0,rts l),(1,.v (.func (.func g) #[] #[])),(7,ints l.length),(8,ints i)],[]⟩) (λi=>i<=l.length/\∀j,j<i->∀x,l[j]?=some x->p x=false) (λi=>l.length-i) 0 ⟨d0k _,λ_ h=>absurd h (Nat.not_lt_zero _)⟩ (by repeat first|refine uA ?_|refine⟨rfl,?_⟩|rfl|simp) ?_
 rintro i ⟨P,E⟩;simp only[rts,ints];refine uV rfl ?_;apply uJ rfl<;>intro K
 ·have A:i<l.length:=by omega
  have u:=d0b A;generalize l[i]=x at u;have H:=J x (d0g u);simp only[rc,sb]at H;(repeat first|refine uA ?_|simp(disch:=omega) only[go_sem,Nat.reduceAdd,u,d0e,d0d,rcs,sb,d0h,D]|refine uD H (tz I) rfl ?_);apply S.cond rfl<;>intro B
  ·rw[a2e u B E];exact uT rfl rfl rfl
  ·(repeat first|refine uA ?_|simp(disch:=omega) only[go_sem]);refine S.next (i+1) ⟨by omega,λj N y F=>?_⟩ (by omega) (by repeat first|refine uA ?_|refine⟨rfl,?_⟩|rfl|simp)
   rcases d0B j i with G|G
   ·exact E j G y F
   ·have:j=i:=by omega
    subst this;rw[u]at F;cases F;exact B
 ·have A:i=l.length:=by omega
  subst A;rw[a1l E];exact uT rfl rfl rfl
def c3l(g:Nat)(u:callable Tryz.prog g=true)(p:Nm.Rt->Bool)(l:List Nm.Rt)(D:l.length<=1099511627776)(B:∀x∈l,FZ g [rc x] (.v (.bool (p x)))) :
  FZ 183 [rts l,.v (.func (.func g) #[] #[])] (.v (.bool (l.any p))):=by
 refine kW Tryz.func183 (by cbv) (by rfl) λw O A=>?_;have h:=c3U g u p l D B;have e:=a2A p l;generalize a1b p l=n at*;simp only[j4,TT,II,OA,MM];simp only[rts,ints]at*;(repeat first|refine uA ?_|simp(disch:=omega) only[go_sem,Nat.reduceAdd]|refine uD h (tz A) rfl ?_);rw[e];exact uS rfl rfl
def b8V(g:Nat)(D:callable Tryz.prog g=true)(p:Fr->Bool)(l:List Fr)(M:l.length<=1099511627776)(J:∀x∈l,FZ g [x.c] (.v (.bool (p x)))) :
  FZ 182 [frs l,.v (.func (.func g) #[] #[])] (ints (a1b p l)):=by
 refine kW Tryz.func182 (by cbv) (by rfl) λw O I=>?_;simp only[j4,TT,II,OA,MM,LL,frs];(repeat first|refine uA ?_|simp(disch:=omega) only[go_sem,Nat.reduceAdd,d0d]);refine S.loop (X:=Nat) (λi=>⟨[(0,frs l),(1,.v (.func (.func g) #[] #[])),(7,ints l.length),(8,ints i)],[]⟩) (λi=>i<=l.length/\∀j,j<i->∀x,l[j]?=some x->p x=false) (λi=>l.length-i) 0 ⟨d0k _,λ_ h=>absurd h (Nat.not_lt_zero _)⟩ (by repeat first|refine uA ?_|refine⟨rfl,?_⟩|rfl|simp) ?_
 rintro i ⟨P,E⟩;simp only[frs,ints];refine uV rfl ?_;apply uJ rfl<;>intro K
 ·have A:i<l.length:=by omega
  have u:=d0b A;generalize l[i]=x at u;have H:=J x (d0g u);simp only[Fr.c,Fr.enc,sb]at H;(repeat first|refine uA ?_|simp(disch:=omega) only[go_sem,Nat.reduceAdd,u,d0e,d0d,Fr.enc,sb,d0h,D]|refine uD H (tz I) rfl ?_);apply S.cond rfl<;>intro B
  ·rw[a2e u B E];exact uT rfl rfl rfl
  ·(repeat first|refine uA ?_|simp(disch:=omega) only[go_sem]);refine S.next (i+1) ⟨by omega,λj N y F=>?_⟩ (by omega) (by repeat first|refine uA ?_|refine⟨rfl,?_⟩|rfl|simp)
   rcases d0B j i with G|G
   ·exact E j G y F
   ·have:j=i:=by omega
    subst this;rw[u]at F;cases F;exact B
 ·have A:i=l.length:=by omega
  subst A;rw[a1l E];exact uT rfl rfl rfl
def b8O(g:Nat)(u:callable Tryz.prog g=true)(p:Fr->Bool)(l:List Fr)(D:l.length<=1099511627776)(B:∀x∈l,FZ g [x.c] (.v (.bool (p x)))) :
  FZ 137 [frs l,.v (.func (.func g) #[] #[])] (.v (.bool (l.any p))):=by
 refine kW Tryz.func137 (by cbv) (by rfl) λw O A=>?_;have h:=b8V g u p l D B;have e:=a2A p l;generalize a1b p l=n at*;simp only[j4,TT,II,OA,MM];simp only[frs,ints]at*;(repeat first|refine uA ?_|simp(disch:=omega) only[go_sem,Nat.reduceAdd]|refine uD h (tz A) rfl ?_);rw[e];exact uS rfl rfl
set_option maxHeartbeats 8000000
def c4l{α:Type}(p:α->Bool)(a b c d e:α):[a,b,c,d,e].all p=(p a&&p b&&p c&&p d&&p e):=by simp[Bool.and_assoc]
def a7e{α:Type}(p:α->Bool)(a b c:α):[a,b,c].all p=(p a&&p b&&p c):=by simp[Bool.and_assoc]
def a5Q{α:Type}(p:α->Bool)(a b:α):[a,b].all p=(p a&&p b):=by simp
def Rbs.five{k:Nat}{a b c d e:Nm.Rt}(h:5<=k)(h1:Rb k a)(h2:Rb k b)(h3:Rb k c)(h4:Rb k d)(h5:Rb k e):Rbs k [a,b,c,d,e]:=⟨h,λx u=>by simp at u;rcases u with rfl|rfl|rfl|rfl|rfl<;>assumption⟩
def Rbs.three{k:Nat}{a b c:Nm.Rt}(h:3<=k)(h1:Rb k a)(h2:Rb k b)(h3:Rb k c):Rbs k [a,b,c]:=⟨h,λx u=>by simp at u;rcases u with rfl|rfl|rfl<;>assumption⟩
def Rbs.two{k:Nat}{a b:Nm.Rt}(h:2<=k)(h1:Rb k a)(h2:Rb k b):Rbs k [a,b]:=⟨h,λx u=>by simp at u;rcases u with rfl|rfl<;>assumption⟩
def c5A(l:Lk)(hl:Lb 1073741824 l):FZ 114 [l.c] (ints (a0Y l)):=by
 refine kW Tryz.func114 (by cbv) (by rfl) λw O I=>?_;obtain⟨length,H,E,B,D,u⟩:=l;obtain⟨Y,b2,Z,b4,W,R⟩:=hl;simp only at Y b2 Z b4 W R;have c1:=Y.mono (m:=17179869184) (by decide);have c2:=b2.mono (m:=17179869184) (by decide);have c3:=Z.mono (m:=17179869184) (by decide);have c4:=b4.mono (m:=17179869184) (by decide);have c5:=W.mono (m:=17179869184) (by decide);have J:=b0I _ (Rbs.five (by decide) c1 c2 c3 c4 c5);rw[c4l]at J;have K:=U4 length c1;have M:=P8 H E c2 c3;have N:=U4 B c4;have P:=U4 D c5;have hp:=a7n u R
 have hv:=λ(v:Vt) (h:v∈u)=>b0I _ (Rbs.two (by decide) ((R.2 v h).1.mono (m:=17179869184) (by decide)) ((R.2 v h).2.mono (m:=17179869184) (by decide)));have hn:=R.1;unfold a0Y;simp only;generalize(l7 length&&l7 H&&l7 E&&l7 B&&l7 D)=q at*;generalize F3 (Nm.d9 length)=n1 at*;generalize Nm.A9 (Nm.d9 H) (Nm.d9 E)=n2 at*;generalize F3 (Nm.d9 B)=n3 at*;generalize F3 (Nm.d9 D)=n4 at*;generalize a0f u 8=n5 at*;simp only[j4,TT,II,OA,OB,OC,MM,LL,VV,FF,LG,FG];simp only[Lk.c,Lk.enc,rc,rts,rcs,vts,sb,ints,d0l,d0p]at*
 (repeat first|refine uG K ?_|refine uG M ?_|refine uG J ?_|refine uA ?_|(apply uK;· first|omega|(intros;simp_all<;>omega))|simp(disch:=omega) only[go_sem,Nat.reduceAdd]|refine uD K (tz I) rfl ?_|refine uD M (tz I) rfl ?_|(refine uE J ?_ ?_ ?_ ?_;exact tz I;exact rfl;focus (repeat' first|exact j3.nil|exact Imp.refl rfl|exact Imp.frz rfl rfl rfl|(refine Imp.O0 rfl rfl ?_ ?_;(focus ((try simp only[d0c]);omega));(focus first|rfl|assumption))|refine j3.cons ?_ ?_);done));apply S.cond rfl<;>intro A
 ·rw[if_pos (by simp only[d0R,Bool.not_eq_true',d0t]at A;rcases A with(A|A)|A<;>simp[A])];exact uT rfl rfl rfl
 rw[if_neg (by simp only[d0F,Bool.not_eq_false',d0x]at A;simp[A])];(repeat first|refine uG N ?_|refine uG P ?_|refine uA ?_|(apply uK;· first|omega|(intros;simp_all<;>omega))|simp(disch:=omega) only[go_sem,Nat.reduceAdd]|refine uD N (tz I) rfl ?_|refine uD P (tz I) rfl ?_);apply S.cond rfl<;>intro A
 ·rw[if_pos (by simp only[d0R,d0t]at A;exact A)];exact uT rfl rfl rfl
 rw[if_neg (by simp only[d0F,d0x]at A;simp[A])];(repeat first|refine uG hp ?_|refine uA ?_|(apply uK;· first|omega|(intros;simp_all<;>omega))|simp(disch:=omega) only[go_sem,Nat.reduceAdd]|refine uD hp (tz I) rfl ?_);apply S.cond rfl<;>intro A
 ·rw[if_pos (by simpa using A)];exact uT rfl rfl rfl
 rw[if_neg (by simpa using A)];(repeat first|refine uA ?_|simp(disch:=omega) only[go_sem,Nat.reduceAdd,d0d]);refine S.loop (X:=Nat) (λi=>⟨[(50,vts u),(51,ints u.length),(52,ints i)],[]⟩) (λi=>i<=u.length/\(u.all λv=>l7 v.x&&l7 v.y)=(u.drop i).all λv=>l7 v.x&&l7 v.y) (λi=>u.length-i) 0 ⟨d0k _,rfl⟩ (by repeat first|refine uA ?_|refine⟨rfl,?_⟩|rfl|simp) ?_
 rintro i ⟨hi,T⟩;simp only[vts,ints];refine uV rfl ?_;apply uJ rfl<;>intro A
 ·have V:i<u.length:=by omega
  have F:=d0b V;generalize u[i]=x at F;have hd:=drop_at F;have U:=hv x (d0g F);rw[a5Q]at U;(repeat first|refine uG U ?_|refine uA ?_|(apply uK;· first|omega|(intros;simp_all<;>omega))|simp(disch:=omega) only[go_sem,Nat.reduceAdd,F,d0e,d0d,Vt.enc,sb]|(refine uE U ?_ ?_ ?_ ?_;exact tz I;exact rfl;focus (repeat' first|exact j3.nil|exact Imp.refl rfl|exact Imp.frz rfl rfl rfl|(refine Imp.O0 rfl rfl ?_ ?_;(focus ((try simp only[d0c,F,d0e,d0d,Vt.enc,sb]);omega));(focus first|rfl|assumption))|refine j3.cons ?_ ?_);done));apply S.cond rfl<;>intro G
  ·have:(u.all λv=>l7 v.x&&l7 v.y)=false:=by
    rw[T,hd,List.all_cons];simp only[Bool.not_eq_true']at G;rw[G];rfl
   rw[this];exact uT rfl rfl rfl
  ·(repeat first|refine uA ?_|simp(disch:=omega) only[go_sem]);refine S.next (i+1) ⟨by omega,?_⟩ (by omega) (by repeat first|refine uA ?_|refine⟨rfl,?_⟩|rfl|simp)
   rw[T,hd,List.all_cons];simp only[Bool.not_eq_false']at G;rw[G];rfl
 ·have:(u.all λv=>l7 v.x&&l7 v.y)=true:=by rw[T,List.drop_eq_nil_of_le (by omega)];rfl
  rw[this];exact uT rfl rfl rfl
def a6D(a:Am)(hl:Ab 1073741824 a):FZ 71 [a.c] (ints (J2 a)):=by
 refine kW Tryz.func71 (by cbv) (by rfl) λw O I=>?_;obtain⟨G,⟨x,y,E,t⟩,u⟩:=a;obtain⟨b0,⟨T,V,U⟩,Y,R⟩:=hl;simp only at b0 T V U Y R;have c1:=T.mono (m:=17179869184) (by decide);have c2:=V.mono (m:=17179869184) (by decide);have W:=U.mono (m:=17179869184) (by decide);have J:=c3V G (by omega);have D:=b0I _ (Rbs.three (by decide) c1 c2 W);rw[a7e]at D;have F:=U4 t W;unfold J2 a4X;simp only;generalize a1G G=q0 at*;generalize(l7 x&&l7 y&&l7 t)=q at*;generalize F3 (Nm.d9 t)=n1 at*;simp only[j4];simp only[Am.c,Am.enc,rc,rts,rcs,lks,sb,ints,d0l,d0p]at*
 (repeat first|refine uF J ?_|refine uA ?_|(apply uK;· first|omega|(intros;simp_all<;>omega))|simp(disch:=omega) only[go_sem,Nat.reduceAdd]|refine uB J rfl ?_);apply S.cond rfl<;>intro A
 ·rw[if_pos (by simpa using A)];exact uT rfl rfl rfl
 rw[if_neg (by simpa using A)];(repeat first|refine uA ?_|simp(disch:=omega) only[go_sem,Nat.reduceAdd,d0d]);apply S.cond rfl<;>intro A
 ·rw[if_pos (by simp only[d0t]at A;omega)];exact uT rfl rfl rfl
 rw[if_neg (by simp only[d0x]at A;omega)];by_cases Z:u.length=0
 ·rw[if_pos (.inl Z)];have e0:decide ((u.length:Int)=0)=true:=decide_eq_true (by omega);(repeat first|refine uG F ?_|refine uG D ?_|refine uA ?_|(apply uK;· first|omega|(intros;simp_all<;>omega))|simp(disch:=omega) only[go_sem,Nat.reduceAdd,d0d,e0]|refine uD F (tz I) rfl ?_|(refine uE D ?_ ?_ ?_ ?_;exact tz I;exact rfl;focus (repeat' first|exact j3.nil|exact Imp.refl rfl|exact Imp.frz rfl rfl rfl|(refine Imp.O0 rfl rfl ?_ ?_;(focus ((try simp only[d0c,d0d,e0]);omega));(focus first|rfl|assumption))|refine j3.cons ?_ ?_);done));refine S.cond rfl (λ_=>?_) (λA=>by simp at A);exact uT rfl rfl rfl
 have e0:decide ((u.length:Int)=0)=false:=decide_eq_false (by omega);(repeat first|refine uG F ?_|refine uG D ?_|refine uA ?_|(apply uK;· first|omega|(intros;simp_all<;>omega))|simp(disch:=omega) only[go_sem,Nat.reduceAdd,d0d,e0]|refine uD F (tz I) rfl ?_|(refine uE D ?_ ?_ ?_ ?_;exact tz I;exact rfl;focus (repeat' first|exact j3.nil|exact Imp.refl rfl|exact Imp.frz rfl rfl rfl|(refine Imp.O0 rfl rfl ?_ ?_;(focus ((try simp only[d0c,d0d,e0]);omega));(focus first|rfl|assumption))|refine j3.cons ?_ ?_);done));apply S.cond rfl<;>intro A
 ·rw[if_pos (by simp only[d0R,Bool.not_eq_true']at A;rcases A with A|A;(· exact .inr (.inl A));(· exact .inr (.inr (by cases E<;>simp_all))))];exact uT rfl rfl rfl
 rw[if_neg (by simp only[d0F,Bool.not_eq_false']at A;rintro(h|h|h);(· omega);(· simp_all);(· cases E<;>simp_all))];(repeat first|refine uA ?_|simp(disch:=omega) only[go_sem,Nat.reduceAdd,d0d]);refine S.loop (X:=Nat) (λi=>⟨[(48,lks u),(49,ints u.length),(50,ints i)],[]⟩) (λi=>i<=u.length/\G7 a0Y u=G7 a0Y (u.drop i)) (λi=>u.length-i) 0 ⟨d0k _,rfl⟩ (by repeat first|refine uA ?_|refine⟨rfl,?_⟩|rfl|simp) ?_
 rintro i ⟨hi,M⟩;simp only[lks,ints];refine uV rfl ?_;apply uJ rfl<;>intro A
 ·have N:i<u.length:=by omega
  have B:=d0b N;generalize u[i]=x at B;have P:=a0s (f:=a0Y) B;have K:=a0r (f:=a0Y) B;have F:=c5A x (R x (d0g B));generalize a0Y x=e at*;simp only[Lk.c,Lk.enc,vts,sb,ints]at F;(repeat first|refine uG F ?_|refine uA ?_|(apply uK;· first|omega|(intros;simp_all<;>omega))|simp(disch:=omega) only[go_sem,Nat.reduceAdd,B,d0e,d0d,Lk.enc,vts,sb]|refine uD F (tz I) rfl ?_);apply S.cond rfl<;>intro H
  ·rw[M,P (by simpa using H)];exact uT rfl rfl rfl
  ·(repeat first|refine uA ?_|simp(disch:=omega) only[go_sem]);refine S.next (i+1) ⟨by omega,?_⟩ (by omega) (by repeat first|refine uA ?_|refine⟨rfl,?_⟩|rfl|simp)
   rw[M,K (by simpa using H)]
 ·rw[M,a0N (by omega)];exact uT rfl rfl rfl
def c0i(v:Vt)(G:Vb 17179869184 v):FZ 270 [v.c] (.v (.bool (!okV v))):=by
 refine kW Tryz.func270 (by cbv) (by rfl) λw O h=>?_;obtain⟨x,y⟩:=v;obtain⟨A,E⟩:=G;simp only at A E;have J:=a0S x (A.m rfl);have I:=a0S y (E.m rfl);have H:=a4C x A;have K:=a4C y E;unfold okV;simp only;generalize decide x.I4=D at*;generalize decide y.I4=u at*;generalize l7 x=F at*;generalize l7 y=B at*;simp only[j4,TT,OA,OC,MM,LL,FF,LG,FG];simp only[Vt.c,Vt.enc,rc,sb]at*;(repeat first|refine uA ?_|simp(disch:=omega) only[go_sem,Nat.reduceAdd]|refine uD J (tz h) rfl ?_|refine uD I (tz h) rfl ?_|refine uD H (tz h) rfl ?_|refine uD K (tz h) rfl ?_)
 have e:(!(D&&u&&F&&B))=(!D || !u || !F || !B):=by cases D<;>cases u<;>cases F<;>cases B<;>rfl
 (try rw[e])
 exact uS rfl rfl
def b0F(l:List Vt)(u:Vbs 17179869184 l):FZ 228 [vts l] (.v (.bool (l.all okV))):=by
 refine kW Tryz.func228 (by cbv) (by rfl) λw O A=>?_;have h:=b4K 270 (by kernel_rfl) (λv=>!okV v) l (by have:=u.1;omega) (λv B=>c0i v (u.2 v B));have e:l.all okV=!l.any λv=>!okV v:=by rw[List.not_any_eq_all_not];simp
 rw[e];generalize(l.any λv=>!okV v)=q at*;simp only[j4,TT,OA,MM];simp only[vts]at*;(repeat first|refine uA ?_|simp(disch:=omega) only[go_sem]|refine uD h (tz A) rfl ?_);exact uS rfl rfl
def Vbs.one{k:Nat}{v:Vt}(h:1<=k)(h1:Vb k v):Vbs k [v]:=⟨h,λx u=>by simp at u;subst u;exact h1⟩
def Vbs.two{k:Nat}{v u:Vt}(h:2<=k)(h1:Vb k v)(h2:Vb k u):Vbs k [v,u]:=⟨h,λx A=>by simp at A;rcases A with rfl|rfl<;>assumption⟩
def b6H(f:Fr)(M:Fb 17179869184 f):FZ 229 [f.c] (.v (.bool (okF f))):=by
 refine kW Tryz.func229 (by cbv) (by rfl) λw O u=>?_;obtain⟨x,y,h,t⟩:=f;obtain⟨G,H,A⟩:=M;simp only at G H A;have F:=b0F [⟨x,y⟩] (Vbs.one (by decide) ⟨G,H⟩);rw[List.all_cons,List.all_nil,Bool.and_true]at F;have J:=a0S t (A.m rfl);have I:=a4C t A;have K:=U4 t A;unfold okF a4X;simp only;generalize okV ⟨x,y⟩=E at*;generalize decide t.I4=B at*;generalize l7 t=D at*;generalize F3 (Nm.d9 t)=n at*;simp only[j4,TT,II,OA,OC,MM,LL,FF,MG,LG,VG,FG];simp only[Fr.c,Fr.enc,vts,Vt.enc,rc,sb,ints,d0l,d0p]at*
 (repeat first|refine uA ?_|(apply uK;· first|omega|(intros;simp_all<;>omega))|simp(disch:=omega) only[go_sem,Nat.reduceAdd]|refine uD J (tz u) rfl ?_|refine uD I (tz u) rfl ?_|refine uD K (tz u) rfl ?_|(refine uE F ?_ ?_ ?_ ?_;exact tz u;exact rfl;focus (repeat' first|exact j3.nil|exact Imp.refl rfl|exact Imp.frz rfl rfl rfl|(refine Imp.O0 rfl rfl ?_ ?_;(focus ((try simp only[d0c]);omega));(focus first|rfl|assumption))|refine j3.cons ?_ ?_);done));have e:(E&&B&&D && !(h && !decide (n=0)))=(E&&B&&D&&(!h||decide (n=0))):=by cases E<;>cases B<;>cases D<;>cases h<;>simp
 rw[e];exact S.done (H6.out rfl (Imp.refl (by rfl)) rfl)
def b6r(l:List Vt)(u:Vbs 1073741824 l):FZ 175 [vts l] (ints (U3 l)):=by
 refine kW Tryz.func175 (by cbv) (by rfl) λw O A=>?_;have E:=a7n l u;have D:=b0F l ⟨by have:=u.1;omega,λv B=>(u.2 v B).m rfl⟩;unfold U3;generalize a0f l 8=e at*;generalize l.all okV=q at*;simp only[j4,TT,II,OA,MM];simp only[vts,ints]at*;(repeat first|refine uA ?_|simp(disch:=omega) only[go_sem]|refine uD E (tz A) rfl ?_);apply S.cond rfl<;>intro h
 ·rw[if_pos (by simpa using h)];exact uT rfl rfl rfl
 rw[if_neg (by simpa using h)];(repeat first|refine uA ?_|simp(disch:=omega) only[go_sem]|refine uD D (tz A) rfl ?_);apply S.cond rfl<;>intro h
 ·rw[if_neg (by simpa using h)];exact uT rfl rfl rfl
 ·rw[if_pos (by simpa using h)];exact uT rfl rfl rfl
end Go.Proofs.YtfkipfnkpeobjaaGreatDoor
namespace Go.Proofs.YtfkipfnkpeobjaaGreatDoor.Eng
open Go Go.RowKit
def l5.ofT{E:Ctx}{eff:Nat->Bool}{f:Nat}{N:Func}{D:a3N}(I:Tz E)(hf:E.P.funcs[f]?=some N)(R:a0D eff E.P N=some D){rs:List Res}{u:List C}{s:C}{rs':List Res}{pk:List Nat}(hn:u.length<=D.ntmps)
  (h:∀w own av ν,ν.length=rs.length->Tz ⟨E.P,eff,D.ntmps,w,own,av,ν,pk⟩->S ⟨E.P,eff,D.ntmps,w,own,av,ν,pk⟩ (Fin E.P D.results (b0O ⟨E.P,eff,D.ntmps,w,own,av,ν,pk⟩ rs' s)) ⟨j4 0 u,rs⟩ [.code D.body]):l5 E rs f u s rs' pk:=by
 intro av ν w vs A Z T X;have M:RG av (owned rs ν) w.heap.size ν rs w:=⟨A.len,A.res,A.dis,λb F=>⟨(A.low b F).1,(A.low b F).2.1,.inl F⟩,A.av,d0m _⟩
 have J:Tz ⟨E.P,eff,D.ntmps,w,owned rs ν,av,ν,pk⟩:=⟨I.at T,λV=>by
  rcases(A.low _ V).2.2 with B|B
  ·exact I.2 B
  ·have:=c4F I.1;omega⟩
 refine(b4H (E:=⟨E.P,eff,D.ntmps,w,owned rs ν,av,ν,pk⟩) hf R rfl rfl A.av rs M u X hn (h w (owned rs ν) av ν A.len J)).mono ?_;rintro e w' ⟨y,rfl,K,B,G,W,O⟩;refine⟨y,K,rfl,⟨B.len,B.res,B.dis,λb F=>?_,B.av,d0f A.n0 G.size⟩,⟨G.os,G.tape,G.output,G.size,G.block,λb F=>(B.low b F).2.2,W⟩,O⟩;obtain⟨U,Y,H⟩:=B.low b F;refine⟨U,Y,?_⟩;rcases H with H|H
 ·exact(A.low b H).2.2
 ·exact .inr (d0f A.n0 H)
def Res.shut:Res->Bool
 | .gone=>false
 | .box _ cs=>C.clL cs
 | .row _ _ _=>true
 | .map _ _=>true
 | .fb _ _=>true
def a5O{ν u:List Value}{w:World}{O O':Nat->Prop}{x:Value}{r:Res}(A:r.shut=true)(B:∀b,O' b->O b)(h:N8 ν w O x r):N8 u w O' x r:=by
 cases r with
 | gone=>cases A
 | box t cs=>
  obtain⟨b,vs,F,E,D,G⟩:=h;exact⟨b,vs,F,(FzL.keep (Keeps.sub B) (E.fz A)).den u,D,G⟩
 | row e sz es=>exact a4F B h
 | map s es=>exact h
 | fb e bs=>exact h
def c6t{r r':Res}(A:r.shut=true)(u:r'.shut=true){x:Value}{b:Nat}(h:fp r' x b):fp r x b:=by
 cases r<;>cases r'<;>first|exact False.elim h|exact h|(simp[Res.shut]at A;done)|(simp[Res.shut]at u;done)
def at0(k:Nat):C->C
 | .mp 0=>.mp k
 | .bp 0 o=>.bp k o
 | .rv 0=>.rv k
 | .bnd f (.mp 0)=>.bnd f (.mp k)
 | c=>c
def okA:C->Bool
 | .mp 0=>true
 | .bp 0 _=>true
 | .rv 0=>true
 | .bnd _ (.mp 0)=>true
 | c=>c.cl
def c6y{ν:List Value}{w:World}{O O':Nat->Prop}{k:Nat}{x:Value}(u:ν[k]?=some x)(G:∀b,O' b->O b){c:C}{y:Value}(A:okA c=true)(h:Den ν w O (at0 k c) y):Den [x] w O' c y:=by
 unfold okA at A;split at A
 ·simp only[at0,Den]at h ⊢;rw[u]at h;exact h
 ·simp only[at0,Den]at h ⊢;rw[u]at h;exact h
 ·simp only[at0,Den]at h ⊢;rw[u]at h;exact h
 ·simp only[at0,Den]at h ⊢;rw[u]at h;exact h
 ·rename_i c0 E D B F;have e:at0 k c=c:=by
   cases c with
   | mp j=>cases j with
    | zero=>exact(E rfl).elim
    | succ j=>rfl
   | bp j o=>cases j with
    | zero=>exact(D _ rfl).elim
    | succ j=>rfl
   | rv j=>cases j with
    | zero=>exact(B rfl).elim
    | succ j=>rfl
   | bnd g d=>cases d with
    | mp j=>cases j with
     | zero=>exact(F _ rfl).elim
     | succ j=>rfl
    | _=>rfl
   | _=>rfl
  rw[e]at h;exact(Fz.keep (Keeps.sub G) (h.fz A)).den _
theorem b6p{ν:List Value}{w:World}{O O':Nat->Prop}{k:Nat}{x:Value}(u:ν[k]?=some x)(A:∀b,O' b->O b):∀{cs:List C} {vs:List Value},cs.all okA=true->l6 ν w O (cs.map (at0 k)) vs->l6 [x] w O' cs vs
 | [],vs,_,h=>by simpa only[d0p,l6] using h
 | c::cs,vs,hc,h=>by
  simp only[d0l,l6,List.all_cons,d0s]at h hc ⊢;obtain⟨y,ys,e,h1,h2⟩:=h;exact⟨y,ys,e,c6y u A hc.1 h1,b6p u A hc.2 h2⟩
def l5.lift{E:Ctx}{rs:List Res}{k f:Nat}{A:List C}{s:C}{r r':Res}(U:rs[k]?=some r)(h:l5 E [r] f A s [r'] [])(Y:(r.shut&&r'.shut)=true)(ha:A.all okA=true)(hc:s.cl=true):l5 E rs f (A.map (at0 k)) s (rs.set k r') []:=by
 rw[d0s]at Y;intro av ν w vs H X hF hD;obtain⟨x,O,ac⟩:=H.res k r U;have B:∀b,fp r x b->owned rs ν b:=λb u=>⟨k,r,x,U,O,u⟩
 have G:∀(q:Res) b,owned [q] [x] b <-> fp q x b:=λq b=>by
  constructor
  ·rintro⟨l,q',y,D,F,h3⟩;cases l with
   | zero=>simp at D F;subst D F;exact h3
   | succ l=>simp at D
  ·exact λu=>⟨0,q,x,rfl,rfl,u⟩
 let av':Nat->Prop:=λb=>OO av rs ν b/\¬fp r x b
 have P:∀b,OO av' [r] [x] b->OO av rs ν b:=λb u=>by
  rcases u with u|u
  ·exact u.1
  ·exact .inr (B b ((G r b).1 u))
 have ae:RG av' E.own0 E.w0.heap.size [x] [r] w:=by
  refine⟨rfl,λl q I=>?_,λl m q q' y y' b ah D F=>?_,λb u=>?_,λb u=>?_,H.n0⟩
  ·cases l with
   | zero=>simp at I;subst I;exact⟨x,rfl,a5O Y.1 P ac⟩
   | succ l=>simp at I
  ·have e1:l=0:=by have:=(d0i.1 D).1;simp at this;exact this
   have e2:m=0:=by have:=(d0i.1 F).1;simp at this;exact this
   omega
  ·have N:=(G r b).1 u;obtain⟨g1,g2,g3⟩:=H.low b (B b N);exact⟨g1,λh=>h.2 N,g3⟩
  ·rcases u.1 with D|D
   ·exact H.av b D
   ·exact(H.low b D).1
 have M:∀b,E.av b->av' b:=λb u=>⟨.inl (X b u),λK=>(H.low b (B b K)).2.1 (X b u)⟩
 have ab:l6 [x] w (OO av' [r] [x]) A vs:=b6p O P ha hD;refine(h av' [x] w vs ae M hF ab).mono ?_;rintro e w' ⟨y,V,rfl,D,F,h3⟩;have af:V=[x]:=by
  have hl:=D.len;have h0:=F.nu 0 x (λhm=>by cases hm) rfl
  match V,hl,h0 with
  | [z],_,h0=>simp at h0;rw[h0]
 subst af;have hT:Turned w w' (fp r x):=⟨F.os,F.tape,F.output,F.size,λb u hn=>F.block b u λho=>hn ((G r b).1 ho)⟩
 have J:∀b,OO av (rs.set k r') ν b->OO av' [r'] [x] b:=λb u=>by
  rcases u with u|⟨l,q,z,I,Z,K⟩
  ·exact .inl ⟨.inl u,λK=>(H.low b (B b K)).2.1 u⟩
  ·by_cases e:k=l
   ·subst e;have ag:=(d0i.1 U).1;rw[List.getElem?_set_self ag]at I;rw[O]at Z;cases I;cases Z;exact .inr ((G r' b).2 K)
   ·rw[List.getElem?_set_ne e]at I;exact .inl ⟨.inr ⟨l,q,z,I,Z,K⟩,λaa=>H.dis k l r q x z b e U I O Z aa K⟩
 have T:=H.upd (r':=r') U O hT (λb u=>c6t Y.1 Y.2 u) (λ_=>by
  obtain⟨x',R,W⟩:=D.res 0 r' rfl;simp at R;subst R;exact a5O Y.2 J W)
 exact⟨y,ν,rfl,T.1,T.2,(Fz.keep (Keeps.sub J) (h3.fz hc)).den ν⟩
def Res.bdr(n:Nat):Res->Bool
 | .box _ cs=>C.bdL n cs
 | _=>true
def c0s{ν:List Value}{w:World}{O O':Nat->Prop}{x:Value}{r:Res}{n:Nat}(D:r.bdr n=true)(u:∀b,O' b->O b)(h:N8 ν w O x r):N8 (ν.take n) w O' x r:=by
 cases r with
 | gone=>exact h
 | box t cs=>
  obtain⟨b,vs,E,B,A,F⟩:=h;exact⟨b,vs,E,l6.keep (Keeps.sub u) (l6.takeν n D B),A,F⟩
 | row e sz es=>exact a4F u h
 | map s es=>exact h
 | fb e bs=>exact h
def c4M{ν u:List Value}{w:World}{O O':Nat->Prop}{x:Value}{r:Res}(G:a0t [] ν u)(A:∀b,O' b->O b)(h:N8 ν w O x r):N8 u w O' x r:=by
 cases r with
 | gone=>exact h
 | box t cs=>
  obtain⟨b,vs,E,D,B,H⟩:=h;exact⟨b,vs,E,l6.keep (Keeps.sub A) (l6.nu G (λk F=>by cases F) D),B,H⟩
 | row e sz es=>exact a4F A h
 | map s es=>exact h
 | fb e bs=>exact h
theorem a0t.take(ν:List Value)(n:Nat):a0t [] (ν.take n) ν:=λ_ _ _ h=>a0G h
def c9p{ν u:List Value}(h:a0t [] ν u)(D:u.length=ν.length):u=ν:=by
 apply List.ext_getElem?;intro i;rcases d0B i ν.length with A|A
 ·have:=h i _ (λB=>by cases B) (d0b A);rw[this,d0b A]
 ·rw[d0J A,d0J (by omega)]
def a5n{rs ext:List Res}{ν:List Value}(D:ν.length=(rs++ext).length)(b:Nat):owned (rs++ext) ν b <-> owned rs (ν.take rs.length) b\/∃k r x,ext[k]?=some r/\ν[rs.length+k]?=some x/\fp r x b:=by
 constructor
 ·rintro⟨k,r,x,u,B,A⟩;rcases d0B k rs.length with h|h
  ·rw[d0v h]at u;exact .inl ⟨k,r,x,u,O6 h B,A⟩
  ·rw[d0D h]at u;exact .inr ⟨k-rs.length,r,x,u,by rw[show rs.length+(k-rs.length)=k by omega];exact B,A⟩
 ·rintro(⟨k,r,x,u,B,A⟩|⟨k,r,x,u,B,A⟩)
  ·have h:=(d0i.1 u).1;exact⟨k,r,x,by rw[d0v h];exact u,a0G B,A⟩
  ·exact⟨rs.length+k,r,x,by rw[d0D (by omega),show rs.length+k-rs.length=k by omega];exact u,B,A⟩
def l5.ext{E:Ctx}{rs rs':List Res}(ex:List Res){f:Nat}{R:List C}{s:C}(h:l5 E rs f R s rs' [])(hl:rs'.length=rs.length)(u:rs.all (Res.bdr rs.length)=true)(ha:C.bdL rs.length R=true):l5 E (rs++ex) f R s (rs'++ex) []:=by
 intro av ν w vs O an hF hD;have X:=O.len;have ag:(ν.take rs.length).length=rs.length:=by rw[d0r,X,d0c];omega
 generalize A:ν.take rs.length=I at ag;have F:=λb=>a5n X b;rw[A]at F;have hx:∀b k r x,ex[k]?=some r->ν[rs.length+k]?=some x->fp r x b->¬owned rs I b:=by
  rintro b k r x U K h3 ⟨l,q,y,B,D,M⟩;have V:=(d0i.1 B).1;rw[<- A]at D;exact O.dis l (rs.length+k) q r y x b (by omega) (by rw[d0v V];exact B) (by rw[d0D (by omega),show rs.length+k-rs.length=k by omega];exact U) (a0G D) K M h3
 let av':Nat->Prop:=λb=>OO av (rs++ex) ν b/\¬owned rs I b
 have ai:∀b,OO av' rs I b->OO av (rs++ex) ν b:=λb u=>by
  rcases u with u|u
  ·exact u.1
  ·exact .inr ((F b).2 (.inl u))
 have ao:RG av' E.own0 E.w0.heap.size I rs w:=by
  refine⟨ag,λk r T=>?_,λl m q q' y y' b ac U K h3 h4=>?_,λb u=>?_,λb u=>?_,O.n0⟩
  ·have V:=(d0i.1 T).1;obtain⟨x,hx,Y⟩:=O.res k r (by rw[d0v V];exact T);refine⟨x,by rw[<- A];exact O6 V hx,?_⟩;rw[<- A];rw[List.all_eq_true]at u;exact c0s (u r (d0g T)) (by rw[A];exact ai) Y
  ·have B:=(d0i.1 U).1;have D:=(d0i.1 K).1;rw[<- A]at h3 h4;exact O.dis l m q q' y y' b ac (by rw[d0v B];exact U) (by rw[d0v D];exact K) (a0G h3) (a0G h4)
  ·obtain⟨B,D,M⟩:=O.low b ((F b).2 (.inl u));exact⟨B,λh=>h.2 u,M⟩
  ·rcases u.1 with U|U
   ·exact O.av b U
   ·exact(O.low b U).1
 have W:∀b,av b->¬owned rs I b:=λb u ho=>(O.low b ((F b).2 (.inl ho))).2.1 u;have ap:l6 I w (OO av' rs I) R vs:=by
  have:=l6.keep (Keeps.sub ai) (l6.takeν rs.length ha hD);rwa[A]at this
 refine(h av' I w vs ao (λb u=>⟨.inl (an b u),W b (an b u)⟩) hF ap).mono ?_;rintro e w' ⟨y,N,rfl,U,K,h3⟩;have ah:N=I:=c9p K.nu (by rw[U.len,hl,ag]);subst ah;have ab:ν.length=(rs'++ex).length:=by rw[X,d0c,d0c,hl]
 have H:ν.take rs'.length=N:=by rw[hl];exact A
 have J:=λb=>a5n ab b;rw[H,hl]at J;have af:a0t [] N ν:=by rw[<- A];exact a0t.take ν _
 have aa:∀b k r x,ex[k]?=some r->ν[rs.length+k]?=some x->fp r x b->owned (rs++ex) ν b:=λb k r x B D M=>(F b).2 (.inr ⟨k,r,x,B,D,M⟩);have ae:∀b,OO av (rs'++ex) ν b->OO av' rs' N b:=λb u=>by
  rcases u with u|u
  ·exact .inl ⟨.inl u,W b u⟩
  ·rcases(J b).1 u with u|⟨k,r,x,B,D,M⟩
   ·exact .inr u
   ·exact .inl ⟨.inr (aa b k r x B D M),hx b k r x B D M⟩
 have hM:Mv (rs++ex) ν w [] (rs'++ex) ν w':=by
  refine⟨K.os,K.tape,K.output,K.size,λb u hn=>K.block b u λho=>hn ((F b).2 (.inl ho)),λb u=>?_,λ_ _ _ h=>h⟩;rcases(J b).1 u with u|⟨k,r,x,B,D,M⟩
  ·rcases K.own b u with g|g
   ·exact .inl ((F b).2 (.inl g))
   ·exact .inr g
  ·exact .inl (aa b k r x B D M)
 refine⟨y,ν,rfl,⟨ab,λk r T=>?_,λl m q q' z z' b ac B D M g4 g5=>?_,λb u=>?_,λb u=>d0E (O.av b u) K.size,d0f O.n0 K.size⟩,hM,Den.keep (Keeps.sub ae) (Den.nu af (λk T=>by cases T) h3)⟩
 ·rcases d0B k rs'.length with V|am
  ·rw[d0v V]at T;obtain⟨x,Z,Y⟩:=U.res k r T;exact⟨x,af k x (λT=>by cases T) Z,c4M af ae Y⟩
  ·have aj:(rs++ex)[k]?=some r:=by
    rw[d0D am]at T;rw[d0D (by omega),<- hl];exact T
   obtain⟨x,Z,Y⟩:=O.res k r aj;refine⟨x,Z,?_⟩;have:=Y.mv (O':=OO av (rs'++ex) ν) (hM.keeps (av:=av)) hM.nu (λb hf=>K.block b (O.lt aj Z hf) (by
    rw[d0D am]at T;exact hx b (k-rs'.length) r x T (by rw[show rs.length+(k-rs'.length)=k by omega];exact Z) hf))
   rwa[a3T]at this
 ·rcases d0B l rs'.length with G|G<;>rcases d0B m rs'.length with P|P
  ·rw[d0v G]at B;rw[d0v P]at D;have e1:N[l]?=some z:=by rw[<- H];exact O6 G M
   have e2:N[m]?=some z':=by rw[<- H];exact O6 P g4
   exact U.dis l m q q' z z' b ac B D e1 e2 g5
  ·rw[d0v G]at B;rw[d0D P]at D;have e1:N[l]?=some z:=by rw[<- H];exact O6 G M
   have al:ν[rs.length+(m-rs'.length)]?=some z':=by rw[show rs.length+(m-rs'.length)=m by omega];exact g4
   intro hf;rcases K.own b ⟨l,q,z,B,e1,g5⟩ with ho|ho
   ·exact hx b _ q' z' D al hf ho
   ·have:=(O.low b (aa b _ q' z' D al hf)).1;omega
  ·rw[d0D G]at B;rw[d0v P]at D;have e2:N[m]?=some z':=by rw[<- H];exact O6 P g4
   have ak:ν[rs.length+(l-rs'.length)]?=some z:=by rw[show rs.length+(l-rs'.length)=l by omega];exact M
   intro hf;rcases K.own b ⟨m,q',z',D,e2,hf⟩ with ho|ho
   ·exact hx b _ q z B ak g5 ho
   ·have:=(O.low b (aa b _ q z B ak g5)).1;omega
  ·rw[d0D G]at B;rw[d0D P]at D;exact O.dis l m q q' z z' b ac (by rw[d0D (by omega),<- hl];exact B) (by rw[d0D (by omega),<- hl];exact D) M g4 g5
 ·rcases(J b).1 u with u|⟨k,r,x,B,D,M⟩
  ·obtain⟨a1,a2,a3⟩:=U.low b u;exact⟨a1,λha=>a2 ⟨.inl ha,W b ha⟩,a3⟩
  ·obtain⟨a1,a2,a3⟩:=O.low b (aa b k r x B D M);exact⟨d0E a1 K.size,a2,a3⟩
def l5.b4L{E:Ctx}{rs rs':List Res}{pk:List Nat}(ex:List Res){f:Nat}{U:List C}{s:C}(h:l5 E rs f U s rs' pk)(hl:rs'.length=rs.length)(u:rs.all (Res.bdr rs.length)=true)(ha:C.bdL rs.length U=true):l5 E (rs++ex) f U s (rs'++ex.map (Res.y9 pk)) pk:=by
 intro av ν w vs R au hF hD;have Z:=R.len;have zs:(ν.take rs.length).length=rs.length:=by rw[d0r,Z,d0c];omega
 generalize B:ν.take rs.length=O at zs;have F:=λb=>a5n Z b;rw[B]at F;have W:∀b k r x,ex[k]?=some r->ν[rs.length+k]?=some x->fp r x b->¬owned rs O b:=by
  rintro b k r x V N h3 ⟨l,q,y,A,H,I⟩;have J:=(d0i.1 A).1;rw[<- B]at H;exact R.dis l (rs.length+k) q r y x b (by omega) (by rw[d0v J];exact A) (by rw[d0D (by omega),show rs.length+k-rs.length=k by omega];exact V) (a0G H) N I h3
 let av':Nat->Prop:=λb=>OO av (rs++ex) ν b/\¬owned rs O b
 have aq:∀b,OO av' rs O b->OO av (rs++ex) ν b:=λb u=>by
  rcases u with u|u
  ·exact u.1
  ·exact .inr ((F b).2 (.inl u))
 have aw:RG av' E.own0 E.w0.heap.size O rs w:=by
  refine⟨zs,λk r D=>?_,λl m q q' y y' b aj V N h3 h4=>?_,λb u=>?_,λb u=>?_,R.n0⟩
  ·have J:=(d0i.1 D).1;obtain⟨x,W,aa⟩:=R.res k r (by rw[d0v J];exact D);refine⟨x,by rw[<- B];exact O6 J W,?_⟩;rw[<- B];rw[List.all_eq_true]at u;exact c0s (u r (d0g D)) (by rw[B];exact aq) aa
  ·have A:=(d0i.1 V).1;have H:=(d0i.1 N).1;rw[<- B]at h3 h4;exact R.dis l m q q' y y' b aj (by rw[d0v A];exact V) (by rw[d0v H];exact N) (a0G h3) (a0G h4)
  ·obtain⟨A,H,I⟩:=R.low b ((F b).2 (.inl u));exact⟨A,λh=>h.2 u,I⟩
  ·rcases u.1 with V|V
   ·exact R.av b V
   ·exact(R.low b V).1
 have Y:∀b,av b->¬owned rs O b:=λb u ho=>(R.low b ((F b).2 (.inl ho))).2.1 u;have ay:l6 O w (OO av' rs O) U vs:=by
  have:=l6.keep (Keeps.sub aq) (l6.takeν rs.length ha hD);rwa[B]at this
 refine(h av' O w vs aw (λb u=>⟨.inl (au b u),Y b (au b u)⟩) hF ay).mono ?_;rintro e w' ⟨y,M,rfl,V,N,h3⟩;have al:M.length=rs.length:=by rw[V.len,hl]
 let ν2:List Value:=M++ν.drop rs.length
 have az:(ν.drop rs.length).length=ex.length:=by rw[d0L,Z,d0c];omega
 have ag:ν2.length=(rs'++ex.map (Res.y9 pk)).length:=by rw[d0c,d0c,al,az,hl,d0d]
 have tk:ν2.take rs'.length=M:=by rw[hl,<- al];simp[ν2]
 have tl:∀k,ν2[rs.length+k]?=ν[rs.length+k]?:=λk=>by
  show(M++ν.drop rs.length)[rs.length+k]?=_;rw[d0D (by omega),al,show rs.length+k-rs.length=k by omega,d0Q]
 have K:=λb=>a5n ag b;rw[tk,hl]at K;have am:a0t [] M ν2:=λk x _ W=>by show(M++_)[k]?=_;rw[d0v (d0i.1 W).1];exact W
 have ap:a0t pk ν ν2:=λk x D W=>by
  rcases d0B k rs.length with h0|h0
  ·show(M++_)[k]?=_;rw[d0v (by omega)];exact N.nu k x D (by rw[<- B];exact O6 h0 W)
  ·have:=tl (k-rs.length);rw[show rs.length+(k-rs.length)=k by omega]at this;rw[this];exact W
 have ac:∀b k r x,ex[k]?=some r->ν[rs.length+k]?=some x->fp r x b->owned (rs++ex) ν b:=λb k r x A H I=>(F b).2 (.inr ⟨k,r,x,A,H,I⟩);have ao:∀b,(∃k r x,(ex.map (Res.y9 pk))[k]?=some r/\ν2[rs.length+k]?=some x/\fp r x b)->∃k r x,ex[k]?=some r/\ν[rs.length+k]?=some x/\fp r x b:=by
  rintro b ⟨k,r,x,A,H,I⟩;rw[d0q]at A;cases D:ex[k]? with
  | none=>rw[D]at A;cases A
  | some r0=>
   rw[D]at A;simp only[d0e,Option.some.injEq]at A;subst A;rw[a0I]at I;exact⟨k,r0,x,D,by rw[<- tl];exact H,I⟩
 have ak:∀b,OO av (rs'++ex.map (Res.y9 pk)) ν2 b->OO av' rs' M b:=λb u=>by
  rcases u with u|u
  ·exact .inl ⟨.inl u,Y b u⟩
  ·rcases(K b).1 u with u|u
   ·exact .inr u
   ·obtain⟨k,r,x,A,H,I⟩:=ao b u;exact .inl ⟨.inr (ac b k r x A H I),W b k r x A H I⟩
 have hM:Mv (rs++ex) ν w pk (rs'++ex.map (Res.y9 pk)) ν2 w':=by
  refine⟨N.os,N.tape,N.output,N.size,λb u hn=>N.block b u λho=>hn ((F b).2 (.inl ho)),λb u=>?_,ap⟩;rcases(K b).1 u with u|u
  ·rcases N.own b u with g|g
   ·exact .inl ((F b).2 (.inl g))
   ·exact .inr g
  ·obtain⟨k,r,x,A,H,I⟩:=ao b u;exact .inl (ac b k r x A H I)
 have ah:∀{l q z},l<rs'.length->(rs'++ex.map (Res.y9 pk))[l]?=some q->ν2[l]?=some z->rs'[l]?=some q/\M[l]?=some z:=λJ G P=>by
  rw[d0v J]at G;exact⟨G,by rw[<- tk];exact O6 J P⟩
 have new:∀{l q z b},rs'.length<=l->(rs'++ex.map (Res.y9 pk))[l]?=some q->ν2[l]?=some z->fp q z b->∃X,ex[l-rs'.length]?=some X/\ν[rs.length+(l-rs'.length)]?=some z/\fp X z b:=λ{l q z b} an G P T=>by
  rw[d0D an,d0q]at G;cases D:ex[l-rs'.length]? with
  | none=>rw[D]at G;cases G
  | some X=>
   rw[D]at G;simp only[d0e,Option.some.injEq]at G;subst G;rw[a0I]at T;refine⟨X,rfl,?_,T⟩;rw[<- tl,show rs.length+(l-rs'.length)=l by omega];exact P
 refine⟨y,ν2,rfl,⟨ag,λk r D=>?_,λl m q q' z z' b aj A H I g4 g5 g6=>?_,λb u=>?_,λb u=>d0E (R.av b u) N.size,d0f R.n0 N.size⟩,hM,Den.keep (Keeps.sub ak) (Den.nu am (λk D=>by cases D) h3)⟩
 ·rcases d0B k rs'.length with J|an
  ·rw[d0v J]at D;obtain⟨x,ab,aa⟩:=V.res k r D;exact⟨x,am k x (λD=>by cases D) ab,c4M am ak aa⟩
  ·rw[d0D an,d0q]at D;cases ai:ex[k-rs'.length]? with
   | none=>rw[ai]at D;cases D
   | some r0=>
    rw[ai]at D;simp only[d0e,Option.some.injEq]at D;subst D;have ar:(rs++ex)[k]?=some r0:=by rw[d0D (by omega),<- hl];exact ai
    obtain⟨x,ab,aa⟩:=R.res k r0 ar;have ax:ν[rs.length+(k-rs'.length)]?=some x:=by rw[show rs.length+(k-rs'.length)=k by omega];exact ab
    refine⟨x,by have:=tl (k-rs'.length);rw[show rs.length+(k-rs'.length)=k by omega]at this;rw[this];exact ab,?_⟩;exact aa.mv (O':=OO av (rs'++ex.map (Res.y9 pk)) ν2) (hM.keeps (av:=av)) hM.nu (λb hf=>N.block b (R.lt ar ab hf) (W b (k-rs'.length) r0 x ai ax hf))
 ·rcases d0B l rs'.length with ae|ae<;>rcases d0B m rs'.length with af|af
  ·obtain⟨G,P⟩:=ah ae A I;obtain⟨T,a4⟩:=ah af H g4;exact V.dis l m q q' z z' b aj G T P a4 g5 g6
  ·obtain⟨G,P⟩:=ah ae A I;obtain⟨X,T,a4,a5⟩:=new af H g4 g6;rcases N.own b ⟨l,q,z,G,P,g5⟩ with ho|ho
   ·exact W b _ X z' T a4 a5 ho
   ·have:=(R.low b (ac b _ X z' T a4 a5)).1;omega
  ·obtain⟨X,G,P,a5⟩:=new ae A I g5;obtain⟨T,a4⟩:=ah af H g4;rcases N.own b ⟨m,q',z',T,a4,g6⟩ with ho|ho
   ·exact W b _ X z G P a5 ho
   ·have:=(R.low b (ac b _ X z G P a5)).1;omega
  ·obtain⟨X,G,P,a5⟩:=new ae A I g5;obtain⟨q1,T,a4,a6⟩:=new af H g4 g6;rw[show rs.length+(l-rs'.length)=l by omega]at P;rw[show rs.length+(m-rs'.length)=m by omega]at a4;exact R.dis l m X q1 z z' b aj (by rw[d0D (by omega),<- hl];exact G) (by rw[d0D (by omega),<- hl];exact T) P a4 a5 a6
 ·rcases(K b).1 u with u|u
  ·obtain⟨G,P,T⟩:=V.low b u;exact⟨G,λha=>P ⟨.inl ha,Y b ha⟩,T⟩
  ·obtain⟨k,r,x,A,H,I⟩:=ao b u;obtain⟨G,P,T⟩:=R.low b (ac b k r x A H I);exact⟨d0E G N.size,P,T⟩
def l5.quiet{P:Program}{f:Nat}{A:List C}{s J:C}{rs':List Res}(h:∀E:Ctx,E.P=P->l5 E [] f A s rs' [])(W:Imp rs' [] s J)(T:J.cl=true):p8 P f A J:=by
 intro O w vs R N;have B:∀b,¬owned [] [] b:=λb ⟨k,r,x,D,_⟩=>by simp at D
 have I:RG O (λ_=>False) w.heap.size [] [] w:=⟨rfl,λk r D=>by simp at D,λk l r Z x Y b _ D=>by simp at D,λb u=>(B b u).elim,R,d0m _⟩
 have G:∀b,OO O [] [] b->O b:=λb u=>u.elim id λh=>(B b h).elim;refine(h ⟨P,λ_=>false,0,w,λ_=>False,O,[],[]⟩ rfl O [] w vs I (λb u=>u) ⟨rfl,rfl,rfl,d0m _,λ_ _ _=>rfl⟩ ((FzL.keep (Keeps.sub G) N).den [])).mono ?_;rintro e V ⟨y,F,rfl,K,H,U⟩;have M:Cut O rs' [] F:=Cut.of K (by simp[X8]);have X:=W O (λ_=>False) w.heap.size F V y K M U;exact⟨y,rfl,⟨H.os,H.tape,H.output,H.size,λb u=>H.block b u (B b)⟩,Fz.keep (Keeps.sub λb u=>.inl u) (Den.fz T X)⟩
def ren(σ:Nat->Nat):C->C
 | .bp k o=>.bp (σ k) o
 | .rv k=>.rv (σ k)
 | c=>c
def okN(n:Nat):C->Bool
 | .bp k _=>decide (k<n)
 | .rv k=>decide (k<n)
 | c=>c.cl
def a8x(σ:Nat->Nat):C->C
 | .clo f cs=>.clo f (cs.map (ren σ))
 | .bnd f x=>.bnd f (ren σ x)
 | c=>ren σ c
def okM(n:Nat):C->Bool
 | .clo _ cs=>cs.all (okN n)
 | .bnd _ x=>okN n x
 | c=>okN n c
def a2c(σ:Nat->Nat):Res->Res
 | .box t cs=>.box t (cs.map (ren σ))
 | r=>r
def okR(n:Nat):Res->Bool
 | .box _ cs=>cs.all (okN n)
 | _=>true
section
variable {ν νs:List Value} {σ:Nat->Nat} {n:Nat} {w:World} {O O':Nat->Prop}
def b4o(u:∀k,k<n->νs[k]?=ν[σ k]?)(E:∀b,O' b->O b){c:C}{y:Value}(A:okN n c=true)(h:Den ν w O (ren σ c) y):Den νs w O' c y:=by
 unfold okN at A;split at A
 ·simp only[ren,Den]at h ⊢;rw[u _ (of_decide_eq_true A)];exact h
 ·simp only[ren,Den]at h ⊢;rw[u _ (of_decide_eq_true A)];exact h
 ·rename_i D B;have e:ren σ c=c:=by
   cases c<;>first|rfl|exact(D _ _ rfl).elim|exact(B _ rfl).elim
  rw[e]at h;exact(Fz.keep (Keeps.sub E) (h.fz A)).den _
def c8s(u:∀k,k<n->νs[k]?=ν[σ k]?)(E:∀b,O b->O' b){c:C}{y:Value}(A:okN n c=true)(h:Den νs w O' c y):Den ν w O (ren σ c) y:=by
 unfold okN at A;split at A
 ·simp only[ren,Den]at h ⊢;rw[u _ (of_decide_eq_true A)]at h;exact h
 ·simp only[ren,Den]at h ⊢;rw[u _ (of_decide_eq_true A)]at h;exact h
 ·rename_i D B;have e:ren σ c=c:=by
   cases c<;>first|rfl|exact(D _ _ rfl).elim|exact(B _ rfl).elim
  rw[e];exact(Fz.keep (Keeps.sub E) (h.fz A)).den _
theorem b2m(u:∀k,k<n->νs[k]?=ν[σ k]?)(A:∀b,O' b->O b):∀{cs:List C} {vs:List Value},cs.all (okN n)=true->l6 ν w O (cs.map (ren σ)) vs->l6 νs w O' cs vs
 | [],vs,_,h=>by simpa only[d0p,l6] using h
 | c::cs,vs,hc,h=>by
  simp only[d0l,l6,List.all_cons,d0s]at h hc ⊢;obtain⟨y,ys,e,h1,h2⟩:=h;exact⟨y,ys,e,b4o u A hc.1 h1,b2m u A hc.2 h2⟩
theorem b8r(u:∀k,k<n->νs[k]?=ν[σ k]?)(A:∀b,O b->O' b):∀{cs:List C} {vs:List Value},cs.all (okN n)=true->l6 νs w O' cs vs->l6 ν w O (cs.map (ren σ)) vs
 | [],vs,_,h=>by simpa only[d0p,l6] using h
 | c::cs,vs,hc,h=>by
  simp only[d0l,l6,List.all_cons,d0s]at h hc ⊢;obtain⟨y,ys,e,h1,h2⟩:=h;exact⟨y,ys,e,c8s u A hc.1 h1,b8r u A hc.2 h2⟩
def c6C(u:∀k,k<n->νs[k]?=ν[σ k]?)(E:∀b,O' b->O b){c:C}{y:Value}(D:okM n c=true)(h:Den ν w O (a8x σ c) y):Den νs w O' c y:=by
 unfold okM at D;split at D
 ·simp only[a8x,Den]at h ⊢;obtain⟨vs,B,A⟩:=h;exact⟨vs,b2m u E D B,A⟩
 ·simp only[a8x,Den]at h ⊢;obtain⟨v,B,A⟩:=h;exact⟨v,b4o u E D B,A⟩
 ·rename_i B A;refine b4o u E D ?_;have e:a8x σ c=ren σ c:=by
   cases c<;>first|rfl|exact(B _ _ rfl).elim|exact(A _ _ rfl).elim
  rwa[e]at h
theorem b6e(u:∀k,k<n->νs[k]?=ν[σ k]?)(A:∀b,O' b->O b):∀{cs:List C} {vs:List Value},cs.all (okM n)=true->l6 ν w O (cs.map (a8x σ)) vs->l6 νs w O' cs vs
 | [],vs,_,h=>by simpa only[d0p,l6] using h
 | c::cs,vs,hc,h=>by
  simp only[d0l,l6,List.all_cons,d0s]at h hc ⊢;obtain⟨y,ys,e,h1,h2⟩:=h;exact⟨y,ys,e,c6C u A hc.1 h1,b6e u A hc.2 h2⟩
def c6Q(u:∀k,k<n->νs[k]?=ν[σ k]?)(A:∀b,O' b->O b){x:Value}{r:Res}(hr:okR n r=true)(h:N8 ν w O x (a2c σ r)):N8 νs w O' x r:=by
 cases r with
 | gone=>trivial
 | box t cs=>
  obtain⟨b,vs,E,D,B,F⟩:=h;exact⟨b,vs,E,b2m u A hr D,B,F⟩
 | row e sz es=>exact a4F A h
 | map s es=>exact h
 | fb e bs=>exact h
def c7n(u:∀k,k<n->νs[k]?=ν[σ k]?)(A:∀b,O b->O' b){x:Value}{r:Res}(hr:okR n r=true)(h:N8 νs w O' x r):N8 ν w O x (a2c σ r):=by
 cases r with
 | gone=>trivial
 | box t cs=>
  obtain⟨b,vs,E,D,B,F⟩:=h;exact⟨b,vs,E,b8r u A hr D,B,F⟩
 | row e sz es=>exact a4F A h
 | map s es=>exact h
 | fb e bs=>exact h
end
def a5Y(σ:Nat->Nat)(r:Res)(x:Value)(b:Nat):fp (a2c σ r) x b=fp r x b:=by cases r<;>rfl
theorem l5.at{E:Ctx}{rs rs2 B R:List Res}(σ:Nat->Nat){pk:List Nat}{f:Nat}{W:List C}{s:C}(h:l5 E B f W s R pk)(af:∀k l,k<B.length->l<B.length->σ k=σ l->k=l)
 (ai:R.length=B.length) (aC:rs2.length=rs.length) (X:∀k r,B[k]?=some r->rs[σ k]?=some (a2c σ r)) (h2:∀k r,R[k]?=some r->rs2[σ k]?=some (a2c σ r))
 (h3:∀l,(∀k,k<B.length->σ k≠l)->rs2[l]?=(rs[l]?).map (Res.y9 (pk.map σ))) (o1:B.all (okR B.length)=true) (o2:R.all (okR B.length)=true) (ha:W.all (okM B.length)=true) (hc:s.cl=true) :
 l5 E rs f (W.map (a8x σ)) s rs2 (pk.map σ):=by
 intro av ν w vs T ap hF hD;have hx:∀k r,B[k]?=some r->∃x,ν[σ k]?=some x/\N8 ν w (OO av rs ν) x (a2c σ r):=λk r u=>T.res (σ k) _ (X k r u);obtain⟨J,ak,G⟩:∃J:List Value,J.length=B.length/\∀k,k<B.length->J[k]?=ν[σ k]?:=by
  refine⟨(List.range B.length).map λk=>(ν[σ k]?).getD undef,by simp,λk u=>?_⟩;obtain⟨x,hx,_⟩:=hx k _ (d0b u);rw[d0q,List.getElem?_range u,hx,d0e,hx];rfl
 have K:∀b,owned B J b->owned rs ν b:=by
  rintro b ⟨k,r,x,Z,P,g3⟩;have u:=(d0i.1 Z).1;rw[G k u]at P;exact⟨σ k,a2c σ r,x,X k r Z,P,by rw[a5Y];exact g3⟩
 let av':Nat->Prop:=λb=>OO av rs ν b/\¬owned B J b
 have aj:∀b,OO av' B J b->OO av rs ν b:=λb D=>D.elim (λD=>D.1) λD=>.inr (K b D);rw[List.all_eq_true]at o1 o2;have aw:RG av' E.own0 E.w0.heap.size J B w:=by
  refine⟨ak,λk r u=>?_,λk l r r' x x' b ae Z P g3 g4 g5 g6=>?_,λb D=>?_,λb D=>?_,T.n0⟩
  ·obtain⟨x,hx,aa⟩:=hx k r u;have aB:=(d0i.1 u).1;exact⟨x,by rw[G k aB];exact hx,c6Q G aj (o1 r (d0g u)) aa⟩
  ·have k1:=(d0i.1 Z).1;have k2:=(d0i.1 P).1;rw[G k k1]at g3;rw[G l k2]at g4;exact T.dis (σ k) (σ l) _ _ x x' b (λe=>ae (af k l k1 k2 e)) (X k r Z) (X l r' P) g3 g4 (by rw[a5Y];exact g5) (by rw[a5Y];exact g6)
  ·obtain⟨Z,P,g3⟩:=T.low b (K b D);exact⟨Z,λh=>h.2 D,g3⟩
  ·rcases D.1 with X|X
   ·exact T.av b X
   ·exact(T.low b X).1
 have al:∀b,E.av b->av' b:=λb D=>⟨.inl (ap b D),λA=>(T.low b (K b A)).2.1 (ap b D)⟩
 have az:l6 J w (OO av' B J) W vs:=b6e G aj ha hD;refine(h av' J w vs aw al hF az).mono ?_;rintro e w' ⟨y,O,rfl,Z,P,g3⟩;have aD:O.length=B.length:=by rw[Z.len,ai]
 have ao:∀k,k<B.length->σ k<rs.length:=λk u=>(d0i.1 (X k _ (d0b u))).1;obtain⟨I,nl,n1,n2⟩:∃I:List Value,I.length=rs.length/\(∀k,k<B.length->O[k]?=I[σ k]?)/\∀l,(∀k,k<B.length->σ k≠l)->I[l]?=ν[l]?:=by
  refine⟨(List.range rs.length).map λl=>match(List.range B.length).find? (λk=>decide (σ k=l)) with
   | some k=>(O[k]?).getD undef
   | none=>(ν[l]?).getD undef,by simp,λk u=>?_,λl hl=>?_⟩
  ·rw[d0q,List.getElem?_range (ao k u),d0e];cases A:(List.range B.length).find? (λj=>decide (σ j=σ k)) with
   | none=>
    rw[List.find?_eq_none]at A;have:=A k (List.mem_range.2 u);simp at this
   | some j=>
    have e1:=List.find?_some A;have e2:=List.mem_range.1 (List.mem_of_find?_eq_some A);have:j=k:=af j k e2 u (of_decide_eq_true e1);subst this;simp only;rw[d0b (by omega:j<O.length)];rfl
  ·rcases d0B l rs.length with am|an
   ·rw[d0q,List.getElem?_range am,d0e];have A:(List.range B.length).find? (λk=>decide (σ k=l))=none:=by
     rw[List.find?_eq_none];intro k u;have:=hl k (List.mem_range.1 u);simpa using this
    rw[A];simp only;rw[d0b (by rw[T.len];exact am:l<ν.length)];rfl
   ·rw[d0J (by simpa using an),d0J (by rw[T.len];exact an)]
 have get:∀{l:Nat} {q:Res},rs2[l]?=some q->(∃k r,k<B.length/\σ k=l/\R[k]?=some r/\q=a2c σ r)\/((∀k,k<B.length->σ k≠l)/\∃V,rs[l]?=some V/\q=V.y9 (pk.map σ)):=by
  intro l q H;by_cases u:∃k,k<B.length/\σ k=l
  ·obtain⟨k,u,rfl⟩:=u;have hg:=d0b (show k<R.length by omega);rw[h2 k _ hg]at H;injection H with H;exact .inl ⟨k,_,u,rfl,hg,H.symm⟩
  ·have U:∀k,k<B.length->σ k≠l:=λk X h2=>u ⟨k,X,h2⟩;rw[h3 l U,Option.map_eq_some_iff]at H;obtain⟨V,e1,e2⟩:=H;exact .inr ⟨U,V,e1,e2.symm⟩
 have ab:∀{l:Nat} {q:Res} {z:Value} {b:Nat},(∀k,k<B.length->σ k≠l)->rs[l]?=some q->ν[l]?=some z->fp q z b->¬owned B J b:=by
  rintro l q z b U H F A ⟨k,r,x,k1,k2,k3⟩;have u:=(d0i.1 k1).1;rw[G k u]at k2;exact T.dis (σ k) l _ q x z b (U k u) (X k r k1) H k2 F (by rw[a5Y];exact k3) A
 have ac:∀b,owned rs2 I b->owned R O b\/∃l q z,(∀k,k<B.length->σ k≠l)/\rs[l]?=some q/\ν[l]?=some z/\fp q z b:=by
  rintro b ⟨l,q,z,hl,F,A⟩;rcases get hl with⟨k,r,u,rfl,hg,rfl⟩|⟨U,V,H,rfl⟩
  ·rw[<- n1 k u]at F;rw[a5Y]at A;exact .inl ⟨k,r,z,hg,F,A⟩
  ·rw[n2 l U]at F;rw[a0I]at A;exact .inr ⟨l,V,z,U,H,F,A⟩
 have ag:∀b,OO av rs2 I b->OO av' R O b:=λb D=>by
  rcases D with D|D
  ·exact .inl ⟨.inl D,λA=>(T.low b (K b A)).2.1 D⟩
  ·rcases ac b D with D|⟨l,q,z,U,H,F,A⟩
   ·exact .inr D
   ·exact .inl ⟨.inr ⟨l,q,z,H,F,A⟩,ab U H F A⟩
 have mv:Mv rs ν w (pk.map σ) rs2 I w':=by
  refine⟨P.os,P.tape,P.output,P.size,λb D zs=>P.block b D λho=>zs (K b ho),λb ho=>?_,λl x hl hx=>?_⟩
  ·rcases ac b ho with ho|⟨l,q,z,_,H,F,A⟩
   ·exact(P.own b ho).imp (K b) id
   ·exact .inl ⟨l,q,z,H,F,A⟩
  ·by_cases u:∃k,k<B.length/\σ k=l
   ·obtain⟨k,u,rfl⟩:=u;rw[<- n1 k u];exact P.nu k x (λhm=>hl (List.mem_map_of_mem hm)) (by rw[G k u];exact hx)
   ·rw[n2 l λk X h2=>u ⟨k,X,h2⟩];exact hx
 refine⟨y,I,rfl,⟨by rw[nl,aC],λl q H=>?_,λl m q q' z z' b ae H hm F N A M=>?_,λb ho=>?_,λb D=>d0E (T.av b D) P.size,d0f T.n0 P.size⟩,mv,(Fz.keep (Keeps.sub ag) (g3.fz hc)).den I⟩
 ·rcases get H with⟨k,r,u,rfl,hg,rfl⟩|⟨U,V,Y,rfl⟩
  ·obtain⟨x,hx,aa⟩:=Z.res k r hg;exact⟨x,by rw[<- n1 k u];exact hx,c7n n1 ag (o2 r (d0g hg)) aa⟩
  ·obtain⟨z,F,aa⟩:=T.res l V Y;exact⟨z,by rw[n2 l U];exact F,N8.mv aa mv.keeps mv.nu λb A=>P.block b (T.lt Y F A) (ab U Y F A)⟩
 ·have aq:∀{l m:Nat} {q q':Res} {z z':Value},(∃k r,k<B.length/\σ k=l/\R[k]?=some r/\q=a2c σ r)->((∀k,k<B.length->σ k≠m)/\∃V,rs[m]?=some V/\q'=V.y9 (pk.map σ))->I[l]?=some z->I[m]?=some z'->fp q z b->fp q' z' b->False:=by
   rintro l m q q' z z' ⟨k,r,u,rfl,hg,rfl⟩ ⟨U,V,H,rfl⟩ F N A M;rw[<- n1 k u]at F;rw[n2 m U]at N;rw[a5Y]at A;rw[a0I]at M;rcases P.own b ⟨k,r,z,hg,F,A⟩ with ho|ho
   ·exact ab U H N M ho
   ·have:=T.lt H N M;omega
  rcases get H with⟨k,r,u,e1,hg,e2⟩|⟨U,V,Y,e2⟩
  ·rcases get hm with⟨k',r',au,ay,ar,ah⟩|hr
   ·subst e1 ay e2 ah;rw[<- n1 k u]at F;rw[<- n1 k' au]at N;rw[a5Y]at A M;exact Z.dis k k' r r' z z' b (λe=>ae (by rw[e])) hg ar F N A M
   ·exact aq ⟨k,r,u,e1,hg,e2⟩ hr F N A M
  ·rcases get hm with hl|⟨aA,q1,ax,ah⟩
   ·exact aq hl ⟨U,V,Y,e2⟩ N F M A
   ·subst e2 ah;rw[n2 l U]at F;rw[n2 m aA]at N;rw[a0I]at A M;exact T.dis l m V q1 z z' b ae Y ax F N A M
 ·rcases ac b ho with ho|⟨l,q,z,_,H,F,A⟩
  ·obtain⟨k1,k2,k3⟩:=Z.low b ho;exact⟨k1,λD=>k2 ⟨.inl D,λA=>(T.low b (K b A)).2.1 D⟩,k3⟩
  ·obtain⟨k1,k2,k3⟩:=T.low b ⟨l,q,z,H,F,A⟩;exact⟨d0E k1 P.size,k2,k3⟩
end Go.Proofs.YtfkipfnkpeobjaaGreatDoor.Eng
namespace Go.Proofs.YtfkipfnkpeobjaaGreatDoor
open Go Go.RowKit Eng
set_option maxRecDepth 10000
set_option maxHeartbeats 4000000
structure Rs where
 inp:List UInt8
 bad:Bool
abbrev Rdr(α:Type):=Rs->α×Rs
def a1a:Nat->Nat->List UInt8->Option Nat×List UInt8
 | _,_,[]=>(none,[])
 | k,u,b::r=>if k=4 then(none,b::r) else if b.toNat<128 then(some (u ||| (b.toNat%128) <<< (7*k)),r) else a1a (k+1) (u ||| (b.toNat%128) <<< (7*k)) r
def l9(old:Int):Rdr Int:=λs=>match a1a 0 0 s.inp with
 | (some n,r)=>(n,⟨r,s.bad⟩)
 | (none,r)=>(old,⟨r,true⟩)
def a0C:Rdr Bool:=λs=>(decide ((l9 0 s).1=1),⟨(l9 0 s).2.inp,(l9 0 s).2.bad||decide (1<(l9 0 s).1)⟩)
def Y6:Rdr (List UInt8):=λs=>
 if((l9 0 s).2.bad||decide ((((l9 0 s).2.inp.length:Nat):Int)<(l9 0 s).1))=true then([],⟨(l9 0 s).2.inp,true⟩)
 else((l9 0 s).2.inp.take (l9 0 s).1.toNat,⟨(l9 0 s).2.inp.drop (l9 0 s).1.toNat,(l9 0 s).2.bad⟩)
def F7{α:Type}(each:Rdr α):Nat->Rdr (List α)
 | 0,s=>([],s)
 | n+1,s=>if s.bad=true then([],s) else((each s).1::(F7 each n (each s).2).1,(F7 each n (each s).2).2)
def q8{α:Type}(each:Rdr α):Rdr (List α):=λs=>F7 each (l9 0 s).1.toNat (l9 0 s).2
def H9{α:Type}(x:α):Rdr α:=λs=>(x,s)
def p9{α β:Type}(a:Rdr α)(f:α->Rdr β):Rdr β:=λs=>f (a s).1 (a s).2
def P6:Rdr Nm.Rt:=p9 a0C λn=>p9 Y6 λu=>p9 Y6 λd=>H9 ⟨n,u,d⟩
def a1D:Rdr Vt:=p9 P6 λx=>p9 P6 λy=>H9 ⟨x,y⟩
def a0h:Rdr Fr:=p9 a1D λv=>p9 a0C λh=>p9 P6 λt=>H9 ⟨v.x,v.y,h,t⟩
def a0B:Rdr (List Vt):=q8 a1D
def a5F:Rdr Lk:=p9 P6 λa=>p9 P6 λb=>p9 P6 λc=>p9 P6 λd=>p9 P6 λe=>p9 a0B λs=>H9 ⟨a,b,c,d,e,s⟩
def a8g:Rdr Am:=p9 Y6 λn=>p9 a0h λb=>p9 (q8 a5F) λl=>H9 ⟨n,b,l⟩
def a3S:Rdr Pt:=p9 Y6 λn=>p9 a0B λs=>p9 a0h λg=>H9 ⟨n,s,g⟩
def a3o:Rdr Sl:=p9 Y6 λn=>p9 a0h λf=>p9 P6 λr=>H9 ⟨n,f,r⟩
def a2J:Rdr Gt:=p9 Y6 λn=>p9 a1D λa=>p9 a1D λb=>H9 ⟨n,a,b⟩
def a4Y:Rdr Wk:=p9 (q8 a8g) λa=>p9 (q8 a0B) λw=>p9 (q8 a3S) λp=>p9 (q8 a3o) λs=>p9 (q8 a2J) λg=>p9 P6 λk=>H9 ⟨a,w,p,s,g,k⟩
def a5p:Rdr Int:=p9 (l9 1) λn=>H9 (n-1)
def a4V:Rdr Ast:=p9 (q8 P6) λq=>p9 (q8 P6) λv=>p9 a0C λp=>p9 a5p λh=>H9 ⟨q,v,p,h⟩
def a3V:Rdr Stt:=p9 (l9 0) λt=>p9 (q8 a4V) λa=>p9 (q8 a0h) λp=>p9 (q8 a1D) λv=>p9 (q8 a0C) λo=>H9 ⟨t,a,p,v,o⟩
def Rok{α:Type}(r:Rdr α):Prop:=∀s,(r s).2.inp.length<=s.inp.length/\(s.bad=true->(r s).2.bad=true)
def Y2{α:Type}(r:Rdr α):Prop:=Rok r/\∀s,(r s).2.bad=true\/(r s).2.inp.length<s.inp.length
theorem b0x:∀(l:List UInt8) (k u:Nat),(a1a k u l).2.length<=l.length/\((a1a k u l).1=none\/(a1a k u l).2.length<l.length)
 | [],k,u=>by unfold a1a;exact⟨d0m _,.inl rfl⟩
 | b::r,k,u=>by
  unfold a1a;split
  ·exact⟨d0m _,.inl rfl⟩
  split
  ·exact⟨by simp,.inr (by simp)⟩
  ·obtain⟨h1,h2⟩:=b0x r (k+1) (u ||| (b.toNat%128) <<< (7*k));refine⟨by simp only[d0j];omega,h2.imp id λh=>by simp only[d0j];omega⟩
def O3(old:Int):Y2 (l9 old):=by
 refine⟨λs=>?_,λs=>?_⟩
 ·obtain⟨u,_⟩:=b0x s.inp 0 0;unfold l9;split
  ·rename_i n r e;rw[e]at u;exact⟨u,id⟩
  ·rename_i r e;rw[e]at u;exact⟨u,λ_=>rfl⟩
 ·obtain⟨u,h⟩:=b0x s.inp 0 0;unfold l9;split
  ·rename_i n r e;rw[e]at h;rcases h with h|h
   ·cases h
   ·exact .inr h
  ·exact .inl rfl
def a0i:Y2 a0C:=by
 obtain⟨u,B⟩:=O3 0;refine⟨λs=>⟨(u s).1,λA=>?_⟩,λs=>?_⟩
 ·show((l9 0 s).2.bad||_)=true;rw[(u s).2 A,Bool.true_or]
 ·rcases B s with h|h
  ·refine .inl ?_
   show((l9 0 s).2.bad||_)=true;rw[h,Bool.true_or]
  ·exact .inr h
def X3:Y2 Y6:=by
 obtain⟨u,A⟩:=O3 0;refine⟨λs=>?_,λs=>?_⟩
 ·unfold Y6;split
  ·exact⟨(u s).1,λ_=>rfl⟩
  ·refine⟨?_,(u s).2⟩;have:=(u s).1;simp only[d0L];omega
 ·unfold Y6;split
  ·exact .inl rfl
  ·rcases A s with h|h
   ·exact .inl h
   ·refine .inr ?_;simp only[d0L];omega
theorem a6b{α:Type}{u:Rdr α}(h:Rok u):∀n,Rok (F7 u n)
 | 0,s=>⟨d0m _,id⟩
 | n+1,s=>by
  unfold F7;split
  ·exact⟨d0m _,id⟩
  ·rename_i hb;obtain⟨g1,g2⟩:=h s;obtain⟨A,B⟩:=a6b h n (u s).2;exact⟨d0f A g1,λe=>absurd e hb⟩
theorem b3a{α:Type}{u:Rdr α}(h:Y2 u):∀n s,(F7 u n s).1.length<=s.inp.length+1
 | 0,s=>d0k _
 | n+1,s=>by
  unfold F7;split
  ·exact d0k _
  ·have g:=h.2 s;have k:=b3a h n (u s).2;simp only[d0j];rcases g with g|g
   ·have:(F7 u n (u s).2).1=[]:=by
     cases n with
     | zero=>rfl
     | succ n=>unfold F7;rw[if_pos g]
    rw[this];simp
   ·omega
def D5{α:Type}{u:Rdr α}(h:Rok u):Y2 (q8 u):=by
 obtain⟨D,F⟩:=O3 0;refine⟨λs=>?_,λs=>?_⟩
 ·obtain⟨B,A⟩:=a6b h (l9 0 s).1.toNat (l9 0 s).2;exact⟨d0f B (D s).1,λE=>A ((D s).2 E)⟩
 ·obtain⟨B,A⟩:=a6b h (l9 0 s).1.toNat (l9 0 s).2;rcases F s with g|g
  ·exact .inl (A g)
  ·exact .inr (Nat.lt_of_le_of_lt B g)
def c0c{α:Type}{u:Rdr α}(h:Y2 u)(s:Rs):(q8 u s).1.length<=s.inp.length+1:=by
 have A:=b3a h (l9 0 s).1.toNat (l9 0 s).2;have B:=((O3 0).1 s).1;unfold q8;omega
def A8{α:Type}(x:α):Rok (H9 x):=λs=>⟨d0m _,id⟩
def l8{α β:Type}{a:Rdr α}{f:α->Rdr β}(ha:Rok a)(hf:∀x,Rok (f x)):Rok (p9 a f):=λs=>by
 obtain⟨D,B⟩:=ha s;obtain⟨A,u⟩:=hf (a s).1 (a s).2;exact⟨d0f A D,λh=>u (B h)⟩
def U1{α β:Type}{a:Rdr α}{f:α->Rdr β}(h:Y2 a)(u:∀x,Rok (f x)):Y2 (p9 a f):=by
 refine⟨l8 h.1 u,λs=>?_⟩;obtain⟨B,A⟩:=u (a s).1 (a s).2;rcases h.2 s with g|g
 ·exact .inl (A g)
 ·exact .inr (Nat.lt_of_le_of_lt B g)
def E5:Y2 P6:=U1 a0i λ_=>l8 X3.1 λ_=>l8 X3.1 λ_=>A8 _
def Y0:Y2 a1D:=U1 E5 λ_=>l8 E5.1 λ_=>A8 _
def U2:Y2 a0h:=U1 Y0 λ_=>l8 a0i.1 λ_=>l8 E5.1 λ_=>A8 _
def Q5:Y2 a0B:=D5 Y0.1
def a4A:Y2 a5F:=U1 E5 λ_=>l8 E5.1 λ_=>l8 E5.1 λ_=>l8 E5.1 λ_=>l8 E5.1 λ_=>l8 Q5.1 λ_=>A8 _
def a9C:Y2 a8g:=U1 X3 λ_=>l8 U2.1 λ_=>l8 (D5 a4A.1).1 λ_=>A8 _
def a6x:Y2 a3S:=U1 X3 λ_=>l8 Q5.1 λ_=>l8 U2.1 λ_=>A8 _
def a6h:Y2 a3o:=U1 X3 λ_=>l8 U2.1 λ_=>l8 E5.1 λ_=>A8 _
def a5X:Y2 a2J:=U1 X3 λ_=>l8 Y0.1 λ_=>l8 Y0.1 λ_=>A8 _
def c0u:Y2 a4Y:=U1 (D5 a9C.1) λ_=>l8 (D5 Q5.1).1 λ_=>l8 (D5 a6x.1).1 λ_=>l8 (D5 a6h.1).1 λ_=>l8 (D5 a5X.1).1 λ_=>l8 E5.1 λ_=>A8 _
def a9h:Y2 a5p:=U1 (O3 1) λ_=>A8 _
def a6m:Y2 a4V:=U1 (D5 E5.1) λ_=>l8 (D5 E5.1).1 λ_=>l8 a0i.1 λ_=>l8 a9h.1 λ_=>A8 _
def b2R:Y2 a3V:=U1 (O3 0) λ_=>l8 (D5 a6m.1).1 λ_=>l8 (D5 U2.1).1 λ_=>l8 (D5 Y0.1).1 λ_=>l8 (D5 a0i.1).1 λ_=>A8 _
def Rbd{α:Type}(P:α->Prop)(r:Rdr α)(k:Nat):Prop:=∀s,s.inp.length<=k->P (r s).1
def b0X(k:Nat):Rbd (λl=>l.length<=k) Y6 k:=λs h=>by
 have u:=((O3 0).1 s).1;unfold Y6;split
 ·exact d0k _
 ·simp only[d0r];omega
def C8{α β:Type}{P:α->Prop}{Q:β->Prop}{a:Rdr α}{f:α->Rdr β}{k:Nat}(ha:Rbd P a k)(hr:Rok a)(hf:∀x,P x->Rbd Q (f x) k):Rbd Q (p9 a f) k:=λs h=>hf _ (ha s h) _ (d0f (hr s).1 h)
def X0{α:Type}{P:α->Prop}{x:α}{k:Nat}(h:P x):Rbd P (H9 x) k:=λ_ _=>h
def a9S{α:Type}{r:Rdr α}{k:Nat}:Rbd (λ_=>True) r k:=λ_ _=>trivial
theorem b5s{α:Type}{P:α->Prop}{each:Rdr α}{k:Nat}(he:Rbd P each k)(h:Rok each):∀n s,s.inp.length<=k->∀x∈(F7 each n s).1,P x
 | 0,s,_,x,hx=>by cases hx
 | n+1,s,hs,x,hx=>by
  unfold F7 at hx;split at hx
  ·cases hx
  ·simp only[List.mem_cons]at hx;rcases hx with rfl|hx
   ·exact he s hs
   ·exact b5s he h n _ (d0f (h s).1 hs) x hx
def S9{α:Type}{P:α->Prop}{each:Rdr α}{k:Nat}(he:Rbd P each k)(h:Y2 each):Rbd (λl=>l.length<=k+1/\∀x∈l,P x) (q8 each) k:=λs u=>by
 refine⟨d0f (c0c h s) (by omega),?_⟩;exact b5s he h.1 _ _ (d0f ((O3 0).1 s).1 u)
def a9E(k:Nat):Rbd (Rb k) P6 k:=C8 a9S a0i.1 λ_ _=>C8 (b0X k) X3.1 λ_ u=>C8 (b0X k) X3.1 λ_ h=>X0 ⟨u,h⟩
def b2k(k:Nat):Rbd (Vb k) a1D k:=C8 (a9E k) E5.1 λ_ h=>C8 (a9E k) E5.1 λ_ u=>X0 ⟨h,u⟩
open Go Eng
end Go.Proofs.YtfkipfnkpeobjaaGreatDoor
namespace Go.Proofs.YtfkipfnkpeobjaaGreatDoor
attribute [local go_sem] Eng.nbq beq_self_eq_true Eng.ww Eng.uk Eng.uk2
open Go Go.RowKit Eng
set_option maxRecDepth 10000
structure Ft where
 tick:Int
 kind:Int
 n:Int
 deriving DecidableEq
def Ft.enc(x:Ft):List C:=[.v (.int .i64 x.tick),.v (.int .i64 x.kind),.v (.int .i64 x.n)]
def fts(f:List Ft):C:=.sl 3 (f.map Ft.enc)
attribute [go_sem] fts
def c9w(k:Int):p8 Tryz.prog 143 [ints k] (.v (.bool (decide (3<=k)))):=by
 refine kS Tryz.func143 (by cbv) (by rfl) λw O=>?_;simp only[j4,TT,II,OA,MM,ints];exact uT rfl rfl rfl
def a4H(arm tick:Int)(is:Bool)(x:Ft):Bool:=if x.n=arm/\x.tick<=tick/\(x.kind=3\/x.kind=4) then decide (x.kind=3) else is
def a3X(f:List Ft)(arm tick:Int):Bool:=f.foldl (a4H arm tick) false
def a7h{α β:Type}(f:β->α->β)(b:β){l:List α}{i:Nat}(h:i<l.length):(l.take (i+1)).foldl f b=f ((l.take i).foldl f b) l[i]:=by
 rw[d0T h,List.foldl_append];rfl
def c1F(f:List Ft)(u h:Int)(M:f.length<=1000000000) :
 p8 Tryz.prog 73 [fts f,ints u,ints h] (.v (.bool (a3X f u h))):=by
 refine kS Tryz.func73 (by cbv) (by rfl) λw O=>?_;simp only[j4,TT,II,OA,OB,OC,MM,LL,VV,FF,MG,VG,FG,ints,fts];(repeat first|refine uA ?_|simp(disch:=omega) only[go_sem,Nat.reduceAdd]);refine S.loop (X:=Nat) (λl=>⟨[(1,ints u),(2,ints h),(0,fts f),(7,ints ((l:Int)-1))],[]⟩)
  (λl=>l<=f.length/\a3X f u h=a3X (f.take l) u h) (λl=>l) f.length ⟨d0m _,by rw[d0w]⟩ (by repeat first|refine uA ?_|refine⟨rfl,?_⟩|rfl|simp) ?_
 intro l G;obtain⟨G,H⟩:=G;simp only[ints,fts]at G ⊢;refine uV rfl ?_;apply uJ rfl<;>intro I
 ·obtain⟨i,rfl⟩:∃i,l=i+1:=⟨l-1,by omega⟩
  have E:i<f.length:=by omega
  have D:=d0b E;have A:=a7h (a4H u h) false E;have J:((i+1:Nat):Int)-1=(i:Int):=by omega
  generalize K:f[i]=z at D A;simp only[J];(repeat first|refine uA ?_|(apply uK;· first|omega|(intros;simp_all<;>omega))|simp(disch:=omega) only[go_sem,Nat.reduceAdd,D,Ft.enc]);apply uJ rfl<;>intro I
  ·have B:a3X f u h=decide (z.kind=3):=by
    rw[H];unfold a3X;rw[A];unfold a4H;rw[if_pos];omega
   rw[B];(repeat first|refine uA ?_|simp(disch:=omega) only[go_sem,Nat.reduceAdd]);exact uS rfl rfl
  ·have B:a3X (f.take (i+1)) u h=a3X (f.take i) u h:=by
    unfold a3X;rw[A];unfold a4H;rw[if_neg];omega
   (repeat first|refine uA ?_|simp(disch:=omega) only[go_sem]);refine S.next i ⟨by omega,by rw[H,B]⟩ (by omega) (by repeat first|refine uA ?_|refine⟨rfl,?_⟩|rfl|simp)
 ·have F:l=0:=by omega
  subst F;rw[H];exact uT rfl rfl rfl
def b5f:List ByteArray:=["lose".toUTF8, "twice".toUTF8, "late".toUTF8, "fall".toUTF8, "back".toUTF8, "drift".toUTF8]
def strs(l:List ByteArray):C:=.sl 1 (l.map λs=>[.v (.string s)])
attribute [go_sem] strs
set_option maxHeartbeats 4000000
structure Ky where
 tick:Int
 q:List Nm.Rt
structure Dy where
 works:Wk
 start:Stt
 tracks:List (List Ky)
 faults:List Ft
 walks:List (List Vt)
 ticks:Int
theorem b2J:∀(l:List UInt8) (k u:Nat),k<=4->u<2^(7*k)->∀v r,a1a k u l=(some v,r)->v<268435456
 | [],k,u,_,_,v,r,h=>by unfold a1a at h;cases h
 | b::l,k,u,hk,hu,v,r,h=>by
  unfold a1a at h;split at h
  ·cases h
  rename_i h4;have hb:(b.toNat%128) <<< (7*k)<2^(7*(k+1)):=by
   rw[Nat.shiftLeft_eq,Nat.mul_add,Nat.pow_add,Nat.mul_comm];exact Nat.mul_lt_mul_of_pos_left (Nat.mod_lt _ (by decide)) (Nat.two_pow_pos _)
  have A:u<2^(7*(k+1)):=d0E hu (d0G (by decide) (by omega));have D:=Nat.or_lt_two_pow A hb;split at h
  ·injection h with B E;injection B with B;rw[<- B];have:2^(7*(k+1))<=2^28:=d0G (by decide) (by omega);omega
  ·exact b2J l (k+1) _ (by omega) D v r h
def Nb(n:Int):Prop:=0<=n/\n<268435456
def Z9{old:Int}(h:Nb old)(k:Nat):Rbd Nb (l9 old) k:=λs _=>by
 unfold l9;split
 ·rename_i n r e;have:=b2J s.inp 0 0 (by decide) (by decide) n r e;exact⟨by omega,by omega⟩
 ·exact h
def c0y(k:Nat):Rbd (Fb k) a0h k:=C8 (b2k k) Y0.1 λ_ h=>C8 a9S a0i.1 λ_ _=>C8 (a9E k) E5.1 λ_ u=>X0 ⟨h.1,h.2,u⟩
def a8c(k:Nat):Rbd (Vbs (k+1)) a0B k:=λs h=>by
 obtain⟨B,A⟩:=S9 (b2k k) Y0 s h;exact⟨B,λv u=>(A v u).mono (Nat.le_succ k)⟩
def a1y(k:Nat):Rbd (Rb (k+1)) P6 k:=λs h=>(a9E k s h).mono (Nat.le_succ k)
def b0N(k:Nat):Rbd (Vb (k+1)) a1D k:=λs h=>(b2k k s h).mono (Nat.le_succ k)
def a6K(k:Nat):Rbd (λl=>l.length<=k+1) Y6 k:=λs h=>Nat.le_succ_of_le (b0X k s h)
def a5v(k:Nat):Rbd (Fb (k+1)) a0h k:=λs h=>by
 obtain⟨B,A,u⟩:=c0y k s h;exact⟨B.mono (Nat.le_succ k),A.mono (Nat.le_succ k),u.mono (Nat.le_succ k)⟩
def c3k(k:Nat):Rbd (Lb (k+1)) a5F k:=
 C8 (a1y k) E5.1 λ_ A=>C8 (a1y k) E5.1 λ_ u=>C8 (a1y k) E5.1 λ_ h=>C8 (a1y k) E5.1 λ_ D=>C8 (a1y k) E5.1 λ_ E=>C8 (a8c k) Q5.1 λ_ B=>X0 ⟨A,u,h,D,E,B⟩
def c6I(k:Nat):Rbd (Ab (k+1)) a8g k:=
 C8 (a6K k) X3.1 λ_ u=>C8 (a5v k) U2.1 λ_ A=>C8 (S9 (c3k k) a4A) (D5 a4A.1).1 λ_ h=>X0 ⟨u,A,h.1,h.2⟩
def c4b(k:Nat):Rbd (Pb (k+1)) a3S k:=
 C8 (a6K k) X3.1 λ_ h=>C8 (a8c k) Q5.1 λ_ A=>C8 (a5v k) U2.1 λ_ u=>X0 ⟨h,A,u⟩
def c2z(k:Nat):Rbd (Sb (k+1)) a3o k:=
 C8 (a6K k) X3.1 λ_ h=>C8 (a5v k) U2.1 λ_ A=>C8 (a1y k) E5.1 λ_ u=>X0 ⟨h,A,u⟩
def c3N(k:Nat):Rbd (Gb (k+1)) a2J k:=
 C8 (a6K k) X3.1 λ_ h=>C8 (b0N k) Y0.1 λ_ A=>C8 (b0N k) Y0.1 λ_ u=>X0 ⟨h,A,u⟩
def c0J(k:Nat):Rbd (Wb (k+1)) a4Y k:=
 C8 (S9 (c6I k) a9C) (D5 a9C.1).1 λ_ A=>C8 (S9 (a8c k) Q5) (D5 Q5.1).1 λ_ u=>C8 (S9 (c4b k) a6x) (D5 a6x.1).1 λ_ h=>C8 (S9 (c2z k) a6h) (D5 a6h.1).1 λ_ D=>C8 (S9 (c3N k) a5X) (D5 a5X.1).1 λ_ E=>C8 (a1y k) E5.1 λ_ B=>X0 ⟨A,u,h,D,E,B⟩
def c0k(k:Nat):Rbd (λn=>-1<=n/\n<268435456) a5p k:=C8 (Z9 ⟨by decide,by decide⟩ k) (O3 1).1 λ_ h=>X0 ⟨by have:=h.1;omega,by have:=h.2;omega⟩
def c3b(k:Nat):Rbd (λx=>Asb (k+1) x/\-1<=x.holds/\x.holds<268435456) a4V k:=
 C8 (S9 (a1y k) E5) (D5 E5.1).1 λ_ h=>C8 (S9 (a1y k) E5) (D5 E5.1).1 λ_ A=>C8 a9S a0i.1 λ_ _=>C8 (c0k k) a9h.1 λ_ u=>X0 ⟨⟨h,A⟩,u⟩
def Sti(s:Stt):Prop:=Nb s.tick/\∀x∈s.arms,-1<=x.holds/\x.holds<268435456
def c1s(k:Nat):Rbd (λs=>Stb (k+1) s/\Sti s) a3V k:=
 C8 (Z9 ⟨by decide,by decide⟩ k) (O3 0).1 λ_ B=>C8 (S9 (c3b k) a6m) (D5 a6m.1).1 λ_ u=>C8 (S9 (a5v k) U2) (D5 U2.1).1 λ_ A=>C8 (S9 (b0N k) Y0) (D5 Y0.1).1 λ_ D=>C8 (S9 a9S a0i) (D5 a0i.1).1 λ_ E=>X0 ⟨⟨⟨u.1,λx h=>(u.2 x h).1⟩,A,D,E.1⟩,B,λx h=>(u.2 x h).2⟩
def a3t:Rdr Ky:=p9 (l9 0) λt=>p9 (q8 P6) λq=>H9 ⟨t,q⟩
def a5G:Y2 a3t:=U1 (O3 0) λ_=>l8 (D5 E5.1).1 λ_=>A8 _
def Kyb(k:Nat)(x:Ky):Prop:=Nb x.tick/\Rbs k x.q
def c6c(k:Nat):Rbd (Kyb (k+1)) a3t k:=C8 (Z9 ⟨by decide,by decide⟩ k) (O3 0).1 λ_ h=>C8 (S9 (a1y k) E5) (D5 E5.1).1 λ_ u=>X0 ⟨h,u⟩
def a2j:Rdr Ft:=p9 (l9 0) λt=>p9 (l9 0) λa=>p9 (l9 0) λn=>H9 ⟨t,a,n⟩
def a7c:Y2 a2j:=U1 (O3 0) λ_=>l8 (O3 0).1 λ_=>l8 (O3 0).1 λ_=>A8 _
def Ftb(x:Ft):Prop:=Nb x.tick/\Nb x.kind/\Nb x.n
def c1v(k:Nat):Rbd Ftb a2j k:=C8 (Z9 ⟨by decide,by decide⟩ k) (O3 0).1 λ_ h=>C8 (Z9 ⟨by decide,by decide⟩ k) (O3 0).1 λ_ A=>C8 (Z9 ⟨by decide,by decide⟩ k) (O3 0).1 λ_ u=>X0 ⟨h,A,u⟩
def a9t:Rdr Dy:=p9 a4Y λw=>p9 a3V λs=>p9 (q8 (q8 a3t)) λt=>p9 (q8 a2j) λf=>p9 (q8 a0B) λl=>p9 (l9 0) λn=>H9 ⟨w,s,t,f,l,n⟩
structure Dyb(k:Nat)(d:Dy):Prop where
 works:Wb k d.works
 start:Stb k d.start
 ints:Sti d.start
 tracks:d.tracks.length<=k/\∀t∈d.tracks,t.length<=k/\∀x∈t,Kyb k x
 faults:d.faults.length<=k/\∀f∈d.faults,Ftb f
 walks:d.walks.length<=k/\∀l∈d.walks,Vbs k l
 ticks:Nb d.ticks
def b8e(k:Nat):Rbd (Dyb (k+1)) a9t k:=
 C8 (c0J k) c0u.1 λ_ A=>C8 (c1s k) b2R.1 λ_ h=>C8 (S9 (S9 (c6c k) a5G) (D5 a5G.1)) (D5 (D5 a5G.1).1).1 λ_ u=>C8 (S9 (c1v k) a7c) (D5 a7c.1).1 λ_ D=>C8 (S9 (a8c k) Q5) (D5 Q5.1).1 λ_ E=>C8 (Z9 ⟨by decide,by decide⟩ k) (O3 0).1 λ_ B=>X0 ⟨A,h.1,h.2,u,D,E,B⟩
def J3(u:Nat):List UInt8:=if u<128 then[UInt8.ofNat u] else UInt8.ofNat (u%128+128)::J3 (u/128)
def a3F{u:Nat}(h:u<128):J3 u=[UInt8.ofNat u]:=by unfold J3;rw[if_pos h]
def a5P{u:Nat}(h:¬u<128):J3 u=UInt8.ofNat (u%128+128)::J3 (u/128):=by rw[J3,if_neg h]
def G8(n:Int):List UInt8:=J3 (IntKind.u64.wrap n).toNat
def a1s(b:Bool):List UInt8:=if b then[1] else[0]
def a0E(l:List UInt8):List UInt8:=J3 l.length++l
def I7(a:Nm.Rt):List UInt8:=a1s a.neg++(a0E a.num++a0E a.den)
def I5(v:Vt):List UInt8:=I7 v.x++I7 v.y
def frB(f:Fr):List UInt8:=(I7 f.x++I7 f.y)++(a1s f.half++I7 f.t)
def j6{α:Type}(f:α->List UInt8)(l:List α):List UInt8:=J3 l.length++l.flatMap f
def a2x(x:Ast):List UInt8:=j6 I7 x.q++(j6 I7 x.v++(a1s x.power++G8 (IntKind.i64.wrap (x.holds+1))))
def a0M(s:Stt):List UInt8:=G8 s.tick++(j6 a2x s.arms++(j6 frB s.parts++(j6 I5 s.people++j6 a1s s.gates)))
def a4l(n:Int):IntKind.u64.wrap n=n%18446744073709551616:=by simp[IntKind.wrap,IntKind.signed,IntKind.bits]
def U7{n:Nat}(h:n<18446744073709551616):G8 (n:Int)=J3 n:=by
 unfold G8;rw[a4l,show((n:Int)%18446744073709551616).toNat=n by omega]
def b6X(u:Nat):∀n,u<128^n->0<n->(J3 u).length<=n:=by
 induction u using J3.induct with
 | case1 u h=>intro n _ B;rw[a3F h];simp;omega
 | case2 u h ih=>
  intro n A B;rw[a5P h];cases n with
  | zero=>omega
  | succ n=>
   cases n with
   | zero=>simp at A;omega
   | succ n=>
    have:=ih (n+1) (by rw[d0O]at A;omega) (by omega);simpa using this
def c2T(u:Nat)(h:u<18446744073709551616):(J3 u).length<=10:=b6X u 10 (d0E h (by decide)) (by decide)
def lkB(l:Lk):List UInt8:=I7 l.length++(I7 l.low++(I7 l.high++(I7 l.speed++(I7 l.brake++j6 I5 l.shape))))
def amB(a:Am):List UInt8:=a0E a.name++(frB a.base++j6 lkB a.links)
def ptB(p:Pt):List UInt8:=a0E p.name++(j6 I5 p.shape++frB p.grasp)
def slB(s:Sl):List UInt8:=a0E s.name++(frB s.frame++I7 s.within)
def gtB(g:Gt):List UInt8:=a0E g.name++(I5 g.low++I5 g.high)
def wkB(w:Wk):List UInt8:=j6 amB w.arms++(j6 (j6 I5) w.walls++(j6 ptB w.parts++(j6 slB w.slots++(j6 gtB w.gates++I7 w.walk))))
def Ky.enc(x:Ky):List C:=[ints x.tick,rts x.q]
def Ky.c(x:Ky):C:=.agg x.enc
def tkC(t:List Ky):List C:=[.sl 2 (t.map Ky.enc)]
def kys(t:List Ky):C:=.sl 2 (t.map Ky.enc)
def tks(l:List (List Ky)):C:=.sl 1 (l.map tkC)
def Dy.enc(d:Dy):List C:=[ams d.works.arms,wls d.works.walls,pts d.works.parts,sls d.works.slots,gts d.works.gates,.v (.bool d.works.walk.neg),sb d.works.walk.num,sb d.works.walk.den,ints d.start.tick,J9 d.start.arms,frs d.start.parts,vts d.start.people,bls d.start.gates,tks d.tracks,fts d.faults,wls d.walks,ints d.ticks]
def Dy.c(d:Dy):C:=.agg d.enc
def kyB(x:Ky):List UInt8:=G8 x.tick++j6 I7 x.q
def ftB(f:Ft):List UInt8:=G8 f.tick++(G8 f.kind++G8 f.n)
def tlB(d:Dy):List UInt8:=a0M d.start++(j6 (j6 kyB) d.tracks++(j6 ftB d.faults++(j6 (j6 I5) d.walks++G8 d.ticks)))
def dyB(d:Dy):List UInt8:=wkB d.works++tlB d
def Wp{α:Type}(n:Nat)(r:Rdr α)(w:α->List UInt8):Prop:=∀s,(r s).2.bad=false->(w (r s).1).length+(r s).2.inp.length<=s.inp.length+n
theorem b3B:∀(k u:Nat),u<2^(7*(k+1))->(J3 u).length<=k+1
 | 0,u,h=>by rw[a3F (by omega)];exact d0m _
 | k+1,u,h=>by
  by_cases hu:u<128
  ·rw[a3F hu];simp
  ·rw[a5P hu,d0j];have h2:u/128<2^(7*(k+1)):=by
    refine Nat.div_lt_of_lt_mul ?_;have:2^(7*(k+1+1))=128*2^(7*(k+1)):=by rw[show 7*(k+1+1)=7+7*(k+1) by omega,Nat.pow_add]
    omega
   have:=b3B k (u/128) h2;omega
def c3D(u:Nat):0<(J3 u).length:=by
 by_cases h:u<128
 ·rw[a3F h];simp
 ·rw[a5P h];simp
theorem b2O:∀(l:List UInt8) (k u v:Nat) (r:List UInt8),u<2^(7*k)->a1a k u l=(some v,r)->∃j,v<2^(7*(k+(j+1)))/\r.length+(j+1)=l.length
 | [],k,u,v,r,_,h=>by unfold a1a at h;cases h
 | b::l,k,u,v,r,hu,h=>by
  unfold a1a at h;split at h
  ·cases h
  have hb:(b.toNat%128) <<< (7*k)<2^(7*(k+1)):=by
   rw[Nat.shiftLeft_eq,Nat.mul_add,Nat.pow_add,Nat.mul_comm];exact Nat.mul_lt_mul_of_pos_left (Nat.mod_lt _ (by decide)) (Nat.two_pow_pos _)
  have B:u<2^(7*(k+1)):=d0E hu (d0G (by decide) (by omega));have E:=Nat.or_lt_two_pow B hb;split at h
  ·injection h with A D;injection A with A;subst A D;exact⟨0,E,by simp⟩
  ·obtain⟨j,A,D⟩:=b2O l (k+1) _ v r E h;refine⟨j+1,?_,by simp only[d0j];omega⟩;rwa[show k+(j+1+1)=k+1+(j+1) by omega]
def a3b(old:Int):Wp 0 (l9 old) G8:=λs h=>by
 unfold l9 at h ⊢;split at h
 ·rename_i n r e;obtain⟨j,u,B⟩:=b2O s.inp 0 0 n r (by decide) e;have A:=b2J s.inp 0 0 (by decide) (by decide) n r e;rw[d0A]at u;have:=b3B j n u
  show(G8 (n:Int)).length+r.length<=_;rw[U7 (by omega)];omega
 ·cases h
def a9G:Wp 0 a0C a1s:=λs h=>by
 have A:(l9 0 s).2.bad=false:=by
  have:((l9 0 s).2.bad||decide (1<(l9 0 s).1))=false:=h;rw[d0F]at this;exact this.1
 have D:=a3b 0 s A;have B:0<(G8 (l9 0 s).1).length:=c3D _;have u:∀b,(a1s b).length=1:=λb=>by cases b<;>rfl
 rw[u]
 show 1+(l9 0 s).2.inp.length<=_;omega
def a5H:Wp 0 Y6 a0E:=λs h=>by
 have B:=Z9 (old:=0) ⟨by decide,by decide⟩ s.inp.length s (d0m _);unfold Y6 at h ⊢;split at h
 ·cases h
 ·rename_i E;rw[if_neg E];have D:=a3b 0 s h;have u:(l9 0 s).1.toNat<=(l9 0 s).2.inp.length:=by
   simp only[d0R,d0t,not_or]at E;omega
  obtain⟨n,F⟩:∃n:Nat,(l9 0 s).1=n:=⟨(l9 0 s).1.toNat,by have:=B.1;omega⟩
  have A:=B.2;rw[F]at D u A ⊢;rw[U7 (by omega)]at D;simp only[d0h]at u ⊢;simp only[a0E,d0c,d0r,d0L,Nat.min_eq_left u];omega
theorem b8x{α:Type}{u:Rdr α}{w:α->List UInt8}(hr:Rok u)(A:Wp 0 u w):∀n s,(F7 u n s).2.bad=false->(F7 u n s).1.length=n/\((F7 u n s).1.flatMap w).length+(F7 u n s).2.inp.length<=s.inp.length
 | 0,s,h=>⟨rfl,by simp[F7]⟩
 | n+1,s,h=>by
  unfold F7 at h ⊢;split at h
  ·rename_i hb;rw[hb]at h;cases h
  ·rename_i hb;rw[if_neg hb];have h0:(u s).2.bad=false:=by
    cases D:(u s).2.bad with
    | false=>rfl
    | true=>
     have:=(a6b hr n (u s).2).2 D;have h:(F7 u n (u s).2).2.bad=false:=h;rw[this]at h;cases h
   have F:=A s h0;obtain⟨B,E⟩:=b8x hr A n _ h;refine⟨by rw[d0j,B],?_⟩;simp only[List.flatMap_cons,d0c];omega
def V3{α:Type}{each:Rdr α}{w:α->List UInt8}(hr:Rok each)(he:Wp 0 each w):Wp 0 (q8 each) (j6 w):=λs h=>by
 have A:=Z9 (old:=0) ⟨by decide,by decide⟩ s.inp.length s (d0m _);have h:(F7 each (l9 0 s).1.toNat (l9 0 s).2).2.bad=false:=h;have H:(l9 0 s).2.bad=false:=by
  cases G:(l9 0 s).2.bad with
  | false=>rfl
  | true=>rw[(a6b hr _ _).2 G]at h;cases h
 have D:=a3b 0 s H;obtain⟨E,B⟩:=b8x hr he _ _ h;obtain⟨n,F⟩:∃n:Nat,(l9 0 s).1=n:=⟨(l9 0 s).1.toNat,by have:=A.1;omega⟩
 have u:=A.2
 show(j6 w (F7 each (l9 0 s).1.toNat (l9 0 s).2).1).length+(F7 each (l9 0 s).1.toNat (l9 0 s).2).2.inp.length<=_;unfold j6;rw[E,d0c];rw[F]at D B u ⊢;rw[U7 (by omega)]at D;simp only[d0h]at B ⊢;omega
def a0k{α:Type}{x:α}{w:α->List UInt8}{n:Nat}(h:(w x).length<=n):Wp n (H9 x) w:=λs _=>by
 show(w x).length+s.inp.length<=_;omega
def D7{α β:Type}{a:Rdr α}{f:α->Rdr β}{wa:α->List UInt8}{w:β->List UInt8}{n:Nat}(ha:Wp 0 a wa)(hf:∀x,Rok (f x))(h:∀x,Wp (n+(wa x).length) (f x) w):Wp n (p9 a f) w:=λs u=>by
 have u:(f (a s).1 (a s).2).2.bad=false:=u;have B:(a s).2.bad=false:=by
  cases A:(a s).2.bad with
  | false=>rfl
  | true=>rw[(hf _ _).2 A]at u;cases u
 have E:=ha s B;have D:=h (a s).1 (a s).2 u
 show(w (f (a s).1 (a s).2).1).length+(f (a s).1 (a s).2).2.inp.length<=_;omega
def a1M:Wp 0 P6 I7:=D7 a9G (λ_=>l8 X3.1 λ_=>l8 X3.1 λ_=>A8 _) λ_=>D7 a5H (λ_=>l8 X3.1 λ_=>A8 _) λ_=>D7 a5H (λ_=>A8 _) λ_=>a0k (by simp only[I7,d0c];omega)
def a9d:Wp 0 a1D I5:=D7 a1M (λ_=>l8 E5.1 λ_=>A8 _) λ_=>D7 a1M (λ_=>A8 _) λ_=>a0k (by simp only[I5,d0c];omega)
def a8E:Wp 0 a0h frB:=D7 a9d (λ_=>l8 a0i.1 λ_=>l8 E5.1 λ_=>A8 _) λ_=>D7 a9G (λ_=>l8 E5.1 λ_=>A8 _) λ_=>D7 a1M (λ_=>A8 _) λ_=>a0k (by simp only[frB,I5,d0c];omega)
def a9O:Wp 0 a0B (j6 I5):=V3 Y0.1 a9d
def c6i:Wp 0 a5F lkB:=D7 a1M (λ_=>l8 E5.1 λ_=>l8 E5.1 λ_=>l8 E5.1 λ_=>l8 E5.1 λ_=>l8 Q5.1 λ_=>A8 _) λ_=>D7 a1M (λ_=>l8 E5.1 λ_=>l8 E5.1 λ_=>l8 E5.1 λ_=>l8 Q5.1 λ_=>A8 _) λ_=>D7 a1M (λ_=>l8 E5.1 λ_=>l8 E5.1 λ_=>l8 Q5.1 λ_=>A8 _) λ_=>D7 a1M (λ_=>l8 E5.1 λ_=>l8 Q5.1 λ_=>A8 _) λ_=>D7 a1M (λ_=>l8 Q5.1 λ_=>A8 _) λ_=>D7 a9O (λ_=>A8 _) λ_=>a0k (by simp only[lkB,d0c];omega)
def c7m:Wp 0 a8g amB:=D7 a5H (λ_=>l8 U2.1 λ_=>l8 (D5 a4A.1).1 λ_=>A8 _) λ_=>D7 a8E (λ_=>l8 (D5 a4A.1).1 λ_=>A8 _) λ_=>D7 (V3 a4A.1 c6i) (λ_=>A8 _) λ_=>a0k (by simp only[amB,d0c];omega)
def c6s:Wp 0 a3S ptB:=D7 a5H (λ_=>l8 Q5.1 λ_=>l8 U2.1 λ_=>A8 _) λ_=>D7 a9O (λ_=>l8 U2.1 λ_=>A8 _) λ_=>D7 a8E (λ_=>A8 _) λ_=>a0k (by simp only[ptB,d0c];omega)
def c6L:Wp 0 a3o slB:=D7 a5H (λ_=>l8 U2.1 λ_=>l8 E5.1 λ_=>A8 _) λ_=>D7 a8E (λ_=>l8 E5.1 λ_=>A8 _) λ_=>D7 a1M (λ_=>A8 _) λ_=>a0k (by simp only[slB,d0c];omega)
def c6a:Wp 0 a2J gtB:=D7 a5H (λ_=>l8 Y0.1 λ_=>l8 Y0.1 λ_=>A8 _) λ_=>D7 a9d (λ_=>l8 Y0.1 λ_=>A8 _) λ_=>D7 a9d (λ_=>A8 _) λ_=>a0k (by simp only[gtB,d0c];omega)
def c2P:Wp 0 a4Y wkB:=
 have B:∀a w p s g,Rok (p9 P6 λk=>H9 (⟨a,w,p,s,g,k⟩:Wk)):=λ_ _ _ _ _=>l8 E5.1 λ_=>A8 _;have u:∀a w p s,Rok (p9 (q8 a2J) λg=>p9 P6 λk=>H9 (⟨a,w,p,s,g,k⟩:Wk)):=λa w p s=>l8 (D5 a5X.1).1 λg=>B a w p s g;have h:∀a w p,Rok (p9 (q8 a3o) λs=>p9 (q8 a2J) λg=>p9 P6 λk=>H9 (⟨a,w,p,s,g,k⟩:Wk)):=λa w p=>l8 (D5 a6h.1).1 λs=>u a w p s;have A:∀a w,Rok (p9 (q8 a3S) λp=>p9 (q8 a3o) λs=>p9 (q8 a2J) λg=>p9 P6 λk=>H9 (⟨a,w,p,s,g,k⟩:Wk)):=λa w=>l8 (D5 a6x.1).1 λp=>h a w p;have D:∀a,Rok (p9 (q8 a0B) λw=>p9 (q8 a3S) λp=>p9 (q8 a3o) λs=>p9 (q8 a2J) λg=>p9 P6 λk=>H9 (⟨a,w,p,s,g,k⟩:Wk)):=λa=>l8 (D5 Q5.1).1 λw=>A a w
 D7 (V3 a9C.1 c7m) D λa=>D7 (V3 Q5.1 a9O) (A a) λw=>D7 (V3 a6x.1 c6s) (h a w) λp=>D7 (V3 a6h.1 c6L) (u a w p) λs=>D7 (V3 a5X.1 c6a) (B a w p s) λg=>D7 a1M (λ_=>A8 _) λ_=>a0k (by simp only[wkB,d0c];omega)
def b0W(n:Int):G8 (IntKind.i64.wrap n)=G8 n:=by
 have u:IntKind.i64.wrap n=(if n%18446744073709551616>=9223372036854775808 then n%18446744073709551616-18446744073709551616 else n%18446744073709551616):=by
  simp[IntKind.wrap,IntKind.signed,IntKind.bits]
 have h:∀m:Int,IntKind.u64.wrap m=m%18446744073709551616:=λm=>by simp[IntKind.wrap,IntKind.signed,IntKind.bits]
 unfold G8;rw[h,h,u];congr 2;split<;>omega
def c2s:Wp 0 a5p (λh=>G8 (IntKind.i64.wrap (h+1))):=D7 (a3b 1) (λ_=>A8 _) λn=>a0k (by
 rw[show n-1+1=n by omega,b0W];omega)
def c6A:Wp 0 a4V a2x:=
 have u:∀q v p,Rok (p9 a5p λh=>H9 (⟨q,v,p,h⟩:Ast)):=λ_ _ _=>l8 a9h.1 λ_=>A8 _;have A:∀q v,Rok (p9 a0C λp=>p9 a5p λh=>H9 (⟨q,v,p,h⟩:Ast)):=λq v=>l8 a0i.1 λp=>u q v p;have B:∀q,Rok (p9 (q8 P6) λv=>p9 a0C λp=>p9 a5p λh=>H9 (⟨q,v,p,h⟩:Ast)):=λq=>l8 (D5 E5.1).1 λv=>A q v
 D7 (V3 E5.1 a1M) B λq=>D7 (V3 E5.1 a1M) (A q) λv=>D7 a9G (u q v) λp=>D7 c2s (λ_=>A8 _) λh=>a0k (by simp only[a2x,d0c];omega)
def c2n:Wp 0 a3V a0M:=
 have u:∀t a p v,Rok (p9 (q8 a0C) λo=>H9 (⟨t,a,p,v,o⟩:Stt)):=λ_ _ _ _=>l8 (D5 a0i.1).1 λ_=>A8 _;have h:∀t a p,Rok (p9 (q8 a1D) λv=>p9 (q8 a0C) λo=>H9 (⟨t,a,p,v,o⟩:Stt)):=λt a p=>l8 (D5 Y0.1).1 λv=>u t a p v;have A:∀t a,Rok (p9 (q8 a0h) λp=>p9 (q8 a1D) λv=>p9 (q8 a0C) λo=>H9 (⟨t,a,p,v,o⟩:Stt)):=λt a=>l8 (D5 U2.1).1 λp=>h t a p;have B:∀t,Rok (p9 (q8 a4V) λa=>p9 (q8 a0h) λp=>p9 (q8 a1D) λv=>p9 (q8 a0C) λo=>H9 (⟨t,a,p,v,o⟩:Stt)):=λt=>l8 (D5 a6m.1).1 λa=>A t a
 D7 (a3b 0) B λt=>D7 (V3 a6m.1 c6A) (A t) λa=>D7 (V3 U2.1 a8E) (h t a) λp=>D7 (V3 Y0.1 a9d) (u t a p) λv=>D7 (V3 a0i.1 a9G) (λ_=>A8 _) λo=>a0k (by simp only[a0M,d0c];omega)
def c8k:Wp 0 a3t kyB:=D7 (a3b 0) (λ_=>l8 (D5 E5.1).1 λ_=>A8 _) λ_=>D7 (V3 E5.1 a1M) (λ_=>A8 _) λ_=>a0k (by simp only[kyB,d0c];omega)
def c2Z:Wp 0 a2j ftB:=D7 (a3b 0) (λ_=>l8 (O3 0).1 λ_=>l8 (O3 0).1 λ_=>A8 _) λ_=>D7 (a3b 0) (λ_=>l8 (O3 0).1 λ_=>A8 _) λ_=>D7 (a3b 0) (λ_=>A8 _) λ_=>a0k (by simp only[ftB,d0c];omega)
def c0D:Wp 0 a9t dyB:=
 have B:∀w s t f l,Rok (p9 (l9 0) λn=>H9 (⟨w,s,t,f,l,n⟩:Dy)):=λ_ _ _ _ _=>l8 (O3 0).1 λ_=>A8 _;have u:∀w s t f,Rok (p9 (q8 a0B) λl=>p9 (l9 0) λn=>H9 (⟨w,s,t,f,l,n⟩:Dy)):=λw s t f=>l8 (D5 Q5.1).1 λl=>B w s t f l;have h:∀w s t,Rok (p9 (q8 a2j) λf=>p9 (q8 a0B) λl=>p9 (l9 0) λn=>H9 (⟨w,s,t,f,l,n⟩:Dy)):=λw s t=>l8 (D5 a7c.1).1 λf=>u w s t f;have A:∀w s,Rok (p9 (q8 (q8 a3t)) λt=>p9 (q8 a2j) λf=>p9 (q8 a0B) λl=>p9 (l9 0) λn=>H9 (⟨w,s,t,f,l,n⟩:Dy)):=λw s=>l8 (D5 (D5 a5G.1).1).1 λt=>h w s t
 have D:∀w,Rok (p9 a3V λs=>p9 (q8 (q8 a3t)) λt=>p9 (q8 a2j) λf=>p9 (q8 a0B) λl=>p9 (l9 0) λn=>H9 (⟨w,s,t,f,l,n⟩:Dy)):=λw=>l8 b2R.1 λs=>A w s
 D7 c2P D λw=>D7 c2n (A w) λs=>D7 (V3 (D5 a5G.1).1 (V3 a5G.1 c8k)) (h w s) λt=>D7 (V3 a7c.1 c2Z) (u w s t) λf=>D7 (V3 Q5.1 a9O) (B w s t f) λl=>D7 (a3b 0) (λ_=>A8 _) λn=>a0k (by simp only[dyB,tlB,d0c];omega)
open Go Eng
def b1l(n:Int):IntKind.u8.wrap n=n%256:=by simp[IntKind.wrap,IntKind.signed,IntKind.bits]
def c8x(u:Nat)(h:u<128):IntKind.u8.wrap (u:Int)=((UInt8.ofNat u).toNat:Int):=by
 rw[b1l,UInt8.toNat_ofNat'];omega
def c9J(u:Nat)(h:u<18446744073709551616):IntKind.u8.wrap (Go.bits .or .u64 (Go.bits .and .u64 (u:Int) 127) 128)=((UInt8.ofNat (u%128+128)).toNat:Int):=by
 have A:Go.bits .and .u64 (u:Int) 127=((u%128:Nat):Int):=by
  have:=bits_and_u64_nat u 127 h (by omega);rw[show(127:Nat)=2^7-1 from rfl,Nat.and_two_pow_sub_one_eq_mod]at this;exact this
 have D:Go.bits .or .u64 ((u%128:Nat):Int) 128=((u%128+128:Nat):Int):=by
  have:=bits_or_u64_nat (u%128) 128 (by omega) (by omega);have B:u%128 ||| 128=u%128+128:=by
   have:=Nat.two_pow_add_eq_or_of_lt (i:=7) (b:=u%128) (by omega) 1;simp at this;rw[Nat.or_comm,<- this];omega
  rw[B]at this;exact this
 rw[A,D,b1l,UInt8.toNat_ofNat'];omega
def c2v{u:Nat}:((u:Int).fdiv 128)=((u/128:Nat):Int):=by
 rw[Int.fdiv_eq_ediv_of_nonneg _ (by omega)];omega
def b5T(x:UInt8):a0L [[C.v (.int .u8 (x.toNat:Int))]]=some [x]:=Q8 [x]
def a2q{α β:Type}(f:α->List β){l:List α}{i:Nat}(h:i<l.length):(l.take (i+1)).flatMap f=(l.take i).flatMap f++f l[i]:=by
 rw[d0T h,List.flatMap_append];simp
def a3f{α β:Type}(f:α->List β){l:List α}{i:Nat}(h:i<l.length):((l.take i).flatMap f).length+(f l[i]).length<=(l.flatMap f).length:=by
 have:=a2q f h;have u:l.flatMap f=(l.take (i+1)).flatMap f++(l.drop (i+1)).flatMap f:=by rw[<- List.flatMap_append,List.take_append_drop]
 rw[u,this];simp only[d0c];omega
def c8C{α β:Type}(f:α->List β){l:List α}{z:α}(h:z∈l):(f z).length<=(l.flatMap f).length:=by
 obtain⟨i,u,rfl⟩:=List.getElem_of_mem h;have:=a3f f u;omega
def P7{α:Type}(f:α->List UInt8){l:List α}{z:α}(h:z∈l){m:Nat}(u:(j6 f l).length<=m):(f z).length<=m:=by
 have:=c8C f h;unfold j6 at u;rw[d0c]at u;omega
def a2i(n:Int):p8 Tryz.prog 32 [ints n] (sb (G8 n)):=by
 refine kS Tryz.func32 (by cbv) (by rfl) λw O=>?_;simp only[j4,TT,OA,MM,ints];have H:0<=IntKind.u64.wrap n/\IntKind.u64.wrap n<18446744073709551616:=by rw[a4l];omega
 have F:G8 n=J3 (IntKind.u64.wrap n).toNat:=rfl;rw[F];obtain⟨D,I⟩:∃D:Nat,IntKind.u64.wrap n=(D:Int):=⟨(IntKind.u64.wrap n).toNat,by omega⟩
 rw[I]at H ⊢;rw[d0h];have J:=c2T D (by omega);(repeat first|refine uA ?_|simp(disch:=omega) only[go_sem,I]);refine S.loop (X:=Nat×List UInt8) (λp=>⟨[(3,sb p.2),(4,.v (.int .u64 p.1))],[]⟩)
  (λp=>J3 D=p.2++J3 p.1/\p.1<18446744073709551616) (λp=>p.1) (D,[]) ⟨rfl,by simp only;omega⟩ (by repeat first|refine uA ?_|refine⟨rfl,?_⟩|rfl|simp) ?_
 rintro⟨u,done⟩ ⟨h,E⟩;simp only[sb]at h E ⊢;have B:done.length+(J3 u).length<=10:=by
  have:=congrArg List.length h;simp at this;omega
 (repeat first|refine uA ?_|simp(disch:=omega) only[go_sem]);apply uJ rfl<;>intro K
 ·have A:u<128:=by omega
  rw[a3F A]at h;(repeat first|refine uA ?_|simp(disch:=omega) only[go_sem,Nat.reduceAdd,Nat.reduceLeDiff,b5T,a1J,x9,R4,c8x u A,d0j,List.length_nil]);rw[h];exact uS rfl rfl
 ·have A:¬u<128:=by omega
  rw[a5P A]at h;have G:=a5P A;rw[G,d0j]at B;(repeat first|refine uA ?_|simp(disch:=omega) only[go_sem,Nat.reduceAdd,Nat.reduceLeDiff,Int.reducePow,b5T,a1J,x9,R4,c9J u E,c2v,d0j,List.length_nil]);refine S.next (x:=(u,done)) (u/128,done++[UInt8.ofNat (u%128+128)]) ⟨by rw[h];simp,by simp only;omega⟩ (by simp only;omega) (by repeat first|refine uA ?_|refine⟨rfl,?_⟩|rfl|simp)
def a8b(b:Bool):p8 Tryz.prog 61 [.v (.bool b)] (sb (a1s b)):=by
 refine kS Tryz.func61 (by cbv) (by rfl) λw O=>?_;simp only[j4,TT,OA,MM];refine uV rfl ?_;apply S.cond rfl<;>intro h
 ·subst h;exact uT rfl rfl rfl
 ·subst h;exact uT rfl rfl rfl
def a5R(s:List UInt8)(h:(a0E s).length<=140737488355328):p8 Tryz.prog 16 [sb s] (sb (a0E s)):=by
 refine kS Tryz.func16 (by cbv) (by rfl) λw O=>?_;unfold a0E at h ⊢;rw[d0c]at h;have u:=a2i s.length;rw[U7 (by omega)]at u;simp only[j4,TT,OA,MM];simp only[sb,ints]at*;(repeat first|refine uA ?_|simp(disch:=omega) only[go_sem,x9,R4]|refine uB u rfl ?_);exact uS rfl rfl
def X9(a:Nm.Rt)(h:(I7 a).length<=140737488355328):p8 Tryz.prog 12 [rc a] (sb (I7 a)):=by
 refine kS Tryz.func12 (by cbv) (by rfl) λw O=>?_;unfold I7 at h ⊢;simp only[d0c]at h;have B:=a8b a.neg;have A:=a5R a.num (by omega);have u:=a5R a.den (by omega);simp only[j4,TT,OA,MM,VV,FF];simp only[rc,sb]at*;(repeat first|refine uA ?_|simp(disch:=omega) only[go_sem,Nat.reduceAdd,x9,R4,d0c,d0o]|refine uB B rfl ?_|refine uB A rfl ?_|refine uB u rfl ?_);exact uS rfl rfl
def a6g(v:Vt)(h:(I5 v).length<=140737488355328):p8 Tryz.prog 26 [v.c] (sb (I5 v)):=by
 refine kS Tryz.func26 (by cbv) (by rfl) λw O=>?_;unfold I5 at h ⊢;simp only[d0c]at h;have A:=X9 v.x (by omega);have u:=X9 v.y (by omega);generalize I7 v.x=B at*;generalize I7 v.y=D at*;simp only[j4,TT,OA,MM,LL,FF];simp only[Vt.c,Vt.enc,rc,sb]at*;(repeat first|refine uA ?_|simp(disch:=omega) only[go_sem,Nat.reduceAdd,Nat.reduceLeDiff,x9,R4]|refine uB A rfl ?_|refine uB u rfl ?_);exact uS rfl rfl
def a6W(f:Fr)(h:(frB f).length<=140737488355328):p8 Tryz.prog 17 [f.c] (sb (frB f)):=by
 refine kS Tryz.func17 (by cbv) (by rfl) λw O=>?_;unfold frB at h ⊢;simp only[d0c]at h;have u:=a6g ⟨f.x,f.y⟩ (show(I7 f.x++I7 f.y).length<=_ by rw[d0c];omega);have B:=a8b f.half;have A:=X9 f.t (by omega);unfold I5 at u;generalize I7 f.x=D at*;generalize I7 f.y=E at*;generalize I7 f.t=F at*;simp only[j4,TT,OA,MM,LL,VV,FF];simp only[Fr.c,Fr.enc,Vt.c,Vt.enc,rc,sb]at*;(repeat first|refine uA ?_|simp(disch:=omega) only[go_sem,Nat.reduceAdd,Nat.reduceLeDiff,x9,R4,d0c,d0o]|refine uB u rfl ?_|refine uB B rfl ?_|refine uB A rfl ?_);exact uS rfl rfl
set_option maxRecDepth 100000
set_option maxHeartbeats 8000000
mutual
theorem b9p(n:Nat):∀(c:C),c.cl=true->c.bd n=true
 | .v _,_=>rfl
 | .agg cs,h=>by simp only[C.cl]at h;simp only[C.bd];exact a5a n cs h
 | .tup cs,h=>by simp only[C.cl]at h;simp only[C.bd];exact a5a n cs h
 | .sl _ _,_=>rfl
 | .nl,_=>rfl
 | .ep _,_=>rfl
 | .clo _ cs,h=>by simp only[C.cl]at h;simp only[C.bd];exact a5a n cs h
 | .bnd _ x,h=>by simp only[C.cl]at h;simp only[C.bd];exact b9p n x h
 | .any _,_=>rfl
 | .bp _ _,h=>by simp only[C.cl]at h;cases h
 | .rv _,h=>by simp only[C.cl]at h;cases h
 | .rp _ _ _ _,h=>by simp only[C.cl]at h;cases h
 | .mp _,h=>by simp only[C.cl]at h;cases h
 | .wv _ _ _ _,h=>by simp only[C.cl]at h;cases h
 | .g _ _,h=>by simp only[C.cl]at h;cases h
 | .junk,h=>by simp only[C.cl]at h;cases h
theorem a5a(n:Nat):∀(cs:List C),C.clL cs=true->C.bdL n cs=true
 | [],_=>rfl
 | c::cs,h=>by
  simp only[C.clL,d0s]at h;simp only[C.bdL,b9p n c h.1,a5a n cs h.2,Bool.and_self]
end
def c5V(n:Nat)(a b:List C):C.bdL n (a++b)=(C.bdL n a&&C.bdL n b):=by
 induction a with
 | nil=>simp[C.bdL]
 | cons x a ih=>simp only[List.cons_append,C.bdL,ih,Bool.and_assoc]
class Clz(cs:List C):Prop where
 h:C.clL cs=true
instance{n:Nat}{cs:List C}[h:Clz cs]:Eng.Sb (C.bdL n cs=true) True:=⟨λ_=>a5a n cs h.h⟩
instance{n:Nat}{cs l:List C}[h:Clz cs]:Eng.Sb (C.bdL n (cs++l)=true) (C.bdL n l=true):=⟨λe=>by rw[c5V,a5a n cs h.h,e];rfl⟩
def rlI(e:TypeId)(sz:Nat)(zero:List Value):a3N:=⟨24,[.tmp 4],.seq (.reg [OA 4 (.mv (.const (.string ⟨#[]⟩)))]) (.seq (.reg [MM 8 0,OA 9 (.len false (TT 8)),OA 10 (.call 32 [TT 9]),MM 5 10]) (.seq (.seq (.reg [MM 11 0,OA 12 (.len false (TT 11)),OA 13 (.mv (II 0))]) (.block 0 (.loop (.seq (.reg [OA 14 (.bin .lss (TT 13) (TT 12))]) (.seq (.cond (TT 14) .skip (.exit 0)) (.seq (.block 1 (.seq (.reg [OA 15 (.iaddr sz (TT 11) (TT 13)),LL 16 sz 15,OA 7 (.alloc e zero),OB (.store sz (TT 7) (TT 16))]) (.reg [MM 17 5,MM 18 1,LL 19 sz 7,OA 20 (.Z4 (TT 18) [TT 19]),OA 21 (.bin .add (TT 17) (TT 20)),MM 5 21]))) (.reg [OA 22 (.bin .add (TT 13) (II 1)),MM 13 22]))))))) (.seq (.reg [MM 23 5,MM 4 23]) .ret)))⟩
structure RlA{α:Type}(sz:Nat)(zero:List Value)(enc:α->List C):Prop where
 len:∀x,(enc x).length=sz
 pos:0<sz
 cl:∀x,C.clL (enc x)=true
 ones:∀x,C.ones (enc x)=true
 z1:a0g zero=true
 zl:zero.length=sz
 small:sz<=1000
def a4K{α:Type}{f g:Nat}{P:Func}{e:TypeId}{sz:Nat}{zero:List Value}{enc:α->List C}{w:α->List UInt8}(W:Tryz.prog.funcs[f]?=some P)(M:a0D eff Tryz.prog P=some (rlI e sz zero))(u:RlA sz zero enc)(D:callable Tryz.prog g=true)(l:List α)(R:(j6 w l).length<=140737488355328)(Y:l.length<=1099511627776)(N:∀x∈l,p8 Tryz.prog g [.agg (enc x)] (sb (w x))) :
  p8 Tryz.prog f [.sl sz (l.map enc),.v (.func (.func g) #[] #[])] (sb (j6 w l)):=by
 have A:∀x,C.clL (enc x)=true:=u.cl;haveI:∀x,Clz (enc x):=λx=>⟨A x⟩
 have J:∀x,(enc x).take sz=enc x:=λx=>d0y (by rw[u.len];exact d0m _);have F:(zero.map C.v).length=sz:=by rw[d0d];exact u.zl
 have G:(zero.map C.v).drop sz=[]:=List.drop_of_length_le (by rw[F];exact d0m _);have K:=u.pos;have U:=u.small;refine p8.of W M (by exact d0n rfl) λZ O=>?_;unfold j6 at R ⊢;rw[d0c]at R;have H:=a2i l.length;rw[U7 (by omega)]at H;simp only[rlI,j4,TT,II,OA,OB,MM,LL];simp only[sb,ints]at H N ⊢;generalize J3 l.length=d at*;(repeat first|refine uA ?_|simp(disch:=omega) only[go_sem,Nat.reduceAdd,d0d]|refine uB H rfl ?_);refine S.loop (X:=Nat) (λi=>⟨[(1,.v (.func (.func g) #[] #[])),(5,sb (d++(l.take i).flatMap w)),(11,.sl sz (l.map enc)),(12,ints l.length),(13,ints i)],[]⟩)
  (λi=>i<=l.length) (λi=>l.length-i) 0 (d0k _) (by simp only[List.take_zero,List.flatMap_nil,List.append_nil];exact(by repeat first|refine uA ?_|refine⟨rfl,?_⟩|rfl|simp)) ?_
 intro i V;simp only[sb,ints]at V ⊢;refine uV rfl ?_;apply uJ rfl<;>intro M
 ·have h:i<l.length:=by omega
  have B:=d0b h;have E:=a2q w h;have I:=a3f w h;generalize l[i]=x at B E I;have T:=N x (d0g B);(repeat first|refine uA ?_|simp(disch:=omega) only[go_sem,J,u.ones,u.len,u.z1,F,G,B,List.nil_append,List.append_nil,List.drop_zero,List.take_zero,d0A,d0e,d0d,d0h,D]);refine uC T (by simp only[C.clL,C.cl,A,C.flat,Bool.and_self]) (j3.cons (Imp.refl (by rw[C.bd];exact a5a _ _ (A x))) j3.nil) ?_
  (repeat first|refine uA ?_|simp(disch:=omega) only[go_sem,ww,x9,R4,d0c,d0o]);refine S.next (x:=i) (i+1) (by omega) (by omega) (by rw[E];exact(by repeat first|refine uA ?_|refine⟨rfl,?_⟩|rfl|simp))
 ·have h:i=l.length:=by omega
  subst h;rw[d0w];exact uT rfl rfl rfl
def c7E:a3N:=⟨24,[.tmp 4],.seq (.reg [OA 4 (.mv (.const (.string ⟨#[]⟩)))]) (.seq (.reg [MM 8 0,OA 9 (.len false (TT 8)),OA 10 (.call 32 [TT 9]),MM 5 10]) (.seq (.seq (.reg [MM 11 0,OA 12 (.len false (TT 11)),OA 13 (.mv (II 0))]) (.block 0 (.loop (.seq (.reg [OA 14 (.bin .lss (TT 13) (TT 12))]) (.seq (.cond (TT 14) .skip (.exit 0)) (.seq (.block 1 (.seq (.reg [OA 15 (.iaddr 1 (TT 11) (TT 13)),VV 16 15,MM 7 16]) (.reg [MM 17 5,MM 18 1,MM 19 7,OA 20 (.Z4 (TT 18) [TT 19]),OA 21 (.bin .add (TT 17) (TT 20)),MM 5 21]))) (.reg [OA 22 (.bin .add (TT 13) (II 1)),MM 13 22]))))))) (.seq (.reg [MM 23 5,MM 4 23]) .ret)))⟩
def c4S{α:Type}{f g:Nat}{H:Func}{k:Nat}{m:α->List (List C)}{w:α->List UInt8}(M:Tryz.prog.funcs[f]?=some H)(F:a0D eff Tryz.prog H=some c7E)(A:callable Tryz.prog g=true)(l:List α)(I:(j6 w l).length<=140737488355328)(N:l.length<=1099511627776)(G:∀x∈l,p8 Tryz.prog g [.sl k (m x)] (sb (w x))) :
  p8 Tryz.prog f [.sl 1 (l.map λx=>[C.sl k (m x)]),.v (.func (.func g) #[] #[])] (sb (j6 w l)):=by
 refine p8.of M F (by exact d0n rfl) λP O=>?_;unfold j6 at I ⊢;rw[d0c]at I;have D:=a2i l.length;rw[U7 (by omega)]at D;simp only[c7E,j4,TT,II,OA,MM,VV];simp only[sb,ints]at D G ⊢;generalize J3 l.length=d at*;(repeat first|refine uA ?_|simp(disch:=omega) only[go_sem,Nat.reduceAdd,d0d]|refine uB D rfl ?_);refine S.loop (X:=Nat) (λi=>⟨[(1,.v (.func (.func g) #[] #[])),(5,sb (d++(l.take i).flatMap w)),(11,.sl 1 (l.map λx=>[C.sl k (m x)])),(12,ints l.length),(13,ints i)],[]⟩)
  (λi=>i<=l.length) (λi=>l.length-i) 0 (d0k _) (by simp only[List.take_zero,List.flatMap_nil,List.append_nil];exact(by repeat first|refine uA ?_|refine⟨rfl,?_⟩|rfl|simp)) ?_
 intro i K;simp only[sb,ints]at K ⊢;refine uV rfl ?_;apply uJ rfl<;>intro F
 ·have h:i<l.length:=by omega
  have u:=d0b h;have B:=a2q w h;have E:=a3f w h;generalize l[i]=x at u B E;have J:=G x (d0g u);(repeat first|refine uA ?_|simp(disch:=omega) only[go_sem,ww,u,d0e,d0d,d0h,A,x9,R4,d0c,d0o]|refine uB J rfl ?_);refine S.next (x:=i) (i+1) (by omega) (by omega) (by rw[B];exact(by repeat first|refine uA ?_|refine⟨rfl,?_⟩|rfl|simp))
 ·have h:i=l.length:=by omega
  subst h;rw[d0w];exact uT rfl rfl rfl
def a7v(g:Nat)(hcal:callable Tryz.prog g=true)(f:Nm.Rt->List UInt8)(l:List Nm.Rt)(hl:(j6 f l).length<=140737488355328)(hn:l.length<=1099511627776)(hg:∀x∈l,p8 Tryz.prog g [rc x] (sb (f x))) :
  p8 Tryz.prog 33 [rts l,.v (.func (.func g) #[] #[])] (sb (j6 f l)):=
 a4K (sz:=3) (e:=29) (zero:=[.bool false,.string ⟨#[]⟩,.string ⟨#[]⟩]) Tryz.func33 (by kernel_rfl) ⟨λ_=>rfl,by decide,λ_=>rfl,λ_=>rfl,rfl,rfl,by decide⟩ hcal l hl hn hg
def b6P(g:Nat)(hcal:callable Tryz.prog g=true)(f:Ast->List UInt8)(l:List Ast)(hl:(j6 f l).length<=140737488355328)(hn:l.length<=1099511627776)(hg:∀x∈l,p8 Tryz.prog g [x.c] (sb (f x))) :
  p8 Tryz.prog 64 [J9 l,.v (.func (.func g) #[] #[])] (sb (j6 f l)):=
 a4K (sz:=4) (e:=115) (zero:=[.slice none 0 0,.slice none 0 0,.bool false,.int .i64 0]) Tryz.func64 (by kernel_rfl) ⟨λ_=>rfl,by decide,λ_=>rfl,λ_=>rfl,rfl,rfl,by decide⟩ hcal l hl hn hg
def b9y(g:Nat)(hcal:callable Tryz.prog g=true)(f:Fr->List UInt8)(l:List Fr)(hl:(j6 f l).length<=140737488355328)(hn:l.length<=1099511627776)(hg:∀x∈l,p8 Tryz.prog g [x.c] (sb (f x))) :
  p8 Tryz.prog 65 [frs l,.v (.func (.func g) #[] #[])] (sb (j6 f l)):=
 a4K (sz:=10) (e:=70) (zero:=[.bool false,.string ⟨#[]⟩,.string ⟨#[]⟩,.bool false,.string ⟨#[]⟩,.string ⟨#[]⟩,.bool false,.bool false,.string ⟨#[]⟩,.string ⟨#[]⟩]) Tryz.func65 (by kernel_rfl) ⟨λ_=>rfl,by decide,λ_=>rfl,λ_=>rfl,rfl,rfl,by decide⟩ hcal l hl hn hg
def b0n(g:Nat)(hcal:callable Tryz.prog g=true)(f:Vt->List UInt8)(l:List Vt)(hl:(j6 f l).length<=140737488355328)(hn:l.length<=1099511627776)(hg:∀x∈l,p8 Tryz.prog g [x.c] (sb (f x))) :
  p8 Tryz.prog 62 [vts l,.v (.func (.func g) #[] #[])] (sb (j6 f l)):=
 a4K (sz:=6) (e:=66) (zero:=[.bool false,.string ⟨#[]⟩,.string ⟨#[]⟩,.bool false,.string ⟨#[]⟩,.string ⟨#[]⟩]) Tryz.func62 (by kernel_rfl) ⟨λ_=>rfl,by decide,λ_=>rfl,λ_=>rfl,rfl,rfl,by decide⟩ hcal l hl hn hg
def b5g(g:Nat)(A:callable Tryz.prog g=true)(f:Bool->List UInt8)(l:List Bool)(H:(j6 f l).length<=140737488355328)(J:l.length<=1099511627776)(F:∀x∈l,p8 Tryz.prog g [.v (.bool x)] (sb (f x))) :
  p8 Tryz.prog 66 [bls l,.v (.func (.func g) #[] #[])] (sb (j6 f l)):=by
 refine kS Tryz.func66 (by cbv) (by rfl) λw O=>?_;unfold j6 at H ⊢;rw[d0c]at H;have E:=a2i l.length;rw[U7 (by omega)]at E;simp only[j4,TT,II,OA,MM,VV,bls];simp only[sb,ints]at E F ⊢;generalize J3 l.length=d at*;(repeat first|refine uA ?_|simp(disch:=omega) only[go_sem,Nat.reduceAdd,d0d]|refine uB E rfl ?_);refine S.loop (X:=Nat) (λi=>⟨[(1,.v (.func (.func g) #[] #[])),(5,sb (d++(l.take i).flatMap f)),(11,bls l),(12,ints l.length),(13,ints i)],[]⟩)
  (λi=>i<=l.length) (λi=>l.length-i) 0 (d0k _) (by simp only[List.take_zero,List.flatMap_nil,List.append_nil];exact(by repeat first|refine uA ?_|refine⟨rfl,?_⟩|rfl|simp)) ?_
 intro i I;simp only[bls,sb,ints]at I ⊢;refine uV rfl ?_;apply uJ rfl<;>intro K
 ·have h:i<l.length:=by omega
  have u:=d0b h;have B:=a2q f h;have D:=a3f f h;generalize l[i]=x at u B D;have G:=F x (d0g u)
  (try simp only[sb]at G)
  (repeat first|refine uA ?_|simp(disch:=omega) only[go_sem,ww,u,d0e,d0d,d0h,A,x9,R4,d0c,d0o]|refine uB G rfl ?_);refine S.next (i+1) (by omega) (by omega) (by rw[B];exact(by repeat first|refine uA ?_|refine⟨rfl,?_⟩|rfl|simp))
 ·have h:i=l.length:=by omega
  subst h;rw[d0w];exact uT rfl rfl rfl
def c7B(x:Ast)(B:(a2x x).length<=140737488355328)(K:Rbs 1073741824 x.q)(H:Rbs 1073741824 x.v):p8 Tryz.prog 63 [x.c] (sb (a2x x)):=by
 refine kS Tryz.func63 (by cbv) (by rfl) λw O=>?_;unfold a2x at B ⊢;simp only[d0c]at B;have J:=K.1;have I:=H.1;have D:=a7v 12 (by kernel_rfl) I7 x.q (by omega) (by omega) (λz u=>X9 z (P7 I7 u (by omega)));have F:=a7v 12 (by kernel_rfl) I7 x.v (by omega) (by omega) (λz u=>X9 z (P7 I7 u (by omega)));have E:=a8b x.power;have G:=a2i (IntKind.i64.wrap (x.holds+1));obtain⟨q,v,h,A⟩:=x;generalize j6 I7 q=M at*;generalize j6 I7 v=N at*;generalize a1s h=P at*;simp only[j4,TT,II,OA,MM,VV,FF];simp only[Ast.c,Ast.enc,rts,sb,ints]at D F E G B J I ⊢
 (repeat first|refine uA ?_|simp(disch:=omega) only[go_sem,Nat.reduceAdd,x9,R4,d0c,d0o]|refine uB D rfl ?_|refine uB F rfl ?_|refine uB E rfl ?_|refine uB G rfl ?_);exact uS rfl rfl
structure Stw(s:Stt):Prop where
 arms:s.arms.length<=1073741824/\∀x∈s.arms,Asb 1073741824 x
 parts:s.parts.length<=1073741824
 people:s.people.length<=1073741824
 gates:s.gates.length<=1073741824
def Stb.w{s:Stt}(h:Stb 1073741824 s):Stw s:=⟨h.arms,h.parts.1,h.people.1,h.gates⟩
def c4f(s:Stt)(D:Stw s)(F:(a0M s).length<=140737488355328):p8 Tryz.prog 27 [s.c] (sb (a0M s)):=by
 refine kS Tryz.func27 (by cbv) (by rfl) λw O=>?_;unfold a0M at F ⊢;simp only[d0c]at F;have X:=D.arms.1;have T:=D.parts;have N:=D.people;have R:=D.gates;have G:=a2i s.tick;have K:=b6P 63 (by kernel_rfl) a2x s.arms (by omega) (by omega) (λz A=>c7B z (P7 a2x A (by omega)) (D.arms.2 z A).1 (D.arms.2 z A).2);have H:=b9y 17 (by kernel_rfl) frB s.parts (by omega) (by omega) (λz A=>a6W z (P7 frB A (by omega)));have M:=b0n 26 (by kernel_rfl) I5 s.people (by omega) (by omega) (λz A=>a6g z (P7 I5 A (by omega)));have J:=b5g 61 (by kernel_rfl) a1s s.gates (by omega) (by omega) (λz _=>a8b z);obtain⟨I,E,u,h,B⟩:=s;generalize j6 a2x E=P at*
 generalize j6 frB u=U at*;generalize j6 I5 h=W at*;generalize j6 a1s B=V at*;simp only[j4,TT,OA,MM,VV,FF];simp only[Stt.c,Stt.enc,J9,frs,vts,bls,sb,ints]at G K H M J F ⊢;(repeat first|refine uA ?_|simp(disch:=omega) only[go_sem,Nat.reduceAdd,x9,R4,d0c,d0o]|refine uB G rfl ?_|refine uB K rfl ?_|refine uB H rfl ?_|refine uB M rfl ?_|refine uB J rfl ?_);exact uS rfl rfl
set_option maxRecDepth 10000
set_option maxHeartbeats 4000000
structure Cd where
 rd:Bool
 i:List UInt8
 b:Bool
 o:List UInt8
 fresh:Bool
def Cd.cells(c:Cd):List C:=[bif c.rd then .v (.slice none 0 0) else .rv 2,.sl 1 (c.i.map u7),.v (.bool c.rd),.v (.bool c.b)]
def Cd.box(c:Cd):Res:=.box 54 c.cells
def Cd.row(c:Cd):Res:=bif c.rd then .gone else bif c.fresh then .fb 5 c.o else .row 5 1 (c.o.map u7)
def RR(c:Cd)(t:TypeId)(cs:List C):List Res:=[c.box,.box t cs,c.row]
def tr{α:Type}(r:Rdr α)(w:α->List UInt8)(c:Cd)(x:α):Cd×α:=
 bif c.rd then(⟨true,(r ⟨c.i,c.b⟩).2.inp,(r ⟨c.i,c.b⟩).2.bad,c.o,c.fresh⟩,(r ⟨c.i,c.b⟩).1) else(⟨false,c.i,c.b,c.o++w x,false⟩,x)
def Pw{α:Type}(d:α)(w:α->List UInt8)(D:α->Prop)(c:Cd)(x:α):Prop:=(c.rd=true->x=d)/\(c.rd=false->D x/\c.o.length+(w x).length<=16777216)
def c4E{α:Type}{r:Rdr α}{w:α->List UInt8}{c:Cd}{x:α}:(tr r w c x).1.rd=c.rd:=by
 obtain⟨rd,i,b,o,f⟩:=c;cases rd<;>rfl
def c8a{α:Type}{r:Rdr α}{w:α->List UInt8}{c:Cd}{x:α}(h:c.rd=false):(tr r w c x).1.o=c.o++w x:=by
 obtain⟨rd,i,b,o,f⟩:=c;simp only at h;subst h;rfl
abbrev O8:Res:=.box 52 [.bp 0 0]
def CX{α:Type}(f:Nat)(xa:List C)(enc:α->List C)(Pre:Cd->α->Prop)(T:Cd->α->Cd×α):Prop:=
 ∀(E:Ctx),E.P=Tryz.prog->∀(c:Cd) (x:α) (t:TypeId) (pre post:List C),C.clL pre=true->C.clL post=true->Pre c x ->
  l5 E (RR c t (pre++(enc x++post))) f (.bp 0 0::.bp 1 pre.length::xa) (a0K []) (RR (T c x).1 t (pre++(enc (T c x).2++post))) [2]
def CY{α:Type}(f:Nat)(enc:α->List C)(Pre:Cd->α->Prop)(T:Cd->α->Cd×α):Prop:=
 ∀(E:Ctx),E.P=Tryz.prog->∀(c:Cd) (x:α) (t:TypeId),Pre c x ->
  l5 E [c.box,.box t (enc x),c.row,O8] f [.bp 1 0,.bp 3 0] (a0K []) [(T c x).1.box,.box t (enc (T c x).2),(T c x).1.row,O8] [2]
def a7Y(a b:List C):C.clL (a++b)=(C.clL a&&C.clL b):=by
 induction a with
 | nil=>simp[C.clL]
 | cons x a ih=>simp only[List.cons_append,C.clL,ih,Bool.and_assoc]
def c7X(σ:Nat->Nat){c:C}(h:c.cl=true):ren σ c=c:=by
 cases c<;>first|rfl|(simp only[C.cl]at h;cases h)
theorem a4B(σ:Nat->Nat):∀{cs:List C},C.clL cs=true->cs.map (ren σ)=cs
 | [],_=>rfl
 | c::cs,h=>by
  simp only[C.clL,d0s]at h;rw[d0l,c7X σ h.1,a4B σ h.2]
def c7D(n:Nat){c:C}(h:c.cl=true):okN n c=true:=by
 cases c<;>first|exact h|(simp only[C.cl]at h;cases h)
theorem a4I(n:Nat):∀{cs:List C},C.clL cs=true->cs.all (okN n)=true
 | [],_=>rfl
 | c::cs,h=>by
  simp only[C.clL,d0s]at h;rw[List.all_cons,c7D n h.1,a4I n h.2];rfl
def b0b(σ:Nat->Nat)(h:σ 2=2)(c:Cd):a2c σ c.box=c.box:=by
 obtain⟨u,i,b,o,f⟩:=c;cases u
 ·show Res.box _ [.rv (σ 2),_,_,_]=_;rw[h];rfl
 ·rfl
def a5S(σ:Nat->Nat)(c:Cd):a2c σ c.row=c.row:=by
 obtain⟨h,i,b,o,f⟩:=c;cases h<;>cases f<;>rfl
def a7M(n:Nat)(c:Cd):okR (n+3) c.box=true:=by
 obtain⟨h,i,b,o,f⟩:=c;cases h
 ·have:decide (2<n+3)=true:=decide_eq_true (by omega)
  show[C.rv 2,.sl 1 _,.v _,.v _].all (okN (n+3))=true;simp[okN,this,C.cl]
 ·rfl
def a7H(n:Nat)(c:Cd):okR n c.row=true:=by
 obtain⟨h,i,b,o,f⟩:=c;cases h<;>cases f<;>rfl
mutual
theorem b4y(k:Nat):∀(c:C),c.cl=true->c.has k=false
 | .v _,_=>rfl
 | .agg cs,h=>by simp only[C.cl]at h;simp only[C.has];exact a9I k cs h
 | .tup cs,h=>by simp only[C.cl]at h;simp only[C.has];exact a9I k cs h
 | .sl _ _,_=>rfl
 | .nl,_=>rfl
 | .ep _,_=>rfl
 | .clo _ cs,h=>by simp only[C.cl]at h;simp only[C.has];exact a9I k cs h
 | .bnd _ x,h=>by simp only[C.cl]at h;simp only[C.has];exact b4y k x h
 | .any _,_=>rfl
 | .bp _ _,h=>by simp only[C.cl]at h;cases h
 | .rv _,h=>by simp only[C.cl]at h;cases h
 | .rp _ _ _ _,h=>by simp only[C.cl]at h;cases h
 | .mp _,h=>by simp only[C.cl]at h;cases h
 | .wv _ _ _ _,h=>by simp only[C.cl]at h;cases h
 | .g _ _,h=>by simp only[C.cl]at h;cases h
 | .junk,h=>by simp only[C.cl]at h;cases h
theorem a9I(k:Nat):∀(cs:List C),C.clL cs=true->C.a7p k cs=false
 | [],_=>rfl
 | c::cs,h=>by
  simp only[C.clL,d0s]at h;simp only[C.a7p,b4y k c h.1,a9I k cs h.2,Bool.or_self]
end
theorem b2X{c:C}(h:c.cl=true):∀pk,c.a1N pk=false
 | []=>rfl
 | k::pk=>by simp only[C.a1N,b4y k c h,b2X h pk,Bool.or_self]
theorem F4(pk:List Nat):∀{cs:List C},C.clL cs=true->cs.map (C.y9 pk)=cs
 | [],_=>rfl
 | c::cs,h=>by
  simp only[C.clL,d0s]at h;rw[d0l,F4 pk h.2];congr 1;unfold C.y9;split
  ·rfl
  ·rw[b2X h.1];rfl
def Y9{α:Type}(pre l:List α)(k:Nat):(pre++l).drop (pre.length+k)=l.drop k:=List.drop_length_add_append ..
instance(priority:=low){n:Nat}{c:C}{l:List C}:Eng.Sb (C.bdL n (c::l)=true) (C.bd n c=true/\C.bdL n l=true):=⟨λe=>by simp only[C.bdL,e.1,e.2,Bool.and_self]⟩
instance{rs rs':List Res}{e:TypeId}{bs bs':List UInt8}:Eng.Sb (RI rs rs' (.fb e bs) (.fb e bs')) (bs=bs'):=⟨λh=>.fb _ _ _ h⟩
instance{rs rs':List Res}{c c':Cd}:Eng.Sb (RI rs rs' c.box c'.box) (c=c'/\Nat.ble 3 rs'.length=true):=⟨λh=>by
 obtain⟨rfl,h⟩:=h;have h:=d0n h;obtain⟨u,i,b,o,f⟩:=c;refine .box _ _ _ (j3.eq rfl ?_);have A:decide (2<rs'.length)=true:=decide_eq_true (by omega);cases u
 ·show(decide (2<rs'.length)&&(true&&(true&&(true&&true))))=true;rw[A];rfl
 ·rfl⟩
instance{rs rs':List Res}{c c':Cd}:Eng.Sb (RI rs rs' c.row c'.row) (c=c'):=⟨λh=>by
 subst h;obtain⟨u,i,b,o,f⟩:=c;cases u<;>cases f
 ·exact .row _ _ _ _ rfl
 ·exact .fb _ _ _ rfl
 ·exact .gone _
 ·exact .gone _⟩
def b9D:C->Bool
 | .bnd _ (.bp 0 _)=>true
 | _=>false
theorem b9T(σ:Nat->Nat)(h:σ 0=0):∀{u:List C},u.all b9D=true->u.map (a8x σ)=u/\u.all (okM 3)=true
 | [],_=>⟨rfl,rfl⟩
 | x::u,hx=>by
  rw[List.all_cons,d0s]at hx;obtain⟨h1,h2⟩:=b9T σ h hx.2;have A:=hx.1;unfold b9D at A;split at A
  ·refine⟨?_,?_⟩
   ·rw[d0l,h1];simp only[a8x,ren,h]
   ·rw[List.all_cons,h2];rfl
  ·cases A
def uRe{E:Ctx}{st:St}{rvs:List RV}{rs':List Res}{s:C}{cs:List C}(h:a4r st.fr st.rs rvs=some cs)(hi:Imp st.rs rs' (a0K cs) s)(h2:C9 st.rs rs' rs' st.rs)(h3:E.nu0.length<=rs'.length):S E (Fin E.P rvs (b0O E rs' s)) st []:=
 S.end_ (a7P h (H6.b0V hi h2 h3))
def CX.on{α:Type}{f:Nat}{M:List C}{enc:α->List C}{J:Cd->α->Prop}{T:Cd->α->Cd×α}(h:CX f M enc J T){E:Ctx}(hP:E.P=Tryz.prog){rs rs2:List Res}{m off:Nat}{cs cs2:List C}{c:Cd}{x:α}{t:TypeId}(pre A:List C)
 (U:C.clL pre=true) (V:C.clL A=true) (X:∀x,C.clL (enc x)=true) (K:J c x) (G:cs=pre++(enc x++A)) (D:cs2=pre++(enc (T c x).2++A)) (ho:off=pre.length)
 (Z:rs[0]?=some c.box) (Y:rs[m]?=some (.box t cs)) (W:rs[2]?=some c.row) (F:(m==0||m==2)=false) (R:M.all b9D=true)
 (B:rs2=(((rs.map (Res.y9 [2])).set 0 (T c x).1.box).set m (.box t cs2)).set 2 (T c x).1.row):l5 E rs f (.bp 0 0::.bp m off::M) (a0K []) rs2 [2]:=by
 rw[d0F]at F;have ab:m≠0:=by simpa using F.1
 have aa:m≠2:=by simpa using F.2
 obtain⟨N,O⟩:=b9T (λk=>if k=1 then m else k) rfl R;have c1:C.clL cs=true:=by rw[G,a7Y,a7Y,U,V,X];rfl
 have c2:C.clL cs2=true:=by rw[D,a7Y,a7Y,U,V,X];rfl
 have l0:=(d0i.1 Z).1;have lm:=(d0i.1 Y).1;have l2:=(d0i.1 W).1;have I:=l5.at (rs:=rs) (rs2:=rs2) (λk=>if k=1 then m else k) (h E hP c x t pre A U V K) (λk l u H e=>by
  simp only[RR,d0j,List.length_nil]at u H;split at e<;>split at e<;>omega) rfl (by rw[B];simp) (λk r u=>by
  match k,u with
  | 0,u=>simp[RR]at u;subst u;rw[b0b _ rfl];exact Z
  | 1,u=>simp[RR]at u;subst u;simp only[a2c];rw[<- G,a4B _ c1];exact Y
  | 2,u=>simp[RR]at u;subst u;rw[a5S];exact W
  | k+3,u=>simp[RR]at u) (λk r u=>by
  match k,u with
  | 0,u=>
   simp[RR]at u;subst u;rw[b0b _ rfl,B]
   show((((rs.map (Res.y9 [2])).set 0 (T c x).1.box).set m (.box t cs2)).set 2 (T c x).1.row)[0]?=_;rw[List.getElem?_set_ne (by omega),List.getElem?_set_ne (by omega),List.getElem?_set_self (by simpa using l0)]
  | 1,u=>
   simp[RR]at u;subst u;simp only[a2c];rw[<- D,a4B _ c2,B]
   show((((rs.map (Res.y9 [2])).set 0 (T c x).1.box).set m (.box t cs2)).set 2 (T c x).1.row)[m]?=_;rw[List.getElem?_set_ne (by omega),List.getElem?_set_self (by simpa using lm)]
  | 2,u=>
   simp[RR]at u;subst u;rw[a5S,B]
   show((((rs.map (Res.y9 [2])).set 0 (T c x).1.box).set m (.box t cs2)).set 2 (T c x).1.row)[2]?=_;rw[List.getElem?_set_self (by simpa using l2)]
  | k+3,u=>simp[RR]at u) (λl H=>by
  have n0:0≠l:=by have:=H 0 (by simp[RR]);simpa using this
  have n1:m≠l:=by have:=H 1 (by simp[RR]);simpa using this
  have n2:2≠l:=by have:=H 2 (by simp[RR]);simpa using this
  rw[B,List.getElem?_set_ne n2,List.getElem?_set_ne n1,List.getElem?_set_ne n0,d0q];rfl) (by
  show((okR 3 c.box&&(okR 3 (.box t (pre++(enc x++A)))&&(okR 3 c.row&&true))))=true;rw[a7M 0,a7H,<- G];simp only[okR,a4I 3 c1];rfl) (by
  show((okR 3 (T c x).1.box&&(okR 3 (.box t (pre++(enc (T c x).2++A)))&&(okR 3 (T c x).1.row&&true))))=true;rw[a7M 0,a7H,<- D];simp only[okR,a4I 3 c2];rfl) (by
  rw[List.all_cons,List.all_cons]
  show(okM 3 (.bp 0 0)&&(okM 3 (.bp 1 pre.length)&&M.all (okM 3)))=true;rw[O];rfl) rfl
 rw[d0l,d0l,N]at I;subst ho;exact I
def b3F{E:Ctx}{f:Nat}{D:List C}{c c':Cd}{t:TypeId}{cs A:List C}(h:l5 E [c.box,.box t cs,c.row,O8] f D (a0K []) [c'.box,.box t A,c'.row,O8] [2])(T:C.clL cs=true)(U:C.clL A=true){rs rs2:List Res}{m p:Nat}
 (P:rs[0]?=some c.box) (O:rs[m]?=some (.box t cs)) (R:rs[2]?=some c.row) (N:rs[p]?=some O8) (G:(m==0||m==2||m==p||p==0||p==2)=false) (Y:D.all (okM 4)=true)
 (B:rs2=(((rs.map (Res.y9 [2])).set 0 c'.box).set m (.box t A)).set 2 c'.row):l5 E rs f (D.map (a8x λk=>if k=1 then m else if k=3 then p else k)) (a0K []) rs2 [2]:=by
 simp only[d0F]at G;obtain⟨⟨⟨⟨I,F⟩,H⟩,K⟩,J⟩:=G;have I:m≠0:=by simpa using I
 have F:m≠2:=by simpa using F
 have H:m≠p:=by simpa using H
 have K:p≠0:=by simpa using K
 have J:p≠2:=by simpa using J
 have X:=(d0i.1 P).1;have lm:=(d0i.1 O).1;have l2:=(d0i.1 R).1;refine l5.at (rs:=rs) (rs2:=rs2) (λk=>if k=1 then m else if k=3 then p else k) h (λk l u M e=>by
  simp only[d0j,List.length_nil]at u M
  repeat' split at e
  all_goals omega) rfl (by rw[B];simp) (λk r u=>by
  match k,u with
  | 0,u=>simp at u;subst u;rw[b0b _ rfl];exact P
  | 1,u=>simp at u;subst u;simp only[a2c];rw[a4B _ T];exact O
  | 2,u=>simp at u;subst u;rw[a5S];exact R
  | 3,u=>simp at u;subst u;exact N
  | k+4,u=>simp at u) (λk r u=>by
  match k,u with
  | 0,u=>
   simp at u;subst u;rw[b0b _ rfl,B]
   show((((rs.map (Res.y9 [2])).set 0 c'.box).set m (.box t A)).set 2 c'.row)[0]?=_;rw[List.getElem?_set_ne (by omega),List.getElem?_set_ne (by omega),List.getElem?_set_self (by simpa using X)]
  | 1,u=>
   simp at u;subst u;simp only[a2c];rw[a4B _ U,B]
   show((((rs.map (Res.y9 [2])).set 0 c'.box).set m (.box t A)).set 2 c'.row)[m]?=_;rw[List.getElem?_set_ne (by omega),List.getElem?_set_self (by simpa using lm)]
  | 2,u=>
   simp at u;subst u;rw[a5S,B]
   show((((rs.map (Res.y9 [2])).set 0 c'.box).set m (.box t A)).set 2 c'.row)[2]?=_;rw[List.getElem?_set_self (by simpa using l2)]
  | 3,u=>
   simp at u;subst u;rw[B]
   show((((rs.map (Res.y9 [2])).set 0 c'.box).set m (.box t A)).set 2 c'.row)[p]?=_;rw[List.getElem?_set_ne (by omega),List.getElem?_set_ne (by omega),List.getElem?_set_ne (by omega),d0q,N];rfl
  | k+4,u=>simp at u) (λl M=>by
  have W:0≠l:=by have:=M 0 (by simp);simpa using this
  have Z:m≠l:=by have:=M 1 (by simp);simpa using this
  have V:2≠l:=by have:=M 2 (by simp);simpa using this
  rw[B,List.getElem?_set_ne V,List.getElem?_set_ne Z,List.getElem?_set_ne W,d0q];rfl) (by
  show((okR 4 c.box&&(okR 4 (.box t cs)&&(okR 4 c.row&&(true&&true)))))=true;rw[a7M 1,a7H];simp only[okR,a4I 4 T];rfl) (by
  show((okR 4 c'.box&&(okR 4 (.box t A)&&(okR 4 c'.row&&(true&&true)))))=true;rw[a7M 1,a7H];simp only[okR,a4I 4 U];rfl) Y rfl
def CY.on{α:Type}{f:Nat}{enc:α->List C}{B:Cd->α->Prop}{T:Cd->α->Cd×α}(h:CY f enc B T){E:Ctx}(M:E.P=Tryz.prog){rs rs2:List Res}{m p:Nat}{cs cs2:List C}{c:Cd}{x:α}{t:TypeId}
  (H:∀x,C.clL (enc x)=true) (u:B c x) (G:cs=enc x) (A:cs2=enc (T c x).2)
  (I:rs[0]?=some c.box) (N:rs[m]?=some (.box t cs)) (K:rs[2]?=some c.row) (J:rs[p]?=some O8) (D:(m==0||m==2||m==p||p==0||p==2)=false)
  (F:rs2=(((rs.map (Res.y9 [2])).set 0 (T c x).1.box).set m (.box t cs2)).set 2 (T c x).1.row):l5 E rs f [.bp m 0,.bp p 0] (a0K []) rs2 [2]:=by
 subst G A;exact b3F (h E M c x t u) (H _) (H _) I N K J D rfl F
def c9v:List Nat:=[8,9,47,48,49,50,51,52,53,54,55,56,57,58,59,82,83,84,85,86,87,88,89,90,91,92,93,94,95,96,97,98,133,134,2000008,2000009,2000047,2000048,2000049,2000050,2000051,2000052,2000053,2000054,2000055,2000056,2000057,2000058,2000059,2000082,2000083,2000084,2000085,2000086,2000087,2000088,2000089,2000090,2000091,2000092,2000093,2000094,2000095,2000096,2000097,2000098,2000133,2000134,1000238]
def J6(f:Nat):Bool:=c9v.contains f
set_option maxHeartbeats 8000000
def w7(u:Nat):IntKind.u8.wrap (IntKind.u8.wrap ((u%128:Nat):Int)+128)=((UInt8.ofNat (u%128+128)).toNat:Int):=by
 have h:∀n:Int,IntKind.u8.wrap n=n%256:=λn=>by simp[IntKind.wrap,IntKind.signed,IntKind.bits]
 rw[h,h,UInt8.toNat_ofNat'];omega
def b3m(k u:Nat)(b:UInt8)(r:List UInt8):a1a k u (b::r)=if k=4 then(none,b::r) else if b.toNat<128 then(some (u ||| (b.toNat%128) <<< (7*k)),r) else a1a (k+1) (u ||| (b.toNat%128) <<< (7*k)) r:=by rw[a1a]
def c4i(k u:Nat):a1a k u []=(none,[]):=by rw[a1a]
def w8(u:Nat)(h:u<128):IntKind.u8.wrap (u:Int)=((UInt8.ofNat u).toNat:Int):=by
 have A:∀n:Int,IntKind.u8.wrap n=n%256:=λn=>by simp[IntKind.wrap,IntKind.signed,IntKind.bits]
 rw[A,UInt8.toNat_ofNat'];omega
def a1K:CX 53 [] (λx:Int=>[ints x]) (λc x=>c.rd=false->c.o.length+(G8 x).length<=16777216) (λc x=>tr (l9 x) G8 c x):=by
 intro E hP c x t pre G hp hq W;obtain⟨P,ef,N0,w0,aj,am,ao,an⟩:=E;simp only at hP;subst hP;obtain⟨rd,i,b,o,fr⟩:=c;have K:=F4 [2] hp;have I:=F4 [2] hq;haveI:Clz pre:=⟨hp⟩
 haveI:Clz G:=⟨hq⟩
 refine l5.of (eff:=J6) Tryz.func53 (by cbv) (by exact d0n rfl) λw own av ν ac=>?_;have A:ν.length<=3:=by rw[ac];exact d0m _
 cases rd
 ·have hl:=W rfl;obtain⟨U,hU,ae⟩:∃U:Nat,IntKind.u64.wrap x=(U:Int)/\U<18446744073709551616:=⟨(IntKind.u64.wrap x).toNat,by rw[a4l];omega,by rw[a4l];omega⟩
  have hT:tr (l9 x) G8 ⟨false,i,b,o,fr⟩ x=(⟨false,i,b,o++J3 U,false⟩,x):=by simp only[tr,cond_false,G8,hU,d0h]
  dsimp only
  rw[hT];simp only[G8,hU,d0h]at hl;obtain⟨R0,ag,O⟩:∃R,Cd.row ⟨false,i,b,o,fr⟩=R/\(R=.fb 5 o\/R=.row 5 1 (o.map u7)):=⟨_,rfl,by cases fr<;>first|exact .inl rfl|exact .inr rfl⟩
  simp only[RR,ag];simp only[j4,TT,II,OA,OB,OC,MM,VV,FF,MG];simp only[Cd.box,Cd.cells,Cd.row,cond_false,ints];(repeat first|refine uA ?_|simp(disch:=omega) only[go_sem,Nat.reduceAdd]);refine S.cond rfl (λB=>?_) (λB=>by simp at B)
  (repeat first|refine uA ?_|simp(disch:=omega) only[go_sem,hU,List.drop_left]);refine S.loop (X:=Nat×List UInt8×Res) (λy=>⟨[(0,.bp 0 0),(1,.bp 1 pre.length),(4,.v (.int .u64 y.1))],[.box 54 [.rv 2,.sl 1 (i.map u7),.v (.bool false),.v (.bool b)],.box t (pre++(.v (.int .i64 x)::G)),y.2.2]⟩)
   (λy=>y.1<18446744073709551616/\y.2.1++J3 y.1=o++J3 U/\(y.2.2=.fb 5 y.2.1\/y.2.2=.row 5 1 (y.2.1.map u7))) (λy=>y.1) (U,o,R0) ⟨ae,rfl,O⟩ (by rcases O with rfl|rfl<;>exact(by repeat first|refine uA ?_|(refine⟨?_,?_⟩;· first|rfl|simp[slot])|rfl|simp|exact d0f A (by simp))) ?_
  rintro⟨u,out,R⟩ ⟨V,M,hR⟩;simp only at V M hR ⊢;have D:=congrArg List.length M;simp only[d0c]at D;have T:((u:Nat):Int).tmod 128=((u%128:Nat):Int):=rfl;have aa:((u:Nat):Int).tdiv 128=((u/128:Nat):Int):=rfl;(repeat first|refine uA ?_|simp(disch:=omega) only[go_sem]);apply uJ rfl<;>intro B
  ·rw[a5P (by omega)]at M D;simp only[d0j]at D;have ab:[UInt8.ofNat (u%128+128)].map u7=[[C.v (.int .u8 (((u%128:Nat):Int)+128))]]:=by
    simp only[d0l,d0p,u7,UInt8.toNat_ofNat',Nat.mod_eq_of_lt (show u%128+128<2^8 by omega),Int.natCast_add];rfl
   have F:∀R',R'=Res.row 5 1 (out.map u7++[[.v (.int .u8 (((u%128:Nat):Int)+128))]])->R'=Res.row 5 1 ((out++[UInt8.ofNat (u%128+128)]).map u7):=λR' h=>by rw[h,d0u,ab]
   rcases hR with rfl|rfl
   ·(repeat first|refine uA ?_|(apply uK;· first|omega|(intros;simp_all<;>omega))|simp(disch:=omega) only[go_sem,Nat.reduceAdd,ww,T,aa,K,I,d0u,d0l,d0p,d0j,List.length_nil]);refine S.next (x:=(u,out,.fb 5 out)) (u/128,out++[UInt8.ofNat (u%128+128)],Res.row 5 1 (out.map u7++[[.v (.int .u8 (((u%128:Nat):Int)+128))]])) ⟨by simp only;omega,by simp only;rw[d0o];exact M,.inr (F _ rfl)⟩ (by simp only;omega) (by repeat first|refine uA ?_|(refine⟨?_,?_⟩;· first|rfl|simp[slot])|rfl|simp|exact d0f A (by simp))
   ·(repeat first|refine uA ?_|(apply uK;· first|omega|(intros;simp_all<;>omega))|simp(disch:=omega) only[go_sem,Nat.reduceAdd,ww,T,aa,K,I,d0u,d0l,d0p,d0j,List.length_nil,d0d]);refine S.next (x:=(u,out,.row 5 1 (out.map u7))) (u/128,out++[UInt8.ofNat (u%128+128)],Res.row 5 1 (out.map u7++[[.v (.int .u8 (((u%128:Nat):Int)+128))]])) ⟨by simp only;omega,by simp only;rw[d0o];exact M,.inr (F _ rfl)⟩ (by simp only;omega) (by repeat first|refine uA ?_|(refine⟨?_,?_⟩;· first|rfl|simp[slot])|rfl|simp|exact d0f A (by simp))
  ·rw[a3F (by omega)]at M D;simp only[d0j,List.length_nil]at D;rw[<- M];have h8:IntKind.u8.wrap ((u:Nat):Int)=((UInt8.ofNat u).toNat:Int):=w8 u (by omega);rcases hR with rfl|rfl
   all_goals
    (repeat first|refine uA ?_|(apply uK;· first|omega|(intros;simp_all<;>omega))|simp(disch:=omega) only[go_sem,Nat.reduceAdd,h8,K,I,d0u,d0l,d0p,d0j,List.length_nil,d0d]);(exact uR rfl (Imp.refl rfl) (by repeat first|refine uA ?_|refine⟨rfl,?_⟩|rfl|simp[slot]) (d0f A (by simp)))
 ·have hF:tr (l9 x) G8 ⟨true,i,b,o,fr⟩ x=match a1a 0 0 i with
   | (some n,r)=>(⟨true,r,b,o,fr⟩,(n:Int))
   | (none,r)=>(⟨true,r,true,o,fr⟩,x):=by
   simp only[tr,cond_true,l9];rcases a1a 0 0 i with⟨_|n,r⟩<;>rfl
  dsimp only
  rw[hF];simp only[RR];simp only[j4,TT,II,OA,OB,OC,MM,VV,FF,MG];simp only[Cd.box,Cd.cells,Cd.row,cond_true,ints];(repeat first|refine uA ?_|simp(disch:=omega) only[go_sem,Nat.reduceAdd]);refine S.cond rfl (λB=>by simp at B) (λB=>?_)
  (repeat first|refine uA ?_|simp(disch:=omega) only[go_sem]);refine S.loop (X:=Nat×Nat×List UInt8) (λy=>⟨[(0,.bp 0 0),(1,.bp 1 pre.length),(5,.v (.int .u64 y.2.1)),(6,ints y.1)],[.box 54 [.v (.slice none 0 0),.sl 1 (y.2.2.map u7),.v (.bool true),.v (.bool b)],.box t (pre++(.v (.int .i64 x)::G)),.gone]⟩)
   (λy=>y.1<=4/\y.2.1<2^(7*y.1)/\a1a y.1 y.2.1 y.2.2=a1a 0 0 i) (λy=>y.2.2.length) (0,0,i) ⟨by simp,by simp,rfl⟩ (by repeat first|refine uA ?_|(refine⟨?_,?_⟩;· first|rfl|simp[slot])|rfl|simp|exact d0f A (by simp)) ?_
  rintro⟨k,u,l⟩ ⟨hk,V,N⟩;simp only[ints]at hk V N ⊢;rw[<- N];have ak:u<268435456:=d0E V (d0f (d0G (by decide) (show 7*k<=28 by omega)) (by decide));rcases l with _|⟨c0,r⟩
  ·rw[c4i];(repeat first|refine uA ?_|simp(disch:=omega) only[go_sem,Nat.reduceAdd,d0p,List.length_nil]);refine S.cond rfl (λB=>?_) (λB=>by simp at B)
   (repeat first|refine uA ?_|simp(disch:=omega) only[go_sem,Nat.reduceAdd]);(exact uR rfl (Imp.refl rfl) (by repeat first|refine uA ?_|refine⟨rfl,?_⟩|rfl|simp) (d0f A (by simp)))
  ·rw[b3m];by_cases h4:k=4
   ·subst h4;rw[if_pos rfl];(repeat first|refine uA ?_|simp(disch:=omega) only[go_sem,Nat.reduceAdd,d0l,d0j]);refine S.cond rfl (λB=>?_) (λB=>by simp at B)
    (repeat first|refine uA ?_|simp(disch:=omega) only[go_sem,Nat.reduceAdd]);(exact uR rfl (Imp.refl rfl) (by repeat first|refine uA ?_|refine⟨rfl,?_⟩|rfl|simp) (d0f A (by simp)))
   ·rw[if_neg h4];have al:k<=3:=by omega
    have H:r.take (r.length+1-1)=r:=by rw[Nat.add_sub_cancel];exact d0w
    have Z:(c0.toNat%128) <<< (7*k)<2^(7*(k+1)):=by
     rw[Nat.shiftLeft_eq,Nat.mul_add,Nat.pow_add,Nat.mul_comm];exact Nat.mul_lt_mul_of_pos_left (Nat.mod_lt _ (by decide)) (Nat.two_pow_pos _)
    have ai:2^(7*(k+1))<=268435456:=d0f (d0G (by decide) (show 7*(k+1)<=28 by omega)) (by decide);have Y:Go.bits .or .u64 (u:Int) (IntKind.u64.wrap (IntKind.u64.wrap ((c0.toNat:Int).tmod 128)*2^(7*(k:Int)).toNat))=((u ||| (c0.toNat%128) <<< (7*k):Nat):Int):=by
     have e1:(c0.toNat:Int).tmod 128=((c0.toNat%128:Nat):Int):=rfl;have e2:(7*(k:Int)).toNat=7*k:=by omega
     have e3:((c0.toNat%128:Nat):Int)*2^(7*k)=(((c0.toNat%128) <<< (7*k):Nat):Int):=by rw[Nat.shiftLeft_eq,Int.natCast_mul,Int.natCast_pow];rfl
     have af:(c0.toNat%128) <<< (7*k)<268435456:=d0E Z ai;rw[e1,e2,wrap_u64 (n:=((c0.toNat%128:Nat):Int)) (by omega),e3];generalize(c0.toNat%128) <<< (7*k)=q at af ⊢;rw[wrap_u64 (by omega)];exact a8U _ _ (by omega) (by omega)
    have ah:u ||| (c0.toNat%128) <<< (7*k)<2^(7*(k+1)):=Nat.or_lt_two_pow (d0E V (d0G (by decide) (by omega))) Z
    rw[b3m,if_neg h4]at N;generalize u ||| (c0.toNat%128) <<< (7*k)=u' at*
    (repeat first|refine uA ?_|simp(disch:=omega) only[go_sem,Nat.reduceAdd,d0l,d0j]);refine S.cond rfl (λB=>by simp at B;omega) (λB=>?_)
    by_cases J:c0.toNat<128
    ·rw[if_pos J];(repeat first|refine uA ?_|simp(disch:=omega) only[go_sem,Nat.reduceAdd,ww,d0j,u7,d0h,H,Y]);refine S.cond rfl (λB=>?_) (λB=>by simp at B;omega)
     (repeat first|refine uA ?_|simp(disch:=omega) only[go_sem,Nat.reduceAdd,ww,Y9,List.take_left]);(exact uRe rfl (Imp.refl rfl) (by repeat first|refine uA ?_|refine⟨rfl,?_⟩|rfl|simp) (d0f A (by simp)))
    ·rw[if_neg J];rw[if_neg J]at N;(repeat first|refine uA ?_|simp(disch:=omega) only[go_sem,Nat.reduceAdd,ww,d0j,u7,d0h,H,Y]);refine S.cond rfl (λB=>by simp at B;omega) (λB=>?_)
     (repeat first|refine uA ?_|simp(disch:=omega) only[go_sem]);rw[N];refine S.next (x:=(k,u,c0::r)) (k+1,u',r) ⟨by simp only;omega,ah,N⟩ (by simp only[d0j];omega) (by repeat first|refine uA ?_|(refine⟨?_,?_⟩;· first|rfl|simp[slot])|rfl|simp|exact d0f A (by simp))
end Go.Proofs.YtfkipfnkpeobjaaGreatDoor
