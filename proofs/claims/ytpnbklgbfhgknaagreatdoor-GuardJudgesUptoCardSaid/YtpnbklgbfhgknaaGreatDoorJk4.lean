/- A part of the proof: lemmas only, with the conditions that each names. -/
import Derived.Test.YtpnbklgbfhgknaaGreatDoorProg
import Derived.KernelRfl
import Derived.Test.YtpnbklgbfhgknaaGreatDoorJk3
set_option linter.all false
namespace Go.Proofs.YtpnbklgbfhgknaaGreatDoor
open Go Go.RowKit Eng
set_option maxRecDepth 10000
set_option maxHeartbeats 4000000
structure Hv where
 s:Bool
 u:List Nat
 lo:Nat
 n:Nat
 v:Nat
 o:List Nat
 lo2:Nat
 n2:Nat
 v2:Nat
theorem c2D (a b:List UInt8) (ha:a.length<=68719476736) (hb:b.length<=68719476736) (h0a:Nm.val a ≠ 0) (h0b:Nm.val b ≠ 0):FZ 182 [sb a,sb b] (sb (Nm.enc (Nat.gcd (Nm.val a) (Nm.val b)))):=by
 refine kW Tryz.func182 (by cbv) (by rfl) fun w O hw=>?_;simp only [j4,TT,II,OA,OB,OC,MM,VV,MG,sb];have hla:=b6E a (by omega);have hlb:=b6E b (by omega);have hva:=Nm.b0q a;have hvb:=Nm.b0q b;have haa:=Nm.b0n a;have hab:=Nm.b0n b;have hna:=Nm.a9b a;have hnb:=Nm.a9b b;obtain ⟨za,hza,hoa⟩:=Nm.a3F h0a;obtain ⟨zb,hzb,hob⟩:=Nm.a3F h0b;have hG:Nat.gcd (Nm.val a) (Nm.val b)=2 ^ (min (Nm.v2 (Nm.val a)) (Nm.v2 (Nm.val b)))*Nat.gcd za zb:=by
  conv=>lhs;rw [hza,hzb]
  exact Nm.c2A hoa hob
 rw [hG];have fea:=a8A (Nm.U3 a) (by omega) haa (by rw [hva];exact h0a);have feb:=a8A (Nm.U3 b) (by omega) hab (by rw [hvb];exact h0b);rw [hva] at fea;rw [hvb] at feb;have hba:Nm.v2 (Nm.val a)<=549755813888:=by
  have h1:=Nm.a0q a;have h3:2 ^ Nm.v2 (Nm.val a)<=Nm.val a:=by
   conv=>rhs;rw [hza]
   exact Nat.le_mul_of_pos_right _ (by omega)
  have h4:2 ^ Nm.v2 (Nm.val a) < 2 ^ (8*a.length):=by rw [Nat.pow_mul];exact Nat.lt_of_le_of_lt h3 h1
  have h5:=(Nat.pow_lt_pow_iff_right (by decide:1 < 2)).1 h4;omega
 have hbb:Nm.v2 (Nm.val b)<=549755813888:=by
  have h1:=Nm.a0q b;have h3:2 ^ Nm.v2 (Nm.val b)<=Nm.val b:=by
   conv=>rhs;rw [hzb]
   exact Nat.le_mul_of_pos_right _ (by omega)
  have h4:2 ^ Nm.v2 (Nm.val b) < 2 ^ (8*b.length):=by rw [Nat.pow_mul];exact Nat.lt_of_le_of_lt h3 h1
  have h5:=(Nat.pow_lt_pow_iff_right (by decide:1 < 2)).1 h4;omega
 have hla0:0 < (Nm.U3 a).length:=by
  rcases c8Q (Nm.U3 a).length with h|h
  ·have:=List.length_eq_zero_iff.1 h;rw [this] at hva;exact absurd hva.symm h0a
  ·exact h
 have hlb0:0 < (Nm.U3 b).length:=by
  rcases c8Q (Nm.U3 b).length with h|h
  ·have:=List.length_eq_zero_iff.1 h;rw [this] at hvb;exact absurd hvb.symm h0b
  ·exact h
 generalize Nm.v2 (Nm.val a)=p at *;generalize Nm.v2 (Nm.val b)=q at *;have hwa:Nm.wv 18446744073709551616 (((Nm.U3 a).drop 0).take (Nm.U3 a).length)=za*2 ^ p:=by
  rw [List.drop_zero,c8J,hva,hza,Nat.mul_comm]
 have hwb:Nm.wv 18446744073709551616 (((Nm.U3 b).drop 0).take (Nm.U3 b).length)=zb*2 ^ q:=by
  rw [List.drop_zero,c8J,hvb,hzb,Nat.mul_comm]
 clear hG hza hzb hva hvb h0a h0b;generalize hA:Nm.U3 a=A at *;generalize hB:Nm.U3 b=B at *;have hr1:=fun (E:Ctx) (hP:E.P=Tryz.prog)=>a8h (E:=E) hP true A B 0 A.length p za (by omega) (by omega) (by omega) haa (by omega) hwa;obtain ⟨hj1,hz1,_⟩:=hr1 ⟨Tryz.prog,eff,0,w,fun _=>False,O,[],[]⟩ rfl;have hr1:=fun E hP=>(hr1 E hP).2.2;have hW1:=Win.put (u:=A) (l1:=0+p / 64) (p:=A.length-p / 64) (z:=za) (by omega) (by omega) (by omega) haa hz1;generalize hA1:put A (0+p / 64) (Nm.dig 18446744073709551616 (A.length-p / 64) za)=A1 at *;generalize 0+p / 64=la at *;generalize (Nm.I4 (Nm.dig 18446744073709551616 (A.length-p / 64) za)).length=na at *
 have hr2:=fun (E:Ctx) (hP:E.P=Tryz.prog)=>a8h (E:=E) hP false B A1 0 B.length q zb (by omega) (by omega) (by omega) hab (by omega) hwb;obtain ⟨hj2,hz2,_⟩:=hr2 ⟨Tryz.prog,eff,0,w,fun _=>False,O,[],[]⟩ rfl;have hr2:=fun E hP=>(hr2 E hP).2.2;have hW2:=Win.put (u:=B) (l1:=0+q / 64) (p:=B.length-q / 64) (z:=zb) (by omega) (by omega) (by omega) hab hz2;generalize hB1:put B (0+q / 64) (Nm.dig 18446744073709551616 (B.length-q / 64) zb)=B1 at *;generalize 0+q / 64=lb at *;generalize (Nm.I4 (Nm.dig 18446744073709551616 (B.length-q / 64) zb)).length=nb at *
 have hr1':∀ (E:Ctx),E.P=Tryz.prog->l7 E [.row 213 1 (ls A),.row 213 1 (ls B)] 217 [.rv 0,ints p] (.wv 0 1 la na) [.row 213 1 (ls A1),.row 213 1 (ls B)] []:=fun E hP=>l7.imp (hr1 E hP) (j3.cons (Imp.win (k:=0) (e:=213) (sz:=1) (es:=ls A) rfl (G9 _).symm (by simp)) (j3.cons (Imp.refl rfl) j3.nil));have hr2':∀ (E:Ctx),E.P=Tryz.prog->l7 E [.row 213 1 (ls A1),.row 213 1 (ls B)] 217 [.rv 1,ints q] (.wv 1 1 lb nb) [.row 213 1 (ls A1),.row 213 1 (ls B1)] []:=fun E hP=>l7.imp (hr2 E hP) (j3.cons (Imp.win (k:=1) (e:=213) (sz:=1) (es:=ls B) rfl (G9 _).symm (by simp)) (j3.cons (Imp.refl rfl) j3.nil))
 (repeat first|refine uA ?_|(apply uK;· omega)|simp (disch:=omega) only [go_sem,Nat.reduceBEq,Nat.reduceAdd]|refine l9.t (FNew.t hla rfl) ?_|refine l9.t (FNew.t hlb rfl) ?_|refine l9.t (hr1' _ rfl) ?_|refine l9.t (hr2' _ rfl) ?_|(apply uE fea;exact tz hw;exact rfl;focus (repeat' first|exact j3.nil|exact Imp.refl rfl|exact Imp.frz rfl rfl rfl|(refine Imp.K5 rfl rfl ?_ ?_;(focus ((try simp only [c8A]);omega));(focus first|rfl|assumption))|refine j3.cons ?_ ?_);done)|(apply uE feb;exact tz hw;exact rfl;focus (repeat' first|exact j3.nil|exact Imp.refl rfl|exact Imp.frz rfl rfl rfl|(refine Imp.K5 rfl rfl ?_ ?_;(focus ((try simp only [c8A]);omega));(focus first|rfl|assumption))|refine j3.cons ?_ ?_);done))
 clear hr1 hr2 hr1' hr2' hla hlb fea feb hwa hwb hA hB hA1 hB1 hz1 hz2 hj1 hj2 haa hab hla0 hlb0 hna hnb;have hmin:min p q<=549755813888:=by omega
 generalize hG:Nat.gcd za zb=G at *;refine S.c2U (Y:=Hv) (fun x=>⟨[(5,.wv (kx x.s) 1 x.lo x.n),(6,.wv (kx !x.s) 1 x.lo2 x.n2),(7,ints p),(8,ints q)],rw2 x.s x.u x.o⟩)
  (fun x=>Win x.u x.lo x.n x.v/\Win x.o x.lo2 x.n2 x.v2/\((x.n=0/\x.v2=G) \/ (x.n=1/\x.n2=1/\Nat.gcd x.v x.v2=G))) ?_ ?_
 ·refine S.loop (X:=Hv) (fun x=>⟨[(5,.wv (kx x.s) 1 x.lo x.n),(6,.wv (kx !x.s) 1 x.lo2 x.n2),(7,ints p),(8,ints q)],rw2 x.s x.u x.o⟩)
   (fun x=>Win x.u x.lo x.n x.v/\Win x.o x.lo2 x.n2 x.v2/\x.v % 2=1/\x.v2 % 2=1/\Nat.gcd x.v x.v2=G) (fun x=>x.v+x.v2) ⟨true,A1,la,na,za,B1,lb,nb,zb⟩ ⟨hW1,hW2,hoa,hob,hG⟩ (by repeat first|refine uA ?_|(refine ⟨?_,?_⟩;· first|rfl|trivial|(simp [slot];done))|rfl|trivial|simp) ?_
  clear hW1 hW2 hG hoa hob;rintro ⟨s,u,lo,n,v,o,lo2,n2,v2⟩ ⟨hW1,hW2,hoa,hob,hG⟩;simp only [ints] at hW1 hW2 hoa hob hG ⊢;(repeat first|refine uA ?_|(apply uK;· first|omega|(intros;simp_all<;>omega))|simp (disch:=omega) only [go_sem,Nat.reduceBEq]);(refine uJ rfl (fun hc=>?_) fun hc=>?_)
  ·refine S.skip ?_;refine S.block ?_;refine S.seq ?_;have hl1:=hW1.hl;have hl2:=hW2.hl;have hn1:=hW1.hn;have hn2:=hW2.hn;have hwl:∀ (u:List Nat) lo n,ls ((u.drop lo).take n)=((ls u).drop lo).take n:=fun u lo n=>by simp [ls,List.map_drop,List.map_take]
   refine S.join (Y:=Hv) (fun x=>⟨[(5,.wv (kx x.s) 1 x.lo x.n),(6,.wv (kx !x.s) 1 x.lo2 x.n2),(7,ints p),(8,ints q)],rw2 x.s x.u x.o⟩)
    (fun x=>Win x.u x.lo x.n x.v/\Win x.o x.lo2 x.n2 x.v2/\x.v % 2=1/\x.v2 % 2=1/\Nat.gcd x.v x.v2=G/\x.v2<=x.v/\x.v+x.v2=v+v2) ?_ ?_
   ·have hb:=c4T ((u.drop lo).take n) ((o.drop lo2).take n2) (by rw [hW1.len];omega) (by rw [hW2.len];omega) hW1.all hW2.all hW1.last hW2.last;rw [hwl,hwl,hW1.hv,hW2.hv] at hb;cases s
    all_goals
     simp only [rw2,kx,Bool.not_true,Bool.not_false];(repeat first|refine uA ?_|(apply uK;· omega)|simp only [go_sem,Nat.reduceBEq]|simp (disch:=omega) only [ww,G9]|(apply uC hb;exact rfl;focus (repeat' first|exact j3.nil|exact Imp.refl rfl|exact Imp.frz rfl rfl rfl|(refine Imp.K5 rfl rfl ?_ ?_;(focus ((try simp only [G9]);omega));(focus first|rfl|assumption))|refine j3.cons ?_ ?_);done));refine S.cond rfl (fun hc=>?_) (fun hc=>?_)
     all_goals simp only [c8D,c8I] at hc
    ·(repeat first|refine uA ?_|(apply uK;· omega)|simp (disch:=omega) only [go_sem,Nat.reduceBEq]);exact S.met ⟨true,o,lo2,n2,v2,u,lo,n,v⟩ ⟨hW2,hW1,hob,hoa,by rw [Nat.gcd_comm];exact hG,by simp only;omega,by simp only;omega⟩ (by repeat first|refine uA ?_|(refine ⟨?_,?_⟩;· first|rfl|trivial|(simp [slot];done))|rfl|trivial|simp)
    ·(repeat first|refine uA ?_|(apply uK;· omega)|simp (disch:=omega) only [go_sem,Nat.reduceBEq,ww]);exact S.met ⟨false,u,lo,n,v,o,lo2,n2,v2⟩ ⟨hW1,hW2,hoa,hob,hG,by simp only;omega,rfl⟩ (by repeat first|refine uA ?_|(refine ⟨?_,?_⟩;· first|rfl|trivial|(simp [slot];done))|rfl|trivial|simp)
    ·(repeat first|refine uA ?_|(apply uK;· omega)|simp (disch:=omega) only [go_sem,Nat.reduceBEq]);exact S.met ⟨false,o,lo2,n2,v2,u,lo,n,v⟩ ⟨hW2,hW1,hob,hoa,by rw [Nat.gcd_comm];exact hG,by simp only;omega,by simp only;omega⟩ (by repeat first|refine uA ?_|(refine ⟨?_,?_⟩;· first|rfl|trivial|(simp [slot];done))|rfl|trivial|simp)
    ·(repeat first|refine uA ?_|(apply uK;· omega)|simp (disch:=omega) only [go_sem,Nat.reduceBEq,ww]);exact S.met ⟨true,u,lo,n,v,o,lo2,n2,v2⟩ ⟨hW1,hW2,hoa,hob,hG,by simp only;omega,rfl⟩ (by repeat first|refine uA ?_|(refine ⟨?_,?_⟩;· first|rfl|trivial|(simp [slot];done))|rfl|trivial|simp)
   clear hl1 hl2 hn1 hn2 hW1 hW2 hoa hob hG hc;rintro ⟨s,u1,lo1,n1,x1,o1,lo3,n3,x3⟩ ⟨hW1,hW2,hoa,hob,hG,hle,hsum⟩;simp only [ints] at hW1 hW2 hoa hob hG hle hsum ⊢;have hl1:=hW1.hl;have hl2:=hW2.hl;have hn1:=hW1.hn;have hn2:=hW2.hn;have hlo1:=hW1.hlo;have hlt1:x1 < 18446744073709551616 ^ n1:=by
    have:=Nm.M9 18446744073709551616 hW1.all;rwa [hW1.len,hW1.hv] at this
   have hmin:=fun (E:Ctx) (hP:E.P=Tryz.prog) (s:Bool)=>c4x (E:=E) hP s u1 o1 lo1 n1 lo3 n3 (by omega) (by omega) hn1 hlo1 hn2 (hW1.le hW2 hle) hW1.ha hW2.ha hW1.hv.symm hW2.hv.symm hle;have hW3:=Win.put (u:=u1) (l1:=lo1) (p:=n1) (z:=x1-x3) hn1 hlo1 hl1 hW1.ha (by omega);generalize put u1 lo1 (Nm.dig 18446744073709551616 n1 (x1-x3))=u2 at *;generalize (Nm.I4 (Nm.dig 18446744073709551616 n1 (x1-x3))).length=m1 at *;have hl3:=hW3.hl;have hn3:=hW3.hn;have hmt:∀ E:Ctx,E.P=Tryz.prog->l7 E [.row 213 1 (ls u1),.row 213 1 (ls o1)] 219 [.wv 0 1 lo1 n1,.wv 1 1 lo3 n3] (.wv 0 1 lo1 m1) [.row 213 1 (ls u2),.row 213 1 (ls o1)] []:=fun E hP=>hmin E hP true
   have hmf:∀ E:Ctx,E.P=Tryz.prog->l7 E [.row 213 1 (ls o1),.row 213 1 (ls u1)] 219 [.wv 1 1 lo1 n1,.wv 0 1 lo3 n3] (.wv 1 1 lo1 m1) [.row 213 1 (ls o1),.row 213 1 (ls u2)] []:=fun E hP=>hmin E hP false;clear hmin;cases s
   all_goals
    simp only [rw2,kx,Bool.not_true,Bool.not_false];(repeat first|refine uA ?_|(apply uK;· omega)|simp only [go_sem,Nat.reduceBEq]|simp (disch:=omega) only [ww,G9]|refine l9.t (hmt _ rfl) ?_|refine l9.t (hmf _ rfl) ?_);(refine uJ rfl (fun hc=>?_) fun hc=>?_)
   ·(repeat first|refine uA ?_|(apply uK;· omega)|simp (disch:=omega) only [go_sem,Nat.reduceBEq,ww]);have h0:=hW3.nonzero (by omega);have h1:x1=x3:=by omega
    subst h1;rw [Nat.gcd_self] at hG;exact S.met ⟨false,u2,lo1,m1,x1-x1,o1,lo3,n3,x1⟩ ⟨hW3,hW2,.inl ⟨by simp only;omega,hG⟩⟩ (by repeat first|refine uA ?_|(refine ⟨?_,?_⟩;· first|rfl|trivial|(simp [slot];done))|rfl|trivial|simp)
   ·have h0:x1-x3 ≠ 0:=fun h=>by have:=hW3.zero h;omega
    obtain ⟨z,hz,hoz⟩:=Nm.a3F h0;have hev:=a8A ((u2.drop lo1).take m1) (by rw [hW3.len];omega) hW3.all (by rw [hW3.hv];exact h0);rw [hwl,hW3.hv] at hev;have heb:=hW3.v2 h0;generalize Nm.v2 (x1-x3)=e at *;have hrg:=fun (E:Ctx) (hP:E.P=Tryz.prog)=>a8h (E:=E) hP false u2 o1 lo1 m1 e z (by omega) hn3 heb hW3.ha (by omega) (by rw [hW3.hv,hz,Nat.mul_comm]);obtain ⟨hj,hz2,_⟩:=hrg ⟨Tryz.prog,eff,0,w,fun _=>False,O,[],[]⟩ rfl;have hrg:=fun E hP=>(hrg E hP).2.2;have hW4:=Win.put (u:=u2) (l1:=lo1+e / 64) (p:=m1-e / 64) (z:=z) (by omega) (by omega) hl3 hW3.ha hz2;generalize put u2 (lo1+e / 64) (Nm.dig 18446744073709551616 (m1-e / 64) z)=u4 at *;generalize lo1+e / 64=lo4 at *
    generalize (Nm.I4 (Nm.dig 18446744073709551616 (m1-e / 64) z)).length=m4 at *;have hrg':∀ (E:Ctx),E.P=Tryz.prog->l7 E [.row 213 1 (ls o1),.row 213 1 (ls u2)] 217 [.wv 1 1 lo1 m1,ints e] (.wv 1 1 lo4 m4) [.row 213 1 (ls o1),.row 213 1 (ls u4)] []:=fun E hP=>hrg E hP;have hgz:Nat.gcd z x3=G:=by
     have h1:=Nm.a7j (d:=z) hob e;rw [<- h1,<- hz,Nm.b2h hle,hG]
    have hzle:z<=x1-x3:=by
     conv=>rhs;rw [hz]
     exact Nat.le_mul_of_pos_left _ (Nat.pow_pos (by decide))
    (repeat first|refine uA ?_|(apply uK;· omega)|simp only [go_sem,Nat.reduceBEq]|simp (disch:=omega) only [ww,G9]|refine l9.t (hrg' _ rfl) ?_|(apply uE hev;exact tz hw;exact rfl;focus (repeat' first|exact j3.nil|exact Imp.refl rfl|exact Imp.frz rfl rfl rfl|(refine Imp.K5 rfl rfl ?_ ?_;(focus ((try simp only [G9]);omega));(focus first|rfl|assumption))|refine j3.cons ?_ ?_);done));refine S.next (x:=(⟨true,u,lo,n,v,o,lo2,n2,v2⟩:Hv)) (⟨false,u4,lo4,m4,z,o1,lo3,n3,x3⟩:Hv) ⟨hW4,hW2,hoz,hob,hgz⟩ (by simp only;omega) (by repeat first|refine uA ?_|(refine ⟨?_,?_⟩;· first|rfl|trivial|(simp [slot];done))|rfl|trivial|simp)
   ·(repeat first|refine uA ?_|(apply uK;· omega)|simp (disch:=omega) only [go_sem,Nat.reduceBEq,ww]);have h0:=hW3.nonzero (by omega);have h1:x1=x3:=by omega
    subst h1;rw [Nat.gcd_self] at hG;exact S.met ⟨true,u2,lo1,m1,x1-x1,o1,lo3,n3,x1⟩ ⟨hW3,hW2,.inl ⟨by simp only;omega,hG⟩⟩ (by repeat first|refine uA ?_|(refine ⟨?_,?_⟩;· first|rfl|trivial|(simp [slot];done))|rfl|trivial|simp)
   ·have h0:x1-x3 ≠ 0:=fun h=>by have:=hW3.zero h;omega
    obtain ⟨z,hz,hoz⟩:=Nm.a3F h0;have hev:=a8A ((u2.drop lo1).take m1) (by rw [hW3.len];omega) hW3.all (by rw [hW3.hv];exact h0);rw [hwl,hW3.hv] at hev;have heb:=hW3.v2 h0;generalize Nm.v2 (x1-x3)=e at *;have hrg:=fun (E:Ctx) (hP:E.P=Tryz.prog)=>a8h (E:=E) hP true u2 o1 lo1 m1 e z (by omega) hn3 heb hW3.ha (by omega) (by rw [hW3.hv,hz,Nat.mul_comm]);obtain ⟨hj,hz2,_⟩:=hrg ⟨Tryz.prog,eff,0,w,fun _=>False,O,[],[]⟩ rfl;have hrg:=fun E hP=>(hrg E hP).2.2;have hW4:=Win.put (u:=u2) (l1:=lo1+e / 64) (p:=m1-e / 64) (z:=z) (by omega) (by omega) hl3 hW3.ha hz2;generalize put u2 (lo1+e / 64) (Nm.dig 18446744073709551616 (m1-e / 64) z)=u4 at *;generalize lo1+e / 64=lo4 at *
    generalize (Nm.I4 (Nm.dig 18446744073709551616 (m1-e / 64) z)).length=m4 at *;have hrg':∀ (E:Ctx),E.P=Tryz.prog->l7 E [.row 213 1 (ls u2),.row 213 1 (ls o1)] 217 [.wv 0 1 lo1 m1,ints e] (.wv 0 1 lo4 m4) [.row 213 1 (ls u4),.row 213 1 (ls o1)] []:=fun E hP=>hrg E hP;have hgz:Nat.gcd z x3=G:=by
     have h1:=Nm.a7j (d:=z) hob e;rw [<- h1,<- hz,Nm.b2h hle,hG]
    have hzle:z<=x1-x3:=by
     conv=>rhs;rw [hz]
     exact Nat.le_mul_of_pos_left _ (Nat.pow_pos (by decide))
    (repeat first|refine uA ?_|(apply uK;· omega)|simp only [go_sem,Nat.reduceBEq]|simp (disch:=omega) only [ww,G9]|refine l9.t (hrg' _ rfl) ?_|(apply uE hev;exact tz hw;exact rfl;focus (repeat' first|exact j3.nil|exact Imp.refl rfl|exact Imp.frz rfl rfl rfl|(refine Imp.K5 rfl rfl ?_ ?_;(focus ((try simp only [G9]);omega));(focus first|rfl|assumption))|refine j3.cons ?_ ?_);done));refine S.next (x:=(⟨true,u,lo,n,v,o,lo2,n2,v2⟩:Hv)) (⟨true,u4,lo4,m4,z,o1,lo3,n3,x3⟩:Hv) ⟨hW4,hW2,hoz,hob,hgz⟩ (by simp only;omega) (by repeat first|refine uA ?_|(refine ⟨?_,?_⟩;· first|rfl|trivial|(simp [slot];done))|rfl|trivial|simp)
  ·(repeat first|refine uA ?_|(apply uK;· omega)|simp (disch:=omega) only [go_sem,Nat.reduceBEq,ww]);have ha1:n<=1/\n2<=1:=by omega
   have hz1:n ≠ 0:=fun h=>by have:=hW1.nonzero h;omega
   have hz2:n2 ≠ 0:=fun h=>by have:=hW2.nonzero h;omega
   exact S.met ⟨s,u,lo,n,v,o,lo2,n2,v2⟩ ⟨hW1,hW2,   .inr ⟨by simp only;omega,by simp only;omega,hG⟩⟩ (by cases s<;>exact (by repeat first|refine uA ?_|(refine ⟨?_,?_⟩;· first|rfl|trivial|(simp [slot];done))|rfl|trivial|simp))
 clear hW1 hW2 hG hoa hob;rintro ⟨s,u,lo,n,v,o,lo2,n2,v2⟩ ⟨hW1,hW2,hcs⟩;simp only [ints] at hW1 hW2 hcs ⊢;refine S.seq ?_;have hl1:=hW1.hl;have hl2:=hW2.hl;have hn1:=hW1.hn;have hn2:=hW2.hn;have hlo1:=hW1.hlo;have hlo2:=hW2.hlo;refine S.join (Y:=Bool × List Nat × List Nat) (fun x=>⟨[(6,.wv (kx !x.1) 1 lo2 n2),(7,ints p),(8,ints q)],rw2 x.1 x.2.1 x.2.2⟩)
  (fun x=>x.2.2.length=o.length/\Nm.O0 x.2.2/\Nm.wv 18446744073709551616 ((x.2.2.drop lo2).take n2)=G) ?_ ?_
 ·have one:∀ {u:List Nat} {lo v:Nat},Win u lo 1 v->u[lo]?=some v/\v < 18446744073709551616:=fun {u lo v} h=>by
   have hg:u[lo]?=some (u[lo]'h.hlo):=c8q h.hlo;have h1:=h.hv;have h2:(u.drop lo).take 1=[u[lo]'h.hlo]:=by rw [List.drop_eq_getElem_cons h.hlo];rfl
   rw [h2] at h1;simp only [Nm.wv] at h1;have h3:=h.ha _ (c8L h.hlo);rw [Nat.mul_zero,Nat.add_zero] at h1;rw [hg,h1];exact ⟨rfl,by omega⟩
  (repeat first|refine uA ?_|(apply uK;· omega)|simp (disch:=omega) only [go_sem,Nat.reduceBEq]);(refine uJ rfl (fun hc=>?_) fun hc=>?_)
  ·have hn:n=1:=by omega
   have hm:n2=1:=by omega
   subst hn hm;obtain ⟨g1,b1⟩:=one hW1;obtain ⟨g2,b2⟩:=one hW2;have hg:Nat.gcd v v2=G:=by rcases hcs with h|h;exact absurd h.1 (by decide);exact h.2.2
   have hco:=b3u v v2 b1 b2;rw [hg] at hco;have hres:Nm.wv 18446744073709551616 (((o.set lo2 G).drop lo2).take 1)=G:=by
    rw [List.drop_eq_getElem_cons (by rw [c9h];exact hlo2),List.getElem_set_self];simp [Nm.wv]
   have hG64:G < 18446744073709551616:=by
    have:v2 ≠ 0:=fun h=>by have:=hW2.zero h;omega
    have:=Nat.gcd_le_right v (show 0 < v2 by omega);omega
   cases s
   all_goals
    simp only [rw2,kx,Bool.not_true,Bool.not_false];(repeat first|refine uA ?_|(apply uK;· omega)|simp only [go_sem,Nat.reduceBEq,Nat.reduceAdd,Nat.reduceLeDiff,G9,O5,g1,g2,c8s,lm,Nat.add_zero,a2d]|simp (disch:=omega) only [ww,G9,O5,g1,g2,c8s,lm,Nat.add_zero,a2d]|(apply uB hco;exact rfl))
   ·exact S.met (⟨false,u,o.set lo2 G⟩:Bool × List Nat × List Nat) ⟨by simp,fun w hw=>by
     rcases Nm.mem_set hw with rfl|hw
     ·exact hG64
     ·exact hW2.ha w hw,hres⟩ (by repeat first|refine uA ?_|(refine ⟨?_,?_⟩;· first|rfl|trivial|(simp [slot];done))|rfl|trivial|simp)
   ·exact S.met (⟨true,u,o.set lo2 G⟩:Bool × List Nat × List Nat) ⟨by simp,fun w hw=>by
     rcases Nm.mem_set hw with rfl|hw
     ·exact hG64
     ·exact hW2.ha w hw,hres⟩ (by repeat first|refine uA ?_|(refine ⟨?_,?_⟩;· first|rfl|trivial|(simp [slot];done))|rfl|trivial|simp)
  ·(repeat first|refine uA ?_|(apply uK;· omega)|simp (disch:=omega) only [go_sem,Nat.reduceBEq,ww]);have hg:v2=G:=by
    rcases hcs with h|h
    ·exact h.2
    ·omega
   exact S.met (⟨s,u,o⟩:Bool × List Nat × List Nat) ⟨rfl,hW2.ha,by rw [<- hg];exact hW2.hv⟩ (by cases s<;>exact (by repeat first|refine uA ?_|(refine ⟨?_,?_⟩;· first|rfl|trivial|(simp [slot];done))|rfl|trivial|simp))
 rintro ⟨s',u',o'⟩ ⟨ho1,ho2,ho3⟩;simp only [ints] at ho1 ho2 ho3 ⊢;have hul:((o'.drop lo2).take n2).length=n2:=by rw [c8E,c9g];omega
 have hua:Nm.O0 ((o'.drop lo2).take n2):=(ho2.drop lo2).take _;have hgw:∀ i,i < n2->o'[lo2+i]?=((o'.drop lo2).take n2)[i]?:=fun i hi=>by rw [List.getElem?_take_of_lt hi,c9e]
 generalize (o'.drop lo2).take n2=W at *;have hfm:=a3T (Nm.a2I W) (Nm.oB (2 ^ (min p q % 8))::List.replicate (min p q / 8) 0) (by rw [Nm.b1s hua];omega) (by rw [c8R,List.length_replicate];omega);rw [Nm.b8S,Nm.b8h hua,ho3,Nat.mul_comm] at hfm;have hWl:W.length<=17179869184:=by omega
 have hz8:List.replicate (8*(n2:Int)).toNat [C.v (.int .u8 0)]=(Nm.a4R W 0).map I6:=by
  rw [Nm.b8g,<- a3E,show (8*(n2:Int)).toNat=8*W.length by omega]
 have hqm:IntKind.i64.wrap (((min p q:Nat):Int).tdiv 8)=((min p q / 8:Nat):Int):=c3a _ (by omega);have hmn:(if (q:Int) < (p:Int) then (q:Int) else (p:Int))=((min p q:Nat):Int):=by split<;>omega
 generalize min p q=r at *;clear hW1 hW2 hcs hn1 hl1 hlo1 ho3;cases s'
 all_goals
  simp only [rw2,kx,Bool.not_true,Bool.not_false];(repeat first|refine uA ?_|(apply uK;· omega)|simp only [go_sem,Nat.reduceBEq,Nat.reduceAdd]|simp (disch:=omega) only [ww,hz8])
 ·refine S.loop (X:=Nat) (fun i=>⟨[(6,.wv 0 1 lo2 n2),(7,ints p),(8,ints q),(9,.rv 2),(72,.wv 0 1 lo2 n2),(73,ints n2),(74,ints i)],[.row 213 1 (ls o'),.row 213 1 (ls u')]++[.row 5 1 ((Nm.a4R W i).map I6)]⟩) (fun i=>i<=n2) (fun i=>n2-i) 0 (c8w _) (by repeat first|refine uA ?_|(refine ⟨?_,?_⟩;· first|rfl|trivial|(simp [slot];done))|rfl|trivial|simp) ?_;intro i hi;simp only [ints,List.cons_append,List.nil_append];(repeat first|refine uA ?_|(apply uK;· omega)|simp (disch:=omega) only [go_sem,Nat.reduceBEq]);(refine uJ rfl (fun hc=>?_) fun hc=>?_)
  ·have hi':i < n2:=by omega
   have hiW:i < W.length:=by omega
   have hgo:o'[lo2+i]?=some (W[i]'hiW):=by rw [hgw i hi',c8q hiW]
   have hgd:W.getD i 0=W[i]'hiW:=Nm.getD_lt hiW;(repeat first|refine uA ?_|(apply uK;· omega)|simp only [go_sem,Nat.reduceBEq,G9,O5,hgo,c8s,lm]|simp (disch:=omega) only [ww,G9,O5,hgo,c8s,lm]);rw [<- Nm.b1O hiW];refine S.loop (X:=Nat) (fun k=>⟨[(6,.wv 0 1 lo2 n2),(7,ints p),(8,ints q),(9,.rv 2),(72,.wv 0 1 lo2 n2),(73,ints n2),(74,ints i),(10,ints i),(11,.v (.int .u64 (W[i]'hiW:Int))),(79,ints k)],[.row 213 1 (ls o'),.row 213 1 (ls u')]++[.row 5 1 ((Nm.a2B W i k).map I6)]⟩) (fun k=>k<=8) (fun k=>8-k) 0 (c8w _) (by repeat first|refine uA ?_|(refine ⟨?_,?_⟩;· first|rfl|trivial|(simp [slot];done))|rfl|trivial|simp) ?_;intro k hk;simp only [ints,List.cons_append,List.nil_append]
   have hlk:=Nm.b2O hua hiW hk;(repeat first|refine uA ?_|(apply uK;· omega)|simp (disch:=omega) only [go_sem,Nat.reduceBEq]);(refine uJ rfl (fun hc=>?_) fun hc=>?_)
   ·have hk':k < 8:=by omega
    have hst:=Nm.b1y (l:=W) (i:=i) hk';rw [hgd] at hst;have hbv:IntKind.u8.wrap (Int.fdiv ((W[i]'hiW:Nat):Int) (2 ^ min (56-8*(k:Int)).toNat 64))=(((Nm.oB ((W[i]'hiW) / 2 ^ (56-8*k))).toNat:Nat):Int):=by
     rw [<- a6O,show min (56-8*(k:Int)).toNat 64=56-8*k by omega];congr 2
    have hix:(8*((n2:Int)-1-(i:Int))+(k:Int)).toNat=8*(W.length-1-i)+k:=by omega
    have hgk:(Nm.a2B W i k)[8*(W.length-1-i)+k]?=some ((Nm.a2B W i k)[8*(W.length-1-i)+k]'(by omega)):=c8q (by omega);(repeat first|refine uA ?_|(apply uK;· omega)|simp only [go_sem,Nat.reduceBEq,Nat.reduceAdd,Nat.reduceLeDiff,c8r,c8x,a7X,hst]|simp (disch:=omega) only [ww,hbv,hix,hgk,c8s,I6]);refine S.next (x:=k) (k+1) hk' (by omega) (by repeat first|refine uA ?_|(refine ⟨?_,?_⟩;· first|rfl|trivial|(simp [slot];done))|rfl|trivial|simp)
   ·have hk8:k=8:=by omega
    subst hk8;rw [Nm.b0i hiW];(repeat first|refine uA ?_|(apply uK;· omega)|simp (disch:=omega) only [go_sem,Nat.reduceBEq,ww]);refine S.next (x:=i) (i+1) hi' (by omega) (by repeat first|refine uA ?_|(refine ⟨?_,?_⟩;· first|rfl|trivial|(simp [slot];done))|rfl|trivial|simp)
  ·have hi':i=n2:=by omega
   subst hi';rw [<- hul,Nm.b4V];have hr1:((r / 8:Nat):Int)+1=((r / 8+1:Nat):Int):=by omega
   have hrep:List.replicate (((r / 8+1:Nat):Int)).toNat [C.v (.int .u8 0)]=(List.replicate (r / 8+1) (0:UInt8)).map I6:=by rw [<- a3E];rfl
   have hrm:(r:Int).tmod 8=((r % 8:Nat):Int):=b3w r;have hpw:IntKind.u8.wrap (1*2 ^ min (r % 8) 8)=(((Nm.oB (2 ^ (r % 8))).toNat:Nat):Int):=by
    rw [show min (r % 8) 8=r % 8 by omega,Nm.a2F,<- a2C];congr 1;simp
   have hby:a0r ([C.v (.int .u8 (((Nm.oB (2 ^ (r % 8))).toNat:Nat):Int))]::List.replicate (r / 8) [C.v (.int .u8 0)])=some (Nm.oB (2 ^ (r % 8))::List.replicate (r / 8) 0):=by
    rw [a3E];exact a0I (Nm.oB (2 ^ (r % 8))::List.replicate (r / 8) 0)
   (repeat first|refine uA ?_|(apply uK;· omega)|simp only [go_sem,Nat.reduceBEq,Nat.reduceAdd,Nat.reduceLeDiff,hmn,hqm,hr1,hrm,hpw,hby,a0I,a6T,c8u]|simp (disch:=omega) only [ww,c8u]|(apply uB hfm;exact rfl));exact uS rfl rfl
 ·refine S.loop (X:=Nat) (fun i=>⟨[(6,.wv 1 1 lo2 n2),(7,ints p),(8,ints q),(9,.rv 2),(72,.wv 1 1 lo2 n2),(73,ints n2),(74,ints i)],[.row 213 1 (ls u'),.row 213 1 (ls o')]++[.row 5 1 ((Nm.a4R W i).map I6)]⟩) (fun i=>i<=n2) (fun i=>n2-i) 0 (c8w _) (by repeat first|refine uA ?_|(refine ⟨?_,?_⟩;· first|rfl|trivial|(simp [slot];done))|rfl|trivial|simp) ?_;intro i hi;simp only [ints,List.cons_append,List.nil_append];(repeat first|refine uA ?_|(apply uK;· omega)|simp (disch:=omega) only [go_sem,Nat.reduceBEq]);(refine uJ rfl (fun hc=>?_) fun hc=>?_)
  ·have hi':i < n2:=by omega
   have hiW:i < W.length:=by omega
   have hgo:o'[lo2+i]?=some (W[i]'hiW):=by rw [hgw i hi',c8q hiW]
   have hgd:W.getD i 0=W[i]'hiW:=Nm.getD_lt hiW;(repeat first|refine uA ?_|(apply uK;· omega)|simp only [go_sem,Nat.reduceBEq,G9,O5,hgo,c8s,lm]|simp (disch:=omega) only [ww,G9,O5,hgo,c8s,lm]);rw [<- Nm.b1O hiW];refine S.loop (X:=Nat) (fun k=>⟨[(6,.wv 1 1 lo2 n2),(7,ints p),(8,ints q),(9,.rv 2),(72,.wv 1 1 lo2 n2),(73,ints n2),(74,ints i),(10,ints i),(11,.v (.int .u64 (W[i]'hiW:Int))),(79,ints k)],[.row 213 1 (ls u'),.row 213 1 (ls o')]++[.row 5 1 ((Nm.a2B W i k).map I6)]⟩) (fun k=>k<=8) (fun k=>8-k) 0 (c8w _) (by repeat first|refine uA ?_|(refine ⟨?_,?_⟩;· first|rfl|trivial|(simp [slot];done))|rfl|trivial|simp) ?_;intro k hk;simp only [ints,List.cons_append,List.nil_append]
   have hlk:=Nm.b2O hua hiW hk;(repeat first|refine uA ?_|(apply uK;· omega)|simp (disch:=omega) only [go_sem,Nat.reduceBEq]);(refine uJ rfl (fun hc=>?_) fun hc=>?_)
   ·have hk':k < 8:=by omega
    have hst:=Nm.b1y (l:=W) (i:=i) hk';rw [hgd] at hst;have hbv:IntKind.u8.wrap (Int.fdiv ((W[i]'hiW:Nat):Int) (2 ^ min (56-8*(k:Int)).toNat 64))=(((Nm.oB ((W[i]'hiW) / 2 ^ (56-8*k))).toNat:Nat):Int):=by
     rw [<- a6O,show min (56-8*(k:Int)).toNat 64=56-8*k by omega];congr 2
    have hix:(8*((n2:Int)-1-(i:Int))+(k:Int)).toNat=8*(W.length-1-i)+k:=by omega
    have hgk:(Nm.a2B W i k)[8*(W.length-1-i)+k]?=some ((Nm.a2B W i k)[8*(W.length-1-i)+k]'(by omega)):=c8q (by omega);(repeat first|refine uA ?_|(apply uK;· omega)|simp only [go_sem,Nat.reduceBEq,Nat.reduceAdd,Nat.reduceLeDiff,c8r,c8x,a7X,hst]|simp (disch:=omega) only [ww,hbv,hix,hgk,c8s,I6]);refine S.next (x:=k) (k+1) hk' (by omega) (by repeat first|refine uA ?_|(refine ⟨?_,?_⟩;· first|rfl|trivial|(simp [slot];done))|rfl|trivial|simp)
   ·have hk8:k=8:=by omega
    subst hk8;rw [Nm.b0i hiW];(repeat first|refine uA ?_|(apply uK;· omega)|simp (disch:=omega) only [go_sem,Nat.reduceBEq,ww]);refine S.next (x:=i) (i+1) hi' (by omega) (by repeat first|refine uA ?_|(refine ⟨?_,?_⟩;· first|rfl|trivial|(simp [slot];done))|rfl|trivial|simp)
  ·have hi':i=n2:=by omega
   subst hi';rw [<- hul,Nm.b4V];have hr1:((r / 8:Nat):Int)+1=((r / 8+1:Nat):Int):=by omega
   have hrep:List.replicate (((r / 8+1:Nat):Int)).toNat [C.v (.int .u8 0)]=(List.replicate (r / 8+1) (0:UInt8)).map I6:=by rw [<- a3E];rfl
   have hrm:(r:Int).tmod 8=((r % 8:Nat):Int):=b3w r;have hpw:IntKind.u8.wrap (1*2 ^ min (r % 8) 8)=(((Nm.oB (2 ^ (r % 8))).toNat:Nat):Int):=by
    rw [show min (r % 8) 8=r % 8 by omega,Nm.a2F,<- a2C];congr 1;simp
   have hby:a0r ([C.v (.int .u8 (((Nm.oB (2 ^ (r % 8))).toNat:Nat):Int))]::List.replicate (r / 8) [C.v (.int .u8 0)])=some (Nm.oB (2 ^ (r % 8))::List.replicate (r / 8) 0):=by
    rw [a3E];exact a0I (Nm.oB (2 ^ (r % 8))::List.replicate (r / 8) 0)
   (repeat first|refine uA ?_|(apply uK;· omega)|simp only [go_sem,Nat.reduceBEq,Nat.reduceAdd,Nat.reduceLeDiff,hmn,hqm,hr1,hrm,hpw,hby,a0I,a6T,c8u]|simp (disch:=omega) only [ww,c8u]|(apply uB hfm;exact rfl));exact uS rfl rfl
theorem c3i (a b:List UInt8) (ha:a.length<=68719476736) (hb:b.length<=68719476736):FZ 151 [sb a,sb b] (sb (Nm.enc (Nat.gcd (Nm.val a) (Nm.val b)))):=by
 refine kW Tryz.func151 (by cbv) (by rfl) fun w O hw=>?_;simp only [j4,TT,II,OA,OC,MM,MG,sb];have hta:=Nm.Y9 a;have htb:=Nm.Y9 b;have hva:=Nm.T9 a;have hvb:=Nm.T9 b;have hca:=Nm.Y1 a;have hcb:=Nm.Y1 b;have fta:=a0N a (by omega);have ftb:=a0N b (by omega);rw [<- hva,<- hvb];clear hva hvb;generalize Nm.trim a=x at *;generalize Nm.trim b=y at *;generalize hG:Nat.gcd (Nm.val x) (Nm.val y)=G at *;(repeat first|refine uA ?_|(apply uK;· first|omega|(intros;simp_all<;>omega))|simp (disch:=omega) only [go_sem,Nat.reduceBEq,Nat.reduceAdd]|(refine uB fta ?_ ?_;rfl)|(refine uB ftb ?_ ?_;rfl))
 refine S.loop (X:=List UInt8 × List UInt8) (fun s=>⟨[(0,sb s.1),(1,sb s.2)],[]⟩) (fun s=>Nm.canon s.1/\Nm.canon s.2/\s.1.length<=68719476736/\s.2.length<=68719476736/\Nat.gcd (Nm.val s.1) (Nm.val s.2)=G) (fun s=>Nm.val s.1+Nm.val s.2) (x,y) ⟨hca,hcb,by simp only;omega,by simp only;omega,hG⟩ (by repeat first|refine uA ?_|(refine ⟨?_,?_⟩;· first|rfl|simp [slot])|rfl|simp) ?_;clear fta ftb hca hcb hta htb hG;rintro ⟨x,y⟩ ⟨hcx,hcy,hlx,hly,hG⟩;simp only [sb] at hcx hcy hlx hly hG ⊢;(repeat first|refine uA ?_|(apply uK;· first|omega|(intros;simp_all<;>omega))|simp (disch:=omega) only [go_sem,Nat.reduceBEq]);(refine uJ rfl (fun hc=>?_) fun hc=>?_)
 ·rw [a0n,a0n] at hc;have hne:=hc;refine S.skip ?_;refine S.block ?_;refine S.seq ?_;refine S.join (Y:=List UInt8 × List UInt8) (fun s=>⟨[(0,sb s.1),(1,sb s.2)],[]⟩) (fun s=>Nm.canon s.1/\Nm.canon s.2/\s.1.length<=68719476736/\s.2.length<=s.1.length/\Nat.gcd (Nm.val s.1) (Nm.val s.2)=G/\s.1 ≠ []/\s.2 ≠ []/\Nm.val s.1+Nm.val s.2=Nm.val x+Nm.val y) ?_ ?_
  ·(repeat first|refine uA ?_|(apply uK;· first|omega|(intros;simp_all<;>omega))|simp (disch:=omega) only [go_sem,Nat.reduceBEq,F5]);(refine uJ rfl (fun hc=>?_) fun hc=>?_)
   ·(repeat first|refine uA ?_|(apply uK;· first|omega|(intros;simp_all<;>omega))|simp (disch:=omega) only [go_sem,Nat.reduceBEq]);exact S.met (⟨y,x⟩:List UInt8 × List UInt8) ⟨hcy,hcx,hly,by simp only;omega,by rw [Nat.gcd_comm];exact hG,hne.2,hne.1,by simp only;omega⟩ (by repeat first|refine uA ?_|(refine ⟨?_,?_⟩;· first|rfl|simp [slot])|rfl|simp)
   ·(repeat first|refine uA ?_|(apply uK;· first|omega|(intros;simp_all<;>omega))|simp (disch:=omega) only [go_sem,Nat.reduceBEq,Nat.reduceAdd,ww]);exact S.met (⟨x,y⟩:List UInt8 × List UInt8) ⟨hcx,hcy,hlx,by simp only;omega,hG,hne.1,hne.2,rfl⟩ (by repeat first|refine uA ?_|(refine ⟨?_,?_⟩;· first|rfl|simp [slot])|rfl|simp)
  clear hcx hcy hlx hly hG hc hne;rintro ⟨p,q⟩ ⟨hcx,hcy,hlx,hly,hG,hp0,hq0,hsum⟩;simp only [sb] at hcx hcy hlx hly hG hp0 hq0 hsum ⊢;have hvp:Nm.val p ≠ 0:=fun h=>hp0 ((Nm.val_zero hcx).1 h);have hvq:Nm.val q ≠ 0:=fun h=>hq0 ((Nm.val_zero hcy).1 h);(repeat first|refine uA ?_|(apply uK;· first|omega|(intros;simp_all<;>omega))|simp (disch:=omega) only [go_sem,Nat.reduceBEq,F5]);(refine uJ rfl (fun hc=>?_) fun hc=>?_)
  ·have hx7:=Nm.a0M (l:=p) (k:=8) (by omega);have hy7:=Nm.a0M (l:=q) (k:=8) (by omega);have e1:Nm.val p % 18446744073709551616=Nm.val p:=Nat.mod_eq_of_lt (by omega);have e2:Nm.val q % 18446744073709551616=Nm.val q:=Nat.mod_eq_of_lt (by omega);have fx:=a2y p (by omega);have fy:=a2y q (by omega);rw [e1] at fx;rw [e2] at fy;have hco:=b3u (Nm.val p) (Nm.val q) (by omega) (by omega);rw [hG] at hco;have hle:G<=Nm.val q:=by rw [<- hG];exact Nat.gcd_le_right _ (by omega)
   have hf:=a0Y G (by omega);(repeat first|refine uA ?_|(apply uK;· first|omega|(intros;simp_all<;>omega))|simp (disch:=omega) only [go_sem,Nat.reduceBEq]|(refine uB fx ?_ ?_;rfl)|(refine uB fy ?_ ?_;rfl)|(refine uB hco ?_ ?_;rfl)|(refine uB hf ?_ ?_;rfl));exact uS rfl rfl
  (repeat first|refine uA ?_|(apply uK;· first|omega|(intros;simp_all<;>omega))|simp (disch:=omega) only [go_sem,Nat.reduceBEq,ww,F5]);(refine uJ rfl (fun hc=>?_) fun hc=>?_)
  ·have hh:=c2D p q hlx (by omega) hvp hvq;rw [hG] at hh;(repeat first|refine uA ?_|(apply uK;· first|omega|(intros;simp_all<;>omega))|simp (disch:=omega) only [go_sem,Nat.reduceBEq]|(refine uD hh ?_ ?_ ?_;exact tz hw;rfl));exact uS rfl rfl
  ·have hd:=b2B p q (by omega) (by omega) hvq;have hlt:Nm.val p % Nm.val q < Nm.val q:=Nat.mod_lt _ (by omega);have hlq:=Nm.a0q q;have hpq:=Nm.a3s hcx (a:=q) (b:=p) (by omega);have hrl:(Nm.enc (Nm.val p % Nm.val q)).length<=q.length:=Nm.H6 (by omega);(repeat first|refine uA ?_|(apply uK;· first|omega|(intros;simp_all<;>omega))|simp (disch:=omega) only [go_sem,Nat.reduceBEq]|(refine uB hd ?_ ?_;rfl));refine S.next (x:=(x,y)) (q,Nm.enc (Nm.val p % Nm.val q)) ⟨hcy,Nm.a2Z _,by simp only;omega,by simp only;omega,?_⟩ (by simp only [Nm.J4];omega) (by repeat first|refine uA ?_|(refine ⟨?_,?_⟩;· first|rfl|simp [slot])|rfl|simp);simp only [Nm.J4];rw [Nat.gcd_comm,<- Nat.gcd_rec,Nat.gcd_comm];exact hG
 ·have hr:Nm.enc G=x++y:=by
   rw [a0n,a0n] at hc;rcases Classical.em (x=[]) with h|h
   ·subst h;rw [Nm.b0W,Nat.gcd_zero_left] at hG;rw [<- hG,Nm.a2a hcy];rfl
   ·have hy:y=[]:=by
     rcases hc with hc|hc
     ·exact absurd hc h
     ·exact hc
    subst hy;rw [Nm.b0W,Nat.gcd_zero_right] at hG;rw [<- hG,Nm.a2a hcx,List.append_nil]
  rw [hr];(repeat first|refine uA ?_|(apply uK;· first|omega|(intros;simp_all<;>omega))|simp (disch:=omega) only [go_sem,Nat.reduceBEq,c5d,F5]);exact uS rfl rfl
def rc (a:Nm.Rt):C:=.agg [.v (.bool a.neg),sb a.num,sb a.den]
def rq (q:Rat):C:=rc (Nm.ofQ q)
def Rb (k:Nat) (a:Nm.Rt):Prop:=a.num.length<=k/\a.den.length<=k
theorem a6A (l:List UInt8):(bs l=(⟨#[1]⟩:ByteArray))=(l=[1]):=b2E l [1]
theorem b1D (l:List UInt8):Nm.canon l <-> (l=[] \/ l.getD 0 0 ≠ 0):=by
 cases l with
 | nil=>simp [Nm.a7G]
 | cons b r=>
  simp only [List.getD_cons_zero,reduceCtorEq,false_or];constructor
  ·intro h h0;exact h r (by rw [h0])
  ·intro h q e;injection e with e1 _;exact h e1
theorem a0p (a:Nm.Rt) (ha:Rb 68719476736 a):FZ 91 [rc a] (.v (.bool (decide a.F7))):=by
 refine kW Tryz.func91 (by cbv) (by rfl) fun w O hw=>?_;obtain ⟨neg,num,den⟩:=a;obtain ⟨hn,hd⟩:=ha;simp only [rc] at hn hd ⊢;simp only [j4,TT,II,OA,OC,MM,VV,FF,MG,VG,FG,sb];have hg:=c3i num den (by omega) (by omega);have hgood:Nm.Rt.F7 ⟨neg,num,den⟩ <-> den ≠ []/\Nm.canon den/\Nm.canon num/\(num=[]->neg=false/\den=[1])/\(den=[1] \/ Nat.gcd (Nm.val num) (Nm.val den)=1):=Iff.rfl;rw [b1D,b1D] at hgood;have hdl:(!decide (den=[]))=true->0 < (den.length:Int):=fun h=>by
  have:den ≠ []:=by simpa using h
  have:=List.length_pos_iff.2 this;omega
 have hnl:num ≠ []->0 < (num.length:Int):=fun h=>by
  have:=List.length_pos_iff.2 h;omega
 have hgb0:∀ {p:Prop} [Decidable p],(Nm.Rt.F7 ⟨neg,num,den⟩ <-> p)->decide (Nm.Rt.F7 ⟨neg,num,den⟩)=decide p:=fun h=>decide_eq_decide.2 h;have hgb:=hgb0 hgood;clear hgood hgb0;generalize decide (Nm.Rt.F7 ⟨neg,num,den⟩)=gb at *;(repeat first|refine uA ?_|(apply uK;· first|omega|trivial|(intro h;rw [h];rfl)|(intro h h2;rw [h,h2];rfl)|(intro h;(try simp at h);omega)|(intros;simp_all<;>omega))|simp only [go_sem,Nat.reduceBEq,Nat.reduceAdd,F5,a0l,a8f,a0n,a6A]|simp (disch:=omega) only [ww,F5,a0l,a8f,a0n,a6A]);refine S.cond rfl (fun hc=>?_) (fun hc=>?_)
 ·have:gb=false:=by
   rw [hgb,c8I];simp only [c9f,c8F,c8D,Bool.not_eq_true',c8I] at hc;grind
  rw [this];(repeat first|refine uA ?_|(apply uK;· first|omega|trivial|(intro h;rw [h];rfl)|(intro h h2;rw [h,h2];rfl)|(intro h;(try simp at h);omega)|(intros;simp_all<;>omega))|simp only [go_sem]|simp (disch:=omega) only [ww]);exact uS rfl rfl
 ·have hone:(Nm.enc (Nat.gcd (Nm.val num) (Nm.val den))=[1])=(Nat.gcd (Nm.val num) (Nm.val den)=1):=by
   rw [<- Nm.O9];exact propext ⟨Nm.b0I,fun h=>by rw [h]⟩
  have:gb=(decide (den=[1]) || decide (Nat.gcd (Nm.val num) (Nm.val den)=1)):=by
   rw [hgb,<- Bool.decide_or];simp only [c8S,Bool.and_eq_false_iff,c8D,Bool.not_eq_false',c8I] at hc;refine decide_eq_decide.2 ⟨fun h=>h.2.2.2.2,fun h=>?_⟩;grind
  rw [this];(repeat first|refine uA ?_|(apply uK;· first|omega|trivial|(intro h;rw [h];rfl)|(intro h h2;rw [h,h2];rfl)|(intro h;(try simp at h);omega)|(intros;simp_all<;>omega))|simp only [go_sem,Nat.reduceBEq,Nat.reduceAdd,a6A,hone]|simp (disch:=omega) only [ww,a0n,a6A,hone]|(refine uD hg ?_ ?_ ?_;exact tz hw;rfl));exact uS rfl rfl
theorem c0x:u7 Tryz.prog 162 [] (rc Nm.a3P):=by
 refine kS Tryz.func162 (by cbv) (by rfl) fun w O=>?_;simp only [j4,TT,OA,OB,rc,Nm.a3P,sb];(repeat first|refine uA ?_|(apply uK;· omega)|simp (disch:=omega) only [go_sem,Nat.reduceBEq]);exact uS rfl rfl
theorem c6Q (a:Nm.Rt) (ha:Rb 68719476736 a):FZ 108 [rc a] (rq (Nm.d9 a)):=by
 refine kW Tryz.func108 (by cbv) (by rfl) fun w O hw=>?_;have hg:=a0p a ha;have fz:=c0x;unfold rq;by_cases h:a.F7
 ·rw [Nm.a1V h];rw [show decide a.F7=true from decide_eq_true h] at hg;simp only [j4,TT,OA,OB,LL,rc,sb] at hg ⊢;(repeat first|refine uA ?_|(apply uK;· omega)|simp (disch:=omega) only [go_sem,Nat.reduceBEq]|(apply uD hg;exact tz hw;rfl));exact S.cond rfl (fun hc=>by cases hc) (fun _=>by
   (repeat first|refine uA ?_|(apply uK;· omega)|simp (disch:=omega) only [go_sem,Nat.reduceBEq])
   (exact uS rfl rfl))
 ·have e:Nm.ofQ (Nm.d9 a)=Nm.a3P:=by unfold Nm.d9;rw [if_neg h,Nm.a4U]
  rw [e];rw [show decide a.F7=false from decide_eq_false h] at hg;simp only [j4,TT,OA,OB,LL,rc,sb,Nm.a3P] at hg fz ⊢;(repeat first|refine uA ?_|(apply uK;· omega)|simp (disch:=omega) only [go_sem,Nat.reduceBEq]|(apply uD hg;exact tz hw;rfl));exact S.cond rfl (fun _=>by
   (repeat first|refine uA ?_|(apply uK;· omega)|simp (disch:=omega) only [go_sem,Nat.reduceBEq]|(apply uB fz;exact rfl))
   (exact uS rfl rfl)) (fun hc=>by cases hc)
theorem c3y {n d k:Nat} (hd:0 < d) (h:(Nm.enc d).length<=k):(Nm.enc (Nat.gcd n d)).length<=k:=Nm.H6 (Nat.lt_of_le_of_lt (Nat.gcd_le_right n hd) (Nm.Z0 h))
theorem a3o (neg:Bool) (n d:Nat) (hd:d ≠ 0) (hn:(Nm.enc n).length<=68719476736) (hdl:(Nm.enc d).length<=68719476736) :
  FZ 124 [.v (.bool neg),sb (Nm.enc n),sb (Nm.enc d)] (rq (mkRat (Nm.sgn neg n) d)):=by
 refine kW Tryz.func124 (by cbv) (by rfl) fun w O hw=>?_;have fz:=c0x;have hg:=c3i (Nm.enc n) (Nm.enc d) hn hdl;rw [Nm.J4,Nm.J4] at hg;unfold rq;rw [<- Nm.b1b neg hd];have hz:(Nm.enc n=[])=(n=0):=propext ⟨fun h=>Classical.byContradiction fun h0=>Nm.a6t h0 h,fun h=>by rw [h,Nm.a1r]⟩;have h1:∀ d,(Nm.enc d=[1])=(d=1):=fun d=>by
  rw [<- Nm.O9];exact propext ⟨Nm.b0I,fun h=>by rw [h]⟩
 have hgp:Nat.gcd n d ≠ 0:=fun h=>hd (Nat.eq_zero_of_gcd_eq_zero_right h);have hgl:(Nm.enc (Nat.gcd n d)).length<=68719476736:=by
  exact c3y (by omega) hdl
 have hd1:=b2B (Nm.enc n) (Nm.enc (Nat.gcd n d)) (by omega) (by omega) (by rw [Nm.J4];exact hgp);have hd2:=b2B (Nm.enc d) (Nm.enc (Nat.gcd n d)) (by omega) (by omega) (by rw [Nm.J4];exact hgp);simp only [Nm.J4] at hd1 hd2;generalize hgg:Nat.gcd n d=g at *;simp only [j4,TT,OA,OB,MM,sb];(repeat first|refine uA ?_|(apply uK;· first|omega|(intros;simp_all<;>omega))|simp (disch:=omega) only [go_sem,Nat.reduceBEq,Nat.reduceAdd,a0n,hz]);(refine uJ rfl (fun hc=>?_) fun hc=>?_)
 ·rw [if_pos hc];simp only [rc,Nm.a3P,sb] at fz ⊢;(repeat first|refine uA ?_|(apply uK;· omega)|simp (disch:=omega) only [go_sem,Nat.reduceBEq]|(apply uB fz;exact rfl));exact uS rfl rfl
 rw [if_neg hc];simp only [rc,sb];(repeat first|refine uA ?_|(apply uK;· omega)|simp (disch:=omega) only [go_sem,Nat.reduceBEq,a6A,h1]);(refine uJ rfl (fun hc=>?_) fun hc=>?_)
 ·(repeat first|refine uA ?_|(apply uK;· omega)|simp (disch:=omega) only [go_sem,Nat.reduceBEq,a6A,h1]|(apply uD hg;exact tz hw;rfl));(refine uJ rfl (fun hc=>?_) fun hc=>?_)
  ·(repeat first|refine uA ?_|(apply uK;· omega)|simp (disch:=omega) only [go_sem,Nat.reduceBEq]|(apply uB hd1;exact rfl)|(apply uB hd2;exact rfl));exact uS rfl rfl
  ·rw [hc,Nat.div_one,Nat.div_one];(repeat first|refine uA ?_|(apply uK;· omega)|simp (disch:=omega) only [go_sem,Nat.reduceBEq]);exact uS rfl rfl
 ·rw [hc,Nat.gcd_one_right] at hgg;subst hgg;rw [hc,Nat.div_one,Nat.div_one];(repeat first|refine uA ?_|(apply uK;· omega)|simp (disch:=omega) only [go_sem,Nat.reduceBEq]);exact uS rfl rfl
theorem b4U (neg mi:Bool) (a b:List UInt8) (ha:a.length<=68719476736) (hb:b.length<=68719476736) :
  u7 Tryz.prog 157 [.v (.bool neg),sb a,.v (.bool mi),sb b] (.tup [.v (.bool (Nm.O1 neg (Nm.val a) mi (Nm.val b)).1),sb (Nm.enc (Nm.O1 neg (Nm.val a) mi (Nm.val b)).2)]):=by
 refine kS Tryz.func157 (by cbv) (by rfl) fun w O=>?_;have hadd:=f_add a b (by omega) (by omega);have hs1:=c3q a b (by omega) (by omega);have hs2:=c3q b a (by omega) (by omega);simp only [j4,TT,II,OA,MM,sb];(repeat first|refine uA ?_|(apply uK;· first|omega|(intros;simp_all<;>omega))|simp (disch:=omega) only [go_sem,Nat.reduceBEq,Nat.reduceAdd]);refine S.cond rfl (fun hc=>?_) (fun hc=>?_)
 ·have e:neg=mi:=by simpa using hc
  subst e;unfold Nm.O1;rw [if_pos rfl];(repeat first|refine uA ?_|(apply uK;· omega)|simp (disch:=omega) only [go_sem,Nat.reduceBEq]|(apply uB hadd;exact rfl));exact uS rfl rfl
 ·have e:neg ≠ mi:=by simpa using hc
  unfold Nm.O1;rw [if_neg e];by_cases h:Nm.val b<=Nm.val a
  ·rw [if_pos h];have e1:F3 (Nm.val a) (Nm.val b)=Nm.enc (Nm.val a-Nm.val b):=by unfold F3;rw [if_pos h]
   have e2:a5v (Nm.val a) (Nm.val b)=0:=by unfold a5v;rw [if_pos h]
   rw [e1,e2] at hs1;(repeat first|refine uA ?_|(apply uK;· omega)|simp (disch:=omega) only [go_sem,Nat.reduceBEq]|(apply uB hs1;exact rfl));refine S.cond rfl (fun hc=>?_) (fun hc=>?_)
   ·(repeat first|refine uA ?_|(apply uK;· omega)|simp (disch:=omega) only [go_sem,Nat.reduceBEq]);exact uS rfl rfl
   ·simp at hc
  ·rw [if_neg h];have e1:F3 (Nm.val a) (Nm.val b)=[]:=by unfold F3;rw [if_neg h]
   have e2:a5v (Nm.val a) (Nm.val b)=1:=by unfold a5v;rw [if_neg h]
   have e3:F3 (Nm.val b) (Nm.val a)=Nm.enc (Nm.val b-Nm.val a):=by unfold F3;rw [if_pos (by omega)]
   have e4:a5v (Nm.val b) (Nm.val a)=0:=by unfold a5v;rw [if_pos (by omega)]
   rw [e1,e2] at hs1;rw [e3,e4] at hs2;(repeat first|refine uA ?_|(apply uK;· omega)|simp (disch:=omega) only [go_sem,Nat.reduceBEq]|(apply uB hs1;exact rfl));refine S.cond rfl (fun hc=>?_) (fun hc=>?_)
   ·simp at hc
   ·(repeat first|refine uA ?_|(apply uK;· omega)|simp (disch:=omega) only [go_sem,Nat.reduceBEq]|(apply uB hs2;exact rfl));exact uS rfl rfl
namespace Nm
theorem J7 {a b k m:Nat} (ha:(enc a).length<=k) (hb:(enc b).length<=m):(enc (a*b)).length<=k+m:=by
 refine H6 ?_;rw [Nat.pow_add];exact Nat.mul_lt_mul'' (Z0 ha) (Z0 hb)
theorem a2G {a b k:Nat} (ha:(enc a).length<=k) (hb:(enc b).length<=k):(enc (a+b)).length<=k+1:=by
 refine H6 ?_;have h1:=Z0 ha;have h2:=Z0 hb;rw [c9c];omega
theorem a2T {a b:Nat} (h:a<=b):(enc a).length<=(enc b).length:=H6 (Nat.lt_of_le_of_lt h (Z0 (c8B _)))
theorem a6Y (neg:Bool) (a:Nat) (mi:Bool) (b:Nat):(O1 neg a mi b).2<=a+b:=by
 unfold O1;repeat' split
 all_goals simp only;omega
theorem add_same {p q:Rat} (h:p.den=q.den):p+q=mkRat (p.num+q.num) p.den:=by
 rw [Rat.add_def',<- h,<- Int.add_mul,Rat.mkRat_mul_right p.den_nz]
theorem a8B (p:Rat):sgn (decide (p.num < 0)) p.num.natAbs=p.num:=b5P p
theorem c1w {p q:Rat} (h:p.den=q.den):mkRat (sgn (O1 (decide (p.num < 0)) p.num.natAbs (decide (q.num < 0)) q.num.natAbs).1 (O1 (decide (p.num < 0)) p.num.natAbs (decide (q.num < 0)) q.num.natAbs).2) p.den=p+q:=by
 rw [b1u,a8B,a8B,add_same h]
theorem b1M (p q:Rat):mkRat (sgn (O1 (decide (p.num < 0)) (p.num.natAbs*q.den) (decide (q.num < 0)) (q.num.natAbs*p.den)).1 (O1 (decide (p.num < 0)) (p.num.natAbs*q.den) (decide (q.num < 0)) (q.num.natAbs*p.den)).2) (p.den*q.den)=p+q:=by
 rw [b1u,a5O,a5O,a8B,a8B,Rat.add_def']
theorem b2U (p q:Rat):mkRat (sgn (decide (p.num < 0) != decide (q.num < 0)) (p.num.natAbs*q.num.natAbs)) (p.den*q.den)=p*q:=by
 rw [c3S,a8B,a8B,Rat.mul_def']
theorem b3y (p q:Rat) (h:q ≠ 0):mkRat (sgn (decide (p.num < 0) != decide (q.num < 0)) (p.num.natAbs*q.den)) (p.den*q.num.natAbs)=p / q:=by
 have hn:q.num ≠ 0:=fun e=>h (Rat.num_eq_zero.1 e);have hn':q.num.natAbs ≠ 0:=by omega
 generalize hr:mkRat (sgn (decide (p.num < 0) != decide (q.num < 0)) (p.num.natAbs*q.den)) (p.den*q.num.natAbs)=r;have key:p=r*q:=by
  rw [<- hr];have e1:p=mkRat p.num p.den:=(Rat.mkRat_self p).symm;have e2:q=mkRat q.num q.den:=(Rat.mkRat_self q).symm;have hD:p.den*q.num.natAbs*q.den ≠ 0:=Nat.mul_ne_zero (Nat.mul_ne_zero p.den_nz hn') q.den_nz;have e3:mkRat (sgn (decide (p.num < 0) != decide (q.num < 0)) (p.num.natAbs*q.den)) (p.den*q.num.natAbs)*q=mkRat (sgn (decide (p.num < 0) != decide (q.num < 0)) (p.num.natAbs*q.den)*q.num) (p.den*q.num.natAbs*q.den):=by
   conv=>lhs;rw [e2]
   rw [Rat.mkRat_mul_mkRat];simp only [Rat.mkRat_self]
  rw [e3]
  conv=>lhs;rw [e1]
  rw [Rat.mkRat_eq_iff p.den_nz hD];have hx:sgn (decide (p.num < 0) != decide (q.num < 0)) (p.num.natAbs*q.den)*q.num=p.num*((q.num.natAbs:Nat):Int)*q.den:=by
   rw [a5O];have:sgn (decide (p.num < 0) != decide (q.num < 0)) p.num.natAbs*q.num=p.num*((q.num.natAbs:Nat):Int):=by
    unfold sgn;by_cases hA:p.num < 0
    ·by_cases hB:q.num < 0
     ·simp only [hA,hB,decide_true,bne_self_eq_false,c9d,if_false];have e1:((p.num.natAbs:Nat):Int)=-p.num:=by omega
      have e2:((q.num.natAbs:Nat):Int)=-q.num:=by omega
      rw [e1,e2];grind
     ·simp only [hA,hB,decide_true,decide_false,Bool.bne_false,if_true];have e1:((p.num.natAbs:Nat):Int)=-p.num:=by omega
      have e2:((q.num.natAbs:Nat):Int)=q.num:=by omega
      rw [e1,e2];grind
    ·by_cases hB:q.num < 0
     ·simp only [hA,hB,decide_true,decide_false,Bool.bne_true,Bool.not_false,if_true];have e1:((p.num.natAbs:Nat):Int)=p.num:=by omega
      have e2:((q.num.natAbs:Nat):Int)=-q.num:=by omega
      rw [e1,e2];grind
     ·simp only [hA,hB,decide_false,bne_self_eq_false,c9d,if_false];have e1:((p.num.natAbs:Nat):Int)=p.num:=by omega
      have e2:((q.num.natAbs:Nat):Int)=q.num:=by omega
      rw [e1,e2]
   calc sgn (decide (p.num < 0) != decide (q.num < 0)) p.num.natAbs*(q.den:Int)*q.num=(sgn (decide (p.num < 0) != decide (q.num < 0)) p.num.natAbs*q.num)*(q.den:Int):=by grind
    _=_:=by rw [this]
  rw [hx]
  push_cast
  grind
 rw [Rat.div_def]
 conv=>rhs;rw [key]
 rw [Rat.mul_assoc,Rat.mul_inv_cancel _ h,Rat.mul_one]
end Nm
theorem Rb.fit {k:Nat} {a:Nm.Rt} (h:Rb k a) (hk:1<=k):Rb k (Nm.ofQ (Nm.d9 a)):=by
 by_cases hg:a.F7
 ·rw [Nm.a1V hg];exact h
 ·have e:Nm.ofQ (Nm.d9 a)=Nm.a3P:=by unfold Nm.d9;rw [if_neg hg,Nm.a4U]
  rw [e];exact ⟨c8w _,hk⟩
theorem Rb.g {k:Nat} {a:Nm.Rt} (h:Rb k a) (e:Nat.ble 1 k=true):Rb k (Nm.ofQ (Nm.d9 a)):=h.fit (c8G e)
theorem V6 (a:Nm.Rt) (ha:Rb 17179869184 a):FZ 108 [rc a] (rq (Nm.d9 a)):=c6Q a ⟨by have:=ha.1;omega,by have:=ha.2;omega⟩
theorem c3R (a b:Nat):(Nm.enc a=Nm.enc b)=(a=b):=propext ⟨Nm.b0I,fun h=>by rw [h]⟩
theorem a2Y (n:Nat):(Nm.enc n=[])=(n=0):=propext ⟨fun h=>Classical.byContradiction fun h0=>Nm.a6t h0 h,fun h=>by rw [h,Nm.a1r]⟩
theorem a1y (n:Int) (h1:-9223372036854775808<=n) (h2:n<=9223372036854775807):FZ 56 [ints n] (rq (n:Rat)):=by
 refine kW Tryz.func56 (by cbv) (by rfl) fun w O hw=>?_;have hb:∀ k:Nat,k<=9223372036854775808->(Nm.enc k).length<=8:=fun k hk=>Nm.H6 (by omega);have e1:sb [1]=sb (Nm.enc 1):=by rw [Nm.O9]
 simp only [j4,TT,II,OA,OB,MM,ints];(repeat first|refine uA ?_|(apply uK;· omega)|simp (disch:=omega) only [go_sem,Nat.reduceBEq]);(refine uJ rfl (fun hc=>?_) fun hc=>?_)
 ·have hof:=b3D n (by omega);have hm:=a3o false n.toNat 1 (by decide) (by have:=hb n.toNat (by omega);omega) (by have:=hb 1 (by decide);omega);have e:mkRat (Nm.sgn false n.toNat) 1=(n:Rat):=by
   rw [Rat.mkRat_one];congr 1;unfold Nm.sgn;simp;omega
  rw [e,Nm.O9] at hm;simp only [rq,rc,sb,ints] at hm hof ⊢;(repeat first|refine uA ?_|(apply uK;· omega)|simp (disch:=omega) only [go_sem,Nat.reduceBEq]|(apply uB hof;exact rfl)|(apply uD hm;exact tz hw;rfl));exact uS rfl rfl
 ·have hof:=b3D (-(n+1)) (by omega);have hadd:=f_add (Nm.enc (-(n+1)).toNat) [1] (by have:=hb (-(n+1)).toNat (by omega);omega) (by decide);have hm:=a3o true ((-(n+1)).toNat+1) 1 (by decide) (by have:=hb ((-(n+1)).toNat+1) (by omega);omega) (by have:=hb 1 (by decide);omega);have e:mkRat (Nm.sgn true ((-(n+1)).toNat+1)) 1=(n:Rat):=by
   rw [Rat.mkRat_one];congr 1;unfold Nm.sgn;simp;omega
  rw [Nm.J4,show Nm.val [1]=1 from rfl] at hadd;rw [e,Nm.O9] at hm;have hneg:IntKind.i64.wrap (0-(n+1))=-(n+1):=by rw [Eng.wrap_i64 (by omega)];omega
  simp only [rq,rc,sb,ints] at hm hof hadd ⊢;(repeat first|refine uA ?_|(apply uK;· omega)|simp (disch:=omega) only [go_sem,Nat.reduceBEq,ww,hneg]|(apply uB hof;exact rfl)|(apply uB hadd;exact rfl)|(apply uD hm;exact tz hw;rfl));exact uS rfl rfl
theorem Z7 (a b:Nm.Rt) (ha:Rb 17179869184 a) (hb:Rb 17179869184 b):FZ 103 [rc a,rc b] (rq (Nm.d9 a+Nm.d9 b)):=by
 refine kW Tryz.func103 (by cbv) (by rfl) fun w O hw=>?_;have hfa:=V6 a ha;have hfb:=V6 b hb;obtain ⟨n1,d1⟩:=ha.g rfl;obtain ⟨n2,d2⟩:=hb.g rfl;generalize Nm.d9 a=p at *;generalize Nm.d9 b=q at *;simp only [Nm.ofQ] at n1 d1 n2 d2;have hp:=p.den_nz;have hq:=q.den_nz;have l1:=Nm.J7 n1 d2;have l2:=Nm.J7 n2 d1;have l3:=Nm.J7 d1 d2;have s1:=b4U (decide (p.num < 0)) (decide (q.num < 0)) (Nm.enc p.num.natAbs) (Nm.enc q.num.natAbs) (by omega) (by omega);have m1:=a3T (Nm.enc p.num.natAbs) (Nm.enc q.den) (by omega) (by omega);have m2:=a3T (Nm.enc q.num.natAbs) (Nm.enc p.den) (by omega) (by omega);have m3:=a3T (Nm.enc p.den) (Nm.enc q.den) (by omega) (by omega);simp only [Nm.J4] at s1 m1 m2 m3
 have s2:=b4U (decide (p.num < 0)) (decide (q.num < 0)) (Nm.enc (p.num.natAbs*q.den)) (Nm.enc (q.num.natAbs*p.den)) (by omega) (by omega);simp only [Nm.J4] at s2;have k1:(Nm.enc (Nm.O1 (decide (p.num < 0)) p.num.natAbs (decide (q.num < 0)) q.num.natAbs).2).length<=17179869185:=c8y (Nm.a2T (Nm.a6Y _ _ _ _)) (Nm.a2G n1 n2);have k2:(Nm.enc (Nm.O1 (decide (p.num < 0)) (p.num.natAbs*q.den) (decide (q.num < 0)) (q.num.natAbs*p.den)).2).length<=34359738369:=c8y (Nm.a2T (Nm.a6Y _ _ _ _)) (Nm.a2G l1 l2);have v1:=a3o (Nm.O1 (decide (p.num < 0)) p.num.natAbs (decide (q.num < 0)) q.num.natAbs).1 (Nm.O1 (decide (p.num < 0)) p.num.natAbs (decide (q.num < 0)) q.num.natAbs).2 p.den hp (by omega) (by omega)
 have v2:=a3o (Nm.O1 (decide (p.num < 0)) (p.num.natAbs*q.den) (decide (q.num < 0)) (q.num.natAbs*p.den)).1 (Nm.O1 (decide (p.num < 0)) (p.num.natAbs*q.den) (decide (q.num < 0)) (q.num.natAbs*p.den)).2 (p.den*q.den) (Nat.mul_ne_zero hp hq) (by omega) (by omega);rw [Nm.b1M] at v2;have hsame:=fun h=>Nm.c1w (p:=p) (q:=q) h;generalize p+q=r at *;generalize Nm.O1 (decide (p.num < 0)) p.num.natAbs (decide (q.num < 0)) q.num.natAbs=t1 at *;generalize Nm.O1 (decide (p.num < 0)) (p.num.natAbs*q.den) (decide (q.num < 0)) (q.num.natAbs*p.den)=t2 at *;simp only [j4,TT,OA,OB,MM,LL,VV,FF];simp only [rq,rc,sb,Nm.ofQ] at *
 (repeat first|refine uA ?_|(apply uK;· first|omega|(intros;simp_all<;>omega))|simp (disch:=omega) only [go_sem,Nat.reduceBEq,Nat.reduceAdd,b2E,c3R]|(refine uD hfa ?_ ?_ ?_;exact tz hw;rfl)|(refine uD hfb ?_ ?_ ?_;exact tz hw;rfl));(refine uJ rfl (fun hc=>?_) fun hc=>?_)
 ·rw [hsame hc] at v1;(repeat first|refine uA ?_|(apply uK;· first|omega|(intros;simp_all<;>omega))|simp (disch:=omega) only [go_sem,Nat.reduceBEq,Nat.reduceAdd]|(refine uB s1 ?_ ?_;rfl)|(refine uD v1 ?_ ?_ ?_;exact tz hw;rfl));exact uS rfl rfl
 ·(repeat first|refine uA ?_|(apply uK;· first|omega|(intros;simp_all<;>omega))|simp (disch:=omega) only [go_sem,Nat.reduceBEq,Nat.reduceAdd]|(refine uB m1 ?_ ?_;rfl)|(refine uB m2 ?_ ?_;rfl)|(refine uB m3 ?_ ?_;rfl)|(refine uB s2 ?_ ?_;rfl)|(refine uD v2 ?_ ?_ ?_;exact tz hw;rfl));exact uS rfl rfl
theorem b0o (a b:Nm.Rt) (ha:Rb 17179869184 a) (hb:Rb 17179869184 b):FZ 55 [rc a,rc b] (rq (Nm.d9 a*Nm.d9 b)):=by
 refine kW Tryz.func55 (by cbv) (by rfl) fun w O hw=>?_;have hfa:=V6 a ha;have hfb:=V6 b hb;obtain ⟨n1,d1⟩:=ha.g rfl;obtain ⟨n2,d2⟩:=hb.g rfl;generalize Nm.d9 a=p at *;generalize Nm.d9 b=q at *;simp only [Nm.ofQ] at n1 d1 n2 d2;have hp:=p.den_nz;have hq:=q.den_nz;have l1:=Nm.J7 n1 n2;have l3:=Nm.J7 d1 d2;have m1:=a3T (Nm.enc p.num.natAbs) (Nm.enc q.num.natAbs) (by omega) (by omega);have m3:=a3T (Nm.enc p.den) (Nm.enc q.den) (by omega) (by omega);simp only [Nm.J4] at m1 m3;have v2:=a3o (decide (p.num < 0) != decide (q.num < 0)) (p.num.natAbs*q.num.natAbs) (p.den*q.den) (Nat.mul_ne_zero hp hq) (by omega) (by omega);rw [Nm.b2U] at v2;generalize p*q=r at *;simp only [j4,TT,OA,OB,LL,VV,FF]
 simp only [rq,rc,sb,Nm.ofQ] at *;(repeat first|refine uA ?_|(apply uK;· first|omega|(intros;simp_all<;>omega))|simp (disch:=omega) only [go_sem,Nat.reduceBEq,Nat.reduceAdd]|(apply uB m1;exact rfl)|(apply uB m3;exact rfl)|(apply uD hfa;exact tz hw;rfl)|(apply uD hfb;exact tz hw;rfl)|(apply uD v2;exact tz hw;rfl));exact uS rfl rfl
def q8 (q:Rat):Int:=if q.num=0 then 0 else if q.num < 0 then -1 else 1
theorem b0l (p:Rat):Nm.ofQ (-p)=⟨!decide (p.num < 0) && !decide (p.num.natAbs=0),Nm.enc p.num.natAbs,Nm.enc p.den⟩:=by
 unfold Nm.ofQ;rw [Rat.neg_num,Rat.neg_den,Int.natAbs_neg];congr 1;by_cases h:p.num < 0
 ·simp [h];omega
 ·by_cases h0:p.num=0
  ·simp [h0]
  ·have:¬ p.num.natAbs=0:=by omega
   simp [h,this];omega
theorem a4S (a:Nm.Rt) (ha:Rb 17179869184 a):FZ 60 [rc a] (rq (- Nm.d9 a)):=by
 refine kW Tryz.func60 (by cbv) (by rfl) fun w O hw=>?_;have hfa:=V6 a ha;generalize Nm.d9 a=p at *;simp only [j4,TT,OA,OB,OC,MM,LL,VV,FF,VG,FG];unfold rq at *;rw [b0l];simp only [rc,sb,Nm.ofQ] at *;(repeat first|refine uA ?_|(apply uK;· first|omega|(intros;simp_all<;>omega))|simp (disch:=omega) only [go_sem,Nat.reduceBEq,Nat.reduceAdd,a0n,a2Y]|(apply uD hfa;exact tz hw;rfl));exact uS rfl rfl
theorem b9m {k:Nat} {a:Nm.Rt} (h:Rb k a) (hk:1<=k):Rb k (Nm.ofQ (- Nm.d9 a)):=by
 obtain ⟨h1,h2⟩:=h.fit hk;rw [b0l];exact ⟨h1,h2⟩
theorem a4e (a b:Nm.Rt) (ha:Rb 17179869184 a) (hb:Rb 17179869184 b):FZ 113 [rc a,rc b] (rq (Nm.d9 a-Nm.d9 b)):=by
 refine kW Tryz.func113 (by cbv) (by rfl) fun w O hw=>?_;have hn:=a4S b hb;have hadd:=Z7 a (Nm.ofQ (- Nm.d9 b)) ha (b9m hb (by decide));rw [Nm.l6,<- Rat.sub_eq_add_neg] at hadd;unfold rq at *;generalize Nm.ofQ (- Nm.d9 b)=c at *;generalize Nm.ofQ (Nm.d9 a-Nm.d9 b)=d at *;simp only [j4,TT,OA,OB,LL];simp only [rc,sb] at *;(repeat first|refine uA ?_|(apply uK;· first|omega|(intros;simp_all<;>omega))|simp (disch:=omega) only [go_sem,Nat.reduceBEq,Nat.reduceAdd]|(apply uD hn;exact tz hw;rfl)|(apply uD hadd;exact tz hw;rfl));exact uS rfl rfl
def a3r (p q:Rat):Nm.Rt:=if q=0 then ⟨false,[],[]⟩ else Nm.ofQ (p / q)
def a9r (q:Rat):Int:=if q=0 then 12 else 0
theorem b4h (a b:Nm.Rt) (ha:Rb 17179869184 a) (hb:Rb 17179869184 b):FZ 160 [rc a,rc b] (.tup [rc (a3r (Nm.d9 a) (Nm.d9 b)),ints (a9r (Nm.d9 b))]):=by
 refine kW Tryz.func160 (by cbv) (by rfl) fun w O hw=>?_;have hfa:=V6 a ha;have hfb:=V6 b hb;obtain ⟨n1,d1⟩:=ha.g rfl;obtain ⟨n2,d2⟩:=hb.g rfl;generalize Nm.d9 a=p at *;generalize Nm.d9 b=q at *;simp only [Nm.ofQ] at n1 d1 n2 d2;have hp:=p.den_nz;have l1:=Nm.J7 n1 d2;have l3:=Nm.J7 d1 n2;have m1:=a3T (Nm.enc p.num.natAbs) (Nm.enc q.den) (by omega) (by omega);have m3:=a3T (Nm.enc p.den) (Nm.enc q.num.natAbs) (by omega) (by omega);simp only [Nm.J4] at m1 m3;have v2:=fun h0:q.num.natAbs ≠ 0=>a3o (decide (p.num < 0) != decide (q.num < 0)) (p.num.natAbs*q.den) (p.den*q.num.natAbs) (Nat.mul_ne_zero hp h0) (by omega) (by omega);have hdm:=fun h=>Nm.b3y p q h;simp only [j4,TT,II,OA,OB,LL,VV,FF]
 simp only [rq,rc,sb,Nm.ofQ,ints] at *;(repeat first|refine uA ?_|(apply uK;· first|omega|(intros;simp_all<;>omega))|simp (disch:=omega) only [go_sem,Nat.reduceBEq,Nat.reduceAdd,a0n,a2Y]|(refine uD hfa ?_ ?_ ?_;exact tz hw;rfl)|(refine uD hfb ?_ ?_ ?_;exact tz hw;rfl));(refine uJ rfl (fun hc=>?_) fun hc=>?_)
 ·have h0:q=0:=Rat.num_eq_zero.1 (by omega);have e1:a3r p q=⟨false,[],[]⟩:=by unfold a3r;rw [if_pos h0]
  have e2:a9r q=12:=by unfold a9r;rw [if_pos h0]
  rw [e1,e2];(repeat first|refine uA ?_|(apply uK;· first|omega|(intros;simp_all<;>omega))|simp (disch:=omega) only [go_sem,Nat.reduceBEq,Nat.reduceAdd]);exact uS rfl rfl
 ·have h0:q ≠ 0:=fun h=>hc (by rw [Rat.num_eq_zero.2 h];rfl);have e1:a3r p q=Nm.ofQ (p / q):=by unfold a3r;rw [if_neg h0]
  have e2:a9r q=0:=by unfold a9r;rw [if_neg h0]
  rw [e1,e2];have v2:=v2 hc;rw [hdm h0] at v2;generalize p / q=r at *;simp only [Nm.ofQ] at *;(repeat first|refine uA ?_|(apply uK;· first|omega|(intros;simp_all<;>omega))|simp (disch:=omega) only [go_sem,Nat.reduceBEq,Nat.reduceAdd]|(refine uB m1 ?_ ?_;rfl)|(refine uB m3 ?_ ?_;rfl)|(refine uD v2 ?_ ?_ ?_;exact tz hw;rfl));exact uS rfl rfl
theorem M8 (a:Nm.Rt) (ha:Rb 17179869184 a):FZ 61 [rc a] (ints (q8 (Nm.d9 a))):=by
 refine kW Tryz.func61 (by cbv) (by rfl) fun w O hw=>?_;have hfa:=V6 a ha;generalize Nm.d9 a=p at *;simp only [j4,TT,II,OA,OB,MM,LL,VV,FF];simp only [rq,rc,sb,Nm.ofQ,ints] at *;(repeat first|refine uA ?_|(apply uK;· omega)|simp (disch:=omega) only [go_sem,Nat.reduceBEq,a0n,a2Y]|(apply uD hfa;exact tz hw;rfl));(refine uJ rfl (fun hc=>?_) fun hc=>?_)
 ·have:q8 p=0:=by unfold q8;rw [if_pos (by omega)]
  rw [this];(repeat first|refine uA ?_|(apply uK;· omega)|simp (disch:=omega) only [go_sem]);exact uS rfl rfl
 (repeat first|refine uA ?_|(apply uK;· first|omega|(intros;simp_all<;>omega))|simp (disch:=omega) only [go_sem,Nat.reduceBEq,Nat.reduceAdd]);(refine uJ rfl (fun hc=>?_) fun hc=>?_)
 ·have:q8 p=-1:=by unfold q8;rw [if_neg (by omega),if_pos hc]
  rw [this];(repeat first|refine uA ?_|(apply uK;· omega)|simp (disch:=omega) only [go_sem]);exact uS rfl rfl
 ·have:q8 p=1:=by unfold q8;rw [if_neg (by omega),if_neg hc]
  rw [this];(repeat first|refine uA ?_|(apply uK;· omega)|simp (disch:=omega) only [go_sem]);exact uS rfl rfl
theorem b0f (a b:Nat):-1<=Nm.a1b a b/\Nm.a1b a b<=1:=by
 unfold Nm.a1b;by_cases h:a < b
 ·rw [if_pos h];omega
 ·rw [if_neg h];split<;>omega
theorem F6 (a b:Nm.Rt) (ha:Rb 17179869184 a) (hb:Rb 17179869184 b):FZ 40 [rc a,rc b] (ints (Nm.l8 (Nm.d9 a) (Nm.d9 b))):=by
 refine kW Tryz.func40 (by cbv) (by rfl) fun w O hw=>?_;have hfa:=V6 a ha;have hfb:=V6 b hb;obtain ⟨n1,d1⟩:=ha.g rfl;obtain ⟨n2,d2⟩:=hb.g rfl;generalize Nm.d9 a=p at *;generalize Nm.d9 b=q at *;rw [Nm.c4E];simp only [Nm.ofQ] at n1 d1 n2 d2;have l1:=Nm.J7 n1 d2;have l2:=Nm.J7 n2 d1;have m1:=a3T (Nm.enc p.num.natAbs) (Nm.enc q.den) (by omega) (by omega);have m2:=a3T (Nm.enc q.num.natAbs) (Nm.enc p.den) (by omega) (by omega);simp only [Nm.J4] at m1 m2;have hcmp:=b0e (Nm.enc (p.num.natAbs*q.den)) (Nm.enc (q.num.natAbs*p.den)) (by omega) (by omega);simp only [Nm.J4] at hcmp;have hcr:=b0f (p.num.natAbs*q.den) (q.num.natAbs*p.den);generalize Nm.a1b (p.num.natAbs*q.den) (q.num.natAbs*p.den)=cn at *
 simp only [j4,TT,II,OA,OB,MM,LL,VV,FF];simp only [rq,rc,sb,Nm.ofQ,ints] at *;generalize decide (p.num < 0)=bp at *;generalize decide (q.num < 0)=bq at *;(repeat first|refine uA ?_|(apply uK;· first|omega|(intros;simp_all<;>omega))|simp (disch:=omega) only [go_sem,Nat.reduceBEq,Nat.reduceAdd]|(apply uD hfa;exact tz hw;rfl)|(apply uD hfb;exact tz hw;rfl));refine S.cond rfl (fun hc=>?_) (fun hc=>?_)
 ·have hne:bp ≠ bq:=by simpa using hc
  rw [if_pos hne];(repeat first|refine uA ?_|(apply uK;· omega)|simp (disch:=omega) only [go_sem,Nat.reduceBEq]);refine S.cond rfl (fun hc=>?_) (fun hc=>?_)
  ·rw [if_pos hc];(repeat first|refine uA ?_|(apply uK;· omega)|simp (disch:=omega) only [go_sem]);exact uS rfl rfl
  ·rw [if_neg (by simp [hc])];(repeat first|refine uA ?_|(apply uK;· omega)|simp (disch:=omega) only [go_sem]);exact uS rfl rfl
 ·have he:bp=bq:=by simpa using hc
  rw [if_neg (by simp [he])];(repeat first|refine uA ?_|(apply uK;· omega)|simp (disch:=omega) only [go_sem,Nat.reduceBEq]|(apply uB m1;exact rfl)|(apply uB m2;exact rfl)|(apply uB hcmp;exact rfl));refine S.cond rfl (fun hc=>?_) (fun hc=>?_)
  ·rw [if_pos hc];have hneg:IntKind.i64.wrap (0-cn)=- cn:=by rw [Eng.wrap_i64 (by omega)];omega
   (repeat first|refine uA ?_|(apply uK;· omega)|simp (disch:=omega) only [go_sem,Nat.reduceBEq,hneg]);exact uS rfl rfl
  ·rw [if_neg (by simp [hc])];(repeat first|refine uA ?_|(apply uK;· omega)|simp (disch:=omega) only [go_sem,Nat.reduceBEq]);exact uS rfl rfl
def u6 (p q:Rat):Rat:=if Nm.l8 p q<=0 then p else q
def D8 (p q:Rat):Rat:=if Nm.l8 p q >= 0 then p else q
theorem a2k (a b:Nm.Rt) (ha:Rb 17179869184 a) (hb:Rb 17179869184 b):FZ 139 [rc a,rc b] (rq (u6 (Nm.d9 a) (Nm.d9 b))):=by
 refine kW Tryz.func139 (by cbv) (by rfl) fun w O hw=>?_;have hfa:=V6 a ha;have hfb:=V6 b hb;have hc:=F6 a b ha hb;unfold u6;generalize Nm.l8 (Nm.d9 a) (Nm.d9 b)=cn at *;simp only [j4,TT,II,OA,OB,LL];unfold rq at *;generalize Nm.d9 a=p at *;generalize Nm.d9 b=q at *;simp only [rc,sb,ints] at *;(repeat first|refine uA ?_|(apply uK;· first|omega|(intros;simp_all<;>omega))|simp (disch:=omega) only [go_sem,Nat.reduceBEq,Nat.reduceAdd]|(apply uD hc;exact tz hw;rfl));(refine uJ rfl (fun hc=>?_) fun hc=>?_)
 ·rw [if_pos hc];(repeat first|refine uA ?_|(apply uK;· omega)|simp (disch:=omega) only [go_sem,Nat.reduceBEq]|(apply uD hfa;exact tz hw;rfl));exact uS rfl rfl
 ·rw [if_neg hc];(repeat first|refine uA ?_|(apply uK;· omega)|simp (disch:=omega) only [go_sem,Nat.reduceBEq]|(apply uD hfb;exact tz hw;rfl));exact uS rfl rfl
theorem a3q (a b:Nm.Rt) (ha:Rb 17179869184 a) (hb:Rb 17179869184 b):FZ 114 [rc a,rc b] (rq (D8 (Nm.d9 a) (Nm.d9 b))):=by
 refine kW Tryz.func114 (by cbv) (by rfl) fun w O hw=>?_;have hfa:=V6 a ha;have hfb:=V6 b hb;have hc:=F6 a b ha hb;unfold D8;generalize Nm.l8 (Nm.d9 a) (Nm.d9 b)=cn at *;simp only [j4,TT,II,OA,OB,LL];unfold rq at *;generalize Nm.d9 a=p at *;generalize Nm.d9 b=q at *;simp only [rc,sb,ints] at *;(repeat first|refine uA ?_|(apply uK;· first|omega|(intros;simp_all<;>omega))|simp (disch:=omega) only [go_sem,Nat.reduceBEq,Nat.reduceAdd]|(apply uD hc;exact tz hw;rfl));(refine uJ rfl (fun hc=>?_) fun hc=>?_)
 ·rw [if_pos hc];(repeat first|refine uA ?_|(apply uK;· omega)|simp (disch:=omega) only [go_sem,Nat.reduceBEq]|(apply uD hfa;exact tz hw;rfl));exact uS rfl rfl
 ·rw [if_neg hc];(repeat first|refine uA ?_|(apply uK;· omega)|simp (disch:=omega) only [go_sem,Nat.reduceBEq]|(apply uD hfb;exact tz hw;rfl));exact uS rfl rfl
theorem b8o (a:Nm.Rt) (ha:Rb 17179869184 a):FZ 93 [rc a] (rc ⟨false,Nm.enc (Nm.d9 a).num.natAbs,Nm.enc (Nm.d9 a).den⟩):=by
 refine kW Tryz.func93 (by cbv) (by rfl) fun w O hw=>?_;have hfa:=V6 a ha;generalize Nm.d9 a=p at *;simp only [j4,TT,OA,OB,LL,FF];unfold rq at *;simp only [rc,sb,Nm.ofQ] at *;(repeat first|refine uA ?_|(apply uK;· first|omega|(intros;simp_all<;>omega))|simp (disch:=omega) only [go_sem,Nat.reduceBEq,Nat.reduceAdd]|(apply uD hfa;exact tz hw;rfl));exact uS rfl rfl
def j5 (a:Nm.Rt):Bool:=decide (a.num.length<=3) && decide (a.den.length<=2) && decide a.F7 && decide (Nm.val a.num<=1000000) && decide (Nm.val a.den<=1000)
theorem b5M (a b:Nat):(Nm.a1b a b<=0)=(a<=b):=by
 unfold Nm.a1b;by_cases h:a < b
 ·rw [if_pos h];simp;omega
 ·rw [if_neg h];split
  ·simp;omega
  ·simp;omega
theorem a3M (a:Nm.Rt) (ha:Rb 17179869184 a):FZ 92 [rc a] (.v (.bool (j5 a))):=by
 refine kW Tryz.func92 (by cbv) (by rfl) fun w O hw=>?_;have hg:=a0p a ⟨by have:=ha.1;omega,by have:=ha.2;omega⟩;have ho1:=b3D 1000000 (by decide);have ho2:=b3D 1000 (by decide);have hb:∀ k:Nat,k<=1000000->(Nm.enc k).length<=8:=fun k hk=>Nm.H6 (by omega);have hb1:=hb 1000000 (by decide);have hb2:=hb 1000 (by decide);have hc1:=b0e a.num (Nm.enc 1000000) (by have:=ha.1;omega) (by omega);have hc2:=b0e a.den (Nm.enc 1000) (by have:=ha.2;omega) (by omega);rw [Nm.J4] at hc1 hc2;rw [show (1000000:Int).toNat=1000000 from rfl] at ho1;rw [show (1000:Int).toNat=1000 from rfl] at ho2;have hl1:=b5M (Nm.val a.num) 1000000;have hl2:=b5M (Nm.val a.den) 1000;unfold j5;generalize decide a.F7=g at *
 generalize Nm.enc 1000000=e1 at *;generalize Nm.enc 1000=e2 at *;obtain ⟨neg,num,den⟩:=a;obtain ⟨r1,r2⟩:=ha;simp only [j4,TT,II,OA,OC,MM,VV,FF,LG,VG,FG];simp only [rc,sb,ints] at *;generalize Nm.a1b (Nm.val num) 1000000=c1 at *;generalize Nm.a1b (Nm.val den) 1000=c2 at *;simp only [<- hl1,<- hl2];have hi1:decide ((num.length:Int)<=3)=decide (num.length<=3):=decide_eq_decide.2 (by omega);have hi2:decide ((den.length:Int)<=2)=decide (den.length<=2):=decide_eq_decide.2 (by omega)
 (repeat first|refine uA ?_|(apply uK;· omega)|simp (disch:=omega) only [go_sem,Nat.reduceBEq,F5,hi1,hi2]|(apply uB ho1;exact rfl)|(apply uB ho2;exact rfl)|(apply uB hc1;exact rfl)|(apply uB hc2;exact rfl)|(apply uD hg;exact tz hw;rfl));exact uS rfl rfl
open Go Eng
def tc (h:Bool) (a:Nm.Rt):C:=.agg [.v (.bool h),.v (.bool a.neg),sb a.num,sb a.den]
def tq (h:Bool) (q:Rat):C:=tc h (Nm.ofQ q)
theorem b2z (a:Nm.Rt) (ha:Rb 17179869184 a):FZ 142 [rc a] (tq false (Nm.d9 a)):=by
 refine kW Tryz.func142 (by cbv) (by rfl) fun w O hw=>?_;have hm:=a2k a a ha ha;have e:u6 (Nm.d9 a) (Nm.d9 a)=Nm.d9 a:=by unfold u6;split<;>rfl
 rw [e] at hm;unfold rq tq at *;generalize Nm.ofQ (Nm.d9 a)=r at *;simp only [j4,TT,OA,OB,LL];simp only [rc,tc,sb] at *;(repeat first|refine uA ?_|(apply uK;· omega)|simp (disch:=omega) only [go_sem,Nat.reduceBEq]|(apply uD hm;exact tz hw;rfl));exact uS rfl rfl
theorem a6r {neg:Bool} {n d k m:Nat} (hd:d ≠ 0) (hn:(Nm.enc n).length<=k) (hdl:(Nm.enc d).length<=k) (hk:1<=k) (hm:k<=m):Rb m (Nm.ofQ (mkRat (Nm.sgn neg n) d)):=by
 rw [<- Nm.b1b neg hd];split
 ·exact ⟨c8w _,c8y hk hm⟩
 ·exact ⟨c8y (Nm.a2T (Nat.div_le_self _ _)) (c8y hn hm),c8y (Nm.a2T (Nat.div_le_self _ _)) (c8y hdl hm)⟩
theorem a5r {k:Nat} {p:Rat} (h:Rb k (Nm.ofQ p)):1<=k:=by
 have h1:=h.2;simp only [Nm.ofQ] at h1;have:Nm.enc p.den ≠ []:=Nm.a6t p.den_nz;have:=List.length_pos_iff.2 this;omega
theorem I5 {k m:Nat} {p q:Rat} (hp:Rb k (Nm.ofQ p)) (hq:Rb m (Nm.ofQ q)):Rb (k+m+1) (Nm.ofQ (p+q)):=by
 have h1:=a5r hp;rw [<- Nm.b1M p q];have l1:=Nm.J7 hp.1 hq.2;have l2:=Nm.J7 hq.1 hp.2;have l3:=Nm.J7 hp.2 hq.2;exact a6r (k:=k+m+1) (Nat.mul_ne_zero p.den_nz q.den_nz) (c8y (Nm.a2T (Nm.a6Y _ _ _ _)) (Nm.a2G l1 (by omega))) (by omega) (by omega) (c8B _)
theorem y9 {k m:Nat} {p q:Rat} (hp:Rb k (Nm.ofQ p)) (hq:Rb m (Nm.ofQ q)):Rb (k+m) (Nm.ofQ (p*q)):=by
 have h1:=a5r hp;rw [<- Nm.b2U p q];exact a6r (k:=k+m) (Nat.mul_ne_zero p.den_nz q.den_nz) (Nm.J7 hp.1 hq.1) (Nm.J7 hp.2 hq.2) (by omega) (c8B _)
theorem a7C {k m:Nat} {p q:Rat} (h:q ≠ 0) (hp:Rb k (Nm.ofQ p)) (hq:Rb m (Nm.ofQ q)):Rb (k+m) (Nm.ofQ (p / q)):=by
 have h1:=a5r hp;rw [<- Nm.b3y p q h];have hn:q.num.natAbs ≠ 0:=fun e=>h (Rat.num_eq_zero.1 (by omega));exact a6r (k:=k+m) (Nat.mul_ne_zero p.den_nz hn) (Nm.J7 hp.1 hq.2) (Nm.J7 hp.2 hq.1) (by omega) (c8B _)
theorem a0x {k:Nat} {p:Rat} (hp:Rb k (Nm.ofQ p)):Rb k (Nm.ofQ (-p)):=by
 rw [b0l];exact hp
theorem F9 {k m:Nat} {p q:Rat} (hp:Rb k (Nm.ofQ p)) (hq:Rb m (Nm.ofQ q)):Rb (k+m+1) (Nm.ofQ (p-q)):=by
 rw [Rat.sub_eq_add_neg];exact I5 hp (a0x hq)
theorem Rb.mono {k m:Nat} {a:Nm.Rt} (h:Rb k a) (hm:k<=m):Rb m a:=⟨c8y h.1 hm,c8y h.2 hm⟩
theorem Rb.m {k m:Nat} {a:Nm.Rt} (h:Rb k a) (e:Nat.ble k m=true):Rb m a:=h.mono (c8G e)
theorem a1p (p q:Rat) (hp:Rb 17179869184 (Nm.ofQ p)) (hq:Rb 17179869184 (Nm.ofQ q)):FZ 103 [rq p,rq q] (rq (p+q)):=by
 have:=Z7 (Nm.ofQ p) (Nm.ofQ q) hp hq;rwa [Nm.l6,Nm.l6] at this
theorem a3W (p q:Rat) (hp:Rb 17179869184 (Nm.ofQ p)) (hq:Rb 17179869184 (Nm.ofQ q)):FZ 113 [rq p,rq q] (rq (p-q)):=by
 have:=a4e (Nm.ofQ p) (Nm.ofQ q) hp hq;rwa [Nm.l6,Nm.l6] at this
theorem a1g (p q:Rat) (hp:Rb 17179869184 (Nm.ofQ p)) (hq:Rb 17179869184 (Nm.ofQ q)):FZ 55 [rq p,rq q] (rq (p*q)):=by
 have:=b0o (Nm.ofQ p) (Nm.ofQ q) hp hq;rwa [Nm.l6,Nm.l6] at this
theorem b7c (p q:Rat) (hp:Rb 17179869184 (Nm.ofQ p)) (hq:Rb 17179869184 (Nm.ofQ q)):FZ 160 [rq p,rq q] (.tup [rc (a3r p q),ints (a9r q)]):=by
 have:=b4h (Nm.ofQ p) (Nm.ofQ q) hp hq;rwa [Nm.l6,Nm.l6] at this
theorem c6A:FZ 245 [] (tq true 0):=by
 refine kW Tryz.func245 (by cbv) (by rfl) fun w O hw=>?_;have ho:=a1y 0 (by decide) (by decide);rw [show ((0:Int):Rat)=0 from rfl] at ho;unfold rq tq at *;generalize Nm.ofQ 0=r at *;simp only [j4,TT,II,OA,OB];simp only [rc,tc,sb,ints] at *;(repeat first|refine uA ?_|(apply uK;· omega)|simp (disch:=omega) only [go_sem,Nat.reduceBEq]|(apply uD ho;exact tz hw;rfl));exact uS rfl rfl
def K7 (h:Bool) (a:Nm.Rt):Rat:=if h then 0 else Nm.d9 a
theorem b8A (h:Bool) (a:Nm.Rt) (ha:Rb 17179869184 a):FZ 227 [tc h a] (tq h (K7 h a)):=by
 refine kW Tryz.func227 (by cbv) (by rfl) fun w O hw=>?_;have ho:=c6A;have hf:=b2z a ha;unfold K7 tq at *;cases h
 ·simp only [c9d,if_false];generalize Nm.ofQ (Nm.d9 a)=r at *;simp only [j4,TT,OA,OB,LL,VV,FF];simp only [rc,tc,sb] at *;(repeat first|refine uA ?_|(apply uK;· omega)|simp (disch:=omega) only [go_sem,Nat.reduceBEq]);exact S.cond rfl (fun hc=>by cases hc) (fun _=>by
   (repeat first|refine uA ?_|(apply uK;· omega)|simp (disch:=omega) only [go_sem,Nat.reduceBEq]|(apply uD hf;exact tz hw;rfl))
   (exact uS rfl rfl))
 ·simp only [if_true];generalize Nm.ofQ 0=r at *;simp only [j4,TT,OA,OB,LL,VV,FF];simp only [rc,tc,sb] at *;(repeat first|refine uA ?_|(apply uK;· omega)|simp (disch:=omega) only [go_sem,Nat.reduceBEq]);exact S.cond rfl (fun _=>by
   (repeat first|refine uA ?_|(apply uK;· omega)|simp (disch:=omega) only [go_sem,Nat.reduceBEq]|(apply uD ho;exact tz hw;rfl))
   (exact uS rfl rfl)) (fun hc=>by cases hc)
def a2e (h:Bool) (t:Rat):Rat:=if h then -1 else (1-t*t) / (1+t*t)
def Y3 (t:Rat):Rat:=(t+t) / (1+t*t)
theorem sq_nonneg (t:Rat):0<=t*t:=by
 rcases Rat.le_total (a:=0) (b:=t) with h|h
 ·exact Rat.mul_nonneg h h
 ·have h1:0<=-t:=by grind
  have:=Rat.mul_nonneg h1 h1;grind
theorem b0y (t:Rat):1+t*t ≠ 0:=by
 have:=sq_nonneg t;intro h;have h1:(0:Rat) < 1:=by decide
 grind
theorem R8:Rb 8 (Nm.ofQ 1):=⟨Nm.H6 (by decide),Nm.H6 (by decide)⟩
theorem c5i (h:Bool) (a:Nm.Rt) (ha:Rb 4294967296 a):FZ 197 [tc h a] (rq (a2e h (K7 h a))):=by
 refine kW Tryz.func197 (by cbv) (by rfl) fun w O hw=>?_;have hf:=b8A h a (ha.m rfl);have ho:=a1y 1 (by decide) (by decide);have hm1:=a1y (-1) (by decide) (by decide);rw [show ((1:Int):Rat)=1 from rfl] at ho;rw [show ((-1:Int):Rat)=-1 from rfl] at hm1;have hk:Rb 4294967296 (Nm.ofQ (K7 h a)):=by
  unfold K7;cases h
  ·exact ha.g rfl
  ·simp only [if_true];rw [Nm.a4U];exact ⟨by decide,by decide⟩
 generalize K7 h a=t at *;have hsq:=a1g t t (hk.m rfl) (hk.m rfl);have k2:=y9 hk hk;have hs:=a3W 1 (t*t) (R8.m rfl) (k2.m rfl);have hp:=a1p 1 (t*t) (R8.m rfl) (k2.m rfl);have hd:=b7c (1-t*t) (1+t*t) ((F9 R8 k2).m rfl) ((I5 R8 k2).m rfl);rw [show a3r (1-t*t) (1+t*t)=Nm.ofQ ((1-t*t) / (1+t*t)) by unfold a3r;rw [if_neg (b0y t)]] at hd;unfold a2e;cases h
 ·simp only [c9d,if_false];generalize (1-t*t) / (1+t*t)=r at *;unfold tq rq at *;generalize Nm.ofQ t=rt at *;generalize Nm.ofQ (t*t)=rs at *;generalize Nm.ofQ (1-t*t)=r1 at *;generalize Nm.ofQ (1+t*t)=r2 at *;generalize Nm.ofQ r=r3 at *;generalize Nm.ofQ 1=r4 at *;simp only [j4,TT,II,OA,OB,MM,LL,VV,FF];simp only [rc,tc,sb,ints] at *;(repeat first|refine uA ?_|(apply uK;· omega)|simp (disch:=omega) only [go_sem,Nat.reduceBEq]|(apply uD hf;exact tz hw;rfl));refine S.cond rfl (fun hc=>by cases hc) (fun _=>?_)
  (repeat first|refine uA ?_|(apply uK;· omega)|simp (disch:=omega) only [go_sem,Nat.reduceBEq]|(apply uD hsq;exact tz hw;rfl)|(apply uD ho;exact tz hw;rfl)|(apply uD hs;exact tz hw;rfl)|(apply uD hp;exact tz hw;rfl)|(apply uD hd;exact tz hw;rfl));exact uS rfl rfl
 ·simp only [if_true];unfold tq rq at *;generalize Nm.ofQ t=rt at *;generalize Nm.ofQ (-1)=r4 at *;simp only [j4,TT,II,OA,OB,MM,LL,VV,FF];simp only [rc,tc,sb,ints] at *;(repeat first|refine uA ?_|(apply uK;· omega)|simp (disch:=omega) only [go_sem,Nat.reduceBEq]|(apply uD hf;exact tz hw;rfl));refine S.cond rfl (fun _=>?_) (fun hc=>by cases hc);(repeat first|refine uA ?_|(apply uK;· omega)|simp (disch:=omega) only [go_sem,Nat.reduceBEq]|(apply uD hm1;exact tz hw;rfl));exact uS rfl rfl
theorem b1h {k:Nat} {h:Bool} {a:Nm.Rt} (ha:Rb k a) (hk:1<=k):Rb k (Nm.ofQ (K7 h a)):=by
 unfold K7;cases h
 ·exact ha.fit hk
 ·simp only [if_true];rw [Nm.a4U];exact ⟨c8w _,hk⟩
theorem b3H (h:Bool) (a:Nm.Rt) (ha:Rb 4294967296 a):FZ 198 [tc h a] (rq (Y3 (K7 h a))):=by
 refine kW Tryz.func198 (by cbv) (by rfl) fun w O hw=>?_;have hf:=b8A h a (ha.m rfl);have ho:=a1y 1 (by decide) (by decide);rw [show ((1:Int):Rat)=1 from rfl] at ho;have hk:Rb 4294967296 (Nm.ofQ (K7 h a)):=b1h ha (by decide);generalize K7 h a=t at *;have hsq:=a1g t t (hk.m rfl) (hk.m rfl);have k2:=y9 hk hk;have hs:=a1p t t (hk.m rfl) (hk.m rfl);have hp:=a1p 1 (t*t) (R8.m rfl) (k2.m rfl);have hd:=b7c (t+t) (1+t*t) ((I5 hk hk).m rfl) ((I5 R8 k2).m rfl);rw [show a3r (t+t) (1+t*t)=Nm.ofQ ((t+t) / (1+t*t)) by unfold a3r;rw [if_neg (b0y t)]] at hd;unfold Y3;generalize (t+t) / (1+t*t)=r at *;unfold tq rq at *;generalize Nm.ofQ t=rt at *;generalize Nm.ofQ (t*t)=rs at *
 generalize Nm.ofQ (t+t)=r1 at *;generalize Nm.ofQ (1+t*t)=r2 at *;generalize Nm.ofQ r=r3 at *;generalize Nm.ofQ 1=r4 at *;simp only [j4,TT,II,OA,OB,MM,LL,FF];simp only [rc,tc,sb,ints] at *;(repeat first|refine uA ?_|(apply uK;· omega)|simp (disch:=omega) only [go_sem,Nat.reduceBEq]|(apply uD hf;exact tz hw;rfl)|(apply uD hsq;exact tz hw;rfl)|(apply uD ho;exact tz hw;rfl)|(apply uD hs;exact tz hw;rfl)|(apply uD hp;exact tz hw;rfl)|(apply uD hd;exact tz hw;rfl));exact uS rfl rfl
def vc (x y:Nm.Rt):C:=.agg [.v (.bool x.neg),sb x.num,sb x.den,.v (.bool y.neg),sb y.num,sb y.den]
def vq (x y:Rat):C:=vc (Nm.ofQ x) (Nm.ofQ y)
theorem b9I (a b c d:Nm.Rt) (ha:Rb 17179869184 a) (hb:Rb 17179869184 b) (hc:Rb 17179869184 c) (hd:Rb 17179869184 d) :
  FZ 140 [vc a b,vc c d] (vq (Nm.d9 a+Nm.d9 c) (Nm.d9 b+Nm.d9 d)):=by
 refine kW Tryz.func140 (by cbv) (by rfl) fun w O hw=>?_;have h1:=Z7 a c ha hc;have h2:=Z7 b d hb hd;unfold vq rq at *;generalize Nm.ofQ (Nm.d9 a+Nm.d9 c)=r1 at *;generalize Nm.ofQ (Nm.d9 b+Nm.d9 d)=r2 at *;simp only [j4,TT,OA,OB,LL,FF];simp only [rc,vc,sb] at *;(repeat first|refine uA ?_|(apply uK;· first|omega|(intros;simp_all<;>omega))|simp (disch:=omega) only [go_sem,Nat.reduceBEq,Nat.reduceAdd]|(apply uD h1;exact tz hw;rfl)|(apply uD h2;exact tz hw;rfl));exact uS rfl rfl
theorem a2E (a b c d:Nm.Rt) (ha:Rb 17179869184 a) (hb:Rb 17179869184 b) (hc:Rb 17179869184 c) (hd:Rb 17179869184 d) :
  FZ 136 [vc a b,vc c d] (vq (Nm.d9 a-Nm.d9 c) (Nm.d9 b-Nm.d9 d)):=by
 refine kW Tryz.func136 (by cbv) (by rfl) fun w O hw=>?_;have h1:=a4e a c ha hc;have h2:=a4e b d hb hd;unfold vq rq at *;generalize Nm.ofQ (Nm.d9 a-Nm.d9 c)=r1 at *;generalize Nm.ofQ (Nm.d9 b-Nm.d9 d)=r2 at *;simp only [j4,TT,OA,OB,LL,FF];simp only [rc,vc,sb] at *;(repeat first|refine uA ?_|(apply uK;· first|omega|(intros;simp_all<;>omega))|simp (disch:=omega) only [go_sem,Nat.reduceBEq,Nat.reduceAdd]|(apply uD h1;exact tz hw;rfl)|(apply uD h2;exact tz hw;rfl));exact uS rfl rfl
theorem b9J {k:Nat} {t:Rat} (h:Bool) (ht:Rb k (Nm.ofQ t)):Rb (4*k+18) (Nm.ofQ (a2e h t)):=by
 unfold a2e;have h1:=y9 ht ht;have h2:=F9 R8 h1;have h3:=I5 R8 h1;cases h
 ·exact (a7C (b0y t) h2 h3).mono (by omega)
 ·exact (a0x R8).mono (by omega)
structure Vt where
 x:Nm.Rt
 y:Nm.Rt
def Vt.enc (v:Vt):List C:=[.v (.bool v.x.neg),sb v.x.num,sb v.x.den,.v (.bool v.y.neg),sb v.y.num,sb v.y.den]
def Vt.c (v:Vt):C:=.agg v.enc
def Vt.zero:Vt:=⟨⟨false,[],[]⟩,⟨false,[],[]⟩⟩
def Vb (k:Nat) (v:Vt):Prop:=Rb k v.x/\Rb k v.y
theorem Vb.mono {k m:Nat} {v:Vt} (h:Vb k v) (hm:k<=m):Vb m v:=⟨h.1.mono hm,h.2.mono hm⟩
theorem Vb.m {k m:Nat} {v:Vt} (h:Vb k v) (e:Nat.ble k m=true):Vb m v:=h.mono (c8G e)
theorem b2S (a b c d:Rat) (ha:Rb 4294967296 (Nm.ofQ a)) (hb:Rb 4294967296 (Nm.ofQ b)) (hc:Rb 4294967296 (Nm.ofQ c)) (hd:Rb 4294967296 (Nm.ofQ d)) :
  FZ 213 [vq a b,vq c d] (rq (a*d-b*c)):=by
 refine kW Tryz.func213 (by cbv) (by rfl) fun w O hw=>?_;have h1:=a1g a d (ha.m rfl) (hd.m rfl);have h2:=a1g b c (hb.m rfl) (hc.m rfl);have h3:=a3W (a*d) (b*c) ((y9 ha hd).m rfl) ((y9 hb hc).m rfl);unfold vq rq at *;generalize Nm.ofQ (a*d-b*c)=r3 at *;generalize Nm.ofQ (a*d)=r1 at *;generalize Nm.ofQ (b*c)=r2 at *;generalize Nm.ofQ a=ra at *;generalize Nm.ofQ b=rb at *;generalize Nm.ofQ c=r at *;generalize Nm.ofQ d=rd at *;simp only [j4,TT,OA,OB,LL,FF];simp only [rc,vc,sb] at *
 (repeat first|refine uA ?_|(apply uK;· first|omega|(intros;simp_all<;>omega))|simp (disch:=omega) only [go_sem,Nat.reduceBEq,Nat.reduceAdd]|(apply uD h1;exact tz hw;rfl)|(apply uD h2;exact tz hw;rfl)|(apply uD h3;exact tz hw;rfl));exact uS rfl rfl
def b2F (a b c:Vt):Int:=q8 ((Nm.d9 b.x-Nm.d9 a.x)*(Nm.d9 c.y-Nm.d9 a.y)-(Nm.d9 b.y-Nm.d9 a.y)*(Nm.d9 c.x-Nm.d9 a.x))
theorem c5e (a b c:Vt) (ha:Vb 1073741824 a) (hb:Vb 1073741824 b) (hc:Vb 1073741824 c):FZ 214 [a.c,b.c,c.c] (ints (b2F a b c)):=by
 refine kW Tryz.func214 (by cbv) (by rfl) fun w O hw=>?_;have h1:=a2E b.x b.y a.x a.y (hb.1.m rfl) (hb.2.m rfl) (ha.1.m rfl) (ha.2.m rfl);have h2:=a2E c.x c.y a.x a.y (hc.1.m rfl) (hc.2.m rfl) (ha.1.m rfl) (ha.2.m rfl);have g1:=F9 (hb.1.g rfl) (ha.1.g rfl);have g2:=F9 (hb.2.g rfl) (ha.2.g rfl);have g3:=F9 (hc.1.g rfl) (ha.1.g rfl);have g4:=F9 (hc.2.g rfl) (ha.2.g rfl);unfold b2F;generalize Nm.d9 b.x-Nm.d9 a.x=p1 at *;generalize Nm.d9 b.y-Nm.d9 a.y=p2 at *;generalize Nm.d9 c.x-Nm.d9 a.x=p3 at *;generalize Nm.d9 c.y-Nm.d9 a.y=p4 at *;have h3:=b2S p1 p2 p3 p4 (g1.m rfl) (g2.m rfl) (g3.m rfl) (g4.m rfl);have g5:=F9 (y9 g1 g4) (y9 g2 g3);have h4:=M8 (Nm.ofQ (p1*p4-p2*p3)) (g5.m rfl)
 rw [Nm.l6] at h4;generalize p1*p4-p2*p3=p5 at *;unfold vq rq at *;generalize Nm.ofQ p1=r1 at *;generalize Nm.ofQ p2=r2 at *;generalize Nm.ofQ p3=r3 at *;generalize Nm.ofQ p4=r4 at *;generalize Nm.ofQ p5=r5 at *;simp only [j4,TT,II,OA,MM,LL];simp only [rc,vc,sb,Vt.c,Vt.enc] at *;(repeat first|refine uA ?_|(apply uK;· first|omega|(intros;simp_all<;>omega))|simp (disch:=omega) only [go_sem,Nat.reduceBEq,Nat.reduceAdd]|(apply uD h1;exact tz hw;rfl)|(apply uD h2;exact tz hw;rfl)|(apply uD h3;exact tz hw;rfl)|(apply uD h4;exact tz hw;rfl));(refine S.done ?_;simp only [D6,go_sem,Nat.reduceBEq];(repeat (refine ⟨?_,?_⟩;· first|trivial|omega|simp));exact p8.out rfl (Imp.refl rfl) rfl)
def G5 {α:Type} (f:α->Int):List α->Int
 | []=>0
 | x::r=>if f x=0 then G5 f r else f x
def A9 {α σ:Type} (f:σ->α->Int × σ):σ->List α->Int × σ
 | s,[]=>(0,s)
 | s,x::r=>if (f s x).1=0 then A9 f (f s x).2 r else f s x
theorem drop_at {α:Type} {l:List α} {i:Nat} {x:α} (h:l[i]?=some x):l.drop i=x::l.drop (i+1):=by
 obtain ⟨hi,rfl⟩:=c8v.1 h;exact List.drop_eq_getElem_cons hi
theorem a1a {α:Type} {f:α->Int} {l:List α} {i:Nat} {x:α} (h:l[i]?=some x) (h0:f x ≠ 0):G5 f (l.drop i)=f x:=by
 rw [drop_at h,G5,if_neg h0]
theorem a0U {α:Type} {f:α->Int} {l:List α} {i:Nat} {x:α} (h:l[i]?=some x) (h0:f x=0):G5 f (l.drop i)=G5 f (l.drop (i+1)):=by
 rw [drop_at h,G5,if_pos h0]
theorem a1x {α:Type} {f:α->Int} {l:List α} {i:Nat} (h:l.length<=i):G5 f (l.drop i)=0:=by
 rw [List.drop_eq_nil_of_le h,G5]
theorem X6 {α σ:Type} {f:σ->α->Int × σ} {s:σ} {l:List α} {i:Nat} {x:α} (h:l[i]?=some x) (h0:(f s x).1 ≠ 0):A9 f s (l.drop i)=f s x:=by
 rw [drop_at h,A9,if_neg h0]
theorem X8 {α σ:Type} {f:σ->α->Int × σ} {s:σ} {l:List α} {i:Nat} {x:α} (h:l[i]?=some x) (h0:(f s x).1=0):A9 f s (l.drop i)=A9 f (f s x).2 (l.drop (i+1)):=by
 rw [drop_at h,A9,if_pos h0]
theorem a0i {α σ:Type} {f:σ->α->Int × σ} {s:σ} {l:List α} {i:Nat} (h:l.length<=i):A9 f s (l.drop i)=(0,s):=by
 rw [List.drop_eq_nil_of_le h,A9]
structure Fr where
 x:Nm.Rt
 y:Nm.Rt
 half:Bool
 t:Nm.Rt
structure Lk where
 length:Nm.Rt
 low:Nm.Rt
 high:Nm.Rt
 speed:Nm.Rt
 brake:Nm.Rt
 shape:List Vt
structure Am where
 name:List UInt8
 base:Fr
 links:List Lk
structure Pt where
 name:List UInt8
 shape:List Vt
 grasp:Fr
structure Sl where
 name:List UInt8
 frame:Fr
 within:Nm.Rt
structure Gt where
 name:List UInt8
 low:Vt
 high:Vt
structure Wk where
 arms:List Am
 walls:List (List Vt)
 parts:List Pt
 slots:List Sl
 gates:List Gt
 walk:Nm.Rt
def rcs (a:Nm.Rt):List C:=[.v (.bool a.neg),sb a.num,sb a.den]
def Fr.enc (f:Fr):List C:=[.v (.bool f.x.neg),sb f.x.num,sb f.x.den,.v (.bool f.y.neg),sb f.y.num,sb f.y.den,.v (.bool f.half),.v (.bool f.t.neg),sb f.t.num,sb f.t.den]
def Fr.c (f:Fr):C:=.agg f.enc
def vts (l:List Vt):C:=.sl 6 (l.map Vt.enc)
def Lk.enc (l:Lk):List C:=[.v (.bool l.length.neg),sb l.length.num,sb l.length.den,.v (.bool l.low.neg),sb l.low.num,sb l.low.den,.v (.bool l.high.neg),sb l.high.num,sb l.high.den,.v (.bool l.speed.neg),sb l.speed.num,sb l.speed.den,.v (.bool l.brake.neg),sb l.brake.num,sb l.brake.den,vts l.shape]
def Lk.c (l:Lk):C:=.agg l.enc
def lks (l:List Lk):C:=.sl 16 (l.map Lk.enc)
def Am.enc (a:Am):List C:=[sb a.name,.v (.bool a.base.x.neg),sb a.base.x.num,sb a.base.x.den,.v (.bool a.base.y.neg),sb a.base.y.num,sb a.base.y.den,.v (.bool a.base.half),.v (.bool a.base.t.neg),sb a.base.t.num,sb a.base.t.den,lks a.links]
def Am.c (a:Am):C:=.agg a.enc
def ams (l:List Am):C:=.sl 12 (l.map Am.enc)
def Pt.enc (p:Pt):List C:=[sb p.name,vts p.shape,.v (.bool p.grasp.x.neg),sb p.grasp.x.num,sb p.grasp.x.den,.v (.bool p.grasp.y.neg),sb p.grasp.y.num,sb p.grasp.y.den,.v (.bool p.grasp.half),.v (.bool p.grasp.t.neg),sb p.grasp.t.num,sb p.grasp.t.den]
def Pt.c (p:Pt):C:=.agg p.enc
def pts (l:List Pt):C:=.sl 12 (l.map Pt.enc)
def Sl.enc (s:Sl):List C:=[sb s.name,.v (.bool s.frame.x.neg),sb s.frame.x.num,sb s.frame.x.den,.v (.bool s.frame.y.neg),sb s.frame.y.num,sb s.frame.y.den,.v (.bool s.frame.half),.v (.bool s.frame.t.neg),sb s.frame.t.num,sb s.frame.t.den,.v (.bool s.within.neg),sb s.within.num,sb s.within.den]
def Sl.c (s:Sl):C:=.agg s.enc
def sls (l:List Sl):C:=.sl 14 (l.map Sl.enc)
def Gt.enc (g:Gt):List C:=[sb g.name,.v (.bool g.low.x.neg),sb g.low.x.num,sb g.low.x.den,.v (.bool g.low.y.neg),sb g.low.y.num,sb g.low.y.den,.v (.bool g.high.x.neg),sb g.high.x.num,sb g.high.x.den,.v (.bool g.high.y.neg),sb g.high.y.num,sb g.high.y.den]
def Gt.c (g:Gt):C:=.agg g.enc
def gts (l:List Gt):C:=.sl 13 (l.map Gt.enc)
def wls (l:List (List Vt)):C:=.sl 1 (l.map fun s=>[vts s])
def Wk.enc (w:Wk):List C:=[ams w.arms,wls w.walls,pts w.parts,sls w.slots,gts w.gates,.v (.bool w.walk.neg),sb w.walk.num,sb w.walk.den]
def Wk.c (w:Wk):C:=.agg w.enc
def Fb (k:Nat) (f:Fr):Prop:=Rb k f.x/\Rb k f.y/\Rb k f.t
def Vbs (k:Nat) (l:List Vt):Prop:=l.length<=k/\∀ v ∈ l,Vb k v
def Lb (k:Nat) (l:Lk):Prop:=Rb k l.length/\Rb k l.low/\Rb k l.high/\Rb k l.speed/\Rb k l.brake/\Vbs k l.shape
def Ab (k:Nat) (a:Am):Prop:=a.name.length<=k/\Fb k a.base/\a.links.length<=k/\∀ l ∈ a.links,Lb k l
def Pb (k:Nat) (p:Pt):Prop:=p.name.length<=k/\Vbs k p.shape/\Fb k p.grasp
def Sb (k:Nat) (s:Sl):Prop:=s.name.length<=k/\Fb k s.frame/\Rb k s.within
def Gb (k:Nat) (g:Gt):Prop:=g.name.length<=k/\Vb k g.low/\Vb k g.high
structure Wb (k:Nat) (w:Wk):Prop where
 arms:w.arms.length<=k/\∀ x ∈ w.arms,Ab k x
 walls:w.walls.length<=k/\∀ x ∈ w.walls,Vbs k x
 parts:w.parts.length<=k/\∀ x ∈ w.parts,Pb k x
 slots:w.slots.length<=k/\∀ x ∈ w.slots,Sb k x
 gates:w.gates.length<=k/\∀ x ∈ w.gates,Gb k x
 walk:Rb k w.walk
def a1h (s:List UInt8):Bool:=(s.all fun b=>decide (97<=b.toNat) && decide (b.toNat<=122)) && decide (1<=s.length) && decide (s.length<=12)
def a3h (l:List Vt) (i k:Nat):Int:=b2F (l.getD i Vt.zero) (l.getD ((i+1) % l.length) Vt.zero) (l.getD ((i+k) % l.length) Vt.zero)
def J8 (l:List Vt) (most:Nat):Int:=
 if most < l.length then 2 else if l.length < 3 then 3 else
 if (List.range l.length).all fun i=>(List.range l.length).all fun k=>decide (k < 2) || decide (0 < a3h l i k) then 0 else 3
def a3w (h:Bool) (t:Nm.Rt):Bool:=h && !decide (q8 (Nm.d9 t)=0)
def R4 (l:Lk):Int:=
 if (j5 l.length && j5 l.low && j5 l.high && j5 l.speed && j5 l.brake)=false \/ q8 (Nm.d9 l.length)<=0 \/ 0<=Nm.l8 (Nm.d9 l.low) (Nm.d9 l.high) then 1 else
 if q8 (Nm.d9 l.speed)<=0 \/ q8 (Nm.d9 l.brake)<=0 then 1 else
 if J8 l.shape 8 ≠ 0 then J8 l.shape 8 else
 if (l.shape.all fun v=>j5 v.x && j5 v.y) then 0 else 1
def H9 (a:Am):Int:=
 if a1h a.name=false then 3 else
 if 3 < a.links.length then 2 else
 if a.links.length=0 \/ (j5 a.base.x && j5 a.base.y && j5 a.base.t)=false \/ a3w a.base.half a.base.t=true then 1 else
 G5 R4 a.links
def a2s (a:Am) (q:List Nm.Rt):Int:=
 if H9 a ≠ 0 then H9 a else if q.length ≠ a.links.length then 1 else
 G5 (fun x:Lk × Nm.Rt=>if Nm.l8 (Nm.d9 x.2) (Nm.d9 x.1.low) < 0 \/ 0 < Nm.l8 (Nm.d9 x.2) (Nm.d9 x.1.high) then 17 else 0) (a.links.zip q)
abbrev Nms:=List (List UInt8)
def N7 (n:Nms) (s:List UInt8):Int × Nms:=if a1h s=false then (3,n) else if n.contains s then (5,n) else (0,n++[s])
def okV (v:Vt):Bool:=decide v.x.F7 && decide v.y.F7 && j5 v.x && j5 v.y
def okF (f:Fr):Bool:=okV ⟨f.x,f.y⟩ && decide f.t.F7 && j5 f.t && !a3w f.half f.t
def P9 (l:List Vt):Int:=if J8 l 8 ≠ 0 then J8 l 8 else if l.all okV then 0 else 1
def a0w (n:Nms) (a:Am):Int × Nms:=if H9 a ≠ 0 then (H9 a,n) else N7 n a.name
def a0t (n:Nms) (p:Pt):Int × Nms:=
 if (N7 n p.name).1 ≠ 0 then N7 n p.name else
 if P9 p.shape ≠ 0 then (P9 p.shape,(N7 n p.name).2) else
 (if okF p.grasp then 0 else 1,(N7 n p.name).2)
def a0v (n:Nms) (s:Sl):Int × Nms:=
 if (N7 n s.name).1 ≠ 0 then N7 n s.name else
 (if okF s.frame && decide s.within.F7 && j5 s.within && decide (0 < q8 (Nm.d9 s.within)) then 0 else 1,(N7 n s.name).2)
def Y0 (n:Nms) (g:Gt):Int × Nms:=
 if (N7 n g.name).1 ≠ 0 then N7 n g.name else
 (if okV g.low && okV g.high && decide (Nm.l8 (Nm.d9 g.low.x) (Nm.d9 g.high.x)<=0) && decide (Nm.l8 (Nm.d9 g.low.y) (Nm.d9 g.high.y)<=0) then 0 else 1,(N7 n g.name).2)
def a8m (a:Nm.Rt):Int:=if decide a.F7 && j5 a && decide (0<=q8 (Nm.d9 a)) then 0 else 1
def a4g (w:Wk):List Int:=
 let a:=A9 a0w [] w.arms
 let p:=A9 a0t a.2 w.parts
 let s:=A9 a0v p.2 w.slots
 let g:=A9 Y0 s.2 w.gates
 [a.1,G5 P9 w.walls,p.1,s.1,g.1]
def Q9 (w:Wk):Int:=
 if 4 < w.arms.length \/ 10 < w.walls.length \/ 6 < w.parts.length \/ 8 < w.slots.length \/ 4 < w.gates.length then 2 else
 if w.arms.length=0 then 4 else
 if G5 id (a4g w) ≠ 0 then G5 id (a4g w) else a8m w.walk
def nmE (n:Nms):List (Value × Value):=n.map fun s=>(.string (bs s),.bool true)
theorem c3O (n:Nms) (s:List UInt8):a1T (.string (bs s)) (nmE n)=if n.contains s then some (.bool true) else none:=by
 induction n with
 | nil=>rfl
 | cons a n ih=>
  simp only [nmE,c8K,a1T,a1S];simp only [nmE] at ih;rw [ih];by_cases h:s=a
  ·subst h;simp
  ·have h1:¬ bs s=bs a:=fun e=>h (b4v e);have h2:(s == a)=false:=by simpa using h
   rw [List.contains_cons];simp only [h2,Bool.false_or,decide_eq_false h1,c9d,if_false]
theorem c5E (n:Nms) (s:List UInt8) (h:n.contains s=false):a1Q (.string (bs s)) (.bool true) (nmE n)=nmE (n++[s]):=by
 induction n with
 | nil=>rfl
 | cons a n ih=>
  rw [List.contains_cons,c8S] at h;have h1:¬ bs s=bs a:=fun e=>by have:=b4v e;subst this;simp at h
  have h3:=ih h.2;simp only [nmE,c8K,List.cons_append,a1Q,a1S,decide_eq_false h1,c9d,if_false] at h3 ⊢;rw [h3]
def c5n (f:Fr) (c:Vt):Rat:=Nm.d9 f.x+(Nm.d9 c.x*a2e f.half (K7 f.half f.t)-Nm.d9 c.y*Y3 (K7 f.half f.t))
def c5I (f:Fr) (c:Vt):Rat:=Nm.d9 f.y+(Nm.d9 c.x*Y3 (K7 f.half f.t)+Nm.d9 c.y*a2e f.half (K7 f.half f.t))
def c3f (h1:Bool) (t1:Rat) (h2:Bool) (t2:Rat):Bool × Rat:=
 if h1 && h2 then (false,0) else if h1 then (if t2=0 then (true,0) else (false,-1 / t2)) else if h2 then (if t1=0 then (true,0) else (false,-1 / t1)) else if 1-t1*t2=0 then (true,0) else (false,(t1+t2) / (1-t1*t2))
structure Ast where
 q:List Nm.Rt
 v:List Nm.Rt
 power:Bool
 holds:Int
structure Stt where
 tick:Int
 arms:List Ast
 parts:List Fr
 people:List Vt
 gates:List Bool
def rts (l:List Nm.Rt):C:=.sl 3 (l.map rcs)
def Ast.enc (x:Ast):List C:=[rts x.q,rts x.v,.v (.bool x.power),ints x.holds]
def Ast.c (x:Ast):C:=.agg x.enc
def E8 (l:List Ast):C:=.sl 4 (l.map Ast.enc)
def frs (l:List Fr):C:=.sl 10 (l.map Fr.enc)
def bls (l:List Bool):C:=.sl 1 (l.map fun b=>[.v (.bool b)])
def Stt.enc (s:Stt):List C:=[ints s.tick,E8 s.arms,frs s.parts,vts s.people,bls s.gates]
def Stt.c (s:Stt):C:=.agg s.enc
def Rbs (k:Nat) (l:List Nm.Rt):Prop:=l.length<=k/\∀ a ∈ l,Rb k a
def Asb (k:Nat) (x:Ast):Prop:=Rbs k x.q/\Rbs k x.v
structure Stb (k:Nat) (s:Stt):Prop where
 arms:s.arms.length<=k/\∀ x ∈ s.arms,Asb k x
 parts:s.parts.length<=k/\∀ x ∈ s.parts,Fb k x
 people:Vbs k s.people
 gates:s.gates.length<=k
def q9 (q:Rat):Rat:=if q.num < 0 then -q else q
def Z9 (x:Lk × Nm.Rt):Int:=if 0 < Nm.l8 (q9 (Nm.d9 x.2)) (Nm.d9 x.1.speed) then 1 else 0
def C8 (a:Nm.Rt):Bool:=decide a.F7
def a1Y (a:Am) (x:Ast) (parts:Nat):Int:=
 if (x.q.all C8 && x.v.all C8)=false then 3 else
 if a2s a x.q ≠ 0 then a2s a x.q else
 if x.v.length ≠ a.links.length \/ x.holds < -1 \/ (parts:Int)<=x.holds then 1 else
 G5 Z9 (a.links.zip x.v)
def a3k (h:List Int) (n:Int):List Int:=if h.contains n then h else h++[n]
def hdE (h:List Int):List (Value × Value):=h.map fun n=>(.int .i64 n,.bool true)
def a0c (parts:Nat) (h:List Int) (x:Am × Ast):Int × List Int:=
 if a1Y x.1 x.2 parts ≠ 0 then (a1Y x.1 x.2 parts,h) else
 if (decide (0<=x.2.holds) && h.contains x.2.holds)=true then (10,h) else (0,a3k h x.2.holds)
def a0L (f:Fr):Bool:=(C8 f.x && C8 f.y && C8 f.t) && !a3w f.half f.t
def a1C (v:Vt):Bool:=C8 v.x && C8 v.y
def J3 (w:Wk) (s:Stt):Int:=
 if Q9 w ≠ 0 then Q9 w else
 if 4 < s.people.length then 2 else
 if s.tick < 0 \/ 2000 < s.tick \/ s.arms.length ≠ w.arms.length \/ s.parts.length ≠ w.parts.length \/ s.gates.length ≠ w.gates.length then 1 else
 if (A9 (a0c w.parts.length) [] (w.arms.zip s.arms)).1 ≠ 0 then (A9 (a0c w.parts.length) [] (w.arms.zip s.arms)).1 else
 if s.parts.all a0L && s.people.all a1C then 0 else 3
theorem c3J (h:List Int) (n:Int):a1T (.int .i64 n) (hdE h)=if h.contains n then some (.bool true) else none:=by
 induction h with
 | nil=>rfl
 | cons a h ih=>
  simp only [hdE,c8K,a1T,a1S];simp only [hdE] at ih;rw [ih,List.contains_cons];by_cases e:n=a
  ·subst e;simp
  ·have e2:(n == a)=false:=by simpa using e
   simp only [e2,Bool.false_or,c9d,if_false]
theorem c5u (h:List Int) (n:Int):a1Q (.int .i64 n) (.bool true) (hdE h)=hdE (a3k h n):=by
 induction h with
 | nil=>rfl
 | cons a h ih=>
  unfold a3k at ih ⊢;rw [List.contains_cons];by_cases e:n=a
  ·subst e;simp [hdE,a1Q,a1S]
  ·have e2:(n == a)=false:=by simpa using e
   simp only [hdE,c8K,a1Q,a1S,e2,Bool.false_or,c9d,if_false];simp only [hdE] at ih;rw [ih];split<;>simp [hdE]
def a1k (l:Lk):Nm.Rt:=Nm.ofQ (D8 (Nm.d9 l.low) (u6 (Nm.d9 l.high) 0))
def a1m (a:Am):Ast:=⟨a.links.map a1k,a.links.map fun _=>Nm.ofQ 0,false,-1⟩
def a5G:Fr:=⟨Nm.ofQ 0,Nm.ofQ 0,false,Nm.ofQ 0⟩
def a7H (w:Wk) (i:Nat):Fr:=if h:i < w.slots.length then (w.slots[i]).frame else a5G
def R5 (w:Wk):Stt:=⟨0,w.arms.map a1m,(List.range w.parts.length).map (a7H w),[],List.replicate w.gates.length false⟩
def nx (l:List Int) (n:Int):Int:=l.headD 0 % n
abbrev Q (n d:Int):Nm.Rt:=Nm.ofQ (mkRat n d.toNat)
def atV (x y:Int):Vt:=⟨Q x 4,Q y 4⟩
def b2C (x y u v:Int):List Vt:=[atV x y,atV u y,atV u v,atV x v]
def c3g (w h k s:Int):List Vt:=
 if k=0 then [atV (-w) (-h),atV w (-h),atV w h,atV (-w) h] else
 if k=1 then [atV (-w) (-h),atV w (-h),atV (s-w) h] else
 if k=2 then [atV (-w-1) (-h-1),atV w (-h-1),atV (w+1) (-h),atV (w+1) h,atV (-w-1) h] else
 [atV (-w) 0,atV 0 (-h),atV w 0,atV 0 h]
def c7o (l:List Int):List Vt × List Int:=
 let w:=1+nx l 6
 let h:=1+nx (l.drop 1) 6
 let k:=nx (l.drop 2) 4
 if k=1 then (c3g w h k (nx (l.drop 3) (2*w+1)),l.drop 4) else (c3g w h k 0,l.drop 3)
def c3j (a lo hi sp br tri:Int):Lk:=
 ⟨Q (4+2*a) 4,Q (-1-lo) 3,Q (1+hi) 3,Q 1 (4+sp),Q 1 (10+br),if tri=2 then [atV (-1) (-1),atV (4+2*a+1) 0,atV (-1) 1] else b2C (-1) (-1) (4+2*a+1) 1⟩
def c3e (l:List Int):Lk:=c3j (nx l 4) (nx (l.drop 1) 6) (nx (l.drop 2) 6) (nx (l.drop 3) 8) (nx (l.drop 4) 20) (nx (l.drop 5) 3)
def a6j:Nat->List Int->List Lk
 | 0,_=>[]
 | n+1,l=>c3e l::a6j n (l.drop 6)
def a7e (k:Int):Int:=if k=0 then 0 else if k=2 then -1 else 1
def c1G (n:Nat):List UInt8:=[[111,110,101],[116,119,111],[116,104,114,101,101],[102,111,117,114]].getD n []
def a7h (l:List Int):Nat:=(1+nx (l.drop 2) 3).toNat
def b3M (l:List Int) (n:Nat):Am:=⟨c1G n,⟨Q (40*n) 4,Q 0 4,false,Q (a7e (nx l 4)) (1+nx (l.drop 1) 3)⟩,a6j (a7h l) (l.drop 3)⟩
def a9k (l:List Int):List Int:=l.drop (3+6*a7h l)
def c3h:Nat->List Int->List Int
 | 0,l=>l
 | k+1,l=>c3h k (a9k l)
def b9E:Nat->List Int->List Int
 | 0,l=>l
 | k+1,l=>b9E k (c7o l).2
def nA (l:List Int):Nat:=(1+nx l 2).toNat
def l1 (l:List Int):List Int:=c3h (nA l) (l.drop 1)
def nW (l:List Int):Nat:=(nx (l1 l) 3).toNat
def l2 (l:List Int):List Int:=(l1 l).drop (1+5*nW l)
def nP (l:List Int):Nat:=(nx (l2 l) 3).toNat
def l3 (l:List Int):List Int:=b9E (nP l) ((l2 l).drop 1)
def nS (l:List Int):Nat:=nP l+(nx (l3 l) 2).toNat
def l4 (l:List Int):List Int:=(l3 l).drop (1+4*nS l)
def nG (l:List Int):Nat:=(nx (l4 l) 2).toNat
def l5 (l:List Int):List Int:=(l4 l).drop (1+4*nG l)
theorem a0S (l:List Int) {n:Int} (h:0 < n):0<=nx l n:=Int.emod_nonneg _ (by omega)
theorem a4C (l:List Int) {n:Int} (h:0 < n):nx l n < n:=Int.emod_lt_of_pos _ h
set_option maxRecDepth 100000
theorem a7f {α:Type} {f:α->Int}:∀ {l:List α},(∀ x ∈ l,f x=0)->G5 f l=0
 | [],_=>rfl
 | x::l,h=>by rw [G5,if_pos (h x (by simp))];exact a7f fun y hy=>h y (by simp [hy])
set_option maxRecDepth 10000
theorem b9i {l:List Vt} {most i k:Nat} (h1:¬ most < l.length) (h2:¬ l.length < 3) (hi:i < l.length) (hk2:2<=k) (hk:k < l.length) (h:¬ 0 < a3h l i k):J8 l most=3:=by
 unfold J8;rw [if_neg h1,if_neg h2,if_neg];intro ha;rw [List.all_eq_true] at ha;have h3:=ha i (List.mem_range.2 hi);rw [List.all_eq_true] at h3;have h4:=h3 k (List.mem_range.2 hk);rw [c9f,c8D,c8D] at h4;omega
theorem b6U {l:List Vt} {most:Nat} (h1:¬ most < l.length) (h2:¬ l.length < 3) (h:∀ i,i < l.length->∀ k,2<=k->k < l.length->0 < a3h l i k):J8 l most=0:=by
 unfold J8;rw [if_neg h1,if_neg h2,if_pos];rw [List.all_eq_true];intro i hi;rw [List.all_eq_true];intro k hk;rw [c9f,c8D,c8D];rcases c8N k 2 with h3|h3
 ·exact .inl h3
 ·exact .inr (h i (List.mem_range.1 hi) k h3 (List.mem_range.1 hk))
theorem b9X {l:List Vt} {i k:Nat} {x y z:Vt} (hx:l[i]?=some x) (hy:l[(i+1) % l.length]?=some y) (hz:l[(i+k) % l.length]?=some z):a3h l i k=b2F x y z:=by
 unfold a3h;rw [c8C,c8C,c8C,hx,hy,hz];rfl
theorem c2d (i k n:Nat):Int.tmod ((i:Int)+(k:Int)) (n:Int)=(((i+k) % n:Nat):Int):=rfl
theorem tmod_one (i n:Nat):Int.tmod ((i:Int)+1) (n:Int)=(((i+1) % n:Nat):Int):=rfl
theorem c5y (v:Vt):v.enc.length=6:=rfl
theorem b3T (l:List Vt) (most:Nat) (hl:Vbs 1073741824 l) (hm:most<=1000000):FZ 179 [vts l,ints most] (ints (J8 l most)):=by
 refine kW Tryz.func179 (by cbv) (by rfl) fun w O hw=>?_;obtain ⟨hn,hb⟩:=hl;simp only [j4,TT,II,OA,OB,MM,LL,ints,vts];(repeat first|refine uA ?_|(apply uK;· first|omega|trivial|(intros;simp_all<;>omega))|simp (disch:=omega) only [go_sem,Nat.reduceBEq,Nat.reduceAdd,c8r]);(refine uJ rfl (fun hc=>?_) fun hc=>?_)
 ·have he:J8 l most=2:=by unfold J8;rw [if_pos (by omega)]
  rw [he];(repeat first|refine uA ?_|(apply uK;· first|omega|trivial|(intros;simp_all<;>omega))|simp (disch:=omega) only [go_sem]);exact uS rfl rfl
 have h1:¬ most < l.length:=by omega
 (repeat first|refine uA ?_|(apply uK;· first|omega|trivial|(intros;simp_all<;>omega))|simp (disch:=omega) only [go_sem,Nat.reduceBEq]);(refine uJ rfl (fun hc=>?_) fun hc=>?_)
 ·have he:J8 l most=3:=by unfold J8;rw [if_neg h1,if_pos (by omega)]
  rw [he];(repeat first|refine uA ?_|(apply uK;· first|omega|trivial|(intros;simp_all<;>omega))|simp (disch:=omega) only [go_sem]);exact uS rfl rfl
 have h2:¬ l.length < 3:=by omega
 (repeat first|refine uA ?_|(apply uK;· first|omega|trivial|(intros;simp_all<;>omega))|simp (disch:=omega) only [go_sem,Nat.reduceBEq,c8r]);refine S.loop (X:=Nat) (fun i=>⟨[(0,vts l),(5,ints l.length),(18,vts l),(19,ints l.length),(20,ints i)],[]⟩)
  (fun i=>i<=l.length/\∀ j,j < i->∀ k,2<=k->k < l.length->0 < a3h l j k) (fun i=>l.length-i) 0 ⟨c8w _,fun _ h=>absurd h (Nat.not_lt_zero _)⟩ (by repeat first|refine uA ?_|(refine ⟨?_,?_⟩;· first|rfl|trivial|(simp [slot];done))|rfl|trivial|simp) ?_
 rintro i ⟨hi,hg⟩;simp only [ints,vts] at hi ⊢;(repeat first|refine uA ?_|(apply uK;· first|omega|trivial|(intros;simp_all<;>omega))|simp (disch:=omega) only [go_sem,Nat.reduceBEq]);(refine uJ rfl (fun hc=>?_) fun hc=>?_)
 ·have hi':i < l.length:=by omega
  have hgi:=c8q hi';generalize l[i]=x at hgi;(repeat first|refine uA ?_|(apply uK;· first|omega|trivial|(intros;simp_all<;>omega))|simp (disch:=omega) only [go_sem,Nat.reduceBEq,Nat.reduceAdd,Nat.reduceLeDiff,hgi,c8s,c8r,c5y]);refine S.loop (X:=Nat) (fun k=>⟨[(0,vts l),(5,ints l.length),(6,ints i),(7,.bp 0 0),(8,ints k),(18,vts l),(19,ints l.length),(20,ints i)],[.box 73 x.enc]⟩)
   (fun k=>2<=k/\k<=l.length/\∀ k',2<=k'->k' < k->0 < a3h l i k') (fun k=>l.length-k) 2 ⟨c8B _,by omega,fun _ h h'=>by omega⟩ (by repeat first|refine uA ?_|(refine ⟨?_,?_⟩;· first|rfl|trivial|(simp [slot];done))|rfl|trivial|simp) ?_
  rintro k ⟨hk2,hk,hgk⟩;simp only [ints,vts] at hk ⊢;(repeat first|refine uA ?_|(apply uK;· first|omega|trivial|(intros;simp_all<;>omega))|simp (disch:=omega) only [go_sem,Nat.reduceBEq]);(refine uJ rfl (fun hc=>?_) fun hc=>?_)
  ·have hk':k < l.length:=by omega
   have hy:=c8q (show (i+1) % l.length < l.length from Nat.mod_lt _ (by omega));have hz:=c8q (show (i+k) % l.length < l.length from Nat.mod_lt _ (by omega));have hylt:(i+1) % l.length < l.length:=Nat.mod_lt _ (by omega);have hzlt:(i+k) % l.length < l.length:=Nat.mod_lt _ (by omega);generalize l[(i+1) % l.length]'_=y at hy;generalize l[(i+k) % l.length]'_=z at hz;have hla:=b9X hgi hy hz;have hcall:=c5e x y z (hb x (c8t hgi)) (hb y (c8t hy)) (hb z (c8t hz));rw [<- hla] at hcall;simp only [Vt.c,Vt.enc,sb,ints] at hcall
   (repeat first|refine uA ?_|(apply uK;· first|omega|trivial|(intros;simp_all<;>omega))|simp (disch:=omega) only [go_sem,Nat.reduceBEq,Nat.reduceAdd,Nat.reduceLeDiff,ww,hy,hz,c8s,c2d,tmod_one,c8r,Vt.enc,sb,c8u]|(refine uD hcall ?_ ?_ ?_;exact tz hw;rfl));(refine uJ rfl (fun hc=>?_) fun hc=>?_)
   ·rw [b9i h1 h2 hi' hk2 hk' (by omega)];(repeat first|refine uA ?_|(apply uK;· first|omega|trivial|(intros;simp_all<;>omega))|simp (disch:=omega) only [go_sem]);exact uS rfl rfl
   ·(repeat first|refine uA ?_|(apply uK;· first|omega|trivial|(intros;simp_all<;>omega))|simp (disch:=omega) only [go_sem,Nat.reduceBEq,ww]);refine S.next (k+1) ⟨by omega,by omega,fun k' hk1 hk3=>?_⟩ (by omega) (by repeat first|refine uA ?_|(refine ⟨?_,?_⟩;· first|rfl|trivial|(simp [slot];done))|rfl|trivial|simp);rcases c8N k' k with h|h
    ·exact hgk k' hk1 h
    ·have:k'=k:=by omega
     subst this;omega
  ·have hk':k=l.length:=by omega
   subst hk';(repeat first|refine uA ?_|(apply uK;· first|omega|trivial|(intros;simp_all<;>omega))|simp (disch:=omega) only [go_sem,Nat.reduceBEq,ww]);refine S.next (i+1) ⟨by omega,fun j hj=>?_⟩ (by omega) (by repeat first|refine uA ?_|(refine ⟨?_,?_⟩;· first|rfl|trivial|(simp [slot];done))|rfl|trivial|simp);rcases c8N j i with h|h
   ·exact hg j h
   ·have:j=i:=by omega
    subst this;exact hgk
 ·have hi':i=l.length:=by omega
  subst hi';rw [b6U h1 h2 hg];(repeat first|refine uA ?_|(apply uK;· first|omega|trivial|(intros;simp_all<;>omega))|simp (disch:=omega) only [go_sem]);exact uS rfl rfl
theorem a5W (l:List Vt) (hl:Vbs 1073741824 l):FZ 148 [vts l] (ints (J8 l 8)):=by
 refine kW Tryz.func148 (by cbv) (by rfl) fun w O hw=>?_;have h:=b3T l 8 hl (by decide);simp only [j4,TT,II,OA,MM];simp only [vts,ints] at *;generalize J8 l 8=e at *;rw [show ((8:Nat):Int)=8 from rfl] at h;(repeat first|refine uA ?_|(apply uK;· omega)|simp (disch:=omega) only [go_sem,Nat.reduceBEq]|(apply uD h;exact tz hw;rfl));exact uS rfl rfl
def a3x:a4V:=⟨89,[.tmp 2],.seq (.reg [OA 1 (.box 30 (TT 0)),OA 2 (.mv (II 0))]) (.seq (.seq (.reg [FF 7 0 1,VV 8 7,OA 9 (.len false (TT 8)),OA 10 (.bin .gtr (TT 9) (II 4)),MM 11 10,FG 12 1 1 11 false,VG 13 12 11 false,OC 14 (.len
 false (TT 13)) 11 false,OC 15 (.bin .gtr (TT 14) (II 10)) 11 false,OA 16 (.pick (TT 11) (.const (.bool true)) (TT 15)),MM 17 16,FG 18 2 1 17 false,VG 19 18 17 false,OC 20 (.len false (TT 19)) 17 false,OC 21 (.bin .gtr (TT
 20) (II 6)) 17 false,OA 22 (.pick (TT 17) (.const (.bool true)) (TT 21)),MM 23 22,FG 24 3 1 23 false,VG 25 24 23 false,OC 26 (.len false (TT 25)) 23 false,OC 27 (.bin .gtr (TT 26) (II 8)) 23 false,OA 28 (.pick (TT 23)
 (.const (.bool true)) (TT 27)),MM 29 28,FG 30 4 1 29 false,VG 31 30 29 false,OC 32 (.len false (TT 31)) 29 false,OC 33 (.bin .gtr (TT 32) (II 4)) 29 false,OA 34 (.pick (TT 29) (.const (.bool true)) (TT 33))]) (.cond (TT
 34) (.seq (.reg [OA 2 (.mv (II 2))]) .ret) .skip)) (.seq (.seq (.reg [FF 35 0 1,VV 36 35,OA 37 (.len false (TT 36)),OA 38 (.bin .eql (TT 37) (II 0))]) (.cond (TT 38) (.seq (.reg [OA 2 (.mv (II 4))]) .ret) .skip)) (.seq (.reg
 [OA 39 (.mkmap true),OA 3 (.alloc 147 [.map none]),OB (.store 1 (TT 3) (TT 39))]) (.seq (.reg [OA 40 (.clo 79 [TT 3]),MM 4 40]) (.seq (.seq (.X4 [.q,.q,.q,.e none false,.l,.l,.q,.l,.l,.l,.l,.e none false,.l,.l,
 .l,.l,.e none false,.l,.l,.l,.l,.e none false,.q,.q,.l] [FF 41 0 1,VV 42 41,MM 43 4,OA 44 (.call 82 [TT 42,TT 43]),FF 45 1 1,VV 46 45,OA 47 (.call 83 [TT 46,.func 84]),FF 48 2 1,VV 49 48,VV 50 3,OA 51 (.bnd
 86 (TT 50)),OA 52 (.call 85 [TT 49,TT 51]),FF 53 3 1,VV 54 53,VV 55 3,OA 56 (.bnd 88 (TT 55)),OA 57 (.call 87 [TT 54,TT 56]),FF 58 4 1,VV 59 58,VV 60 3,OA 61 (.bnd 90 (TT 60)),OA 62 (.call 89 [TT 59,TT 61]),OA 63
 (.bsl 41 1 5 [.int .i64 0] [(0,TT 44),(1,TT 47),(2,TT 52),(3,TT 57),(4,TT 62)]),OA 64 (.len false (TT 63)),OA 65 (.mv (II 0))]) (.block 0 (.loop (.seq (.reg [OA 66 (.bin .lss (TT 65) (TT 64))]) (.seq (.cond (TT 66)
 .skip (.exit 0)) (.seq (.block 1 (.seq (.reg [OA 67 (.iaddr 1 (TT 63) (TT 65)),VV 68 67,MM 6 68]) (.seq (.reg [MM 69 6,OA 70 (.bin .neq (TT 69) (II 0))]) (.cond (TT 70) (.seq (.reg [MM 71 6,MM 2 71]) .ret) .skip)))) (.reg
 [OA 72 (.bin .add (TT 65) (II 1)),MM 65 72]))))))) (.seq (.seq (.reg [FF 73 5 1,LL 74 3 73,OA 75 (.call 91 [TT 74]),OA 76 (.un .not (TT 75)),MM 77 76,FG 78 5 1 77 false,LG 79 3 78 77 false,OC 80 (.call 92 [TT 79]) 77
 false,OC 81 (.un .not (TT 80)) 77 false,OA 82 (.pick (TT 77) (.const (.bool true)) (TT 81)),MM 83 82,FG 84 5 1 83 false,LG 85 3 84 83 false,OC 86 (.call 61 [TT 85]) 83 false,OC 87 (.bin .lss (TT 86) (II 0)) 83 false,OA
 88 (.pick (TT 83) (.const (.bool true)) (TT 87))]) (.cond (TT 88) (.seq (.reg [OA 2 (.mv (II 1))]) .ret) .skip)) (.seq (.reg [OA 2 (.mv (II 0))]) .ret)))))))⟩
theorem b1i:a2p eff Tryz.prog Tryz.f24=some a3x:=by kernel_rfl
theorem b0Y:Tryz.prog.funcs[24]?=some Tryz.f24:=Tryz.func24
def K8 (b:UInt8):Bool:=decide (97<=b.toNat) && decide (b.toNat<=122)
theorem b1t {s:List UInt8} {i:Nat} (hi:i < s.length) (h:K8 s[i]=false):a1h s=false:=by
 unfold a1h;have:(s.all fun b=>decide (97<=b.toNat) && decide (b.toNat<=122))=false:=by
  rw [List.all_eq_false];exact ⟨s[i],c8L hi,by unfold K8 at h;rw [h];decide⟩
 rw [this];rfl
theorem b4a {s:List UInt8} (h:∀ j (h:j < s.length),K8 s[j]=true):a1h s=(decide (1<=s.length) && decide (s.length<=12)):=by
 unfold a1h;have:(s.all fun b=>decide (97<=b.toNat) && decide (b.toNat<=122))=true:=by
  rw [List.all_eq_true];intro x hx;obtain ⟨j,hj,rfl⟩:=List.mem_iff_getElem.1 hx;exact h j hj
 rw [this,Bool.true_and]
theorem c1K (s:List UInt8) (hs:s.length<=1099511627776):u7 Tryz.prog 144 [sb s] (.v (.bool (a1h s))):=by
 refine kS Tryz.func144 (by cbv) (by rfl) fun w O=>?_;simp only [j4,TT,II,OA,OC,MM,MG,sb];(repeat first|refine uA ?_|(apply uK;· omega)|simp (disch:=omega) only [go_sem,Nat.reduceBEq,F5]);refine S.loop (X:=Nat) (fun i=>⟨[(0,sb s),(5,ints s.length),(6,ints i)],[]⟩) (fun i=>i<=s.length/\∀ j (h:j < s.length),j < i->K8 s[j]=true) (fun i=>s.length-i) 0 ⟨c8w _,fun _ _ h=>absurd h (Nat.not_lt_zero _)⟩ (by repeat first|refine uA ?_|(refine ⟨?_,?_⟩;· first|rfl|simp [slot])|rfl|simp) ?_;rintro i ⟨hi,hg⟩;simp only [sb,ints];(repeat first|refine uA ?_|(apply uK;· omega)|simp (disch:=omega) only [go_sem,Nat.reduceBEq]);(refine uJ rfl (fun hc=>?_) fun hc=>?_)
 ·have hi':i < s.length:=by omega
  have hgi:s.getD i 0=s[i]:=by rw [c8C,c8q hi'];rfl
  (repeat first|refine uA ?_|(apply uK;· first|omega|(intros;simp_all<;>omega))|simp (disch:=omega) only [go_sem,Nat.reduceBEq,F5,a0l,hgi,c8u]);refine S.cond rfl (fun hc=>?_) (fun hc=>?_)
  ·have hl:K8 s[i]=false:=by
    unfold K8;simp only [c9f,c8D] at hc;rw [Bool.and_eq_false_iff,c8I,c8I];omega
   rw [b1t hi' hl];(repeat first|refine uA ?_|(apply uK;· omega)|simp (disch:=omega) only [go_sem]);exact uS rfl rfl
  ·have hl:K8 s[i]=true:=by
    unfold K8;simp only [c8S,c8I] at hc;rw [c8F,c8D,c8D];omega
   (repeat first|refine uA ?_|(apply uK;· omega)|simp (disch:=omega) only [go_sem,Nat.reduceBEq,ww]);refine S.next (i+1) ⟨by omega,fun j h hj=>?_⟩ (by omega) (by repeat first|refine uA ?_|(refine ⟨?_,?_⟩;· first|rfl|simp [slot])|rfl|simp);rcases c8N j i with h1|h1
   ·exact hg j h h1
   ·have:j=i:=by omega
    subst this;exact hl
 ·have hi':i=s.length:=by omega
  subst hi';have e1:decide ((1:Int)<=(s.length:Int))=decide (1<=s.length):=decide_eq_decide.2 (by omega);have e2:decide ((s.length:Int)<=12)=decide (s.length<=12):=decide_eq_decide.2 (by omega);rw [b4a fun j h=>hg j h h];(repeat first|refine uA ?_|(apply uK;· omega)|simp (disch:=omega) only [go_sem,Nat.reduceBEq,F5,e1,e2])
  (try simp only [e1,e2,go_sem])
  exact uS rfl rfl
theorem c3Y (s:List UInt8) (hs:s.length<=1099511627776):u7 Tryz.prog 147 [sb s] (.v (.bool (a1h s))):=by
 refine kS Tryz.func147 (by cbv) (by rfl) fun w O=>?_;simp only [j4,TT,II,OA,OC,MM,MG,sb];(repeat first|refine uA ?_|(apply uK;· omega)|simp (disch:=omega) only [go_sem,Nat.reduceBEq,F5]);refine S.loop (X:=Nat) (fun i=>⟨[(0,sb s),(5,ints s.length),(6,ints i)],[]⟩) (fun i=>i<=s.length/\∀ j (h:j < s.length),j < i->K8 s[j]=true) (fun i=>s.length-i) 0 ⟨c8w _,fun _ _ h=>absurd h (Nat.not_lt_zero _)⟩ (by repeat first|refine uA ?_|(refine ⟨?_,?_⟩;· first|rfl|simp [slot])|rfl|simp) ?_;rintro i ⟨hi,hg⟩;simp only [sb,ints];(repeat first|refine uA ?_|(apply uK;· omega)|simp (disch:=omega) only [go_sem,Nat.reduceBEq]);(refine uJ rfl (fun hc=>?_) fun hc=>?_)
 ·have hi':i < s.length:=by omega
  have hgi:s.getD i 0=s[i]:=by rw [c8C,c8q hi'];rfl
  (repeat first|refine uA ?_|(apply uK;· first|omega|(intros;simp_all<;>omega))|simp (disch:=omega) only [go_sem,Nat.reduceBEq,F5,a0l,hgi,c8u]);refine S.cond rfl (fun hc=>?_) (fun hc=>?_)
  ·have hl:K8 s[i]=false:=by
    unfold K8;simp only [c9f,c8D] at hc;rw [Bool.and_eq_false_iff,c8I,c8I];omega
   rw [b1t hi' hl];(repeat first|refine uA ?_|(apply uK;· omega)|simp (disch:=omega) only [go_sem]);exact uS rfl rfl
  ·have hl:K8 s[i]=true:=by
    unfold K8;simp only [c8S,c8I] at hc;rw [c8F,c8D,c8D];omega
   (repeat first|refine uA ?_|(apply uK;· omega)|simp (disch:=omega) only [go_sem,Nat.reduceBEq,ww]);refine S.next (i+1) ⟨by omega,fun j h hj=>?_⟩ (by omega) (by repeat first|refine uA ?_|(refine ⟨?_,?_⟩;· first|rfl|simp [slot])|rfl|simp);rcases c8N j i with h1|h1
   ·exact hg j h h1
   ·have:j=i:=by omega
    subst this;exact hl
 ·have hi':i=s.length:=by omega
  subst hi';have e1:decide ((1:Int)<=(s.length:Int))=decide (1<=s.length):=decide_eq_decide.2 (by omega);have e2:decide ((s.length:Int)<=12)=decide (s.length<=12):=decide_eq_decide.2 (by omega);rw [b4a fun j h=>hg j h h];(repeat first|refine uA ?_|(apply uK;· omega)|simp (disch:=omega) only [go_sem,Nat.reduceBEq,F5,e1,e2])
  (try simp only [e1,e2,go_sem])
  exact uS rfl rfl
theorem a9A (l:List Nm.Rt) (hl:Rbs 17179869184 l):FZ 145 [rts l] (.v (.bool (l.all j5))):=by
 refine kW Tryz.func145 (by cbv) (by rfl) fun w O hw=>?_;obtain ⟨hn,hb⟩:=hl;simp only [j4,TT,II,OA,OB,MM,LL,rts];(repeat first|refine uA ?_|(apply uK;· omega)|simp (disch:=omega) only [go_sem,Nat.reduceBEq,c8r]);refine S.loop (X:=Nat) (fun i=>⟨[(5,rts l),(6,ints l.length),(7,ints i)],[]⟩) (fun i=>i<=l.length/\l.all j5=(l.drop i).all j5) (fun i=>l.length-i) 0 ⟨c8w _,rfl⟩ (by repeat first|refine uA ?_|(refine ⟨?_,?_⟩;· first|rfl|simp [slot])|rfl|simp) ?_;rintro i ⟨hi,hg⟩;simp only [rts,ints];(repeat first|refine uA ?_|(apply uK;· omega)|simp (disch:=omega) only [go_sem,Nat.reduceBEq]);(refine uJ rfl (fun hc=>?_) fun hc=>?_)
 ·have hi':i < l.length:=by omega
  have hgi:=c8q hi';generalize l[i]=x at hgi;have hd:=drop_at hgi;have hs:=a3M x (hb x (c8t hgi));simp only [rc] at hs;simp only [sb] at hs;(repeat first|refine uA ?_|(apply uK;· omega)|simp (disch:=omega) only [go_sem,Nat.reduceBEq,hgi,c8s,c8r,rcs,sb]|(apply uD hs;exact tz hw;rfl));refine S.cond rfl (fun hc=>?_) (fun hc=>?_)
  ·have:l.all j5=false:=by
    rw [hg,hd,List.all_cons];simp only [Bool.not_eq_true'] at hc;rw [hc];rfl
   rw [this];(repeat first|refine uA ?_|(apply uK;· omega)|simp (disch:=omega) only [go_sem]);exact uS rfl rfl
  ·(repeat first|refine uA ?_|(apply uK;· omega)|simp (disch:=omega) only [go_sem,Nat.reduceBEq,ww]);refine S.next (i+1) ⟨by omega,?_⟩ (by omega) (by repeat first|refine uA ?_|(refine ⟨?_,?_⟩;· first|rfl|simp [slot])|rfl|simp);rw [hg,hd,List.all_cons];simp only [Bool.not_eq_false'] at hc;rw [hc];rfl
 ·have:l.all j5=true:=by rw [hg,List.drop_eq_nil_of_le (by omega)];rfl
  rw [this];(repeat first|refine uA ?_|(apply uK;· omega)|simp (disch:=omega) only [go_sem]);exact uS rfl rfl
namespace Eng
def frS (fr:List (Nat × C)):List (Nat × C)->Prop
 | []=>True
 | (t,s)::r=>(s=.junk \/ slot fr t=s)/\frS fr r
theorem b3z {fr:List (Nat × C)}:∀ {fr':List (Nat × C)},frS fr fr'->∀ t,slot fr' t=.junk \/ slot fr t=slot fr' t
 | [],_,t=>.inl rfl
 | (u,s)::r,h,t=>by
  simp only [slot];cases hb:(u == t) with
  | true=>
   have:u=t:=by simpa using hb
   subst this;exact h.1
  | false=>exact b3z h.2 t
theorem Ent.fr {E:Ctx} {fr fr':List (Nat × C)} {rs rs':List Res} (h:rs=rs') (hf:frS fr fr'):Ent E ⟨fr,rs⟩ ⟨fr',rs'⟩:=by
 subst h;intro wf ν a w hG;refine ⟨ν,hG.dfr,hG.size,fun t=>?_,hG.rg,hG.frm,hG.nu⟩;rcases b3z hf t with e|e
 ·rw [e];simp only [Den]
 ·rw [<- e];exact hG.fr t
end Eng
def a0f {α:Type} (p:α->Bool) (l:List α):Int:=match l.findIdx? p with|some i=>i|none=>-1
theorem a0W {α:Type} {p:α->Bool} {l:List α} {i:Nat} {x:α} (h:l[i]?=some x) (hp:p x=true) (hm:∀ j,j < i->∀ y,l[j]?=some y->p y=false):a0f p l=i:=by
 obtain ⟨hi,rfl⟩:=c8v.1 h;have:l.findIdx? p=some i:=by
  rw [List.findIdx?_eq_some_iff_getElem];refine ⟨hi,hp,fun j hj=>?_⟩;simp [hm j hj l[j] (c8q _)]
 unfold a0f;rw [this]
theorem a0k {α:Type} {p:α->Bool} {l:List α} (hm:∀ j,j < l.length->∀ y,l[j]?=some y->p y=false):a0f p l=-1:=by
 have:l.findIdx? p=none:=by
  rw [List.findIdx?_eq_none_iff];intro x hx;obtain ⟨j,hj⟩:=List.mem_iff_getElem?.1 hx;exact hm j (c8v.1 hj).1 x hj
 unfold a0f;rw [this]
theorem a1E {α:Type} (p:α->Bool) (l:List α):decide (0<=a0f p l)=l.any p:=by
 unfold a0f;cases h:l.findIdx? p with
 | none=>
  rw [List.findIdx?_eq_none_iff] at h;have:l.any p=false:=by rw [List.any_eq_false];intro x hx;simp [h x hx]
  rw [this];rfl
 | some i=>
  rw [List.findIdx?_eq_some_iff_getElem] at h;obtain ⟨h1,h2,_⟩:=h;have:l.any p=true:=by rw [List.any_eq_true];exact ⟨_,c8L h1,h2⟩
  rw [this];exact decide_eq_true (show (0:Int)<=(i:Int) by omega)
theorem c2c (g:Nat) (hcal:callable Tryz.prog g=true) (p:Vt->Bool) (l:List Vt) (hn:l.length<=1099511627776) (hg:∀ x ∈ l,FZ g [x.c] (.v (.bool (p x)))) :
  FZ 95 [vts l,.v (.func (.func g) #[] #[])] (ints (a0f p l)):=by
 refine kW Tryz.func95 (by cbv) (by rfl) fun w O hw=>?_;simp only [j4,TT,II,OA,MM,LL,vts];(repeat first|refine uA ?_|(apply uK;· omega)|simp (disch:=omega) only [go_sem,Nat.reduceBEq,c8r]);refine S.loop (X:=Nat) (fun i=>⟨[(0,vts l),(1,.v (.func (.func g) #[] #[])),(7,ints l.length),(8,ints i)],[]⟩) (fun i=>i<=l.length/\∀ j,j < i->∀ x,l[j]?=some x->p x=false) (fun i=>l.length-i) 0 ⟨c8w _,fun _ h=>absurd h (Nat.not_lt_zero _)⟩ (by repeat first|refine uA ?_|(refine ⟨?_,?_⟩;· first|rfl|simp [slot])|rfl|simp) ?_;rintro i ⟨hi,hm⟩;simp only [vts,ints];(repeat first|refine uA ?_|(apply uK;· omega)|simp (disch:=omega) only [go_sem,Nat.reduceBEq]);(refine uJ rfl (fun hc=>?_) fun hc=>?_)
 ·have hi':i < l.length:=by omega
  have hgi:=c8q hi';generalize l[i]=x at hgi;have hs:=hg x (c8t hgi);simp only [Vt.c,Vt.enc,sb] at hs;(repeat first|refine uA ?_|(apply uK;· omega)|simp (disch:=omega) only [go_sem,Nat.reduceBEq,hgi,c8s,c8r,Vt.enc,sb,c8u,hcal]|(apply uD hs;exact tz hw;rfl));refine S.cond rfl (fun hc2=>?_) (fun hc2=>?_)
  ·rw [a0W hgi hc2 hm];(repeat first|refine uA ?_|(apply uK;· omega)|simp (disch:=omega) only [go_sem,Nat.reduceBEq]);exact uS rfl rfl
  ·(repeat first|refine uA ?_|(apply uK;· omega)|simp (disch:=omega) only [go_sem,Nat.reduceBEq,ww]);refine S.next (i+1) ⟨by omega,fun j hj y hy=>?_⟩ (by omega) (by repeat first|refine uA ?_|(refine ⟨?_,?_⟩;· first|rfl|simp [slot])|rfl|simp);rcases c8N j i with h1|h1
   ·exact hm j h1 y hy
   ·have:j=i:=by omega
    subst this;rw [hgi] at hy;cases hy;exact hc2
 ·have hi':i=l.length:=by omega
  subst hi';rw [a0k hm];(repeat first|refine uA ?_|(apply uK;· omega)|simp (disch:=omega) only [go_sem]);exact uS rfl rfl
theorem b4I (g:Nat) (hcal:callable Tryz.prog g=true) (p:Vt->Bool) (l:List Vt) (hn:l.length<=1099511627776) (hg:∀ x ∈ l,FZ g [x.c] (.v (.bool (p x)))) :
  FZ 29 [vts l,.v (.func (.func g) #[] #[])] (.v (.bool (l.any p))):=by
 refine kW Tryz.func29 (by cbv) (by rfl) fun w O hw=>?_;have h:=c2c g hcal p l hn hg;have e:=a1E p l;generalize a0f p l=n at *;simp only [j4,TT,II,OA,MM];simp only [vts,ints] at *;(repeat first|refine uA ?_|(apply uK;· first|omega|(intros;simp_all<;>omega))|simp (disch:=omega) only [go_sem,Nat.reduceBEq,Nat.reduceAdd]|(apply uD h;exact tz hw;rfl));rw [e];exact uS rfl rfl
theorem c1N (g:Nat) (hcal:callable Tryz.prog g=true) (p:Nm.Rt->Bool) (l:List Nm.Rt) (hn:l.length<=1099511627776) (hg:∀ x ∈ l,FZ g [rc x] (.v (.bool (p x)))) :
  FZ 152 [rts l,.v (.func (.func g) #[] #[])] (ints (a0f p l)):=by
 refine kW Tryz.func152 (by cbv) (by rfl) fun w O hw=>?_;simp only [j4,TT,II,OA,MM,LL,rts];(repeat first|refine uA ?_|(apply uK;· omega)|simp (disch:=omega) only [go_sem,Nat.reduceBEq,c8r]);refine S.loop (X:=Nat) (fun i=>⟨[(0,rts l),(1,.v (.func (.func g) #[] #[])),(7,ints l.length),(8,ints i)],[]⟩) (fun i=>i<=l.length/\∀ j,j < i->∀ x,l[j]?=some x->p x=false) (fun i=>l.length-i) 0 ⟨c8w _,fun _ h=>absurd h (Nat.not_lt_zero _)⟩ (by repeat first|refine uA ?_|(refine ⟨?_,?_⟩;· first|rfl|simp [slot])|rfl|simp) ?_;rintro i ⟨hi,hm⟩;simp only [rts,ints];(repeat first|refine uA ?_|(apply uK;· omega)|simp (disch:=omega) only [go_sem,Nat.reduceBEq]);(refine uJ rfl (fun hc=>?_) fun hc=>?_)
 ·have hi':i < l.length:=by omega
  have hgi:=c8q hi';generalize l[i]=x at hgi;have hs:=hg x (c8t hgi);simp only [rc,sb] at hs;(repeat first|refine uA ?_|(apply uK;· omega)|simp (disch:=omega) only [go_sem,Nat.reduceBEq,hgi,c8s,c8r,rcs,sb,c8u,hcal]|(apply uD hs;exact tz hw;rfl));refine S.cond rfl (fun hc2=>?_) (fun hc2=>?_)
  ·rw [a0W hgi hc2 hm];(repeat first|refine uA ?_|(apply uK;· omega)|simp (disch:=omega) only [go_sem,Nat.reduceBEq]);exact uS rfl rfl
  ·(repeat first|refine uA ?_|(apply uK;· omega)|simp (disch:=omega) only [go_sem,Nat.reduceBEq,ww]);refine S.next (i+1) ⟨by omega,fun j hj y hy=>?_⟩ (by omega) (by repeat first|refine uA ?_|(refine ⟨?_,?_⟩;· first|rfl|simp [slot])|rfl|simp);rcases c8N j i with h1|h1
   ·exact hm j h1 y hy
   ·have:j=i:=by omega
    subst this;rw [hgi] at hy;cases hy;exact hc2
 ·have hi':i=l.length:=by omega
  subst hi';rw [a0k hm];(repeat first|refine uA ?_|(apply uK;· omega)|simp (disch:=omega) only [go_sem]);exact uS rfl rfl
theorem c0J (g:Nat) (hcal:callable Tryz.prog g=true) (p:Nm.Rt->Bool) (l:List Nm.Rt) (hn:l.length<=1099511627776) (hg:∀ x ∈ l,FZ g [rc x] (.v (.bool (p x)))) :
  FZ 96 [rts l,.v (.func (.func g) #[] #[])] (.v (.bool (l.any p))):=by
 refine kW Tryz.func96 (by cbv) (by rfl) fun w O hw=>?_;have h:=c1N g hcal p l hn hg;have e:=a1E p l;generalize a0f p l=n at *;simp only [j4,TT,II,OA,MM];simp only [rts,ints] at *;(repeat first|refine uA ?_|(apply uK;· first|omega|(intros;simp_all<;>omega))|simp (disch:=omega) only [go_sem,Nat.reduceBEq,Nat.reduceAdd]|(apply uD h;exact tz hw;rfl));rw [e];exact uS rfl rfl
theorem b7l (g:Nat) (hcal:callable Tryz.prog g=true) (p:Fr->Bool) (l:List Fr) (hn:l.length<=1099511627776) (hg:∀ x ∈ l,FZ g [x.c] (.v (.bool (p x)))) :
  FZ 94 [frs l,.v (.func (.func g) #[] #[])] (ints (a0f p l)):=by
 refine kW Tryz.func94 (by cbv) (by rfl) fun w O hw=>?_;simp only [j4,TT,II,OA,MM,LL,frs];(repeat first|refine uA ?_|(apply uK;· omega)|simp (disch:=omega) only [go_sem,Nat.reduceBEq,c8r]);refine S.loop (X:=Nat) (fun i=>⟨[(0,frs l),(1,.v (.func (.func g) #[] #[])),(7,ints l.length),(8,ints i)],[]⟩) (fun i=>i<=l.length/\∀ j,j < i->∀ x,l[j]?=some x->p x=false) (fun i=>l.length-i) 0 ⟨c8w _,fun _ h=>absurd h (Nat.not_lt_zero _)⟩ (by repeat first|refine uA ?_|(refine ⟨?_,?_⟩;· first|rfl|simp [slot])|rfl|simp) ?_;rintro i ⟨hi,hm⟩;simp only [frs,ints];(repeat first|refine uA ?_|(apply uK;· omega)|simp (disch:=omega) only [go_sem,Nat.reduceBEq]);(refine uJ rfl (fun hc=>?_) fun hc=>?_)
 ·have hi':i < l.length:=by omega
  have hgi:=c8q hi';generalize l[i]=x at hgi;have hs:=hg x (c8t hgi);simp only [Fr.c,Fr.enc,sb] at hs;(repeat first|refine uA ?_|(apply uK;· omega)|simp (disch:=omega) only [go_sem,Nat.reduceBEq,hgi,c8s,c8r,Fr.enc,sb,c8u,hcal]|(apply uD hs;exact tz hw;rfl));refine S.cond rfl (fun hc2=>?_) (fun hc2=>?_)
  ·rw [a0W hgi hc2 hm];(repeat first|refine uA ?_|(apply uK;· omega)|simp (disch:=omega) only [go_sem,Nat.reduceBEq]);exact uS rfl rfl
  ·(repeat first|refine uA ?_|(apply uK;· omega)|simp (disch:=omega) only [go_sem,Nat.reduceBEq,ww]);refine S.next (i+1) ⟨by omega,fun j hj y hy=>?_⟩ (by omega) (by repeat first|refine uA ?_|(refine ⟨?_,?_⟩;· first|rfl|simp [slot])|rfl|simp);rcases c8N j i with h1|h1
   ·exact hm j h1 y hy
   ·have:j=i:=by omega
    subst this;rw [hgi] at hy;cases hy;exact hc2
 ·have hi':i=l.length:=by omega
  subst hi';rw [a0k hm];(repeat first|refine uA ?_|(apply uK;· omega)|simp (disch:=omega) only [go_sem]);exact uS rfl rfl
theorem b7Q (g:Nat) (hcal:callable Tryz.prog g=true) (p:Fr->Bool) (l:List Fr) (hn:l.length<=1099511627776) (hg:∀ x ∈ l,FZ g [x.c] (.v (.bool (p x)))) :
  FZ 26 [frs l,.v (.func (.func g) #[] #[])] (.v (.bool (l.any p))):=by
 refine kW Tryz.func26 (by cbv) (by rfl) fun w O hw=>?_;have h:=b7l g hcal p l hn hg;have e:=a1E p l;generalize a0f p l=n at *;simp only [j4,TT,II,OA,MM];simp only [frs,ints] at *;(repeat first|refine uA ?_|(apply uK;· first|omega|(intros;simp_all<;>omega))|simp (disch:=omega) only [go_sem,Nat.reduceBEq,Nat.reduceAdd]|(apply uD h;exact tz hw;rfl));rw [e];exact uS rfl rfl
set_option maxHeartbeats 8000000
theorem c0N {α:Type} (p:α->Bool) (a b c d e:α):[a,b,c,d,e].all p=(p a && p b && p c && p d && p e):=by simp [Bool.and_assoc]
theorem a5I {α:Type} (p:α->Bool) (a b c:α):[a,b,c].all p=(p a && p b && p c):=by simp [Bool.and_assoc]
theorem a6o {α:Type} (p:α->Bool) (a b:α):[a,b].all p=(p a && p b):=by simp
theorem Rbs.five {k:Nat} {a b c d e:Nm.Rt} (h:5<=k) (h1:Rb k a) (h2:Rb k b) (h3:Rb k c) (h4:Rb k d) (h5:Rb k e):Rbs k [a,b,c,d,e]:=⟨h,fun x hx=>by simp at hx;rcases hx with rfl|rfl|rfl|rfl|rfl<;>assumption⟩
theorem Rbs.three {k:Nat} {a b c:Nm.Rt} (h:3<=k) (h1:Rb k a) (h2:Rb k b) (h3:Rb k c):Rbs k [a,b,c]:=⟨h,fun x hx=>by simp at hx;rcases hx with rfl|rfl|rfl<;>assumption⟩
theorem Rbs.two {k:Nat} {a b:Nm.Rt} (h:2<=k) (h1:Rb k a) (h2:Rb k b):Rbs k [a,b]:=⟨h,fun x hx=>by simp at hx;rcases hx with rfl|rfl<;>assumption⟩
theorem c3u (l:Lk) (hl:Lb 1073741824 l):FZ 146 [l.c] (ints (R4 l)):=by
 refine kW Tryz.func146 (by cbv) (by rfl) fun w O hw=>?_;obtain ⟨length,low,high,speed,brake,shape⟩:=l;obtain ⟨b1,b2,b3,b4,b5,b6⟩:=hl;simp only at b1 b2 b3 b4 b5 b6;have c1:=b1.mono (m:=17179869184) (by decide);have c2:=b2.mono (m:=17179869184) (by decide);have c3:=b3.mono (m:=17179869184) (by decide);have c4:=b4.mono (m:=17179869184) (by decide);have c5:=b5.mono (m:=17179869184) (by decide);have hsm:=a9A _ (Rbs.five (by decide) c1 c2 c3 c4 c5);rw [c0N] at hsm;have hs1:=M8 length c1;have hcm:=F6 low high c2 c3;have hs2:=M8 speed c4;have hs3:=M8 brake c5;have hp:=a5W shape b6
 have hv:=fun (v:Vt) (h:v ∈ shape)=>a9A _ (Rbs.two (by decide) ((b6.2 v h).1.mono (m:=17179869184) (by decide)) ((b6.2 v h).2.mono (m:=17179869184) (by decide)));have hn:=b6.1;unfold R4;simp only;generalize (j5 length && j5 low && j5 high && j5 speed && j5 brake)=q at *;generalize q8 (Nm.d9 length)=n1 at *;generalize Nm.l8 (Nm.d9 low) (Nm.d9 high)=n2 at *;generalize q8 (Nm.d9 speed)=n3 at *;generalize q8 (Nm.d9 brake)=n4 at *;generalize J8 shape 8=n5 at *;simp only [j4,TT,II,OA,OB,OC,MM,LL,VV,FF,LG,FG];simp only [Lk.c,Lk.enc,rc,rts,rcs,vts,sb,ints,c8K,c8O] at *
 (repeat first|refine uG hs1 ?_|refine uG hcm ?_|refine uG hsm ?_|refine uA ?_|(apply uK;· first|omega|(intros;simp_all<;>omega))|simp (disch:=omega) only [go_sem,Nat.reduceBEq,Nat.reduceAdd]|(refine uD hs1 ?_ ?_ ?_;exact tz hw;rfl)|(refine uD hcm ?_ ?_ ?_;exact tz hw;rfl)|(refine uE hsm ?_ ?_ ?_ ?_;exact tz hw;exact rfl;focus (repeat' first|exact j3.nil|exact Imp.refl rfl|exact Imp.frz rfl rfl rfl|(refine Imp.K5 rfl rfl ?_ ?_;(focus ((try simp only [c8A]);omega));(focus first|rfl|assumption))|refine j3.cons ?_ ?_);done));refine S.cond rfl (fun hc=>?_) (fun hc=>?_)
 ·rw [if_pos (by simp only [c9f,Bool.not_eq_true',c8D] at hc;rcases hc with (hc|hc)|hc<;>simp [hc])];(repeat first|refine uA ?_|(apply uK;· first|omega|(intros;simp_all<;>omega))|simp (disch:=omega) only [go_sem]);exact uS rfl rfl
 rw [if_neg (by simp only [c8S,Bool.not_eq_false',c8I] at hc;simp [hc])];(repeat first|refine uG hs2 ?_|refine uG hs3 ?_|refine uA ?_|(apply uK;· first|omega|(intros;simp_all<;>omega))|simp (disch:=omega) only [go_sem,Nat.reduceBEq,Nat.reduceAdd]|(refine uD hs2 ?_ ?_ ?_;exact tz hw;rfl)|(refine uD hs3 ?_ ?_ ?_;exact tz hw;rfl));refine S.cond rfl (fun hc=>?_) (fun hc=>?_)
 ·rw [if_pos (by simp only [c9f,c8D] at hc;exact hc)];(repeat first|refine uA ?_|(apply uK;· first|omega|(intros;simp_all<;>omega))|simp (disch:=omega) only [go_sem]);exact uS rfl rfl
 rw [if_neg (by simp only [c8S,c8I] at hc;simp [hc])];(repeat first|refine uG hp ?_|refine uA ?_|(apply uK;· first|omega|(intros;simp_all<;>omega))|simp (disch:=omega) only [go_sem,Nat.reduceBEq,Nat.reduceAdd]|(refine uD hp ?_ ?_ ?_;exact tz hw;rfl));refine S.cond rfl (fun hc=>?_) (fun hc=>?_)
 ·rw [if_pos (by simpa using hc)];(repeat first|refine uA ?_|(apply uK;· first|omega|(intros;simp_all<;>omega))|simp (disch:=omega) only [go_sem,Nat.reduceBEq]);exact uS rfl rfl
 rw [if_neg (by simpa using hc)];(repeat first|refine uA ?_|(apply uK;· first|omega|(intros;simp_all<;>omega))|simp (disch:=omega) only [go_sem,Nat.reduceBEq,Nat.reduceAdd,c8r]);refine S.loop (X:=Nat) (fun i=>⟨[(50,vts shape),(51,ints shape.length),(52,ints i)],[]⟩) (fun i=>i<=shape.length/\(shape.all fun v=>j5 v.x && j5 v.y)=(shape.drop i).all fun v=>j5 v.x && j5 v.y) (fun i=>shape.length-i) 0 ⟨c8w _,rfl⟩ (by repeat first|refine uA ?_|(refine ⟨?_,?_⟩;· first|rfl|simp [slot])|rfl|simp) ?_;rintro i ⟨hi,hg⟩;simp only [vts,ints];(repeat first|refine uA ?_|(apply uK;· first|omega|(intros;simp_all<;>omega))|simp (disch:=omega) only [go_sem,Nat.reduceBEq]);(refine uJ rfl (fun hc=>?_) fun hc=>?_)
 ·have hi':i < shape.length:=by omega
  have hgi:=c8q hi';generalize shape[i]=x at hgi;have hd:=drop_at hgi;have hs:=hv x (c8t hgi);rw [a6o] at hs;(repeat first|refine uG hs ?_|refine uA ?_|(apply uK;· first|omega|(intros;simp_all<;>omega))|simp (disch:=omega) only [go_sem,Nat.reduceBEq,Nat.reduceAdd,hgi,c8s,c8r,Vt.enc,sb]|(refine uE hs ?_ ?_ ?_ ?_;exact tz hw;exact rfl;focus (repeat' first|exact j3.nil|exact Imp.refl rfl|exact Imp.frz rfl rfl rfl|(refine Imp.K5 rfl rfl ?_ ?_;(focus ((try simp only [c8A,hgi,c8s,c8r,Vt.enc,sb]);omega));(focus first|rfl|assumption))|refine j3.cons ?_ ?_);done));refine S.cond rfl (fun hc2=>?_) (fun hc2=>?_)
  ·have:(shape.all fun v=>j5 v.x && j5 v.y)=false:=by
    rw [hg,hd,List.all_cons];simp only [Bool.not_eq_true'] at hc2;rw [hc2];rfl
   rw [this];(repeat first|refine uA ?_|(apply uK;· first|omega|(intros;simp_all<;>omega))|simp (disch:=omega) only [go_sem]);exact uS rfl rfl
  ·(repeat first|refine uA ?_|(apply uK;· first|omega|(intros;simp_all<;>omega))|simp (disch:=omega) only [go_sem,Nat.reduceBEq,ww]);refine S.next (i+1) ⟨by omega,?_⟩ (by omega) (by repeat first|refine uA ?_|(refine ⟨?_,?_⟩;· first|rfl|simp [slot])|rfl|simp);rw [hg,hd,List.all_cons];simp only [Bool.not_eq_false'] at hc2;rw [hc2];rfl
 ·have:(shape.all fun v=>j5 v.x && j5 v.y)=true:=by rw [hg,List.drop_eq_nil_of_le (by omega)];rfl
  rw [this];(repeat first|refine uA ?_|(apply uK;· first|omega|(intros;simp_all<;>omega))|simp (disch:=omega) only [go_sem]);exact uS rfl rfl
theorem a6l (a:Am) (hl:Ab 1073741824 a):FZ 80 [a.c] (ints (H9 a)):=by
 refine kW Tryz.func80 (by cbv) (by rfl) fun w O hw=>?_;obtain ⟨name,⟨x,y,half,t⟩,links⟩:=a;obtain ⟨b0,⟨b1,b2,b3⟩,hn,hb⟩:=hl;simp only at b0 b1 b2 b3 hn hb;have c1:=b1.mono (m:=17179869184) (by decide);have c2:=b2.mono (m:=17179869184) (by decide);have c3:=b3.mono (m:=17179869184) (by decide);have hnm:=c1K name (by omega);have hsm:=a9A _ (Rbs.three (by decide) c1 c2 c3);rw [a5I] at hsm;have hs:=M8 t c3;unfold H9 a3w;simp only;generalize a1h name=q0 at *;generalize (j5 x && j5 y && j5 t)=q at *;generalize q8 (Nm.d9 t)=n1 at *;simp only [j4];simp only [Am.c,Am.enc,rc,rts,rcs,lks,sb,ints,c8K,c8O] at *
 (repeat first|refine uF hnm ?_|refine uA ?_|(apply uK;· first|omega|(intros;simp_all<;>omega))|simp (disch:=omega) only [go_sem,Nat.reduceBEq,Nat.reduceAdd]|(refine uB hnm ?_ ?_;rfl));refine S.cond rfl (fun hc=>?_) (fun hc=>?_)
 ·rw [if_pos (by simpa using hc)];(repeat first|refine uA ?_|(apply uK;· first|omega|(intros;simp_all<;>omega))|simp (disch:=omega) only [go_sem]);exact uS rfl rfl
 rw [if_neg (by simpa using hc)];(repeat first|refine uA ?_|(apply uK;· first|omega|(intros;simp_all<;>omega))|simp (disch:=omega) only [go_sem,Nat.reduceBEq,Nat.reduceAdd,c8r]);refine S.cond rfl (fun hc=>?_) (fun hc=>?_)
 ·rw [if_pos (by simp only [c8D] at hc;omega)];(repeat first|refine uA ?_|(apply uK;· first|omega|(intros;simp_all<;>omega))|simp (disch:=omega) only [go_sem]);exact uS rfl rfl
 rw [if_neg (by simp only [c8I] at hc;omega)];by_cases h0:links.length=0
 ·rw [if_pos (.inl h0)];have e0:decide ((links.length:Int)=0)=true:=decide_eq_true (by omega);(repeat first|refine uG hs ?_|refine uG hsm ?_|refine uA ?_|(apply uK;· first|omega|(intros;simp_all<;>omega))|simp (disch:=omega) only [go_sem,Nat.reduceBEq,Nat.reduceAdd,c8r,e0]|(refine uD hs ?_ ?_ ?_;exact tz hw;rfl)|(refine uE hsm ?_ ?_ ?_ ?_;exact tz hw;exact rfl;focus (repeat' first|exact j3.nil|exact Imp.refl rfl|exact Imp.frz rfl rfl rfl|(refine Imp.K5 rfl rfl ?_ ?_;(focus ((try simp only [c8A,c8r,e0]);omega));(focus first|rfl|assumption))|refine j3.cons ?_ ?_);done));refine S.cond rfl (fun _=>?_) (fun hc=>by simp at hc)
  (repeat first|refine uA ?_|(apply uK;· first|omega|(intros;simp_all<;>omega))|simp (disch:=omega) only [go_sem]);exact uS rfl rfl
 have e0:decide ((links.length:Int)=0)=false:=decide_eq_false (by omega);(repeat first|refine uG hs ?_|refine uG hsm ?_|refine uA ?_|(apply uK;· first|omega|(intros;simp_all<;>omega))|simp (disch:=omega) only [go_sem,Nat.reduceBEq,Nat.reduceAdd,c8r,e0]|(refine uD hs ?_ ?_ ?_;exact tz hw;rfl)|(refine uE hsm ?_ ?_ ?_ ?_;exact tz hw;exact rfl;focus (repeat' first|exact j3.nil|exact Imp.refl rfl|exact Imp.frz rfl rfl rfl|(refine Imp.K5 rfl rfl ?_ ?_;(focus ((try simp only [c8A,c8r,e0]);omega));(focus first|rfl|assumption))|refine j3.cons ?_ ?_);done));refine S.cond rfl (fun hc=>?_) (fun hc=>?_)
 ·rw [if_pos (by simp only [c9f,Bool.not_eq_true'] at hc;rcases hc with hc|hc;(· exact .inr (.inl hc));(· exact .inr (.inr (by cases half<;>simp_all))))];(repeat first|refine uA ?_|(apply uK;· first|omega|(intros;simp_all<;>omega))|simp (disch:=omega) only [go_sem]);exact uS rfl rfl
 rw [if_neg (by simp only [c8S,Bool.not_eq_false'] at hc;rintro (h|h|h);(· omega);(· simp_all);(· cases half<;>simp_all))];(repeat first|refine uA ?_|(apply uK;· first|omega|(intros;simp_all<;>omega))|simp (disch:=omega) only [go_sem,Nat.reduceBEq,Nat.reduceAdd,c8r]);refine S.loop (X:=Nat) (fun i=>⟨[(48,lks links),(49,ints links.length),(50,ints i)],[]⟩) (fun i=>i<=links.length/\G5 R4 links=G5 R4 (links.drop i)) (fun i=>links.length-i) 0 ⟨c8w _,rfl⟩ (by repeat first|refine uA ?_|(refine ⟨?_,?_⟩;· first|rfl|simp [slot])|rfl|simp) ?_;rintro i ⟨hi,hg⟩;simp only [lks,ints]
 (repeat first|refine uA ?_|(apply uK;· first|omega|(intros;simp_all<;>omega))|simp (disch:=omega) only [go_sem,Nat.reduceBEq]);(refine uJ rfl (fun hc=>?_) fun hc=>?_)
 ·have hi':i < links.length:=by omega
  have hgi:=c8q hi';generalize links[i]=x at hgi;have hst:=a1a (f:=R4) hgi;have hnx:=a0U (f:=R4) hgi;have hs:=c3u x (hb x (c8t hgi));generalize R4 x=e at *;simp only [Lk.c,Lk.enc,vts,sb,ints] at hs;(repeat first|refine uG hs ?_|refine uA ?_|(apply uK;· first|omega|(intros;simp_all<;>omega))|simp (disch:=omega) only [go_sem,Nat.reduceBEq,Nat.reduceAdd,hgi,c8s,c8r,Lk.enc,vts,sb]|(refine uD hs ?_ ?_ ?_;exact tz hw;rfl));refine S.cond rfl (fun hc2=>?_) (fun hc2=>?_)
  ·rw [hg,hst (by simpa using hc2)];(repeat first|refine uA ?_|(apply uK;· first|omega|(intros;simp_all<;>omega))|simp (disch:=omega) only [go_sem,Nat.reduceBEq]);exact uS rfl rfl
  ·(repeat first|refine uA ?_|(apply uK;· first|omega|(intros;simp_all<;>omega))|simp (disch:=omega) only [go_sem,Nat.reduceBEq,ww]);refine S.next (i+1) ⟨by omega,?_⟩ (by omega) (by repeat first|refine uA ?_|(refine ⟨?_,?_⟩;· first|rfl|simp [slot])|rfl|simp);rw [hg,hnx (by simpa using hc2)]
 ·rw [hg,a1x (by omega)];(repeat first|refine uA ?_|(apply uK;· first|omega|(intros;simp_all<;>omega))|simp (disch:=omega) only [go_sem]);exact uS rfl rfl
def a2U (a:Am) (n:Int):Int:=if H9 a ≠ 0 then H9 a else if n ≠ a.links.length then 1 else 0
theorem b9t (a:Am) (n:Int) (hl:Ab 1073741824 a):FZ 133 [a.c,ints n] (ints (a2U a n)):=by
 refine kW Tryz.func133 (by cbv) (by rfl) fun w O hw=>?_;have h:=a6l a hl;unfold a2U;generalize H9 a=e at *;obtain ⟨name,⟨x,y,half,t⟩,links⟩:=a;simp only [j4,TT,II,OA,MM,LL,VV,FF];simp only [Am.c,Am.enc,lks,sb,ints] at *;(repeat first|refine uA ?_|(apply uK;· omega)|simp (disch:=omega) only [go_sem,Nat.reduceBEq]|(apply uD h;exact tz hw;rfl));refine S.cond rfl (fun hc=>?_) (fun hc=>?_)
 ·rw [if_pos (by simpa using hc)];(repeat first|refine uA ?_|(apply uK;· omega)|simp (disch:=omega) only [go_sem,Nat.reduceBEq]);exact uS rfl rfl
 rw [if_neg (by simpa using hc)];(repeat first|refine uA ?_|(apply uK;· first|omega|(intros;simp_all<;>omega))|simp (disch:=omega) only [go_sem,Nat.reduceBEq,Nat.reduceAdd,c8r]);refine S.cond rfl (fun hc=>?_) (fun hc=>?_)
 ·rw [if_pos (by simpa using hc)];(repeat first|refine uA ?_|(apply uK;· omega)|simp (disch:=omega) only [go_sem]);exact uS rfl rfl
 ·rw [if_neg (by simpa using hc)];(repeat first|refine uA ?_|(apply uK;· omega)|simp (disch:=omega) only [go_sem]);exact uS rfl rfl
def a5P (x:Lk × Nm.Rt):Int:=if Nm.l8 (Nm.d9 x.2) (Nm.d9 x.1.low) < 0 \/ 0 < Nm.l8 (Nm.d9 x.2) (Nm.d9 x.1.high) then 17 else 0
theorem b3d (a:Am) (q:List Nm.Rt):a2s a q=if a2U a q.length ≠ 0 then a2U a q.length else G5 a5P (a.links.zip q):=by
 unfold a2s a2U;by_cases h:H9 a=0
 ·rw [if_neg (by simp [h])];by_cases h2:q.length=a.links.length
  ·simp [h,h2];rfl
  ·have h3:¬ (q.length:Int)=a.links.length:=by omega
   simp [h,h2,h3]
 ·simp [h]
theorem J5 {α β:Type} {l:List α} {m:List β} {i:Nat} {x:α} {y:β} (h:l[i]?=some x) (k:m[i]?=some y):(l.zip m)[i]?=some (x,y):=by
 rw [List.getElem?_zip_eq_some];exact ⟨h,k⟩
theorem c0e (a:Am) (q:List Nm.Rt) (hl:Ab 1073741824 a) (hq:Rbs 1073741824 q):FZ 59 [a.c,rts q] (ints (a2s a q)):=by
 refine kW Tryz.func59 (by cbv) (by rfl) fun w O hw=>?_;have h:=b9t a q.length hl;rw [b3d];have hlen:a2U a q.length=0->q.length=a.links.length:=by
  unfold a2U;intro h;split at h
  ·rename_i h1;exact absurd h h1
  ·split at h
   ·cases h
   ·rename_i h1;have:=Classical.not_not.1 h1;omega
 generalize a2U a q.length=e at *;obtain ⟨hqn,hqb⟩:=hq;obtain ⟨name,⟨x,y,half,t⟩,links⟩:=a;obtain ⟨b0,⟨b1,b2,b3⟩,hn,hb⟩:=hl;simp only at b0 b1 b2 b3 hn hb hlen;simp only [j4,TT,II,OA,OB,OC,MM,LL,VV,FF,MG,LG,FG];simp only [Am.c,Am.enc,lks,sb,ints,rts] at *;(repeat first|refine uA ?_|(apply uK;· first|omega|(intros;simp_all<;>omega))|simp (disch:=omega) only [go_sem,Nat.reduceBEq,Nat.reduceAdd,c8r]|(refine uD h ?_ ?_ ?_;exact tz hw;rfl));refine S.cond rfl (fun hc=>?_) (fun hc=>?_)
 ·rw [if_pos (by simpa using hc)];(repeat first|refine uA ?_|(apply uK;· first|omega|(intros;simp_all<;>omega))|simp (disch:=omega) only [go_sem,Nat.reduceBEq]);exact uS rfl rfl
 rw [if_neg (by simpa using hc)];have hlen:=hlen (by simpa using hc);(repeat first|refine uA ?_|(apply uK;· first|omega|(intros;simp_all<;>omega))|simp (disch:=omega) only [go_sem,Nat.reduceBEq,Nat.reduceAdd,c8r]);refine S.loop (X:=Nat) (fun i=>⟨[(1,rts q),(16,lks links),(17,ints links.length),(18,ints i)],[]⟩) (fun i=>i<=links.length/\G5 a5P (links.zip q)=G5 a5P ((links.zip q).drop i)) (fun i=>links.length-i) 0 ⟨c8w _,rfl⟩ (by repeat first|refine uA ?_|(refine ⟨?_,?_⟩;· first|rfl|simp [slot])|rfl|simp) ?_;rintro i ⟨hi,hg⟩;simp only [rts,lks,ints];(repeat first|refine uA ?_|(apply uK;· first|omega|(intros;simp_all<;>omega))|simp (disch:=omega) only [go_sem,Nat.reduceBEq])
 (refine uJ rfl (fun hc=>?_) fun hc=>?_)
 ·have hi':i < links.length:=by omega
  have hgi:=c8q hi';have hgq:=c8q (show i < q.length by omega);generalize links[i]=x at hgi;generalize q[i]'_=v at hgq;have hz:=J5 hgi hgq;have hst:=a1a (f:=a5P) hz;have hnx:=a0U (f:=a5P) hz;have bx:=hb x (c8t hgi);have bv:=(hqb v (c8t hgq)).mono (m:=17179869184) (by decide);have h1:=F6 v x.low bv (bx.2.1.m rfl);have h2:=F6 v x.high bv (bx.2.2.1.m rfl);unfold a5P at hst hnx;simp only at hst hnx;generalize Nm.l8 (Nm.d9 v) (Nm.d9 x.low)=n1 at *;generalize Nm.l8 (Nm.d9 v) (Nm.d9 x.high)=n2 at *;have hqi:(i:Int) < q.length:=by omega
  simp only [rc,sb,ints] at h1 h2;(repeat first|refine uA ?_|(apply uK;· first|omega|(intros;simp_all<;>omega))|simp (disch:=omega) only [go_sem,Nat.reduceBEq,Nat.reduceAdd,hgi,hgq,c8s,c8r,Lk.enc,rcs,vts,sb,c8u]|(refine uD h1 ?_ ?_ ?_;exact tz hw;rfl)|(refine uD h2 ?_ ?_ ?_;exact tz hw;rfl));refine S.cond rfl (fun hc2=>?_) (fun hc2=>?_)
  ·have hp:n1 < 0 \/ 0 < n2:=by simpa using hc2
   rw [if_pos hp] at hst;rw [hg,show a5P=fun x:Lk × Nm.Rt=>if Nm.l8 (Nm.d9 x.2) (Nm.d9 x.1.low) < 0 \/ 0 < Nm.l8 (Nm.d9 x.2) (Nm.d9 x.1.high) then 17 else 0 from rfl,hst (by decide)];(repeat first|refine uA ?_|(apply uK;· first|omega|(intros;simp_all<;>omega))|simp (disch:=omega) only [go_sem]);exact uS rfl rfl
  ·have hp:¬ (n1 < 0 \/ 0 < n2):=by simpa using hc2
   rw [if_neg hp] at hnx;(repeat first|refine uA ?_|(apply uK;· first|omega|(intros;simp_all<;>omega))|simp (disch:=omega) only [go_sem,Nat.reduceBEq,ww]);refine S.next (i+1) ⟨by omega,?_⟩ (by omega) (by repeat first|refine uA ?_|(refine ⟨?_,?_⟩;· first|rfl|simp [slot])|rfl|simp);rw [hg,show a5P=fun x:Lk × Nm.Rt=>if Nm.l8 (Nm.d9 x.2) (Nm.d9 x.1.low) < 0 \/ 0 < Nm.l8 (Nm.d9 x.2) (Nm.d9 x.1.high) then 17 else 0 from rfl,hnx rfl]
 ·rw [hg,a1x (by rw [List.length_zip];omega)];(repeat first|refine uA ?_|(apply uK;· first|omega|(intros;simp_all<;>omega))|simp (disch:=omega) only [go_sem]);exact uS rfl rfl
set_option maxRecDepth 100000
set_option maxHeartbeats 4000000
theorem a2j {a:Nm.Rt} (h:j5 a=true):Rb 3 a:=by
 unfold j5 at h;simp only [c8F,c8D] at h;exact ⟨h.1.1.1.1,by have:=h.1.1.1.2;omega⟩
theorem U5 {a:Nm.Rt} (h:j5 a=true):Rb 1048576 a:=(a2j h).m rfl
theorem a8c {α:Type} {f:α->Int}:∀ {l:List α},G5 f l=0->∀ x ∈ l,f x=0
 | [],_,x,hx=>by cases hx
 | y::l,h,x,hx=>by
  rw [G5] at h;split at h
  ·rename_i h0;rcases List.mem_cons.1 hx with rfl|hx
   ·exact h0
   ·exact a8c h x hx
  ·rename_i h0;exact absurd h h0
theorem b8i {l:List Vt} (h:J8 l 8=0):l.length<=8:=by
 unfold J8 at h;split at h
 ·cases h
 ·omega
theorem a4E {l:Lk} (h:R4 l=0):Lb 1048576 l/\Nm.l8 (Nm.d9 l.low) (Nm.d9 l.high) < 0/\0 < q8 (Nm.d9 l.speed):=by
 unfold R4 at h;split at h
 ·cases h
 rename_i h1;split at h
 ·cases h
 rename_i h2;split at h
 ·rename_i h3;exact absurd h h3
 rename_i h3;split at h
 ·rename_i h4;have h1a:(j5 l.length && j5 l.low && j5 l.high && j5 l.speed && j5 l.brake)=true:=by
   cases hb:(j5 l.length && j5 l.low && j5 l.high && j5 l.speed && j5 l.brake) with
   | true=>rfl
   | false=>exact absurd (.inl hb) h1
  simp only [c8F] at h1a;obtain ⟨⟨⟨⟨s1,s2⟩,s3⟩,s4⟩,s5⟩:=h1a;have hpe:=b8i (Classical.not_not.1 h3);rw [List.all_eq_true] at h4;refine ⟨⟨U5 s1,U5 s2,U5 s3,U5 s4,U5 s5,by omega,fun v hv=>?_⟩,?_,?_⟩
  ·have:=h4 v hv;simp only [c8F] at this;exact ⟨U5 this.1,U5 this.2⟩
  ·have:¬ 0<=Nm.l8 (Nm.d9 l.low) (Nm.d9 l.high):=fun h=>h1 (.inr (.inr h));omega
  ·have:¬ q8 (Nm.d9 l.speed)<=0:=fun h=>h2 (.inl h);omega
 ·cases h
theorem M7 {a:Am} (h:H9 a=0):Ab 1048576 a/\∀ l ∈ a.links,R4 l=0:=by
 unfold H9 at h;split at h
 ·cases h
 rename_i h1;split at h
 ·cases h
 split at h
 ·cases h
 rename_i h2 h3;have hn:a.name.length<=12:=by
  have:a1h a.name=true:=by simpa using h1
  unfold a1h at this;simp only [c8F,c8D] at this;exact this.2
 have h3a:(j5 a.base.x && j5 a.base.y && j5 a.base.t)=true:=by
  cases hb:(j5 a.base.x && j5 a.base.y && j5 a.base.t) with
  | true=>rfl
  | false=>exact absurd (.inr (.inl hb)) h3
 simp only [c8F] at h3a;have hl:=a8c h;exact ⟨⟨by omega,⟨U5 h3a.1.1,U5 h3a.1.2,U5 h3a.2⟩,by omega,fun l hl'=>(a4E (hl l hl')).1⟩,hl⟩
theorem b6w {f:Fr} (h:okF f=true):Fb 1048576 f/\a0L f=true:=by
 unfold okF okV at h;simp only [c8F,c8D] at h;obtain ⟨⟨⟨⟨⟨⟨g1,g2⟩,s1⟩,s2⟩,g3⟩,s3⟩,z⟩:=h;refine ⟨⟨U5 s1,U5 s2,U5 s3⟩,?_⟩;unfold a0L C8;simp [g1,g2,g3,z]
theorem Fb.mono {k m:Nat} {f:Fr} (h:Fb k f) (hm:k<=m):Fb m f:=⟨h.1.mono hm,h.2.1.mono hm,h.2.2.mono hm⟩
theorem Fb.m {k m:Nat} {f:Fr} (h:Fb k f) (e:Nat.ble k m=true):Fb m f:=h.mono (c8G e)
theorem Vbs.mono {k m:Nat} {l:List Vt} (h:Vbs k l) (hm:k<=m):Vbs m l:=⟨c8y h.1 hm,fun v hv=>⟨(h.2 v hv).1.mono hm,(h.2 v hv).2.mono hm⟩⟩
theorem Vbs.m {k m:Nat} {l:List Vt} (h:Vbs k l) (e:Nat.ble k m=true):Vbs m l:=h.mono (c8G e)
theorem Ab.mono {k m:Nat} {a:Am} (h:Ab k a) (hm:k<=m):Ab m a:=⟨c8y h.1 hm,h.2.1.mono hm,c8y h.2.2.1 hm,fun l hl=>by
 obtain ⟨h1,h2,h3,h4,h5,h6⟩:=h.2.2.2 l hl;exact ⟨h1.mono hm,h2.mono hm,h3.mono hm,h4.mono hm,h5.mono hm,h6.mono hm⟩⟩
theorem Ab.m {k m:Nat} {a:Am} (h:Ab k a) (e:Nat.ble k m=true):Ab m a:=h.mono (c8G e)
theorem Wb.mono {k m:Nat} {w:Wk} (h:Wb k w) (hm:k<=m):Wb m w:=
 ⟨⟨c8y h.arms.1 hm,fun x hx=>(h.arms.2 x hx).mono hm⟩,⟨c8y h.walls.1 hm,fun x hx=>(h.walls.2 x hx).mono hm⟩,⟨c8y h.parts.1 hm,fun x hx=>⟨c8y (h.parts.2 x hx).1 hm,(h.parts.2 x hx).2.1.mono hm,(h.parts.2 x hx).2.2.mono hm⟩⟩,
  ⟨c8y h.slots.1 hm,fun x hx=>⟨c8y (h.slots.2 x hx).1 hm,(h.slots.2 x hx).2.1.mono hm,(h.slots.2 x hx).2.2.mono hm⟩⟩,⟨c8y h.gates.1 hm,fun x hx=>⟨c8y (h.gates.2 x hx).1 hm,⟨(h.gates.2 x hx).2.1.1.mono hm,(h.gates.2 x hx).2.1.2.mono hm⟩,(h.gates.2 x hx).2.2.1.mono hm,(h.gates.2 x hx).2.2.2.mono hm⟩⟩,h.walk.mono hm⟩
theorem Wb.m {k m:Nat} {w:Wk} (h:Wb k w) (e:Nat.ble k m=true):Wb m w:=h.mono (c8G e)
theorem Stb.mono {k m:Nat} {s:Stt} (h:Stb k s) (hm:k<=m):Stb m s:=
 ⟨⟨c8y h.arms.1 hm,fun x hx=>⟨⟨c8y (h.arms.2 x hx).1.1 hm,fun r hr=>((h.arms.2 x hx).1.2 r hr).mono hm⟩,c8y (h.arms.2 x hx).2.1 hm,fun r hr=>((h.arms.2 x hx).2.2 r hr).mono hm⟩⟩,⟨c8y h.parts.1 hm,fun x hx=>(h.parts.2 x hx).mono hm⟩,h.people.mono hm,c8y h.gates hm⟩
theorem Stb.m {k m:Nat} {s:Stt} (h:Stb k s) (e:Nat.ble k m=true):Stb m s:=h.mono (c8G e)
theorem a8w {α β:Type} {f:α->β}:∀ {l:List α} {x:α × β},x ∈ l.zip (l.map f)->x.1 ∈ l/\x.2=f x.1
 | [],x,h=>by simp at h
 | a::l,x,h=>by
  simp only [c8K,List.zip_cons_cons] at h;rcases List.mem_cons.1 h with rfl|h
  ·exact ⟨List.mem_cons_self ..,rfl⟩
  ·exact ⟨List.mem_cons_of_mem _ (a8w h).1,(a8w h).2⟩
theorem Y6 (p q:Rat):Nm.l8 p q < 0 <-> p < q:=by
 unfold Nm.l8;split
 ·simp_all
 ·split
  ·simp_all
  ·simp_all
theorem V8 (p q:Rat):0 < Nm.l8 p q <-> q < p:=by
 unfold Nm.l8;split
 ·rename_i h;simp;grind
 ·split
  ·rename_i h1 h2;simp;grind
  ·rename_i h1 h2;simp;grind
theorem b8d {l:Lk} (h:R4 l=0):a5P (l,a1k l)=0:=by
 have hc:=(Y6 _ _).1 (a4E h).2.1;unfold a5P a1k;simp only [Nm.l6];rw [if_neg];rw [Y6,V8];unfold D8 u6;have e1:∀ p q:Rat,(Nm.l8 p q >= 0) <-> ¬ p < q:=fun p q=>by rw [<- Y6];omega
 have e2:∀ p q:Rat,(Nm.l8 p q<=0) <-> ¬ q < p:=fun p q=>by rw [<- V8];omega
 simp only [e1,e2]
 repeat' split
 all_goals grind
theorem b5E {l:Lk} (h:R4 l=0):Z9 (l,Nm.ofQ 0)=0:=by
 have hs:=(a4E h).2.2;unfold Z9;simp only [Nm.l6];rw [if_neg];have h0:q9 0=0:=rfl;rw [h0,V8];have hn:0 < (Nm.d9 l.speed).num:=by
  unfold q8 at hs;split at hs
  ·omega
  ·split at hs<;>omega
 intro hlt;have:=(Rat.lt_iff _ _).1 hlt;simp at this;omega
theorem b8z {a:Am} (h:H9 a=0) (n:Nat):a1Y a (a1m a) n=0:=by
 have hl:=(M7 h).2;unfold a1Y a1m;simp only;have g1:(a.links.map a1k).all C8=true:=by
  rw [List.all_eq_true];intro x hx;obtain ⟨l,_,rfl⟩:=List.mem_map.1 hx;exact decide_eq_true (Nm.a6v _)
 have g2:(a.links.map fun _=>Nm.ofQ 0).all C8=true:=by
  rw [List.all_eq_true];intro x hx;obtain ⟨l,_,rfl⟩:=List.mem_map.1 hx;exact decide_eq_true (Nm.a6v _)
 have hf:a2s a (a.links.map a1k)=0:=by
  rw [b3d];have:a2U a (a.links.map a1k).length=0:=by
   unfold a2U;rw [h,if_neg (by decide),c8r,if_neg (by simp)]
  rw [this,if_neg (by decide)];refine a7f fun x hx=>?_;obtain ⟨h1,h2⟩:=a8w hx;obtain ⟨x1,x2⟩:=x;simp only at h1 h2;rw [h2];exact b8d (hl x1 h1)
 rw [g1,g2,if_neg (by decide),hf,if_neg (by decide),if_neg (by simp;omega)];refine a7f fun x hx=>?_;obtain ⟨h1,h2⟩:=a8w hx;obtain ⟨x1,x2⟩:=x;simp only at h1 h2;rw [h2];exact b5E (hl x1 h1)
theorem a8O (n:Nat):∀ (l:List Am) (h:List Int),(∀ a ∈ l,H9 a=0)->(A9 (a0c n) h (l.zip (l.map a1m))).1=0
 | [],_,_=>rfl
 | a::l,h,ha=>by
  have e:a0c n h (a,a1m a)=(0,a3k h (-1)):=by
   unfold a0c;simp only;rw [b8z (ha a (by simp)) n,if_neg (by decide),if_neg (by simp [a1m])];rfl
  simp only [c8K,List.zip_cons_cons,A9,e];exact a8O n l _ fun x hx=>ha x (by simp [hx])
theorem c0O {w:Wk} (h:Q9 w=0) (ha:∀ a ∈ w.arms,H9 a=0) (hs:∀ s ∈ w.slots,okF s.frame=true):J3 w (R5 w)=0:=by
 unfold J3;have l1:(R5 w).arms.length=w.arms.length:=by simp [R5]
 have l2:(R5 w).parts.length=w.parts.length:=by simp [R5]
 have l3:(R5 w).gates.length=w.gates.length:=by simp [R5]
 have l4:(R5 w).people=[]:=rfl;have l5:(R5 w).tick=0:=rfl;have hh:(A9 (a0c w.parts.length) [] (w.arms.zip (R5 w).arms)).1=0:=a8O _ w.arms [] ha;have hp:(R5 w).parts.all a0L=true:=by
  rw [List.all_eq_true];intro f hf;obtain ⟨i,_,rfl⟩:=List.mem_map.1 hf;unfold a7H;split
  ·exact (b6w (hs _ (c8L _))).2
  ·unfold a5G a0L C8 a3w;simp [Nm.a6v]
 rw [h,if_neg (by decide),l4,if_neg (by decide),l1,l2,l3,l5,if_neg (by simp),hh,if_neg (by decide),hp];rfl
theorem a5o:Rb 1048576 (Nm.ofQ 0):=⟨c8y (Nm.H6 (k:=8) (by decide)) (by decide),c8y (Nm.H6 (k:=8) (by decide)) (by decide)⟩
theorem c1s {k:Nat} (hk:1048576<=k) {w:Wk} (hw:Wb k w) (ha:∀ a ∈ w.arms,H9 a=0) (hs:∀ s ∈ w.slots,okF s.frame=true):Stb k (R5 w):=by
 refine ⟨⟨?_,fun x hx=>?_⟩,⟨?_,fun x hx=>?_⟩,⟨c8w _,fun v hv=>by cases hv⟩,?_⟩
 ·show (w.arms.map a1m).length<=_;rw [c8r];exact hw.arms.1
 ·obtain ⟨a,haa,rfl⟩:=List.mem_map.1 hx;have hab:=hw.arms.2 a haa;refine ⟨⟨?_,fun r hr=>?_⟩,?_,fun r hr=>?_⟩
  ·show (a.links.map a1k).length<=_;rw [c8r];exact hab.2.2.1
  ·obtain ⟨l,hl,rfl⟩:=List.mem_map.1 hr;have hlb:=hab.2.2.2 l hl;unfold a1k D8 u6
   repeat' split
   all_goals first|exact hlb.2.1.fit (by omega)|exact hlb.2.2.1.fit (by omega)|exact a5o.mono hk
  ·show (a.links.map fun _=>Nm.ofQ 0).length<=_;rw [c8r];exact hab.2.2.1
  ·obtain ⟨l,hl,rfl⟩:=List.mem_map.1 hr;exact a5o.mono hk
 ·show ((List.range _).map _).length<=_;simp;exact hw.parts.1
 ·obtain ⟨i,_,rfl⟩:=List.mem_map.1 hx;unfold a7H;split
  ·exact (b6w (hs _ (c8L _))).1.mono hk
  ·exact ⟨a5o.mono hk,a5o.mono hk,a5o.mono hk⟩
 ·show (List.replicate _ _).length<=_;rw [List.length_replicate];exact hw.gates.1
def a1R (a b:Nm.Rt):Nm.Rt:=Nm.ofQ (Nm.d9 a+Nm.d9 b)
def a3j (b v:Nm.Rt):Nm.Rt:=if Nm.l8 (q9 (Nm.d9 v)) (Nm.d9 b)<=0 then Nm.ofQ 0 else if q8 (Nm.d9 v) < 0 then a1R v b else Nm.ofQ (Nm.d9 v-Nm.d9 b)
def c6x (a:Am) (x:Ast):List Nm.Rt:=(a.links.zip x.v).map fun p=>a3j p.1.brake p.2
def c8l (a:Am) (x:Ast):List Nm.Rt:=(x.q.zip (c6x a x)).map fun p=>a1R p.1 p.2
def c7G (a:Am) (x:Ast):Ast:=⟨c8l a x,c6x a x,false,x.holds⟩
def mvQ (x:Ast) (u:List Nm.Rt):List Nm.Rt:=(x.q.zip u).map fun p=>a1R p.1 p.2
def mvA (x:Ast) (u:List Nm.Rt):Ast:=⟨mvQ x u,u,true,x.holds⟩
def a5X (x:Lk × Nm.Rt × Nm.Rt):Bool:=!(decide (0 < Nm.l8 (q9 (Nm.d9 x.2.2)) (Nm.d9 x.1.speed)) || decide (0 < Nm.l8 (Nm.d9 x.1.low) (Nm.d9 x.2.1+Nm.d9 x.2.2)) || decide (0 < Nm.l8 (Nm.d9 x.2.1+Nm.d9 x.2.2) (Nm.d9 x.1.high)))
def a5e (a:Am) (q u:List Nm.Rt):Bool:=decide (u.length=a.links.length) && (u.all C8 && (a.links.zip (q.zip u)).all a5X)
def c7K (a:Am) (x:Ast) (u:List Nm.Rt) (p:Bool):Ast:=if p && a5e a x.q u then mvA x u else c7G a x
def b7X (a b:Fr):Fr:=⟨Nm.ofQ (c5n a ⟨b.x,b.y⟩),Nm.ofQ (c5I a ⟨b.x,b.y⟩),(c3f a.half (K7 a.half a.t) b.half (K7 b.half b.t)).1,Nm.ofQ (c3f a.half (K7 a.half a.t) b.half (K7 b.half b.t)).2⟩
def c5j (q:Nm.Rt):Fr:=⟨Nm.ofQ 0,Nm.ofQ 0,false,Nm.ofQ (Nm.d9 q)⟩
def c7y (l:Lk):Fr:=⟨l.length,Nm.ofQ 0,false,Nm.ofQ 0⟩
def c5O:Fr->List (Lk × Nm.Rt)->Fr
 | e,[]=>e
 | e,(l,q)::r=>c5O (b7X (b7X e (c5j q)) (c7y l)) r
def c7d (f:Fr):Fr:=⟨Nm.ofQ (Nm.d9 (Nm.ofQ (0-Nm.d9 f.x))*a2e f.half (K7 f.half (Nm.ofQ (- K7 f.half f.t)))-Nm.d9 (Nm.ofQ (0-Nm.d9 f.y))*Y3 (K7 f.half (Nm.ofQ (- K7 f.half f.t)))),Nm.ofQ (Nm.d9 (Nm.ofQ (0-Nm.d9 f.x))*Y3 (K7 f.half (Nm.ofQ (- K7 f.half f.t)))+Nm.d9 (Nm.ofQ (0-Nm.d9 f.y))*a2e f.half (K7 f.half (Nm.ofQ (- K7 f.half f.t)))),f.half,Nm.ofQ (- K7 f.half f.t)⟩
def c6W (a:Am) (q:List Nm.Rt) (g:Fr):Fr:=b7X (c5O a.base (a.links.zip q)) (c7d g)
def c5X (w:Wk) (s:Stt) (u:List (List Nm.Rt)) (p:List Bool):List Ast:=((w.arms.zip s.arms).zip (u.zip p)).map fun z=>c7K z.1.1 z.1.2 z.2.1 z.2.2
def c7H (w:Wk) (P:List Fr) (z:Am × Ast):List Fr:=
 if z.2.holds < 0 then P else match w.parts[z.2.holds.toNat]? with
  | some pt=>P.set z.2.holds.toNat (c6W z.1 z.2.q pt.grasp)
  | none=>P
def c6L (k:Nm.Rt) (v:Vt):Bool:=a1C v && !decide (0 < Nm.l8 (D8 (q9 (Nm.d9 v.x)) (q9 (Nm.d9 v.y))) (Nm.d9 k))
def c7O (p:Vt × Vt):Vt:=⟨a1R p.1.x p.2.x,a1R p.1.y p.2.y⟩
def c6I (w:Wk) (s:Stt) (u:List (List Nm.Rt)) (p:List Bool) (v:List Vt):Int:=
 if J3 w s ≠ 0 then J3 w s else
 if u.length ≠ w.arms.length \/ p.length ≠ w.arms.length \/ v.length ≠ s.people.length then 1 else
 if v.all (c6L w.walk)=false then 1 else
 if s.tick=2000 then 7 else 0
def c6M (w:Wk) (s:Stt) (u:List (List Nm.Rt)) (p:List Bool) (v:List Vt):Stt:=
 ⟨s.tick+1,c5X w s u p,(w.arms.zip (c5X w s u p)).foldl (c7H w) s.parts,(s.people.zip v).map c7O,s.gates⟩
theorem b4p {n:Nat}:∀ {l:List (Am × Ast)} {h:List Int},(A9 (a0c n) h l).1=0->∀ z ∈ l,a1Y z.1 z.2 n=0
 | [],_,_,z,hz=>by cases hz
 | y::l,h,e,z,hz=>by
  have hy:(a0c n h y).1=0:=by
   unfold A9 at e;split at e
   ·assumption
   ·exact e
  unfold A9 at e;rw [if_pos hy] at e;rcases List.mem_cons.1 hz with rfl|hz
  ·unfold a0c at hy;split at hy
   ·exact hy
   ·exact Classical.not_not.1 (by assumption)
  ·exact b4p e z hz
theorem b0M {w:Wk} (h:Q9 w=0):∀ a ∈ w.arms,H9 a=0:=by
 have h1:G5 id (a4g w)=0:=by
  unfold Q9 at h;split at h
  ·cases h
  ·split at h
   ·cases h
   ·split at h
    ·rename_i h2;exact absurd h h2
    ·exact Classical.not_not.1 (by assumption)
 have h2:(A9 a0w [] w.arms).1=0:=by
  unfold a4g at h1;simp only [G5,id] at h1;split at h1
  ·assumption
  ·exact h1
 have key:∀ (l:List Am) (n:Nms),(A9 a0w n l).1=0->∀ a ∈ l,H9 a=0:=by
  intro l
  induction l with
  | nil=>intro n _ a ha;cases ha
  | cons x l ih=>
   intro n hn a ha;have hx:(a0w n x).1=0:=by
    unfold A9 at hn;split at hn
    ·assumption
    ·exact hn
   unfold A9 at hn;rw [if_pos hx] at hn;rcases List.mem_cons.1 ha with rfl|ha
   ·unfold a0w at hx;split at hx
    ·exact hx
    ·exact Classical.not_not.1 (by assumption)
   ·exact ih _ hn a ha
 exact key _ _ h2
structure c7F (w:Wk) (s:Stt):Prop where
 works:Q9 w=0
 people:s.people.length<=4
 tick:0<=s.tick/\s.tick<=2000
 arms:s.arms.length=w.arms.length
 parts:s.parts.length=w.parts.length
 gates:s.gates.length=w.gates.length
 one:∀ z ∈ w.arms.zip s.arms,a1Y z.1 z.2 w.parts.length=0
 big:1<=w.arms.length/\w.arms.length<=4/\w.parts.length<=6/\w.gates.length<=4
theorem a7i {w:Wk} {s:Stt} (h:J3 w s=0):c7F w s:=by
 unfold J3 at h;split at h
 ·rename_i h1;exact absurd h h1
 rename_i h1;split at h
 ·cases h
 split at h
 ·cases h
 split at h
 ·rename_i h2;exact absurd h h2
 rename_i h2 h3 h4;have h1:=Classical.not_not.1 h1;have hb:=h1;unfold Q9 at hb;split at hb
 ·cases hb
 split at hb
 ·cases hb
 exact ⟨h1,by omega,by omega,by omega,by omega,by omega,b4p (Classical.not_not.1 h4),by omega⟩
structure c7A (a:Am) (x:Ast) (n:Nat):Prop where
 arm:H9 a=0
 q:x.q.length=a.links.length
 v:x.v.length=a.links.length
 holds:-1<=x.holds/\x.holds < n
theorem c6r {a:Am} {x:Ast} {n:Nat} (h:a1Y a x n=0):c7A a x n:=by
 unfold a1Y at h;split at h
 ·cases h
 split at h
 ·rename_i h1;exact absurd h h1
 rename_i h1;split at h
 ·cases h
 have h2:=Classical.not_not.1 h1;unfold a2s at h2;split at h2
 ·rename_i h3;exact absurd h2 h3
 rename_i h3;split at h2
 ·cases h2
 exact ⟨Classical.not_not.1 h3,by omega,by omega,by omega⟩
theorem K4 {a:Am} (h:H9 a=0):1<=a.links.length/\a.links.length<=3:=by
 unfold H9 at h;split at h
 ·cases h
 split at h
 ·cases h
 split at h
 ·cases h
 ·omega
theorem b3t {a:Am} {n:Int} (h:H9 a=0) (hn:n=a.links.length):a2U a n=0:=by
 unfold a2U;rw [if_neg (by simp [h]),if_neg (by simp [hn])]
theorem a4G {l:Lk} (h:R4 l=0):0 < q8 (Nm.d9 l.brake):=by
 unfold R4 at h;split at h
 ·cases h
 split at h
 ·cases h
 ·omega
theorem a2i (q:Rat):(q8 q=-1/\q < 0) \/ (q8 q=0/\q=0) \/ (q8 q=1/\0 < q):=by
 have h1:=@Rat.num_nonneg q;have h2:=@Rat.num_eq_zero q;unfold q8;by_cases h0:q.num=0
 ·right;left;exact ⟨if_pos h0,h2.1 h0⟩
 rw [if_neg h0];by_cases hn:q.num < 0
 ·left;refine ⟨if_pos hn,?_⟩;rw [<- Rat.not_le,<- h1];omega
 ·right;right;refine ⟨if_neg hn,?_⟩;have h5:0<=q:=h1.1 (by omega);have h6:q ≠ 0:=fun e=>h0 (h2.2 e);grind
theorem c3K {α:Type} {l m:List α} {i:Nat} {y:α} (hl:l.length=m.length) (hy:l[i]?=some y):(l.take i++m.drop i).set i y=l.take (i+1)++m.drop (i+1):=by
 obtain ⟨hi,rfl⟩:=c8v.1 hy;have h1:(l.take i).length=i:=by rw [c8E];omega
 rw [List.set_append_right _ _ (by omega),h1,Nat.sub_self,List.drop_eq_getElem_cons (show i < m.length by omega),List.set_cons_zero,c9k hi,c9j];rfl
theorem c3B {α:Type} {l m:List α} {i:Nat} (hl:l.length=m.length) (hi:i<=m.length):(l.take i++m.drop i).length=m.length:=by
 simp only [c8A,c8E,c9g];omega
set_option maxRecDepth 10000
set_option maxHeartbeats 8000000
theorem b9k (v:Vt) (hv:Vb 17179869184 v):FZ 180 [v.c] (.v (.bool (!okV v))):=by
 refine kW Tryz.func180 (by cbv) (by rfl) fun w O hw=>?_;obtain ⟨x,y⟩:=v;obtain ⟨b1,b2⟩:=hv;simp only at b1 b2;have h1:=a0p x (b1.m rfl);have h2:=a0p y (b2.m rfl);have h3:=a3M x b1;have h4:=a3M y b2;unfold okV;simp only;generalize decide x.F7=q1 at *;generalize decide y.F7=q2 at *;generalize j5 x=q3 at *;generalize j5 y=q4 at *;simp only [j4,TT,OA,OC,MM,LL,FF,LG,FG];simp only [Vt.c,Vt.enc,rc,sb] at *;(repeat first|refine uA ?_|(apply uK;· first|omega|(intros;simp_all<;>omega))|simp (disch:=omega) only [go_sem,Nat.reduceBEq,Nat.reduceAdd]|(apply uD h1;exact tz hw;rfl)|(apply uD h2;exact tz hw;rfl)|(apply uD h3;exact tz hw;rfl)|(apply uD h4;exact tz hw;rfl))
 have e:(!(q1 && q2 && q3 && q4))=(!q1 || !q2 || !q3 || !q4):=by cases q1<;>cases q2<;>cases q3<;>cases q4<;>rfl
 (try rw [e])
 exact uS rfl rfl
theorem a9s (l:List Vt) (hl:Vbs 17179869184 l):FZ 149 [vts l] (.v (.bool (l.all okV))):=by
 refine kW Tryz.func149 (by cbv) (by rfl) fun w O hw=>?_;have h:=b4I 180 (by kernel_rfl) (fun v=>!okV v) l (by have:=hl.1;omega) (fun v hv=>b9k v (hl.2 v hv));have e:l.all okV=!l.any fun v=>!okV v:=by rw [List.not_any_eq_all_not];simp
 rw [e];generalize (l.any fun v=>!okV v)=q at *;simp only [j4,TT,OA,MM];simp only [vts] at *;(repeat first|refine uA ?_|(apply uK;· omega)|simp (disch:=omega) only [go_sem,Nat.reduceBEq]|(apply uD h;exact tz hw;rfl));exact uS rfl rfl
theorem Vbs.one {k:Nat} {v:Vt} (h:1<=k) (h1:Vb k v):Vbs k [v]:=⟨h,fun x hx=>by simp at hx;subst hx;exact h1⟩
theorem Vbs.two {k:Nat} {v u:Vt} (h:2<=k) (h1:Vb k v) (h2:Vb k u):Vbs k [v,u]:=⟨h,fun x hx=>by simp at hx;rcases hx with rfl|rfl<;>assumption⟩
theorem b4f (f:Fr) (hf:Fb 17179869184 f):FZ 150 [f.c] (.v (.bool (okF f))):=by
 refine kW Tryz.func150 (by cbv) (by rfl) fun w O hw=>?_;obtain ⟨x,y,half,t⟩:=f;obtain ⟨b1,b2,b3⟩:=hf;simp only at b1 b2 b3;have h1:=a9s [⟨x,y⟩] (Vbs.one (by decide) ⟨b1,b2⟩);rw [List.all_cons,List.all_nil,Bool.and_true] at h1;have h2:=a0p t (b3.m rfl);have h3:=a3M t b3;have h4:=M8 t b3;unfold okF a3w;simp only;generalize okV ⟨x,y⟩=q1 at *;generalize decide t.F7=q2 at *;generalize j5 t=q3 at *;generalize q8 (Nm.d9 t)=n at *;simp only [j4,TT,II,OA,OC,MM,LL,FF,MG,LG,VG,FG];simp only [Fr.c,Fr.enc,vts,Vt.enc,rc,sb,ints,c8K,c8O] at *
 (repeat first|refine uA ?_|(apply uK;· first|omega|(intros;simp_all<;>omega))|simp (disch:=omega) only [go_sem,Nat.reduceBEq,Nat.reduceAdd]|(apply uD h2;exact tz hw;rfl)|(apply uD h3;exact tz hw;rfl)|(apply uD h4;exact tz hw;rfl)|(apply uE h1;exact tz hw;exact rfl;focus (repeat' first|exact j3.nil|exact Imp.refl rfl|exact Imp.frz rfl rfl rfl|(refine Imp.K5 rfl rfl ?_ ?_;(focus ((try simp only [c8A]);omega));(focus first|rfl|assumption))|refine j3.cons ?_ ?_);done));have e:(q1 && q2 && q3 && !(half && !decide (n=0)))=(q1 && q2 && q3 && (!half || decide (n=0))):=by cases q1<;>cases q2<;>cases q3<;>cases half<;>simp
 rw [e];exact uQ rfl (Imp.refl (by rfl)) rfl rfl
theorem b3l (l:List Vt) (hl:Vbs 1073741824 l):FZ 84 [vts l] (ints (P9 l)):=by
 refine kW Tryz.func84 (by cbv) (by rfl) fun w O hw=>?_;have h1:=a5W l hl;have h2:=a9s l ⟨by have:=hl.1;omega,fun v hv=>(hl.2 v hv).m rfl⟩;unfold P9;generalize J8 l 8=e at *;generalize l.all okV=q at *;simp only [j4,TT,II,OA,MM];simp only [vts,ints] at *;(repeat first|refine uA ?_|(apply uK;· omega)|simp (disch:=omega) only [go_sem,Nat.reduceBEq]|(apply uD h1;exact tz hw;rfl));refine S.cond rfl (fun hc=>?_) (fun hc=>?_)
 ·rw [if_pos (by simpa using hc)];(repeat first|refine uA ?_|(apply uK;· omega)|simp (disch:=omega) only [go_sem,Nat.reduceBEq]);exact uS rfl rfl
 rw [if_neg (by simpa using hc)];(repeat first|refine uA ?_|(apply uK;· omega)|simp (disch:=omega) only [go_sem,Nat.reduceBEq]|(apply uD h2;exact tz hw;rfl));refine S.cond rfl (fun hc=>?_) (fun hc=>?_)
 ·rw [if_neg (by simpa using hc)];(repeat first|refine uA ?_|(apply uK;· omega)|simp (disch:=omega) only [go_sem]);exact uS rfl rfl
 ·rw [if_pos (by simpa using hc)];(repeat first|refine uA ?_|(apply uK;· omega)|simp (disch:=omega) only [go_sem]);exact uS rfl rfl
end Go.Proofs.YtpnbklgbfhgknaaGreatDoor
namespace Go.Proofs.YtpnbklgbfhgknaaGreatDoor.Eng
open Go Go.RowKit
theorem l7.ofT {E:Ctx} {eff:Nat->Bool} {f:Nat} {fn:Func} {ir:a4V} (ht:Tz E) (hf:E.P.funcs[f]?=some fn) (hc:a2p eff E.P fn=some ir) {rs:List Res} {args:List C} {s:C} {rs':List Res} {pk:List Nat} (hn:args.length<=ir.ntmps)
  (h:∀ w own av ν,ν.length=rs.length->Tz ⟨E.P,eff,ir.ntmps,w,own,av,ν,pk⟩->S ⟨E.P,eff,ir.ntmps,w,own,av,ν,pk⟩ (Fin E.P ir.results (b4N ⟨E.P,eff,ir.ntmps,w,own,av,ν,pk⟩ rs' s)) ⟨j4 0 args,rs⟩ [.code ir.body]):l7 E rs f args s rs' pk:=by
 intro av ν w vs hR hav hF hD;have hR':RG av (owned rs ν) w.heap.size ν rs w:=⟨hR.len,hR.res,hR.dis,fun b hb=>⟨(hR.low b hb).1,(hR.low b hb).2.1,.inl hb⟩,hR.av,c8B _⟩
 have ht':Tz ⟨E.P,eff,ir.ntmps,w,owned rs ν,av,ν,pk⟩:=⟨ht.at hF,fun ho=>by
  rcases (hR.low _ ho).2.2 with h1|h1
  ·exact ht.2 h1
  ·have:=c2T ht.1;omega⟩
 refine (b4w (E:=⟨E.P,eff,ir.ntmps,w,owned rs ν,av,ν,pk⟩) hf hc rfl rfl hR.av rs hR' args hD hn (h w (owned rs ν) av ν hR.len ht')).mono ?_;rintro e w' ⟨y,rfl,ν',h1,h2,h3,h4⟩;refine ⟨y,ν',rfl,⟨h1.len,h1.res,h1.dis,fun b hb=>?_,h1.av,c8y hR.n0 h2.size⟩,⟨h2.os,h2.tape,h2.output,h2.size,h2.block,fun b hb=>(h1.low b hb).2.2,h3⟩,h4⟩;obtain ⟨g1,g2,g3⟩:=h1.low b hb;refine ⟨g1,g2,?_⟩;rcases g3 with g3|g3
 ·exact (hR.low b g3).2.2
 ·exact .inr (c8y hR.n0 g3)
def Res.shut:Res->Bool
 | .gone=>false
 | .box _ cs=>C.clL cs
 | .row _ _ _=>true
 | .map _ _=>true
theorem a6n {ν ν':List Value} {w:World} {O O':Nat->Prop} {x:Value} {r:Res} (hs:r.shut=true) (hO:∀ b,O' b->O b) (h:P5 ν w O x r):P5 ν' w O' x r:=by
 cases r with
 | gone=>cases hs
 | box t cs=>
  obtain ⟨b,vs,h1,h2,h3,h4⟩:=h;exact ⟨b,vs,h1,(FzL.keep (Keeps.sub hO) (h2.fz hs)).den ν',h3,h4⟩
 | row e sz es=>exact a6k hO h
 | map s es=>exact h
theorem c4O {r r':Res} (hs:r.shut=true) (hs':r'.shut=true) {x:Value} {b:Nat} (h:fp r' x b):fp r x b:=by
 cases r<;>cases r'<;>first|exact False.elim h|exact h|(simp [Res.shut] at hs;done)|(simp [Res.shut] at hs';done)
def at0 (k:Nat):C->C
 | .mp 0=>.mp k
 | .bp 0 o=>.bp k o
 | .rv 0=>.rv k
 | .bnd f (.mp 0)=>.bnd f (.mp k)
 | c=>c
def okA:C->Bool
 | .mp 0=>true
 | .bp 0 _=>true
 | .rv 0=>true
 | .bnd _ (.mp 0)=>true
 | c=>c.cl
theorem c3V {ν:List Value} {w:World} {O O':Nat->Prop} {k:Nat} {x:Value} (hk:ν[k]?=some x) (hO:∀ b,O' b->O b) {c:C} {y:Value} (hc:okA c=true) (h:Den ν w O (at0 k c) y):Den [x] w O' c y:=by
 unfold okA at hc;split at hc
 ·simp only [at0,Den] at h ⊢;rw [hk] at h;exact h
 ·simp only [at0,Den] at h ⊢;rw [hk] at h;exact h
 ·simp only [at0,Den] at h ⊢;rw [hk] at h;exact h
 ·simp only [at0,Den] at h ⊢;rw [hk] at h;exact h
 ·rename_i c0 h1 h2 h3 h4;have e:at0 k c=c:=by
   cases c with
   | mp j=>cases j with
    | zero=>exact (h1 rfl).elim
    | succ j=>rfl
   | bp j o=>cases j with
    | zero=>exact (h2 _ rfl).elim
    | succ j=>rfl
   | rv j=>cases j with
    | zero=>exact (h3 rfl).elim
    | succ j=>rfl
   | bnd g d=>cases d with
    | mp j=>cases j with
     | zero=>exact (h4 _ rfl).elim
     | succ j=>rfl
    | _=>rfl
   | _=>rfl
  rw [e] at h;exact (Fz.keep (Keeps.sub hO) (h.fz hc)).den _
theorem b3b {ν:List Value} {w:World} {O O':Nat->Prop} {k:Nat} {x:Value} (hk:ν[k]?=some x) (hO:∀ b,O' b->O b):∀ {cs:List C} {vs:List Value},cs.all okA=true->j6 ν w O (cs.map (at0 k)) vs->j6 [x] w O' cs vs
 | [],vs,_,h=>by simpa only [c8O,j6] using h
 | c::cs,vs,hc,h=>by
  simp only [c8K,j6,List.all_cons,c8F] at h hc ⊢;obtain ⟨y,ys,e,h1,h2⟩:=h;exact ⟨y,ys,e,c3V hk hO hc.1 h1,b3b hk hO hc.2 h2⟩
theorem l7.lift {E:Ctx} {rs:List Res} {k f:Nat} {args:List C} {s:C} {r r':Res} (hk:rs[k]?=some r) (h:l7 E [r] f args s [r'] []) (hs:(r.shut && r'.shut)=true) (ha:args.all okA=true) (hc:s.cl=true):l7 E rs f (args.map (at0 k)) s (rs.set k r') []:=by
 rw [c8F] at hs;intro av ν w vs hR hav hF hD;obtain ⟨x,hx,hok⟩:=hR.res k r hk;have hown:∀ b,fp r x b->owned rs ν b:=fun b hb=>⟨k,r,x,hk,hx,hb⟩
 have ho1:∀ (q:Res) b,owned [q] [x] b <-> fp q x b:=fun q b=>by
  constructor
  ·rintro ⟨l,q',y,h1,h2,h3⟩;cases l with
   | zero=>simp at h1 h2;subst h1 h2;exact h3
   | succ l=>simp at h1
  ·exact fun hb=>⟨0,q,x,rfl,rfl,hb⟩
 let av':Nat->Prop:=fun b=>OO av rs ν b/\¬ fp r x b
 have hOO:∀ b,OO av' [r] [x] b->OO av rs ν b:=fun b hb=>by
  rcases hb with hb|hb
  ·exact hb.1
  ·exact .inr (hown b ((ho1 r b).1 hb))
 have hRG:RG av' E.own0 E.w0.heap.size [x] [r] w:=by
  refine ⟨rfl,fun l q hq=>?_,fun l m q q' y y' b hne h1 h2=>?_,fun b hb=>?_,fun b hb=>?_,hR.n0⟩
  ·cases l with
   | zero=>simp at hq;subst hq;exact ⟨x,rfl,a6n hs.1 hOO hok⟩
   | succ l=>simp at hq
  ·have e1:l=0:=by have:=(c8v.1 h1).1;simp at this;exact this
   have e2:m=0:=by have:=(c8v.1 h2).1;simp at this;exact this
   omega
  ·have hb':=(ho1 r b).1 hb;obtain ⟨g1,g2,g3⟩:=hR.low b (hown b hb');exact ⟨g1,fun h=>h.2 hb',g3⟩
  ·rcases hb.1 with h1|h1
   ·exact hR.av b h1
   ·exact (hR.low b h1).1
 have hav':∀ b,E.av b->av' b:=fun b hb=>⟨.inl (hav b hb),fun hf=>(hR.low b (hown b hf)).2.1 (hav b hb)⟩
 have hD':j6 [x] w (OO av' [r] [x]) args vs:=b3b hx hOO ha hD;refine (h av' [x] w vs hRG hav' hF hD').mono ?_;rintro e w' ⟨y,ν',rfl,h1,h2,h3⟩;have hν:ν'=[x]:=by
  have hl:=h1.len;have h0:=h2.nu 0 x (fun hm=>by cases hm) rfl
  match ν',hl,h0 with
  | [z],_,h0=>simp at h0;rw [h0]
 subst hν;have hT:Turned w w' (fp r x):=⟨h2.os,h2.tape,h2.output,h2.size,fun b hb hn=>h2.block b hb fun ho=>hn ((ho1 r b).1 ho)⟩
 have hOO':∀ b,OO av (rs.set k r') ν b->OO av' [r'] [x] b:=fun b hb=>by
  rcases hb with hb|⟨l,q,z,hq,hz,hf⟩
  ·exact .inl ⟨.inl hb,fun hf=>(hR.low b (hown b hf)).2.1 hb⟩
  ·by_cases e:k=l
   ·subst e;have hkl:=(c8v.1 hk).1;rw [List.getElem?_set_self hkl] at hq;rw [hx] at hz;cases hq;cases hz;exact .inr ((ho1 r' b).2 hf)
   ·rw [List.getElem?_set_ne e] at hq;exact .inl ⟨.inr ⟨l,q,z,hq,hz,hf⟩,fun hf'=>hR.dis k l r q x z b e hk hq hx hz hf' hf⟩
 have hup:=hR.upd (r':=r') hk hx hT (fun b hb=>c4O hs.1 hs.2 hb) (fun _=>by
  obtain ⟨x',hx',hok'⟩:=h1.res 0 r' rfl;simp at hx';subst hx';exact a6n hs.2 hOO' hok')
 exact ⟨y,ν,rfl,hup.1,hup.2,(Fz.keep (Keeps.sub hOO') (h3.fz hc)).den ν⟩
end Go.Proofs.YtpnbklgbfhgknaaGreatDoor.Eng
namespace Go.Proofs.YtpnbklgbfhgknaaGreatDoor
open Go Go.RowKit Eng
set_option maxRecDepth 10000
set_option maxHeartbeats 8000000
theorem c6R (n:Nms) (s:List UInt8):(a1T (.string (bs s)) (nmE n)).getD (.bool false)=.bool (n.contains s):=by
 rw [c3O];cases n.contains s<;>rfl
theorem b2H {E:Ctx} (hP:E.P=Tryz.prog) (n:Nms) (s:List UInt8) (hs:s.length<=1099511627776) :
  l7 E [.map true (nmE n)] 81 [.mp 0,sb s] (ints (N7 n s).1) [.map true (nmE (N7 n s).2)] []:=by
 obtain ⟨P,eff',N,w0,own0,av0,nu0,pk0⟩:=E;simp only at hP;subst hP;refine l7.of (eff:=eff) Tryz.func81 (by cbv) (by exact c8G rfl) fun w own av ν hν=>?_;have hν0:ν.length<=1:=by rw [hν];exact c8B _
 have h1:=c3Y s hs;have hk:=c6R n s;have hp:=c5E n s;unfold N7;generalize a1h s=q at *;generalize n.contains s=c at *;simp only [j4,TT,II,OA,OB,MM];simp only [sb,ints] at *;(repeat first|refine uA ?_|(apply uK;· first|omega|(intros;simp_all<;>omega))|simp (disch:=omega) only [go_sem,Nat.reduceBEq,Nat.reduceAdd]|(refine uB h1 ?_ ?_;rfl));refine S.cond rfl (fun hc=>?_) (fun hc=>?_)
 ·rw [if_pos (by simpa using hc)];(repeat first|refine uA ?_|(apply uK;· first|omega|(intros;simp_all<;>omega))|simp (disch:=omega) only [go_sem]);(refine S.done ?_;simp only [D6,go_sem,Nat.reduceBEq];(repeat (refine ⟨?_,?_⟩;· first|trivial|omega|simp));exact p8.P6 (Imp.refl rfl) (by repeat first|refine uA ?_|(refine ⟨?_,?_⟩;· first|rfl|simp [slot])|rfl|simp) (c8y hν0 (by simp)))
 rw [if_neg (by simpa using hc)];(repeat first|refine uA ?_|(apply uK;· first|omega|(intros;simp_all<;>omega))|simp (disch:=omega) only [go_sem,Nat.reduceBEq,hk]);refine S.cond rfl (fun hc=>?_) (fun hc=>?_)
 ·rw [if_pos hc];(repeat first|refine uA ?_|(apply uK;· first|omega|(intros;simp_all<;>omega))|simp (disch:=omega) only [go_sem]);(refine S.done ?_;simp only [D6,go_sem,Nat.reduceBEq];(repeat (refine ⟨?_,?_⟩;· first|trivial|omega|simp));exact p8.P6 (Imp.refl rfl) (by repeat first|refine uA ?_|(refine ⟨?_,?_⟩;· first|rfl|simp [slot])|rfl|simp) (c8y hν0 (by simp)))
 ·rw [if_neg (by rw [hc];decide)];have hp:=hp hc;(repeat first|refine uA ?_|(apply uK;· first|omega|(intros;simp_all<;>omega))|simp (disch:=omega) only [go_sem,Nat.reduceBEq,hp]);(refine S.done ?_;simp only [D6,go_sem,Nat.reduceBEq];(repeat (refine ⟨?_,?_⟩;· first|trivial|omega|simp));exact p8.P6 (Imp.refl rfl) (by repeat first|refine uA ?_|(refine ⟨?_,?_⟩;· first|rfl|simp [slot])|rfl|simp) (c8y hν0 (by simp)))
theorem c6v {E:Ctx} (hP:E.P=Tryz.prog) (ht0:Tz E) (n:Nms) (p:Pt) (hb:Pb 1073741824 p) :
  l7 E [.map true (nmE n)] 86 [.mp 0,p.c] (ints (a0t n p).1) [.map true (nmE (a0t n p).2)] []:=by
 obtain ⟨P,eff',N,w0,own0,av0,nu0,pk0⟩:=E;simp only at hP;subst hP;refine l7.ofT (eff:=eff) ht0 Tryz.func86 (by cbv) (by exact c8G rfl) fun w own av ν hν ht=>?_;have hν0:ν.length<=1:=by rw [hν];exact c8B _
 obtain ⟨name,shape,⟨x,y,half,t⟩⟩:=p;obtain ⟨b0,b1,b2,b3,b4⟩:=hb;simp only at b0 b1 b2 b3 b4;have h1:=fun (E:Ctx) (hP:E.P=Tryz.prog)=>b2H hP n name (by omega);have h2:=b3l shape b1;have h3:=b4f ⟨x,y,half,t⟩ ⟨b2.m rfl,b3.m rfl,b4.m rfl⟩;unfold a0t;simp only;generalize N7 n name=r at *;obtain ⟨e1,m⟩:=r;generalize P9 shape=e2 at *;generalize okF ⟨x,y,half,t⟩=q at *;simp only [j4,TT,II,OA,MM,LL,VV,FF];simp only [Pt.c,Pt.enc,Fr.c,Fr.enc,vts,sb,ints] at *;(repeat first|refine uA ?_|(apply uK;· first|omega|(intros;simp_all<;>omega))|simp (disch:=omega) only [go_sem,Nat.reduceBEq,Nat.reduceAdd]|refine l9.t (l7.lift (k:=0) rfl (h1 _ rfl) rfl rfl rfl) ?_);refine S.cond rfl (fun hc=>?_) (fun hc=>?_)
 ·rw [if_pos (by simpa using hc)];(repeat first|refine uA ?_|(apply uK;· first|omega|(intros;simp_all<;>omega))|simp (disch:=omega) only [go_sem,Nat.reduceBEq]);(refine S.done ?_;simp only [D6,go_sem,Nat.reduceBEq];(repeat (refine ⟨?_,?_⟩;· first|trivial|omega|simp));exact p8.P6 (Imp.refl rfl) (by repeat first|refine uA ?_|(refine ⟨?_,?_⟩;· first|rfl|simp [slot])|rfl|simp) (c8y hν0 (by simp)))
 rw [if_neg (by simpa using hc)];(repeat first|refine uA ?_|(apply uK;· first|omega|(intros;simp_all<;>omega))|simp (disch:=omega) only [go_sem,Nat.reduceBEq,Nat.reduceAdd]|(refine uD h2 ?_ ?_ ?_;exact ht;exact rfl));refine S.cond rfl (fun hc=>?_) (fun hc=>?_)
 ·rw [if_pos (by simpa using hc)];(repeat first|refine uA ?_|(apply uK;· first|omega|(intros;simp_all<;>omega))|simp (disch:=omega) only [go_sem,Nat.reduceBEq]);(refine S.done ?_;simp only [D6,go_sem,Nat.reduceBEq];(repeat (refine ⟨?_,?_⟩;· first|trivial|omega|simp));exact p8.P6 (Imp.refl rfl) (by repeat first|refine uA ?_|(refine ⟨?_,?_⟩;· first|rfl|simp [slot])|rfl|simp) (c8y hν0 (by simp)))
 rw [if_neg (by simpa using hc)];(repeat first|refine uA ?_|(apply uK;· first|omega|(intros;simp_all<;>omega))|simp (disch:=omega) only [go_sem,Nat.reduceBEq,Nat.reduceAdd]|(refine uD h3 ?_ ?_ ?_;exact ht;exact rfl));refine S.cond rfl (fun hc=>?_) (fun hc=>?_)
 ·rw [if_neg (by simpa using hc)];(repeat first|refine uA ?_|(apply uK;· first|omega|(intros;simp_all<;>omega))|simp (disch:=omega) only [go_sem]);(refine S.done ?_;simp only [D6,go_sem,Nat.reduceBEq];(repeat (refine ⟨?_,?_⟩;· first|trivial|omega|simp));exact p8.P6 (Imp.refl rfl) (by repeat first|refine uA ?_|(refine ⟨?_,?_⟩;· first|rfl|simp [slot])|rfl|simp) (c8y hν0 (by simp)))
 ·rw [if_pos (by simpa using hc)];(repeat first|refine uA ?_|(apply uK;· first|omega|(intros;simp_all<;>omega))|simp (disch:=omega) only [go_sem]);(refine S.done ?_;simp only [D6,go_sem,Nat.reduceBEq];(repeat (refine ⟨?_,?_⟩;· first|trivial|omega|simp));exact p8.P6 (Imp.refl rfl) (by repeat first|refine uA ?_|(refine ⟨?_,?_⟩;· first|rfl|simp [slot])|rfl|simp) (c8y hν0 (by simp)))
theorem c5r {E:Ctx} (hP:E.P=Tryz.prog) (ht0:Tz E) (n:Nms) (s:Sl) (hb:Sb 1073741824 s) :
  l7 E [.map true (nmE n)] 88 [.mp 0,s.c] (ints (a0v n s).1) [.map true (nmE (a0v n s).2)] []:=by
 obtain ⟨P,eff',N,w0,own0,av0,nu0,pk0⟩:=E;simp only at hP;subst hP;refine l7.ofT (eff:=eff) ht0 Tryz.func88 (by cbv) (by exact c8G rfl) fun w own av ν hν ht=>?_;have hν0:ν.length<=1:=by rw [hν];exact c8B _
 obtain ⟨name,⟨x,y,half,t⟩,within⟩:=s;obtain ⟨b0,⟨b2,b3,b4⟩,b5⟩:=hb;simp only at b0 b2 b3 b4 b5;have h1:=fun (E:Ctx) (hP:E.P=Tryz.prog)=>b2H hP n name (by omega);have h3:=b4f ⟨x,y,half,t⟩ ⟨b2.m rfl,b3.m rfl,b4.m rfl⟩;have h4:=a0p within (b5.m rfl);have h5:=a3M within (b5.m rfl);have h6:=M8 within (b5.m rfl);unfold a0v;simp only;generalize N7 n name=r at *;obtain ⟨e1,m⟩:=r;generalize okF ⟨x,y,half,t⟩=q1 at *;generalize decide within.F7=q2 at *;generalize j5 within=q3 at *;generalize q8 (Nm.d9 within)=n4 at *;simp only [j4,TT,II,OA,OC,MM,LL,VV,FF,LG,FG];simp only [Sl.c,Sl.enc,Fr.c,Fr.enc,rc,sb,ints] at *
 (repeat first|refine uA ?_|(apply uK;· first|omega|(intros;simp_all<;>omega))|simp (disch:=omega) only [go_sem,Nat.reduceBEq,Nat.reduceAdd]|refine l9.t (l7.lift (k:=0) rfl (h1 _ rfl) rfl rfl rfl) ?_);refine S.cond rfl (fun hc=>?_) (fun hc=>?_)
 ·rw [if_pos (by simpa using hc)];(repeat first|refine uA ?_|(apply uK;· first|omega|(intros;simp_all<;>omega))|simp (disch:=omega) only [go_sem,Nat.reduceBEq]);(refine S.done ?_;simp only [D6,go_sem,Nat.reduceBEq];(repeat (refine ⟨?_,?_⟩;· first|trivial|omega|simp));exact p8.P6 (Imp.refl rfl) (by repeat first|refine uA ?_|(refine ⟨?_,?_⟩;· first|rfl|simp [slot])|rfl|simp) (c8y hν0 (by simp)))
 rw [if_neg (by simpa using hc)];(repeat first|refine uA ?_|(apply uK;· first|omega|(intros;simp_all<;>omega))|simp (disch:=omega) only [go_sem,Nat.reduceBEq,Nat.reduceAdd]|(refine uD h3 ?_ ?_ ?_;exact ht;exact rfl)|(refine uD h4 ?_ ?_ ?_;exact ht;exact rfl)|(refine uD h5 ?_ ?_ ?_;exact ht;exact rfl)|(refine uD h6 ?_ ?_ ?_;exact ht;exact rfl));refine S.cond rfl (fun hc=>?_) (fun hc=>?_)
 ·rw [if_neg (by simp only [c9f,Bool.not_eq_true',c8D] at hc;simp only [c8F,c8D];rintro ⟨⟨⟨h7,h8⟩,h9⟩,h10⟩;rcases hc with ((hc|hc)|hc)|hc<;>first|(rw [hc] at h7;cases h7;done)|(rw [hc] at h8;cases h8;done)|(rw [hc] at h9;cases h9;done)|omega)];(repeat first|refine uA ?_|(apply uK;· first|omega|(intros;simp_all<;>omega))|simp (disch:=omega) only [go_sem]);(refine S.done ?_;simp only [D6,go_sem,Nat.reduceBEq];(repeat (refine ⟨?_,?_⟩;· first|trivial|omega|simp));exact p8.P6 (Imp.refl rfl) (by repeat first|refine uA ?_|(refine ⟨?_,?_⟩;· first|rfl|simp [slot])|rfl|simp) (c8y hν0 (by simp)))
 ·rw [if_pos (by simp only [c8S,Bool.not_eq_false',c8I] at hc;simp only [c8F,c8D];obtain ⟨⟨⟨h7,h8⟩,h9⟩,h10⟩:=hc;exact ⟨⟨⟨h7,h8⟩,h9⟩,by omega⟩)];(repeat first|refine uA ?_|(apply uK;· first|omega|(intros;simp_all<;>omega))|simp (disch:=omega) only [go_sem]);(refine S.done ?_;simp only [D6,go_sem,Nat.reduceBEq];(repeat (refine ⟨?_,?_⟩;· first|trivial|omega|simp));exact p8.P6 (Imp.refl rfl) (by repeat first|refine uA ?_|(refine ⟨?_,?_⟩;· first|rfl|simp [slot])|rfl|simp) (c8y hν0 (by simp)))
theorem c5g {E:Ctx} (hP:E.P=Tryz.prog) (ht0:Tz E) (n:Nms) (g:Gt) (hb:Gb 1073741824 g) :
  l7 E [.map true (nmE n)] 90 [.mp 0,g.c] (ints (Y0 n g).1) [.map true (nmE (Y0 n g).2)] []:=by
 obtain ⟨P,eff',N,w0,own0,av0,nu0,pk0⟩:=E;simp only at hP;subst hP;refine l7.ofT (eff:=eff) ht0 Tryz.func90 (by cbv) (by exact c8G rfl) fun w own av ν hν ht=>?_;have hν0:ν.length<=1:=by rw [hν];exact c8B _
 obtain ⟨name,⟨lx,ly⟩,⟨hx,hy⟩⟩:=g;obtain ⟨b0,⟨b1,b2⟩,⟨b3,b4⟩⟩:=hb;simp only at b0 b1 b2 b3 b4;have h1:=fun (E:Ctx) (hP:E.P=Tryz.prog)=>b2H hP n name (by omega);have h3:=a9s [⟨lx,ly⟩,⟨hx,hy⟩] (Vbs.two (by decide) ⟨b1.m rfl,b2.m rfl⟩ ⟨b3.m rfl,b4.m rfl⟩);rw [a6o] at h3;have h4:=F6 lx hx (b1.m rfl) (b3.m rfl);have h5:=F6 ly hy (b2.m rfl) (b4.m rfl);unfold Y0;simp only;generalize N7 n name=r at *;obtain ⟨e1,m⟩:=r;generalize (okV ⟨lx,ly⟩ && okV ⟨hx,hy⟩)=q1 at *;generalize Nm.l8 (Nm.d9 lx) (Nm.d9 hx)=n1 at *;generalize Nm.l8 (Nm.d9 ly) (Nm.d9 hy)=n2 at *;simp only [j4,TT,II,OA,OC,MM,LL,VV,FF,LG,FG];simp only [Gt.c,Gt.enc,vts,Vt.enc,rc,sb,ints,c8K,c8O] at *
 (repeat first|refine uA ?_|(apply uK;· first|omega|(intros;simp_all<;>omega))|simp (disch:=omega) only [go_sem,Nat.reduceBEq,Nat.reduceAdd]|refine l9.t (l7.lift (k:=0) rfl (h1 _ rfl) rfl rfl rfl) ?_);refine S.cond rfl (fun hc=>?_) (fun hc=>?_)
 ·rw [if_pos (by simpa using hc)];(repeat first|refine uA ?_|(apply uK;· first|omega|(intros;simp_all<;>omega))|simp (disch:=omega) only [go_sem,Nat.reduceBEq]);(refine S.done ?_;simp only [D6,go_sem,Nat.reduceBEq];(repeat (refine ⟨?_,?_⟩;· first|trivial|omega|simp));exact p8.P6 (Imp.refl rfl) (by repeat first|refine uA ?_|(refine ⟨?_,?_⟩;· first|rfl|simp [slot])|rfl|simp) (c8y hν0 (by simp)))
 rw [if_neg (by simpa using hc)];(repeat first|refine uA ?_|(apply uK;· first|omega|(intros;simp_all<;>omega))|simp (disch:=omega) only [go_sem,Nat.reduceBEq,Nat.reduceAdd]|(refine uD h4 ?_ ?_ ?_;exact ht;exact rfl)|(refine uD h5 ?_ ?_ ?_;exact ht;exact rfl)|(refine uE h3 ?_ ?_ ?_ ?_;exact ht;exact rfl;focus (repeat' first|exact j3.nil|exact Imp.refl rfl|exact Imp.frz rfl rfl rfl|(refine Imp.K5 rfl rfl ?_ ?_;(focus ((try simp only [c8A]);omega));(focus first|rfl|assumption))|refine j3.cons ?_ ?_);done));refine S.cond rfl (fun hc=>?_) (fun hc=>?_)
 ·rw [if_neg (by simp only [c9f,Bool.not_eq_true',c8D] at hc;simp only [c8F,c8D];rintro ⟨⟨h7,h8⟩,h9⟩;rcases hc with (hc|hc)|hc<;>first|(rw [hc] at h7;cases h7;done)|omega)];(repeat first|refine uA ?_|(apply uK;· first|omega|(intros;simp_all<;>omega))|simp (disch:=omega) only [go_sem]);(refine S.done ?_;simp only [D6,go_sem,Nat.reduceBEq];(repeat (refine ⟨?_,?_⟩;· first|trivial|omega|simp));exact p8.P6 (Imp.refl rfl) (by repeat first|refine uA ?_|(refine ⟨?_,?_⟩;· first|rfl|simp [slot])|rfl|simp) (c8y hν0 (by simp)))
 ·rw [if_pos (by simp only [c8S,Bool.not_eq_false',c8I] at hc;simp only [c8F,c8D];obtain ⟨⟨h7,h8⟩,h9⟩:=hc;exact ⟨⟨h7,by omega⟩,by omega⟩)];(repeat first|refine uA ?_|(apply uK;· first|omega|(intros;simp_all<;>omega))|simp (disch:=omega) only [go_sem]);(refine S.done ?_;simp only [D6,go_sem,Nat.reduceBEq];(repeat (refine ⟨?_,?_⟩;· first|trivial|omega|simp));exact p8.P6 (Imp.refl rfl) (by repeat first|refine uA ?_|(refine ⟨?_,?_⟩;· first|rfl|simp [slot])|rfl|simp) (c8y hν0 (by simp)))
theorem b7O {E:Ctx} (hP:E.P=Tryz.prog) (ht0:Tz E) (n:Nms) (l:List Pt) (hn:l.length<=1073741824) (hb:∀ x ∈ l,Pb 1073741824 x) :
  l7 E [.map true (nmE n)] 85 [pts l,.bnd 86 (.mp 0)] (ints (A9 a0t n l).1) [.map true (nmE (A9 a0t n l).2)] []:=by
 obtain ⟨P,eff',N,w0,own0,av0,nu0,pk0⟩:=E;simp only at hP;subst hP;refine l7.ofT (eff:=eff) ht0 Tryz.func85 (by cbv) (by exact c8G rfl) fun w own av ν hν ht=>?_;have hν0:ν.length<=1:=by rw [hν];exact c8B _
 simp only [j4,TT,II,OA,OB,MM,LL,pts,ints];(repeat first|refine uA ?_|(apply uK;· omega)|simp (disch:=omega) only [go_sem,Nat.reduceBEq,c8r]);refine S.loop (X:=Nat × Nms) (fun x=>⟨[(1,.bnd 86 (.mp 0)),(8,pts l),(9,ints l.length),(10,ints x.1)],[.map true (nmE x.2)]⟩) (fun x=>x.1<=l.length/\A9 a0t n l=A9 a0t x.2 (l.drop x.1)) (fun x=>l.length-x.1) (0,n) ⟨c8w _,rfl⟩ (by repeat first|refine uA ?_|(refine ⟨?_,?_⟩;· first|rfl|trivial|(simp [slot];done))|rfl|trivial|simp|exact c8y hν0 (by simp)) ?_;rintro ⟨i,m⟩ ⟨hi,hg⟩;simp only [pts,ints] at hi hg ⊢;(repeat first|refine uA ?_|(apply uK;· omega)|simp (disch:=omega) only [go_sem,Nat.reduceBEq]);(refine uJ rfl (fun hc=>?_) fun hc=>?_)
 ·have hi':i < l.length:=by omega
  have hgi:=c8q hi';generalize l[i]=x at hgi;have hst:=X6 (f:=a0t) (s:=m) hgi;have hnx:=X8 (f:=a0t) (s:=m) hgi;have hs:=fun (E:Ctx) (hP:E.P=Tryz.prog) (ht:Tz E)=>c6v hP ht m x (hb x (c8t hgi));generalize a0t m x=r at *;obtain ⟨e,m'⟩:=r;simp only [Pt.c,Pt.enc,vts,sb,ints] at hs hst hnx;(repeat first|refine uA ?_|(apply uK;· first|omega|trivial|(intros;simp_all<;>omega))|simp (disch:=omega) only [go_sem,Nat.reduceBEq,Nat.reduceAdd,Nat.reduceLeDiff,hgi,c8s,c8r,Pt.enc,vts,sb]|refine l9.t (l7.lift (k:=0) rfl (hs _ rfl ht) rfl rfl rfl) ?_);refine S.cond rfl (fun hc2=>?_) (fun hc2=>?_)
  ·rw [hg,hst (by simpa using hc2)];(repeat first|refine uA ?_|(apply uK;· omega)|simp (disch:=omega) only [go_sem,Nat.reduceBEq]);(refine S.done ?_;simp only [D6,go_sem,Nat.reduceBEq];exact p8.P6 (Imp.refl rfl) (by repeat first|refine uA ?_|rfl|simp [slot]) (c8y hν0 (by simp)))
  ·have hc3:e=0:=by simpa using hc2
   (repeat first|refine uA ?_|(apply uK;· omega)|simp (disch:=omega) only [go_sem,Nat.reduceBEq,ww]);refine S.next (x:=(i,m)) (i+1,m') ⟨by simp only;omega,by simp only;rw [hg,hnx hc3]⟩ (by simp only;omega) (by repeat first|refine uA ?_|(refine ⟨?_,?_⟩;· first|rfl|trivial|(simp [slot];done))|rfl|trivial|simp|exact c8y hν0 (by simp))
 ·rw [hg,a0i (by omega)];(repeat first|refine uA ?_|(apply uK;· omega)|simp (disch:=omega) only [go_sem]);(refine S.done ?_;simp only [D6,go_sem,Nat.reduceBEq];exact p8.P6 (Imp.refl rfl) (by repeat first|refine uA ?_|rfl|simp [slot]) (c8y hν0 (by simp)))
theorem b7M {E:Ctx} (hP:E.P=Tryz.prog) (ht0:Tz E) (n:Nms) (l:List Sl) (hn:l.length<=1073741824) (hb:∀ x ∈ l,Sb 1073741824 x) :
  l7 E [.map true (nmE n)] 87 [sls l,.bnd 88 (.mp 0)] (ints (A9 a0v n l).1) [.map true (nmE (A9 a0v n l).2)] []:=by
 obtain ⟨P,eff',N,w0,own0,av0,nu0,pk0⟩:=E;simp only at hP;subst hP;refine l7.ofT (eff:=eff) ht0 Tryz.func87 (by cbv) (by exact c8G rfl) fun w own av ν hν ht=>?_;have hν0:ν.length<=1:=by rw [hν];exact c8B _
 simp only [j4,TT,II,OA,OB,MM,LL,sls,ints];(repeat first|refine uA ?_|(apply uK;· omega)|simp (disch:=omega) only [go_sem,Nat.reduceBEq,c8r]);refine S.loop (X:=Nat × Nms) (fun x=>⟨[(1,.bnd 88 (.mp 0)),(8,sls l),(9,ints l.length),(10,ints x.1)],[.map true (nmE x.2)]⟩) (fun x=>x.1<=l.length/\A9 a0v n l=A9 a0v x.2 (l.drop x.1)) (fun x=>l.length-x.1) (0,n) ⟨c8w _,rfl⟩ (by repeat first|refine uA ?_|(refine ⟨?_,?_⟩;· first|rfl|trivial|(simp [slot];done))|rfl|trivial|simp|exact c8y hν0 (by simp)) ?_;rintro ⟨i,m⟩ ⟨hi,hg⟩;simp only [sls,ints] at hi hg ⊢;(repeat first|refine uA ?_|(apply uK;· omega)|simp (disch:=omega) only [go_sem,Nat.reduceBEq]);(refine uJ rfl (fun hc=>?_) fun hc=>?_)
 ·have hi':i < l.length:=by omega
  have hgi:=c8q hi';generalize l[i]=x at hgi;have hst:=X6 (f:=a0v) (s:=m) hgi;have hnx:=X8 (f:=a0v) (s:=m) hgi;have hs:=fun (E:Ctx) (hP:E.P=Tryz.prog) (ht:Tz E)=>c5r hP ht m x (hb x (c8t hgi));generalize a0v m x=r at *;obtain ⟨e,m'⟩:=r;simp only [Sl.c,Sl.enc,sb,ints] at hs hst hnx;(repeat first|refine uA ?_|(apply uK;· first|omega|trivial|(intros;simp_all<;>omega))|simp (disch:=omega) only [go_sem,Nat.reduceBEq,Nat.reduceAdd,Nat.reduceLeDiff,hgi,c8s,c8r,Sl.enc,sb]|refine l9.t (l7.lift (k:=0) rfl (hs _ rfl ht) rfl rfl rfl) ?_);refine S.cond rfl (fun hc2=>?_) (fun hc2=>?_)
  ·rw [hg,hst (by simpa using hc2)];(repeat first|refine uA ?_|(apply uK;· omega)|simp (disch:=omega) only [go_sem,Nat.reduceBEq]);(refine S.done ?_;simp only [D6,go_sem,Nat.reduceBEq];exact p8.P6 (Imp.refl rfl) (by repeat first|refine uA ?_|rfl|simp [slot]) (c8y hν0 (by simp)))
  ·have hc3:e=0:=by simpa using hc2
   (repeat first|refine uA ?_|(apply uK;· omega)|simp (disch:=omega) only [go_sem,Nat.reduceBEq,ww]);refine S.next (x:=(i,m)) (i+1,m') ⟨by simp only;omega,by simp only;rw [hg,hnx hc3]⟩ (by simp only;omega) (by repeat first|refine uA ?_|(refine ⟨?_,?_⟩;· first|rfl|trivial|(simp [slot];done))|rfl|trivial|simp|exact c8y hν0 (by simp))
 ·rw [hg,a0i (by omega)];(repeat first|refine uA ?_|(apply uK;· omega)|simp (disch:=omega) only [go_sem]);(refine S.done ?_;simp only [D6,go_sem,Nat.reduceBEq];exact p8.P6 (Imp.refl rfl) (by repeat first|refine uA ?_|rfl|simp [slot]) (c8y hν0 (by simp)))
theorem b7R {E:Ctx} (hP:E.P=Tryz.prog) (ht0:Tz E) (n:Nms) (l:List Gt) (hn:l.length<=1073741824) (hb:∀ x ∈ l,Gb 1073741824 x) :
  l7 E [.map true (nmE n)] 89 [gts l,.bnd 90 (.mp 0)] (ints (A9 Y0 n l).1) [.map true (nmE (A9 Y0 n l).2)] []:=by
 obtain ⟨P,eff',N,w0,own0,av0,nu0,pk0⟩:=E;simp only at hP;subst hP;refine l7.ofT (eff:=eff) ht0 Tryz.func89 (by cbv) (by exact c8G rfl) fun w own av ν hν ht=>?_;have hν0:ν.length<=1:=by rw [hν];exact c8B _
 simp only [j4,TT,II,OA,OB,MM,LL,gts,ints];(repeat first|refine uA ?_|(apply uK;· omega)|simp (disch:=omega) only [go_sem,Nat.reduceBEq,c8r]);refine S.loop (X:=Nat × Nms) (fun x=>⟨[(1,.bnd 90 (.mp 0)),(8,gts l),(9,ints l.length),(10,ints x.1)],[.map true (nmE x.2)]⟩) (fun x=>x.1<=l.length/\A9 Y0 n l=A9 Y0 x.2 (l.drop x.1)) (fun x=>l.length-x.1) (0,n) ⟨c8w _,rfl⟩ (by repeat first|refine uA ?_|(refine ⟨?_,?_⟩;· first|rfl|trivial|(simp [slot];done))|rfl|trivial|simp|exact c8y hν0 (by simp)) ?_;rintro ⟨i,m⟩ ⟨hi,hg⟩;simp only [gts,ints] at hi hg ⊢;(repeat first|refine uA ?_|(apply uK;· omega)|simp (disch:=omega) only [go_sem,Nat.reduceBEq]);(refine uJ rfl (fun hc=>?_) fun hc=>?_)
 ·have hi':i < l.length:=by omega
  have hgi:=c8q hi';generalize l[i]=x at hgi;have hst:=X6 (f:=Y0) (s:=m) hgi;have hnx:=X8 (f:=Y0) (s:=m) hgi;have hs:=fun (E:Ctx) (hP:E.P=Tryz.prog) (ht:Tz E)=>c5g hP ht m x (hb x (c8t hgi));generalize Y0 m x=r at *;obtain ⟨e,m'⟩:=r;simp only [Gt.c,Gt.enc,sb,ints] at hs hst hnx;(repeat first|refine uA ?_|(apply uK;· first|omega|trivial|(intros;simp_all<;>omega))|simp (disch:=omega) only [go_sem,Nat.reduceBEq,Nat.reduceAdd,Nat.reduceLeDiff,hgi,c8s,c8r,Gt.enc,sb]|refine l9.t (l7.lift (k:=0) rfl (hs _ rfl ht) rfl rfl rfl) ?_);refine S.cond rfl (fun hc2=>?_) (fun hc2=>?_)
  ·rw [hg,hst (by simpa using hc2)];(repeat first|refine uA ?_|(apply uK;· omega)|simp (disch:=omega) only [go_sem,Nat.reduceBEq]);(refine S.done ?_;simp only [D6,go_sem,Nat.reduceBEq];exact p8.P6 (Imp.refl rfl) (by repeat first|refine uA ?_|rfl|simp [slot]) (c8y hν0 (by simp)))
  ·have hc3:e=0:=by simpa using hc2
   (repeat first|refine uA ?_|(apply uK;· omega)|simp (disch:=omega) only [go_sem,Nat.reduceBEq,ww]);refine S.next (x:=(i,m)) (i+1,m') ⟨by simp only;omega,by simp only;rw [hg,hnx hc3]⟩ (by simp only;omega) (by repeat first|refine uA ?_|(refine ⟨?_,?_⟩;· first|rfl|trivial|(simp [slot];done))|rfl|trivial|simp|exact c8y hν0 (by simp))
 ·rw [hg,a0i (by omega)];(repeat first|refine uA ?_|(apply uK;· omega)|simp (disch:=omega) only [go_sem]);(refine S.done ?_;simp only [D6,go_sem,Nat.reduceBEq];exact p8.P6 (Imp.refl rfl) (by repeat first|refine uA ?_|rfl|simp [slot]) (c8y hν0 (by simp)))
theorem b6S (l:List (List Vt)) (hn:l.length<=1073741824) (hb:∀ x ∈ l,Vbs 1073741824 x):FZ 83 [wls l,.v (.func (.func 84) #[] #[])] (ints (G5 P9 l)):=by
 refine kW Tryz.func83 (by cbv) (by rfl) fun w O hw=>?_;have hcal:callable Tryz.prog 84=true:=by kernel_rfl
 simp only [j4,TT,II,OA,MM,VV,wls,ints];(repeat first|refine uA ?_|(apply uK;· omega)|simp (disch:=omega) only [go_sem,Nat.reduceBEq,c8r]);refine S.loop (X:=Nat) (fun i=>⟨[(1,.v (.func (.func 84) #[] #[])),(8,wls l),(9,ints l.length),(10,ints i)],[]⟩) (fun i=>i<=l.length/\G5 P9 l=G5 P9 (l.drop i)) (fun i=>l.length-i) 0 ⟨c8w _,rfl⟩ (by repeat first|refine uA ?_|(refine ⟨?_,?_⟩;· first|rfl|trivial|(simp [slot];done))|rfl|trivial|simp) ?_;rintro i ⟨hi,hg⟩;simp only [wls,ints] at hi hg ⊢;(repeat first|refine uA ?_|(apply uK;· omega)|simp (disch:=omega) only [go_sem,Nat.reduceBEq]);(refine uJ rfl (fun hc=>?_) fun hc=>?_)
 ·have hi':i < l.length:=by omega
  have hgi:=c8q hi';generalize l[i]=x at hgi;have hst:=a1a (f:=P9) hgi;have hnx:=a0U (f:=P9) hgi;have hs:=b3l x (hb x (c8t hgi));generalize P9 x=e at *;simp only [ints] at hs;(repeat first|refine uA ?_|(apply uK;· first|omega|trivial|(intros;simp_all<;>omega))|simp (disch:=omega) only [go_sem,Nat.reduceBEq,hgi,c8s,c8r,hcal]|(refine uD hs ?_ ?_ ?_;exact tz hw;rfl));refine S.cond rfl (fun hc2=>?_) (fun hc2=>?_)
  ·rw [hg,hst (by simpa using hc2)];(repeat first|refine uA ?_|(apply uK;· omega)|simp (disch:=omega) only [go_sem,Nat.reduceBEq]);exact uS rfl rfl
  ·have hc3:e=0:=by simpa using hc2
   (repeat first|refine uA ?_|(apply uK;· omega)|simp (disch:=omega) only [go_sem,Nat.reduceBEq,ww]);refine S.next (i+1) ⟨by omega,by rw [hg,hnx hc3]⟩ (by omega) (by repeat first|refine uA ?_|(refine ⟨?_,?_⟩;· first|rfl|trivial|(simp [slot];done))|rfl|trivial|simp)
 ·rw [hg,a1x (by omega)];(repeat first|refine uA ?_|(apply uK;· omega)|simp (disch:=omega) only [go_sem]);exact uS rfl rfl
end Go.Proofs.YtpnbklgbfhgknaaGreatDoor
namespace Go.Proofs.YtpnbklgbfhgknaaGreatDoor.Eng
open Go Go.RowKit
def Res.bdr (n:Nat):Res->Bool
 | .box _ cs=>C.bdL n cs
 | _=>true
theorem b8Z {ν:List Value} {w:World} {O O':Nat->Prop} {x:Value} {r:Res} {n:Nat} (hs:r.bdr n=true) (hO:∀ b,O' b->O b) (h:P5 ν w O x r):P5 (ν.take n) w O' x r:=by
 cases r with
 | gone=>exact h
 | box t cs=>
  obtain ⟨b,vs,h1,h2,h3,h4⟩:=h;exact ⟨b,vs,h1,j6.keep (Keeps.sub hO) (j6.takeν n hs h2),h3,h4⟩
 | row e sz es=>exact a6k hO h
 | map s es=>exact h
theorem c2V {ν ν':List Value} {w:World} {O O':Nat->Prop} {x:Value} {r:Res} (hn:Y5 [] ν ν') (hO:∀ b,O' b->O b) (h:P5 ν w O x r):P5 ν' w O' x r:=by
 cases r with
 | gone=>exact h
 | box t cs=>
  obtain ⟨b,vs,h1,h2,h3,h4⟩:=h;exact ⟨b,vs,h1,j6.keep (Keeps.sub hO) (j6.nu hn (fun k hk=>by cases hk) h2),h3,h4⟩
 | row e sz es=>exact a6k hO h
 | map s es=>exact h
theorem Y5.take (ν:List Value) (n:Nat):Y5 [] (ν.take n) ν:=fun _ _ _ h=>Z5 h
theorem c7g {ν ν':List Value} (h:Y5 [] ν ν') (hl:ν'.length=ν.length):ν'=ν:=by
 apply List.ext_getElem?;intro i;rcases c8N i ν.length with h1|h1
 ·have:=h i _ (fun hk=>by cases hk) (c8q h1);rw [this,c8q h1]
 ·rw [c8W h1,c8W (by omega)]
theorem a4j {rs ext:List Res} {ν:List Value} (hl:ν.length=(rs++ext).length) (b:Nat):owned (rs++ext) ν b <-> owned rs (ν.take rs.length) b \/ ∃ k r x,ext[k]?=some r/\ν[rs.length+k]?=some x/\fp r x b:=by
 constructor
 ·rintro ⟨k,r,x,h1,h2,h3⟩;rcases c8N k rs.length with h|h
  ·rw [c8H h] at h1;exact .inl ⟨k,r,x,h1,L9 h h2,h3⟩
  ·rw [c8M h] at h1;exact .inr ⟨k-rs.length,r,x,h1,by rw [show rs.length+(k-rs.length)=k by omega];exact h2,h3⟩
 ·rintro (⟨k,r,x,h1,h2,h3⟩|⟨k,r,x,h1,h2,h3⟩)
  ·have h:=(c8v.1 h1).1;exact ⟨k,r,x,by rw [c8H h];exact h1,Z5 h2,h3⟩
  ·exact ⟨rs.length+k,r,x,by rw [c8M (by omega),show rs.length+k-rs.length=k by omega];exact h1,h2,h3⟩
theorem l7.ext {E:Ctx} {rs rs':List Res} (ex:List Res) {f:Nat} {args:List C} {s:C} (h:l7 E rs f args s rs' []) (hl:rs'.length=rs.length) (hb:rs.all (Res.bdr rs.length)=true) (ha:C.bdL rs.length args=true):l7 E (rs++ex) f args s (rs'++ex) []:=by
 intro av ν w vs hR hav hF hD;have hlen:=hR.len;have hl1:(ν.take rs.length).length=rs.length:=by rw [c8E,hlen,c8A];omega
 generalize hν1:ν.take rs.length=ν1 at hl1;have hown:=fun b=>a4j hlen b;rw [hν1] at hown;have hx:∀ b k r x,ex[k]?=some r->ν[rs.length+k]?=some x->fp r x b->¬ owned rs ν1 b:=by
  rintro b k r x h1 h2 h3 ⟨l,q,y,g1,g2,g3⟩;have hlt:=(c8v.1 g1).1;rw [<- hν1] at g2;exact hR.dis l (rs.length+k) q r y x b (by omega) (by rw [c8H hlt];exact g1) (by rw [c8M (by omega),show rs.length+k-rs.length=k by omega];exact h1) (Z5 g2) h2 g3 h3
 let av':Nat->Prop:=fun b=>OO av (rs++ex) ν b/\¬ owned rs ν1 b
 have hOO:∀ b,OO av' rs ν1 b->OO av (rs++ex) ν b:=fun b hb=>by
  rcases hb with hb|hb
  ·exact hb.1
  ·exact .inr ((hown b).2 (.inl hb))
 have hRG:RG av' E.own0 E.w0.heap.size ν1 rs w:=by
  refine ⟨hl1,fun k r hk=>?_,fun l m q q' y y' b hne h1 h2 h3 h4=>?_,fun b hb=>?_,fun b hb=>?_,hR.n0⟩
  ·have hlt:=(c8v.1 hk).1;obtain ⟨x,hx,hok⟩:=hR.res k r (by rw [c8H hlt];exact hk);refine ⟨x,by rw [<- hν1];exact L9 hlt hx,?_⟩;rw [<- hν1];rw [List.all_eq_true] at hb;exact b8Z (hb r (c8t hk)) (by rw [hν1];exact hOO) hok
  ·have g1:=(c8v.1 h1).1;have g2:=(c8v.1 h2).1;rw [<- hν1] at h3 h4;exact hR.dis l m q q' y y' b hne (by rw [c8H g1];exact h1) (by rw [c8H g2];exact h2) (Z5 h3) (Z5 h4)
  ·obtain ⟨g1,g2,g3⟩:=hR.low b ((hown b).2 (.inl hb));exact ⟨g1,fun h=>h.2 hb,g3⟩
  ·rcases hb.1 with h1|h1
   ·exact hR.av b h1
   ·exact (hR.low b h1).1
 have hnav:∀ b,av b->¬ owned rs ν1 b:=fun b hb ho=>(hR.low b ((hown b).2 (.inl ho))).2.1 hb;have hD':j6 ν1 w (OO av' rs ν1) args vs:=by
  have:=j6.keep (Keeps.sub hOO) (j6.takeν rs.length ha hD);rwa [hν1] at this
 refine (h av' ν1 w vs hRG (fun b hb=>⟨.inl (hav b hb),hnav b (hav b hb)⟩) hF hD').mono ?_;rintro e w' ⟨y,ν',rfl,h1,h2,h3⟩;have hν':ν'=ν1:=c7g h2.nu (by rw [h1.len,hl,hl1]);subst hν';have hlen':ν.length=(rs'++ex).length:=by rw [hlen,c8A,c8A,hl]
 have hν1':ν.take rs'.length=ν':=by rw [hl];exact hν1
 have hown':=fun b=>a4j hlen' b;rw [hν1',hl] at hown';have hnu:Y5 [] ν' ν:=by rw [<- hν1];exact Y5.take ν _
 have hxo:∀ b k r x,ex[k]?=some r->ν[rs.length+k]?=some x->fp r x b->owned (rs++ex) ν b:=fun b k r x g1 g2 g3=>(hown b).2 (.inr ⟨k,r,x,g1,g2,g3⟩);have hOO':∀ b,OO av (rs'++ex) ν b->OO av' rs' ν' b:=fun b hb=>by
  rcases hb with hb|hb
  ·exact .inl ⟨.inl hb,hnav b hb⟩
  ·rcases (hown' b).1 hb with hb|⟨k,r,x,g1,g2,g3⟩
   ·exact .inr hb
   ·exact .inl ⟨.inr (hxo b k r x g1 g2 g3),hx b k r x g1 g2 g3⟩
 have hM:Mv (rs++ex) ν w [] (rs'++ex) ν w':=by
  refine ⟨h2.os,h2.tape,h2.output,h2.size,fun b hb hn=>h2.block b hb fun ho=>hn ((hown b).2 (.inl ho)),fun b hb=>?_,fun _ _ _ h=>h⟩;rcases (hown' b).1 hb with hb|⟨k,r,x,g1,g2,g3⟩
  ·rcases h2.own b hb with g|g
   ·exact .inl ((hown b).2 (.inl g))
   ·exact .inr g
  ·exact .inl (hxo b k r x g1 g2 g3)
 refine ⟨y,ν,rfl,⟨hlen',fun k r hk=>?_,fun l m q q' z z' b hne g1 g2 g3 g4 g5=>?_,fun b hb=>?_,fun b hb=>c8U (hR.av b hb) h2.size,c8y hR.n0 h2.size⟩,hM,Den.keep (Keeps.sub hOO') (Den.nu hnu (fun k hk=>by cases hk) h3)⟩
 ·rcases c8N k rs'.length with hlt|hge
  ·rw [c8H hlt] at hk;obtain ⟨x,hx',hok⟩:=h1.res k r hk;exact ⟨x,hnu k x (fun hk=>by cases hk) hx',c2V hnu hOO' hok⟩
  ·have hk':(rs++ex)[k]?=some r:=by
    rw [c8M hge] at hk;rw [c8M (by omega),<- hl];exact hk
   obtain ⟨x,hx',hok⟩:=hR.res k r hk';refine ⟨x,hx',?_⟩;have:=hok.mv (O':=OO av (rs'++ex) ν) (hM.keeps (av:=av)) hM.nu (fun b hf=>h2.block b (hR.lt hk' hx' hf) (by
    rw [c8M hge] at hk;exact hx b (k-rs'.length) r x hk (by rw [show rs.length+(k-rs'.length)=k by omega];exact hx') hf))
   rwa [a3p] at this
 ·rcases c8N l rs'.length with hl1'|hl1'<;>rcases c8N m rs'.length with hm1|hm1
  ·rw [c8H hl1'] at g1;rw [c8H hm1] at g2;have e1:ν'[l]?=some z:=by rw [<- hν1'];exact L9 hl1' g3
   have e2:ν'[m]?=some z':=by rw [<- hν1'];exact L9 hm1 g4
   exact h1.dis l m q q' z z' b hne g1 g2 e1 e2 g5
  ·rw [c8H hl1'] at g1;rw [c8M hm1] at g2;have e1:ν'[l]?=some z:=by rw [<- hν1'];exact L9 hl1' g3
   have g4':ν[rs.length+(m-rs'.length)]?=some z':=by rw [show rs.length+(m-rs'.length)=m by omega];exact g4
   intro hf;rcases h2.own b ⟨l,q,z,g1,e1,g5⟩ with ho|ho
   ·exact hx b _ q' z' g2 g4' hf ho
   ·have:=(hR.low b (hxo b _ q' z' g2 g4' hf)).1;omega
  ·rw [c8M hl1'] at g1;rw [c8H hm1] at g2;have e2:ν'[m]?=some z':=by rw [<- hν1'];exact L9 hm1 g4
   have g3':ν[rs.length+(l-rs'.length)]?=some z:=by rw [show rs.length+(l-rs'.length)=l by omega];exact g3
   intro hf;rcases h2.own b ⟨m,q',z',g2,e2,hf⟩ with ho|ho
   ·exact hx b _ q z g1 g3' g5 ho
   ·have:=(hR.low b (hxo b _ q z g1 g3' g5)).1;omega
  ·rw [c8M hl1'] at g1;rw [c8M hm1] at g2;exact hR.dis l m q q' z z' b hne (by rw [c8M (by omega),<- hl];exact g1) (by rw [c8M (by omega),<- hl];exact g2) g3 g4 g5
 ·rcases (hown' b).1 hb with hb|⟨k,r,x,g1,g2,g3⟩
  ·obtain ⟨a1,a2,a3⟩:=h1.low b hb;exact ⟨a1,fun ha=>a2 ⟨.inl ha,hnav b ha⟩,a3⟩
  ·obtain ⟨a1,a2,a3⟩:=hR.low b (hxo b k r x g1 g2 g3);exact ⟨c8U a1 h2.size,a2,a3⟩
end Go.Proofs.YtpnbklgbfhgknaaGreatDoor.Eng
namespace Go.Proofs.YtpnbklgbfhgknaaGreatDoor
open Go Go.RowKit Eng
set_option maxRecDepth 10000
set_option maxHeartbeats 8000000
def rsW (w:Wk) (n:Nms):List Res:=[.box 30 w.enc,.map true (nmE n),.box 147 [.mp 1]]
theorem c1g {E:Ctx} (hP:E.P=Tryz.prog) (ht0:Tz E) (w:Wk) (n:Nms) (a:Am) (hb:Ab 1073741824 a) :
  l7 E (rsW w n) 79 [a.c,.bp 2 0] (ints (a0w n a).1) (rsW w (a0w n a).2) []:=by
 obtain ⟨P,eff',N,w0,own0,av0,nu0,pk0⟩:=E;simp only at hP;subst hP;refine l7.ofT (eff:=eff) ht0 Tryz.func79 (by cbv) (by exact c8G rfl) fun w' own av ν hν ht=>?_;have hν0:ν.length<=3:=by rw [hν];exact c8B _
 have b0:=hb.1;have h2:=a6l a hb;have h1:=fun (E:Ctx) (hP:E.P=Tryz.prog)=>b2H hP n a.name (by omega);unfold a0w;generalize N7 n a.name=r at *;obtain ⟨e1,m⟩:=r;generalize H9 a=e2 at *;obtain ⟨name,⟨x,y,half,t⟩,links⟩:=a;obtain ⟨arms,walls,parts,slots,gates,walk⟩:=w;simp only [j4,TT,II,OA,MM,LL,VV,FF];simp only [Am.c,Am.enc,lks,sb,ints,rsW,Wk.enc,ams,wls,pts,sls,gts] at *;(repeat first|refine uA ?_|(apply uK;· first|omega|(intros;simp_all<;>omega))|simp (disch:=omega) only [go_sem,Nat.reduceBEq,Nat.reduceAdd]|(refine uD h2 ?_ ?_ ?_;exact ht;exact rfl));refine S.cond rfl (fun hc=>?_) (fun hc=>?_)
 ·rw [if_pos (by simpa using hc)];(repeat first|refine uA ?_|(apply uK;· first|omega|(intros;simp_all<;>omega))|simp (disch:=omega) only [go_sem,Nat.reduceBEq]);(refine S.done ?_;simp only [D6,go_sem,Nat.reduceBEq];(repeat (refine ⟨?_,?_⟩;· first|trivial|omega|simp));exact p8.P6 (Imp.refl rfl) (by repeat first|refine uA ?_|(refine ⟨?_,?_⟩;· first|rfl|simp [slot])|rfl|simp) (c8y hν0 (by simp)))
 rw [if_neg (by simpa using hc)];(repeat first|refine uA ?_|(apply uK;· first|omega|(intros;simp_all<;>omega))|simp (disch:=omega) only [go_sem,Nat.reduceBEq,Nat.reduceAdd]|refine l9.t (l7.lift (k:=1) rfl (h1 _ rfl) rfl rfl rfl) ?_);(refine S.done ?_;simp only [D6,go_sem,Nat.reduceBEq];(repeat (refine ⟨?_,?_⟩;· first|trivial|omega|simp));exact p8.P6 (Imp.refl rfl) (by repeat first|refine uA ?_|(refine ⟨?_,?_⟩;· first|rfl|simp [slot])|rfl|simp) (c8y hν0 (by simp)))
theorem c0f {E:Ctx} (hP:E.P=Tryz.prog) (ht0:Tz E) (w:Wk) (n:Nms) (l:List Am) (hn:l.length<=1073741824) (hb:∀ x ∈ l,Ab 1073741824 x) :
  l7 E (rsW w n) 82 [ams l,.clo 79 [.bp 2 0]] (ints (A9 a0w n l).1) (rsW w (A9 a0w n l).2) []:=by
 obtain ⟨P,eff',N,w0,own0,av0,nu0,pk0⟩:=E;simp only at hP;subst hP;refine l7.ofT (eff:=eff) ht0 Tryz.func82 (by cbv) (by exact c8G rfl) fun w' own av ν hν ht=>?_;have hν0:ν.length<=3:=by rw [hν];exact c8B _
 have hcal:callable Tryz.prog 79=true:=by kernel_rfl
 simp only [j4,TT,II,OA,OB,MM,LL,ams,ints];simp only [rsW,Wk.enc,ams,wls,pts,sls,gts];(repeat first|refine uA ?_|(apply uK;· first|omega|(intros;simp_all<;>omega))|simp (disch:=omega) only [go_sem,Nat.reduceBEq,Nat.reduceAdd,c8r]);refine S.loop (X:=Nat × Nms) (fun x=>⟨[(1,.clo 79 [.bp 2 0]),(8,ams l),(9,ints l.length),(10,ints x.1)],rsW w x.2⟩) (fun x=>x.1<=l.length/\A9 a0w n l=A9 a0w x.2 (l.drop x.1)) (fun x=>l.length-x.1) (0,n) ⟨c8w _,rfl⟩ (by simp only [rsW,Wk.enc,ams,wls,pts,sls,gts];exact (by repeat first|refine uA ?_|(refine ⟨?_,?_⟩;· first|rfl|simp [slot])|rfl|simp|exact c8y hν0 (by simp))) ?_;rintro ⟨i,m⟩ ⟨hi,hg⟩;simp only [ams,ints,rsW,Wk.enc,wls,pts,sls,gts] at hi hg ⊢
 (repeat first|refine uA ?_|(apply uK;· first|omega|(intros;simp_all<;>omega))|simp (disch:=omega) only [go_sem,Nat.reduceBEq]);(refine uJ rfl (fun hc=>?_) fun hc=>?_)
 ·have hi':i < l.length:=by omega
  have hgi:=c8q hi';generalize l[i]=x at hgi;have hst:=X6 (f:=a0w) (s:=m) hgi;have hnx:=X8 (f:=a0w) (s:=m) hgi;have hs:=fun (E:Ctx) (hP:E.P=Tryz.prog) (ht:Tz E)=>c1g hP ht w m x (hb x (c8t hgi));generalize a0w m x=r at *;obtain ⟨e,m'⟩:=r;simp only [Am.c,Am.enc,lks,sb,ints,rsW,Wk.enc,ams,wls,pts,sls,gts] at hs hst hnx;(repeat first|refine uA ?_|(apply uK;· first|omega|(intros;simp_all<;>omega))|simp (disch:=omega) only [go_sem,Nat.reduceBEq,Nat.reduceAdd,hgi,c8s,c8r,Am.enc,lks,sb,hcal]|refine l9.t (l7.ext _ (hs _ rfl ht) rfl rfl rfl) ?_);refine S.cond rfl (fun hc2=>?_) (fun hc2=>?_)
  ·rw [hg,hst (by simpa using hc2)];(repeat first|refine uA ?_|(apply uK;· first|omega|(intros;simp_all<;>omega))|simp (disch:=omega) only [go_sem,Nat.reduceBEq]);(refine S.done ?_;simp only [D6,go_sem,Nat.reduceBEq];(repeat (refine ⟨?_,?_⟩;· first|trivial|omega|simp));exact p8.P6 (Imp.refl rfl) (by repeat first|refine uA ?_|(refine ⟨?_,?_⟩;· first|rfl|simp [slot])|rfl|simp) (c8y hν0 (by simp)))
  ·have hc3:e=0:=by simpa using hc2
   (repeat first|refine uA ?_|(apply uK;· first|omega|(intros;simp_all<;>omega))|simp (disch:=omega) only [go_sem,Nat.reduceBEq,ww]);refine S.next (x:=(i,m)) (i+1,m') ⟨by simp only;omega,by simp only;rw [hg,hnx hc3]⟩ (by simp only;omega) (by repeat first|refine uA ?_|(refine ⟨?_,?_⟩;· first|rfl|simp [slot])|rfl|simp|exact c8y hν0 (by simp))
 ·rw [hg,a0i (by omega)];(repeat first|refine uA ?_|(apply uK;· first|omega|(intros;simp_all<;>omega))|simp (disch:=omega) only [go_sem]);(refine S.done ?_;simp only [D6,go_sem,Nat.reduceBEq];(repeat (refine ⟨?_,?_⟩;· first|trivial|omega|simp));exact p8.P6 (Imp.refl rfl) (by repeat first|refine uA ?_|(refine ⟨?_,?_⟩;· first|rfl|simp [slot])|rfl|simp) (c8y hν0 (by simp)))
theorem c1Q (w:Wk) (hb:Wb 1073741824 w):FZ 24 [w.c] (ints (Q9 w)):=by
 refine kW b0Y b1i (by rfl) fun w' O hw=>?_;have ht:Tz ⟨Tryz.prog,eff,a3x.ntmps,w',fun _=>False,O,[],[]⟩:=tz hw;obtain ⟨⟨n1,b1⟩,⟨n2,b2⟩,⟨n3,b3⟩,⟨n4,b4⟩,⟨n5,b5⟩,b6⟩:=hb;have h1:=fun (E:Ctx) (hP:E.P=Tryz.prog) (ht:Tz E)=>c0f hP ht w [] w.arms n1 b1;have h2:=b6S w.walls n2 b2;unfold Q9 a4g;generalize A9 a0w [] w.arms=r1 at *;obtain ⟨e1,m1⟩:=r1;have h3:=fun (E:Ctx) (hP:E.P=Tryz.prog) (ht:Tz E)=>b7O hP ht m1 w.parts n3 b3;simp only at h3 ⊢;generalize A9 a0t m1 w.parts=r3 at *;obtain ⟨e3,m3⟩:=r3;have h4:=fun (E:Ctx) (hP:E.P=Tryz.prog) (ht:Tz E)=>b7M hP ht m3 w.slots n4 b4;simp only at h4 ⊢;generalize A9 a0v m3 w.slots=r4 at *;obtain ⟨e4,m4⟩:=r4
 have h5:=fun (E:Ctx) (hP:E.P=Tryz.prog) (ht:Tz E)=>b7R hP ht m4 w.gates n5 b5;simp only at h5 ⊢;generalize A9 Y0 m4 w.gates=r5 at *;obtain ⟨e5,m5⟩:=r5;generalize G5 P9 w.walls=e2 at *;simp only;have h6:=a0p w.walk (b6.m rfl);have h7:=a3M w.walk (b6.m rfl);have h8:=M8 w.walk (b6.m rfl);unfold a8m;generalize decide w.walk.F7=q1 at *;generalize j5 w.walk=q2 at *;generalize q8 (Nm.d9 w.walk)=s8 at *;obtain ⟨arms,walls,parts,slots,gates,walk⟩:=w;simp only [a3x,j4,TT,II,OA,OB,OC,MM,LL,VV,FF,LG,VG,FG] at ht ⊢;simp only [Wk.c,Wk.enc,rsW,ams,wls,pts,sls,gts,rc,sb,ints] at *
 (repeat first|refine uA ?_|(apply uK;· first|omega|(intros;simp_all<;>omega))|simp (disch:=omega) only [go_sem,Nat.reduceBEq,Nat.reduceAdd,c8r]);refine S.cond rfl (fun hc=>?_) (fun hc=>?_)
 ·rw [if_pos (by simp only [c9f,c8D] at hc;omega)];(repeat first|refine uA ?_|(apply uK;· first|omega|(intros;simp_all<;>omega))|simp (disch:=omega) only [go_sem]);exact uS rfl rfl
 rw [if_neg (by simp only [c8S,c8I] at hc;omega)];(repeat first|refine uA ?_|(apply uK;· first|omega|(intros;simp_all<;>omega))|simp (disch:=omega) only [go_sem,Nat.reduceBEq,Nat.reduceAdd,c8r]);refine S.cond rfl (fun hc=>?_) (fun hc=>?_)
 ·rw [if_pos (by simp only [c8D] at hc;omega)];(repeat first|refine uA ?_|(apply uK;· first|omega|(intros;simp_all<;>omega))|simp (disch:=omega) only [go_sem]);exact uS rfl rfl
 rw [if_neg (by simp only [c8I] at hc;omega)];(repeat first|refine uI ?_|(apply uK;· first|omega|(intros;simp_all<;>omega))|simp (disch:=omega) only [go_sem,Nat.reduceBEq,Nat.reduceAdd]);refine S.X4 [.box 30 [.sl 12 (arms.map Am.enc),.sl 1 (walls.map fun s=>[vts s]),.sl 12 (parts.map Pt.enc),.sl 14 (slots.map Sl.enc),.sl 13 (gates.map Gt.enc),.v (.bool walk.neg),.v (.string (bs walk.num)),.v (.string (bs walk.den))],.gone,.box 147 [.mp 1]] (by simp [Eng.F3,Eng.E5]) ?_
 (repeat first|refine uA ?_|(apply uK;· first|omega|(intros;simp_all<;>omega))|simp (disch:=omega) only [go_sem,Nat.reduceBEq,Nat.reduceAdd]|refine l9.t (h1 _ rfl ht) ?_|refine l9.t (l7.lift (k:=1) rfl (h3 _ rfl ht) rfl rfl rfl) ?_|refine l9.t (l7.lift (k:=1) rfl (h4 _ rfl ht) rfl rfl rfl) ?_|refine l9.t (l7.lift (k:=1) rfl (h5 _ rfl ht) rfl rfl rfl) ?_|(refine uD h2 ?_ ?_ ?_;exact tz hw;rfl));generalize hL:[e1,e2,e3,e4,e5]=L;have hl5:L.length=5:=by rw [<- hL];rfl
 have e63:[[C.v (Value.int IntKind.i64 e1)],[C.v (Value.int IntKind.i64 e2)],[C.v (Value.int IntKind.i64 e3)],[C.v (Value.int IntKind.i64 e4)],[C.v (Value.int IntKind.i64 e5)]]=L.map fun e=>[C.v (Value.int IntKind.i64 e)]:=by rw [<- hL];rfl
 simp only [e63];refine S.loop (X:=Nat) (fun i=>⟨[(1,.bp 0 0),(63,.sl 1 (L.map fun e=>[.v (.int .i64 e)])),(64,ints 5),(65,ints i)],[.box 30 [.sl 12 (arms.map Am.enc),.sl 1 (walls.map fun s=>[vts s]),.sl 12 (parts.map Pt.enc),.sl 14 (slots.map Sl.enc),.sl 13 (gates.map Gt.enc),.v (.bool walk.neg),.v (.string (bs walk.num)),.v (.string (bs walk.den))]]⟩) (fun i=>i<=5/\G5 id L=G5 id (L.drop i)) (fun i=>5-i) 0 ⟨c8w _,rfl⟩ (by repeat first|refine uA ?_|(refine ⟨?_,?_⟩;· first|rfl|simp [slot])|rfl|simp) ?_;rintro i ⟨hi,hg⟩;simp only [ints] at hi hg ⊢;(repeat first|refine uA ?_|(apply uK;· first|omega|(intros;simp_all<;>omega))|simp (disch:=omega) only [go_sem,Nat.reduceBEq])
 (refine uJ rfl (fun hc=>?_) fun hc=>?_)
 ·have hi':i < L.length:=by omega
  have hgi:=c8q hi';generalize L[i]=x at hgi;have hst:=a1a (f:=id) hgi;have hnx:=a0U (f:=id) hgi;simp only [id] at hst hnx;(repeat first|refine uA ?_|(apply uK;· first|omega|(intros;simp_all<;>omega))|simp (disch:=omega) only [go_sem,Nat.reduceBEq,hgi,c8s,c8r,hl5]);refine S.cond rfl (fun hc2=>?_) (fun hc2=>?_)
  ·have h0:x ≠ 0:=by simpa using hc2
   rw [hg,hst h0,if_pos h0];(repeat first|refine uA ?_|(apply uK;· first|omega|(intros;simp_all<;>omega))|simp (disch:=omega) only [go_sem,Nat.reduceBEq]);exact uS rfl rfl
  ·have hc3:x=0:=by simpa using hc2
   (repeat first|refine uA ?_|(apply uK;· first|omega|(intros;simp_all<;>omega))|simp (disch:=omega) only [go_sem,Nat.reduceBEq,ww]);refine S.next (i+1) ⟨by omega,by rw [hg];exact hnx hc3⟩ (by omega) (by repeat first|refine uA ?_|(refine ⟨?_,?_⟩;· first|rfl|simp [slot])|rfl|simp)
 ·rw [hg,a1x (by omega),if_neg (by decide)];(repeat first|refine uA ?_|(apply uK;· first|omega|(intros;simp_all<;>omega))|simp (disch:=omega) only [go_sem,Nat.reduceBEq,Nat.reduceAdd]|(refine uD h6 ?_ ?_ ?_;exact tz hw;rfl)|(refine uD h7 ?_ ?_ ?_;exact tz hw;rfl)|(refine uD h8 ?_ ?_ ?_;exact tz hw;rfl));refine S.cond rfl (fun hc=>?_) (fun hc=>?_)
  ·rw [if_neg (by simp only [c9f,Bool.not_eq_true',c8D] at hc;simp only [c8F,c8D];rintro ⟨⟨g7,g8⟩,g9⟩;rcases hc with (hc|hc)|hc<;>first|(rw [hc] at g7;cases g7;done)|(rw [hc] at g8;cases g8;done)|omega)];(repeat first|refine uA ?_|(apply uK;· first|omega|(intros;simp_all<;>omega))|simp (disch:=omega) only [go_sem]);exact uS rfl rfl
  ·rw [if_pos (by simp only [c8S,Bool.not_eq_false',c8I] at hc;simp only [c8F,c8D];obtain ⟨⟨g7,g8⟩,g9⟩:=hc;exact ⟨⟨g7,g8⟩,by omega⟩)];(repeat first|refine uA ?_|(apply uK;· first|omega|(intros;simp_all<;>omega))|simp (disch:=omega) only [go_sem]);exact uS rfl rfl
end Go.Proofs.YtpnbklgbfhgknaaGreatDoor
namespace Go.Proofs.YtpnbklgbfhgknaaGreatDoor.Eng
open Go Go.RowKit
mutual
def C.sh (n:Nat):C->C
 | .rv k=>.rv (n+k)
 | .agg cs=>.agg (C.shL n cs)
 | .tup cs=>.tup (C.shL n cs)
 | c=>c
def C.shL (n:Nat):List C->List C
 | []=>[]
 | c::cs=>C.sh n c::C.shL n cs
end
mutual
def C.okS:C->Bool
 | .rv _=>true
 | .agg cs=>C.b3B cs
 | .tup cs=>C.b3B cs
 | c=>c.cl
def C.b3B:List C->Bool
 | []=>true
 | c::cs=>C.okS c && C.b3B cs
end
section
variable {ν ν':List Value} {w:World} {O O':Nat->Prop}
mutual
theorem b8P (hO:∀ b,O' b->O b):∀ {c:C} {y:Value},c.okS=true->Den ν' w O c y->Den (ν++ν') w O' (C.sh ν.length c) y
 | .rv k,y,_,h=>by
  simp only [C.sh,Den] at h ⊢;exact ⟨by rw [c8M (by omega),show ν.length+k-ν.length=k by omega];exact h.1,h.2⟩
 | .agg cs,y,hc,h=>by
  simp only [C.sh,Den,C.okS] at h hc ⊢;obtain ⟨vs,h1,h2⟩:=h;exact ⟨vs,b1g hO hc h1,h2⟩
 | .tup cs,y,hc,h=>by
  simp only [C.sh,Den,C.okS] at h hc ⊢;obtain ⟨vs,h1,h2⟩:=h;exact ⟨vs,b1g hO hc h1,h2⟩
 | .v x,y,hc,h=>by simpa only [C.sh,Den] using h
 | .sl sz es,y,hc,h=>by simp only [C.sh];exact (Fz.keep (Keeps.sub hO) (h.fz hc)).den _
 | .nl,y,hc,h=>by simpa only [C.sh,Den] using h
 | .ep cs,y,hc,h=>by simp only [C.sh];exact (Fz.keep (Keeps.sub hO) (h.fz hc)).den _
 | .clo f cs,y,hc,h=>by simp only [C.sh];exact (Fz.keep (Keeps.sub hO) (h.fz hc)).den _
 | .bnd f x,y,hc,h=>by simp only [C.sh];exact (Fz.keep (Keeps.sub hO) (h.fz hc)).den _
 | .any S,y,hc,h=>by simpa only [C.sh,Den] using h
 | .bp _ _,y,hc,h=>by simp only [C.okS,C.cl] at hc;cases hc
 | .rp _ _ _ _,y,hc,h=>by simp only [C.okS,C.cl] at hc;cases hc
 | .mp _,y,hc,h=>by simp only [C.okS,C.cl] at hc;cases hc
 | .wv _ _ _ _,y,hc,h=>by simp only [C.okS,C.cl] at hc;cases hc
 | .g _ _,y,hc,h=>by simp only [C.okS,C.cl] at hc;cases hc
 | .junk,y,hc,h=>by simp only [C.okS,C.cl] at hc;cases hc
theorem b1g (hO:∀ b,O' b->O b):∀ {cs:List C} {vs:List Value},C.b3B cs=true->j6 ν' w O cs vs->j6 (ν++ν') w O' (C.shL ν.length cs) vs
 | [],vs,_,h=>by simpa only [C.shL,j6] using h
 | c::cs,vs,hc,h=>by
  simp only [C.shL,j6,C.b3B,c8F] at h hc ⊢;obtain ⟨y,ys,e,h1,h2⟩:=h;exact ⟨y,ys,e,b8P hO hc.1 h1,b1g hO hc.2 h2⟩
end
end
def Res.c3d:Res->Bool
 | .gone=>true
 | r=>r.shut
theorem c2B {ν ν':List Value} {w:World} {O O':Nat->Prop} {x:Value} {r:Res} (hs:r.c3d=true) (hO:∀ b,O' b->O b) (h:P5 ν w O x r):P5 ν' w O' x r:=by
 cases r with
 | gone=>trivial
 | box t cs=>exact a6n hs hO h
 | row e sz es=>exact a6n rfl hO h
 | map s es=>exact a6n rfl hO h
theorem l7.pre {E:Ctx} {rs rs':List Res} {f:Nat} {args:List C} {s:C} (h:l7 E [] f args s rs' []) (hr:rs'.all Res.c3d=true) (hs:s.okS=true) (ha:C.clL args=true):l7 E rs f args (C.sh rs.length s) (rs++rs') []:=by
 intro av ν w vs hR hav hF hD;rw [List.all_eq_true] at hr
 let av':Nat->Prop:=OO av rs ν
 have hlt:∀ b,av' b->b < w.heap.size:=fun b hb=>by
  rcases hb with hb|hb
  ·exact hR.av b hb
  ·exact (hR.low b hb).1
 have ho0:∀ b,¬ owned [] [] b:=fun b ⟨k,r,x,hk,_⟩=>by simp at hk
 have hRG:RG av' E.own0 E.w0.heap.size [] [] w:=⟨rfl,fun k r hk=>by simp at hk,fun k l r r' x x' b _ hk=>by simp at hk,fun b hb=>(ho0 b hb).elim,hlt,hR.n0⟩
 have hOO:∀ b,OO av' [] [] b->OO av rs ν b:=fun b hb=>hb.elim id fun h=>(ho0 b h).elim;refine (h av' [] w vs hRG (fun b hb=>.inl (hav b hb)) hF ((FzL.keep (Keeps.sub hOO) (hD.fz ha)).den _)).mono ?_;rintro e w' ⟨y,ν',rfl,h1,h2,h3⟩;have hlen:(ν++ν').length=(rs++rs').length:=by rw [c8A,c8A,hR.len,h1.len]
 have htk:(ν++ν').take rs.length=ν:=by rw [<- hR.len];simp
 have hown:=fun b=>a4j hlen b;rw [htk] at hown;have hnew:∀ b,(∃ k r x,rs'[k]?=some r/\(ν++ν')[rs.length+k]?=some x/\fp r x b)->owned rs' ν' b:=by
  rintro b ⟨k,r,x,g1,g2,g3⟩;rw [<- hR.len,c8M (by omega),show ν.length+k-ν.length=k by omega] at g2;exact ⟨k,r,x,g1,g2,g3⟩
 have hge:∀ b,owned rs' ν' b->w.heap.size<=b:=fun b hb=>(h2.own b hb).elim (fun h=>(ho0 b h).elim) id;have hnu:Y5 [] ν (ν++ν'):=fun k x _ hx=>by rw [c8H (c8v.1 hx).1];exact hx
 have hM:Mv rs ν w [] (rs++rs') (ν++ν') w':=by
  refine ⟨h2.os,h2.tape,h2.output,h2.size,fun b hb _=>h2.block b hb (ho0 b),fun b hb=>?_,hnu⟩;rcases (hown b).1 hb with hb|hb
  ·exact .inl hb
  ·exact .inr (hge b (hnew b hb))
 have hOO':∀ b,OO av (rs++rs') (ν++ν') b->OO av' rs' ν' b:=fun b hb=>by
  rcases hb with hb|hb
  ·exact .inl (.inl hb)
  ·rcases (hown b).1 hb with hb|hb
   ·exact .inl (.inr hb)
   ·exact .inr (hnew b hb)
 refine ⟨y,ν++ν',rfl,⟨hlen,fun k r hk=>?_,fun l m q q' z z' b hne g1 g2 g3 g4 g5=>?_,fun b hb=>?_,fun b hb=>c8U (hR.av b hb) h2.size,c8y hR.n0 h2.size⟩,hM,by rw [<- hR.len];exact b8P hOO' hs h3⟩
 ·rcases c8N k rs.length with hlt'|hge'
  ·rw [c8H hlt'] at hk;obtain ⟨x,hx,hok⟩:=hR.res k r hk;have:=hok.mv (hM.keeps (av:=av)) hM.nu (fun b hf=>h2.block b (hR.lt hk hx hf) (ho0 b));rw [a3p] at this;exact ⟨x,hnu k x (fun h=>by cases h) hx,this⟩
  ·rw [c8M hge'] at hk;obtain ⟨x,hx,hok⟩:=h1.res _ r hk;refine ⟨x,by rw [c8M (by rw [hR.len];exact hge'),hR.len];exact hx,c2B (hr r (c8t hk)) hOO' hok⟩
 ·have old:∀ {l q z},l < rs.length->(rs++rs')[l]?=some q->(ν++ν')[l]?=some z->rs[l]?=some q/\ν[l]?=some z:=fun hl a1 a2=>by
   rw [c8H hl] at a1;rw [c8H (by rw [hR.len];exact hl)] at a2;exact ⟨a1,a2⟩
  have new:∀ {l q z},rs.length<=l->(rs++rs')[l]?=some q->(ν++ν')[l]?=some z->rs'[l-rs.length]?=some q/\ν'[l-rs.length]?=some z:=fun hl a1 a2=>by
   rw [c8M hl] at a1;rw [c8M (by rw [hR.len];exact hl),hR.len] at a2;exact ⟨a1,a2⟩
  rcases c8N l rs.length with hl1|hl1<;>rcases c8N m rs.length with hm1|hm1
  ·obtain ⟨a1,a2⟩:=old hl1 g1 g3;obtain ⟨a3,a4⟩:=old hm1 g2 g4;exact hR.dis l m q q' z z' b hne a1 a3 a2 a4 g5
  ·obtain ⟨a1,a2⟩:=old hl1 g1 g3;obtain ⟨a3,a4⟩:=new hm1 g2 g4;intro hf;have:=hR.lt a1 a2 g5;have:=hge b ⟨_,_,_,a3,a4,hf⟩;omega
  ·obtain ⟨a1,a2⟩:=new hl1 g1 g3;obtain ⟨a3,a4⟩:=old hm1 g2 g4;intro hf;have:=hR.lt a3 a4 hf;have:=hge b ⟨_,_,_,a1,a2,g5⟩;omega
  ·obtain ⟨a1,a2⟩:=new hl1 g1 g3;obtain ⟨a3,a4⟩:=new hm1 g2 g4;exact h1.dis _ _ q q' z z' b (by omega) a1 a3 a2 a4 g5
 ·rcases (hown b).1 hb with hb|hb
  ·obtain ⟨a1,a2,a3⟩:=hR.low b hb;exact ⟨c8U a1 h2.size,a2,a3⟩
  ·obtain ⟨a1,a2,a3⟩:=h1.low b (hnew b hb);exact ⟨a1,fun ha=>a2 (.inl ha),a3⟩
end Go.Proofs.YtpnbklgbfhgknaaGreatDoor.Eng
namespace Go.Proofs.YtpnbklgbfhgknaaGreatDoor
open Go Go.RowKit Eng
set_option maxRecDepth 100000
set_option maxHeartbeats 8000000
theorem b6u (q:Rat):Nm.ofQ (q9 q)=⟨false,Nm.enc q.num.natAbs,Nm.enc q.den⟩:=by
 unfold q9;by_cases h:q.num < 0
 ·rw [if_pos h,b0l];simp [h]
 ·rw [if_neg h];unfold Nm.ofQ;rw [decide_eq_false h]
theorem a4H (a:Nm.Rt) (ha:Rb 17179869184 a):FZ 93 [rc a] (rq (q9 (Nm.d9 a))):=by
 unfold rq;rw [b6u];exact b8o a ha
theorem b4u {k:Nat} {p:Rat} (h:Rb k (Nm.ofQ p)):Rb k (Nm.ofQ (q9 p)):=by rw [b6u];exact h
theorem c1c (a:Nm.Rt) (ha:Rb 68719476736 a):FZ 97 [rc a] (.v (.bool (!C8 a))):=by
 refine kW Tryz.func97 (by cbv) (by rfl) fun w O hw=>?_;have h:=a0p a ha;unfold C8;generalize decide a.F7=q at *;simp only [j4,TT,OA,MM,LL];simp only [rc,sb] at *;(repeat first|refine uA ?_|(apply uK;· omega)|simp (disch:=omega) only [go_sem,Nat.reduceBEq]|(apply uD h;exact tz hw;rfl));exact uS rfl rfl
theorem a8i (l:List Nm.Rt) (hl:Rbs 68719476736 l):FZ 31 [rts l] (.v (.bool (l.all C8))):=by
 refine kW Tryz.func31 (by cbv) (by rfl) fun w O hw=>?_;have h:=c0J 97 (by kernel_rfl) (fun a=>!C8 a) l (by have:=hl.1;omega) (fun a ha=>c1c a (hl.2 a ha));have e:l.all C8=!l.any fun a=>!C8 a:=by rw [List.not_any_eq_all_not];simp
 rw [e];generalize (l.any fun a=>!C8 a)=q at *;simp only [j4,TT,OA,MM];simp only [rts] at *;(repeat first|refine uA ?_|(apply uK;· omega)|simp (disch:=omega) only [go_sem,Nat.reduceBEq]|(apply uD h;exact tz hw;rfl));exact uS rfl rfl
theorem c1j (f:Fr) (hf:Fb 17179869184 f):FZ 28 [f.c] (.v (.bool (a0L f))):=by
 refine kW Tryz.func28 (by cbv) (by rfl) fun w O hw=>?_;obtain ⟨x,y,half,t⟩:=f;obtain ⟨b1,b2,b3⟩:=hf;simp only at b1 b2 b3;have h1:=a8i _ (Rbs.three (by decide) (b1.mono (m:=68719476736) (by decide)) (b2.mono (m:=68719476736) (by decide)) (b3.mono (m:=68719476736) (by decide)));rw [a5I] at h1;have h4:=M8 t b3;unfold a0L a3w;simp only;generalize (C8 x && C8 y && C8 t)=q1 at *;generalize q8 (Nm.d9 t)=n at *;simp only [j4,TT,II,OA,OC,MM,LL,FF,MG,LG,VG,FG];simp only [Fr.c,Fr.enc,rts,rcs,rc,sb,ints,c8K,c8O] at *
 (repeat first|refine uA ?_|(apply uK;· first|omega|(intros;simp_all<;>omega))|simp (disch:=omega) only [go_sem,Nat.reduceBEq,Nat.reduceAdd]|(apply uD h4;exact tz hw;rfl)|(apply uE h1;exact tz hw;exact rfl;focus (repeat' first|exact j3.nil|exact Imp.refl rfl|exact Imp.frz rfl rfl rfl|(refine Imp.K5 rfl rfl ?_ ?_;(focus ((try simp only [c8A]);omega));(focus first|rfl|assumption))|refine j3.cons ?_ ?_);done));have e:(q1 && !(half && !decide (n=0)))=(q1 && (!half || decide (n=0))):=by cases q1<;>cases half<;>simp
 rw [e];exact uQ rfl (Imp.refl (by rfl)) rfl rfl
theorem c4W (f:Fr) (hf:Fb 17179869184 f):FZ 27 [f.c] (.v (.bool (!a0L f))):=by
 refine kW Tryz.func27 (by cbv) (by rfl) fun w O hw=>?_;have h:=c1j f hf;generalize a0L f=q at *;simp only [j4,TT,OA,MM,LL];simp only [Fr.c,Fr.enc,sb] at *;(repeat first|refine uA ?_|(apply uK;· omega)|simp (disch:=omega) only [go_sem,Nat.reduceBEq]|(apply uD h;exact tz hw;rfl));exact uS rfl rfl
theorem c3T (v:Vt) (hv:Vb 68719476736 v):FZ 30 [v.c] (.v (.bool (!a1C v))):=by
 refine kW Tryz.func30 (by cbv) (by rfl) fun w O hw=>?_;have h:=a8i _ (Rbs.two (by decide) hv.1 hv.2);rw [a6o] at h;unfold a1C;generalize (C8 v.x && C8 v.y)=q at *;simp only [j4,TT,OA,MM,LL,FF];simp only [Vt.c,Vt.enc,rts,rcs,sb,c8K,c8O] at *;(repeat first|refine uA ?_|(apply uK;· first|omega|(intros;simp_all<;>omega))|simp (disch:=omega) only [go_sem,Nat.reduceBEq,Nat.reduceAdd]|(apply uE h;exact tz hw;exact rfl;focus (repeat' first|exact j3.nil|exact Imp.refl rfl|exact Imp.frz rfl rfl rfl|(refine Imp.K5 rfl rfl ?_ ?_;(focus ((try simp only [c8A]);omega));(focus first|rfl|assumption))|refine j3.cons ?_ ?_);done));exact uS rfl rfl
theorem b9H {a:Am} {q:List Nm.Rt} (h:a2s a q=0):q.length=a.links.length:=by
 unfold a2s at h;split at h
 ·rename_i h1;exact absurd h h1
 ·split at h
  ·cases h
  ·rename_i h2;exact Classical.not_not.1 h2
theorem c7c (a:Am) (x:Ast) (parts:Nat) (ha:Ab 1073741824 a) (hx:Asb 1073741824 x) (hp:parts<=1073741824):FZ 25 [a.c,x.c,.v (.int .i64 (parts:Int))] (ints (a1Y a x parts)):=by
 refine kW Tryz.func25 (by cbv) (by rfl) fun w O hw=>?_;have h1:=a8i x.q ⟨by have:=hx.1.1;omega,fun r hr=>(hx.1.2 r hr).m rfl⟩;have h2:=a8i x.v ⟨by have:=hx.2.1;omega,fun r hr=>(hx.2.2 r hr).m rfl⟩;have h3:=c0e a x.q ha hx.1;have hln:=b9H (a:=a) (q:=x.q);unfold a1Y;generalize a2s a x.q=e at *;obtain ⟨q,v,power,holds⟩:=x;simp only at h1 h2 h3 hln ⊢;generalize q.all C8=g1 at *;generalize v.all C8=g2 at *;obtain ⟨hvn,hvb⟩:=hx.2;obtain ⟨name,⟨bx,by',half,t⟩,links⟩:=a;obtain ⟨b0,⟨b1,b2,b3⟩,hn,hb⟩:=ha;simp only at b0 b1 b2 b3 hn hb hln hvn hvb ⊢;simp only [j4,TT,II,OA,OB,OC,MM,LL,VV,FF,MG,VG,FG];simp only [Am.c,Am.enc,Ast.c,Ast.enc,lks,rts,sb,ints] at *
 (repeat first|refine uA ?_|(apply uK;· first|omega|(intros;simp_all<;>omega))|simp (disch:=omega) only [go_sem,Nat.reduceBEq,Nat.reduceAdd]|(refine uD h1 ?_ ?_ ?_;exact tz hw;rfl)|(refine uD h2 ?_ ?_ ?_;exact tz hw;rfl));refine S.cond rfl (fun hc=>?_) (fun hc=>?_)
 ·rw [if_pos (by cases g1<;>cases g2<;>simp_all)];(repeat first|refine uA ?_|(apply uK;· first|omega|(intros;simp_all<;>omega))|simp (disch:=omega) only [go_sem]);exact uS rfl rfl
 rw [if_neg (by cases g1<;>cases g2<;>simp_all)];(repeat first|refine uA ?_|(apply uK;· first|omega|(intros;simp_all<;>omega))|simp (disch:=omega) only [go_sem,Nat.reduceBEq,Nat.reduceAdd]|(refine uD h3 ?_ ?_ ?_;exact tz hw;rfl));refine S.cond rfl (fun hc=>?_) (fun hc=>?_)
 ·rw [if_pos (by simpa using hc)];(repeat first|refine uA ?_|(apply uK;· first|omega|(intros;simp_all<;>omega))|simp (disch:=omega) only [go_sem,Nat.reduceBEq]);exact uS rfl rfl
 rw [if_neg (by simpa using hc)];have hln:=hln (by simpa using hc);(repeat first|refine uA ?_|(apply uK;· first|omega|(intros;simp_all<;>omega))|simp (disch:=omega) only [go_sem,Nat.reduceBEq,Nat.reduceAdd,c8r]);refine S.cond rfl (fun hc=>?_) (fun hc=>?_)
 ·rw [if_pos (by simp only [c9f,Bool.not_eq_true',c8D,c8I] at hc;omega)];(repeat first|refine uA ?_|(apply uK;· first|omega|(intros;simp_all<;>omega))|simp (disch:=omega) only [go_sem]);exact uS rfl rfl
 rw [if_neg (by simp only [c8S,Bool.not_eq_false',c8D,c8I] at hc;omega)];have hvl:v.length=links.length:=by simp only [c8S,Bool.not_eq_false',c8D,c8I] at hc;omega
 (repeat first|refine uA ?_|(apply uK;· first|omega|(intros;simp_all<;>omega))|simp (disch:=omega) only [go_sem,Nat.reduceBEq,Nat.reduceAdd,c8r]);refine S.loop (X:=Nat) (fun i=>⟨[(4,.bp 1 0),(46,lks links),(47,ints links.length),(48,ints i)],[.gone,.box 70 [rts q,rts v,.v (.bool power),ints holds]]⟩) (fun i=>i<=links.length/\G5 Z9 (links.zip v)=G5 Z9 ((links.zip v).drop i)) (fun i=>links.length-i) 0 ⟨c8w _,rfl⟩ (by repeat first|refine uA ?_|(refine ⟨?_,?_⟩;· first|rfl|simp [slot])|rfl|simp) ?_;rintro i ⟨hi,hg⟩;simp only [lks,ints,rts];(repeat first|refine uA ?_|(apply uK;· first|omega|(intros;simp_all<;>omega))|simp (disch:=omega) only [go_sem,Nat.reduceBEq])
 (refine uJ rfl (fun hc=>?_) fun hc=>?_)
 ·have hi':i < links.length:=by omega
  have hgi:=c8q hi';have hgv:=c8q (show i < v.length by omega);generalize links[i]=l at hgi;generalize v[i]'_=r at hgv;have hz:=J5 hgi hgv;have hst:=a1a (f:=Z9) hz;have hnx:=a0U (f:=Z9) hz;have bl:=hb l (c8t hgi);have br:=(hvb r (c8t hgv)).mono (m:=17179869184) (by decide);have o1:=a4H r br;have o2:=F6 (Nm.ofQ (q9 (Nm.d9 r))) l.speed (b4u (br.g rfl)) (bl.2.2.2.1.m rfl);rw [Nm.l6] at o2;unfold Z9 at hst hnx;simp only at hst hnx;generalize Nm.l8 (q9 (Nm.d9 r)) (Nm.d9 l.speed)=n1 at *;unfold rq at o1;generalize Nm.ofQ (q9 (Nm.d9 r))=ar at *;have hvi:(i:Int) < v.length:=by omega
  simp only [rc,sb,ints] at o1 o2;(repeat first|refine uA ?_|(apply uK;· first|omega|(intros;simp_all<;>omega))|simp (disch:=omega) only [go_sem,Nat.reduceBEq,Nat.reduceAdd,hgi,hgv,c8s,c8r,Lk.enc,rcs,vts,sb,c8u]|(refine uD o1 ?_ ?_ ?_;exact tz hw;rfl)|(refine uD o2 ?_ ?_ ?_;exact tz hw;rfl));refine S.cond rfl (fun hc2=>?_) (fun hc2=>?_)
  ·have hp:0 < n1:=by simpa using hc2
   rw [if_pos hp] at hst;rw [hg,show Z9=fun x:Lk × Nm.Rt=>if 0 < Nm.l8 (q9 (Nm.d9 x.2)) (Nm.d9 x.1.speed) then 1 else 0 from rfl,hst (by decide)];(repeat first|refine uA ?_|(apply uK;· first|omega|(intros;simp_all<;>omega))|simp (disch:=omega) only [go_sem]);exact uS rfl rfl
  ·have hp:¬ 0 < n1:=by simpa using hc2
   rw [if_neg hp] at hnx;(repeat first|refine uA ?_|(apply uK;· first|omega|(intros;simp_all<;>omega))|simp (disch:=omega) only [go_sem,Nat.reduceBEq,ww]);refine S.next (i+1) ⟨by omega,?_⟩ (by omega) (by repeat first|refine uA ?_|(refine ⟨?_,?_⟩;· first|rfl|simp [slot])|rfl|simp);rw [hg,show Z9=fun x:Lk × Nm.Rt=>if 0 < Nm.l8 (q9 (Nm.d9 x.2)) (Nm.d9 x.1.speed) then 1 else 0 from rfl,hnx rfl]
 ·rw [hg,a1x (by rw [List.length_zip];omega)];(repeat first|refine uA ?_|(apply uK;· first|omega|(intros;simp_all<;>omega))|simp (disch:=omega) only [go_sem]);exact uS rfl rfl
set_option maxHeartbeats 16000000
theorem c7b (h:List Int) (n:Int):(a1T (.int .i64 n) (hdE h)).getD (.bool false)=.bool (h.contains n):=by
 rw [c3J];cases h.contains n<;>rfl
theorem b6b {α:Type} (p:α->Bool) (l:List α):l.all p=!l.any fun x=>!p x:=by rw [List.not_any_eq_all_not];simp
theorem a9f (w:Wk) (s:Stt) (hb:Wb 1073741824 w) (hs:Stb 1073741824 s):FZ 12 [w.c,s.c] (ints (J3 w s)):=by
 refine kW Tryz.func12 (by cbv) (by rfl) fun w' O hw=>?_;have hwk:=c1Q w hb;obtain ⟨⟨n1,b1⟩,⟨n2,b2⟩,⟨n3,b3⟩,n4⟩:=hs;have hone:=fun (a:Am) (x:Ast) (ha:a ∈ w.arms) (hx:x ∈ s.arms)=>c7c a x w.parts.length (hb.arms.2 a ha) (b1 x hx) (by have:=hb.parts.1;omega);have hfr:=b7Q 27 (by kernel_rfl) (fun f=>!a0L f) s.parts (by omega) (fun f hf=>c4W f ⟨(b2 f hf).1.m rfl,(b2 f hf).2.1.m rfl,(b2 f hf).2.2.m rfl⟩);have hvc:=b4I 30 (by kernel_rfl) (fun v=>!a1C v) s.people (by omega) (fun v hv=>c3T v ((b3 v hv).m rfl));have m1:=hb.arms.1;have m2:=hb.parts.1;have m3:=hb.gates.1;unfold J3;rw [b6b a0L,b6b a1C];generalize Q9 w=e0 at *;generalize (s.parts.any fun f=>!a0L f)=g1 at *
 generalize (s.people.any fun v=>!a1C v)=g2 at *;obtain ⟨arms,walls,parts,slots,gates,walk⟩:=w;obtain ⟨tick,sarms,sparts,people,sgates⟩:=s;simp only at *;simp only [j4,TT,II,OA,OB,OC,MM,LL,VV,FF,MG,VG,FG];simp only [Wk.c,Wk.enc,Stt.c,Stt.enc,ams,wls,pts,sls,gts,E8,frs,vts,bls,sb,ints] at hwk hfr hvc ⊢;(repeat first|refine uA ?_|(apply uK;· first|omega|(intros;simp_all<;>omega))|simp (disch:=omega) only [go_sem,Nat.reduceBEq,Nat.reduceAdd]|(refine uD hwk ?_ ?_ ?_;exact tz hw;rfl));refine S.cond rfl (fun hc=>?_) (fun hc=>?_)
 ·rw [if_pos (by simpa using hc)];(repeat first|refine uA ?_|(apply uK;· first|omega|(intros;simp_all<;>omega))|simp (disch:=omega) only [go_sem,Nat.reduceBEq]);exact uS rfl rfl
 rw [if_neg (by simpa using hc)];(repeat first|refine uA ?_|(apply uK;· first|omega|(intros;simp_all<;>omega))|simp (disch:=omega) only [go_sem,Nat.reduceBEq,Nat.reduceAdd,c8r]);refine S.cond rfl (fun hc=>?_) (fun hc=>?_)
 ·rw [if_pos (by simp only [c8D] at hc;omega)];(repeat first|refine uA ?_|(apply uK;· first|omega|(intros;simp_all<;>omega))|simp (disch:=omega) only [go_sem]);exact uS rfl rfl
 rw [if_neg (by simp only [c8I] at hc;omega)];(repeat first|refine uA ?_|(apply uK;· first|omega|(intros;simp_all<;>omega))|simp (disch:=omega) only [go_sem,Nat.reduceBEq,Nat.reduceAdd,c8r]);refine S.cond rfl (fun hc=>?_) (fun hc=>?_)
 ·rw [if_pos (by simp only [c9f,Bool.not_eq_true',c8D,c8I] at hc;omega)];(repeat first|refine uA ?_|(apply uK;· first|omega|(intros;simp_all<;>omega))|simp (disch:=omega) only [go_sem]);exact uS rfl rfl
 have hls:sarms.length=arms.length:=by simp only [c8S,Bool.not_eq_false',c8D,c8I] at hc;omega
 rw [if_neg (by simp only [c8S,Bool.not_eq_false',c8D,c8I] at hc;omega)];(repeat first|refine uA ?_|(apply uK;· first|omega|(intros;simp_all<;>omega))|simp (disch:=omega) only [go_sem,Nat.reduceBEq,Nat.reduceAdd,c8r]);refine S.loop (X:=Nat × List Int) (fun x=>⟨[(2,.bp 0 0),(3,.bp 1 0),(6,.mp 2),(56,E8 sarms),(57,ints sarms.length),(58,ints x.1)],[.box 30 [ams arms,wls walls,pts parts,sls slots,gts gates,.v (.bool walk.neg),sb walk.num,sb walk.den],.box 36 [ints tick,E8 sarms,frs sparts,vts people,bls sgates],.map false (hdE x.2)]⟩)
  (fun x=>x.1<=sarms.length/\A9 (a0c parts.length) [] (arms.zip sarms)=A9 (a0c parts.length) x.2 ((arms.zip sarms).drop x.1)) (fun x=>sarms.length-x.1) (0,[]) ⟨c8w _,rfl⟩ (by repeat first|refine uA ?_|(refine ⟨?_,?_⟩;· first|rfl|simp [slot])|rfl|simp) ?_
 rintro ⟨i,h⟩ ⟨hi,hg⟩;simp only [ams,wls,pts,sls,gts,E8,frs,vts,bls,sb,ints] at hi hg ⊢;(repeat first|refine uA ?_|(apply uK;· first|omega|(intros;simp_all<;>omega))|simp (disch:=omega) only [go_sem,Nat.reduceBEq]);(refine uJ rfl (fun hc=>?_) fun hc=>?_)
 ·have hgx:=c8q (show i < sarms.length by omega);have hga:=c8q (show i < arms.length by omega);generalize sarms[i]'_=x at hgx;generalize arms[i]'_=a at hga;have hz:=J5 hga hgx;have hst:=X6 (f:=a0c parts.length) (s:=h) hz;have hnx:=X8 (f:=a0c parts.length) (s:=h) hz;have ho:=hone a x (c8t hga) (c8t hgx);have hlk:=c7b h x.holds;have hpt:=c5u h x.holds;have hai:(i:Int) < arms.length:=by omega
  have hv:a0c parts.length h (a,x)=if a1Y a x parts.length ≠ 0 then (a1Y a x parts.length,h) else if (decide (0<=x.holds) && h.contains x.holds)=true then (10,h) else (0,a3k h x.holds):=rfl
  rw [hv] at hst hnx;clear hv;generalize a1Y a x parts.length=e1 at *;generalize h.contains x.holds=c1 at *;simp only [Am.c,Am.enc,Ast.c,Ast.enc,lks,rts,sb,ints] at ho;(repeat first|refine uA ?_|(apply uK;· first|omega|(intros;simp_all<;>omega))|simp (disch:=omega) only [go_sem,Nat.reduceBEq,Nat.reduceAdd,hga,hgx,c8s,c8r,Am.enc,Ast.enc,lks,rts,sb,ints,c8u]|(refine uD ho ?_ ?_ ?_;exact tz hw;rfl));refine S.cond rfl (fun hc2=>?_) (fun hc2=>?_)
  ·have h0:e1 ≠ 0:=by simpa using hc2
   rw [if_pos h0] at hst;rw [hg,hst h0,if_pos h0];(repeat first|refine uA ?_|(apply uK;· first|omega|(intros;simp_all<;>omega))|simp (disch:=omega) only [go_sem,Nat.reduceBEq]);exact uS rfl rfl
  have h0:e1=0:=by simpa using hc2
  rw [if_neg (by simp [h0])] at hst hnx;(repeat first|refine uA ?_|(apply uK;· first|omega|(intros;simp_all<;>omega))|simp (disch:=omega) only [go_sem,Nat.reduceBEq,Nat.reduceAdd,hlk]);refine S.cond rfl (fun hc3=>?_) (fun hc3=>?_)
  ·rw [if_pos hc3] at hst;rw [hg,hst (by simp),if_pos (by simp)];(repeat first|refine uA ?_|(apply uK;· first|omega|(intros;simp_all<;>omega))|simp (disch:=omega) only [go_sem]);exact uS rfl rfl
  ·rw [if_neg (by rw [hc3];decide)] at hnx;(repeat first|refine uA ?_|(apply uK;· first|omega|(intros;simp_all<;>omega))|simp (disch:=omega) only [go_sem,Nat.reduceBEq,Nat.reduceAdd,ww,hpt]);refine S.next (x:=(i,h)) (i+1,a3k h x.holds) ⟨by simp only;omega,by simp only;rw [hg,hnx rfl]⟩ (by simp only;omega) (by repeat first|refine uA ?_|(refine ⟨?_,?_⟩;· first|rfl|simp [slot])|rfl|simp)
 ·rw [hg,a0i (by rw [List.length_zip];omega),if_neg (by simp)];(repeat first|refine uA ?_|(apply uK;· first|omega|(intros;simp_all<;>omega))|simp (disch:=omega) only [go_sem,Nat.reduceBEq,Nat.reduceAdd]|(refine uD hfr ?_ ?_ ?_;exact tz hw;rfl)|(refine uD hvc ?_ ?_ ?_;exact tz hw;rfl));refine S.cond rfl (fun hc=>?_) (fun hc=>?_)
  ·rw [if_neg (by cases g1<;>cases g2<;>simp_all)];(repeat first|refine uA ?_|(apply uK;· first|omega|(intros;simp_all<;>omega))|simp (disch:=omega) only [go_sem]);exact uS rfl rfl
  ·rw [if_pos (by cases g1<;>cases g2<;>simp_all)];(repeat first|refine uA ?_|(apply uK;· first|omega|(intros;simp_all<;>omega))|simp (disch:=omega) only [go_sem]);exact uS rfl rfl
theorem O8:Rb 8 (Nm.ofQ 0):=⟨Nm.H6 (by decide),Nm.H6 (by decide)⟩
theorem a1q:FZ 56 [.v (.int .i64 0)] (rq 0):=by
 have:=a1y 0 (by decide) (by decide);rwa [show ((0:Int):Rat)=0 from rfl] at this
theorem c4r:FZ 77 [] a5G.c:=by
 refine kW Tryz.func77 (by cbv) (by rfl) fun w O hw=>?_;have h1:=a1q;have h2:=b2z (Nm.ofQ 0) (O8.m rfl);rw [Nm.l6] at h2;unfold tq rq at *;unfold a5G;generalize Nm.ofQ 0=r at *;simp only [j4,TT,II,OA,OB,LL];simp only [Fr.c,Fr.enc,rc,tc,sb] at *;(repeat first|refine uA ?_|(apply uK;· omega)|simp (disch:=omega) only [go_sem,Nat.reduceBEq]|(apply uD h1;exact tz hw;rfl)|(apply uD h2;exact tz hw;rfl));exact uS rfl rfl
open Go Eng
set_option maxHeartbeats 8000000
theorem b6q (a:Am) (q v:List Nm.Rt) (hl:Ab 1073741824 a) (ha:H9 a=0) (hq:q.length=a.links.length) (hv:v.length=a.links.length):FZ 158 [a.c,rts q,rts v] (ints 0):=by
 refine kW Tryz.func158 (by cbv) (by rfl) fun w O hw=>?_;have h:=a6l a hl;rw [ha] at h;have hn:=hl.2.2.1;obtain ⟨name,⟨x,y,half,t⟩,links⟩:=a;simp only at hq hv hn;simp only [j4,TT,II,OA,OC,MM,LL,VV,FF,MG,VG,FG];simp only [Am.c,Am.enc,lks,rts,sb,ints] at *;(repeat first|refine uA ?_|(apply uK;· omega)|simp (disch:=omega) only [go_sem,Nat.reduceBEq]|(apply uD h;exact tz hw;rfl));refine S.cond rfl (fun hc=>by simp at hc) (fun hc=>?_);(repeat first|refine uA ?_|(apply uK;· first|omega|(intros;simp_all<;>omega))|simp (disch:=omega) only [go_sem,Nat.reduceBEq,Nat.reduceAdd,c8r]);refine S.cond rfl (fun hc=>by simp only [c9f,Bool.not_eq_true',c8I] at hc;omega) (fun hc=>?_)
 (repeat first|refine uA ?_|(apply uK;· omega)|simp (disch:=omega) only [go_sem]);exact uS rfl rfl
theorem c4K {α:Type} {l m:List α} {i:Nat} {y:α} (f:α->List C) (hl:l.length=m.length) (hy:l[i]?=some y):((l.take i++m.drop i).map f).set i (f y)=(l.take (i+1)++m.drop (i+1)).map f:=by
 rw [<- List.map_set,c3K hl hy]
theorem c0X {α:Type} {f:α->Bool} {l:List α} {i:Nat} {x:α} (h:l[i]?=some x):(l.drop i).all f=(f x && (l.drop (i+1)).all f):=by
 rw [drop_at h,List.all_cons]
theorem take_at {α:Type} {l:List α} {i:Nat} {x:α} (h:l[i]?=some x):l.take (i+1)=l.take i++[x]:=by
 obtain ⟨hi,rfl⟩:=c8v.1 h;exact c9k hi
def tB:Nat->Nat
 | 0=>8
 | n+1=>2*(2*(tB n+2097664)+16+8)+16
def xB:Nat->Nat
 | 0=>8
 | n+1=>xB n+2*(8+4*tB n+18)+2+2*(8+4*(2*(tB n+2097664)+16)+18)+2
def Fx (i:Nat) (f:Fr):Prop:=Rb (xB i) f.x/\Rb (xB i) f.y/\Rb (tB i) f.t
theorem a6f {a:Am} (h:H9 a=0):Fx 0 a.base/\∀ l ∈ a.links,Rb 8 l.length:=by
 have hl:=(M7 h).2;unfold H9 at h;split at h
 ·cases h
 split at h
 ·cases h
 split at h
 ·cases h
 rename_i h1;have hs:(j5 a.base.x && j5 a.base.y && j5 a.base.t)=true:=by
  cases hb:(j5 a.base.x && j5 a.base.y && j5 a.base.t) with
  | true=>rfl
  | false=>exact absurd (.inr (.inl hb)) h1
 simp only [c8F] at hs;refine ⟨⟨(a2j hs.1.1).m rfl,(a2j hs.1.2).m rfl,(a2j hs.2).m rfl⟩,fun l hm=>?_⟩;have:=hl l hm;unfold R4 at this;split at this
 ·cases this
 rename_i h2;have hs2:(j5 l.length && j5 l.low && j5 l.high && j5 l.speed && j5 l.brake)=true:=by
  cases hb:(j5 l.length && j5 l.low && j5 l.high && j5 l.speed && j5 l.brake) with
  | true=>rfl
  | false=>exact absurd (.inl hb) h2
 simp only [c8F] at hs2;exact (a2j hs2.1.1.1.1).m rfl
set_option maxHeartbeats 16000000
def c6D (v:Vt) (z:Gt):Prop:=Nm.l8 (Nm.d9 v.x) (Nm.d9 z.low.x) < 0 \/ 0 < Nm.l8 (Nm.d9 v.x) (Nm.d9 z.high.x) \/ Nm.l8 (Nm.d9 v.y) (Nm.d9 z.low.y) < 0 \/ 0 < Nm.l8 (Nm.d9 v.y) (Nm.d9 z.high.y)
instance (v:Vt) (z:Gt):Decidable (c6D v z):=by unfold c6D;infer_instance
def wss (u:List (List Nm.Rt)):C:=.sl 1 (u.map fun l=>[rts l])
def Wsb (k:Nat) (u:List (List Nm.Rt)):Prop:=u.length<=k/\∀ l ∈ u,Rbs k l
theorem c6C {α β γ:Type} {f:α × β->γ} {l:List α} {m:List β} {z:γ} (h:z ∈ (l.zip m).map f):∃ a ∈ l,∃ b ∈ m,z=f (a,b):=by
 obtain ⟨⟨a,b⟩,hm,rfl⟩:=List.mem_map.1 h;exact ⟨a,(List.of_mem_zip hm).1,b,(List.of_mem_zip hm).2,rfl⟩
end Go.Proofs.YtpnbklgbfhgknaaGreatDoor
