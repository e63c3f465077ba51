/- A part of the proof: lemmas only, with the conditions that each names. -/
import Derived.Test.YtpnbklgbfhgknaaGreatDoorProg
import Derived.KernelRfl
import Derived.Test.YtpnbklgbfhgknaaGreatDoorJk5
set_option linter.all false
namespace Go.Proofs.YtpnbklgbfhgknaaGreatDoor
open Go Go.RowKit Eng
set_option maxRecDepth 100000
set_option maxHeartbeats 8000000
def Zr (k:Nat) (s:Sn):Prop:=Rb k s.lo/\Rb k s.hi
theorem Zr.mono {k m:Nat} {s:Sn} (h:Zr k s) (hk:k<=m):Zr m s:=⟨h.1.mono hk,h.2.mono hk⟩
theorem Zr.m {k m:Nat} {s:Sn} (h:Zr k s) (e:Nat.ble k m=true):Zr m s:=h.mono (c8G e)
def G6 (s:Sn):Sp:=if C8 s.lo=true/\C8 s.hi=true then ⟨Nm.d9 s.lo,Nm.d9 s.hi⟩ else ⟨0,0⟩
theorem a6u {k:Nat} {s:Sn} (h:Zr k s) (hk:1<=k):Zb k (G6 s):=by
 unfold G6;split
 ·exact ⟨h.1.fit hk,h.2.fit hk⟩
 ·exact ⟨a5k hk,a5k hk⟩
theorem c1l {s:Sn} (h:C8 s.lo=true/\C8 s.hi=true):s.c=(G6 s).c:=by
 unfold G6;rw [if_pos h];unfold Sp.c snQ;rw [Nm.a1V (of_decide_eq_true h.1),Nm.a1V (of_decide_eq_true h.2)]
theorem c1p {s:Sn} (h:¬ (C8 s.lo=true/\C8 s.hi=true)):G6 s=⟨0,0⟩:=if_neg h
theorem b9p (s:Sn) (hs:Zr 1073741824 s) (h:¬ (C8 s.lo=true/\C8 s.hi=true)):FZ 177 [s.c] (.v (.bool false)):=by
 refine kW Tryz.func177 (by cbv) (by rfl) fun w O hw=>?_;obtain ⟨x,y⟩:=s;obtain ⟨hp,hq⟩:=hs;simp only at hp hq h;have o1:=a0p x (hp.m rfl);have o2:=a0p y (hq.m rfl);have e:∀ a:Nm.Rt,decide a.F7=C8 a:=fun _=>rfl;rw [e] at o1 o2;have o3:=F6 x y (hp.m rfl) (hq.m rfl);generalize Nm.l8 (Nm.d9 x) (Nm.d9 y)=c at *;clear e;generalize C8 x=g1 at *;generalize C8 y=g2 at *;simp only [j4,TT,II,OA,OC,MM,LL,FF,LG,FG];simp only [Sn.c,Sn.enc,rc,sb,ints] at *;cases g1
 ·(repeat first|refine uG o1 ?_|refine uG o2 ?_|refine uG o3 ?_|refine uA ?_|(apply uK;· first|omega|(intros;simp_all<;>omega))|simp (disch:=omega) only [go_sem,Nat.reduceBEq,Nat.reduceAdd]|(apply uD o1;exact tz hw;rfl)|(apply uD o2;exact tz hw;rfl)|(apply uD o3;exact tz hw;rfl));exact uS rfl rfl
 ·cases g2
  ·(repeat first|refine uG o1 ?_|refine uG o2 ?_|refine uG o3 ?_|refine uA ?_|(apply uK;· first|omega|(intros;simp_all<;>omega))|simp (disch:=omega) only [go_sem,Nat.reduceBEq,Nat.reduceAdd]|(apply uD o1;exact tz hw;rfl)|(apply uD o2;exact tz hw;rfl)|(apply uD o3;exact tz hw;rfl));exact uS rfl rfl
  ·exact absurd ⟨rfl,rfl⟩ h
theorem c1E:G7 ⟨0,0⟩=⟨0,0⟩:=a8F Rat.le_refl
theorem b2Z (s:Sn) (hs:Zr 1073741824 s):FZ 135 [s.c] (G7 (G6 s)).c:=by
 by_cases h:C8 s.lo=true/\C8 s.hi=true
 ·rw [c1l h];exact a1l _ (a6u hs (by decide))
 refine kW Tryz.func135 (by cbv) (by rfl) fun w O hw=>?_;have o1:=b9p s hs h;have o2:=a1q;have o3:=Y2 (Nm.ofQ 0) (O8.m rfl);rw [Nm.l6] at o3;rw [c1p h,c1E];obtain ⟨x,y⟩:=s;unfold Sp.c snQ at *;unfold rq at *;simp only at o1 o3 ⊢;generalize Nm.ofQ 0=z at *;simp only [j4,TT,II,OA,OB,LL];simp only [Sn.c,Sn.enc,rc,sb] at o1 o2 o3 ⊢;(repeat first|refine uG o1 ?_|refine uA ?_|(apply uK;· omega)|simp (disch:=omega) only [go_sem,Nat.reduceBEq]|(apply uD o1;exact tz hw;rfl));refine S.cond rfl (fun hc=>?_) (fun hc=>by simp at hc)
 (repeat first|refine uG o2 ?_|refine uG o3 ?_|refine uA ?_|(apply uK;· omega)|simp (disch:=omega) only [go_sem,Nat.reduceBEq]|(apply uD o2;exact tz hw;rfl)|(apply uD o3;exact tz hw;rfl));exact uS rfl rfl
theorem b9o (t:Sn) (a:Sp) (hta:G6 t=a) (ht:Zr 1073741824 t):FZ 105 [t.c,t.c] (O4 a a).c:=by
 refine kW Tryz.func105 (by cbv) (by rfl) fun w O hw=>?_;have o1:=b2Z t ht;rw [hta] at o1;have fa:=K6 (a6u ht (by decide));rw [hta] at fa;unfold O4;generalize G7 a=a2 at *;obtain ⟨p,q⟩:=a2;have o3:=a2k (Nm.ofQ p) (Nm.ofQ p) (fa.1.m rfl) (fa.1.m rfl);have o4:=a3q (Nm.ofQ q) (Nm.ofQ q) (fa.2.m rfl) (fa.2.m rfl);rw [Nm.l6] at o3 o4;obtain ⟨a1,a2⟩:=t;unfold Sp.c snQ at *;unfold rq at *;simp only at o1 o3 o4 ⊢;generalize Nm.ofQ (u6 p p)=m1 at *;generalize Nm.ofQ (D8 q q)=m2 at *;generalize Nm.ofQ p=x at *;generalize Nm.ofQ q=y at *;simp only [j4,TT,OA,OB,LL,FF];simp only [Sn.c,Sn.enc,rc,sb] at o1 o3 o4 ⊢
 (repeat first|refine uG o1 ?_|refine uG o3 ?_|refine uG o4 ?_|refine uA ?_|(apply uK;· first|omega|(intros;simp_all<;>omega))|simp (disch:=omega) only [go_sem,Nat.reduceBEq,Nat.reduceAdd]|(apply uD o1;exact tz hw;rfl)|(apply uD o3;exact tz hw;rfl)|(apply uD o4;exact tz hw;rfl));exact uS rfl rfl
theorem c4M (t:Sn) (s:Sp) (hts:G6 t=s) (ht:Zr 268435456 t):FZ 228 [t.c] (a5S s).c:=by
 refine kW Tryz.func228 (by cbv) (by rfl) fun w O hw=>?_;have o1:=b2Z t (ht.m rfl);have hs:=a6u ht (by decide);rw [hts] at o1 hs;clear hts;have fs:=K6 hs;have hsq:=c2W hs;have o4:=a1q;have o5:=a8v (G7 s) (Nm.ofQ 0) (fs.m rfl) (O8.m rfl);rw [Nm.l6] at o5;unfold a5S;unfold sqI at *;generalize hfs:G7 s=s2 at *;obtain ⟨p,q⟩:=s2
 try simp only at fs hsq ⊢
 have o2:=a1g p p (fs.1.m rfl) (fs.1.m rfl);have o3:=a1g q q (fs.2.m rfl) (fs.2.m rfl);have o7:=b3p (p*p) [q*q] ((y9 fs.1 fs.1).m rfl) (fun x hx=>by
  rw [List.mem_singleton] at hx;subst hx;exact (y9 fs.2 fs.2).m rfl) (by simp)
 generalize arF (p*p) [q*q]=R at *;generalize X9 ⟨p,q⟩ 0=b at *;obtain ⟨s1,s2⟩:=t;obtain ⟨r1,r2⟩:=R;unfold Sp.c snQ at *;unfold rq at *;simp only [c8K,c8O] at o1 o5 o7 ⊢;generalize Nm.ofQ (p*p)=m1 at *;generalize Nm.ofQ (q*q)=m2 at *;have hz:∀ b:Bool,(if b=true then (⟨0,r2⟩:Sp) else ⟨r1,r2⟩)=⟨if b=true then 0 else r1,r2⟩:=fun b=>by cases b<;>rfl
 rw [hz];simp only;cases b
 ·simp only [c9d,if_false];generalize Nm.ofQ 0=z0 at *;generalize Nm.ofQ p=x at *;generalize Nm.ofQ q=y at *;generalize Nm.ofQ r1=n5 at *;generalize Nm.ofQ r2=n6 at *;simp only [j4,TT,II,OA,OB,LL,FF];simp only [Sn.c,Sn.enc,rc,rcs,sb] at o1 o2 o3 o4 o5 o7 ⊢
  (repeat first|refine uG o1 ?_|refine uG o2 ?_|refine uG o3 ?_|refine uG o4 ?_|refine uG o5 ?_|refine uG o7 ?_|refine uA ?_|(apply uK;· first|omega|(intros;simp_all<;>omega))|simp (disch:=omega) only [go_sem,Nat.reduceBEq,Nat.reduceAdd]|(refine uD o1 ?_ ?_ ?_;exact tz hw;rfl)|(refine uD o2 ?_ ?_ ?_;exact tz hw;rfl)|(refine uD o3 ?_ ?_ ?_;exact tz hw;rfl)|(refine uD o4 ?_ ?_ ?_;exact tz hw;rfl)|(refine uD o5 ?_ ?_ ?_;exact tz hw;rfl)|(refine uE o7 ?_ ?_ ?_ ?_;exact tz hw;exact rfl;focus (repeat' first|exact j3.nil|exact Imp.refl rfl|exact Imp.frz rfl rfl rfl|(refine Imp.K5 rfl rfl ?_ ?_;(focus ((try simp only [c8A]);omega));(focus first|rfl|assumption))|refine j3.cons ?_ ?_);done))
  refine S.cond rfl (fun hc=>by simp at hc) (fun hc=>?_);(repeat first|refine uA ?_|(apply uK;· first|omega|(intros;simp_all<;>omega))|simp (disch:=omega) only [go_sem,Nat.reduceBEq,Nat.reduceAdd]);exact uS rfl rfl
 ·simp only [if_true];generalize Nm.ofQ 0=z0 at *;generalize Nm.ofQ p=x at *;generalize Nm.ofQ q=y at *;generalize Nm.ofQ r1=n5 at *;generalize Nm.ofQ r2=n6 at *;simp only [j4,TT,II,OA,OB,LL,FF];simp only [Sn.c,Sn.enc,rc,rcs,sb] at o1 o2 o3 o4 o5 o7 ⊢
  (repeat first|refine uG o1 ?_|refine uG o2 ?_|refine uG o3 ?_|refine uG o4 ?_|refine uG o5 ?_|refine uG o7 ?_|refine uA ?_|(apply uK;· first|omega|(intros;simp_all<;>omega))|simp (disch:=omega) only [go_sem,Nat.reduceBEq,Nat.reduceAdd]|(refine uD o1 ?_ ?_ ?_;exact tz hw;rfl)|(refine uD o2 ?_ ?_ ?_;exact tz hw;rfl)|(refine uD o3 ?_ ?_ ?_;exact tz hw;rfl)|(refine uD o4 ?_ ?_ ?_;exact tz hw;rfl)|(refine uD o5 ?_ ?_ ?_;exact tz hw;rfl)|(refine uE o7 ?_ ?_ ?_ ?_;exact tz hw;exact rfl;focus (repeat' first|exact j3.nil|exact Imp.refl rfl|exact Imp.frz rfl rfl rfl|(refine Imp.K5 rfl rfl ?_ ?_;(focus ((try simp only [c8A]);omega));(focus first|rfl|assumption))|refine j3.cons ?_ ?_);done))
  refine S.cond rfl (fun hc=>?_) (fun hc=>by simp at hc);(repeat first|refine uG o4 ?_|refine uA ?_|(apply uK;· first|omega|(intros;simp_all<;>omega))|simp (disch:=omega) only [go_sem,Nat.reduceBEq,Nat.reduceAdd]|(refine uD o4 ?_ ?_ ?_;exact tz hw;rfl));exact uS rfl rfl
theorem c5Q (r:Sn) (s:Sp) (hrs:G6 r=s) (hr:Zr 268435456 r):FZ 199 [r.c] (a9q s).c:=by
 refine kW Tryz.func199 (by cbv) (by rfl) fun w O hw=>?_;have o1:=c4M r s hrs hr;have hs:=a6u hr (by decide);rw [hrs] at hs;have fs:=b2W hs;have hp:=a5l s;unfold a9q;generalize a5S s=t at *;obtain ⟨p,q⟩:=t;have o2:=b8O q hp.2 (fs.2.m rfl);have o3:=b8O p hp.1 (fs.1.m rfl);obtain ⟨s1,s2⟩:=r;unfold Sp.c snQ at *;unfold rq at *;simp only at o1 ⊢;generalize Nm.ofQ (a6V p)=m1 at *;generalize Nm.ofQ (a6V q)=m2 at *;generalize Nm.ofQ p=m3 at *;generalize Nm.ofQ q=m4 at *;simp only [j4,TT,OA,OB,MM,LL,FF];simp only [Sn.c,Sn.enc,rc,sb] at o1 o2 o3 ⊢;(repeat first|refine uG o1 ?_|refine uA ?_|(apply uK;· omega)|simp (disch:=omega) only [go_sem,Nat.reduceBEq]|(apply uD o1;exact tz hw;rfl))
 refine ⟨rfl,?_⟩;(repeat first|refine uG o2 ?_|refine uA ?_|(apply uK;· first|omega|(intros;simp_all<;>omega))|simp (disch:=omega) only [go_sem,Nat.reduceBEq,Nat.reduceAdd]|(apply uD o2;exact tz hw;rfl));refine ⟨rfl,?_⟩;(repeat first|refine uG o3 ?_|refine uA ?_|(apply uK;· omega)|simp (disch:=omega) only [go_sem,Nat.reduceBEq]|(apply uD o3;exact tz hw;rfl));exact uS rfl rfl
theorem c5L (r:Sn) (t:Sp) (hrt:G6 r=t) (hr:Zr 16777216 r):FZ 200 [r.c] (a9x t).c:=by
 refine kW Tryz.func200 (by cbv) (by rfl) fun w O hw=>?_;have o1:=b9o r t hrt (hr.m rfl);have hs:=a6u hr (by decide);rw [hrt] at hs;have b1:=a3O hs hs;unfold a9x;generalize O4 t t=u at *;have o2:=b2z (Nm.ofQ u.lo) (b1.1.m rfl);have o3:=b2z (Nm.ofQ u.hi) (b1.2.m rfl);have o4:=b3H false (Nm.ofQ u.lo) (b1.1.m rfl);have o5:=b3H false (Nm.ofQ u.hi) (b1.2.m rfl);simp only [K7,c9d,if_false] at o4 o5;rw [Nm.l6] at o2 o3 o4 o5;have c1:=a4q b1.1;have c2:=a4q b1.2;have o6:=Y2 (Nm.ofQ (Y3 u.lo)) (c1.m rfl);have o7:=Y2 (Nm.ofQ (Y3 u.hi)) (c2.m rfl);rw [Nm.l6] at o6 o7;have o8:=a5s (ptQ (Y3 u.lo)) (ptQ (Y3 u.hi)) ⟨c1.m rfl,c1.m rfl⟩ ⟨c2.m rfl,c2.m rfl⟩
 rw [show O4 (ptQ (Y3 u.lo)) (ptQ (Y3 u.hi))=b7A u from rfl] at o8;have d0:=b8L b1;generalize b7A u=s at *;unfold ptQ at o8;generalize Y3 u.lo=x1 at *;generalize Y3 u.hi=x2 at *;have hI:a3J u s []=s:=rfl;obtain ⟨L,hL,hn,hm⟩:∃ L:List Int,L=[-1,1]/\L.length=2/\∀ n ∈ L,n=-1 \/ n=1:=⟨_,rfl,rfl,by simp⟩
 rw [<- hL];simp only [j4,TT,II,OA,OB,MM,LL,VV,FF];simp only [Sp.c,Sn.c,Sn.enc,snQ,rq,tq,rc,tc,sb] at o1 o2 o3 o4 o5 o6 o7 o8 ⊢
 (repeat first|refine uG o1 ?_|refine uG o2 ?_|refine uG o3 ?_|refine uG o4 ?_|refine uG o5 ?_|refine uG o6 ?_|refine uG o7 ?_|refine uG o8 ?_|refine uA ?_|(apply uK;· first|omega|(intros;simp_all<;>omega))|simp (disch:=omega) only [go_sem,Nat.reduceBEq,Nat.reduceAdd]|(refine uD o1 ?_ ?_ ?_;exact tz hw;rfl)|(refine uD o2 ?_ ?_ ?_;exact tz hw;rfl)|(refine uD o3 ?_ ?_ ?_;exact tz hw;rfl)|(refine uD o4 ?_ ?_ ?_;exact tz hw;rfl)|(refine uD o5 ?_ ?_ ?_;exact tz hw;rfl)|(refine uD o6 ?_ ?_ ?_;exact tz hw;rfl)|(refine uD o7 ?_ ?_ ?_;exact tz hw;rfl)|(refine uD o8 ?_ ?_ ?_;exact tz hw;rfl))
 refine S.loop (X:=Nat) (fun i=>⟨[(1,.bp 0 0),(2,.bp 1 0),(3,.bp 2 0),(21,.rv 3),(22,ints L.length),(23,ints i)],[.box 98 u.enc,.box 98 [.v (.bool false),sb [],sb [],.v (.bool false),sb [],sb []],.box 98 (a3J u s (L.take i)).enc,.row 3 1 (L.map fun n=>[ints n])]⟩) (fun i=>i<=L.length) (fun i=>L.length-i) 0 (c8w _) (by simp only [List.take_zero,hI,hL,Sp.enc,snQ,Sn.enc,sb];exact (by repeat first|refine uA ?_|(refine ⟨?_,?_⟩;· first|rfl|simp [slot])|rfl|simp)) ?_;intro i hi;clear o1 o2 o3 o4 o5 o6 o7 o8 hI hL;simp only [Sp.enc,Sn.enc,snQ,sb,ints];(repeat first|refine uA ?_|(apply uK;· first|omega|(intros;simp_all<;>omega))|simp (disch:=omega) only [go_sem,Nat.reduceBEq])
 (refine uJ rfl (fun hc=>?_) fun hc=>?_)
 ·have hi':i < L.length:=by omega
  have hg:=c8q hi';generalize L[i]=n at *;have hsu:=b9T u s hg;have hu:=hm n (c8t hg);have ru:=b5U (k:=16777216) (by decide) hu;have o1:=a1y n (by omega) (by omega);have o2:=a8v u (Nm.ofQ (n:Rat)) (b1.m rfl) (ru.m rfl);have o3:=Y2 (Nm.ofQ (n:Rat)) (ru.m rfl);have dI:Zb 67108882 (a3J u s (L.take i)):=b3n (by decide) _ _ (d0.m rfl) fun m h=>hm m (List.mem_of_mem_take h);have o4:=a5s (a3J u s (L.take i)) (ptQ n) (dI.m rfl) ⟨ru.m rfl,ru.m rfl⟩;rw [Nm.l6] at o2 o3;generalize a3J u s (L.take i)=v at *;unfold ptQ at o4 hsu;generalize X9 u (n:Rat)=b at *;clear ru dI d0 b1 c1 c2 hu hm;generalize (n:Rat)=q at *;generalize O4 v ⟨q,q⟩=v3 at *;simp only [Sp.c,Sn.c,Sn.enc,snQ,rq,rc,sb,ints] at o1 o2 o3 o4
  (repeat first|refine uG o1 ?_|refine uG o2 ?_|refine uA ?_|(apply uK;· first|omega|(intros;simp_all<;>omega))|simp (disch:=omega) only [go_sem,Nat.reduceBEq,Nat.reduceAdd,hg,c8s,c8r,c8u]|(refine uD o1 ?_ ?_ ?_;exact tz hw;rfl)|(refine uD o2 ?_ ?_ ?_;exact tz hw;rfl));refine S.cond rfl (fun hc=>?_) (fun hc=>?_)
  ·rw [if_pos (by simpa using hc)] at hsu;(repeat first|refine uG o3 ?_|refine uG o4 ?_|refine uA ?_|(apply uK;· first|omega|(intros;simp_all<;>omega))|simp (disch:=omega) only [go_sem,Nat.reduceBEq,Nat.reduceAdd,ww]|(refine uD o3 ?_ ?_ ?_;exact tz hw;rfl)|(refine uD o4 ?_ ?_ ?_;exact tz hw;rfl));refine S.next (i+1) (by omega) (by omega) (by rw [hsu];exact (by repeat first|refine uA ?_|(refine ⟨?_,?_⟩;· first|rfl|simp [slot])|rfl|simp))
  ·rw [if_neg (by simpa using hc)] at hsu;(repeat first|refine uA ?_|(apply uK;· first|omega|(intros;simp_all<;>omega))|simp (disch:=omega) only [go_sem,Nat.reduceBEq,ww]);refine S.next (i+1) (by omega) (by omega) (by rw [hsu];exact (by repeat first|refine uA ?_|(refine ⟨?_,?_⟩;· first|rfl|simp [slot])|rfl|simp))
 ·have hi':i=L.length:=by omega
  subst hi';rw [c8J];(repeat first|refine uA ?_|(apply uK;· first|omega|(intros;simp_all<;>omega))|simp (disch:=omega) only [go_sem,Nat.reduceBEq,Nat.reduceAdd]);exact uS rfl rfl
set_option maxHeartbeats 16000000
def SC:Nat->Nat
 | 0=>262144
 | 1=>9000000
 | 2=>27000000
 | _=>63000000
def SX:Nat->Nat
 | 0=>262144
 | 1=>9300000
 | 2=>36400000
 | _=>99500000
def Zm (i:Nat) (l:Lq):Prop:=Zb (SX i) l.x/\Zb (SX i) l.y/\Zb (SC i) l.c/\Zb (SC i) l.s
theorem Zm.lt {i:Nat} {l:Lq} (h:Zm i l) (hi:i < 3):Zb 36400000 l.x/\Zb 36400000 l.y/\Zb 27000000 l.c/\Zb 27000000 l.s:=by
 rcases (show i=0 \/ i=1 \/ i=2 by omega) with rfl|rfl|rfl
 ·exact ⟨h.1.m rfl,h.2.1.m rfl,h.2.2.1.m rfl,h.2.2.2.m rfl⟩
 ·exact ⟨h.1.m rfl,h.2.1.m rfl,h.2.2.1.m rfl,h.2.2.2.m rfl⟩
 ·exact h
theorem b6d (l:Lq) (v:Vt) (hl:Zl 134217728 l) (h1:Rb 16777216 v.x) (h2:Rb 16777216 v.y):FZ 170 [.agg l.enc,.agg v.enc] (.tup [(atX l v).c,(atY l v).c]):=by
 refine kW Tryz.func170 (by cbv) (by rfl) fun w O hw=>?_;obtain ⟨lx,ly,lc,ls⟩:=l;obtain ⟨v1,v2⟩:=v;obtain ⟨b1,b2,b3,b4⟩:=hl;simp only at b1 b2 b3 b4 h1 h2;have o1:=Y2 v1 (h1.m rfl);have o2:=Y2 v2 (h2.m rfl);have p1:=a3X h1 (by decide);have p2:=a3X h2 (by decide);have o3:=a1N (ptS v1) lc (p1.m rfl) (b3.m rfl);have o4:=a1N (ptS v2) ls (p2.m rfl) (b4.m rfl);have m3:=V7 p1 b3;have m4:=V7 p2 b4;have o5:=b6s _ _ (m3.m rfl) (m4.m rfl);have m5:=b1f m3 m4;have o6:=a4O lx _ (b1.m rfl) (m5.m rfl);have o7:=a1N (ptS v1) ls (p1.m rfl) (b4.m rfl);have o8:=a1N (ptS v2) lc (p2.m rfl) (b3.m rfl);have m7:=V7 p1 b4;have m8:=V7 p2 b3;have o9:=a4O _ _ (m7.m rfl) (m8.m rfl);have m9:=a3C m7 m8
 have oa:=a4O ly _ (b2.m rfl) (m9.m rfl);clear m3 m4 m5 m7 m8 m9 b1 b2 b3 b4 h1 h2 p1 p2;unfold atX atY;simp only;rw [show Sp.mk (Nm.d9 v1) (Nm.d9 v1)=ptS v1 from rfl] at o1;rw [show Sp.mk (Nm.d9 v2) (Nm.d9 v2)=ptS v2 from rfl] at o2;simp only [j4,TT,OA,OB,LL,FF];generalize I8 (ptS v1) lc=s1 at *;generalize I8 (ptS v2) ls=s2 at *;generalize a2L s1 s2=s3 at *;generalize I8 (ptS v1) ls=s4 at *;generalize I8 (ptS v2) lc=s5 at *;generalize U8 s4 s5=s6 at *;generalize ptS v1=s7 at *;generalize ptS v2=s8 at *;generalize U8 lx s3=s9 at *;generalize U8 ly s6=s10 at *;simp only [Vt.enc,Lq.enc,Sp.enc,Sp.c,Sn.c,Sn.enc,snQ,rc,sb,List.cons_append,List.nil_append] at o1 o2 o3 o4 o5 o6 o7 o8 o9 oa ⊢
 (repeat first|refine uA ?_|(apply uK;· first|omega|(intros;simp_all<;>omega))|simp (disch:=omega) only [go_sem,Nat.reduceBEq,Nat.reduceAdd]|(refine uD o1 ?_ ?_ ?_;exact tz hw;rfl)|(refine uD o2 ?_ ?_ ?_;exact tz hw;rfl)|(refine uD o3 ?_ ?_ ?_;exact tz hw;rfl)|(refine uD o4 ?_ ?_ ?_;exact tz hw;rfl)|(refine uD o5 ?_ ?_ ?_;exact tz hw;rfl)|(refine uD o6 ?_ ?_ ?_;exact tz hw;rfl)|(refine uD o7 ?_ ?_ ?_;exact tz hw;rfl)|(refine uD o8 ?_ ?_ ?_;exact tz hw;rfl)|(refine uD o9 ?_ ?_ ?_;exact tz hw;rfl)|(refine uD oa ?_ ?_ ?_;exact tz hw;rfl));exact uQ rfl (Imp.tup (by repeat' first|exact j3.nil|exact Imp.refl rfl|apply j3.cons)) rfl rfl
def a1B (g:Fr) (l:List Vt):Rat:=l.foldl (fun m c=>D8 m (q9 (Nm.d9 c.x-Nm.d9 g.x)+q9 (Nm.d9 c.y-Nm.d9 g.y))) 0
theorem b1G (g:Fr) {l:List Vt} {i:Nat} {c:Vt} (h:l[i]?=some c):a1B g (l.take (i+1))=D8 (a1B g (l.take i)) (q9 (Nm.d9 c.x-Nm.d9 g.x)+q9 (Nm.d9 c.y-Nm.d9 g.y)):=by
 unfold a1B;rw [take_at h,List.foldl_append];rfl
theorem a9V {g:Fr} (hx:Rb 1048576 g.x) (hy:Rb 1048576 g.y):∀ (l:List Vt) (m:Rat),(∀ v ∈ l,Rb 1048576 v.x/\Rb 1048576 v.y)->Rb 4194400 (Nm.ofQ m)->Rb 4194400 (Nm.ofQ (l.foldl (fun m c=>D8 m (q9 (Nm.d9 c.x-Nm.d9 g.x)+q9 (Nm.d9 c.y-Nm.d9 g.y))) m))
 | [],_,_,hm=>hm
 | c::r,m,hv,hm=>by
  have h:=hv c (by simp);exact a9V hx hy r _ (fun v hm=>hv v (by simp [hm])) (a0T hm ((I5 (X5 (F9 (h.1.g rfl) (hx.g rfl))) (X5 (F9 (h.2.g rfl) (hy.g rfl)))).m rfl))
def a6Q (a:Am) (Q:List Sp):Bq:=(a1I a Q).getD a.links.length ⟨0,0,0,0⟩
theorem a8z {a:Am} {Q:List Sp} (h:Q.length=a.links.length):(a1I a Q)[a.links.length]?=some (a6Q a Q)/\(a1I a Q).length=a.links.length+1:=by
 have hl:(a1I a Q).length=a.links.length+1:=by
  unfold a1I;rw [c8r,a2r,List.length_zip];omega
 refine ⟨?_,hl⟩;unfold a6Q;rw [c8C,c8q (by omega)];rfl
set_option maxHeartbeats 8000000
structure Jo (l:Lk) (v:Nm.Rt):Prop where
 hb:Rb 3 l.brake
 hv:Rb 1048576 v
 pos:0 < q8 (Nm.d9 l.brake)
theorem c1b (q:Rat) (h0:0<=q.floor):(flI q=q.floor/\flE q=0) \/ (flI q=0/\flE q=2/\2000 < q.floor):=by
 unfold flI flE;by_cases h:q.floor.natAbs < 9223372036854775808
 ·exact .inl ⟨if_pos h,if_pos h⟩
 ·exact .inr ⟨if_neg h,if_neg h,by omega⟩
theorem a9m (l:Lk) (v:Nm.Rt) (h:Jo l v):FZ 107 [l.c,rc v] (.tup [ints (if r9 (Nm.d9 l.brake) (Nm.d9 v)<=2000 then r9 (Nm.d9 l.brake) (Nm.d9 v) else 0),ints (if r9 (Nm.d9 l.brake) (Nm.d9 v)<=2000 then 0 else 2)]):=by
 refine kW Tryz.func107 (by cbv) (by rfl) fun w O hw=>?_;obtain ⟨hb,hv,h0⟩:=h;have hB:=a9Z h0;have hne:Nm.d9 l.brake ≠ 0:=by grind
 have ra:=X5 (hv.g rfl);have rd:=a7C hne ra (hb.g rfl);have o1:=M8 l.brake (hb.m rfl);have o2:=a4H v (hv.m rfl);have o3:=b4h (Nm.ofQ (q9 (Nm.d9 v))) l.brake (ra.m rfl) (hb.m rfl);rw [Nm.l6] at o3;unfold a3r a9r at o3;rw [if_neg hne,if_neg hne] at o3;have hq0:0<=q9 (Nm.d9 v) / Nm.d9 l.brake:=by
  rw [Rat.div_def];exact Rat.mul_nonneg (abs_nonneg _) (Rat.le_of_lt (Rat.inv_pos.2 hB))
 have hTd:r9 (Nm.d9 l.brake) (Nm.d9 v)=if ((q9 (Nm.d9 v) / Nm.d9 l.brake).floor:Rat) < q9 (Nm.d9 v) / Nm.d9 l.brake then (q9 (Nm.d9 v) / Nm.d9 l.brake).floor+1 else (q9 (Nm.d9 v) / Nm.d9 l.brake).floor:=rfl
 have hf0:=b3Z hq0;generalize q9 (Nm.d9 v) / Nm.d9 l.brake=q at *;generalize r9 (Nm.d9 l.brake) (Nm.d9 v)=T at *;have o4:=a9E (Nm.ofQ q) (rd.m rfl);rw [Nm.l6] at o4;have hfl:=c1b q hf0;have o5:=fun hF:q.floor<=2000=>a1y q.floor (by omega) (by omega);have o6:=fun hF:q.floor<=2000=>F6 (Nm.ofQ (q.floor:Rat)) (Nm.ofQ q) ((a4h (by omega)).m rfl) (rd.m rfl);rw [Nm.l6,Nm.l6] at o6;have hcn:=Y6 (q.floor:Rat) q;have hTd2:T=if Nm.l8 (q.floor:Rat) q < 0 then q.floor+1 else q.floor:=by
  rw [hTd];by_cases hc:(q.floor:Rat) < q
  ·rw [if_pos hc,if_pos (hcn.2 hc)]
  ·rw [if_neg hc,if_neg fun h=>hc (hcn.1 h)]
 clear hcn hTd;generalize Nm.l8 (q.floor:Rat) q=cc at *;generalize flI q=fi at *;generalize flE q=fe at *;generalize q.floor=F at *;have hT1:(fe ≠ 0 \/ 2000 < fi)->¬ T<=2000:=fun h=>by
  split at hTd2<;>omega
 have hT2:¬ (fe ≠ 0 \/ 2000 < fi)->fi=F/\F<=2000:=fun h=>by omega
 unfold rq at *;generalize Nm.ofQ (q9 (Nm.d9 v))=z1 at *;generalize Nm.ofQ q=z2 at *;generalize Nm.ofQ (F:Rat)=z3 at *;generalize q8 (Nm.d9 l.brake)=sg at *;simp only [j4,TT,II,OA,OB,OC,MM,LL,FF,MG];simp only [Lk.c,Lk.enc,rc,vts,sb,ints] at *;(repeat first|refine uA ?_|(apply uK;· first|omega|(intros;simp_all<;>omega))|simp (disch:=omega) only [go_sem,Nat.reduceBEq,Nat.reduceAdd]|(apply uD o1;exact tz hw;rfl));refine S.cond rfl (fun hc=>by simp at hc;omega) (fun hc=>?_)
 (repeat first|refine uA ?_|(apply uK;· first|omega|(intros;simp_all<;>omega))|simp (disch:=omega) only [go_sem,Nat.reduceBEq,Nat.reduceAdd]|(apply uD o2;exact tz hw;rfl)|(apply uD o3;exact tz hw;rfl)|(apply uD o4;exact tz hw;rfl));refine S.cond rfl (fun hc=>?_) (fun hc=>?_)
 ·have hT:=hT1 (by by_cases k:fe=0<;>simp_all);rw [if_neg hT,if_neg hT];(repeat first|refine uA ?_|(apply uK;· omega)|simp (disch:=omega) only [go_sem]);(refine S.done ?_;simp only [D6,go_sem,Nat.reduceBEq];exact p8.out rfl (Imp.tup (by repeat' first|exact j3.nil|exact Imp.refl rfl|apply j3.cons)) rfl)
 obtain ⟨rfl,hF⟩:=hT2 (by by_cases k:fe=0<;>simp_all);have o5:=o5 hF;have o6:=o6 hF;(repeat first|refine uA ?_|(apply uK;· omega)|simp (disch:=omega) only [go_sem,Nat.reduceBEq]|(apply uD o5;exact tz hw;rfl)|(apply uD o6;exact tz hw;rfl));refine S.cond rfl (fun hc=>?_) (fun hc=>?_)
 ·rw [if_pos (by simpa using hc)] at hTd2;subst hTd2;(repeat first|refine uA ?_|(apply uK;· omega)|simp (disch:=omega) only [go_sem,Nat.reduceBEq,ww]);refine S.cond rfl (fun hc=>?_) (fun hc=>?_)
  ·have hT:¬ fi+1<=2000:=by simp at hc;omega
   rw [if_neg hT,if_neg hT];(repeat first|refine uA ?_|(apply uK;· omega)|simp (disch:=omega) only [go_sem]);(refine S.done ?_;simp only [D6,go_sem,Nat.reduceBEq];exact p8.out rfl (Imp.tup (by repeat' first|exact j3.nil|exact Imp.refl rfl|apply j3.cons)) rfl)
  ·have hT:fi+1<=2000:=by simp at hc;omega
   rw [if_pos hT,if_pos hT];(repeat first|refine uA ?_|(apply uK;· omega)|simp (disch:=omega) only [go_sem,Nat.reduceBEq]);(refine S.done ?_;simp only [D6,go_sem,Nat.reduceBEq];exact p8.out rfl (Imp.tup (by repeat' first|exact j3.nil|exact Imp.refl rfl|apply j3.cons)) rfl)
 ·rw [if_neg (by simpa using hc)] at hTd2;subst hTd2;rw [if_pos hF,if_pos hF];(repeat first|refine uA ?_|(apply uK;· omega)|simp (disch:=omega) only [go_sem,Nat.reduceBEq]);refine S.cond rfl (fun hc=>by simp at hc;omega) (fun hc=>?_);(repeat first|refine uA ?_|(apply uK;· omega)|simp (disch:=omega) only [go_sem,Nat.reduceBEq]);(refine S.done ?_;simp only [D6,go_sem,Nat.reduceBEq];exact p8.out rfl (Imp.tup (by repeat' first|exact j3.nil|exact Imp.refl rfl|apply j3.cons)) rfl)
def c1t:C:=.agg [.v (.bool false),sb [],sb []]
theorem c5B (l:Lk) (v:Nm.Rt) (h:Jo l v) (hle:¬ r9 (Nm.d9 l.brake) (Nm.d9 v)<=2000):FZ 159 [l.c,rc v] (.tup [c1t,ints 2]):=by
 refine kW Tryz.func159 (by cbv) (by rfl) fun w O hw=>?_;have o1:=a9m l v h;rw [if_neg hle,if_neg hle] at o1;unfold c1t;simp only [j4,TT,II,OA,OB,MM,LL,FF];simp only [Lk.c,Lk.enc,rc,vts,sb,ints] at *;(repeat first|refine uA ?_|(apply uK;· first|omega|(intros;simp_all<;>omega))|simp (disch:=omega) only [go_sem,Nat.reduceBEq,Nat.reduceAdd]|(apply uD o1;exact tz hw;rfl));refine S.cond rfl (fun hc=>?_) (fun hc=>by simp at hc);(repeat first|refine uA ?_|(apply uK;· omega)|simp (disch:=omega) only [go_sem,Nat.reduceBEq]);exact uQ rfl (Imp.tup (by repeat' first|exact j3.nil|exact Imp.refl rfl|apply j3.cons)) rfl rfl
theorem a8r {l:Lk} {v:Nm.Rt} (h:Jo l v) (hle:r9 (Nm.d9 l.brake) (Nm.d9 v)<=2000):Rb 1048704 (Nm.ofQ (X3 l v)):=by
 obtain ⟨hb,hv,h0⟩:=h;have hs:sgQ (Nm.d9 v)=1 \/ sgQ (Nm.d9 v)=-1:=by unfold sgQ;split<;>simp
 have ra:=X5 (hv.g rfl);have rb:=hb.g rfl;have hw:Rb 1048704 (Nm.ofQ (a5d (Nm.d9 l.brake) (q9 (Nm.d9 v)) (r9 (Nm.d9 l.brake) (Nm.d9 v)).toNat)):=by
  have hn:(r9 (Nm.d9 l.brake) (Nm.d9 v)).toNat<=2000:=by omega
  generalize (r9 (Nm.d9 l.brake) (Nm.d9 v)).toNat=n at *;have hm:n*(n-1)<=2000*2000:=Nat.mul_le_mul hn (by omega);have i1:Rb 8 (Nm.ofQ ((n-1:Nat):Rat)):=a4h (n:=((n-1:Nat):Int)) (by omega);have i2:Rb 8 (Nm.ofQ ((n*(n-1) / 2:Nat):Rat)):=a4h (n:=((n*(n-1) / 2:Nat):Int)) (by omega);unfold a5d;split
  ·exact O8.m rfl
  ·exact (F9 (y9 i1 ra) (y9 rb i2)).m rfl
 unfold X3;rcases hs with e|e<;>rw [e]
 ·rw [Rat.one_mul];exact hw
 ·rw [show (-1:Rat)*a5d (Nm.d9 l.brake) (q9 (Nm.d9 v)) (r9 (Nm.d9 l.brake) (Nm.d9 v)).toNat=-a5d (Nm.d9 l.brake) (q9 (Nm.d9 v)) (r9 (Nm.d9 l.brake) (Nm.d9 v)).toNat by grind];exact a0x hw
theorem b9w (l:Lk) (v:Nm.Rt) (h:Jo l v) (hle:r9 (Nm.d9 l.brake) (Nm.d9 v)<=2000):FZ 159 [l.c,rc v] (.tup [rq (X3 l v),ints 0]):=by
 refine kW Tryz.func159 (by cbv) (by rfl) fun w O hw=>?_;have o1:=a9m l v h;rw [if_pos hle,if_pos hle] at o1;obtain ⟨hb,hv,h0⟩:=h;have hT:=(a4Y (V:=Nm.d9 v) (a9Z h0)).1;have ra:=X5 (hv.g rfl);have rb:=hb.g rfl;have o2:=a1q;have o3:=a4H v (hv.m rfl);have o4:=M8 v (hv.m rfl);have hsn:=c2v (Nm.d9 v);unfold X3 sgQ a5d;obtain ⟨n,hn⟩:∃ n:Nat,r9 (Nm.d9 l.brake) (Nm.d9 v)=n:=⟨(r9 (Nm.d9 l.brake) (Nm.d9 v)).toNat,by omega⟩
 rw [hn] at hle o1 ⊢;rw [c8u];clear hn;generalize q9 (Nm.d9 v)=V at *;generalize hBq:Nm.d9 l.brake=B at *;by_cases h2:n < 2
 ·rw [if_pos h2,show (if Nm.d9 v < 0 then (-1:Rat) else 1)*0=0 by grind];unfold rq at *;generalize Nm.ofQ 0=z at *;simp only [j4,TT,II,OA,OB,MM,LL,FF];simp only [Lk.c,Lk.enc,rc,vts,sb,ints] at *;(repeat first|refine uA ?_|(apply uK;· first|omega|(intros;simp_all<;>omega))|simp (disch:=omega) only [go_sem,Nat.reduceBEq,Nat.reduceAdd]|(apply uD o1;exact tz hw;rfl));refine S.cond rfl (fun hc=>by simp at hc) (fun hc=>?_);(repeat first|refine uA ?_|(apply uK;· omega)|simp (disch:=omega) only [go_sem,Nat.reduceBEq]);refine S.cond rfl (fun hc=>?_) (fun hc=>by simp at hc;omega)
  (repeat first|refine uA ?_|(apply uK;· omega)|simp (disch:=omega) only [go_sem,Nat.reduceBEq]|(apply uD o2;exact tz hw;rfl));exact uQ rfl (Imp.tup (by repeat' first|exact j3.nil|exact Imp.refl rfl|apply j3.cons)) rfl rfl
 rw [if_neg h2];have hm:n*(n-1)<=2000*2000:=Nat.mul_le_mul (show n<=2000 by omega) (by omega);have hm0:(n:Int)*((n:Int)-1)=((n*(n-1):Nat):Int):=by
  rw [Int.natCast_mul];congr 1;omega
 have e1:IntKind.i64.wrap ((n:Int)-1)=((n-1:Nat):Int):=by rw [Eng.wrap_i64 (by omega)];omega
 have e2:IntKind.i64.wrap ((n:Int)*((n-1:Nat):Int))=((n*(n-1):Nat):Int):=by
  rw [<- Int.natCast_mul];exact Eng.wrap_i64 (by omega)
 have e3:IntKind.i64.wrap (((n*(n-1):Nat):Int).tdiv 2)=((n*(n-1) / 2:Nat):Int):=by
  rw [show ((n*(n-1):Nat):Int).tdiv 2=((n*(n-1) / 2:Nat):Int) from rfl];exact Eng.wrap_i64 (by omega)
 have i1:Rb 8 (Nm.ofQ ((n-1:Nat):Rat)):=a4h (n:=((n-1:Nat):Int)) (by omega);have i2:Rb 8 (Nm.ofQ ((n*(n-1) / 2:Nat):Rat)):=a4h (n:=((n*(n-1) / 2:Nat):Int)) (by omega);have o5:=a1y ((n-1:Nat):Int) (by omega) (by omega);have o6:=a1y ((n*(n-1) / 2:Nat):Int) (by omega) (by omega);have o7:=a1g ((n-1:Nat):Rat) V (i1.m rfl) (ra.m rfl);have o8:=b0o l.brake (Nm.ofQ ((n*(n-1) / 2:Nat):Rat)) (hb.m rfl) (i2.m rfl);rw [Nm.l6,hBq] at o8;have r1:=y9 i1 ra;have r2:=y9 rb i2;have o9:=a3W (((n-1:Nat):Rat)*V) (B*((n*(n-1) / 2:Nat):Rat)) (r1.m rfl) (r2.m rfl);have r3:=F9 r1 r2;have o10:=a4S (Nm.ofQ (((n-1:Nat):Rat)*V-B*((n*(n-1) / 2:Nat):Rat))) (r3.m rfl);rw [Nm.l6] at o10
 rw [show (((n-1:Nat):Int):Rat)=((n-1:Nat):Rat) from rfl] at o5;rw [show (((n*(n-1) / 2:Nat):Int):Rat)=((n*(n-1) / 2:Nat):Rat) from rfl] at o6;have key:(if Nm.d9 v < 0 then (-1:Rat) else 1)*(((n-1:Nat):Rat)*V-B*((n*(n-1) / 2:Nat):Rat))=if q8 (Nm.d9 v) < 0 then -(((n-1:Nat):Rat)*V-B*((n*(n-1) / 2:Nat):Rat)) else ((n-1:Nat):Rat)*V-B*((n*(n-1) / 2:Nat):Rat):=by
  by_cases hv0:Nm.d9 v < 0
  ·rw [if_pos hv0,if_pos (hsn.2 hv0)];grind
  ·rw [if_neg hv0,if_neg fun h=>hv0 (hsn.1 h)];grind
 rw [key];clear key hsn r1 r2 r3 i1 i2 ra rb hm hm0 hv hb h0 hBq;generalize q8 (Nm.d9 v)=sg at *;generalize ((n-1:Nat):Rat)*V=x1 at *;generalize B*((n*(n-1) / 2:Nat):Rat)=x2 at *;generalize x1-x2=x3 at *;generalize -x3=x4 at *;generalize hk1:n-1=k1 at *;generalize n*k1 / 2=k2 at *;unfold rq at *;generalize Nm.ofQ V=y1 at *;generalize Nm.ofQ (k1:Rat)=y2 at *;generalize Nm.ofQ (k2:Rat)=y3 at *;generalize Nm.ofQ x1=y4 at *;generalize Nm.ofQ x2=y5 at *;simp only [j4,TT,II,OA,OB,MM,LL,FF];simp only [Lk.c,Lk.enc,rc,vts,sb,ints] at *
 (repeat first|refine uA ?_|(apply uK;· first|omega|(intros;simp_all<;>omega))|simp (disch:=omega) only [go_sem,Nat.reduceBEq,Nat.reduceAdd]|(apply uD o1;exact tz hw;rfl));refine S.cond rfl (fun hc=>by simp at hc) (fun hc=>?_);(repeat first|refine uA ?_|(apply uK;· omega)|simp (disch:=omega) only [go_sem,Nat.reduceBEq]);refine S.cond rfl (fun hc=>by simp at hc;omega) (fun hc=>?_);(repeat first|refine uA ?_|(apply uK;· omega)|simp (disch:=omega) only [go_sem,Nat.reduceBEq,e1,e2,e3]|(apply uD o5;exact tz hw;rfl)|(apply uD o3;exact tz hw;rfl)|(apply uD o7;exact tz hw;rfl)|(apply uD o6;exact tz hw;rfl)|(apply uD o8;exact tz hw;rfl)|(apply uD o9;exact tz hw;rfl)|(apply uD o4;exact tz hw;rfl))
 refine S.cond rfl (fun hc=>?_) (fun hc=>?_)
 ·rw [if_pos (by simpa using hc)];generalize Nm.ofQ x3=y6 at *;generalize Nm.ofQ x4=y7 at *;(repeat first|refine uA ?_|(apply uK;· omega)|simp (disch:=omega) only [go_sem,Nat.reduceBEq]|(apply uD o10;exact tz hw;rfl));exact uQ rfl (Imp.tup (by repeat' first|exact j3.nil|exact Imp.refl rfl|apply j3.cons)) rfl rfl
 ·rw [if_neg (by simpa using hc)];generalize Nm.ofQ x3=y6 at *;(repeat first|refine uA ?_|(apply uK;· omega)|simp (disch:=omega) only [go_sem,Nat.reduceBEq]);exact uQ rfl (Imp.tup (by repeat' first|exact j3.nil|exact Imp.refl rfl|apply j3.cons)) rfl rfl
theorem a7t (p q r s:Rat) (h1:p<=q) (h2:r<=s) (hp:Rb 1073741824 (Nm.ofQ p)) (hq:Rb 1073741824 (Nm.ofQ q)) (hr:Rb 1073741824 (Nm.ofQ r)) (hs:Rb 1073741824 (Nm.ofQ s)):FZ 105 [(snQ p q).c,(snQ r s).c] (snQ (u6 p r) (D8 q s)).c:=by
 have h:=a5s ⟨p,q⟩ ⟨r,s⟩ ⟨hp,hq⟩ ⟨hr,hs⟩;unfold O4 at h;rw [a8F h1,a8F h2] at h;exact h
theorem c1F {E:Ctx} (hP:E.P=Tryz.prog) (ht0:Tz E) (a:Am) (t v:List Nm.Rt) (hl:Ab 1073741824 a) (ha:H9 a=0) (hq:t.length=a.links.length) (hv:v.length=a.links.length) (htb:∀ r ∈ t,Rb 2097153 r) (hf:∀ (i:Nat) (l:Lk) (x:Nm.Rt),a.links[i]?=some l->v[i]?=some x->Jo l x/\r9 (Nm.d9 l.brake) (Nm.d9 x)<=2000) :
  l7 E [] 104 [a.c,rts t,rts v] (.tup [.rv 1,ints 0]) [.gone,.row 98 6 ((a4m a.links t v).map Sn.enc)] []:=by
 obtain ⟨P,eff',N,w0,own0,av0,nu0,pk0⟩:=E;simp only at hP;subst hP;refine l7.ofT (eff:=eff) ht0 Tryz.func104 (by cbv) (by exact c8G rfl) fun w' own av ν hν ht=>?_;have hν0:ν.length<=0:=by rw [hν];exact c8B _
 have hfit:=b6q a t v hl ha hq hv;have hn:=hl.2.2.1;have hsl:=a7Y hq hv;have hsg:=@a7E a.links t v;have hz:=a1q;generalize a4m a.links t v=SL at *;obtain ⟨name,⟨bx,by',half,tu⟩,links⟩:=a;simp only at hq hv hn hf hsl hsg ⊢;simp only [j4,TT,II,OA,OB,MM,LL,VV,FF];simp only [Am.c,Am.enc,lks,rts,sb,ints] at hfit ⊢;(repeat first|refine uA ?_|(apply uK;· first|omega|(intros;simp_all<;>omega))|simp (disch:=omega) only [go_sem,Nat.reduceBEq,Nat.reduceAdd]|(refine uD hfit ?_ ?_ ?_;exact ht;exact rfl));refine S.cond rfl (fun hc=>by simp at hc) (fun hc=>?_);(repeat first|refine uA ?_|(apply uK;· first|omega|(intros;simp_all<;>omega))|simp (disch:=omega) only [go_sem,Nat.reduceBEq,Nat.reduceAdd,c8r])
 refine S.loop (X:=Nat) (fun i=>⟨[(1,rts t),(2,rts v),(9,.rv 1),(24,lks links),(25,ints links.length),(26,ints i)],[.gone,.row 98 6 ((SL.take i).map Sn.enc)]⟩) (fun i=>i<=links.length) (fun i=>links.length-i) 0 (c8w _)
  (Ent.trans (Ent.pack 9 98 6 rfl) (by repeat first|refine uA ?_|(refine ⟨?_,?_⟩;· first|rfl|simp [slot])|rfl|simp|exact c8y hν0 (by simp))) ?_
 intro i hi;simp only [lks,rts,ints];(repeat first|refine uA ?_|(apply uK;· first|omega|(intros;simp_all<;>omega))|simp (disch:=omega) only [go_sem,Nat.reduceBEq]);(refine uJ rfl (fun hc=>?_) fun hc=>?_)
 ·have hi':i < links.length:=by omega
  have hgl:=c8q hi';have hgt:=c8q (show i < t.length by omega);have hgv:=c8q (show i < v.length by omega);generalize links[i]=l at *;generalize t[i]'_=x at *;generalize v[i]'_=y at *;have hgs:=hsg hgl hgt hgv;have hap:=take_at hgs;have htl:(SL.take i).length=i:=by rw [c8E];omega
  have hF:=hf i l y hgl hgv;have rx:=htb x (c8t hgt);have rw':=a8r hF.1 hF.2;have r0:=rx.g rfl;have o1:=b9w l y hF.1 hF.2;have o2:=Z7 x (Nm.ofQ 0) (rx.m rfl) (O8.m rfl);rw [Nm.l6,Rat.add_zero] at o2;have o3:=a1p (Nm.d9 x) (X3 l y) (r0.m rfl) (rw'.m rfl);have r1:=I5 r0 rw';have o4:=a2k (Nm.ofQ (Nm.d9 x)) (Nm.ofQ (Nm.d9 x+X3 l y)) (r0.m rfl) (r1.m rfl);have o5:=a3q (Nm.ofQ (Nm.d9 x)) (Nm.ofQ (Nm.d9 x+X3 l y)) (r0.m rfl) (r1.m rfl);rw [Nm.l6,Nm.l6] at o4 o5;unfold b0v snQ at hap;unfold rq at o1 o2 o3 o4 o5 hz;generalize Nm.ofQ (u6 (Nm.d9 x) (Nm.d9 x+X3 l y))=m1 at *;generalize Nm.ofQ (D8 (Nm.d9 x) (Nm.d9 x+X3 l y))=m2 at *;generalize Nm.ofQ (Nm.d9 x+X3 l y)=z1 at *
  generalize Nm.ofQ (Nm.d9 x)=z2 at *;generalize Nm.ofQ (X3 l y)=z3 at *;generalize Nm.ofQ 0=z0 at *;clear hsg hf htb hgs hF rx rw' r0 r1;simp only [Lk.c,Lk.enc,vts,rc,sb,ints] at o1 o2 o3 o4 o5 hz;(repeat first|refine uA ?_|(apply uK;· first|omega|(intros;simp_all<;>omega))|simp (disch:=omega) only [go_sem,Nat.reduceBEq,Nat.reduceAdd,hgl,hgv,c8s,c8r,Lk.enc,rcs,vts,sb,c8u]|(refine uD o1 ?_ ?_ ?_;exact ht;exact rfl));refine S.cond rfl (fun hc=>by simp at hc) (fun hc=>?_)
  (repeat first|refine uA ?_|(apply uK;· first|omega|(intros;simp_all<;>omega))|simp (disch:=omega) only [go_sem,Nat.reduceBEq,Nat.reduceAdd,ww,hgt,c8s,c8r,htl,rcs,sb,c8u]|(refine uD hz ?_ ?_ ?_;exact ht;exact rfl)|(refine uD o2 ?_ ?_ ?_;exact ht;exact rfl)|(refine uD o3 ?_ ?_ ?_;exact ht;exact rfl)|(refine uD o4 ?_ ?_ ?_;exact ht;exact rfl)|(refine uD o5 ?_ ?_ ?_;exact ht;exact rfl));refine S.next (i+1) (by omega) (by omega) (by simp only [hap,c9i,c8K,c8O,Sn.enc,sb];exact (by repeat first|refine uA ?_|(refine ⟨?_,?_⟩;· first|rfl|simp [slot])|rfl|simp|exact c8y hν0 (by simp)))
 ·have hi':i=links.length:=by omega
  subst hi';rw [c8P (by omega)];(repeat first|refine uA ?_|(apply uK;· first|omega|(intros;simp_all<;>omega))|simp (disch:=omega) only [go_sem,Nat.reduceBEq]);(refine S.done ?_;simp only [D6,go_sem,Nat.reduceBEq];(repeat (refine ⟨?_,?_⟩;· first|trivial|omega|simp));exact p8.P6 (Imp.tup (by repeat' first|exact j3.nil|exact Imp.refl rfl|apply j3.cons)) (by repeat first|refine uA ?_|(refine ⟨?_,?_⟩;· first|rfl|simp [slot])|rfl|simp) (c8y hν0 (by simp)))
theorem c2H (a:Am) (q u:List Nm.Rt) (hl:Ab 1073741824 a) (ha:H9 a=0) (hq:q.length=a.links.length) (hv:u.length=a.links.length) (hqb:∀ r ∈ q,Rb 1048576 r) (hf:∀ (i:Nat) (l:Lk) (x:Nm.Rt),a.links[i]?=some l->u[i]?=some x->Jo l x/\r9 (Nm.d9 l.brake) (Nm.d9 x)<=2000) :
  FZ 39 [a.c,rts q,rts u] (.tup [.sl 6 ((N9 a.links q u).map Sn.enc),ints (J2 (a.links.zip u)+1),ints 0]):=by
 refine kW Tryz.func39 (by cbv) (by rfl) fun w O hw=>?_;have hck:=a6l a hl;rw [ha] at hck;have hn:=hl.2.2.1;have htl:=b9Y (q:=q) (u:=u) (by omega);have htg:=@b8R q u;have hsp:=fun (E:Ctx) (hP:E.P=Tryz.prog) (ht:Tz E)=>c1F hP ht a (toL q u) u hl ha (by omega) hv (fun r hr=>by
  obtain ⟨x,hx,y,hy,rfl⟩:=c6C hr;obtain ⟨i,hi⟩:=List.getElem?_of_mem hy;have hil:=(c8v.1 hi).1;exact (I5 ((hqb x hx).g rfl) ((hf i _ y (c8q (show i < a.links.length by omega)) hi).1.hv.g rfl)).m rfl) hf
 have hsl:=a7Y (L:=a.links) (t:=toL q u) (v:=u) (by omega) hv;have hsg:=@a7E a.links (toL q u) u;have hrl:=a5N (L:=a.links) hq hv;have hrg:=@b2f a.links q u;have htk:=@a9e (a.links.zip u);have hzl:(a.links.zip u).length=a.links.length:=by rw [List.length_zip];omega
 have hT8:∀ i,0<=J2 ((a.links.zip u).take i)/\J2 ((a.links.zip u).take i)<=2000:=fun i=>by
  refine ⟨a2M _,?_⟩;have key:∀ (z:List (Lk × Nm.Rt)) (m:Int),m<=2000->(∀ x ∈ z,r9 (Nm.d9 x.1.brake) (Nm.d9 x.2)<=2000)->z.foldl (fun m z=>max m (r9 (Nm.d9 z.1.brake) (Nm.d9 z.2))) m<=2000:=by
   intro z
   induction z with
   | nil=>intro m hm _;exact hm
   | cons x z ih=>
    intro m hm hx;rw [List.foldl_cons];have:=hx x (by simp);exact ih _ (by omega) fun y hy=>hx y (by simp [hy])
  refine key _ 0 (by decide) fun x hx=>?_;obtain ⟨j,hj⟩:=List.getElem?_of_mem (List.mem_of_mem_take hx);rw [List.getElem?_zip_eq_some] at hj;exact (hf j _ _ hj.1 hj.2).2
 have hzg:=fun (i:Nat) (l:Lk) (x:Nm.Rt) (h1:a.links[i]?=some l) (h2:u[i]?=some x)=>J5 h1 h2;have ht0:J2 ((a.links.zip u).take 0)=0:=rfl;have hte:(a.links.zip u).take a.links.length=a.links.zip u:=c8P (by omega);generalize a4m a.links (toL q u) u=SL at *;generalize toL q u=T at *;generalize N9 a.links q u=RL at *;generalize a.links.zip u=Z at *;obtain ⟨name,⟨bx,by',half,tu⟩,links⟩:=a;simp only at hq hv hn hf hsl hsg hrl hrg hzl hte hzg hsp ⊢;simp only [j4,TT,II,OA,OB,OC,MM,LL,VV,FF,MG,VG,FG];simp only [Am.c,Am.enc,lks,rts,sb,ints] at hck hsp ⊢
 (repeat first|refine uA ?_|(apply uK;· first|omega|(intros;simp_all<;>omega))|simp (disch:=omega) only [go_sem,Nat.reduceBEq,Nat.reduceAdd]|(refine uD hck ?_ ?_ ?_;exact tz hw;rfl));refine S.cond rfl (fun hc=>by simp at hc) (fun hc=>?_);(repeat first|refine uA ?_|(apply uK;· first|omega|(intros;simp_all<;>omega))|simp (disch:=omega) only [go_sem,Nat.reduceBEq,Nat.reduceAdd,c8r]);refine S.cond rfl (fun hc=>by simp [hq,hv] at hc) (fun hc=>?_);(repeat first|refine uA ?_|(apply uK;· first|omega|(intros;simp_all<;>omega))|simp (disch:=omega) only [go_sem,Nat.reduceBEq,c8r])
 refine S.loop (X:=Nat) (fun i=>⟨[(1,rts q),(2,rts u),(3,.bp 0 0),(10,.rv 1),(38,ints q.length),(39,ints i)],[.box 80 [sb name,.v (.bool bx.neg),sb bx.num,sb bx.den,.v (.bool by'.neg),sb by'.num,sb by'.den,.v (.bool half),.v (.bool tu.neg),sb tu.num,sb tu.den,lks links],.row 28 3 ((T.take i).map rcs)]⟩) (fun i=>i<=q.length) (fun i=>q.length-i) 0 (c8w _)
  (Ent.trans (Ent.pack 10 28 3 rfl) (by repeat first|refine uA ?_|(refine ⟨?_,?_⟩;· first|rfl|simp [slot])|rfl|simp)) ?_
 intro i hi;simp only [lks,rts,sb,ints];(repeat first|refine uA ?_|(apply uK;· first|omega|(intros;simp_all<;>omega))|simp (disch:=omega) only [go_sem,Nat.reduceBEq]);(refine uJ rfl (fun hc=>?_) fun hc=>?_)
 ·have hi':i < q.length:=by omega
  have hgl:=c8q (show i < links.length by omega);have hgq:=c8q hi';have hgu:=c8q (show i < u.length by omega);generalize q[i]'_=x at *;generalize u[i]'_=y at *;have hap:=take_at (htg hgq hgu);have htl:(T.take i).length=i:=by rw [c8E];omega
  have o1:=Z7 x y ((hqb x (c8t hgq)).m rfl) ((hf i _ y hgl hgu).1.hv.m rfl);unfold a1R at hap;unfold rq at o1;generalize Nm.ofQ (Nm.d9 x+Nm.d9 y)=z at *;clear hsg hf hqb hrg htg htk hsp hgl hzg;simp only [rc,sb] at o1;(repeat first|refine uA ?_|(apply uK;· first|omega|(intros;simp_all<;>omega))|simp (disch:=omega) only [go_sem,Nat.reduceBEq,Nat.reduceAdd,ww,hgq,hgu,c8s,c8r,htl,rcs,sb,c8u]|(refine uD o1 ?_ ?_ ?_;exact tz hw;rfl));refine S.next (i+1) (by omega) (by omega) (by simp only [hap,c9i,c8K,c8O,rcs,sb];exact (by repeat first|refine uA ?_|(refine ⟨?_,?_⟩;· first|rfl|simp [slot])|rfl|simp))
 have hi':i=q.length:=by omega
 subst hi';rw [c8P (by omega)];refine S.exit rfl ?_
 refine S.weaken (st':=⟨[(1,rts q),(2,rts u),(3,.bp 0 0),(10,.sl 3 (T.map rcs))],[.box 80 [sb name,.v (.bool bx.neg),sb bx.num,sb bx.den,.v (.bool by'.neg),sb by'.num,sb by'.den,.v (.bool half),.v (.bool tu.neg),sb tu.num,sb tu.den,lks links]]⟩) (Ent.mk _ _ (by (repeat' (first|exact R3.nil|exact Imp.junk|exact Imp.refl rfl|exact Imp.frz rfl rfl rfl|exact Imp.eq (by simp [slot];done) rfl|refine R3.cons ?_ ?_))) (by (repeat' (first|exact D9.nil|exact RI.gone _|exact RI.row _ _ _ _ rfl|exact RI.map _ _ _ rfl|exact RI.box _ _ _ (j3.refl rfl)|(refine RI.box _ _ _ ?_;(repeat' (first|exact j3.nil|exact Imp.refl rfl|exact Imp.frz rfl rfl rfl|exact Imp.I9|refine j3.cons ?_ ?_)))|refine D9.cons ?_ ?_))) (c8w _)) ?_
 simp only [lks,rts,sb];(repeat first|refine uA ?_|(apply uK;· first|omega|(intros;simp_all<;>omega))|simp (disch:=omega) only [go_sem,Nat.reduceBEq,Nat.reduceAdd,C.sh,C.shL,c8R,List.length_nil]|refine l9.t (l7.pre (hsp _ rfl (tz hw)) rfl rfl rfl) ?_);refine S.cond rfl (fun hc=>by simp at hc) (fun hc=>?_);(repeat first|refine uA ?_|(apply uK;· first|omega|(intros;simp_all<;>omega))|simp (disch:=omega) only [go_sem,Nat.reduceBEq,c8r])
 refine S.loop (X:=Nat) (fun i=>⟨[(1,rts q),(2,rts u),(3,.bp 0 0),(12,.rv 2),(14,ints (J2 (Z.take i))),(66,ints SL.length),(67,ints i)],[.box 80 [sb name,.v (.bool bx.neg),sb bx.num,sb bx.den,.v (.bool by'.neg),sb by'.num,sb by'.den,.v (.bool half),.v (.bool tu.neg),sb tu.num,sb tu.den,lks links],.gone,.row 98 6 ((RL.take i++SL.drop i).map Sn.enc)]⟩) (fun i=>i<=SL.length) (fun i=>SL.length-i) 0 (c8w _) (by rw [ht0];exact (by repeat first|refine uA ?_|(refine ⟨?_,?_⟩;· first|rfl|simp [slot])|rfl|simp)) ?_;intro i hi;simp only [lks,rts,sb,ints];have hti:=hT8 i;(repeat first|refine uA ?_|(apply uK;· first|omega|(intros;simp_all<;>omega))|simp (disch:=omega) only [go_sem,Nat.reduceBEq])
 (refine uJ rfl (fun hc=>?_) fun hc=>?_)
 ·have hi':i < SL.length:=by omega
  have hgl:=c8q (show i < links.length by omega);have hgq:=c8q (show i < q.length by omega);have hgu:=c8q (show i < u.length by omega);generalize links[i]'_=l at *;generalize q[i]'_=x at *;generalize u[i]'_=y at *;have hgs:=hsg hgl (htg hgq hgu) hgu;have hgr:=hrg hgl hgq hgu;have hF:=hf i l y hgl hgu;have hsn:=htk (hzg i l y hgl hgu);have r1:=(hqb x (c8t hgq)).g rfl;have r2:=hF.1.hv.g rfl;have r3:=I5 r1 r2;have r4:=I5 r3 (a8r hF.1 hF.2);have e1:Nm.d9 (a1R x y)=Nm.d9 x+Nm.d9 y:=by unfold a1R;rw [Nm.l6]
  have e2:a9y x y l.brake=Nm.d9 x+Nm.d9 y+X3 l y:=rfl;unfold b0v at hgs;unfold b0E loQ hiQ at hgr;rw [e1] at hgs;rw [e2] at hgr;have o1:FZ 106 [rc x] (snQ (Nm.d9 x) (Nm.d9 x)).c:=Y2 x ((hqb x (c8t hgq)).m rfl);have o2:=a7t (u6 (Nm.d9 x+Nm.d9 y) (Nm.d9 x+Nm.d9 y+X3 l y)) (D8 (Nm.d9 x+Nm.d9 y) (Nm.d9 x+Nm.d9 y+X3 l y)) (Nm.d9 x) (Nm.d9 x) (c4e _ _) Rat.le_refl ((a6h (r3.m rfl) r4).m rfl) ((a6w (r3.m rfl) r4).m rfl) (r1.m rfl) (r1.m rfl);have o3:=a9m l y hF.1;rw [if_pos hF.2,if_pos hF.2] at o3;have m1:=c1C (l:=RL) (m:=SL) (by omega) hgs;have s1:=c4K Sn.enc (by omega) hgr (m:=SL);have hml:=c3B (l:=RL) (m:=SL) (i:=i) (by omega) (by omega);have hb8:=hF.2
  have hb0:=(a4Y (V:=Nm.d9 y) (a9Z hF.1.pos)).1;simp only at hsn;clear r1 r2 r3 r4 e1 e2 hgs hgr hF hsg hf hqb hrg htg htk hsp hzg;generalize r9 (Nm.d9 l.brake) (Nm.d9 y)=tk at *;unfold snQ at *;generalize Nm.ofQ (u6 (u6 (Nm.d9 x+Nm.d9 y) (Nm.d9 x+Nm.d9 y+X3 l y)) (Nm.d9 x))=n1 at *;generalize Nm.ofQ (D8 (D8 (Nm.d9 x+Nm.d9 y) (Nm.d9 x+Nm.d9 y+X3 l y)) (Nm.d9 x))=n2 at *;generalize Nm.ofQ (u6 (Nm.d9 x+Nm.d9 y) (Nm.d9 x+Nm.d9 y+X3 l y))=n3 at *;generalize Nm.ofQ (D8 (Nm.d9 x+Nm.d9 y) (Nm.d9 x+Nm.d9 y+X3 l y))=n4 at *;generalize Nm.ofQ (Nm.d9 x)=n5 at *;generalize J2 (Z.take i)=t0 at *;generalize hM1:RL.take (i+1)++SL.drop (i+1)=M1 at *;generalize RL.take i++SL.drop i=M0 at *
  simp only [Lk.c,Lk.enc,Sn.c,Sn.enc,vts,rc,sb,ints] at o1 o2 o3 s1;(repeat first|refine uA ?_|(apply uK;· first|omega|(intros;simp_all<;>omega))|simp (disch:=omega) only [go_sem,Nat.reduceBEq,Nat.reduceAdd,hgl,hgq,hgu,m1,s1,hml,c8s,c8r,Lk.enc,Sn.enc,rcs,vts,sb,c8u]|(refine uD o1 ?_ ?_ ?_;exact tz hw;rfl)|(refine uD o2 ?_ ?_ ?_;exact tz hw;rfl)|(refine uD o3 ?_ ?_ ?_;exact tz hw;rfl));refine S.cond rfl (fun hc=>by simp at hc) (fun hc=>?_);(repeat first|refine uA ?_|(apply uK;· first|omega|(intros;simp_all<;>omega))|simp (disch:=omega) only [go_sem,Nat.reduceBEq,ww])
  refine S.next (i+1) (by omega) (by omega) (by simp only [hM1,hsn];exact (by repeat first|refine uA ?_|(refine ⟨?_,?_⟩;· first|rfl|simp [slot])|rfl|simp))
 ·have hi':i=SL.length:=by omega
  subst hi';rw [hsl,hte] at hti;rw [hsl,hte,<- hrl,c8J,List.drop_eq_nil_of_le (by omega),List.append_nil];generalize J2 Z=tz at *;(repeat first|refine uA ?_|(apply uK;· first|omega|(intros;simp_all<;>omega))|simp (disch:=omega) only [go_sem,Nat.reduceBEq,ww]);(refine S.done ?_;simp only [D6,go_sem,Nat.reduceBEq];(repeat (refine ⟨?_,?_⟩;· first|trivial|omega|simp));exact p8.out rfl (Imp.tup (by (repeat' (first|exact j3.nil|exact Imp.refl rfl|exact Imp.frz rfl rfl rfl|exact Imp.I9|refine Imp.agg ?_|refine j3.cons ?_ ?_)))) rfl)
theorem c2g (a:Am) (t v:List Nm.Rt) (k:Nat) (hl:Ab 1073741824 a) (ha:H9 a=0) (hq:t.length=a.links.length) (hv:v.length=a.links.length) (htb:∀ r ∈ t,Rb 2097153 r) (hf:∀ (i:Nat) (l:Lk) (x:Nm.Rt),a.links[i]?=some l->v[i]?=some x->Jo l x) (hk:k < a.links.length)
  (hlong:∀ (l:Lk) (x:Nm.Rt),a.links[k]?=some l->v[k]?=some x->¬ r9 (Nm.d9 l.brake) (Nm.d9 x)<=2000) (hfew:∀ (i:Nat) (l:Lk) (x:Nm.Rt),i < k->a.links[i]?=some l->v[i]?=some x->r9 (Nm.d9 l.brake) (Nm.d9 x)<=2000) :
  FZ 104 [a.c,rts t,rts v] (.tup [.v (.slice none 0 0),ints 2]):=by
 refine kW Tryz.func104 (by cbv) (by rfl) fun w' O hw=>?_;have hfit:=b6q a t v hl ha hq hv;have hn:=hl.2.2.1;have hsl:=a7Y hq hv;have hsg:=@a7E a.links t v;have hz:=a1q;generalize a4m a.links t v=SL at *;obtain ⟨name,⟨bx,by',half,tu⟩,links⟩:=a;simp only at hq hv hn hf hsl hsg hk hlong hfew ⊢;simp only [j4,TT,II,OA,OB,MM,LL,VV,FF];simp only [Am.c,Am.enc,lks,rts,sb,ints] at hfit ⊢;(repeat first|refine uA ?_|(apply uK;· first|omega|(intros;simp_all<;>omega))|simp (disch:=omega) only [go_sem,Nat.reduceBEq,Nat.reduceAdd]|(refine uD hfit ?_ ?_ ?_;exact tz hw;rfl));refine S.cond rfl (fun hc=>by simp at hc) (fun hc=>?_)
 (repeat first|refine uA ?_|(apply uK;· first|omega|(intros;simp_all<;>omega))|simp (disch:=omega) only [go_sem,Nat.reduceBEq,Nat.reduceAdd,c8r]);refine S.loop (X:=Nat) (fun i=>⟨[(1,rts t),(2,rts v),(9,.rv 1),(24,lks links),(25,ints links.length),(26,ints i)],[.gone,.row 98 6 ((SL.take i).map Sn.enc)]⟩) (fun i=>i<=k) (fun i=>links.length-i) 0 (c8w _)
  (Ent.trans (Ent.pack 9 98 6 rfl) (by repeat first|refine uA ?_|(refine ⟨?_,?_⟩;· first|rfl|simp [slot])|rfl|simp)) ?_
 intro i hi;simp only [lks,rts,ints];(repeat first|refine uA ?_|(apply uK;· first|omega|(intros;simp_all<;>omega))|simp (disch:=omega) only [go_sem,Nat.reduceBEq]);(refine uJ rfl (fun hc=>?_) fun hc=>?_)
 ·have hi':i < links.length:=by omega
  have hgl:=c8q hi';have hgt:=c8q (show i < t.length by omega);have hgv:=c8q (show i < v.length by omega);generalize links[i]=l at *;generalize t[i]'_=x at *;generalize v[i]'_=y at *;have hgs:=hsg hgl hgt hgv;have hap:=take_at hgs;have htl:(SL.take i).length=i:=by rw [c8E];omega
  have hF:=hf i l y hgl hgv;by_cases hik:i=k
  ·subst hik;have o1:=c5B l y hF (hlong l y hgl hgv);clear hsg hf htb hgs hF hap hlong hfew;unfold c1t at o1;simp only [Lk.c,Lk.enc,vts,rc,sb,ints] at o1;(repeat first|refine uA ?_|(apply uK;· first|omega|(intros;simp_all<;>omega))|simp (disch:=omega) only [go_sem,Nat.reduceBEq,Nat.reduceAdd,hgl,hgv,c8s,c8r,Lk.enc,rcs,vts,sb,c8u]|(refine uD o1 ?_ ?_ ?_;exact tz hw;rfl));refine S.cond rfl (fun hc=>?_) (fun hc=>by simp at hc);(repeat first|refine uA ?_|(apply uK;· first|omega|(intros;simp_all<;>omega))|simp (disch:=omega) only [go_sem,Nat.reduceBEq])
   (refine S.done ?_;simp only [D6,go_sem,Nat.reduceBEq];(repeat (refine ⟨?_,?_⟩;· first|trivial|omega|simp));exact p8.out rfl (Imp.tup (by repeat' first|exact j3.nil|exact Imp.refl rfl|apply j3.cons)) rfl)
  have hle:=hfew i l y (by omega) hgl hgv;have rx:=htb x (c8t hgt);have rw':=a8r hF hle;have r0:=rx.g rfl;have o1:=b9w l y hF hle;have o2:=Z7 x (Nm.ofQ 0) (rx.m rfl) (O8.m rfl);rw [Nm.l6,Rat.add_zero] at o2;have o3:=a1p (Nm.d9 x) (X3 l y) (r0.m rfl) (rw'.m rfl);have r1:=I5 r0 rw';have o4:=a2k (Nm.ofQ (Nm.d9 x)) (Nm.ofQ (Nm.d9 x+X3 l y)) (r0.m rfl) (r1.m rfl);have o5:=a3q (Nm.ofQ (Nm.d9 x)) (Nm.ofQ (Nm.d9 x+X3 l y)) (r0.m rfl) (r1.m rfl);rw [Nm.l6,Nm.l6] at o4 o5;unfold b0v snQ at hap;unfold rq at o1 o2 o3 o4 o5 hz;generalize Nm.ofQ (u6 (Nm.d9 x) (Nm.d9 x+X3 l y))=m1 at *;generalize Nm.ofQ (D8 (Nm.d9 x) (Nm.d9 x+X3 l y))=m2 at *;generalize Nm.ofQ (Nm.d9 x+X3 l y)=z1 at *
  generalize Nm.ofQ (Nm.d9 x)=z2 at *;generalize Nm.ofQ (X3 l y)=z3 at *;generalize Nm.ofQ 0=z0 at *;clear hsg hf htb hgs hF rx rw' r0 r1 hlong hfew hle;simp only [Lk.c,Lk.enc,vts,rc,sb,ints] at o1 o2 o3 o4 o5 hz;(repeat first|refine uA ?_|(apply uK;· first|omega|(intros;simp_all<;>omega))|simp (disch:=omega) only [go_sem,Nat.reduceBEq,Nat.reduceAdd,hgl,hgv,c8s,c8r,Lk.enc,rcs,vts,sb,c8u]|(refine uD o1 ?_ ?_ ?_;exact tz hw;rfl));refine S.cond rfl (fun hc=>by simp at hc) (fun hc=>?_)
  (repeat first|refine uA ?_|(apply uK;· first|omega|(intros;simp_all<;>omega))|simp (disch:=omega) only [go_sem,Nat.reduceBEq,Nat.reduceAdd,ww,hgt,c8s,c8r,htl,rcs,sb,c8u]|(refine uD hz ?_ ?_ ?_;exact tz hw;rfl)|(refine uD o2 ?_ ?_ ?_;exact tz hw;rfl)|(refine uD o3 ?_ ?_ ?_;exact tz hw;rfl)|(refine uD o4 ?_ ?_ ?_;exact tz hw;rfl)|(refine uD o5 ?_ ?_ ?_;exact tz hw;rfl));refine S.next (i+1) (by omega) (by omega) (by simp only [hap,c9i,c8K,c8O,Sn.enc,sb];exact (by repeat first|refine uA ?_|(refine ⟨?_,?_⟩;· first|rfl|simp [slot])|rfl|simp))
 ·omega
theorem c2I (a:Am) (q u:List Nm.Rt) (k:Nat) (hl:Ab 1073741824 a) (ha:H9 a=0) (hq:q.length=a.links.length) (hv:u.length=a.links.length) (hqb:∀ r ∈ q,Rb 1048576 r) (hf:∀ (i:Nat) (l:Lk) (x:Nm.Rt),a.links[i]?=some l->u[i]?=some x->Jo l x) (hk:k < a.links.length)
  (hlong:∀ (l:Lk) (x:Nm.Rt),a.links[k]?=some l->u[k]?=some x->¬ r9 (Nm.d9 l.brake) (Nm.d9 x)<=2000) (hfew:∀ (i:Nat) (l:Lk) (x:Nm.Rt),i < k->a.links[i]?=some l->u[i]?=some x->r9 (Nm.d9 l.brake) (Nm.d9 x)<=2000) :
  FZ 39 [a.c,rts q,rts u] (.tup [.v (.slice none 0 0),ints 0,ints 2]):=by
 refine kW Tryz.func39 (by cbv) (by rfl) fun w O hw=>?_;have hck:=a6l a hl;rw [ha] at hck;have hn:=hl.2.2.1;have htl:=b9Y (q:=q) (u:=u) (by omega);have htg:=@b8R q u;have hsp:=c2g a (toL q u) u k hl ha (by omega) hv (fun r hr=>by
  obtain ⟨x,hx,y,hy,rfl⟩:=c6C hr;obtain ⟨i,hi⟩:=List.getElem?_of_mem hy;have hil:=(c8v.1 hi).1;exact (I5 ((hqb x hx).g rfl) ((hf i _ y (c8q (show i < a.links.length by omega)) hi).hv.g rfl)).m rfl) hf hk hlong hfew
 generalize toL q u=T at *;obtain ⟨name,⟨bx,by',half,tu⟩,links⟩:=a;simp only at hq hv hn hf hsp ⊢;simp only [j4,TT,II,OA,OB,OC,MM,LL,VV,FF,MG,VG,FG];simp only [Am.c,Am.enc,lks,rts,sb,ints] at hck hsp ⊢;(repeat first|refine uA ?_|(apply uK;· first|omega|(intros;simp_all<;>omega))|simp (disch:=omega) only [go_sem,Nat.reduceBEq,Nat.reduceAdd]|(refine uD hck ?_ ?_ ?_;exact tz hw;rfl));refine S.cond rfl (fun hc=>by simp at hc) (fun hc=>?_);(repeat first|refine uA ?_|(apply uK;· first|omega|(intros;simp_all<;>omega))|simp (disch:=omega) only [go_sem,Nat.reduceBEq,Nat.reduceAdd,c8r]);refine S.cond rfl (fun hc=>by simp [hq,hv] at hc) (fun hc=>?_)
 (repeat first|refine uA ?_|(apply uK;· first|omega|(intros;simp_all<;>omega))|simp (disch:=omega) only [go_sem,Nat.reduceBEq,c8r]);refine S.loop (X:=Nat) (fun i=>⟨[(1,rts q),(2,rts u),(3,.bp 0 0),(10,.rv 1),(38,ints q.length),(39,ints i)],[.box 80 [sb name,.v (.bool bx.neg),sb bx.num,sb bx.den,.v (.bool by'.neg),sb by'.num,sb by'.den,.v (.bool half),.v (.bool tu.neg),sb tu.num,sb tu.den,lks links],.row 28 3 ((T.take i).map rcs)]⟩) (fun i=>i<=q.length) (fun i=>q.length-i) 0 (c8w _)
  (Ent.trans (Ent.pack 10 28 3 rfl) (by repeat first|refine uA ?_|(refine ⟨?_,?_⟩;· first|rfl|simp [slot])|rfl|simp)) ?_
 intro i hi;simp only [lks,rts,sb,ints];(repeat first|refine uA ?_|(apply uK;· first|omega|(intros;simp_all<;>omega))|simp (disch:=omega) only [go_sem,Nat.reduceBEq]);(refine uJ rfl (fun hc=>?_) fun hc=>?_)
 ·have hi':i < q.length:=by omega
  have hgl:=c8q (show i < links.length by omega);have hgq:=c8q hi';have hgu:=c8q (show i < u.length by omega);generalize q[i]'_=x at *;generalize u[i]'_=y at *;have hap:=take_at (htg hgq hgu);have htl:(T.take i).length=i:=by rw [c8E];omega
  have o1:=Z7 x y ((hqb x (c8t hgq)).m rfl) ((hf i _ y hgl hgu).hv.m rfl);unfold a1R at hap;unfold rq at o1;generalize Nm.ofQ (Nm.d9 x+Nm.d9 y)=z at *;clear hf hqb htg hsp hgl hlong hfew;simp only [rc,sb] at o1;(repeat first|refine uA ?_|(apply uK;· first|omega|(intros;simp_all<;>omega))|simp (disch:=omega) only [go_sem,Nat.reduceBEq,Nat.reduceAdd,ww,hgq,hgu,c8s,c8r,htl,rcs,sb,c8u]|(refine uD o1 ?_ ?_ ?_;exact tz hw;rfl));refine S.next (i+1) (by omega) (by omega) (by simp only [hap,c9i,c8K,c8O,rcs,sb];exact (by repeat first|refine uA ?_|(refine ⟨?_,?_⟩;· first|rfl|simp [slot])|rfl|simp))
 have hi':i=q.length:=by omega
 subst hi';rw [c8P (by omega)];refine S.exit rfl ?_
 refine S.weaken (st':=⟨[(1,rts q),(2,rts u),(3,.bp 0 0),(10,.sl 3 (T.map rcs))],[.box 80 [sb name,.v (.bool bx.neg),sb bx.num,sb bx.den,.v (.bool by'.neg),sb by'.num,sb by'.den,.v (.bool half),.v (.bool tu.neg),sb tu.num,sb tu.den,lks links]]⟩) (Ent.mk _ _ (by (repeat' (first|exact R3.nil|exact Imp.junk|exact Imp.refl rfl|exact Imp.frz rfl rfl rfl|exact Imp.eq (by simp [slot];done) rfl|refine R3.cons ?_ ?_))) (by (repeat' (first|exact D9.nil|exact RI.gone _|exact RI.row _ _ _ _ rfl|exact RI.map _ _ _ rfl|exact RI.box _ _ _ (j3.refl rfl)|(refine RI.box _ _ _ ?_;(repeat' (first|exact j3.nil|exact Imp.refl rfl|exact Imp.frz rfl rfl rfl|exact Imp.I9|refine j3.cons ?_ ?_)))|refine D9.cons ?_ ?_))) (c8w _)) ?_
 simp only [lks,rts,sb];(repeat first|refine uA ?_|(apply uK;· first|omega|(intros;simp_all<;>omega))|simp (disch:=omega) only [go_sem,Nat.reduceBEq,Nat.reduceAdd]|(refine uD hsp ?_ ?_ ?_;exact tz hw;rfl));refine S.cond rfl (fun hc=>?_) (fun hc=>by simp at hc);(repeat first|refine uA ?_|(apply uK;· first|omega|(intros;simp_all<;>omega))|simp (disch:=omega) only [go_sem,Nat.reduceBEq]);(refine S.done ?_;simp only [D6,go_sem,Nat.reduceBEq];(repeat (refine ⟨?_,?_⟩;· first|trivial|omega|simp));exact p8.out rfl (Imp.tup (by repeat' first|exact j3.nil|exact Imp.refl rfl|apply j3.cons)) rfl)
open Go Eng
theorem c6u (g:Nat) (hcal:callable Tryz.prog g=true) (c1:List C) (p:List Vt->Bool) (l:List (List Vt)) (hn:l.length<=1000000000) (hg:∀ x ∈ l,FZ g [vts x,.ep c1] (.v (.bool (p x)))) :
  FZ 117 [wls l,.clo g [.ep c1]] (ints (a0f p l)):=by
 refine kW Tryz.func117 (by cbv) (by rfl) fun w O hw=>?_;simp only [j4,TT,II,OA,MM,VV,wls,ints];(repeat first|refine uA ?_|(apply uK;· omega)|simp (disch:=omega) only [go_sem,Nat.reduceBEq,c8r]);refine S.loop (X:=Nat) (fun i=>⟨[(0,wls l),(1,.clo g [.ep c1]),(7,ints l.length),(8,ints i)],[]⟩) (fun i=>i<=l.length/\∀ j,j < i->∀ x,l[j]?=some x->p x=false) (fun i=>l.length-i) 0 ⟨c8w _,fun _ h=>absurd h (Nat.not_lt_zero _)⟩ (by repeat first|refine uA ?_|(refine ⟨?_,?_⟩;· first|rfl|simp [slot])|rfl|simp) ?_;rintro i ⟨hi,hm⟩;simp only [wls,ints];(repeat first|refine uA ?_|(apply uK;· omega)|simp (disch:=omega) only [go_sem,Nat.reduceBEq]);(refine uJ rfl (fun hc=>?_) fun hc=>?_)
 ·have hi':i < l.length:=by omega
  have hgi:=c8q hi';generalize l[i]=x at hgi;have hs:=hg x (c8t hgi);simp only [vts] at hs;generalize hpx:p x=b at hs;(repeat first|refine uA ?_|(apply uK;· omega)|simp (disch:=omega) only [go_sem,Nat.reduceBEq,hgi,c8s,c8r,c8x,vts,c8u,hcal]|(apply uD hs;exact tz hw;rfl));refine S.cond rfl (fun hc2=>?_) (fun hc2=>?_)
  ·rw [a0W (p:=p) hgi (hpx.trans hc2) hm];(repeat first|refine uA ?_|(apply uK;· omega)|simp (disch:=omega) only [go_sem,Nat.reduceBEq]);exact uS rfl rfl
  ·(repeat first|refine uA ?_|(apply uK;· omega)|simp (disch:=omega) only [go_sem,Nat.reduceBEq,ww]);refine S.next (i+1) ⟨by omega,fun j hj y hy=>?_⟩ (by omega) (by repeat first|refine uA ?_|(refine ⟨?_,?_⟩;· first|rfl|simp [slot])|rfl|simp);rcases c8N j i with h1|h1
   ·exact hm j h1 y hy
   ·have:j=i:=by omega
    subst this;rw [hgi] at hy;cases hy;exact hpx.trans hc2
 ·have hi':i=l.length:=by omega
  subst hi';rw [a0k hm];(repeat first|refine uA ?_|(apply uK;· omega)|simp (disch:=omega) only [go_sem]);exact uS rfl rfl
theorem c5f (g:Nat) (hcal:callable Tryz.prog g=true) (c1:List C) (p:List Vt->Bool) (l:List (List Vt)) (hn:l.length<=1000000000) (hg:∀ x ∈ l,FZ g [vts x,.ep c1] (.v (.bool (p x)))) :
  FZ 45 [wls l,.clo g [.ep c1]] (.v (.bool (l.any p))):=by
 refine kW Tryz.func45 (by cbv) (by rfl) fun w O hw=>?_;have h:=c6u g hcal c1 p l hn hg;rw [<- a1E];generalize a0f p l=n at *;simp only [j4,TT,II,OA,MM];simp only [wls,ints] at *;(repeat first|refine uA ?_|(apply uK;· first|omega|(intros;simp_all<;>omega))|simp (disch:=omega) only [go_sem,Nat.reduceBEq,Nat.reduceAdd]|(apply uD h;exact tz hw;rfl));exact uS rfl rfl
def bqs (l:List Bq):C:=.sl 12 (l.map Bq.enc)
theorem c5G (g:Nat) (hcal:callable Tryz.prog g=true) (c1:List C) (p:Bq->Bool) (l:List (Bq)) (hn:l.length<=1000000000) (hg:∀ x ∈ l,FZ g [.agg x.enc,.ep c1] (.v (.bool (p x)))) :
  FZ 120 [bqs l,.clo g [.ep c1]] (ints (a0f p l)):=by
 refine kW Tryz.func120 (by cbv) (by rfl) fun w O hw=>?_;simp only [j4,TT,II,OA,MM,LL,bqs,ints];(repeat first|refine uA ?_|(apply uK;· omega)|simp (disch:=omega) only [go_sem,Nat.reduceBEq,c8r]);refine S.loop (X:=Nat) (fun i=>⟨[(0,bqs l),(1,.clo g [.ep c1]),(7,ints l.length),(8,ints i)],[]⟩) (fun i=>i<=l.length/\∀ j,j < i->∀ x,l[j]?=some x->p x=false) (fun i=>l.length-i) 0 ⟨c8w _,fun _ h=>absurd h (Nat.not_lt_zero _)⟩ (by repeat first|refine uA ?_|(refine ⟨?_,?_⟩;· first|rfl|simp [slot])|rfl|simp) ?_;rintro i ⟨hi,hm⟩;simp only [bqs,ints];(repeat first|refine uA ?_|(apply uK;· omega)|simp (disch:=omega) only [go_sem,Nat.reduceBEq]);(refine uJ rfl (fun hc=>?_) fun hc=>?_)
 ·have hi':i < l.length:=by omega
  have hgi:=c8q hi';generalize l[i]=x at hgi;have hs:=hg x (c8t hgi);simp only [Bq.enc,sb] at hs;generalize hpx:p x=b at hs;(repeat first|refine uA ?_|(apply uK;· omega)|simp (disch:=omega) only [go_sem,Nat.reduceBEq,hgi,c8s,c8r,c8x,Bq.enc,sb,c8u,hcal]|(apply uD hs;exact tz hw;rfl));refine S.cond rfl (fun hc2=>?_) (fun hc2=>?_)
  ·rw [a0W (p:=p) hgi (hpx.trans hc2) hm];(repeat first|refine uA ?_|(apply uK;· omega)|simp (disch:=omega) only [go_sem,Nat.reduceBEq]);exact uS rfl rfl
  ·(repeat first|refine uA ?_|(apply uK;· omega)|simp (disch:=omega) only [go_sem,Nat.reduceBEq,ww]);refine S.next (i+1) ⟨by omega,fun j hj y hy=>?_⟩ (by omega) (by repeat first|refine uA ?_|(refine ⟨?_,?_⟩;· first|rfl|simp [slot])|rfl|simp);rcases c8N j i with h1|h1
   ·exact hm j h1 y hy
   ·have:j=i:=by omega
    subst this;rw [hgi] at hy;cases hy;exact hpx.trans hc2
 ·have hi':i=l.length:=by omega
  subst hi';rw [a0k hm];(repeat first|refine uA ?_|(apply uK;· omega)|simp (disch:=omega) only [go_sem]);exact uS rfl rfl
theorem b8C (g:Nat) (hcal:callable Tryz.prog g=true) (c1:List C) (p:Bq->Bool) (l:List (Bq)) (hn:l.length<=1000000000) (hg:∀ x ∈ l,FZ g [.agg x.enc,.ep c1] (.v (.bool (p x)))) :
  FZ 49 [bqs l,.clo g [.ep c1]] (.v (.bool (l.any p))):=by
 refine kW Tryz.func49 (by cbv) (by rfl) fun w O hw=>?_;have h:=c5G g hcal c1 p l hn hg;rw [<- a1E];generalize a0f p l=n at *;simp only [j4,TT,II,OA,MM];simp only [bqs,ints] at *;(repeat first|refine uA ?_|(apply uK;· first|omega|(intros;simp_all<;>omega))|simp (disch:=omega) only [go_sem,Nat.reduceBEq,Nat.reduceAdd]|(apply uD h;exact tz hw;rfl));exact uS rfl rfl
theorem c5M (g:Nat) (hcal:callable Tryz.prog g=true) (c1 c2 c3:List C) (p:Vt->Bool) (l:List (Vt)) (hn:l.length<=1000000000) (hg:∀ x ∈ l,FZ g [x.c,.ep c1,.ep c2,.ep c3] (.v (.bool (p x)))) :
  FZ 95 [vts l,.clo g [.ep c1,.ep c2,.ep c3]] (ints (a0f p l)):=by
 refine kW Tryz.func95 (by cbv) (by rfl) fun w O hw=>?_;simp only [j4,TT,II,OA,MM,LL,vts,ints];(repeat first|refine uA ?_|(apply uK;· omega)|simp (disch:=omega) only [go_sem,Nat.reduceBEq,c8r]);refine S.loop (X:=Nat) (fun i=>⟨[(0,vts l),(1,.clo g [.ep c1,.ep c2,.ep c3]),(7,ints l.length),(8,ints i)],[]⟩) (fun i=>i<=l.length/\∀ j,j < i->∀ x,l[j]?=some x->p x=false) (fun i=>l.length-i) 0 ⟨c8w _,fun _ h=>absurd h (Nat.not_lt_zero _)⟩ (by repeat first|refine uA ?_|(refine ⟨?_,?_⟩;· first|rfl|simp [slot])|rfl|simp) ?_;rintro i ⟨hi,hm⟩;simp only [vts,ints];(repeat first|refine uA ?_|(apply uK;· omega)|simp (disch:=omega) only [go_sem,Nat.reduceBEq]);(refine uJ rfl (fun hc=>?_) fun hc=>?_)
 ·have hi':i < l.length:=by omega
  have hgi:=c8q hi';generalize l[i]=x at hgi;have hs:=hg x (c8t hgi);simp only [Vt.c,Vt.enc,sb] at hs;generalize hpx:p x=b at hs;(repeat first|refine uA ?_|(apply uK;· omega)|simp (disch:=omega) only [go_sem,Nat.reduceBEq,hgi,c8s,c8r,c8x,Vt.enc,sb,c8u,hcal]|(apply uD hs;exact tz hw;rfl));refine S.cond rfl (fun hc2=>?_) (fun hc2=>?_)
  ·rw [a0W (p:=p) hgi (hpx.trans hc2) hm];(repeat first|refine uA ?_|(apply uK;· omega)|simp (disch:=omega) only [go_sem,Nat.reduceBEq]);exact uS rfl rfl
  ·(repeat first|refine uA ?_|(apply uK;· omega)|simp (disch:=omega) only [go_sem,Nat.reduceBEq,ww]);refine S.next (i+1) ⟨by omega,fun j hj y hy=>?_⟩ (by omega) (by repeat first|refine uA ?_|(refine ⟨?_,?_⟩;· first|rfl|simp [slot])|rfl|simp);rcases c8N j i with h1|h1
   ·exact hm j h1 y hy
   ·have:j=i:=by omega
    subst this;rw [hgi] at hy;cases hy;exact hpx.trans hc2
 ·have hi':i=l.length:=by omega
  subst hi';rw [a0k hm];(repeat first|refine uA ?_|(apply uK;· omega)|simp (disch:=omega) only [go_sem]);exact uS rfl rfl
theorem c5W (g:Nat) (hcal:callable Tryz.prog g=true) (c1 c2 c3:List C) (p:Vt->Bool) (l:List (Vt)) (hn:l.length<=1000000000) (hg:∀ x ∈ l,FZ g [x.c,.ep c1,.ep c2,.ep c3] (.v (.bool (p x)))) :
  FZ 29 [vts l,.clo g [.ep c1,.ep c2,.ep c3]] (.v (.bool (l.any p))):=by
 refine kW Tryz.func29 (by cbv) (by rfl) fun w O hw=>?_;have h:=c5M g hcal c1 c2 c3 p l hn hg;rw [<- a1E];generalize a0f p l=n at *;simp only [j4,TT,II,OA,MM];simp only [vts,ints] at *;(repeat first|refine uA ?_|(apply uK;· first|omega|(intros;simp_all<;>omega))|simp (disch:=omega) only [go_sem,Nat.reduceBEq,Nat.reduceAdd]|(apply uD h;exact tz hw;rfl));exact uS rfl rfl
def a4X (p l:List Vt):Bool:=a2D p l || !decide (R9 p l=0)
theorem c2i (p l:List Vt) (hp:Vbs 268435456 p) (hl:Vbs 268435456 l):FZ 46 [vts l,.ep [vts p]] (.v (.bool (a4X p l))):=by
 refine kW Tryz.func46 (by cbv) (by rfl) fun w O hw=>?_;have h:=b4b p l hp hl;unfold a4X;generalize a2D p l=b at *;generalize R9 p l=e at *;simp only [j4,TT,II,OA,OC,MM,VV,MG];simp only [vts,ints] at *;(repeat first|refine uA ?_|(apply uK;· first|omega|(intros;simp_all<;>omega))|simp (disch:=omega) only [go_sem,Nat.reduceBEq,Nat.reduceAdd]|(apply uD h;exact tz hw;rfl));refine S.done ?_;simp only [D6,go_sem,Nat.reduceBEq];(repeat (refine ⟨?_,?_⟩;· first|trivial|omega|simp));exact p8.out rfl (Imp.eq (by cases b<;>simp [a5T]) rfl) rfl
theorem c0n (b c:Bq) (hb:Bb 4294967296 b) (hc:Bb 4294967296 c):FZ 50 [.agg c.enc,.ep b.enc] (.v (.bool (a4x b c))):=by
 refine kW Tryz.func50 (by cbv) (by rfl) fun w O hw=>?_;have h:=b8M b c hb hc;generalize a4x b c=r at *;simp only [j4,TT,OA,MM,LL];simp only [Bq.enc,sb] at *;(repeat first|refine uA ?_|(apply uK;· first|omega|(intros;simp_all<;>omega))|simp (disch:=omega) only [go_sem,Nat.reduceBEq,Nat.reduceAdd]|(apply uD h;exact tz hw;rfl));exact uS rfl rfl
def a0G (bs:List Bq) (b:Bq):Bool:=bs.any fun c=>a4x b c
theorem b4W (bs:List Bq) (b:Bq) (hn:bs.length<=1000) (hb:Bb 4294967296 b) (hbs:∀ c ∈ bs,Bb 4294967296 c):FZ 48 [.agg b.enc,.ep [bqs bs]] (.v (.bool (a0G bs b))):=by
 refine kW Tryz.func48 (by cbv) (by rfl) fun w O hw=>?_;have h:=b8C 50 (by kernel_rfl) b.enc (fun c=>a4x b c) bs (by omega) (fun c hc=>c0n b c hb (hbs c hc));unfold a0G;generalize (bs.any fun c=>a4x b c)=r at *;simp only [j4,TT,OA,MM,VV];simp only [bqs,Bq.enc,sb] at *
 (repeat first|refine uA ?_|(apply uK;· first|omega|(intros;simp_all<;>omega))|simp (disch:=omega) only [go_sem,Nat.reduceBEq,Nat.reduceAdd]|(apply uE h;exact tz hw;exact rfl;focus (repeat' first|exact j3.nil|exact Imp.refl rfl|exact Imp.I9|exact Imp.fbx rfl rfl (j3.refl rfl) rfl rfl|refine Imp.clo ?_|exact Imp.frz rfl rfl rfl|(refine Imp.K5 rfl rfl ?_ ?_;(focus ((try simp only [c8A]);omega));(focus first|rfl|assumption))|refine Imp.agg ?_|refine j3.cons ?_ ?_);done));exact uS rfl rfl
def pvt (p:Rat × Rat):Vt:=⟨Nm.ofQ p.1,Nm.ofQ p.2⟩
theorem c2K (wc:Wk) (bs:List Bq) (p:Rat × Rat) (t:Int) (hn:bs.length<=1000) (hbs:∀ c ∈ bs,Bb 4294967296 c) (hw1:Rb 1048576 wc.walk) (hp:Vb 1048576 (pvt p)) (t0:0<=t) (t1:t<=1000000) :
  FZ 52 [(pvt p).c,.ep [.clo 48 [.ep [bqs bs]]],.ep wc.enc,.ep [ints t]] (.v (.bool (a0G bs (P7 p.1 p.2 wc.walk t)))):=by
 refine kW Tryz.func52 (by cbv) (by rfl) fun w O hw=>?_;have o1:=b6B p.1 p.2 wc.walk t hp.1 hp.2 hw1 t0 t1;have hr:Bb 4294967296 (P7 p.1 p.2 wc.walk t):=by
  have:=a6s (b:=⟨p.1,p.2,p.1,p.2⟩) (r:=D8 (a6b (Nm.d9 wc.walk) t) 0) ⟨hp.1,hp.2,hp.1,hp.2⟩ (a0T (b7T hw1 t0 t1) (O8.m rfl));exact ⟨this.1.m rfl,this.2.1.m rfl,this.2.2.1.m rfl,this.2.2.2.m rfl⟩
 have o2:=b4W bs _ hn hr hbs;have hcal:callable Tryz.prog 48=true:=by kernel_rfl
 generalize a0G bs (P7 p.1 p.2 wc.walk t)=r at *;generalize P7 p.1 p.2 wc.walk t=R at *;obtain ⟨arms,walls,parts,slots,gates,walk⟩:=wc;simp only [j4,TT,OA,MM,LL,VV,FF];simp only [bqs,Bq.enc,Wk.enc,Vt.c,Vt.enc,pvt,rc,sb,ints] at *;(repeat first|refine uA ?_|(apply uK;· first|omega|(intros;simp_all<;>omega))|simp (disch:=omega) only [go_sem,Nat.reduceBEq,Nat.reduceAdd,hcal]|(apply uD o1;exact tz hw;rfl)|(apply uD o2;exact tz hw;rfl));exact uS rfl rfl
theorem c4v (lx ly hx hy:Nm.Rt) (r:Rat) (b1:Rb 1073741824 lx) (b2:Rb 1073741824 ly) (b3:Rb 1073741824 hx) (b4:Rb 1073741824 hy) (hr:Rb 1073741824 (Nm.ofQ r)):FZ 54 [.agg [.v (.bool lx.neg),sb lx.num,sb lx.den,.v (.bool ly.neg),sb ly.num,sb ly.den,.v (.bool hx.neg),sb hx.num,sb hx.den,.v (.bool hy.neg),sb hy.num,sb hy.den],rq r] (.agg (a0b ⟨Nm.d9 lx,Nm.d9 ly,Nm.d9 hx,Nm.d9 hy⟩ r).enc):=by
 refine kW Tryz.func54 (by cbv) (by rfl) fun w O hw=>?_;have o1:=a4e lx (Nm.ofQ r) (b1.m rfl) (hr.m rfl);have o2:=a4e ly (Nm.ofQ r) (b2.m rfl) (hr.m rfl);have o3:=Z7 hx (Nm.ofQ r) (b3.m rfl) (hr.m rfl);have o4:=Z7 hy (Nm.ofQ r) (b4.m rfl) (hr.m rfl);rw [Nm.l6] at o1 o2 o3 o4;unfold a0b;simp only;generalize Nm.d9 lx-r=x1 at *;generalize Nm.d9 ly-r=x2 at *;generalize Nm.d9 hx+r=x3 at *;generalize Nm.d9 hy+r=x4 at *;simp only [j4,TT,OA,OB,LL,FF];simp only [Bq.enc,rq,rc,sb] at o1 o2 o3 o4 ⊢
 (repeat first|refine uA ?_|(apply uK;· first|omega|(intros;simp_all<;>omega))|simp (disch:=omega) only [go_sem,Nat.reduceBEq,Nat.reduceAdd]|(apply uD o1;exact tz hw;rfl)|(apply uD o2;exact tz hw;rfl)|(apply uD o3;exact tz hw;rfl)|(apply uD o4;exact tz hw;rfl));exact uS rfl rfl
set_option maxHeartbeats 32000000
def a7b (L:List Lk) (Q:List Sp):Bool:=(L.zip Q).any fun z=>decide (Nm.l8 z.2.lo (Nm.d9 z.1.low) < 0) || decide (0 < Nm.l8 z.2.hi (Nm.d9 z.1.high))
def a7Z (bs:List Bq) (lease:List Cl):Bool:=bs.any fun b=>!decide (ofE b=0) || !a1o (ofC b) lease
def b2A (bs:List Bq) (W:List (List Vt)):Bool:=bs.any fun b=>W.any fun l=>a4X (Q7 b) l
theorem a0C {α:Type} {l:List α} {i:Nat} {x:α} {p:α->Bool} (h:l[i]?=some x) (hp:p x=true):l.any p=true:=List.any_eq_true.2 ⟨x,c8t h,hp⟩
theorem Z4 {α:Type} {l:List α} {p:α->Bool} (h:∀ (j:Nat) x,j < l.length->l[j]?=some x->p x=false):l.any p=false:=by
 rw [List.any_eq_false];intro x hx;obtain ⟨j,hj⟩:=List.mem_iff_getElem?.1 hx;rw [h j x (c8v.1 hj).1 hj];decide
theorem V9 {α:Type} {l:List α} {i:Nat} {x:α} {p:α->Bool} (hg:l[i]?=some x) (hx:p x=false) (h:∀ (j:Nat) x,j < i->l[j]?=some x->p x=false):∀ (j:Nat) x,j < i+1->l[j]?=some x->p x=false:=fun j y hj hy=>by
 rcases c8N j i with h1|h1
 ·exact h j y h1 hy
 ·have:j=i:=by omega
  subst this;rw [hg] at hy;cases hy;exact hx
set_option maxRecDepth 10000
set_option maxHeartbeats 8000000
theorem b1x (a:List Int) (hn:a.length<=1000000000000):u7 Tryz.prog 7 [O7 a,O7 a] (.v (.bool true)):=by
 refine kS Tryz.func7 (by cbv) (by rfl) fun w O=>?_;simp only [j4,TT,II,OA,MM,VV,O7];(repeat first|refine uA ?_|(apply uK;· first|omega|(intros;simp_all<;>omega))|simp (disch:=omega) only [go_sem,Nat.reduceBEq,Nat.reduceAdd,c8r]);refine S.cond rfl (fun hc=>by simp at hc) (fun hc=>?_);(repeat first|refine uA ?_|(apply uK;· omega)|simp (disch:=omega) only [go_sem,Nat.reduceBEq,c8r]);refine S.loop (X:=Nat) (fun i=>⟨[(0,O7 a),(1,O7 a),(12,ints a.length),(13,ints i)],[]⟩)
  (fun i=>i<=a.length) (fun i=>a.length-i) 0 (c8w _) (by repeat first|refine uA ?_|(refine ⟨?_,?_⟩;· first|rfl|simp [slot])|rfl|simp) ?_
 intro i hi;simp only [ints,O7] at hi ⊢;(repeat first|refine uA ?_|(apply uK;· omega)|simp (disch:=omega) only [go_sem,Nat.reduceBEq]);(refine uJ rfl (fun hc=>?_) fun hc=>?_)
 ·have hgi:=c8q (show i < a.length by omega);generalize a[i]'_=z at hgi
  skip
  (repeat first|refine uA ?_|(apply uK;· omega)|simp (disch:=omega) only [go_sem,Nat.reduceBEq,hgi,c8s,c8r,c8u,beq_self_eq_true,decide_true]);refine S.cond rfl (fun hc2=>by simp at hc2) (fun hc2=>?_);(repeat first|refine uA ?_|(apply uK;· omega)|simp (disch:=omega) only [go_sem,Nat.reduceBEq,ww]);refine S.next (i+1) (by omega) (by omega) (by repeat first|refine uA ?_|(refine ⟨?_,?_⟩;· first|rfl|simp [slot])|rfl|simp)
 ·(repeat first|refine uA ?_|(apply uK;· omega)|simp (disch:=omega) only [go_sem]);exact uS rfl rfl
set_option maxRecDepth 100000
set_option maxHeartbeats 16000000
def a1H (ls:List (List Cl)) (i:Nat) (m:List Cl):Bool:=decide (0 < (a2q (ls.getD i []) m).length)
def powC (R:List Int):C:=.sl 1 (R.map fun r=>[.v (.bool (decide (r=0)))])
theorem a8S {a:Nm.Rt} (h:j5 a=true):a.F7:=by
 rw [a0g,c8F] at h;exact of_decide_eq_true h.1
theorem b6I {q:Rat}:0 < q8 q <-> 0 < q:=by
 have h1:=@Rat.num_nonneg q;have h2:=@Rat.num_eq_zero q;unfold q8;constructor
 ·intro h;split at h
  ·omega
  ·split at h
   ·omega
   ·rename_i h3 h4;have h5:0<=q:=h1.1 (by omega);have h6:q ≠ 0:=fun e=>h3 (h2.2 e);grind
 ·intro h;have h5:0<=q.num:=h1.2 (by grind);have h6:q.num ≠ 0:=fun e=>by have:=h2.1 e;grind
  rw [if_neg h6,if_neg (by omega)];decide
theorem b5W {q:Rat}:q8 q < 0 <-> q < 0:=by
 have h1:=@Rat.num_nonneg q;have hn:q.num < 0 <-> q < 0:=by rw [<- Rat.not_le,<- h1];omega
 unfold q8;constructor
 ·intro h;split at h
  ·omega
  ·split at h
   ·exact hn.1 (by assumption)
   ·omega
 ·intro h;have:=hn.2 h;rw [if_neg (by omega),if_pos this];decide
theorem b9y (p q:Rat):D8 p q=if p < q then q else p:=by
 unfold D8;by_cases h:p < q
 ·rw [if_pos h,if_neg];have:=(Y6 p q).2 h;omega
 ·rw [if_neg h,if_pos];have:¬ Nm.l8 p q < 0:=fun h2=>h ((Y6 p q).1 h2);omega
theorem c0h (p q:Rat):u6 p q=if q < p then q else p:=by
 unfold u6;by_cases h:q < p
 ·rw [if_pos h,if_neg];have:=(V8 p q).2 h;omega
 ·rw [if_neg h,if_pos];have:¬ 0 < Nm.l8 p q:=fun h2=>h ((V8 p q).1 h2);omega
theorem c4o {l:Lk} (h:R4 l=0):a1k l=if 0 < q8 (Nm.d9 l.low) then l.low else if q8 (Nm.d9 l.high) < 0 then l.high else Nm.ofQ 0:=by
 have hlt:=(Y6 _ _).1 (a4E h).2.1;have hs:j5 l.low=true/\j5 l.high=true:=by
  unfold R4 at h;split at h
  ·cases h
  ·rename_i h1;have h2:(j5 l.length && j5 l.low && j5 l.high && j5 l.speed && j5 l.brake)=true:=by
    cases hb:(j5 l.length && j5 l.low && j5 l.high && j5 l.speed && j5 l.brake) with
    | true=>rfl
    | false=>exact absurd (.inl hb) h1
   simp only [c8F] at h2;exact ⟨h2.1.1.1.2,h2.1.1.2⟩
 have g1:=a8S hs.1;have g2:=a8S hs.2;unfold a1k;rw [b9y,c0h];by_cases c1:0 < Nm.d9 l.low
 ·rw [if_pos (b6I.2 c1)];by_cases c2:0 < Nm.d9 l.high
  ·rw [if_pos c2,if_neg (by grind),Nm.a1V g1]
  ·rw [if_neg c2,if_neg (by grind),Nm.a1V g1]
 ·rw [if_neg (fun h=>c1 (b6I.1 h))];by_cases c2:Nm.d9 l.high < 0
  ·rw [if_pos (b5W.2 c2),if_neg (show ¬ 0 < Nm.d9 l.high by grind),if_pos hlt,Nm.a1V g2]
  ·rw [if_neg (fun h=>c2 (b5W.1 h))];congr 1;by_cases c3:0 < Nm.d9 l.high
   ·rw [if_pos c3];split<;>grind
   ·rw [if_neg c3];split<;>grind
theorem c1y (w:Wk) (hwb:Wb 1073741824 w) (h:Q9 w=0):FZ 22 [w.c] (R5 w).c:=by
 refine kW Tryz.func22 (by cbv) (by rfl) fun w' O hw=>?_;have hao:=b0M h;obtain ⟨n1,b1⟩:=hwb.arms;have n3:=hwb.parts.1;have n4:=hwb.slots.1;have n5:=hwb.gates.1;have hz:=a1q;have hfz:=c4r;have hpe:∀ i,a7H w i=if h:i < w.slots.length then (w.slots[i]).frame else a5G:=fun _=>rfl
 unfold R5;generalize hfp:a7H w=fP at *;obtain ⟨arms,walls,parts,slots,gates,walk⟩:=w;simp only at n1 b1 n3 n4 n5 hpe hao ⊢;simp only [j4,TT,II,OA,OB,MM,LL,VV,FF];simp only [Wk.c,Wk.enc,Stt.c,Stt.enc,ams,wls,pts,sls,gts,E8,frs,vts,bls,sb,ints] at ⊢;(repeat first|refine uA ?_|(apply uK;· first|omega|(intros;simp_all<;>omega))|simp (disch:=omega) only [go_sem,Nat.reduceBEq,Nat.reduceAdd,c8r,c8u])
 refine S.loop (X:=Nat) (fun i=>⟨[(1,.bp 0 0),(2,.bp 1 0),(3,.bp 3 0),(17,ams arms),(18,ints arms.length),(19,ints i)],[.box 30 [ams arms,wls walls,pts parts,sls slots,gts gates,.v (.bool walk.neg),sb walk.num,sb walk.den],.box 36 [.v (.int .i64 0),.v (.slice none 0 0),.v (.slice none 0 0),.v (.slice none 0 0),.v (.slice none 0 0)],.row 4 1 (List.replicate gates.length [.v (.bool false)]),.box 36 [.v (.int .i64 0),.rv 4,.rv 5,.v (.slice none 0 0),.rv 2],.row 70 4 (((arms.take i).map a1m).map Ast.enc),.row 77 10 []]⟩) (fun i=>i<=arms.length) (fun i=>arms.length-i) 0 (c8w _)
  (Ent.trans (Ent.a6S 3 1 70 4 rfl rfl rfl) (Ent.trans (Ent.a6S 3 2 77 10 rfl rfl rfl) (by repeat first|refine uA ?_|(refine ⟨?_,?_⟩;· first|rfl|simp [slot])|rfl|simp))) ?_
 intro i hi;simp only [ams,wls,pts,sls,gts,vts,sb,ints];(repeat first|refine uA ?_|(apply uK;· first|omega|(intros;simp_all<;>omega))|simp (disch:=omega) only [go_sem,Nat.reduceBEq]);(refine uJ rfl (fun hc=>?_) fun hc=>?_)
 ·have hi':i < arms.length:=by omega
  have hgi:=c8q hi';have hap:arms.take (i+1)=arms.take i++[arms[i]]:=c9k hi';have htl:(arms.take i).length=i:=by rw [c8E];omega
  generalize arms[i]=a at hgi hap;obtain ⟨b0,_,nl,bl⟩:=b1 a (c8t hgi);have hlo:=(M7 (hao a (c8t hgi))).2;(repeat first|refine uA ?_|(apply uK;· first|omega|(intros;simp_all<;>omega))|simp (disch:=omega) only [go_sem,Nat.reduceBEq,Nat.reduceAdd,hgi,c8s,c8r,Am.enc,lks,sb])
  refine S.loop (X:=Nat) (fun k=>⟨[(1,.bp 0 0),(2,.bp 1 0),(3,.bp 3 0),(6,.bp 7 0),(17,ams arms),(18,ints arms.length),(19,ints i),(25,lks a.links),(26,ints a.links.length),(27,ints k)],[.box 30 [ams arms,wls walls,pts parts,sls slots,gts gates,.v (.bool walk.neg),sb walk.num,sb walk.den],.box 36 [.v (.int .i64 0),.v (.slice none 0 0),.v (.slice none 0 0),.v (.slice none 0 0),.v (.slice none 0 0)],.row 4 1 (List.replicate gates.length [.v (.bool false)]),.box 36 [.v (.int .i64 0),.rv 4,.rv 5,.v (.slice none 0 0),.rv 2],.row 70 4 (((arms.take i).map a1m).map Ast.enc),.row 77 10 [],.gone,.box 70 [.rv 8,.rv 9,.v (.bool false),.v (.int .i64 (-1))],.row 28 3 (((a.links.take k).map a1k).map rcs),.row 28 3 (((a.links.take k).map fun _=>Nm.ofQ 0).map rcs)]⟩) (fun k=>k<=a.links.length) (fun k=>a.links.length-k) 0 (c8w _)
   (Ent.trans (Ent.a6S 7 0 28 3 rfl rfl rfl) (Ent.trans (Ent.a6S 7 1 28 3 rfl rfl rfl) (by repeat first|refine uA ?_|(refine ⟨?_,?_⟩;· first|rfl|simp [slot])|rfl|simp))) ?_
  intro k hk;simp only [ams,wls,pts,sls,gts,lks,vts,sb,ints];(repeat first|refine uA ?_|(apply uK;· first|omega|(intros;simp_all<;>omega))|simp (disch:=omega) only [go_sem,Nat.reduceBEq]);(refine uJ rfl (fun hc=>?_) fun hc=>?_)
  ·have hk':k < a.links.length:=by omega
   have hgk:=c8q hk';have hak:a.links.take (k+1)=a.links.take k++[a.links[k]]:=c9k hk';have htk:(a.links.take k).length=k:=by rw [c8E];omega
   generalize a.links[k]=l at hgk hak;obtain ⟨_,l2,l3,_⟩:=bl l (c8t hgk);have o1:=M8 l.low (l2.m rfl);have o2:=M8 l.high (l3.m rfl);have hq:=c4o (hlo l (c8t hgk));unfold rq at hz;generalize q8 (Nm.d9 l.low)=s1 at *;generalize q8 (Nm.d9 l.high)=s2 at *;generalize hz0:Nm.ofQ 0=r0 at *;simp only [rc,sb,ints] at o1 o2 hz;(repeat first|refine uA ?_|(apply uK;· first|omega|(intros;simp_all<;>omega))|simp (disch:=omega) only [go_sem,Nat.reduceBEq,Nat.reduceAdd,hgk,c8s,c8r,Lk.enc,vts,sb]|(refine uD hz ?_ ?_ ?_;exact tz hw;rfl)|(refine uD o1 ?_ ?_ ?_;exact tz hw;rfl))
   refine S.join (Y:=Nm.Rt) (fun q=>⟨[(1,.bp 0 0),(2,.bp 1 0),(3,.bp 3 0),(6,.bp 7 0),(9,.bp 11 0),(17,ams arms),(18,ints arms.length),(19,ints i),(25,lks a.links),(26,ints a.links.length),(27,ints k)],[.box 30 [ams arms,wls walls,pts parts,sls slots,gts gates,.v (.bool walk.neg),sb walk.num,sb walk.den],.box 36 [.v (.int .i64 0),.v (.slice none 0 0),.v (.slice none 0 0),.v (.slice none 0 0),.v (.slice none 0 0)],.row 4 1 (List.replicate gates.length [.v (.bool false)]),.box 36 [.v (.int .i64 0),.rv 4,.rv 5,.v (.slice none 0 0),.rv 2],.row 70 4 (((arms.take i).map a1m).map Ast.enc),.row 77 10 [],.gone,.box 70 [.rv 8,.rv 9,.v (.bool false),.v (.int .i64 (-1))],.row 28 3 (((a.links.take k).map a1k).map rcs),.row 28 3 (((a.links.take k).map fun _=>r0).map rcs),.gone,.box 28 (rcs q)]⟩) (fun q=>q=a1k l) ?_ ?_
   ·refine S.cond rfl (fun hc2=>?_) (fun hc2=>?_)
    ·rw [if_pos (by simpa using hc2)] at hq;(repeat first|refine uA ?_|(apply uK;· first|omega|(intros;simp_all<;>omega))|simp (disch:=omega) only [go_sem,Nat.reduceBEq,Nat.reduceAdd]);exact S.met l.low hq.symm (by simp only [ams,wls,pts,sls,gts,lks,vts,rcs,sb];exact (by repeat first|refine uA ?_|(refine ⟨?_,?_⟩;· first|rfl|simp [slot])|rfl|simp))
    rw [if_neg (by simpa using hc2)] at hq;(repeat first|refine uA ?_|(apply uK;· first|omega|(intros;simp_all<;>omega))|simp (disch:=omega) only [go_sem,Nat.reduceBEq,Nat.reduceAdd]|(refine uD o2 ?_ ?_ ?_;exact tz hw;rfl));refine S.cond rfl (fun hc3=>?_) (fun hc3=>?_)
    ·rw [if_pos (by simpa using hc3)] at hq;(repeat first|refine uA ?_|(apply uK;· first|omega|(intros;simp_all<;>omega))|simp (disch:=omega) only [go_sem,Nat.reduceBEq,Nat.reduceAdd]);exact S.met l.high hq.symm (by simp only [ams,wls,pts,sls,gts,lks,vts,rcs,sb];exact (by repeat first|refine uA ?_|(refine ⟨?_,?_⟩;· first|rfl|simp [slot])|rfl|simp))
    ·rw [if_neg (by simpa using hc3)] at hq;(repeat first|refine uA ?_|(apply uK;· first|omega|(intros;simp_all<;>omega))|simp (disch:=omega) only [go_sem,Nat.reduceBEq,Nat.reduceAdd,ww]);exact S.met r0 hq.symm (by simp only [ams,wls,pts,sls,gts,lks,vts,rcs,sb];exact (by repeat first|refine uA ?_|(refine ⟨?_,?_⟩;· first|rfl|simp [slot])|rfl|simp))
   rintro q rfl;clear hq;simp only [ams,wls,pts,sls,gts,lks,vts,rcs,sb,ints];(repeat first|refine uI ?_|(apply uK;· first|omega|(intros;simp_all<;>omega))|simp (disch:=omega) only [go_sem,Nat.reduceBEq,Nat.reduceAdd,ww]);refine S.X4 [.gone,.gone,.gone,.gone,.gone,.gone,.gone,.box 70 [.junk,.rv 9,.v (.bool false),.v (.int .i64 (-1))]] (by simp [Eng.F3,Eng.leC]) ?_;(repeat first|refine uA ?_|(apply uK;· first|omega|(intros;simp_all<;>omega))|simp (disch:=omega) only [go_sem,Nat.reduceBEq,Nat.reduceAdd,ww,KMd,c8r,htk]|(refine uD hz ?_ ?_ ?_;exact tz hw;rfl))
   refine S.next (k+1) (by omega) (by omega) (by simp only [hak,c9i,c8K,c8O,rcs,sb];exact (by repeat first|refine uA ?_|(refine ⟨?_,?_⟩;· first|rfl|simp [slot])|rfl|simp))
  ·have hk':k=a.links.length:=by omega
   subst hk';rw [c8J];refine S.exit rfl ?_
   refine S.weaken (st':=⟨[(1,.bp 0 0),(2,.bp 1 0),(3,.bp 3 0),(6,.bp 7 0),(17,ams arms),(18,ints arms.length),(19,ints i)],[.box 30 [ams arms,wls walls,pts parts,sls slots,gts gates,.v (.bool walk.neg),sb walk.num,sb walk.den],.box 36 [.v (.int .i64 0),.v (.slice none 0 0),.v (.slice none 0 0),.v (.slice none 0 0),.v (.slice none 0 0)],.row 4 1 (List.replicate gates.length [.v (.bool false)]),.box 36 [.v (.int .i64 0),.rv 4,.rv 5,.v (.slice none 0 0),.rv 2],.row 70 4 (((arms.take i).map a1m).map Ast.enc),.row 77 10 [],.gone,.box 70 (a1m a).enc]⟩) (Ent.mk _ _ (by repeat first|refine uA ?_|(refine ⟨?_,?_⟩;· first|rfl|simp [slot])|rfl|simp) (by (repeat' (first|exact D9.nil|exact RI.gone _|exact RI.row _ _ _ _ rfl|exact RI.map _ _ _ rfl|exact RI.box _ _ _ (j3.refl rfl)|(refine RI.box _ _ _ ?_;(repeat' (first|exact j3.nil|exact Imp.refl rfl|exact Imp.frz rfl rfl rfl|exact Imp.I9|refine j3.cons ?_ ?_)))|refine D9.cons ?_ ?_))) (c8w _)) ?_
   simp only [ams,wls,pts,sls,gts,vts,sb,ints,Ast.enc,rts];(repeat first|refine uA ?_|(apply uK;· first|omega|(intros;simp_all<;>omega))|simp (disch:=omega) only [go_sem,Nat.reduceBEq,Nat.reduceAdd,ww,c8r,htl]);refine S.next (i+1) (by omega) (by omega) (by simp only [hap,c9i,c8K,c8O,Ast.enc,rts,ints];exact (by repeat first|refine uA ?_|(refine ⟨?_,?_⟩;· first|rfl|simp [slot])|rfl|simp))
 ·have hi':i=arms.length:=by omega
  subst hi';rw [c8J];(repeat first|refine uA ?_|(apply uK;· first|omega|(intros;simp_all<;>omega))|simp (disch:=omega) only [go_sem,Nat.reduceBEq,Nat.reduceAdd,c8r])
  refine S.loop (X:=Nat) (fun i=>⟨[(1,.bp 0 0),(2,.bp 1 0),(3,.bp 3 0),(66,ints parts.length),(67,ints i)],[.box 30 [ams arms,wls walls,pts parts,sls slots,gts gates,.v (.bool walk.neg),sb walk.num,sb walk.den],.box 36 [.v (.int .i64 0),.v (.slice none 0 0),.v (.slice none 0 0),.v (.slice none 0 0),.v (.slice none 0 0)],.row 4 1 (List.replicate gates.length [.v (.bool false)]),.box 36 [.v (.int .i64 0),.rv 4,.rv 5,.v (.slice none 0 0),.rv 2],.row 70 4 ((arms.map a1m).map Ast.enc),.row 77 10 (((List.range i).map fP).map Fr.enc)]⟩) (fun i=>i<=parts.length) (fun i=>parts.length-i) 0 (c8w _) (by repeat first|refine uA ?_|(refine ⟨?_,?_⟩;· first|rfl|simp [slot])|rfl|simp) ?_;intro i hi
  simp only [ams,wls,pts,sls,gts,vts,sb,ints];(repeat first|refine uA ?_|(apply uK;· first|omega|(intros;simp_all<;>omega))|simp (disch:=omega) only [go_sem,Nat.reduceBEq]);(refine uJ rfl (fun hc=>?_) fun hc=>?_)
  ·have hrl:((List.range i).map fP).length=i:=by simp
   simp only [a5G,Fr.c,Fr.enc,sb] at hfz;(repeat first|refine uA ?_|(apply uK;· first|omega|(intros;simp_all<;>omega))|simp (disch:=omega) only [go_sem,Nat.reduceBEq,Nat.reduceAdd,c8r]);refine S.cond rfl (fun hc=>?_) (fun hc=>?_)
   ·have hsi:i < slots.length:=by simp at hc;omega
    have hgs:=c8q hsi;have hf:fP i=(slots[i]).frame:=by rw [hpe i,dif_pos hsi]
    generalize slots[i]=s at hgs hf;(repeat first|refine uA ?_|(apply uK;· first|omega|(intros;simp_all<;>omega))|simp (disch:=omega) only [go_sem,Nat.reduceBEq,Nat.reduceAdd,ww,hgs,c8s,c8r,Sl.enc,sb,c8u,hrl]);refine S.next (i+1) (by omega) (by omega) (by simp only [List.range_succ,c9i,c8K,c8O,hf,Fr.enc,sb];exact (by repeat first|refine uA ?_|(refine ⟨?_,?_⟩;· first|rfl|simp [slot])|rfl|simp))
   ·have hf:fP i=a5G:=by rw [hpe i,dif_neg (by simp at hc;omega)]
    (repeat first|refine uA ?_|(apply uK;· first|omega|(intros;simp_all<;>omega))|simp (disch:=omega) only [go_sem,Nat.reduceBEq,Nat.reduceAdd,ww,c8r,hrl]|(refine uD hfz ?_ ?_ ?_;exact tz hw;rfl));refine S.next (i+1) (by omega) (by omega) (by simp only [List.range_succ,c9i,c8K,c8O,hf,a5G,Fr.enc,sb];exact (by repeat first|refine uA ?_|(refine ⟨?_,?_⟩;· first|rfl|simp [slot])|rfl|simp))
  ·have hi':i=parts.length:=by omega
   subst hi';simp only [List.map_replicate];(repeat first|refine uA ?_|(apply uK;· first|omega|(intros;simp_all<;>omega))|simp (disch:=omega) only [go_sem,Nat.reduceBEq,Nat.reduceAdd]);exact uQ rfl (Imp.agg (by (repeat' (first|exact j3.nil|exact Imp.refl rfl|exact Imp.frz rfl rfl rfl|exact Imp.I9|refine j3.cons ?_ ?_)))) rfl rfl
def Q8:Wk:=⟨[b3M [] 0],[],[],[],[],Q 0 8⟩
theorem a5K:Q9 Q8=0:=by decide +kernel
theorem a9p:Wb 1048576 Q8:=by
 have ha:=b0M a5K;refine ⟨⟨by decide,fun x hx=>(M7 (ha x hx)).1⟩,⟨by decide,fun x hx=>by cases hx⟩,⟨by decide,fun x hx=>by cases hx⟩,⟨by decide,fun x hx=>by cases hx⟩,⟨by decide,fun x hx=>by cases hx⟩,⟨by decide +kernel,by decide +kernel⟩⟩
theorem S.b2x {E:Ctx} {Q:Exit->Act->World->Prop} {st:St} {k:List It} {body:IC} (h:∀ J,S E Q st (.code body::.inv J::k)):S E Q st (.code (.loop body)::k):=
 S.loop (X:=Unit) (fun _=>st) (fun _=>True) (fun _=>0) () trivial (fun _ ν _ _ h=>⟨ν,h⟩) fun _ _=>h _
theorem c2N:u7 Tryz.prog 21 [O7 []] Q8.c:=by
 refine kS Tryz.func21 (cF rfl rfl (by cbv) (by repeat' first|exact cS|exact cT|exact cE|apply cA|apply cC|apply cB|apply cL|(apply cR;cbv)|(apply cD;cbv;cbv;kernel_rfl))) (by rfl) fun w O=>?_;have k2:=fun (E:Ctx) (hP:E.P=Tryz.prog)=>a1G hP [] 2 (by decide);have k3:=fun (E:Ctx) (hP:E.P=Tryz.prog)=>a1G hP [] 3 (by decide);have k4:=fun (E:Ctx) (hP:E.P=Tryz.prog)=>a1G hP [] 4 (by decide);have ha:∀ i:Nat,i=0->∀ E:Ctx,E.P=Tryz.prog->l7 E [.box 133 [O7 []]] 73 [.bp 0 0,.v (.int .i64 (i:Int))] (b3M [] 0).c [.box 133 [O7 (a9k [])]] []:=fun i h E hP=>by subst h;exact c6X hP [] 0 (by decide)
 have o1:=a3Z 0 8 (by decide) (by decide);have e1:a9k []=[]:=by unfold a9k;exact List.drop_nil
 rw [e1] at ha;simp only [List.drop_nil,show nx [] 2=0 from rfl,show nx [] 3=0 from rfl,show nx [] 4=0 from rfl,O7,c8O,ints] at k2 k3 k4 ha o1;unfold Q8;generalize b3M [] 0=A at *;generalize Q 0 8=q at *;simp only [Am.c,Am.enc,lks,rc,sb] at ha o1;simp only [j4,TT,II,OA,OB,MM,LL,VV,FF];simp only [O7,c8O];(repeat first|refine uA ?_|(apply uK;· omega)|simp (disch:=omega) only [go_sem,Nat.reduceBEq,ww]|refine l9.t (l7.lift (k:=1) rfl (k2 _ rfl) rfl rfl rfl) ?_)
 refine S.loop (X:=Nat) (fun i=>⟨[(2,.bp 0 0),(3,.bp 1 0),(4,.bp 2 0),(17,ints 1),(18,ints i)],[.box 30 [.v (.slice none 0 0),.v (.slice none 0 0),.v (.slice none 0 0),.v (.slice none 0 0),.v (.slice none 0 0),.v (.bool false),.v (.string ⟨#[]⟩),.v (.string ⟨#[]⟩)],.box 133 [.sl 1 []],.box 30 [.rv 3,.v (.slice none 0 0),.v (.slice none 0 0),.v (.slice none 0 0),.v (.slice none 0 0),.v (.bool false),.v (.string ⟨#[]⟩),.v (.string ⟨#[]⟩)],.row 80 12 ((List.replicate i A).map Am.enc)]⟩) (fun i=>i<=1) (fun i=>1-i) 0 (by decide) (Ent.trans (Ent.a6S 2 0 80 12 rfl rfl rfl) (by repeat first|refine uA ?_|(refine ⟨?_,?_⟩;· first|rfl|simp [slot])|rfl|simp)) ?_;intro i hi;simp only [ints]
 (repeat first|refine uA ?_|(apply uK;· omega)|simp (disch:=omega) only [go_sem,Nat.reduceBEq]);(refine uJ rfl (fun hc=>?_) fun hc=>?_)
 ·have hi':i=0:=by omega
  have ha:=ha i hi';(repeat first|refine uI ?_|(apply uK;· omega)|simp (disch:=omega) only [go_sem,Nat.reduceBEq]);refine S.X4 [.gone,.gone,.box 30 [.rv 3,.v (.slice none 0 0),.v (.slice none 0 0),.v (.slice none 0 0),.v (.slice none 0 0),.v (.bool false),.v (.string ⟨#[]⟩),.v (.string ⟨#[]⟩)]] (by simp [Eng.F3,Eng.E5]) ?_;(repeat first|refine uA ?_|(apply uK;· first|omega|(intros;simp_all<;>omega))|simp (disch:=omega) only [go_sem,Nat.reduceBEq,Nat.reduceAdd,ww,c8r,List.length_replicate]|refine l9.t (l7.lift (k:=1) rfl (ha _ rfl) rfl rfl rfl) ?_)
  refine S.next (i+1) (by omega) (by omega) (by simp only [List.replicate_succ',c9i,c8K,c8O,Am.enc,lks,sb];exact (by repeat first|refine uA ?_|(refine ⟨?_,?_⟩;· first|rfl|simp [slot])|rfl|simp))
 have hi':i=1:=by omega
 subst hi';(repeat first|refine uA ?_|(apply uK;· omega)|simp (disch:=omega) only [go_sem,Nat.reduceBEq]|refine l9.t (l7.lift (k:=1) rfl (k3 _ rfl) rfl rfl rfl) ?_);refine S.b2x fun J=>?_;(repeat first|refine uA ?_|(apply uK;· omega)|simp (disch:=omega) only [go_sem,Nat.reduceBEq]);refine S.cond rfl (fun hc=>by simp at hc) (fun hc=>?_);(repeat first|refine uA ?_|(apply uK;· omega)|simp (disch:=omega) only [go_sem,Nat.reduceBEq]|refine l9.t (l7.lift (k:=1) rfl (k3 _ rfl) rfl rfl rfl) ?_);refine S.b2x fun J=>?_;(repeat first|refine uA ?_|(apply uK;· omega)|simp (disch:=omega) only [go_sem,Nat.reduceBEq]);refine S.cond rfl (fun hc=>by simp at hc) (fun hc=>?_)
 (repeat first|refine uI ?_|(apply uK;· omega)|simp (disch:=omega) only [go_sem,Nat.reduceBEq,ww]);refine S.X4 [.gone,.gone,.box 30 [.rv 3,.v (.slice none 0 0),.v (.slice none 0 0),.v (.slice none 0 0),.v (.slice none 0 0),.v (.bool false),.v (.string ⟨#[]⟩),.v (.string ⟨#[]⟩)]] (by simp [Eng.F3,Eng.E5]) ?_;(repeat first|refine uA ?_|(apply uK;· omega)|simp (disch:=omega) only [go_sem,Nat.reduceBEq,ww]|refine l9.t (l7.lift (k:=1) rfl (k2 _ rfl) rfl rfl rfl) ?_);refine S.b2x fun J=>?_;(repeat first|refine uA ?_|(apply uK;· omega)|simp (disch:=omega) only [go_sem,Nat.reduceBEq]);refine S.cond rfl (fun hc=>by simp at hc) (fun hc=>?_)
 (repeat first|refine uA ?_|(apply uK;· omega)|simp (disch:=omega) only [go_sem,Nat.reduceBEq]|refine l9.t (l7.lift (k:=1) rfl (k2 _ rfl) rfl rfl rfl) ?_);refine S.b2x fun J=>?_;(repeat first|refine uA ?_|(apply uK;· omega)|simp (disch:=omega) only [go_sem,Nat.reduceBEq]);refine S.cond rfl (fun hc=>by simp at hc) (fun hc=>?_);(repeat first|refine uA ?_|(apply uK;· omega)|simp (disch:=omega) only [go_sem,Nat.reduceBEq]|refine l9.t (l7.lift (k:=1) rfl (k4 _ rfl) rfl rfl rfl) ?_|(apply uB o1;exact rfl));simp only [Wk.c,Wk.enc,ams,wls,pts,sls,gts,sb,c8K,c8O,Am.enc,lks]
 exact uQ rfl (Imp.agg (by (repeat' (first|exact j3.nil|exact Imp.refl rfl|exact Imp.frz rfl rfl rfl|exact Imp.I9|refine j3.cons ?_ ?_)))) rfl rfl
theorem c0R:u7 Tryz.prog 21 [.v (.slice none 0 0)] Q8.c:=by
 have h:=c2N;intro O w vs hO hA;refine h O w vs hO ?_;simp only [FzL,Fz] at hA;obtain ⟨y,ys,rfl,rfl,rfl⟩:=hA;exact ⟨_,_,rfl,c6c,rfl⟩
theorem c6y:(∀ a ∈ Q8.arms,H9 a=0)/\∀ s ∈ Q8.slots,okF s.frame=true:=⟨b0M a5K,fun s hs=>by cases hs⟩
theorem c4H:FZ 8 [] (.tup [Q8.c,(R5 Q8).c]):=by
 refine kW Tryz.func8 (by cbv) (by rfl) fun w' O hw=>?_;have h1:=c0R;have h2:=c1y Q8 (a9p.m rfl) a5K;generalize R5 Q8=s at *;generalize Q8=w at *;obtain ⟨arms,walls,parts,slots,gates,walk⟩:=w;obtain ⟨tick,sarms,sparts,people,sgates⟩:=s;simp only [j4,TT,OA,OB,LL];simp only [Wk.c,Wk.enc,Stt.c,Stt.enc,ams,wls,pts,sls,gts,E8,frs,vts,bls,sb,ints] at h1 h2 ⊢;(repeat first|refine uA ?_|(apply uK;· omega)|simp (disch:=omega) only [go_sem,Nat.reduceBEq]|(apply uB h1;exact rfl)|(apply uD h2;exact tz hw;rfl));exact uQ rfl (Imp.tup (by repeat' first|exact j3.nil|exact Imp.refl rfl|apply j3.cons)) rfl rfl
theorem c0F {E:Ctx} {N:Nat} (wf:Wf E) (hN:E.N=N) {ops:Array Oper} {Q:Exit->Act->World->Prop} {K:St->Prop} (hK:∀ st' ν' a' w',K st'->Eng.Good E ν' st' a' w'->Q .normal a' w') :
  ∀ (i1:List E9) (l:List Oper) (i2:List E9) (st:St) (ν:List Value) (a:Act) (w:World),U6 E.P N ops l=some (i1++i2)->ev E i1 st (fun s1=>∃ s2,Ent E s1 s2/\ev E i2 s2 K)->Eng.Good E ν st a w->wpList E.P ops Q l a w
 | [],l,i2,st,ν,a,w,hc,h,hG=>by
  obtain ⟨s2,he,h⟩:=h;obtain ⟨ν',hG'⟩:=he wf ν a w hG;exact a9G hN hK l _ s2 ν' a w hc h hG'
 | i::r,[],i2,st,ν,a,w,hc,h,hG=>by simp [U6] at hc
 | i::r,o::l,i2,st,ν,a,w,hc,h,hG=>by
  rw [List.cons_append] at hc;simp only [U6] at hc;split at hc
  ·rename_i io ir hio hir;injection hc with hc;injection hc with hc1 hc2;subst hc1 hc2;obtain ⟨hd,his,hdst,hg⟩:=Y8 hio;rw [<- hN] at hd;have next:∀ st' ν' a' w',(ev E r st' fun s1=>∃ s2,Ent E s1 s2/\ev E i2 s2 K)->Eng.Good E ν' st' a' w'->wpList E.P ops Q l a' w':=fun st' ν' a' w' h' hG'=>c0F wf hN hK r l i2 st' ν' a' w' hir h' hG'
   simp only [ev,ev1,hdst] at h;rcases hg with ⟨hg1,hg2⟩|⟨j,s,want,hg1,hg2,hs⟩
   ·rw [hg2] at h;simp only at h;unfold wpList;rw [if_pos (by simp [Region.wanted,hg1])];exact .inl (b1v his hd h hG next)
   ·rw [hg2] at h;simp only at h;obtain ⟨gv1,gv2⟩:=a4A hs (hG.fr s);have fin:∀ p:Bool,(yielded ops a.tmps j == some want)=p->evG E st p o.dst io.op (fun st'=>ev E r st' fun s1=>∃ s2,Ent E s1 s2/\ev E i2 s2 K)->wpList E.P ops Q (o::l) a w:=by
     intro p hp h';have:=b1r his hd h' hG next (Q:=Q)
     unfold wpList;rw [a4y hg1,hp];cases p with
     | true=>exact .inl (by simpa using this)
     | false=>simpa using this
    split at h
    ·rename_i b hb;exact fin _ (by rw [gv1 b hb];rfl) h
    ·rename_i q b hb;refine fin _ ?_ h;cases hq:q with
     | true=>rw [(gv2 q b hb).1 hq];rfl
     | false=>rw [(gv2 q b hb).2 hq];rfl
    ·exact h.elim
  ·cases hc
theorem S.c7X {E:Ctx} {Q:Exit->Act->World->Prop} {st:St} {k:List It} {x y:List E9} (h:ev E x st fun s1=>∃ s2,Ent E s1 s2/\ev E y s2 fun st'=>S E Q st' k):S E Q st (.code (.reg (x++y))::k):=by
 intro wf ν a w hG code hc;obtain ⟨id,cops,rfl,hl⟩:=a0X hc;exact wp_region_list (c0F wf rfl (fun st' ν' a' w' hk hG'=>hk wf ν' a' w' hG') _ cops.toList _ st ν a w hl h hG)
theorem c5H:FZ 9 [] (.sl 1 [[.v (.slice none 0 0)]]):=by
 refine kW Tryz.func9 (by cbv) (by rfl) fun w' O hw=>?_;simp only [j4,OA,MM];(repeat first|refine uA ?_|(apply uK;· omega)|simp (disch:=omega) only [go_sem,Nat.reduceBEq]);exact uQ rfl (Imp.frz rfl rfl rfl) rfl rfl
theorem c4N:FZ 10 [] (wss [[Q 0 1]]):=by
 refine kW Tryz.func10 (by cbv) (by rfl) fun w' O hw=>?_;have h2:=a3Z 0 1 (by decide) (by decide);generalize Q 0 1=q at *;simp only [j4,TT,II,OA,MM];simp only [wss,rts,rcs,rc,sb,ints,c8K,c8O] at h2 ⊢;refine S.seq (S.reg ?_);simp only [go_sem];refine S.seq ?_;refine S.c7X (x:=[_,_]) (y:=[_,_]) ?_;(repeat first|refine uA ?_|(apply uK;· omega)|simp (disch:=omega) only [go_sem,Nat.reduceBEq]|(apply uB h2;exact rfl));refine ⟨⟨[(2,.sl 3 [[.v (.bool q.neg),.v (.string (bs q.num)),.v (.string (bs q.den))]])],[.gone]⟩,Ent.mk _ _ (R3.cons (Imp.frz rfl rfl rfl) R3.nil) (D9.cons (RI.gone _) D9.nil) (c8w _),?_⟩;(repeat first|refine uA ?_|(apply uK;· omega)|simp (disch:=omega) only [go_sem,Nat.reduceBEq])
 exact uQ rfl (Imp.frz rfl rfl rfl) rfl rfl
theorem c4a {w:World} {O:Nat->Prop} {y:Value} (h:Fz w O (.sl 1 [[.v (.slice none 0 0)]]) y):Fz w O (.sl 1 [[.sl 2 []]]) y:=by
 simp only [Fz] at h ⊢;obtain ⟨A,c,h1,h2,h3,h4⟩:=h;refine ⟨A,c,h1,h2,h3,fun h0=>?_⟩;obtain ⟨ad,e1,e2,e3,e4⟩:=h4 h0;refine ⟨ad,e1,e2,e3,?_⟩;obtain ⟨_,⟨⟨y,g1,g2,g3⟩,_⟩,_⟩:=e4;obtain rfl:y=.slice none 0 0:=by simpa only [Fz] using g3
 simp only [FzE,FzA,Fz];exact ⟨rfl,⟨⟨_,g1,g2,none,0,rfl,c8B _,c8w _,fun h=>absurd h (by simp)⟩,trivial⟩,trivial⟩
theorem FZ.c8k {f:Nat} {a b d r:C} (h:FZ f [a,b,.sl 1 [[.sl 2 []]],d] r):FZ f [a,b,.sl 1 [[.v (.slice none 0 0)]],d] r:=by
 intro O w' vs hw hO hA;refine h O w' vs hw hO ?_;simp only [FzL] at hA ⊢;obtain ⟨y1,r1,rfl,f1,y2,r2,rfl,f2,y3,r3,rfl,f3,y4,r4,rfl,f4,rfl⟩:=hA;exact ⟨_,_,rfl,f1,_,_,rfl,f2,_,_,rfl,c4a f3,_,_,rfl,f4,rfl⟩
theorem c6F:Rb 4096 (Q 0 1):=⟨by decide +kernel,by decide +kernel⟩
set_option maxHeartbeats 4000000
theorem b1K {B V:Rat} (hB:0 < B) {n:Nat} (h:q9 V<=(n:Rat)*B):r9 B V<=n:=by
 have hq:q9 V / B*B=q9 V:=Rat.div_mul_cancel (by grind);unfold r9;generalize q9 V / B=q at *;have hqn:q<=(n:Rat):=Classical.byContradiction fun hc=>by
  have h1:(n:Rat) < q:=by grind
  have h2:=Rat.mul_lt_mul_of_pos_right h1 hB;grind
 have h1:=Rat.floor_le q;have e2:(((n:Nat):Int):Rat)=(n:Rat):=rfl;rw [<- e2] at hqn;split
 ·rename_i hlt;have h3:(q.floor:Rat) < ((n:Int):Rat):=by grind
  have h4:q.floor < (n:Int):=by exact_mod_cast h3
  omega
 ·have h3:(q.floor:Rat)<=((n:Int):Rat):=by grind
  exact_mod_cast h3
def a1c (B T V:Rat) (n:Nat):Rat:=T+sgQ V*sQ B (q9 V) n
def a5j (B V:Rat) (n:Nat):Rat:=sgQ V*aQ B (q9 V) n
theorem b2P (B T V:Rat):a1c B T V 0=T:=by unfold a1c;rw [sQ];grind
theorem c2q (B V:Rat):a5j B V 0=V:=by unfold a5j;rw [b9D (abs_nonneg _),c0m]
theorem c2b (b v:Nm.Rt):Nm.ofQ (Nm.d9 (a3j b v))=a3j b v:=by
 unfold a3j a1R;split
 ·rw [Nm.l6]
 ·split<;>rw [Nm.l6]
theorem c2a {B V:Rat} {b:Nm.Rt} (hb:Nm.d9 b=B) (h0:0 < B) (n:Nat):a3j b (Nm.ofQ (a5j B V n))=Nm.ofQ (a5j B V (n+1)):=by
 have h:Jnt 0 V B n (Nm.ofQ (a1c B 0 V n)) (Nm.ofQ (a5j B V n)):=⟨Nm.l6 _,Nm.l6 _⟩
 rw [<- c2b,(h.next hb h0).v];rfl
theorem c2J (B T V:Rat) (n:Nat):a1c B T V n+a5j B V (n+1)=a1c B T V (n+1):=by
 unfold a1c a5j;rw [sQ];grind
theorem b0F (V:Rat):sgQ V=1 \/ sgQ V=-1:=by unfold sgQ;split<;>simp
theorem c2z {B V:Rat} (n:Nat):a5j B V n=0 <-> q9 V<=(n:Rat)*B:=by
 unfold a5j aQ;generalize (n:Rat)*B=t;rcases b0F V with e|e<;>rw [e]<;>split<;>constructor<;>grind
theorem b3f (p q:Rat):u6 p q=if p<=q then p else q:=by
 unfold u6;have h:=V8 p q;by_cases hc:p<=q
 ·have:¬ q < p:=by grind
  rw [if_pos hc,if_pos (by have:=mt h.1 this;omega)]
 ·have:q < p:=by grind
  rw [if_neg hc,if_neg (by have:=h.2 this;omega)]
theorem b0g (p q:Rat):D8 p q=if p<=q then q else p:=by
 unfold D8;have h:=Y6 p q;by_cases hc:p < q
 ·have hle:p<=q:=by grind
  rw [if_pos hle,if_neg (by have:=h.2 hc;omega)]
 ·rw [if_pos (show Nm.l8 p q >= 0 by have:=mt h.1 hc;omega)];split
  ·grind
  ·rfl
theorem c4g {T A A' q:Rat} (h:(T<=A/\A<=A') \/ (A'<=A/\A<=T)):u6 (u6 (u6 T A) q) A'=u6 (u6 T A') q:=by
 simp only [b3f];grind
theorem c3E {T A A' q:Rat} (h:(T<=A/\A<=A') \/ (A'<=A/\A<=T)):D8 (D8 (D8 T A) q) A'=D8 (D8 T A') q:=by
 simp only [b0g];grind
theorem b5Y (B T V:Rat) (n:Nat):(T<=a1c B T V n/\a1c B T V n<=a1c B T V (n+1)) \/ (a1c B T V (n+1)<=a1c B T V n/\a1c B T V n<=T):=by
 have h1:=b2K B (q9 V) n;have h2:=a9N B (q9 V) n (n+1) (by omega);unfold a1c;rcases b0F V with e|e<;>rw [e]
 ·left;grind
 ·right;grind
def a3u (B q T V:Rat) (n:Nat):Sp:=⟨u6 (u6 T (a1c B T V n)) q,D8 (D8 T (a1c B T V n)) q⟩
theorem b9a (B q T V:Rat):a3u B q T V 0=⟨u6 q T,D8 q T⟩:=by
 unfold a3u;rw [b2P];simp only [b3f,b0g];congr 1<;>grind
theorem c3U (B q T V:Rat) (n:Nat):(a3u B q T V n).lo<=(a3u B q T V n).hi:=by
 unfold a3u;simp only [b3f,b0g];grind
theorem c0t (B q T V:Rat) (n:Nat):(⟨u6 (a3u B q T V n).lo (a1c B T V (n+1)),D8 (a3u B q T V n).hi (a1c B T V (n+1))⟩:Sp)=a3u B q T V (n+1):=by
 unfold a3u;simp only;rw [c4g (b5Y B T V n),c3E (b5Y B T V n)]
theorem c3m {k:Nat} {s x:Rat} (hs:s=1 \/ s=-1) (h:Rb k (Nm.ofQ x)):Rb k (Nm.ofQ (s*x)):=by
 rcases hs with e|e<;>rw [e]
 ·rw [Rat.one_mul];exact h
 ·rw [show (-1:Rat)*x=-x by grind];exact a0x h
theorem c5Z {B V:Rat} {n:Nat} (hb:Rb 3 (Nm.ofQ B)) (hv:Rb 1048576 (Nm.ofQ V)) (hn:n<=2000):Rb 1048704 (Nm.ofQ (a5j B V n)):=by
 refine c3m (b0F V) ?_;have i1:Rb 8 (Nm.ofQ (n:Rat)):=a4h (n:=(n:Int)) (by omega);unfold aQ;split
 ·exact O8.m rfl
 ·exact (F9 (X5 hv) (y9 i1 hb)).m rfl
theorem c2S {B v:Rat} {n:Nat} (h0:0 < B) (hb:Rb 3 (Nm.ofQ B)) (hv:Rb 1048576 (Nm.ofQ v)) (hn:n<=2000) (h:(n:Rat)*B<=v):Rb 1048704 (Nm.ofQ (sQ B v n)):=by
 have e:=b1F (n+1);rw [Nat.add_sub_cancel] at e;rw [a9D h0 n h,<- e];have hm:(n+1)*n<=2001*2000:=Nat.mul_le_mul (by omega) hn;have i1:Rb 8 (Nm.ofQ (n:Rat)):=a4h (n:=(n:Int)) (by omega);have i2:Rb 8 (Nm.ofQ (((n+1)*n / 2:Nat):Rat)):=a4h (n:=(((n+1)*n / 2:Nat):Int)) (by omega);exact (F9 (y9 i1 hv) (y9 hb i2)).m rfl
theorem b6H {B T V:Rat} {n:Nat} (h0:0 < B) (hb:Rb 3 (Nm.ofQ B)) (hv:Rb 1048576 (Nm.ofQ V)) (hT:Rb 2097153 (Nm.ofQ T)) (hn:n<=2000) (hN:n<=(r9 B V).toNat):Rb 3200000 (Nm.ofQ (a1c B T V n)):=by
 have ra:=X5 hv;have key:Rb 1048704 (Nm.ofQ (sQ B (q9 V) n)):=by
  by_cases h:(n:Rat)*B<=q9 V
  ·exact c2S h0 hb ra hn h
  cases n with
  | zero=>exact absurd (show ((0:Nat):Rat)*B<=q9 V by have:=abs_nonneg V;rw [show ((0:Nat):Rat)=0 from rfl];grind) h
  | succ m=>
   have ht:=a4Y (V:=V) h0;have hm:=b1K h0 (n:=m+1) (V:=V) (by grind);have h3:=ht.2.2 (by omega);rw [show (r9 B V).toNat-1=m by omega] at h3;rw [sQ,b2I h0 (n:=m+1) (by grind) (c8B _),Rat.add_zero];exact c2S h0 hb ra (by omega) h3
 unfold a1c;exact (I5 hT (c3m (b0F V) key)).m rfl
theorem c4s {B q T V:Rat} {n:Nat} (h0:0 < B) (hb:Rb 3 (Nm.ofQ B)) (hv:Rb 1048576 (Nm.ofQ V)) (hT:Rb 2097153 (Nm.ofQ T)) (hq:Rb 1048576 (Nm.ofQ q)) (hn:n<=2000) (hN:n<=(r9 B V).toNat):Zb 3200000 (a3u B q T V n):=by
 have h:=b6H h0 hb hv hT hn hN;have hT':Rb 3200000 (Nm.ofQ T):=hT.m rfl;have hq':Rb 3200000 (Nm.ofQ q):=hq.m rfl;exact ⟨a6h (a6h hT' h) hq',a6w (a6w hT' h) hq'⟩
theorem c1u {q u b:Nm.Rt} (h0:0 < Nm.d9 b):snQ (a3u (Nm.d9 b) (Nm.d9 q) (Nm.d9 q+Nm.d9 u) (Nm.d9 u) (r9 (Nm.d9 b) (Nm.d9 u)).toNat).lo (a3u (Nm.d9 b) (Nm.d9 q) (Nm.d9 q+Nm.d9 u) (Nm.d9 u) (r9 (Nm.d9 b) (Nm.d9 u)).toNat).hi=snQ (loQ q u b) (hiQ q u b):=by
 have ht:=a4Y (V:=Nm.d9 u) h0;unfold a3u loQ hiQ a9y a1c;rw [b8q h0 ht.2.1 ht.2.2]
set_option maxHeartbeats 8000000
theorem b9Z (b v:Nm.Rt) (hb:Rb 1073741824 b) (hv:Rb 1073741824 v):FZ 134 [rc b,rc v] (rc (a3j b v)):=by
 refine kW Tryz.func134 (by cbv) (by rfl) fun w O hw=>?_;have o2:=a4H v (hv.m rfl);have o3:=F6 (Nm.ofQ (q9 (Nm.d9 v))) b (b4u ((hv.mono (m:=17179869184) (by decide)).g rfl)) (hb.m rfl);rw [Nm.l6] at o3;have o4:=a1q;have o5:=M8 v (hv.m rfl);have o6:=a4e v b (hv.m rfl) (hb.m rfl);have o7:=Z7 v b (hv.m rfl) (hb.m rfl);unfold a3j a1R;generalize Nm.l8 (q9 (Nm.d9 v)) (Nm.d9 b)=c at *;generalize q8 (Nm.d9 v)=s2 at *;unfold rq at *;generalize Nm.ofQ (q9 (Nm.d9 v))=av at *;generalize Nm.ofQ (Nm.d9 v-Nm.d9 b)=d at *;generalize Nm.ofQ (Nm.d9 v+Nm.d9 b)=e at *;generalize Nm.ofQ 0=z at *;simp only [j4,TT,II,OA,OB,LL];simp only [rc,sb,ints] at *
 (repeat first|refine uG o2 ?_|refine uG o3 ?_|refine uA ?_|(apply uK;· first|omega|(intros;simp_all<;>omega))|simp (disch:=omega) only [go_sem,Nat.reduceBEq,Nat.reduceAdd]|(apply uD o2;exact tz hw;rfl)|(apply uD o3;exact tz hw;rfl));refine S.cond rfl (fun hc=>?_) (fun hc=>?_)
 ·rw [if_pos (by simpa using hc)];(repeat first|refine uG o4 ?_|refine uA ?_|(apply uK;· omega)|simp (disch:=omega) only [go_sem,Nat.reduceBEq]|(apply uD o4;exact tz hw;rfl));exact uS rfl rfl
 rw [if_neg (by simpa using hc)];(repeat first|refine uG o5 ?_|refine uA ?_|(apply uK;· omega)|simp (disch:=omega) only [go_sem,Nat.reduceBEq]|(apply uD o5;exact tz hw;rfl));refine S.cond rfl (fun hc=>?_) (fun hc=>?_)
 ·rw [if_pos (by simpa using hc)];(repeat first|refine uG o7 ?_|refine uA ?_|(apply uK;· omega)|simp (disch:=omega) only [go_sem,Nat.reduceBEq]|(apply uD o7;exact tz hw;rfl));exact uS rfl rfl
 ·rw [if_neg (by simpa using hc)];(repeat first|refine uG o6 ?_|refine uA ?_|(apply uK;· omega)|simp (disch:=omega) only [go_sem,Nat.reduceBEq]|(apply uD o6;exact tz hw;rfl));exact uS rfl rfl
theorem a8N (a:Am) (q u:List Nm.Rt) (hl:Ab 1073741824 a) (hq:Rbs 1073741824 q) (hu:Rbs 1073741824 u) (hql:q.length=a.links.length):FZ 64 [a.c,rts q,rts u] (.v (.bool (a5e a q u))):=by
 refine kW Tryz.func64 (by cbv) (by rfl) fun w O hw=>?_;have o0:=a6B u ⟨c8y hu.1 (by decide),fun r hr=>(hu.2 r hr).m rfl⟩;obtain ⟨hqn,hqb⟩:=hq;obtain ⟨hun,hub⟩:=hu;unfold a5e;obtain ⟨name,⟨bx,by',half,t⟩,links⟩:=a;obtain ⟨b0,⟨b1,b2,b3⟩,hn,hb⟩:=hl;simp only at b0 b1 b2 b3 hn hb hql ⊢;generalize u.all C8=g at *;simp only [j4,TT,II,OA,OB,OC,MM,LL,VV,FF,MG,LG,FG];simp only [Am.c,Am.enc,lks,rts,sb] at o0 ⊢;(repeat first|refine uG o0 ?_|refine uA ?_|(apply uK;· first|omega|(intros;simp_all<;>omega))|simp (disch:=omega) only [go_sem,Nat.reduceBEq,Nat.reduceAdd,c8r]|(refine uD o0 ?_ ?_ ?_;exact tz hw;rfl));refine S.cond rfl (fun hc=>?_) (fun hc=>?_)
 ·rw [show (decide (u.length=links.length) && (g && (links.zip (q.zip u)).all a5X))=false by
   cases g
   ·simp
   ·rw [decide_eq_false (show ¬ u.length=links.length by simp only [c9f,Bool.not_eq_true',c8I,Bool.not_true,c9d,or_false] at hc;omega)];rfl]
  (repeat first|refine uA ?_|(apply uK;· first|omega|(intros;simp_all<;>omega))|simp (disch:=omega) only [go_sem]);exact uS rfl rfl
 have hg:g=true:=by cases g;simp at hc;rfl
 subst hg;have hul:u.length=links.length:=by simp only [c8S,Bool.not_eq_false',c8D] at hc;omega
 rw [decide_eq_true hul,Bool.true_and,Bool.true_and];(repeat first|refine uA ?_|(apply uK;· first|omega|(intros;simp_all<;>omega))|simp (disch:=omega) only [go_sem,Nat.reduceBEq,Nat.reduceAdd,c8r]);refine S.loop (X:=Nat) (fun i=>⟨[(1,rts q),(2,rts u),(22,lks links),(23,ints links.length),(24,ints i)],[]⟩) (fun i=>i<=links.length/\(links.zip (q.zip u)).all a5X=((links.zip (q.zip u)).drop i).all a5X) (fun i=>links.length-i) 0 ⟨c8w _,rfl⟩ (by repeat first|refine uA ?_|(refine ⟨?_,?_⟩;· first|rfl|simp [slot])|rfl|simp) ?_;rintro i ⟨hi,hg⟩;simp only [rts,lks,ints];(repeat first|refine uA ?_|(apply uK;· first|omega|(intros;simp_all<;>omega))|simp (disch:=omega) only [go_sem,Nat.reduceBEq])
 (refine uJ rfl (fun hc=>?_) fun hc=>?_)
 ·have hi':i < links.length:=by omega
  have hgl:=c8q hi';have hgq:=c8q (show i < q.length by omega);have hgu:=c8q (show i < u.length by omega);generalize links[i]=l at hgl;generalize q[i]'_=qi at hgq;generalize u[i]'_=ui at hgu;have hd:=c0X (f:=a5X) (J5 hgl (J5 hgq hgu));have bl:=hb l (c8t hgl);have bq:=(hqb qi (c8t hgq)).mono (m:=17179869184) (by decide);have bu:=(hub ui (c8t hgu)).mono (m:=17179869184) (by decide);have bz:=(I5 ((hqb qi (c8t hgq)).g rfl) ((hub ui (c8t hgu)).g rfl)).mono (m:=17179869184) (by decide);have o1:=Z7 qi ui bq bu;have o3:=a4H ui bu;have o4:=F6 (Nm.ofQ (q9 (Nm.d9 ui))) l.speed (b4u (bu.g rfl)) (bl.2.2.2.1.m rfl);have o5:=F6 l.low (Nm.ofQ (Nm.d9 qi+Nm.d9 ui)) (bl.2.1.m rfl) bz
  have o6:=F6 (Nm.ofQ (Nm.d9 qi+Nm.d9 ui)) l.high bz (bl.2.2.1.m rfl);rw [Nm.l6] at o4 o5 o6;have hv:a5X (l,qi,ui)=!(decide (0 < Nm.l8 (q9 (Nm.d9 ui)) (Nm.d9 l.speed)) || decide (0 < Nm.l8 (Nm.d9 l.low) (Nm.d9 qi+Nm.d9 ui)) || decide (0 < Nm.l8 (Nm.d9 qi+Nm.d9 ui) (Nm.d9 l.high))):=rfl;rw [hv] at hd;clear hv;generalize Nm.l8 (q9 (Nm.d9 ui)) (Nm.d9 l.speed)=c1 at *;generalize Nm.l8 (Nm.d9 l.low) (Nm.d9 qi+Nm.d9 ui)=c2 at *;generalize Nm.l8 (Nm.d9 qi+Nm.d9 ui) (Nm.d9 l.high)=c4 at *;unfold rq at o1 o3;generalize Nm.ofQ (Nm.d9 qi+Nm.d9 ui)=z at *;generalize Nm.ofQ (q9 (Nm.d9 ui))=au at *;have hqi:(i:Int) < q.length:=by omega
  have hui:(i:Int) < u.length:=by omega
  simp only [rc,sb,ints] at o1 o3 o4 o5 o6;(repeat first|refine uG o1 ?_|refine uG o3 ?_|refine uG o4 ?_|refine uG o5 ?_|refine uG o6 ?_|refine uA ?_|(apply uK;· first|omega|(intros;simp_all<;>omega))|simp (disch:=omega) only [go_sem,Nat.reduceBEq,Nat.reduceAdd,hgl,hgq,hgu,c8s,c8r,Lk.enc,rcs,vts,sb,c8u]|(refine uD o1 ?_ ?_ ?_;exact tz hw;rfl)|(refine uD o3 ?_ ?_ ?_;exact tz hw;rfl)|(refine uD o4 ?_ ?_ ?_;exact tz hw;rfl)|(refine uD o5 ?_ ?_ ?_;exact tz hw;rfl)|(refine uD o6 ?_ ?_ ?_;exact tz hw;rfl));refine S.cond rfl (fun hc2=>?_) (fun hc2=>?_)
  ·rw [hg,hd,hc2];(repeat first|refine uA ?_|(apply uK;· first|omega|(intros;simp_all<;>omega))|simp (disch:=omega) only [go_sem]);exact uS rfl rfl
  ·rw [hc2] at hd;(repeat first|refine uA ?_|(apply uK;· first|omega|(intros;simp_all<;>omega))|simp (disch:=omega) only [go_sem,Nat.reduceBEq,ww]);exact S.next (i+1) ⟨by omega,by rw [hg,hd];rfl⟩ (by omega) (by repeat first|refine uA ?_|(refine ⟨?_,?_⟩;· first|rfl|simp [slot])|rfl|simp)
 ·rw [hg,List.drop_eq_nil_of_le (by simp only [List.length_zip];omega),List.all_nil];(repeat first|refine uA ?_|(apply uK;· first|omega|(intros;simp_all<;>omega))|simp (disch:=omega) only [go_sem]);exact uS rfl rfl
set_option maxHeartbeats 16000000
def a1D (Z:List (Lk × Nm.Rt)):Bool:=Z.all fun z=>decide (r9 (Nm.d9 z.1.brake) (Nm.d9 z.2)<=2000)
theorem c4R {Z:List (Lk × Nm.Rt)} {i:Nat} {z:Lk × Nm.Rt} (h:Z[i]?=some z) (hn:¬ r9 (Nm.d9 z.1.brake) (Nm.d9 z.2)<=2000):a1D Z=false:=by
 unfold a1D;rw [List.all_eq_false];exact ⟨z,c8t h,by simpa using hn⟩
theorem c0H {Z:List (Lk × Nm.Rt)} (h:∀ (j:Nat) (z:Lk × Nm.Rt),j < Z.length->Z[j]?=some z->r9 (Nm.d9 z.1.brake) (Nm.d9 z.2)<=2000):a1D Z=true:=by
 unfold a1D;rw [List.all_eq_true];intro z hz;obtain ⟨j,hj⟩:=List.mem_iff_getElem?.1 hz;exact decide_eq_true (h j z (c8v.1 hj).1 hj)
theorem sign_zero (q:Rat):q8 q=0 <-> q=0:=by
 have h:=a2i q;rcases h with h|h|h<;>constructor<;>intro h2<;>first|omega|grind
theorem a8j {l:Lk} (h:R4 l=0):Rb 3 l.brake:=by
 unfold R4 at h;split at h
 ·cases h
 rename_i h2;have hs2:(j5 l.length && j5 l.low && j5 l.high && j5 l.speed && j5 l.brake)=true:=by
  cases hb:(j5 l.length && j5 l.low && j5 l.high && j5 l.speed && j5 l.brake) with
  | true=>rfl
  | false=>exact absurd (.inl hb) h2
 simp only [c8F] at hs2;exact a2j hs2.2
theorem b0a (a:Am) (q u:List Nm.Rt) (hl:Ab 1073741824 a) (ha:H9 a=0) (hq:q.length=a.links.length) (hv:u.length=a.links.length) (hqb:∀ r ∈ q,Rb 1048576 r) (hub:∀ r ∈ u,Rb 1048576 r) :
 FZ 65 [a.c,rts q,rts u] (if a1D (a.links.zip u)=true then .tup [.sl 6 ((N9 a.links q u).map Sn.enc),ints (J2 (a.links.zip u)+1),.v (.bool true)] else .tup [.v (.slice none 0 0),ints 0,.v (.bool false)]):=by
 refine kW Tryz.func65 (by cbv) (by rfl) fun w O hw=>?_;have hn:=hl.2.2.1;have hbr:∀ l ∈ a.links,Rb 3 l.brake/\0 < q8 (Nm.d9 l.brake):=fun l hm=>⟨a8j ((M7 ha).2 l hm),a4G ((M7 ha).2 l hm)⟩
 have hrl:=a5N (L:=a.links) hq hv;have hrg:=@b2f a.links q u;have htk:=@a9e (a.links.zip u);have hzl:(a.links.zip u).length=a.links.length:=by rw [List.length_zip];omega
 have hzg:=fun (i:Nat) (l:Lk) (x:Nm.Rt) (h1:a.links[i]?=some l) (h2:u[i]?=some x)=>J5 h1 h2;have ht0:J2 ((a.links.zip u).take 0)=0:=rfl;have hte:(a.links.zip u).take a.links.length=a.links.zip u:=c8P (by omega);have hzero:=a1q;generalize N9 a.links q u=RL at *;generalize a.links.zip u=Z at *;obtain ⟨name,⟨bx,by',half,tu⟩,links⟩:=a;simp only at hq hv hn hrl hrg hzl hzg hte hbr ⊢;simp only [j4,TT,II,OA,OB,MM,LL,VV,FF];simp only [Am.c,Am.enc,lks,rts,sb,ints];(repeat first|refine uA ?_|(apply uK;· omega)|simp (disch:=omega) only [go_sem,Nat.reduceBEq,c8r])
 refine S.loop (X:=Nat) (fun i=>⟨[(1,rts q),(2,rts u),(9,.rv 1),(10,ints (J2 (Z.take i))),(18,lks links),(19,ints links.length),(20,ints i)],[.gone,.row 98 6 ((RL.take i).map Sn.enc)]⟩)
  (fun i=>i<=links.length/\0<=J2 (Z.take i)/\J2 (Z.take i)<=2000/\∀ (j:Nat) (z:Lk × Nm.Rt),j < i->Z[j]?=some z->r9 (Nm.d9 z.1.brake) (Nm.d9 z.2)<=2000) (fun i=>links.length-i) 0 ⟨c8w _,by rw [ht0];decide,by rw [ht0];decide,fun _ _ h=>absurd h (Nat.not_lt_zero _)⟩
  (Ent.trans (Ent.pack 9 98 6 rfl) (by rw [ht0];exact (by repeat first|refine uA ?_|(refine ⟨?_,?_⟩;· first|rfl|simp [slot])|rfl|simp))) ?_
 rintro i ⟨hi,hm0,hm1,hm⟩;simp only [lks,rts,ints];(repeat first|refine uA ?_|(apply uK;· omega)|simp (disch:=omega) only [go_sem,Nat.reduceBEq]);(refine uJ rfl (fun hc=>?_) fun hc=>?_)
 ·have hi':i < links.length:=by omega
  have hgl:=c8q hi';have hgq:=c8q (show i < q.length by omega);have hgu:=c8q (show i < u.length by omega);generalize links[i]=l at hgl;generalize q[i]'_=x at hgq;generalize u[i]'_=y at hgu;have hgr:=hrg hgl hgq hgu;have hgz:=hzg i l y hgl hgu;have hsn:=htk hgz;obtain ⟨lb,lp⟩:=hbr l (c8t hgl);have xb:=hqb x (c8t hgq);have yb:=hub y (c8t hgu);have hap:=take_at hgr;have htl:(RL.take i).length=i:=by rw [c8E];omega
  have nf:=fun hN=>c4R (Z:=Z) hgz hN;have hmn:=fun (hN:r9 (Nm.d9 l.brake) (Nm.d9 y)<=2000)=>show ∀ (j:Nat) (z:Lk × Nm.Rt),j < i+1->Z[j]?=some z->r9 (Nm.d9 z.1.brake) (Nm.d9 z.2)<=2000 from fun j z hj hz=>by
   rcases c8N j i with h1|h1
   ·exact hm j z h1 hz
   ·have:j=i:=by omega
    subst this;rw [hgz] at hz;cases hz;exact hN
  have hB:=a9Z lp;have fx:=xb.g rfl;have fy:=yb.g rfl;have fb:=lb.g rfl;have hT:=I5 fx fy;have o1:=Z7 x y (xb.m rfl) (yb.m rfl);have o2:=Z7 y (Nm.ofQ 0) (yb.m rfl) (O8.m rfl);rw [Nm.l6,Rat.add_zero] at o2;have o3:=Y2 x (xb.m rfl);have o4:=Y2 (Nm.ofQ (Nm.d9 x+Nm.d9 y)) (hT.m rfl);rw [Nm.l6] at o4;have o5:=a7t (Nm.d9 x) (Nm.d9 x) (Nm.d9 x+Nm.d9 y) (Nm.d9 x+Nm.d9 y) Rat.le_refl Rat.le_refl (fx.m rfl) (fx.m rfl) (hT.m rfl) (hT.m rfl);have e0:=b9a (Nm.d9 l.brake) (Nm.d9 x) (Nm.d9 x+Nm.d9 y) (Nm.d9 y);have p0:=b2P (Nm.d9 l.brake) (Nm.d9 x+Nm.d9 y) (Nm.d9 y);have v0:=c2q (Nm.d9 l.brake) (Nm.d9 y);have hvn:=fun n=>c2a (V:=Nm.d9 y) (b:=l.brake) rfl hB n
  have hpn:=fun n=>c2J (Nm.d9 l.brake) (Nm.d9 x+Nm.d9 y) (Nm.d9 y) n;have hsn':=fun n=>c0t (Nm.d9 l.brake) (Nm.d9 x) (Nm.d9 x+Nm.d9 y) (Nm.d9 y) n;have hsl:=fun n=>c3U (Nm.d9 l.brake) (Nm.d9 x) (Nm.d9 x+Nm.d9 y) (Nm.d9 y) n;have hvd:=fun n=>c2z (B:=Nm.d9 l.brake) (V:=Nm.d9 y) n;have hmin:=fun n h=>b1K (B:=Nm.d9 l.brake) (V:=Nm.d9 y) hB (n:=n) h;have htok:=a4Y (V:=Nm.d9 y) hB;have hend:=c1u (q:=x) (u:=y) (b:=l.brake) hB;have bv:=fun n h=>c5Z (n:=n) fb fy h;have bp:=fun n h k=>b6H (n:=n) hB fb fy hT h k;have bs':=fun n h k=>c4s (n:=n) hB fb fy hT fx h k;unfold b0E at hap;rw [<- hend] at hap;have hT0:=htok.1;simp only at hsn nf;generalize Nm.d9 x+Nm.d9 y=T at *
  have hN0:r9 (Nm.d9 l.brake) (Nm.d9 y)=((r9 (Nm.d9 l.brake) (Nm.d9 y)).toNat:Int):=by omega
  generalize (r9 (Nm.d9 l.brake) (Nm.d9 y)).toNat=N at *;rw [hN0] at hsn nf hmn hmin;have hNle:q9 (Nm.d9 y)<=(N:Rat)*Nm.d9 l.brake:=htok.2.1;generalize hS:a3u (Nm.d9 l.brake) (Nm.d9 x) T (Nm.d9 y)=Sx at *;generalize hP:a1c (Nm.d9 l.brake) T (Nm.d9 y)=Px at *;generalize hV:a5j (Nm.d9 l.brake) (Nm.d9 y)=Vx at *;clear hgz hgr hend htok hN0 hS hP hV hrg htk hzg hm;obtain ⟨len,low,high,spd,brk,shp⟩:=l;simp only at *;unfold rq at o1 o2 hzero;simp only [Sp.c,Sn.c,Sn.enc,snQ,rc,sb] at o1 o2 o3 o4 o5 hzero;(repeat first|refine uI ?_|(apply uK;· omega)|simp (disch:=omega) only [go_sem,Nat.reduceBEq,hgl,c8s,c8r,c8x,Lk.enc,vts,sb,c8u]);refine S.X4 [.gone] (by simp [Eng.F3]) ?_
  (repeat first|refine uI ?_|(apply uK;· omega)|simp (disch:=omega) only [go_sem,Nat.reduceBEq,hgq,hgu,c8s,c8r,c8x,rcs,sb,c8u]|(apply uD o1;exact tz hw;rfl)|(apply uD hzero;exact tz hw;rfl)|(apply uD o2;exact tz hw;rfl));refine S.X4 [.gone,.gone,.gone,.box 28 [.v (.bool (Nm.ofQ T).neg),.v (.string (bs (Nm.ofQ T).num)),.v (.string (bs (Nm.ofQ T).den))]] (by simp [Eng.F3,Eng.E5]) ?_;(repeat first|refine uA ?_|(apply uK;· omega)|simp (disch:=omega) only [go_sem,Nat.reduceBEq,Eng.E5,hgq,c8s,c8r,c8x,rcs,sb,c8u]|(apply uD o3;exact tz hw;rfl)|(apply uD o4;exact tz hw;rfl)|(apply uD o5;exact tz hw;rfl))
  refine S.loop (X:=Nat) (fun n=>⟨[(1,rts q),(2,rts u),(9,.rv 1),(10,ints (J2 (Z.take i))),(12,.bp 2 0),(13,.bp 3 0),(14,.bp 4 0),(15,ints n),(16,.bp 5 0),(18,lks links),(19,ints links.length),(20,ints i)],[.gone,.row 98 6 ((RL.take i).map Sn.enc),.box 95 (Lk.mk len low high spd brk shp).enc,.box 28 (rcs (Nm.ofQ (Px n))),.box 28 (rcs (Nm.ofQ (Vx n))),.box 98 (snQ (Sx n).lo (Sx n).hi).enc]⟩)
   (fun n=>n<=N/\n<=2000) (fun n=>N-n) 0 ⟨c8w _,c8w _⟩ (by rw [p0,v0,e0];simp only [lks,rts,vts,Lk.enc,rcs,Sn.enc,snQ,sb,ints];exact (by repeat first|refine uA ?_|(refine ⟨?_,?_⟩;· first|rfl|simp [slot])|rfl|simp)) ?_
  rintro n ⟨hn1,hn2⟩;clear o1 o2 o3 o4 o5 e0 p0 v0;simp only [lks,rts,vts,Lk.enc,rcs,Sn.enc,snQ,sb,ints];have vb:=bv n hn2;have o6:=M8 (Nm.ofQ (Vx n)) (vb.m rfl);rw [Nm.l6] at o6;have hz0:=sign_zero (Vx n);have hd0:=hvd n;simp only [rc,sb,ints] at o6;generalize q8 (Vx n)=sg at *;(repeat first|refine uA ?_|(apply uK;· omega)|simp (disch:=omega) only [go_sem,Nat.reduceBEq]|(apply uD o6;exact tz hw;rfl));refine S.cond rfl (fun hc=>?_) (fun hc=>?_)
  ·have hnN:n < N:=by
    rcases c8N n N with h|h
    ·exact h
    ·have:n=N:=by omega
     subst this;have:=hz0.2 (hd0.2 hNle);simp [this] at hc
   clear o6;(repeat first|refine uA ?_|(apply uK;· omega)|simp (disch:=omega) only [go_sem,Nat.reduceBEq]);refine S.cond rfl (fun hc=>?_) (fun hc=>?_)
   ·have hf:a1D Z=false:=nf (by simp at hc;omega);rw [if_neg (by rw [hf];decide)];(repeat first|refine uA ?_|(apply uK;· omega)|simp (disch:=omega) only [go_sem]);(refine S.done ?_;simp only [D6,go_sem,Nat.reduceBEq];exact p8.out rfl (Imp.tup (by repeat' first|exact j3.nil|exact Imp.refl rfl|apply j3.cons)) rfl)
   have hn3:n < 2000:=by simp at hc;omega
   have pb:=bp n hn2 hn1;have pb':=bp (n+1) (by omega) (by omega);have vb':=bv (n+1) (by omega);have zb:=bs' n hn2 hn1;have o7:=b9Z brk (Nm.ofQ (Vx n)) (lb.m rfl) (vb.m rfl);rw [hvn n] at o7;have o8:=Z7 (Nm.ofQ (Px n)) (Nm.ofQ (Vx (n+1))) (pb.m rfl) (vb'.m rfl);rw [Nm.l6,Nm.l6,hpn n] at o8;have o9:=Y2 (Nm.ofQ (Px (n+1))) (pb'.m rfl);rw [Nm.l6] at o9;have oa:=a7t (Sx n).lo (Sx n).hi (Px (n+1)) (Px (n+1)) (hsl n) Rat.le_refl (zb.1.m rfl) (zb.2.m rfl) (pb'.m rfl) (pb'.m rfl);rw [show u6 (Sx n).lo (Px (n+1))=(Sx (n+1)).lo by rw [<- hsn' n],show D8 (Sx n).hi (Px (n+1))=(Sx (n+1)).hi by rw [<- hsn' n]] at oa;clear pb pb' vb vb' zb hvn hpn hsn' hsl hvd hmin bv bp bs' hap hz0 hd0;unfold rq at o8
   generalize hs1:(Sx (n+1)).lo=s1 at *;generalize hs2:(Sx (n+1)).hi=s2 at *;simp only [Sp.c,Sn.c,Sn.enc,snQ,rc,sb] at o7 o8 o9 oa;(repeat first|refine uA ?_|(apply uK;· omega)|simp (disch:=omega) only [go_sem,Nat.reduceBEq,ww]|(apply uD o7;exact tz hw;rfl)|(apply uD o8;exact tz hw;rfl)|(apply uD o9;exact tz hw;rfl)|(apply uD oa;exact tz hw;rfl));refine S.next (x:=n) (n+1) ⟨by omega,by omega⟩ (by omega) (by simp only [hs1,hs2];exact (by repeat first|refine uA ?_|(refine ⟨?_,?_⟩;· first|rfl|simp [slot])|rfl|simp))
  ·have hv0:Vx n=0:=hz0.1 (by simpa using hc);have hnN:n=N:=by have:=hmin n (hd0.1 hv0);omega
   subst hnN;clear o6 hvn hpn hsn' hsl hvd hmin bv bp bs' hz0 hd0;(repeat first|refine uA ?_|(apply uK;· first|omega|(intros;simp_all<;>omega))|simp (disch:=omega) only [go_sem,Nat.reduceBEq,Nat.reduceAdd,ww,htl,c8r]);refine S.next (x:=i) (i+1) ⟨by omega,by rw [hsn];split<;>omega,by rw [hsn];split<;>omega,hmn (by omega)⟩ (by omega) (by simp only [hap,hsn,c9i,c8K,c8O,Sn.enc,snQ,sb];exact (by repeat first|refine uA ?_|(refine ⟨?_,?_⟩;· first|rfl|simp [slot])|rfl|simp))
 have hi':i=links.length:=by omega
 subst hi';rw [hte] at hm0 hm1 ⊢;have hf:a1D Z=true:=c0H fun j z hj hz=>hm j z (by omega) hz;rw [if_pos hf,c8P (by omega)];clear hm hf hrg htk hzg hbr;generalize J2 Z=tz at *;(repeat first|refine uA ?_|(apply uK;· omega)|simp (disch:=omega) only [go_sem,Nat.reduceBEq,ww]);(refine S.done ?_;simp only [D6,go_sem,Nat.reduceBEq];exact p8.out rfl (Imp.tup (by (repeat' (first|exact j3.nil|exact Imp.refl rfl|exact Imp.frz rfl rfl rfl|exact Imp.I9|refine Imp.agg ?_|refine j3.cons ?_ ?_)))) rfl)
def c7l:List Nat:=[137]
def c5T (f:Nat):Bool:=c7l.contains f
theorem c2s (es:List (List C)) (hn:es.length<=1073741824):FNew Tryz.prog 137 [.sl 12 es] 103 12 es:=by
 refine FNew.of (eff:=eff) Tryz.func137 (by cbv) (by exact c8G rfl) fun w O=>?_;simp only [j4,TT,OA,MM];(repeat first|refine uA ?_|(apply uK;· omega)|simp (disch:=omega) only [go_sem,Nat.reduceBEq]);refine S.split 4 (Sx:=fun y=>∃ b,y=.bool b/\(es ≠ []->b=false)) rfl fun y hy=>?_;obtain ⟨b,rfl,hb⟩:=hy;refine S.cond rfl (fun hc=>?_) (fun hc=>?_)
 ·have he:es=[]:=Classical.byContradiction fun h=>by rw [hb h] at hc;cases hc
  subst he;(repeat first|refine uA ?_|(apply uK;· omega)|simp (disch:=omega) only [go_sem]);refine S.weaken (Ent.pack 2 103 12 rfl) ?_;exact S.done (p8.new rfl rfl rfl)
 ·(repeat first|refine uA ?_|(apply uK;· omega)|simp (disch:=omega) only [go_sem,Nat.reduceBEq]);exact S.done (p8.new rfl rfl rfl)
theorem c5C (b:Bq) (r:Rat) (hb:Bb 1073741824 b) (hr:Rb 1073741824 (Nm.ofQ r)):FZ 71 [.agg b.enc,rq r] (.agg (a0b b r).enc):=by
 refine kW Tryz.func71 (by cbv) (by rfl) fun w O hw=>?_;obtain ⟨lx,ly,hx,hy⟩:=b;obtain ⟨b1,b2,b3,b4⟩:=hb;simp only at b1 b2 b3 b4;have o1:=a2E (Nm.ofQ lx) (Nm.ofQ ly) (Nm.ofQ r) (Nm.ofQ r) (b1.m rfl) (b2.m rfl) (hr.m rfl) (hr.m rfl);have o2:=b9I (Nm.ofQ hx) (Nm.ofQ hy) (Nm.ofQ r) (Nm.ofQ r) (b3.m rfl) (b4.m rfl) (hr.m rfl) (hr.m rfl);simp only [Nm.l6] at o1 o2;unfold a0b;simp only;generalize lx-r=x1 at *;generalize ly-r=x2 at *;generalize hx+r=x3 at *;generalize hy+r=x4 at *;simp only [j4,TT,OA,OB,LL,FF];simp only [Bq.enc,vc,vq,rq,rc,sb] at o1 o2 ⊢;(repeat first|refine uI ?_|(apply uK;· first|omega|(intros;simp_all<;>omega))|simp (disch:=omega) only [go_sem,Nat.reduceBEq,Nat.reduceAdd])
 refine S.X4 [.box 103 [.v (.bool (Nm.ofQ lx).neg),.v (.string (bs (Nm.ofQ lx).num)),.v (.string (bs (Nm.ofQ lx).den)),.v (.bool (Nm.ofQ ly).neg),.v (.string (bs (Nm.ofQ ly).num)),.v (.string (bs (Nm.ofQ ly).den)),.v (.bool (Nm.ofQ hx).neg),.v (.string (bs (Nm.ofQ hx).num)),.v (.string (bs (Nm.ofQ hx).den)),.v (.bool (Nm.ofQ hy).neg),.v (.string (bs (Nm.ofQ hy).num)),.v (.string (bs (Nm.ofQ hy).den))],.gone,.gone,.box 73 [.v (.bool (Nm.ofQ r).neg),.v (.string (bs (Nm.ofQ r).num)),.v (.string (bs (Nm.ofQ r).den)),.v (.bool (Nm.ofQ r).neg),.v (.string (bs (Nm.ofQ r).num)),.v (.string (bs (Nm.ofQ r).den))]] (by simp [Eng.F3,Eng.E5]) ?_
 (repeat first|refine uA ?_|(apply uK;· first|omega|(intros;simp_all<;>omega))|simp (disch:=omega) only [go_sem,Nat.reduceBEq,Nat.reduceAdd,Eng.E5]|(refine uD o1 ?_ ?_ ?_;exact tz hw;rfl)|(refine uD o2 ?_ ?_ ?_;exact tz hw;rfl));exact uS rfl rfl
theorem c1O (p q:Rat):D8 p q=if 0 < Nm.l8 q p then q else p:=by
 rw [b0g];have h:=V8 q p;by_cases hc:p < q
 ·rw [if_pos (by grind),if_pos (h.2 hc)]
 ·rw [if_neg (mt h.1 hc)];split
  ·grind
  ·rfl
theorem c5J (a b c d e v:Int):(if G5 id [a,b,c,d,e] ≠ 0 then G5 id [a,b,c,d,e] else v)=if a ≠ 0 then a else if b ≠ 0 then b else if c ≠ 0 then c else if d ≠ 0 then d else if e ≠ 0 then e else v:=by
 simp only [G5,id];by_cases ha:a=0<;>by_cases hb:b=0<;>by_cases hc:c=0<;>by_cases hd:d=0<;>by_cases he:e=0<;>simp [ha,hb,hc,hd,he]
theorem b5K {k:Nat} {a:Nm.Rt} (h:1<=k) (h1:Rb k a):Rbs k [a]:=⟨h,fun x hx=>by simp at hx;subst hx;exact h1⟩
theorem c0T {k:Nat} {a b c d:Nm.Rt} (h:4<=k) (h1:Rb k a) (h2:Rb k b) (h3:Rb k c) (h4:Rb k d):Rbs k [a,b,c,d]:=⟨h,fun x hx=>by simp at hx;rcases hx with rfl|rfl|rfl|rfl<;>assumption⟩
theorem walk_eq (a:Nm.Rt):a8m a=if ([a].all j5=false \/ q8 (Nm.d9 a)=-1) then 1 else 0:=by
 have h1:(decide a.F7 && j5 a)=[a].all j5:=by rw [<- a0g];simp
 have h2:=b8F (Nm.d9 a);unfold a8m;rw [h1];generalize [a].all j5=q;have:=b2M (Nm.d9 a);cases q
 ·simp
 ·by_cases h:0<=q8 (Nm.d9 a)
  ·rw [if_pos (by simpa using h),if_neg (by simp;omega)]
  ·rw [if_neg (by simpa using h),if_pos (by right;omega)]
theorem c3C (s:Sl):(okF s.frame && decide s.within.F7 && j5 s.within && decide (0 < q8 (Nm.d9 s.within)))=!(!okF s.frame || !([s.within].all j5) || decide (q8 (Nm.d9 s.within) < 1)):=by
 have h1:(okF s.frame && decide s.within.F7 && j5 s.within)=(okF s.frame && [s.within].all j5):=by
  rw [Bool.and_assoc,<- a0g];simp
 rw [h1,sign_one];cases okF s.frame<;>cases [s.within].all j5<;>cases decide (0 < q8 (Nm.d9 s.within))<;>rfl
theorem c4P (g:Gt):(okV g.low && okV g.high && decide (Nm.l8 (Nm.d9 g.low.x) (Nm.d9 g.high.x)<=0) && decide (Nm.l8 (Nm.d9 g.low.y) (Nm.d9 g.high.y)<=0))=!(!([g.low.x,g.low.y,g.high.x,g.high.y].all j5) || decide (Nm.l8 (Nm.d9 g.low.x) (Nm.d9 g.high.x)=1) || decide (Nm.l8 (Nm.d9 g.low.y) (Nm.d9 g.high.y)=1)):=by
 have h1:(okV g.low && okV g.high)=[g.low.x,g.low.y,g.high.x,g.high.y].all j5:=by
  rw [b3s,b3s];simp [Bool.and_assoc]
 rw [h1,b5I,b5I];cases [g.low.x,g.low.y,g.high.x,g.high.y].all j5<;>cases decide (Nm.l8 (Nm.d9 g.low.x) (Nm.d9 g.high.x)<=0)<;>cases decide (Nm.l8 (Nm.d9 g.low.y) (Nm.d9 g.high.y)<=0)<;>rfl
theorem c4b (n:Nms) (a:Am):a0w n a=if H9 a ≠ 0 then (H9 a,n) else N7 n a.name:=rfl
theorem c1z (n:Nms) (p:Pt):a0t n p=if (N7 n p.name).1 ≠ 0 then N7 n p.name else if P9 p.shape ≠ 0 then (P9 p.shape,(N7 n p.name).2) else (if okF p.grasp then 0 else 1,(N7 n p.name).2):=rfl
theorem c1P (n:Nms) (s:Sl):a0v n s=if (N7 n s.name).1 ≠ 0 then N7 n s.name else (if okF s.frame && decide s.within.F7 && j5 s.within && decide (0 < q8 (Nm.d9 s.within)) then 0 else 1,(N7 n s.name).2):=rfl
theorem c0P (n:Nms) (g:Gt):Y0 n g=if (N7 n g.name).1 ≠ 0 then N7 n g.name else (if okV g.low && okV g.high && decide (Nm.l8 (Nm.d9 g.low.x) (Nm.d9 g.high.x)<=0) && decide (Nm.l8 (Nm.d9 g.low.y) (Nm.d9 g.high.y)<=0) then 0 else 1,(N7 n g.name).2):=rfl
theorem c2M (w:Wk) (hb:Wb 1073741824 w):FZ 57 [w.c] (ints (Q9 w)):=by
 refine kW Tryz.func57 (by cbv) (by rfl) fun w' O hw=>?_;have hcal:callable Tryz.prog 127=true:=by kernel_rfl
 obtain ⟨⟨n1,b1⟩,⟨n2,b2⟩,⟨n3,b3⟩,⟨n4,b4⟩,⟨n5,b5⟩,b6⟩:=hb;have hnm:=fun (E:Ctx) (hP:E.P=Tryz.prog) (n:Nms) (s:List UInt8) (hs:s.length<=1099511627776) (hn:n.length<=1000000)=>c4f hP w n s hs hn;have h6:=a5c _ (b5K (by decide) (b6.mono (m:=17179869184) (by decide)));have h7:=M8 w.walk (b6.m rfl);unfold Q9 a4g;generalize hr1:A9 a0w [] w.arms=r1;obtain ⟨e1,m1⟩:=r1;simp only;generalize hr3:A9 a0t m1 w.parts=r3;obtain ⟨e3,m3⟩:=r3;simp only;generalize hr4:A9 a0v m3 w.slots=r4;obtain ⟨e4,m4⟩:=r4;simp only;generalize hr5:A9 Y0 m4 w.gates=r5;obtain ⟨e5,m5⟩:=r5;simp only;generalize hr2:G5 P9 w.walls=e2;rw [c5J,walk_eq];generalize [w.walk].all j5=q6 at *;generalize q8 (Nm.d9 w.walk)=s7 at *
 obtain ⟨arms,walls,parts,slots,gates,walk⟩:=w;simp only at n1 n2 n3 n4 n5 b1 b2 b3 b4 b5 hr1 hr2 hr3 hr4 hr5 ⊢;simp only [j4,TT,II,OA,OB,OC,MM,LL,VV,FF,LG,VG,FG];simp only [Wk.c,Wk.enc,rsR,ams,wls,pts,sls,gts,rts,rcs,rc,sb,ints,c8K,c8O] at hnm h6 h7 ⊢;(repeat first|refine uA ?_|(apply uK;· first|omega|(intros;simp_all<;>omega))|simp (disch:=omega) only [go_sem,Nat.reduceBEq,Nat.reduceAdd,c8r]);refine S.cond rfl (fun hc=>?_) (fun hc=>?_)
 ·rw [if_pos (by simp only [c9f,c8D] at hc;omega)];(repeat first|refine uA ?_|(apply uK;· first|omega|(intros;simp_all<;>omega))|simp (disch:=omega) only [go_sem]);exact uS rfl rfl
 rw [if_neg (by simp only [c8S,c8I] at hc;omega)];simp only [c8S,c8I] at hc;(repeat first|refine uA ?_|(apply uK;· first|omega|(intros;simp_all<;>omega))|simp (disch:=omega) only [go_sem,Nat.reduceBEq,Nat.reduceAdd,c8r]);refine S.cond rfl (fun hc=>?_) (fun hc=>?_)
 ·rw [if_pos (by simp only [c8D] at hc;omega)];(repeat first|refine uA ?_|(apply uK;· first|omega|(intros;simp_all<;>omega))|simp (disch:=omega) only [go_sem]);exact uS rfl rfl
 rw [if_neg (by simp only [c8I] at hc;omega)];(repeat first|refine uA ?_|(apply uK;· first|omega|(intros;simp_all<;>omega))|simp (disch:=omega) only [go_sem,Nat.reduceBEq,Nat.reduceAdd,c8r]);refine S.loop (X:=Nat × Nms) (fun x=>⟨[(1,.bp 0 0),(4,.clo 127 [.bp 1 0]),(58,ams arms),(59,ints arms.length),(60,ints x.1)],[.box 30 [ams arms,wls walls,pts parts,sls slots,gts gates,.v (.bool walk.neg),sb walk.num,sb walk.den],.box 137 [.rv 2],.row 9 1 (nmR x.2)]⟩)
  (fun x=>x.1<=arms.length/\x.2.length<=x.1/\(e1,m1)=A9 a0w x.2 (arms.drop x.1)) (fun x=>arms.length-x.1) (0,[]) ⟨c8w _,c8B _,hr1.symm⟩ (Ent.trans (Ent.a6S 1 0 9 1 rfl rfl rfl) (by repeat first|refine uA ?_|(refine ⟨?_,?_⟩;· first|rfl|simp [slot])|rfl|simp)) ?_
 rintro ⟨i,m⟩ ⟨hi,hml,hg⟩;simp only [ams,wls,pts,sls,gts,sb,ints] at hi hml hg ⊢;(repeat first|refine uA ?_|(apply uK;· first|omega|(intros;simp_all<;>omega))|simp (disch:=omega) only [go_sem,Nat.reduceBEq]);(refine uJ rfl (fun hc=>?_) fun hc=>?_)
 ·have hgi:=c8q (show i < arms.length by omega);generalize arms[i]'(_)=x at hgi;have hx:=b1 x (c8t hgi);have hst:=X6 (f:=a0w) (s:=m) hgi;have hnx:=X8 (f:=a0w) (s:=m) hgi;have o1:=a6l x hx;have o2:=fun (E:Ctx) (hP:E.P=Tryz.prog)=>hnm E hP m x.name (by have:=hx.1;omega) (by omega);have hal:=a6I m x.name;rw [c4b] at hst hnx;generalize H9 x=a1 at *;generalize N7 m x.name=r at *;obtain ⟨a2,m'⟩:=r;simp only [Am.c,Am.enc,lks,sb] at o1 o2 hal hst hnx;(repeat first|refine uG o1 ?_|refine uA ?_|(apply uK;· first|omega|(intros;simp_all<;>omega))|simp (disch:=omega) only [go_sem,Nat.reduceBEq,Nat.reduceAdd,hgi,c8s,c8r,Am.enc,lks,sb,c8u]|(refine uD o1 ?_ ?_ ?_;exact tz hw;rfl))
  refine S.cond rfl (fun hc2=>?_) (fun hc2=>?_)
  ·have h0:a1 ≠ 0:=by simpa using hc2
   rw [if_pos h0] at hst;rw [hst h0] at hg;injection hg with g1 g2;rw [if_pos (by rw [g1];exact h0),g1];(repeat first|refine uA ?_|(apply uK;· first|omega|(intros;simp_all<;>omega))|simp (disch:=omega) only [go_sem,Nat.reduceBEq]);exact uS rfl rfl
  have h0:¬ a1 ≠ 0:=by simpa using hc2
  rw [if_neg h0] at hst hnx;simp only at hst hnx;(repeat first|refine uA ?_|(apply uK;· first|omega|(intros;simp_all<;>omega))|simp (disch:=omega) only [go_sem,Nat.reduceBEq,Nat.reduceAdd,hcal,c8K,c8O]|refine l9.t (l7.b7v _ (o2 _ rfl) rfl rfl rfl) ?_);refine S.cond rfl (fun hc3=>?_) (fun hc3=>?_)
  ·have h1:a2 ≠ 0:=by simpa using hc3
   rw [hst h1] at hg;injection hg with g1 g2;rw [if_pos (by rw [g1];exact h1),g1];(repeat first|refine uA ?_|(apply uK;· first|omega|(intros;simp_all<;>omega))|simp (disch:=omega) only [go_sem,Nat.reduceBEq]);exact uS rfl rfl
  ·have h1:a2=0:=by simpa using hc3
   (repeat first|refine uA ?_|(apply uK;· first|omega|(intros;simp_all<;>omega))|simp (disch:=omega) only [go_sem,Nat.reduceBEq,ww]);refine S.next (x:=(i,m)) (i+1,m') ⟨by simp only;omega,by simp only;omega,by simp only;rw [hg];exact hnx h1⟩ (by simp only;omega) (by repeat first|refine uA ?_|(refine ⟨?_,?_⟩;· first|rfl|simp [slot])|rfl|simp)
 rw [a0i (by omega)] at hg;injection hg with g1 g2;subst g1 g2;rw [if_neg (show ¬ (0:Int) ≠ 0 by simp)];have hm1:m1.length<=4:=by omega
 clear hr1 b1 hml hi;(repeat first|refine uA ?_|(apply uK;· first|omega|(intros;simp_all<;>omega))|simp (disch:=omega) only [go_sem,Nat.reduceBEq,Nat.reduceAdd,c8r]);refine S.loop (X:=Nat) (fun i=>⟨[(1,.bp 0 0),(4,.clo 127 [.bp 1 0]),(78,wls walls),(79,ints walls.length),(80,ints i)],[.box 30 [ams arms,wls walls,pts parts,sls slots,gts gates,.v (.bool walk.neg),sb walk.num,sb walk.den],.box 137 [.rv 2],.row 9 1 (nmR m1)]⟩)
  (fun i=>i<=walls.length/\e2=G5 P9 (walls.drop i)) (fun i=>walls.length-i) 0 ⟨c8w _,hr2.symm⟩ (by repeat first|refine uA ?_|(refine ⟨?_,?_⟩;· first|rfl|simp [slot])|rfl|simp) ?_
 rintro j ⟨hj,hg⟩;simp only [ams,wls,pts,sls,gts,sb,ints] at hj hg ⊢;(repeat first|refine uA ?_|(apply uK;· first|omega|(intros;simp_all<;>omega))|simp (disch:=omega) only [go_sem,Nat.reduceBEq]);(refine uJ rfl (fun hc=>?_) fun hc=>?_)
 ·have hgi:=c8q (show j < walls.length by omega);generalize walls[j]'(_)=x at hgi;have hx:=b2 x (c8t hgi);have hst:=a1a (f:=P9) hgi;have hnx:=a0U (f:=P9) hgi;have o1:=b4A x hx;generalize P9 x=a1 at *;simp only [vts] at o1;(repeat first|refine uG o1 ?_|refine uA ?_|(apply uK;· first|omega|(intros;simp_all<;>omega))|simp (disch:=omega) only [go_sem,Nat.reduceBEq,hgi,c8s,c8r,vts,c8u]|(refine uD o1 ?_ ?_ ?_;exact tz hw;rfl));refine S.cond rfl (fun hc2=>?_) (fun hc2=>?_)
  ·have h0:a1 ≠ 0:=by simpa using hc2
   rw [hst h0] at hg;rw [if_pos (by rw [hg];exact h0),hg];(repeat first|refine uA ?_|(apply uK;· first|omega|(intros;simp_all<;>omega))|simp (disch:=omega) only [go_sem,Nat.reduceBEq]);exact uS rfl rfl
  ·have h0:a1=0:=by simpa using hc2
   (repeat first|refine uA ?_|(apply uK;· first|omega|(intros;simp_all<;>omega))|simp (disch:=omega) only [go_sem,Nat.reduceBEq,ww]);refine S.next (j+1) ⟨by omega,by rw [hg];exact hnx h0⟩ (by omega) (by repeat first|refine uA ?_|(refine ⟨?_,?_⟩;· first|rfl|simp [slot])|rfl|simp)
 rw [a1x (by omega)] at hg;subst hg;rw [if_neg (show ¬ (0:Int) ≠ 0 by simp)];clear hr2 b2 hj;(repeat first|refine uA ?_|(apply uK;· first|omega|(intros;simp_all<;>omega))|simp (disch:=omega) only [go_sem,Nat.reduceBEq,Nat.reduceAdd,c8r]);refine S.loop (X:=Nat × Nms) (fun x=>⟨[(1,.bp 0 0),(4,.clo 127 [.bp 1 0]),(91,pts parts),(92,ints parts.length),(93,ints x.1)],[.box 30 [ams arms,wls walls,pts parts,sls slots,gts gates,.v (.bool walk.neg),sb walk.num,sb walk.den],.box 137 [.rv 2],.row 9 1 (nmR x.2)]⟩)
  (fun x=>x.1<=parts.length/\x.2.length<=4+x.1/\(e3,m3)=A9 a0t x.2 (parts.drop x.1)) (fun x=>parts.length-x.1) (0,m1) ⟨c8w _,hm1,hr3.symm⟩ (by repeat first|refine uA ?_|(refine ⟨?_,?_⟩;· first|rfl|simp [slot])|rfl|simp) ?_
 rintro ⟨k,m⟩ ⟨hk,hml,hg⟩;simp only [ams,wls,pts,sls,gts,sb,ints] at hk hml hg ⊢;(repeat first|refine uA ?_|(apply uK;· first|omega|(intros;simp_all<;>omega))|simp (disch:=omega) only [go_sem,Nat.reduceBEq]);(refine uJ rfl (fun hc=>?_) fun hc=>?_)
 ·have hgi:=c8q (show k < parts.length by omega);generalize parts[k]'(_)=x at hgi;have hx:=b3 x (c8t hgi);have hst:=X6 (f:=a0t) (s:=m) hgi;have hnx:=X8 (f:=a0t) (s:=m) hgi;have o1:=b4A x.shape hx.2.1;have o3:=b4P x.grasp ⟨hx.2.2.1.m rfl,hx.2.2.2.1.m rfl,hx.2.2.2.2.m rfl⟩;have o2:=fun (E:Ctx) (hP:E.P=Tryz.prog)=>hnm E hP m x.name (by have:=hx.1;omega) (by omega);have hal:=a6I m x.name;rw [c1z] at hst hnx;generalize P9 x.shape=a1 at *;generalize okF x.grasp=q at *;generalize N7 m x.name=r at *;obtain ⟨a2,m'⟩:=r;obtain ⟨xn,xs,⟨gx,gy,gh,gt⟩⟩:=x;simp only [Fr.c,Fr.enc,vts,sb] at o1 o2 o3 hal hst hnx
  (repeat first|refine uA ?_|(apply uK;· first|omega|(intros;simp_all<;>omega))|simp (disch:=omega) only [go_sem,Nat.reduceBEq,Nat.reduceAdd,hgi,c8s,c8r,Pt.enc,vts,sb,c8u,hcal,c8K,c8O]|refine l9.t (l7.b7v _ (o2 _ rfl) rfl rfl rfl) ?_);refine S.cond rfl (fun hc2=>?_) (fun hc2=>?_)
  ·have h0:a2 ≠ 0:=by simpa using hc2
   rw [if_pos h0] at hst;rw [hst h0] at hg;injection hg with g1 g2;rw [if_pos (by rw [g1];exact h0),g1];(repeat first|refine uA ?_|(apply uK;· first|omega|(intros;simp_all<;>omega))|simp (disch:=omega) only [go_sem,Nat.reduceBEq]);exact uS rfl rfl
  have h0:¬ a2 ≠ 0:=by simpa using hc2
  rw [if_neg h0] at hst hnx;(repeat first|refine uG o1 ?_|refine uA ?_|(apply uK;· first|omega|(intros;simp_all<;>omega))|simp (disch:=omega) only [go_sem,Nat.reduceBEq,Nat.reduceAdd]|(refine uD o1 ?_ ?_ ?_;exact tz hw;rfl));refine S.cond rfl (fun hc3=>?_) (fun hc3=>?_)
  ·have h1:a1 ≠ 0:=by simpa using hc3
   rw [if_pos h1] at hst;rw [hst h1] at hg;injection hg with g1 g2;rw [if_pos (by rw [g1];exact h1),g1];(repeat first|refine uA ?_|(apply uK;· first|omega|(intros;simp_all<;>omega))|simp (disch:=omega) only [go_sem,Nat.reduceBEq]);exact uS rfl rfl
  have h1:¬ a1 ≠ 0:=by simpa using hc3
  rw [if_neg h1] at hst hnx;(repeat first|refine uG o3 ?_|refine uA ?_|(apply uK;· first|omega|(intros;simp_all<;>omega))|simp (disch:=omega) only [go_sem,Nat.reduceBEq,Nat.reduceAdd]|(refine uD o3 ?_ ?_ ?_;exact tz hw;rfl));refine S.cond rfl (fun hc4=>?_) (fun hc4=>?_)
  ·have h2:¬ q=true:=by simpa using hc4
   rw [if_neg h2] at hst;rw [hst (show (1:Int) ≠ 0 by decide)] at hg;injection hg with g1 g2;rw [if_pos (by rw [g1];decide),g1];(repeat first|refine uA ?_|(apply uK;· first|omega|(intros;simp_all<;>omega))|simp (disch:=omega) only [go_sem]);exact uS rfl rfl
  ·have h2:q=true:=by simpa using hc4
   rw [if_pos h2] at hnx;(repeat first|refine uA ?_|(apply uK;· first|omega|(intros;simp_all<;>omega))|simp (disch:=omega) only [go_sem,Nat.reduceBEq,ww]);refine S.next (x:=(k,m)) (k+1,m') ⟨by simp only;omega,by simp only;omega,by simp only;rw [hg];exact hnx rfl⟩ (by simp only;omega) (by repeat first|refine uA ?_|(refine ⟨?_,?_⟩;· first|rfl|simp [slot])|rfl|simp)
 rw [a0i (by omega)] at hg;injection hg with g1 g2;subst g1 g2;rw [if_neg (show ¬ (0:Int) ≠ 0 by simp)];have hm3:m3.length<=10:=by omega
 clear hr3 b3 hml hk hm1;(repeat first|refine uA ?_|(apply uK;· first|omega|(intros;simp_all<;>omega))|simp (disch:=omega) only [go_sem,Nat.reduceBEq,Nat.reduceAdd,c8r]);refine S.loop (X:=Nat × Nms) (fun x=>⟨[(1,.bp 0 0),(4,.clo 127 [.bp 1 0]),(116,sls slots),(117,ints slots.length),(118,ints x.1)],[.box 30 [ams arms,wls walls,pts parts,sls slots,gts gates,.v (.bool walk.neg),sb walk.num,sb walk.den],.box 137 [.rv 2],.row 9 1 (nmR x.2)]⟩)
  (fun x=>x.1<=slots.length/\x.2.length<=10+x.1/\(e4,m4)=A9 a0v x.2 (slots.drop x.1)) (fun x=>slots.length-x.1) (0,m3) ⟨c8w _,hm3,hr4.symm⟩ (by repeat first|refine uA ?_|(refine ⟨?_,?_⟩;· first|rfl|simp [slot])|rfl|simp) ?_
 rintro ⟨k,m⟩ ⟨hk,hml,hg⟩;simp only [ams,wls,pts,sls,gts,sb,ints] at hk hml hg ⊢;(repeat first|refine uA ?_|(apply uK;· first|omega|(intros;simp_all<;>omega))|simp (disch:=omega) only [go_sem,Nat.reduceBEq]);(refine uJ rfl (fun hc=>?_) fun hc=>?_)
 ·have hgi:=c8q (show k < slots.length by omega);generalize slots[k]'(_)=x at hgi;have hx:=b4 x (c8t hgi);have hst:=X6 (f:=a0v) (s:=m) hgi;have hnx:=X8 (f:=a0v) (s:=m) hgi;have o1:=b4P x.frame ⟨hx.2.1.1.m rfl,hx.2.1.2.1.m rfl,hx.2.1.2.2.m rfl⟩;have o3:=a5c _ (b5K (by decide) (hx.2.2.mono (m:=17179869184) (by decide)));have o4:=M8 x.within (hx.2.2.m rfl);have o2:=fun (E:Ctx) (hP:E.P=Tryz.prog)=>hnm E hP m x.name (by have:=hx.1;omega) (by omega);have hal:=a6I m x.name;rw [c1P] at hst hnx;rw [c3C] at hst hnx;generalize okF x.frame=q1 at *;generalize [x.within].all j5=q2 at *;generalize q8 (Nm.d9 x.within)=s3 at *;generalize N7 m x.name=r at *;obtain ⟨a2,m'⟩:=r;obtain ⟨xn,⟨gx,gy,gh,gt⟩,wi⟩:=x
  simp only [Fr.c,Fr.enc,rts,rcs,rc,sb,ints,c8K,c8O] at o1 o2 o3 o4 hal hst hnx;(repeat first|refine uA ?_|(apply uK;· first|omega|(intros;simp_all<;>omega))|simp (disch:=omega) only [go_sem,Nat.reduceBEq,Nat.reduceAdd,hgi,c8s,c8r,Sl.enc,sb,c8u,hcal,c8K,c8O]|refine l9.t (l7.b7v _ (o2 _ rfl) rfl rfl rfl) ?_);refine S.cond rfl (fun hc2=>?_) (fun hc2=>?_)
  ·have h0:a2 ≠ 0:=by simpa using hc2
   rw [if_pos h0] at hst;rw [hst h0] at hg;injection hg with g1 g2;rw [if_pos (by rw [g1];exact h0),g1];(repeat first|refine uA ?_|(apply uK;· first|omega|(intros;simp_all<;>omega))|simp (disch:=omega) only [go_sem,Nat.reduceBEq]);exact uS rfl rfl
  have h0:¬ a2 ≠ 0:=by simpa using hc2
  rw [if_neg h0] at hst hnx;cases q1
  ·(repeat first|refine uG o1 ?_|refine uG o4 ?_|refine uG o3 ?_|refine uA ?_|(apply uK;· first|omega|(intros;simp_all<;>omega))|simp (disch:=omega) only [go_sem,Nat.reduceBEq,Nat.reduceAdd]|(refine uD o1 ?_ ?_ ?_;exact tz hw;rfl)|(refine uD o4 ?_ ?_ ?_;exact tz hw;rfl)|(refine uE o3 ?_ ?_ ?_ ?_;exact tz hw;exact rfl;focus (repeat' first|exact j3.nil|exact Imp.refl rfl|exact Imp.frz rfl rfl rfl|(refine Imp.K5 rfl rfl ?_ ?_;(focus ((try simp only [c8A]);omega));(focus first|rfl|assumption))|refine j3.cons ?_ ?_);done));refine S.cond rfl (fun hc3=>?_) (fun hc3=>by simp at hc3);rw [if_neg (by simp)] at hst;rw [hst (show (1:Int) ≠ 0 by decide)] at hg;injection hg with g1 g2
   rw [if_pos (by rw [g1];decide),g1];(repeat first|refine uA ?_|(apply uK;· first|omega|(intros;simp_all<;>omega))|simp (disch:=omega) only [go_sem]);exact uS rfl rfl
  (repeat first|refine uG o1 ?_|refine uG o4 ?_|refine uG o3 ?_|refine uA ?_|(apply uK;· first|omega|(intros;simp_all<;>omega))|simp (disch:=omega) only [go_sem,Nat.reduceBEq,Nat.reduceAdd]|(refine uD o1 ?_ ?_ ?_;exact tz hw;rfl)|(refine uD o4 ?_ ?_ ?_;exact tz hw;rfl)|(refine uE o3 ?_ ?_ ?_ ?_;exact tz hw;exact rfl;focus (repeat' first|exact j3.nil|exact Imp.refl rfl|exact Imp.frz rfl rfl rfl|(refine Imp.K5 rfl rfl ?_ ?_;(focus ((try simp only [c8A]);omega));(focus first|rfl|assumption))|refine j3.cons ?_ ?_);done));refine S.cond rfl (fun hc3=>?_) (fun hc3=>?_)
  ·rw [if_neg (by simp;simp at hc3;rcases hc3 with h|h<;>simp [h])] at hst;rw [hst (show (1:Int) ≠ 0 by decide)] at hg;injection hg with g1 g2;rw [if_pos (by rw [g1];decide),g1];(repeat first|refine uA ?_|(apply uK;· first|omega|(intros;simp_all<;>omega))|simp (disch:=omega) only [go_sem]);exact uS rfl rfl
  ·rw [if_pos (by simpa using hc3)] at hnx;(repeat first|refine uA ?_|(apply uK;· first|omega|(intros;simp_all<;>omega))|simp (disch:=omega) only [go_sem,Nat.reduceBEq,ww]);refine S.next (x:=(k,m)) (k+1,m') ⟨by simp only;omega,by simp only;omega,by simp only;rw [hg];exact hnx rfl⟩ (by simp only;omega) (by repeat first|refine uA ?_|(refine ⟨?_,?_⟩;· first|rfl|simp [slot])|rfl|simp)
 rw [a0i (by omega)] at hg;injection hg with g1 g2;subst g1 g2;rw [if_neg (show ¬ (0:Int) ≠ 0 by simp)];have hm4:m4.length<=18:=by omega
 clear hr4 b4 hml hk hm3;(repeat first|refine uA ?_|(apply uK;· first|omega|(intros;simp_all<;>omega))|simp (disch:=omega) only [go_sem,Nat.reduceBEq,Nat.reduceAdd,c8r]);refine S.loop (X:=Nat × Nms) (fun x=>⟨[(1,.bp 0 0),(4,.clo 127 [.bp 1 0]),(148,gts gates),(149,ints gates.length),(150,ints x.1)],[.box 30 [ams arms,wls walls,pts parts,sls slots,gts gates,.v (.bool walk.neg),sb walk.num,sb walk.den],.box 137 [.rv 2],.row 9 1 (nmR x.2)]⟩)
  (fun x=>x.1<=gates.length/\x.2.length<=18+x.1/\(e5,m5)=A9 Y0 x.2 (gates.drop x.1)) (fun x=>gates.length-x.1) (0,m4) ⟨c8w _,hm4,hr5.symm⟩ (by repeat first|refine uA ?_|(refine ⟨?_,?_⟩;· first|rfl|simp [slot])|rfl|simp) ?_
 rintro ⟨k,m⟩ ⟨hk,hml,hg⟩;simp only [ams,wls,pts,sls,gts,sb,ints] at hk hml hg ⊢;(repeat first|refine uA ?_|(apply uK;· first|omega|(intros;simp_all<;>omega))|simp (disch:=omega) only [go_sem,Nat.reduceBEq]);(refine uJ rfl (fun hc=>?_) fun hc=>?_)
 ·have hgi:=c8q (show k < gates.length by omega);generalize gates[k]'(_)=x at hgi;obtain ⟨hx0,⟨hx1,hx2⟩,hx3,hx4⟩:=b5 x (c8t hgi);have hst:=X6 (f:=Y0) (s:=m) hgi;have hnx:=X8 (f:=Y0) (s:=m) hgi;have o3:=a5c _ (c0T (by decide) (hx1.mono (m:=17179869184) (by decide)) (hx2.mono (m:=17179869184) (by decide)) (hx3.mono (m:=17179869184) (by decide)) (hx4.mono (m:=17179869184) (by decide)));have o4:=F6 x.low.x x.high.x (hx1.m rfl) (hx3.m rfl);have o5:=F6 x.low.y x.high.y (hx2.m rfl) (hx4.m rfl);have o2:=fun (E:Ctx) (hP:E.P=Tryz.prog)=>hnm E hP m x.name (by omega) (by omega);have hal:=a6I m x.name;rw [c0P] at hst hnx;rw [c4P] at hst hnx;generalize [x.low.x,x.low.y,x.high.x,x.high.y].all j5=q2 at *
  generalize Nm.l8 (Nm.d9 x.low.x) (Nm.d9 x.high.x)=s3 at *;generalize Nm.l8 (Nm.d9 x.low.y) (Nm.d9 x.high.y)=s4 at *;generalize N7 m x.name=r at *;obtain ⟨a2,m'⟩:=r;obtain ⟨xn,⟨lx,ly⟩,⟨ux,uy⟩⟩:=x;simp only [rts,rcs,rc,sb,ints,c8K,c8O] at o2 o3 o4 o5 hal hst hnx;(repeat first|refine uA ?_|(apply uK;· first|omega|(intros;simp_all<;>omega))|simp (disch:=omega) only [go_sem,Nat.reduceBEq,Nat.reduceAdd,hgi,c8s,c8r,Gt.enc,sb,c8u,hcal,c8K,c8O]|refine l9.t (l7.b7v _ (o2 _ rfl) rfl rfl rfl) ?_);refine S.cond rfl (fun hc2=>?_) (fun hc2=>?_)
  ·have h0:a2 ≠ 0:=by simpa using hc2
   rw [if_pos h0] at hst;rw [hst h0] at hg;injection hg with g1 g2;rw [if_pos (by rw [g1];exact h0),g1];(repeat first|refine uA ?_|(apply uK;· first|omega|(intros;simp_all<;>omega))|simp (disch:=omega) only [go_sem,Nat.reduceBEq]);exact uS rfl rfl
  have h0:¬ a2 ≠ 0:=by simpa using hc2
  rw [if_neg h0] at hst hnx;(repeat first|refine uI ?_|(apply uK;· first|omega|(intros;simp_all<;>omega))|simp (disch:=omega) only [go_sem,Nat.reduceBEq,Nat.reduceAdd,ww]);refine S.X4 [.gone,.gone,.gone,.box 117 [.v (.string (bs xn)),.v (.bool lx.neg),.v (.string (bs lx.num)),.v (.string (bs lx.den)),.v (.bool ly.neg),.v (.string (bs ly.num)),.v (.string (bs ly.den)),.v (.bool ux.neg),.v (.string (bs ux.num)),.v (.string (bs ux.den)),.v (.bool uy.neg),.v (.string (bs uy.num)),.v (.string (bs uy.den))]] (by simp [Eng.F3,Eng.E5]) ?_
  (repeat first|refine uG o4 ?_|refine uG o5 ?_|refine uG o3 ?_|refine uA ?_|(apply uK;· first|omega|(intros;simp_all<;>omega))|simp (disch:=omega) only [go_sem,Nat.reduceBEq,Nat.reduceAdd]|(refine uD o4 ?_ ?_ ?_;exact tz hw;rfl)|(refine uD o5 ?_ ?_ ?_;exact tz hw;rfl)|(refine uE o3 ?_ ?_ ?_ ?_;exact tz hw;exact rfl;focus (repeat' first|exact j3.nil|exact Imp.refl rfl|exact Imp.frz rfl rfl rfl|(refine Imp.K5 rfl rfl ?_ ?_;(focus ((try simp only [c8A,F3]);omega));(focus first|rfl|assumption))|refine j3.cons ?_ ?_);done));refine S.cond rfl (fun hc3=>?_) (fun hc3=>?_)
  ·rw [if_neg (by rw [hc3];decide)] at hst;rw [hst (show (1:Int) ≠ 0 by decide)] at hg;injection hg with g1 g2;rw [if_pos (by rw [g1];decide),g1];(repeat first|refine uA ?_|(apply uK;· first|omega|(intros;simp_all<;>omega))|simp (disch:=omega) only [go_sem]);exact uS rfl rfl
  ·rw [if_pos (by rw [hc3];rfl)] at hnx;(repeat first|refine uA ?_|(apply uK;· first|omega|(intros;simp_all<;>omega))|simp (disch:=omega) only [go_sem,Nat.reduceBEq,ww]);refine S.next (x:=(k,m)) (k+1,m') ⟨by simp only;omega,by simp only;omega,by simp only;rw [hg];exact hnx rfl⟩ (by simp only;omega) (by repeat first|refine uA ?_|(refine ⟨?_,?_⟩;· first|rfl|simp [slot])|rfl|simp)
 rw [a0i (by omega)] at hg;injection hg with g1 g2;subst g1;rw [if_neg (show ¬ (0:Int) ≠ 0 by simp)];(repeat first|refine uG h7 ?_|refine uG h6 ?_|refine uA ?_|(apply uK;· first|omega|(intros;simp_all<;>omega))|simp (disch:=omega) only [go_sem,Nat.reduceBEq,Nat.reduceAdd]|(refine uD h7 ?_ ?_ ?_;exact tz hw;rfl)|(refine uE h6 ?_ ?_ ?_ ?_;exact tz hw;exact rfl;focus (repeat' first|exact j3.nil|exact Imp.refl rfl|exact Imp.frz rfl rfl rfl|(refine Imp.K5 rfl rfl ?_ ?_;(focus ((try simp only [c8A]);omega));(focus first|rfl|assumption))|refine j3.cons ?_ ?_);done));refine S.cond rfl (fun hc=>?_) (fun hc=>?_)
 ·rw [if_pos (by simpa using hc)];(repeat first|refine uA ?_|(apply uK;· first|omega|(intros;simp_all<;>omega))|simp (disch:=omega) only [go_sem]);exact uS rfl rfl
 ·rw [if_neg (by simpa using hc)];(repeat first|refine uA ?_|(apply uK;· first|omega|(intros;simp_all<;>omega))|simp (disch:=omega) only [go_sem]);exact uS rfl rfl
theorem c6g {f:Nat} {args:List C} {s s':C} {rs':List Res} (h:∀ E:Ctx,E.P=Tryz.prog->Tz E->l7 E [] f args s rs' []) (hi:Imp rs' [] s s') (hc:s'.cl=true):FZ f args s':=by
 intro O w vs hw hO hA;have ho0:∀ b,¬ owned [] [] b:=fun b ⟨k,r,x,hk,_⟩=>by simp at hk
 have hRG:RG O (fun _=>False) w.heap.size [] [] w:=⟨rfl,fun k r hk=>by simp at hk,fun k l r r' x x' b _ hk=>by simp at hk,fun b hb=>(ho0 b hb).elim,hO,c8B _⟩
 have hsub:∀ b,OO O [] [] b->O b:=fun b hb=>hb.elim id fun h=>(ho0 b h).elim;refine (h ⟨Tryz.prog,fun _=>false,0,w,fun _=>False,O,[],[]⟩ rfl ⟨hw,id⟩ O [] w vs hRG (fun b hb=>hb) ⟨rfl,rfl,rfl,c8B _,fun _ _ _=>rfl⟩ ((FzL.keep (Keeps.sub hsub) hA).den [])).mono ?_;rintro e w' ⟨y,ν',rfl,h1,h2,h3⟩;have hC:Cut O rs' [] ν':=Cut.of h1 (by simp [U1]);have h4:=hi O (fun _=>False) w.heap.size ν' w' y h1 hC h3;exact ⟨y,rfl,⟨h2.os,h2.tape,h2.output,h2.size,fun b hb=>h2.block b hb (ho0 b)⟩,Fz.keep (Keeps.sub fun b hb=>.inl hb) (Den.fz hc h4)⟩
theorem FZ.imp {f:Nat} {args:List C} {r s:C} (h:FZ f args r) (hb:(C.bdL 0 args && C.clL args)=true) (hi:Imp [] [] r s) (hc:s.cl=true):FZ f args s:=by
 refine c6g (rs':=[]) (fun E hP ht=>?_) hi hc;rw [c8F] at hb;intro av ν w vs hR hav hF hD;refine (S9.c3n (p:=true) ht (fun _=>by rw [hP];exact h) (fun _=>j3.refl (rs':=[]) hb.1) (fun _=>hb.2) rfl av ν w vs hR hav hF hD).mono ?_;rintro e w' ⟨y,rfl,h1,h2⟩;exact ⟨y,ν,rfl,hR.below h1,Mv.of_below h1,h2⟩
theorem b4D {a:Am} {n:Nat} (h:a2U a n=0):H9 a=0/\n=a.links.length:=by
 unfold a2U at h;split at h
 ·contradiction
 ·split at h
  ·cases h
  ·rename_i h1 h2;exact ⟨Classical.not_not.1 h1,by have:=Classical.not_not.1 h2;omega⟩
def gbL (w:Wk) (a:Am) (holds:Int) (q:List Sn):List Bq:=if a2U a q.length ≠ 0 then [] else if holds < 0 then a1P a (q.map G6) else match w.parts[holds.toNat]? with
 | some p=>a1P a (q.map G6)++[a0b (a6Q a (q.map G6)) (a1B p.grasp p.shape)]
 | none=>[]
theorem b6j {w:Wk} {a:Am} {holds:Int} {q:List Sn}:(gbL w a holds q).length<=4:=by
 unfold gbL;split
 ·exact c8w _
 ·rename_i he;obtain ⟨h1,h2⟩:=b4D (Classical.not_not.1 he);have hl:=a9F (a:=a) (q:=q.map G6) (by rw [c8r];exact h2);have h3:=(K4 h1).2;split
  ·omega
  ·split
   ·rw [c8A,List.length_singleton];omega
   ·exact c8w _
theorem b9q {L:List Lk} {u:List Nm.Rt} (hl:u.length=L.length) (h:a1D (L.zip u)=false):∃ k,k < L.length/\(∀ (l:Lk) (x:Nm.Rt),L[k]?=some l->u[k]?=some x->¬ r9 (Nm.d9 l.brake) (Nm.d9 x)<=2000)/\∀ (i:Nat) (l:Lk) (x:Nm.Rt),i < k->L[i]?=some l->u[i]?=some x->r9 (Nm.d9 l.brake) (Nm.d9 x)<=2000:=by
 induction L generalizing u with
 | nil=>simp [a1D] at h
 | cons l L ih=>
  cases u with
  | nil=>simp at hl
  | cons x u=>
   by_cases hx:r9 (Nm.d9 l.brake) (Nm.d9 x)<=2000
   ·have h2:a1D (L.zip u)=false:=by
     unfold a1D at h ⊢;simpa [hx] using h
    obtain ⟨k,h3,h4,h5⟩:=ih (by simpa using hl) h2;refine ⟨k+1,by simpa using h3,fun l' x' g1 g2=>h4 l' x' (by simpa using g1) (by simpa using g2),fun i l' x' hi g1 g2=>?_⟩;cases i with
    | zero=>
     simp only [List.getElem?_cons_zero,Option.some.injEq] at g1 g2;subst g1 g2;exact hx
    | succ i=>exact h5 i l' x' (by omega) (by simpa using g1) (by simpa using g2)
   ·exact ⟨0,by simp,fun l' x' g1 g2=>by
     simp only [List.getElem?_cons_zero,Option.some.injEq] at g1 g2;subst g1 g2;exact hx,fun i l' x' hi=>absurd hi (Nat.not_lt_zero _)⟩
set_option maxRecDepth 10000
set_option maxHeartbeats 4000000
theorem a2o (p q:Rat):Nm.l8 p q<=0 <-> p<=q:=by
 have h:=V8 p q;constructor
 ·intro h1;have:¬ q < p:=fun h2=>by have:=h.2 h2;omega
  grind
 ·intro h1;have:¬ 0 < Nm.l8 p q:=fun h2=>by have:=h.1 h2;grind
  omega
theorem b0V (p q:Rat):0<=Nm.l8 p q <-> q<=p:=by
 have h:=Y6 p q;constructor
 ·intro h1;have:¬ p < q:=fun h2=>by have:=h.2 h2;omega
  grind
 ·intro h1;have:¬ Nm.l8 p q < 0:=fun h2=>by have:=h.1 h2;grind
  omega
def InO (s:Sp):Prop:=s.lo<=s.hi
theorem b3q (s:Sp):InO (G7 s):=by
 unfold G7 InO;split
 ·rename_i h;exact (a2o _ _).1 h
 ·exact Rat.le_refl
theorem b3V (a b:Sp):InO (O4 a b):=by
 have h1:=b3q a;have h2:=(b0Q (G7 a).lo (G7 b).lo).1;have h3:=(a6z (G7 a).hi (G7 b).hi).1;unfold InO at *;unfold O4;simp only;grind
theorem a8p (a b:Sp):InO (U8 a b):=by
 have h1:=b3q a;have h2:=b3q b;unfold InO at *;unfold U8;simp only;grind
theorem c2Y (f:Lq):∀ (r:List Vt) (s:Sp × Sp),InO s.1/\InO s.2->InO (ptI f s r).1/\InO (ptI f s r).2
 | [],_,h=>h
 | v::r,s,_=>c2Y f r _ ⟨b3V _ _,b3V _ _⟩
def a2Q (b:Bq):Prop:=b.lx<=b.hx/\b.ly<=b.hy
theorem c7z (f:Lq) (l:Lk):a2Q (shB f l):=by
 unfold shB;split
 ·exact ⟨Rat.le_refl,Rat.le_refl⟩
 ·rename_i v r he;have h:=c2Y f r (atX f v,atY f v) ⟨a8p _ _,a8p _ _⟩;exact ⟨h.1,h.2⟩
theorem b8H (a:Am) (q:List Sp):∀ b ∈ a1P a q,a2Q b:=fun b hb=>by
 obtain ⟨z,_,rfl⟩:=List.mem_map.1 hb;exact c7z _ _
theorem b0U {b:Bq} {r:Rat} (h:a2Q b) (hr:0<=r):a2Q (a0b b r):=by
 obtain ⟨h1,h2⟩:=h;unfold a0b a2Q;simp only;constructor<;>grind
theorem b3F (g:Fr):∀ (l:List Vt) (m:Rat),0<=m->0<=l.foldl (fun m c=>D8 m (q9 (Nm.d9 c.x-Nm.d9 g.x)+q9 (Nm.d9 c.y-Nm.d9 g.y))) m
 | [],_,h=>h
 | c::r,m,h=>b3F g r _ (Rat.le_trans h (a6z m _).1)
theorem a8P:∀ (Z:List (Lk × Sp)) (n:Lq),(InO n.x/\InO n.y)->∀ f,(K9 n Z).getLast?=some f->InO f.x/\InO f.y
 | [],n,h,f,hf=>by
  rw [K9] at hf;simp only [List.getLast?_singleton,Option.some.injEq] at hf;rw [<- hf];exact h
 | (l,t)::r,n,_,f,hf=>by
  rw [K9] at hf;have hne:K9 (a7F (a2K n t) l) r ≠ []:=fun h=>by have:=a2r r (a7F (a2K n t) l);rw [h] at this;simp at this
  rw [List.getLast?_cons] at hf;refine a8P r (a7F (a2K n t) l) ⟨a8p _ _,a8p _ _⟩ f ?_;cases hg:(K9 (a7F (a2K n t) l) r).getLast? with
  | none=>exact absurd (List.getLast?_eq_none_iff.1 hg) hne
  | some x=>rw [hg] at hf;simpa using hf
def a1d (b:Bq):List Vt:=[⟨Nm.ofQ b.lx,Nm.ofQ b.ly⟩,⟨Nm.ofQ b.hx,Nm.ofQ b.ly⟩,⟨Nm.ofQ b.hx,Nm.ofQ b.hy⟩,⟨Nm.ofQ b.lx,Nm.ofQ b.hy⟩]
def a3S (b:Bq) (l:List Vt):Bool:=!decide (R9 (a1d b) l=0) || decide (q8 (if a2D (a1d b) l=true then 0 else sqV (a1d b) l)=0)
theorem c2u {q:Rat} (h:0 < q):q8 q ≠ 0:=fun h2=>by
 have:=(sign_zero q).1 h2;grind
theorem b1k {b:Bq} (h:a2Q b) (hd:Q7 b=[]):J8 (a1d b) 64 ≠ 0:=fun hp=>by
 have hc:=(a0F hp).2 0 2 (show 0 < 4 by decide) (show 2 < 4 by decide) (by decide);have h4:=a6C hc;unfold Q7 at hd;split at hd
 ·rename_i hz;rw [b0V,b0V] at hz;obtain ⟨g1,g2⟩:=h;simp only [a1d,List.getD_cons_zero,List.getD_cons_succ,c8R,List.length_nil,Nm.l6] at h4;have e1:Nm.d9 (Nm.ofQ b.hx)=b.hx:=Nm.l6 _;rcases hz with hz|hz
  ·have e:b.hx=b.lx:=by grind
   simp [e,Nm.l6] at h4;grind
  ·have e:b.hy=b.ly:=by grind
   simp [e,Nm.l6] at h4;grind
 ·cases hd
theorem c0B {b:Bq} (h:a2Q b) (l:List Vt):a3S b l=a4X (Q7 b) l:=by
 by_cases hd:Q7 b=[]
 ·have h1:R9 (a1d b) l ≠ 0:=by
   unfold R9;rw [if_neg (b1k h hd)];exact b1k h hd
  have h2:R9 [] l ≠ 0:=by
   unfold R9;rw [if_neg (by decide)];decide
  unfold a3S a4X;rw [hd];simp [h1,h2]
 ·have he:Q7 b=a1d b:=by
   unfold Q7 at hd ⊢;split
   ·rename_i hz;rw [if_pos hz] at hd;exact absurd rfl hd
   ·rfl
  rw [he];unfold a3S a4X;by_cases h1:R9 (a1d b) l=0
  ·cases hm:a2D (a1d b) l with
   | true=>
    have:q8 0=0:=by decide
    simp [h1,this]
   | false=>
    have:=c2u (c1o h1 hm);simp [h1,this]
  ·simp [h1]
def a6H (b c:Bq):Bool:=decide (Nm.l8 b.lx c.hx<=0) && decide (Nm.l8 c.lx b.hx<=0) && decide (Nm.l8 b.ly c.hy<=0) && decide (Nm.l8 c.ly b.hy<=0)
theorem b9O {b c:Bq} (hb:a2Q b) (hc:a2Q c):a6H b c=a4x b c:=by
 unfold a6H a4x a5f;rw [decide_eq_true ((a2o _ _).2 hb.1),decide_eq_true ((a2o _ _).2 hb.2),decide_eq_true ((a2o _ _).2 hc.1),decide_eq_true ((a2o _ _).2 hc.2)];simp
theorem c3L (a:Nm.Rt):a7O a=Nm.ofQ (q9 (Nm.d9 a)):=by
 unfold a7O Nm.ofQ q9;generalize Nm.d9 a=q;by_cases h:q.num < 0
 ·rw [if_pos h,Rat.neg_num,Rat.neg_den,Int.natAbs_neg,decide_eq_false (by omega)]
 ·rw [if_neg h,decide_eq_false h]
theorem c2y (z:Lk × Nm.Rt × Nm.Rt):b1a z=(C8 z.2.2 && a5X z):=by
 unfold b1a a5X C8;rw [c3L,Nm.l6];have h:Nm.l8 (Nm.d9 z.2.1+Nm.d9 z.2.2) (Nm.d9 z.1.low) < 0 <-> 0 < Nm.l8 (Nm.d9 z.1.low) (Nm.d9 z.2.1+Nm.d9 z.2.2):=by rw [Y6,V8]
 rw [show decide (Nm.l8 (Nm.d9 z.2.1+Nm.d9 z.2.2) (Nm.d9 z.1.low) < 0)=decide (0 < Nm.l8 (Nm.d9 z.1.low) (Nm.d9 z.2.1+Nm.d9 z.2.2)) from decide_eq_decide.2 h];simp only [Bool.not_or,Bool.and_assoc]
theorem c3P {L:List Lk}:∀ {q u:List Nm.Rt},q.length=L.length->u.length=L.length->(L.zip (q.zip u)).all b1a=(u.all C8 && (L.zip (q.zip u)).all a5X):=by
 induction L with
 | nil=>
  intro q u h1 h2;have:u=[]:=List.length_eq_zero_iff.1 (by simpa using h2);subst this;simp
 | cons l L ih=>
  intro q u h1 h2;cases q with
  | nil=>simp at h1
  | cons x q=>
   cases u with
   | nil=>simp at h2
   | cons y u=>
    simp only [List.zip_cons_cons,List.all_cons];rw [ih (by simpa using h1) (by simpa using h2),c2y];simp only;generalize C8 y=g1;generalize a5X _=g2;cases g1<;>cases g2<;>simp
theorem c2r {a:Am} {q u:List Nm.Rt} (h:q.length=a.links.length):a5e a q u=(decide (u.length=a.links.length) && a0O (a.links.zip (q.zip u))):=by
 unfold a5e a0O;by_cases hu:u.length=a.links.length
 ·rw [decide_eq_true hu,c3P h hu]
 ·rw [decide_eq_false hu];rfl
def a9t (L:List Lk) (Q:List Sp):Bool:=(L.zip Q).any fun z=>!X9 ⟨Nm.d9 z.1.low,Nm.d9 z.1.high⟩ z.2.lo || !X9 ⟨Nm.d9 z.1.low,Nm.d9 z.1.high⟩ z.2.hi
theorem c2f {L:List Lk} {Q:List Sp} (hL:∀ l ∈ L,Nm.d9 l.low<=Nm.d9 l.high) (hQ:∀ s ∈ Q,InO s):a9t L Q=a7b L Q:=by
 unfold a9t a7b;rw [Bool.eq_iff_iff,List.any_eq_true,List.any_eq_true];have key:∀ z ∈ L.zip Q,((!X9 ⟨Nm.d9 z.1.low,Nm.d9 z.1.high⟩ z.2.lo || !X9 ⟨Nm.d9 z.1.low,Nm.d9 z.1.high⟩ z.2.hi)=true <-> (decide (Nm.l8 z.2.lo (Nm.d9 z.1.low) < 0) || decide (0 < Nm.l8 z.2.hi (Nm.d9 z.1.high)))=true):=fun z hz=>by
  have h1:=hL _ (List.of_mem_zip hz).1;have h2:=hQ _ (List.of_mem_zip hz).2;unfold InO at h2;unfold X9;rw [a8F h1];simp only [c9f,Bool.not_eq_true',Bool.and_eq_false_iff,c8I,c8D,a2o,Y6,V8];constructor
  ·intro h;rcases h with (h|h)|(h|h)<;>grind
  ·intro h;rcases h with h|h
   ·exact .inl (.inl (by grind))
   ·exact .inr (.inr (by grind))
 constructor
 ·rintro ⟨z,hz,h⟩;exact ⟨z,hz,(key z hz).1 h⟩
 ·rintro ⟨z,hz,h⟩;exact ⟨z,hz,(key z hz).2 h⟩
def InV (B x:Rat):Prop:=-B<=x/\x<=B
def InB (B:Rat) (s:Sp):Prop:=InV B s.lo/\InV B s.hi
theorem InV.mono {B C x:Rat} (h:InV B x) (hc:B<=C):InV C x:=⟨by have:=h.1;grind,by have:=h.2;grind⟩
theorem InB.mono {B C:Rat} {s:Sp} (h:InB B s) (hc:B<=C):InB C s:=⟨h.1.mono hc,h.2.mono hc⟩
theorem a1F {B:Rat} {s:Sp} (hB:0<=B) (h:InB B s):InB B (G7 s):=by
 unfold G7;split
 ·exact h
 ·exact ⟨⟨by simp only;grind,by simp only;grind⟩,⟨by simp only;grind,by simp only;grind⟩⟩
theorem a6c {B x y:Rat} (hx:InV B x) (hy:InV 1 y):InV B (x*y):=by
 obtain ⟨x1,x2⟩:=hx;obtain ⟨y1,y2⟩:=hy;have h1:=Rat.mul_nonneg (show 0<=B-x by grind) (show 0<=1+y by grind);have h2:=Rat.mul_nonneg (show 0<=B+x by grind) (show 0<=1-y by grind);have h3:=Rat.mul_nonneg (show 0<=B-x by grind) (show 0<=1-y by grind);have h4:=Rat.mul_nonneg (show 0<=B+x by grind) (show 0<=1+y by grind);constructor<;>grind
theorem b3S {B p q:Rat} (hp:InV B p) (hq:InV B q):InV B (u6 p q):=by unfold u6;split<;>assumption
theorem b3C {B p q:Rat} (hp:InV B p) (hq:InV B q):InV B (D8 p q):=by unfold D8;split<;>assumption
theorem c3b {B:Rat}:∀ (l:List Rat) (s:Sp),InB B s->(∀ a ∈ l,InV B a)->InB B (l.foldl (fun s a=>(⟨u6 s.lo a,D8 s.hi a⟩:Sp)) s)
 | [],_,h,_=>h
 | a::l,s,h,hl=>c3b l _ ⟨b3S h.1 (hl a (by simp)),b3C h.2 (hl a (by simp))⟩ fun x hx=>hl x (by simp [hx])
theorem b0d {B:Rat} {a b:Sp} (hB:0<=B) (ha:InB B a) (hb:InB 1 b):InB B (I8 a b):=by
 have fa:=a1F hB ha;have fb:=a1F (show (0:Rat)<=1 by decide) hb;unfold I8 arF;refine c3b _ _ ⟨a6c fa.1 fb.1,a6c fa.1 fb.1⟩ fun x hx=>?_;simp only [List.mem_cons,List.not_mem_nil,or_false] at hx;rcases hx with rfl|rfl|rfl
 ·exact a6c fa.1 fb.2
 ·exact a6c fa.2 fb.1
 ·exact a6c fa.2 fb.2
theorem c6o {B C:Rat} {a b:Sp} (hB:0<=B) (hC:0<=C) (ha:InB B a) (hb:InB C b):InB (B+C) (U8 a b):=by
 obtain ⟨⟨a1,a2⟩,⟨a3,a4⟩⟩:=a1F hB ha;obtain ⟨⟨b1,b2⟩,⟨b3,b4⟩⟩:=a1F hC hb;unfold U8;exact ⟨⟨by simp only;grind,by simp only;grind⟩,⟨by simp only;grind,by simp only;grind⟩⟩
theorem c5z {B C:Rat} {a b:Sp} (hB:0<=B) (hC:0<=C) (ha:InB B a) (hb:InB C b):InB (B+C) (a2L a b):=by
 obtain ⟨⟨a1,a2⟩,⟨a3,a4⟩⟩:=a1F hB ha;obtain ⟨⟨b1,b2⟩,⟨b3,b4⟩⟩:=a1F hC hb;unfold a2L;exact ⟨⟨by simp only;grind,by simp only;grind⟩,⟨by simp only;grind,by simp only;grind⟩⟩
theorem b5V {B:Rat} {a b:Sp} (hB:0<=B) (ha:InB B a) (hb:InB B b):InB B (O4 a b):=⟨b3S (a1F hB ha).1 (a1F hB hb).1,b3C (a1F hB ha).2 (a1F hB hb).2⟩
theorem b3L {x y:Rat} (hy:0 < y) (h1:-y<=x) (h2:x<=y):InV 1 (x / y):=by
 have e:x / y*y=x:=Rat.div_mul_cancel (by grind);generalize x / y=q at *;constructor
 ·refine Classical.byContradiction fun hc=>?_;have h3:=Rat.mul_lt_mul_of_pos_right (show q < -1 by grind) hy;grind
 ·refine Classical.byContradiction fun hc=>?_;have h3:=Rat.mul_lt_mul_of_pos_right (show (1:Rat) < q by grind) hy;grind
theorem b6J {a:Rat} (h:0<=a):InV 1 (a6V a):=by unfold a6V;exact b3L (by grind) (by grind) (by grind)
theorem b0m (t:Rat):0 < 1+t*t:=by have:=sq_nonneg t;grind
theorem a4N (t:Rat):InV 1 (Y3 t):=by
 unfold Y3;have h1:=sq_nonneg (1-t);have h2:=sq_nonneg (1+t);exact b3L (b0m t) (by grind) (by grind)
theorem b6G (h:Bool) (t:Rat):InV 1 (a2e h t):=by
 unfold a2e;have h1:=sq_nonneg t;split
 ·exact ⟨by decide,by decide⟩
 ·exact b3L (b0m t) (by grind) (by grind)
theorem b6a (s:Sp):InB 1 (a9q s):=⟨b6J (a5l s).2,b6J (a5l s).1⟩
theorem c4G {n:Int} (h:n=-1 \/ n=1):InB 1 (ptQ (n:Rat)):=by
 rcases h with rfl|rfl
 ·exact ⟨⟨by decide,by decide⟩,⟨by decide,by decide⟩⟩
 ·exact ⟨⟨by decide,by decide⟩,⟨by decide,by decide⟩⟩
theorem b6p {u:Sp}:∀ (l:List Int) (s:Sp),InB 1 s->(∀ n ∈ l,n=-1 \/ n=1)->InB 1 (a3J u s l)
 | [],_,h,_=>h
 | n::l,s,h,hl=>by
  unfold a3J;rw [List.foldl_cons];refine b6p l _ ?_ fun m hm=>hl m (by simp [hm]);split
  ·exact b5V (by decide) h (c4G (hl n (by simp)))
  ·exact h
theorem b6c (t:Sp):InB 1 (a9x t):=b6p _ _ (b5V (by decide) ⟨a4N _,a4N _⟩ ⟨a4N _,a4N _⟩) (by simp)
theorem b5X (p:Rat):p-1<=a1w p/\a1w p<=p:=by
 unfold a1w;have h1:=Rat.floor_le (p*1000000);have h2:=Rat.lt_floor_add_one (p*1000000);rw [Rat.intCast_add] at h2;generalize (p*1000000).floor=f at *;rw [Rat.mkRat_eq_div];have e:(f:Rat) / ((1000000:Nat):Rat)*((1000000:Nat):Rat)=(f:Rat):=Rat.div_mul_cancel (by decide);have e2:((1000000:Nat):Rat)=1000000:=rfl;have e3:((1:Int):Rat)=1:=rfl;rw [e2] at e ⊢;rw [e3] at h2;generalize (f:Rat) / 1000000=q at *;constructor<;>grind
theorem c7n (p:Rat):p<=upQ p/\upQ p<=p+1:=by
 have:=b5X (-p);unfold upQ;constructor<;>grind
theorem c0r {B:Rat} {s:Sp} (hB:1<=B) (h:InB B s):InB (B+1) (a2l s):=by
 obtain ⟨⟨a1,a2⟩,⟨a3,a4⟩⟩:=a1F (show 0<=B by grind) h;have h1:=b5X (G7 s).lo;have h2:=c7n (G7 s).hi;unfold a2l a7s;exact ⟨b3C ⟨by simp only;grind,by simp only;grind⟩ ⟨by grind,by grind⟩,b3S ⟨by simp only;grind,by simp only;grind⟩ ⟨by grind,by grind⟩⟩
theorem a9T {p:Rat} (h:InV 100 p):Rb 8 (Nm.ofQ (a1w p)):=by
 unfold a1w;have h1:=Rat.floor_le (p*1000000);have h2:=Rat.lt_floor_add_one (p*1000000);rw [Rat.intCast_add] at h2;generalize (p*1000000).floor=f at *;obtain ⟨p1,p2⟩:=h;have hf:-100000001<=f/\f<=100000000:=by
  have e3:((1:Int):Rat)=1:=rfl;rw [e3] at h2;constructor
  ·have:((-100000001:Int):Rat)<=(f:Rat):=by rw [show ((-100000001:Int):Rat)=-100000001 from rfl];grind
   exact Rat.intCast_le_intCast.1 this
  ·have:(f:Rat)<=((100000000:Int):Rat):=by rw [show ((100000000:Int):Rat)=100000000 from rfl];grind
   exact Rat.intCast_le_intCast.1 this
 have h4:(Nm.enc f.natAbs).length<=4:=Nm.H6 (by rw [show (256:Nat) ^ 4=4294967296 by decide];omega);rw [<- b0P f];have h3:=a8E;exact a6r (k:=8) (by decide) (by omega) (by omega) (by omega) (c8B _)
theorem b1w {s:Sp} (h:InB 100 s):Zb 8 (a2l s):=by
 have hf:=a1F (by decide) h;have h2:InV 100 (-(G7 s).hi):=⟨by have:=hf.2.2;grind,by have:=hf.2.1;grind⟩
 unfold a2l a7s upQ;exact ⟨a0T (a9T hf.1) a8D,a3z (a0x (a9T h2)) R8⟩
def BB:Nat->Rat
 | 0=>1
 | 1=>3
 | 2=>7
 | _=>15
theorem c3w {i:Nat} (h:i < 3):BB i+BB i+1=BB (i+1)/\1<=BB i/\BB i+BB i<=100:=by
 rcases (show i=0 \/ i=1 \/ i=2 by omega) with rfl|rfl|rfl<;>exact ⟨by decide +kernel,by decide +kernel,by decide +kernel⟩
structure FrS (i:Nat) (n:Lq):Prop where
 x:Zb (64+17*i) n.x
 y:Zb (64+17*i) n.y
 c:InB (BB i) n.c
 s:InB (BB i) n.s
 small:i ≠ 0->Zb 8 n.c/\Zb 8 n.s
 cs:Zb 262144 n.c/\Zb 262144 n.s
theorem b3P {i:Nat} {n:Lq} {t:Sp} {l:Lk} (hi:i < 3) (h:FrS i n) (hl:Rb 8 l.length):Zl 256 (a2K n t)/\FrS (i+1) (a7F (a2K n t) l):=by
 obtain ⟨b1,b2,b3⟩:=c3w hi;have h0:0<=BB i:=by grind
 have c1:=c5z h0 h0 (b0d h0 h.c (b6a t)) (b0d h0 h.s (b6c t));have s1:=c6o h0 h0 (b0d h0 h.s (b6a t)) (b0d h0 h.c (b6c t));have c2:=c0r (by grind) c1;have s2:=c0r (by grind) s1;rw [b1] at c2 s2;have c3:=b1w (c1.mono b3);have s3:=b1w (s1.mono b3);have p:=a3X hl (by decide);exact ⟨⟨h.x.mono (by omega),h.y.mono (by omega),c3.m rfl,s3.m rfl⟩,(a3C h.x (V7 p c3)).mono (by omega),(a3C h.y (V7 p s3)).mono (by omega),c2,s2,fun _=>⟨c3,s3⟩,c3.m rfl,s3.m rfl⟩
theorem a7g:∀ (Z:List (Lk × Sp)) (i:Nat) (n:Lq),i+Z.length<=3->i+Z.length ≠ 0->FrS i n->(∀ z ∈ Z,Rb 8 z.1.length)->∀ f ∈ K9 n Z,Zl 256 f
 | [],i,n,hi,h0,hn,_,f,hf=>by
  rw [K9,List.mem_singleton] at hf;rw [hf];simp only [List.length_nil,Nat.add_zero] at hi h0;obtain ⟨h1,h2⟩:=hn.small h0;exact ⟨hn.x.mono (by omega),hn.y.mono (by omega),h1.m rfl,h2.m rfl⟩
 | (l,t)::r,i,n,hi,_,hn,hz,f,hf=>by
  rw [c8R] at hi;have h2:=b3P (l:=l) (t:=t) (show i < 3 by omega) hn (hz (l,t) (by simp));rw [K9,List.mem_cons] at hf;rcases hf with rfl|hf
  ·exact h2.1
  ·exact a7g r (i+1) _ (by omega) (by omega) h2.2 (fun z hzz=>hz z (by simp [hzz])) f hf
theorem a9J {a:Am} (ha:H9 a=0):FrS 0 (a0u a.base):=by
 obtain ⟨fb,_⟩:=a6f ha;exact ⟨a3X (fb.1.mono (show xB 0<=64 by decide)) (by decide),a3X (fb.2.1.mono (show xB 0<=64 by decide)) (by decide),⟨b6G _ _,b6G _ _⟩,⟨a4N _,a4N _⟩,fun h=>absurd rfl h,(b5N ha).2.2.1,(b5N ha).2.2.2⟩
set_option maxRecDepth 100000
set_option maxHeartbeats 16000000
theorem b2m (a:Am) (q:List Sn) (hl:Ab 1073741824 a) (ha:H9 a=0) (hql:q.length=a.links.length) (hq:∀ r ∈ q,Zr 16000000 r):FZ 169 [a.c,.sl 6 (q.map Sn.enc)] (.tup [.sl 24 ((K9 (a0u a.base) (a.links.zip (q.map G6))).map Lq.enc),ints 0]):=by
 refine kW Tryz.func169 (cF rfl rfl (by cbv) (by repeat' first|exact cS|exact cT|exact cE|apply cA|apply cC|apply cB|apply cL|(apply cR;cbv)|(apply cD;cbv;cbv;kernel_rfl))) (by rfl) fun w O hw=>?_;have h:=b9t a q.length hl;rw [b3t ha (by omega)] at h;obtain ⟨fb,lb⟩:=a6f ha;have hbase:=a9J ha;have hn3:=(K4 ha).2;have hn:=hl.2.2.1;obtain ⟨name,base,links⟩:=a;simp only at hql fb lb hn3 hn ⊢;have hcs:=c5i base.half base.t (fb.2.2.m rfl);have hs:=b3H base.half base.t (fb.2.2.m rfl);have rT:=b1h (h:=base.half) (fb.2.2.mono (show tB 0<=64 by decide)) (by decide);have rC:Rb 262144 (Nm.ofQ (a2e base.half (K7 base.half base.t))):=(b9J _ rT).m rfl
 have rS:Rb 262144 (Nm.ofQ (Y3 (K7 base.half base.t))):=(a4q rT).m rfl;have x1:=fb.1.mono (show xB 0<=64 by decide);have x2:=fb.2.1.mono (show xB 0<=64 by decide);have h0:FrS 0 (a0u base):=hbase;have g1:=Y2 base.x (x1.m rfl);have g2:=Y2 base.y (x2.m rfl);have g3:=Y2 (Nm.ofQ (a2e base.half (K7 base.half base.t))) (rC.m rfl);have g4:=Y2 (Nm.ofQ (Y3 (K7 base.half base.t))) (rS.m rfl);rw [Nm.l6] at g3 g4;have hB:a0u base=⟨⟨Nm.d9 base.x,Nm.d9 base.x⟩,⟨Nm.d9 base.y,Nm.d9 base.y⟩,⟨a2e base.half (K7 base.half base.t),a2e base.half (K7 base.half base.t)⟩,⟨Y3 (K7 base.half base.t),Y3 (K7 base.half base.t)⟩⟩:=rfl;clear rT rC rS x1 x2;generalize a2e base.half (K7 base.half base.t)=co at *
 generalize Y3 (K7 base.half base.t)=si at *;generalize Nm.d9 base.x=u1 at *;generalize Nm.d9 base.y=u2 at *;generalize a0u base=N0 at *;simp only [j4];simp only [Am.c,Am.enc,Fr.enc,lks,rq,rc,tc,Sp.c,Sn.c,Sn.enc,snQ,sb,ints] at h hcs hs g1 g2 g3 g4 ⊢;(repeat first|refine uA ?_|(apply uK;· first|omega|(intros;simp_all<;>omega))|simp (disch:=omega) only [go_sem,Nat.reduceBEq,Nat.reduceAdd,ww,c8r]|(refine uD h ?_ ?_ ?_;exact tz hw;rfl));refine S.cond rfl (fun hc=>by simp at hc) (fun hc=>?_)
 (repeat first|refine uA ?_|(apply uK;· first|omega|(intros;simp_all<;>omega))|simp (disch:=omega) only [go_sem,Nat.reduceBEq,Nat.reduceAdd,ww,c8r]|(refine uD g1 ?_ ?_ ?_;exact tz hw;rfl)|(refine uD g2 ?_ ?_ ?_;exact tz hw;rfl)|(refine uD hcs ?_ ?_ ?_;exact tz hw;rfl)|(refine uD g3 ?_ ?_ ?_;exact tz hw;rfl)|(refine uD hs ?_ ?_ ?_;exact tz hw;rfl)|(refine uD g4 ?_ ?_ ?_;exact tz hw;rfl));refine S.loop (X:=Nat × Lq × List Lq) (fun x=>⟨[(1,.sl 6 (q.map Sn.enc)),(8,.bp 2 0),(9,.rv 3),(43,lks links),(44,ints links.length),(45,ints x.1)],[.gone,.gone,.box 225 x.2.1.enc,.row 225 24 (x.2.2.map Lq.enc)]⟩)
  (fun x=>x.1<=links.length/\x.2.2.length=x.1/\K9 N0 (links.zip (q.map G6))=x.2.2++K9 x.2.1 ((links.zip (q.map G6)).drop x.1)/\FrS x.1 x.2.1) (fun x=>links.length-x.1) (0,N0,[]) ⟨c8w _,rfl,rfl,h0⟩ (Ent.trans (Ent.pack 9 225 24 rfl) (by simp only [hB,Lq.enc,Sp.enc,Sn.enc,snQ,sb,List.cons_append,List.nil_append];exact (by repeat first|refine uA ?_|(refine ⟨?_,?_⟩;· first|rfl|simp [slot])|rfl|simp))) ?_
 rintro ⟨i,n,outs⟩ ⟨hi,ho,hg,hF⟩;clear h hcs hs g1 g2 g3 g4 hB h0;simp only at hi ho hg hF;simp only [lks,sb,ints,Lq.enc,Sp.enc,Sn.enc,snQ,List.cons_append,List.nil_append];(repeat first|refine uA ?_|(apply uK;· first|omega|(intros;simp_all<;>omega))|simp (disch:=omega) only [go_sem,Nat.reduceBEq,Nat.reduceAdd,ww]);(refine uJ rfl (fun hc=>?_) fun hc=>?_)
 ·have hi':i < links.length:=by omega
  have hgl:=c8q hi';have hgq:=c8q (show i < q.length by omega);generalize links[i]=l at hgl;generalize q[i]'_=t at hgq;have ht:=hq t (c8t hgq);have hlb:=lb l (c8t hgl);have hcan:=a6u ht (by decide);have hF':=(b3P (t:=G6 t) (l:=l) (show i < 3 by omega) hF hlb).2;have hn':Zb 256 n.x/\Zb 256 n.y/\Zb 262144 n.c/\Zb 262144 n.s:=⟨hF.x.mono (by omega),hF.y.mono (by omega),hF.cs.1,hF.cs.2⟩
  have hgc:(q.map G6)[i]?=some (G6 t):=by rw [c8x,hgq];rfl
  rw [drop_at (c7S hgl hgc),K9] at hg;have c1:=c5Q t (G6 t) rfl (ht.m rfl);have s1:=c5L t (G6 t) rfl (ht.m rfl);have bc:=c5V hcan;have bs':=c6a hcan;obtain ⟨t0,ht0⟩:∃ t0,G6 t=t0:=⟨_,rfl⟩
  rw [ht0] at c1 s1 bc bs' hF' hg hcan;generalize hCS:a9q t0=ct at *;generalize hSS:a9x t0=st at *;obtain ⟨nx,ny,nc,ns⟩:=n;obtain ⟨b1,b2,b3,b4⟩:=hn';simp only at b1 b2 b3 b4;have m1:=a1N nc ct (b3.m rfl) (bc.m rfl);have m2:=a1N ns st (b4.m rfl) (bs'.m rfl);have v1:=V7 b3 bc;have v2:=V7 b4 bs';have m3:=b6s _ _ (v1.m rfl) (v2.m rfl);have v3:=b1f v1 v2;have m4:=c2R _ (v3.m rfl);have v4:=b8U v3;have m5:=a1N ns ct (b4.m rfl) (bc.m rfl);have m6:=a1N nc st (b3.m rfl) (bs'.m rfl);have v5:=V7 b4 bc;have v6:=V7 b3 bs';have m7:=a4O _ _ (v5.m rfl) (v6.m rfl);have v7:=a3C v5 v6;have m8:=c2R _ (v7.m rfl);have v8:=b8U v7;have p1:=a3X hlb (by decide);have o1:=Y2 l.length (hlb.m rfl)
  rw [show Sp.mk (Nm.d9 l.length) (Nm.d9 l.length)=ptS l.length from rfl] at o1;have m9:=a1N (ptS l.length) _ (p1.m rfl) (v4.m rfl);have ma:=a1N (ptS l.length) _ (p1.m rfl) (v8.m rfl);have v9:=V7 p1 v4;have va:=V7 p1 v8;have mb:=a4O nx _ (b1.m rfl) (v9.m rfl);have mc:=a4O ny _ (b2.m rfl) (va.m rfl);have e1:a2K ⟨nx,ny,nc,ns⟩ t0=⟨nx,ny,a2l (a2L (I8 nc ct) (I8 ns st)),a2l (U8 (I8 ns ct) (I8 nc st))⟩:=by rw [<- hCS,<- hSS];rfl
  have e2:a7F (a2K ⟨nx,ny,nc,ns⟩ t0) l=⟨U8 nx (I8 (ptS l.length) (a2l (a2L (I8 nc ct) (I8 ns st)))),U8 ny (I8 (ptS l.length) (a2l (U8 (I8 ns ct) (I8 nc st)))),a2l (a2L (I8 nc ct) (I8 ns st)),a2l (U8 (I8 ns ct) (I8 nc st))⟩:=by rw [e1];rfl
  generalize a7F (a2K ⟨nx,ny,nc,ns⟩ t0) l=now' at *;generalize a2K ⟨nx,ny,nc,ns⟩ t0=next' at *;clear v1 v2 v3 v4 v5 v6 v7 v8 v9 va b1 b2 b3 b4 bc bs' hCS hSS p1 hF hgc ht0 hcan;generalize I8 nc ct=w1 at *;generalize I8 ns st=w2 at *;generalize I8 ns ct=w3 at *;generalize I8 nc st=w4 at *;generalize a2L w1 w2=w5 at *;generalize U8 w3 w4=w6 at *;generalize a2l w5=w7 at *;generalize a2l w6=w8 at *;generalize ptS l.length=w9 at *;generalize I8 w9 w7=wa at *;generalize I8 w9 w8=wb at *;generalize U8 nx wa=wc at *;generalize U8 ny wb=wd at *;subst e1 e2;have hqi:(i:Int) < q.length:=by omega
  simp only [Sp.c,Sn.c,Sn.enc,snQ,rc,sb] at c1 s1 m1 m2 m3 m4 m5 m6 m7 m8 o1 m9 ma mb mc
  (repeat first|refine uA ?_|(apply uK;· first|omega|(intros;simp_all<;>omega))|simp (disch:=omega) only [go_sem,Nat.reduceBEq,Nat.reduceAdd,ww,hgl,hgq,c8s,c8r,Lk.enc,Sn.enc,vts,sb,ho,c8u]|(refine uD c1 ?_ ?_ ?_;exact tz hw;rfl)|(refine uD s1 ?_ ?_ ?_;exact tz hw;rfl)|(refine uD m1 ?_ ?_ ?_;exact tz hw;rfl)|(refine uD m2 ?_ ?_ ?_;exact tz hw;rfl)|(refine uD m3 ?_ ?_ ?_;exact tz hw;rfl)|(refine uD m4 ?_ ?_ ?_;exact tz hw;rfl)|(refine uD m5 ?_ ?_ ?_;exact tz hw;rfl)|(refine uD m6 ?_ ?_ ?_;exact tz hw;rfl)|(refine uD m7 ?_ ?_ ?_;exact tz hw;rfl)|(refine uD m8 ?_ ?_ ?_;exact tz hw;rfl)|(refine uD o1 ?_ ?_ ?_;exact tz hw;rfl)|(refine uD m9 ?_ ?_ ?_;exact tz hw;rfl)|(refine uD ma ?_ ?_ ?_;exact tz hw;rfl)|(refine uD mb ?_ ?_ ?_;exact tz hw;rfl)|(refine uD mc ?_ ?_ ?_;exact tz hw;rfl))
  refine S.next (x:=(i,⟨nx,ny,nc,ns⟩,outs)) (i+1,⟨wc,wd,w7,w8⟩,outs++[⟨nx,ny,w7,w8⟩]) ⟨by simp only;omega,by simp only [c8A,ho];rfl,by simp only;rw [hg,c9j];rfl,hF'⟩ (by simp only;omega) (by simp only [c9i,c8K,c8O,Lq.enc,Sp.enc,Sn.enc,snQ,sb,List.cons_append,List.nil_append];exact (by repeat first|refine uA ?_|(refine ⟨?_,?_⟩;· first|rfl|simp [slot])|rfl|simp))
 ·rw [List.drop_eq_nil_of_le (by rw [List.length_zip,c8r];omega),K9] at hg;rw [hg];(repeat first|refine uA ?_|(apply uK;· first|omega|(intros;simp_all<;>omega))|simp (disch:=omega) only [go_sem,Nat.reduceBEq,Nat.reduceAdd,ww,c8r]);simp only [c9i,c8K,c8O,Lq.enc,Sp.enc,Sn.enc,snQ,sb,List.cons_append,List.nil_append];exact uQ rfl (Imp.tup (by (repeat' (first|exact j3.nil|exact Imp.refl rfl|exact Imp.frz rfl rfl rfl|exact Imp.I9|refine Imp.agg ?_|refine j3.cons ?_ ?_)))) rfl rfl
theorem b2y {f:Lq} {v:Vt} (hf:Zl 256 f) (h1:Rb 8 v.x) (h2:Rb 8 v.y):Zb 1200 (atX f v)/\Zb 1200 (atY f v):=by
 have p1:=a3X h1 (by decide);have p2:=a3X h2 (by decide);exact ⟨(a3C hf.1 (b1f (V7 p1 hf.2.2.1) (V7 p2 hf.2.2.2))).m rfl,(a3C hf.2.1 (a3C (V7 p1 hf.2.2.2) (V7 p2 hf.2.2.1))).m rfl⟩
theorem b4C {f:Lq} (hf:Zl 256 f):∀ (r:List Vt) (s:Sp × Sp),Zb 1200 s.1/\Zb 1200 s.2->(∀ v ∈ r,Rb 8 v.x/\Rb 8 v.y)->Zb 1200 (ptI f s r).1/\Zb 1200 (ptI f s r).2
 | [],_,h,_=>h
 | v::r,s,h,hr=>by
  have hv:=hr v (by simp);have ha:=b2y hf hv.1 hv.2;exact b4C hf r _ ⟨a3O h.1 ha.1,a3O h.2 ha.2⟩ fun u hu=>hr u (by simp [hu])
theorem b1J (a:Am) (q:List Sn) (hl:Ab 1073741824 a) (ha:H9 a=0) (hql:q.length=a.links.length) (hq:∀ r ∈ q,Zr 16000000 r):FZ 112 [a.c,.sl 6 (q.map Sn.enc)] (.tup [.sl 12 ((a1I a (q.map G6)).map Bq.enc),ints 0]):=by
 refine kW Tryz.func112 (by cbv) (by rfl) fun w O hw=>?_;have h:=b2m a q hl ha hql hq;have hn:(K9 (a0u a.base) (a.links.zip (q.map G6))).length<=1000:=by rw [a2r,List.length_zip,c8r];have:=(K4 ha).2;omega
 unfold a1I;generalize K9 (a0u a.base) (a.links.zip (q.map G6))=T at *;obtain ⟨name,base,links⟩:=a;simp only [j4];simp only [Am.c,Am.enc,Fr.enc,lks,sb,ints] at h ⊢;(repeat first|refine uA ?_|(apply uK;· first|omega|(intros;simp_all<;>omega))|simp (disch:=omega) only [go_sem,Nat.reduceBEq,Nat.reduceAdd,ww]|(refine uD h ?_ ?_ ?_;exact tz hw;rfl));refine S.loop (X:=Nat) (fun i=>⟨[(7,ints 0),(8,.rv 1),(17,.sl 24 (T.map Lq.enc)),(18,ints T.length),(19,ints i)],[.gone,.row 103 12 (((T.take i).map b0K).map Bq.enc)]⟩) (fun i=>i<=T.length) (fun i=>T.length-i) 0 (c8w _) (Ent.trans (Ent.pack 8 103 12 rfl) (by repeat first|refine uA ?_|(refine ⟨?_,?_⟩;· first|rfl|simp [slot])|rfl|simp)) ?_;intro i hi
 clear h;simp only [ints];(repeat first|refine uA ?_|(apply uK;· first|omega|(intros;simp_all<;>omega))|simp (disch:=omega) only [go_sem,Nat.reduceBEq,Nat.reduceAdd,ww]);(refine uJ rfl (fun hc=>?_) fun hc=>?_)
 ·have hi':i < T.length:=by omega
  have hg:=c8q hi';generalize T[i]=l at *;have hap:=take_at hg;have htl:(T.take i).length=i:=by rw [c8E];omega
  have o1:=c6P l;obtain ⟨⟨x1,x2⟩,⟨y1,y2⟩,⟨c1,c2⟩,⟨s1,s2⟩⟩:=l;simp only [b0K,Bq.enc,Lq.enc,Sp.enc,Sn.enc,snQ,sb,List.cons_append,List.nil_append] at o1;(repeat first|refine uA ?_|(apply uK;· first|omega|(intros;simp_all<;>omega))|simp (disch:=omega) only [go_sem,Nat.reduceBEq,Nat.reduceAdd,ww,hg,c8s,c8r,htl,Lq.enc,Sp.enc,Sn.enc,snQ,sb,List.cons_append,List.nil_append,c8u]|(refine uD o1 ?_ ?_ ?_;exact tz hw;rfl));refine S.next (i+1) (by omega) (by omega) (by simp only [hap,c9i,c8K,c8O,b0K,Bq.enc,sb];exact (by repeat first|refine uA ?_|(refine ⟨?_,?_⟩;· first|rfl|simp [slot])|rfl|simp))
 ·have hi':i=T.length:=by omega
  subst hi';rw [c8J];(repeat first|refine uA ?_|(apply uK;· first|omega|(intros;simp_all<;>omega))|simp (disch:=omega) only [go_sem,Nat.reduceBEq,Nat.reduceAdd,ww]);exact uQ rfl (Imp.tup (by (repeat' (first|exact j3.nil|exact Imp.refl rfl|exact Imp.frz rfl rfl rfl|exact Imp.I9|refine Imp.agg ?_|refine j3.cons ?_ ?_)))) rfl rfl
theorem a4w {E:Ctx} (hP:E.P=Tryz.prog) (ht0:Tz E) (a:Am) (q:List Sn) (hl:Ab 1073741824 a) (ha:H9 a=0) (hql:q.length=a.links.length) (hq:∀ r ∈ q,Zr 16000000 r):l7 E [] 111 [a.c,.sl 6 (q.map Sn.enc)] (.tup [.rv 1,ints 0]) [.gone,.row 103 12 ((a3e (K9 (a0u a.base) (a.links.zip (q.map G6))) a.links).map Bq.enc)] []:=by
 obtain ⟨P,eff',N,w0,own0,av0,nu0,pk0⟩:=E;simp only at hP;subst hP;refine l7.ofT (eff:=eff) ht0 Tryz.func111 (by cbv) (by exact c8G rfl) fun w' own av ν hν ht=>?_;have hν0:ν.length<=0:=by rw [hν];exact c8B _
 have h:=b2m a q hl ha hql hq;have hn:(K9 (a0u a.base) (a.links.zip (q.map G6))).length=a.links.length+1:=by rw [a2r,List.length_zip,c8r];omega
 have hb:=a7g (a.links.zip (q.map G6)) 0 (a0u a.base) (by rw [List.length_zip];have:=(K4 ha).2;omega) (by rw [List.length_zip,c8r];have:=(K4 ha).1;omega) (a9J ha) (fun z hz=>(a6f ha).2 _ (List.of_mem_zip hz).1);have hls:=fun l hm=>b0z ((M7 ha).2 l hm);have hn3:=(K4 ha).2;generalize K9 (a0u a.base) (a.links.zip (q.map G6))=T at *;have hRl:(a3e T a.links).length=a.links.length:=by unfold a3e;rw [c8r,List.length_zip];omega
 have hRg:∀ {i:Nat} {l:Lk} {f:Lq},a.links[i]?=some l->T[i]?=some f->(a3e T a.links)[i]?=some (shB f l):=fun h1 h2=>by
  unfold a3e;rw [c8x,J5 h1 h2];rfl
 generalize a3e T a.links=R at *;obtain ⟨name,base,links⟩:=a;simp only at hn hn3 hRl hRg hls;simp only [j4];simp only [Am.c,Am.enc,Fr.enc,lks,sb,ints] at h ⊢;(repeat first|refine uA ?_|(apply uK;· first|omega|(intros;simp_all<;>omega))|simp (disch:=omega) only [go_sem,Nat.reduceBEq,Nat.reduceAdd,ww]|(refine uD h ?_ ?_ ?_;exact ht;exact rfl));refine S.cond rfl (fun hc=>by simp at hc) (fun hc=>?_);(repeat first|refine uA ?_|(apply uK;· first|omega|(intros;simp_all<;>omega))|simp (disch:=omega) only [go_sem,Nat.reduceBEq,Nat.reduceAdd,ww,c8r])
 refine S.loop (X:=Nat) (fun i=>⟨[(6,.sl 24 (T.map Lq.enc)),(8,.rv 1),(27,lks links),(28,ints links.length),(29,ints i)],[.gone,.row 103 12 ((R.take i).map Bq.enc)]⟩) (fun i=>i<=links.length) (fun i=>links.length-i) 0 (c8w _) (Ent.trans (Ent.pack 8 103 12 rfl) (by repeat first|refine uA ?_|(refine ⟨?_,?_⟩;· first|rfl|simp [slot])|rfl|simp|exact c8y hν0 (by simp))) ?_;intro i hi;clear h;simp only [lks,ints];(repeat first|refine uA ?_|(apply uK;· first|omega|(intros;simp_all<;>omega))|simp (disch:=omega) only [go_sem,Nat.reduceBEq,Nat.reduceAdd,ww]);(refine uJ rfl (fun hc=>?_) fun hc=>?_)
 ·have hi':i < links.length:=by omega
  have hgl:=c8q hi';have hgf:=c8q (show i < T.length by omega);generalize links[i]=l at *;generalize T[i]'_=f at *;have hap:=take_at (hRg hgl hgf);have htl:(R.take i).length=i:=by rw [c8E];omega
  have bf:=hb f (c8t hgf);obtain ⟨s1,s2,s3⟩:=hls l (c8t hgl);unfold shB at hap;obtain ⟨len,low,high,spd,brk,shp⟩:=l;cases shp with
  | nil=>simp at s1
  | cons v r=>
  simp only [c8R] at s1 s2 s3 hap;have hv:=s3 v (by simp);have hr:=fun u hu=>s3 u (List.mem_cons_of_mem v hu);have o1:=b6d f v (bf.m rfl) (hv.1.m rfl) (hv.2.m rfl);have b1:=b2y bf hv.1 hv.2;have hat:=fun u hu=>b6d f u (bf.m rfl) ((hr u hu).1.m rfl) ((hr u hu).2.m rfl);have hab:=fun u hu=>b2y bf (hr u hu).1 (hr u hu).2;have hpb:=fun j=>b4C bf (r.take j) (atX f v,atY f v) b1 (fun u hu=>hr u (List.mem_of_mem_take hu));have hps:=fun j u=>c2C f (atX f v,atY f v) (r:=r) (i:=j) (v:=u);have hp0:ptI f (atX f v,atY f v) (r.take 0)=(atX f v,atY f v):=rfl;have hpe:ptI f (atX f v,atY f v) r=ptI f (atX f v,atY f v) (r.take r.length):=by rw [c8J]
  rw [hpe] at hap;generalize hP:(fun j=>ptI f (atX f v,atY f v) (r.take j))=P;have hPj:∀ j,ptI f (atX f v,atY f v) (r.take j)=P j:=fun j=>by rw [<- hP]
  simp only [hPj] at hpb hps hp0 hap;clear hP hPj hpe hls hRg b1 hv hr bf s3;simp only [Vt.enc,Lq.enc,Sp.enc,Sp.c,Sn.c,Sn.enc,snQ,sb,List.cons_append,List.nil_append] at o1;(repeat first|refine uA ?_|(apply uK;· first|omega|(intros;simp_all<;>omega))|simp (disch:=omega) only [go_sem,Nat.reduceBEq,Nat.reduceAdd,ww,hgl,hgf,c8s,c8r,Lk.enc,Lq.enc,Sp.enc,Sn.enc,snQ,vts,Vt.enc,sb,c8K,c8R,List.getElem?_cons_zero,List.cons_append,List.nil_append,Nat.add_sub_cancel,c8J,c8u,Int.toNat_zero]|(refine uD o1 ?_ ?_ ?_;exact ht;exact rfl))
  refine S.loop (X:=Nat) (fun j=>⟨[(6,.sl 24 (T.map Lq.enc)),(8,.rv 1),(9,ints i),(11,.bp 3 0),(12,.bp 4 0),(27,lks links),(28,ints links.length),(29,ints i),(48,vts r),(49,ints r.length),(50,ints j)],[.gone,.row 103 12 ((R.take i).map Bq.enc),.gone,.box 98 (P j).1.enc,.box 98 (P j).2.enc]⟩) (fun j=>j<=r.length) (fun j=>r.length-j) 0 (c8w _) (by rw [hp0];simp only [Sp.enc,Sn.enc,snQ,sb];exact (by repeat first|refine uA ?_|(refine ⟨?_,?_⟩;· first|rfl|simp [slot])|rfl|simp|exact c8y hν0 (by simp))) ?_;intro j hj;clear o1 hp0;simp only [lks,vts,ints,Sp.enc,Sn.enc,snQ,sb]
  (repeat first|refine uA ?_|(apply uK;· first|omega|(intros;simp_all<;>omega))|simp (disch:=omega) only [go_sem,Nat.reduceBEq,Nat.reduceAdd,ww]);(refine uJ rfl (fun hc=>?_) fun hc=>?_)
  ·have hj':j < r.length:=by omega
   have hgu:=c8q hj';generalize r[j]=u at *;have hu:=c8t hgu;have k1:=hat u hu;have k2:=a5s (P j).1 (atX f u) ((hpb j).1.m rfl) ((hab u hu).1.m rfl);have k3:=a5s (P j).2 (atY f u) ((hpb j).2.m rfl) ((hab u hu).2.m rfl);have hs:=hps j u hgu;clear hat hab hpb hps;generalize O4 (P j).1 (atX f u)=y1 at *;generalize O4 (P j).2 (atY f u)=y2 at *;generalize atX f u=y3 at *;generalize atY f u=y4 at *;simp only [Vt.enc,Lq.enc,Sp.enc,Sp.c,Sn.c,Sn.enc,snQ,sb,List.cons_append,List.nil_append] at k1 k2 k3
   (repeat first|refine uA ?_|(apply uK;· first|omega|(intros;simp_all<;>omega))|simp (disch:=omega) only [go_sem,Nat.reduceBEq,Nat.reduceAdd,ww,hgu,hgf,c8s,c8r,Lk.enc,Lq.enc,Sp.enc,Sn.enc,snQ,vts,Vt.enc,sb,c8K,c8R,List.getElem?_cons_zero,List.cons_append,List.nil_append,Nat.add_sub_cancel,c8J,c8u,Int.toNat_zero]|(refine uD k1 ?_ ?_ ?_;exact ht;exact rfl)|(refine uD k2 ?_ ?_ ?_;exact ht;exact rfl)|(refine uD k3 ?_ ?_ ?_;exact ht;exact rfl));refine S.next (j+1) (by omega) (by omega) (by rw [hs];simp only [Sp.enc,Sn.enc,snQ,sb];exact (by repeat first|refine uA ?_|(refine ⟨?_,?_⟩;· first|rfl|simp [slot])|rfl|simp|exact c8y hν0 (by simp)))
  ·have hj':j=r.length:=by omega
   subst hj';have k:=c6f (P r.length).1 (P r.length).2;generalize P r.length=p at *;simp only [Bq.enc,Sp.enc,Sn.enc,snQ,sb,List.cons_append,List.nil_append] at k;(repeat first|refine uA ?_|(apply uK;· first|omega|(intros;simp_all<;>omega))|simp (disch:=omega) only [go_sem,Nat.reduceBEq,Nat.reduceAdd,ww,htl,c8r,Lk.enc,Lq.enc,Sp.enc,Sn.enc,snQ,vts,Vt.enc,sb,c8K,c8R,List.getElem?_cons_zero,List.cons_append,List.nil_append,Nat.add_sub_cancel,c8J,c8u,Int.toNat_zero]|(refine uD k ?_ ?_ ?_;exact ht;exact rfl))
   refine S.next (i+1) (by omega) (by omega) (by simp only [hap,c9i,c8K,c8O,Bq.enc,sb];exact (by repeat first|refine uA ?_|(refine ⟨?_,?_⟩;· first|rfl|simp [slot])|rfl|simp|exact c8y hν0 (by simp)))
 ·have hi':i=links.length:=by omega
  subst hi';rw [c8P (by omega)];(repeat first|refine uA ?_|(apply uK;· first|omega|(intros;simp_all<;>omega))|simp (disch:=omega) only [go_sem,Nat.reduceBEq,Nat.reduceAdd,ww]);exact uR rfl (Imp.tup (by repeat' first|exact j3.nil|exact Imp.refl rfl|apply j3.cons)) (by repeat first|refine uA ?_|(refine ⟨?_,?_⟩;· first|rfl|simp [slot])|rfl|simp) (c8y hν0 (by simp))
theorem b6h {a:Am} {q:List Sn} (hql:q.length=a.links.length) (ha:H9 a=0) (hq:∀ r ∈ q,Zr 16000000 r):∀ b ∈ a1P a (q.map G6),Bb 1200 b:=fun b hb=>by
 have hT:=a7g (a.links.zip (q.map G6)) 0 (a0u a.base) (by rw [List.length_zip];have:=(K4 ha).2;omega) (by rw [List.length_zip,c8r];have:=(K4 ha).1;omega) (a9J ha) (fun z hz=>(a6f ha).2 _ (List.of_mem_zip hz).1);obtain ⟨z,hz,rfl⟩:=List.mem_map.1 hb;have hl:=(List.of_mem_zip hz).1;have hf:=hT _ (List.of_mem_zip hz).2;obtain ⟨s1,s2,s3⟩:=b0z ((M7 ha).2 _ hl);unfold shB;split
 ·rename_i he;rw [he] at s1;simp at s1
 ·rename_i v r he;have hp:=b4C hf r (atX z.2 v,atY z.2 v) (b2y hf (s3 v (by rw [he];simp)).1 (s3 v (by rw [he];simp)).2) (fun u hu=>s3 u (by rw [he];exact List.mem_cons_of_mem v hu));exact ⟨hp.1.1,hp.2.1,hp.1.2,hp.2.2⟩
theorem b0R {a:Am} {q:List Sn} (ha:H9 a=0) (hql:q.length=a.links.length) (hq:∀ r ∈ q,Zr 16000000 r):Bb 256 (a6Q a (q.map G6)):=by
 have hT:=a7g (a.links.zip (q.map G6)) 0 (a0u a.base) (by rw [List.length_zip];have:=(K4 ha).2;omega) (by rw [List.length_zip,c8r];have:=(K4 ha).1;omega) (a9J ha) (fun z hz=>(a6f ha).2 _ (List.of_mem_zip hz).1);have hm:=c8t (a8z (a:=a) (Q:=q.map G6) (by rw [c8r];exact hql)).1;unfold a1I at hm;obtain ⟨f,hf,he⟩:=List.mem_map.1 hm;have hz:=hT f hf;rw [<- he];exact ⟨hz.1.1,hz.2.1.1,hz.1.2,hz.2.1.2⟩
theorem b7G (w:Wk) (n:Nat) (a:Am) (q:List Sn) (hwb:Wb 1073741824 w) (ga:w.arms[n]?=some a) (ha:H9 a=0) (hql:q.length=a.links.length) (hq:∀ r ∈ q,Zr 16000000 r) :
  FZ 41 [w.c,ints n,ints (-1),.sl 6 (q.map Sn.enc)] (.tup [.sl 12 ((a1P a (q.map G6)).map Bq.enc),ints 0]):=by
 refine kW Tryz.func41 (by cbv) (by rfl) fun w' O hw=>?_;have hl:=hwb.arms.2 a (c8t ga);have h:=fun (E:Ctx) (hP:E.P=Tryz.prog) (ht:Tz E)=>a4w hP ht a q hl ha hql hq;have hn:=(c8v.1 ga).1;have n1:=hwb.arms.1;have n2:=hwb.parts.1;change ∀ E:Ctx,E.P=Tryz.prog->Tz E->l7 E [] 111 [a.c,.sl 6 (q.map Sn.enc)] (.tup [.rv 1,ints 0]) [.gone,.row 103 12 ((a1P a (q.map G6)).map Bq.enc)] [] at h;generalize a1P a (q.map G6)=R at *;obtain ⟨arms,walls,parts,slots,gates,walk⟩:=w;obtain ⟨name,⟨bx,by',half,tu⟩,links⟩:=a;simp only at ga hn n1 n2;have e1:decide ((n:Int) < 0)=false:=decide_eq_false (by omega);have e2:decide ((arms.length:Int)<=(n:Int))=false:=decide_eq_false (by omega)
 have e3:decide ((parts.length:Int)<=-1)=false:=decide_eq_false (by omega);simp only [j4];simp only [Wk.c,Wk.enc,Am.c,Am.enc,Fr.enc,ams,wls,pts,sls,gts,lks,sb,ints] at h ⊢;(repeat first|refine uA ?_|(apply uK;· first|omega|(intros;simp_all<;>omega))|simp (disch:=omega) only [go_sem,Nat.reduceBEq,Nat.reduceAdd,ww,c8r,e1,e2,e3]);refine S.cond rfl (fun hc=>by simp at hc) (fun hc=>?_);(repeat first|refine uA ?_|(apply uK;· first|omega|(intros;simp_all<;>omega))|simp (disch:=omega) only [go_sem,Nat.reduceBEq,Nat.reduceAdd,ww,C.sh,C.shL,c8R,List.length_nil,c8r,c8x,ga,c8s,c8u,Am.enc,Fr.enc,lks,sb]|refine l9.t (l7.pre (h _ rfl ⟨hw,id⟩) rfl rfl rfl) ?_)
 refine S.cond rfl (fun hc=>?_) (fun hc=>by simp at hc);(repeat first|refine uA ?_|(apply uK;· first|omega|(intros;simp_all<;>omega))|simp (disch:=omega) only [go_sem,Nat.reduceBEq,Nat.reduceAdd,ww]);exact uQ rfl (Imp.tup (by (repeat' (first|exact j3.nil|exact Imp.refl rfl|exact Imp.frz rfl rfl rfl|exact Imp.I9|refine Imp.agg ?_|refine j3.cons ?_ ?_)))) rfl rfl
theorem b6Y (w:Wk) (n k:Nat) (a:Am) (p:Pt) (q:List Sn) (hwb:Wb 1048576 w) (ga:w.arms[n]?=some a) (gp:w.parts[k]?=some p) (ha:H9 a=0) (hql:q.length=a.links.length) (hq:∀ r ∈ q,Zr 16000000 r) :
  FZ 41 [w.c,ints n,ints k,.sl 6 (q.map Sn.enc)] (.tup [.sl 12 ((a1P a (q.map G6)++[a0b (a6Q a (q.map G6)) (a1B p.grasp p.shape)]).map Bq.enc),ints 0]):=by
 refine kW Tryz.func41 (by cbv) (by rfl) fun w' O hw=>?_;have hl:=(hwb.mono (show 1048576<=1073741824 by decide)).arms.2 a (c8t ga);have h:=fun (E:Ctx) (hP:E.P=Tryz.prog) (ht:Tz E)=>a4w hP ht a q hl ha hql hq;have hn:=(c8v.1 ga).1;have hk:=(c8v.1 gp).1;have n1:=hwb.arms.1;have n2:=hwb.parts.1;obtain ⟨pn,ps,pg⟩:=hwb.parts.2 p (c8t gp);have hf:=b1J a q hl ha hql hq;obtain ⟨ht1,ht2⟩:=a8z (a:=a) (Q:=q.map G6) (by rw [c8r];exact hql);have htb:=b0R ha hql hq;have hal:=(K4 ha).2;have hRl:=a9F (a:=a) (q:=q.map G6) (by rw [c8r];exact hql);have hz:=a1q
 change ∀ E:Ctx,E.P=Tryz.prog->Tz E->l7 E [] 111 [a.c,.sl 6 (q.map Sn.enc)] (.tup [.rv 1,ints 0]) [.gone,.row 103 12 ((a1P a (q.map G6)).map Bq.enc)] [] at h;generalize a1P a (q.map G6)=R at *;generalize a1I a (q.map G6)=T at *;generalize a6Q a (q.map G6)=tip at *;obtain ⟨arms,walls,parts,slots,gates,walk⟩:=w;obtain ⟨name,⟨bx,by',half,tu⟩,links⟩:=a;obtain ⟨pname,shp,⟨gx,gy,gh,gt⟩⟩:=p;simp only at ga gp hn hk n1 n2 ht1 ht2 hal hRl pn ps pg ⊢;have hsl:shp.length<=1048576:=ps.1;have hfb:=fun i=>a9V (g:=⟨gx,gy,gh,gt⟩) pg.1 pg.2.1 (shp.take i) 0 (fun v hv=>ps.2 v (List.mem_of_mem_take hv)) (O8.m rfl);change ∀ i,Rb 4194400 (Nm.ofQ (a1B ⟨gx,gy,gh,gt⟩ (shp.take i))) at hfb
 have hfn:=fun (i:Nat) (c:Vt) (h:shp[i]?=some c)=>b1G ⟨gx,gy,gh,gt⟩ h;have hf0:a1B ⟨gx,gy,gh,gt⟩ (shp.take 0)=0:=rfl;have hfe:a1B ⟨gx,gy,gh,gt⟩ shp=a1B ⟨gx,gy,gh,gt⟩ (shp.take shp.length):=by rw [c8J]
 rw [hfe];generalize hF:(fun i=>a1B ⟨gx,gy,gh,gt⟩ (shp.take i))=F;have hFi:∀ i,a1B ⟨gx,gy,gh,gt⟩ (shp.take i)=F i:=fun i=>by rw [<- hF]
 simp only [hFi] at hfb hfn hf0 ⊢;clear hF hFi hfe;have e1:decide ((n:Int) < 0)=false:=decide_eq_false (by omega);have e2:decide ((arms.length:Int)<=(n:Int))=false:=decide_eq_false (by omega);have e3:decide ((parts.length:Int)<=(k:Int))=false:=decide_eq_false (by omega);have e4:decide ((k:Int) < -1)=false:=decide_eq_false (by omega);have e5:decide ((k:Int) < 0)=false:=decide_eq_false (by omega);have e6:decide ((T.length:Int)=0)=false:=decide_eq_false (by omega);simp only [j4];simp only [Wk.c,Wk.enc,Am.c,Am.enc,Fr.enc,ams,wls,pts,sls,gts,lks,sb,ints] at h hf ⊢
 (repeat first|refine uA ?_|(apply uK;· first|omega|(intros;simp_all<;>omega))|simp (disch:=omega) only [go_sem,Nat.reduceBEq,Nat.reduceAdd,ww,c8r,e1,e2,e3,e4]);refine S.cond rfl (fun hc=>by simp at hc) (fun hc=>?_);(repeat first|refine uA ?_|(apply uK;· first|omega|(intros;simp_all<;>omega))|simp (disch:=omega) only [go_sem,Nat.reduceBEq,Nat.reduceAdd,ww,C.sh,C.shL,c8R,List.length_nil,c8r,c8x,ga,c8s,c8u,Am.enc,Fr.enc,lks,sb,e5]|refine l9.t (l7.pre (h _ rfl ⟨hw,id⟩) rfl rfl rfl) ?_);refine S.cond rfl (fun hc=>by simp [e5] at hc) (fun hc=>?_)
 (repeat first|refine uA ?_|(apply uK;· first|omega|(intros;simp_all<;>omega))|simp (disch:=omega) only [go_sem,Nat.reduceBEq,Nat.reduceAdd,ww,c8r,c8x,ga,c8s,c8u,Am.enc,Fr.enc,lks,sb,e6]|(refine uD hf ?_ ?_ ?_;exact tz hw;rfl));refine S.cond rfl (fun hc=>by simp [e6] at hc) (fun hc=>?_);unfold rq at hz;simp only [rc,sb] at hz;(repeat first|refine uA ?_|(apply uK;· first|omega|(intros;simp_all<;>omega))|simp (disch:=omega) only [go_sem,Nat.reduceBEq,Nat.reduceAdd,ww,c8r,c8x,gp,c8s,c8u,Pt.enc,Fr.enc,vts,sb]|(refine uD hz ?_ ?_ ?_;exact tz hw;rfl))
 refine S.loop (X:=Nat) (fun i=>⟨[(10,.rv 2),(12,.sl 12 (T.map Bq.enc)),(13,.bp 3 0),(14,.bp 4 0),(81,vts shp),(82,ints shp.length),(83,ints i)],[.gone,.gone,.row 103 12 (R.map Bq.enc),.box 141 (Pt.mk pname shp ⟨gx,gy,gh,gt⟩).enc,.box 28 (rcs (Nm.ofQ (F i)))]⟩) (fun i=>i<=shp.length) (fun i=>shp.length-i) 0 (c8w _) (by rw [hf0];simp only [Pt.enc,Fr.enc,vts,rcs,sb];exact (by repeat first|refine uA ?_|(refine ⟨?_,?_⟩;· first|rfl|simp [slot])|rfl|simp)) ?_;intro i hi;clear h hf hz hf0;simp only [Pt.enc,Fr.enc,vts,rcs,sb,ints];(repeat first|refine uA ?_|(apply uK;· first|omega|(intros;simp_all<;>omega))|simp (disch:=omega) only [go_sem,Nat.reduceBEq,Nat.reduceAdd,ww])
 (refine uJ rfl (fun hc=>?_) fun hc=>?_)
 ·have hi':i < shp.length:=by omega
  have hg:=c8q hi';generalize shp[i]=c at hg;have hc2:=ps.2 c (c8t hg);have hn2:=hfn i c hg;have hb:=hfb i;have b1:=F9 (hc2.1.g rfl) (pg.1.g rfl);have b2:=F9 (hc2.2.g rfl) (pg.2.1.g rfl);have b3:=I5 (X5 b1) (X5 b2);have o1:=a4e c.x gx (hc2.1.m rfl) (pg.1.m rfl);have o2:=a4e c.y gy (hc2.2.m rfl) (pg.2.1.m rfl);have o3:=a4H (Nm.ofQ (Nm.d9 c.x-Nm.d9 gx)) (b1.m rfl);have o4:=a4H (Nm.ofQ (Nm.d9 c.y-Nm.d9 gy)) (b2.m rfl);rw [Nm.l6] at o3 o4;have o5:=a1p (q9 (Nm.d9 c.x-Nm.d9 gx)) (q9 (Nm.d9 c.y-Nm.d9 gy)) ((X5 b1).m rfl) ((X5 b2).m rfl);have o6:=a3q (Nm.ofQ (F i)) (Nm.ofQ (q9 (Nm.d9 c.x-Nm.d9 gx)+q9 (Nm.d9 c.y-Nm.d9 gy))) (hb.m rfl) (b3.m rfl);rw [Nm.l6,Nm.l6,<- hn2] at o6
  clear hn2 hb b1 b2 b3 hc2 hfn hfb;generalize Nm.d9 c.x-Nm.d9 gx=d1 at *;generalize Nm.d9 c.y-Nm.d9 gy=d2 at *;generalize q9 d1+q9 d2=d5 at *;generalize q9 d1=d3 at *;generalize q9 d2=d4 at *;generalize F i=f0 at *;generalize hF1:F (i+1)=f1 at *;obtain ⟨cx,cy⟩:=c;simp only [rq,rc,sb] at o1 o2 o3 o4 o5 o6;(repeat first|refine uI ?_|(apply uK;· first|omega|(intros;simp_all<;>omega))|simp (disch:=omega) only [go_sem,Nat.reduceBEq,Nat.reduceAdd,ww,hg,c8s,c8r,c8x,Vt.enc,sb,c8u])
  refine S.X4 [.gone,.gone,.gone,.box 141 [.v (.string (bs pname)),.sl 6 (shp.map Vt.enc),.v (.bool gx.neg),.v (.string (bs gx.num)),.v (.string (bs gx.den)),.v (.bool gy.neg),.v (.string (bs gy.num)),.v (.string (bs gy.den)),.v (.bool gh),.v (.bool gt.neg),.v (.string (bs gt.num)),.v (.string (bs gt.den))],.gone,.box 73 [.v (.bool cx.neg),.v (.string (bs cx.num)),.v (.string (bs cx.den)),.v (.bool cy.neg),.v (.string (bs cy.num)),.v (.string (bs cy.den))]] (by simp [Eng.F3,Eng.E5]) ?_
  (repeat first|refine uA ?_|(apply uK;· first|omega|(intros;simp_all<;>omega))|simp (disch:=omega) only [go_sem,Nat.reduceBEq,Nat.reduceAdd,ww,F3,Eng.E5]|(refine uD o1 ?_ ?_ ?_;exact tz hw;rfl)|(refine uD o3 ?_ ?_ ?_;exact tz hw;rfl)|(refine uD o2 ?_ ?_ ?_;exact tz hw;rfl)|(refine uD o4 ?_ ?_ ?_;exact tz hw;rfl)|(refine uD o5 ?_ ?_ ?_;exact tz hw;rfl)|(refine uD o6 ?_ ?_ ?_;exact tz hw;rfl));refine S.next (i+1) (by omega) (by omega) (by rw [hF1];exact (by repeat first|refine uA ?_|(refine ⟨?_,?_⟩;· first|rfl|simp [slot])|rfl|simp))
 have hi':i=shp.length:=by omega
 subst hi';have o7:=c5k tip (F shp.length) ⟨htb.1.m rfl,htb.2.1.m rfl,htb.2.2.1.m rfl,htb.2.2.2.m rfl⟩ ((hfb _).m rfl);clear hfb hfn;generalize F shp.length=f0 at *;generalize a0b tip f0=gb at *;have e7:((T.length:Int)-1).toNat=links.length:=by omega
 have e8:(0:Int)<=(T.length:Int)-1/\(T.length:Int)-1 < T.length:=by omega
 obtain ⟨tx,ty,tx2,ty2⟩:=tip;obtain ⟨g1,g2,g3,g4⟩:=gb;simp only [Bq.enc,rq,rc,sb] at o7;(repeat first|refine uI ?_|(apply uK;· first|omega|(intros;simp_all<;>omega))|simp (disch:=omega) only [go_sem,Nat.reduceBEq,Nat.reduceAdd,ww]);refine S.X4 [.gone,.gone,.gone,.gone,.box 28 [.v (.bool (Nm.ofQ f0).neg),.v (.string (bs (Nm.ofQ f0).num)),.v (.string (bs (Nm.ofQ f0).den))]] (by simp [Eng.F3,Eng.E5]) ?_;(repeat first|refine uA ?_|(apply uK;· first|omega|(intros;simp_all<;>omega))|simp (disch:=omega) only [go_sem,Nat.reduceBEq,Nat.reduceAdd,ww,F3,Eng.E5,c8r,c8x,ht1,e7,c8s,Bq.enc,sb]|(refine uD o7 ?_ ?_ ?_;exact tz hw;rfl));simp only [c9i,c8K,c8O,Bq.enc,sb]
 exact uQ rfl (Imp.tup (by (repeat' (first|exact j3.nil|exact Imp.refl rfl|exact Imp.frz rfl rfl rfl|exact Imp.I9|refine Imp.agg ?_|refine j3.cons ?_ ?_)))) rfl rfl
theorem b7y (w:Wk) (n:Nat) (a:Am) (q:List Sn) (hwb:Wb 1073741824 w) (ga:w.arms[n]?=some a) (ha:H9 a=0) (hql:q.length=a.links.length) (hq:∀ r ∈ q,Zr 16000000 r) :
  FZ 67 [w.c,ints n,ints (-1),.sl 6 (q.map Sn.enc)] (.tup [.sl 12 ((a1P a (q.map G6)).map Bq.enc),ints 0]):=by
 refine Z6.of (eff:=c5T) Tryz.func67 (by cbv) (by exact c8G rfl) fun w' O hw=>?_;have hl:=hwb.arms.2 a (c8t ga);have h:=fun (E:Ctx) (hP:E.P=Tryz.prog) (ht:Tz E)=>a4w hP ht a q hl ha hql hq;have hn:=(c8v.1 ga).1;have n1:=hwb.arms.1;change ∀ E:Ctx,E.P=Tryz.prog->Tz E->l7 E [] 111 [a.c,.sl 6 (q.map Sn.enc)] (.tup [.rv 1,ints 0]) [.gone,.row 103 12 ((a1P a (q.map G6)).map Bq.enc)] [] at h;generalize a1P a (q.map G6)=R at *;obtain ⟨arms,walls,parts,slots,gates,walk⟩:=w;obtain ⟨name,⟨bx,by',half,tu⟩,links⟩:=a;simp only at ga hn n1;simp only [j4];simp only [Wk.c,Wk.enc,Am.c,Am.enc,Fr.enc,ams,wls,pts,sls,gts,lks,sb,ints] at h ⊢
 (repeat first|refine uA ?_|(apply uK;· first|omega|(intros;simp_all<;>omega))|simp (disch:=omega) only [go_sem,Nat.reduceBEq,Nat.reduceAdd,ww,C.sh,C.shL,c8R,List.length_nil,c8r,c8x,ga,c8s,c8u,Am.enc,Fr.enc,lks,sb]|refine l9.t (l7.pre (h _ rfl ⟨hw,id⟩) rfl rfl rfl) ?_);refine S.cond rfl (fun hc=>by simp at hc) (fun hc=>?_);(repeat first|refine uA ?_|(apply uK;· first|omega|(intros;simp_all<;>omega))|simp (disch:=omega) only [go_sem,Nat.reduceBEq,Nat.reduceAdd,ww]);refine S.cond rfl (fun hc=>?_) (fun hc=>by simp at hc);(repeat first|refine uA ?_|(apply uK;· first|omega|(intros;simp_all<;>omega))|simp (disch:=omega) only [go_sem,Nat.reduceBEq,Nat.reduceAdd,ww])
 exact uQ rfl (Imp.tup (by (repeat' (first|exact j3.nil|exact Imp.refl rfl|exact Imp.frz rfl rfl rfl|exact Imp.I9|refine Imp.agg ?_|refine j3.cons ?_ ?_)))) rfl rfl
theorem b6W (w:Wk) (n k:Nat) (a:Am) (p:Pt) (q:List Sn) (hwb:Wb 1048576 w) (ga:w.arms[n]?=some a) (gp:w.parts[k]?=some p) (ha:H9 a=0) (hql:q.length=a.links.length) (hq:∀ r ∈ q,Zr 16000000 r) :
  FZ 67 [w.c,ints n,ints k,.sl 6 (q.map Sn.enc)] (.tup [.sl 12 ((a1P a (q.map G6)++[a0b (a6Q a (q.map G6)) (a1B p.grasp p.shape)]).map Bq.enc),ints 0]):=by
 refine Z6.of (eff:=c5T) Tryz.func67 (by cbv) (by exact c8G rfl) fun w' O hw=>?_;have hl:=(hwb.mono (show 1048576<=1073741824 by decide)).arms.2 a (c8t ga);have h:=fun (E:Ctx) (hP:E.P=Tryz.prog) (ht:Tz E)=>a4w hP ht a q hl ha hql hq;have hn:=(c8v.1 ga).1;have hk:=(c8v.1 gp).1;have n1:=hwb.arms.1;have n2:=hwb.parts.1;obtain ⟨pn,ps,pg⟩:=hwb.parts.2 p (c8t gp);have hf:=b1J a q hl ha hql hq;obtain ⟨ht1,ht2⟩:=a8z (a:=a) (Q:=q.map G6) (by rw [c8r];exact hql);have htb:=b0R ha hql hq;have hal:=(K4 ha).2;have hRl:=a9F (a:=a) (q:=q.map G6) (by rw [c8r];exact hql);have hz:=a1q
 change ∀ E:Ctx,E.P=Tryz.prog->Tz E->l7 E [] 111 [a.c,.sl 6 (q.map Sn.enc)] (.tup [.rv 1,ints 0]) [.gone,.row 103 12 ((a1P a (q.map G6)).map Bq.enc)] [] at h;generalize a1P a (q.map G6)=R at *;generalize a1I a (q.map G6)=T at *;generalize a6Q a (q.map G6)=tip at *;obtain ⟨arms,walls,parts,slots,gates,walk⟩:=w;obtain ⟨name,⟨bx,by',half,tu⟩,links⟩:=a;obtain ⟨pname,shp,⟨gx,gy,gh,gt⟩⟩:=p;simp only at ga gp hn hk n1 n2 ht1 ht2 hal hRl pn ps pg ⊢;have hsl:shp.length<=1048576:=ps.1;have hfb:=fun i=>a9V (g:=⟨gx,gy,gh,gt⟩) pg.1 pg.2.1 (shp.take i) 0 (fun v hv=>ps.2 v (List.mem_of_mem_take hv)) (O8.m rfl);change ∀ i,Rb 4194400 (Nm.ofQ (a1B ⟨gx,gy,gh,gt⟩ (shp.take i))) at hfb
 have hfn:=fun (i:Nat) (c:Vt) (h:shp[i]?=some c)=>b1G ⟨gx,gy,gh,gt⟩ h;have hf0:a1B ⟨gx,gy,gh,gt⟩ (shp.take 0)=0:=rfl;have hfe:a1B ⟨gx,gy,gh,gt⟩ shp=a1B ⟨gx,gy,gh,gt⟩ (shp.take shp.length):=by rw [c8J]
 rw [hfe];generalize hF:(fun i=>a1B ⟨gx,gy,gh,gt⟩ (shp.take i))=F;have hFi:∀ i,a1B ⟨gx,gy,gh,gt⟩ (shp.take i)=F i:=fun i=>by rw [<- hF]
 simp only [hFi] at hfb hfn hf0 ⊢;clear hF hFi hfe;have e5:decide ((k:Int) < 0)=false:=decide_eq_false (by omega);have e6:decide ((T.length:Int)=0)=false:=decide_eq_false (by omega);simp only [j4];simp only [Wk.c,Wk.enc,Am.c,Am.enc,Fr.enc,ams,wls,pts,sls,gts,lks,sb,ints] at h hf ⊢;(repeat first|refine uA ?_|(apply uK;· first|omega|(intros;simp_all<;>omega))|simp (disch:=omega) only [go_sem,Nat.reduceBEq,Nat.reduceAdd,ww,C.sh,C.shL,c8R,List.length_nil,c8r,c8x,ga,c8s,c8u,Am.enc,Fr.enc,lks,sb]|refine l9.t (l7.pre (h _ rfl ⟨hw,id⟩) rfl rfl rfl) ?_);refine S.cond rfl (fun hc=>by simp at hc) (fun hc=>?_)
 (repeat first|refine uA ?_|(apply uK;· first|omega|(intros;simp_all<;>omega))|simp (disch:=omega) only [go_sem,Nat.reduceBEq,Nat.reduceAdd,ww]);refine S.cond rfl (fun hc=>by simp [e5] at hc) (fun hc=>?_);(repeat first|refine uA ?_|(apply uK;· first|omega|(intros;simp_all<;>omega))|simp (disch:=omega) only [go_sem,Nat.reduceBEq,Nat.reduceAdd,ww,c8r,c8x,ga,c8s,c8u,Am.enc,Fr.enc,lks,sb,e6]|(refine uD hf ?_ ?_ ?_;exact tz hw;rfl));refine S.cond rfl (fun hc=>by simp [e6] at hc) (fun hc=>?_);unfold rq at hz;simp only [rc,sb] at hz
 (repeat first|refine uA ?_|(apply uK;· first|omega|(intros;simp_all<;>omega))|simp (disch:=omega) only [go_sem,Nat.reduceBEq,Nat.reduceAdd,ww,c8r,c8x,gp,c8s,c8u,Pt.enc,Fr.enc,vts,sb]|(refine uD hz ?_ ?_ ?_;exact tz hw;rfl))
 refine S.loop (X:=Nat) (fun i=>⟨[(2,ints k),(4,.bp 0 0),(10,.rv 2),(12,.sl 12 (T.map Bq.enc)),(13,.bp 3 0),(58,vts shp),(59,ints shp.length),(60,ints i)],[.box 30 [ams arms,wls walls,pts parts,sls slots,gts gates,.v (.bool walk.neg),sb walk.num,sb walk.den],.gone,.row 103 12 (R.map Bq.enc),.box 28 (rcs (Nm.ofQ (F i)))]⟩) (fun i=>i<=shp.length) (fun i=>shp.length-i) 0 (c8w _) (by rw [hf0];simp only [ams,wls,pts,sls,gts,vts,rcs,sb,ints];exact (by repeat first|refine uA ?_|(refine ⟨?_,?_⟩;· first|rfl|simp [slot])|rfl|simp)) ?_;intro i hi;clear h hf hz hf0;simp only [ams,wls,pts,sls,gts,vts,rcs,sb,ints]
 (repeat first|refine uA ?_|(apply uK;· first|omega|(intros;simp_all<;>omega))|simp (disch:=omega) only [go_sem,Nat.reduceBEq,Nat.reduceAdd,ww]);(refine uJ rfl (fun hc=>?_) fun hc=>?_)
 ·have hi':i < shp.length:=by omega
  have hg:=c8q hi';generalize shp[i]=c at hg;have hc2:=ps.2 c (c8t hg);have hn2:=hfn i c hg;have hb:=hfb i;have b1:=F9 (hc2.1.g rfl) (pg.1.g rfl);have b2:=F9 (hc2.2.g rfl) (pg.2.1.g rfl);have b3:=I5 (X5 b1) (X5 b2);have o1:=a2E c.x c.y gx gy (hc2.1.m rfl) (hc2.2.m rfl) (pg.1.m rfl) (pg.2.1.m rfl);have o3:=a4H (Nm.ofQ (Nm.d9 c.x-Nm.d9 gx)) (b1.m rfl);have o4:=a4H (Nm.ofQ (Nm.d9 c.y-Nm.d9 gy)) (b2.m rfl);rw [Nm.l6] at o3 o4;have o5:=a1p (q9 (Nm.d9 c.x-Nm.d9 gx)) (q9 (Nm.d9 c.y-Nm.d9 gy)) ((X5 b1).m rfl) ((X5 b2).m rfl);have o6:=F6 (Nm.ofQ (q9 (Nm.d9 c.x-Nm.d9 gx)+q9 (Nm.d9 c.y-Nm.d9 gy))) (Nm.ofQ (F i)) (b3.m rfl) (hb.m rfl);rw [Nm.l6,Nm.l6] at o6;rw [c1O] at hn2;clear hb b1 b2 b3 hc2 hfn hfb
  generalize Nm.d9 c.x-Nm.d9 gx=d1 at *;generalize Nm.d9 c.y-Nm.d9 gy=d2 at *;generalize q9 d1+q9 d2=d5 at *;generalize q9 d1=d3 at *;generalize q9 d2=d4 at *;generalize hF0:F i=f0 at *;generalize hF1:F (i+1)=f1 at *;generalize Nm.l8 d5 f0=cc at *;obtain ⟨cx,cy⟩:=c;simp only [vc,vq,rq,rc,rcs,sb,ints,List.cons_append,List.nil_append] at o1 o3 o4 o5 o6;(repeat first|refine uI ?_|(apply uK;· first|omega|(intros;simp_all<;>omega))|simp (disch:=omega) only [go_sem,Nat.reduceBEq,Nat.reduceAdd,ww,hg,c8s,c8r,c8x,Vt.enc,sb,c8u])
  refine S.X4 [.box 30 [.sl 12 (arms.map Am.enc),.sl 1 (walls.map fun s=>[.sl 6 (s.map Vt.enc)]),.sl 12 (parts.map Pt.enc),.sl 14 (slots.map Sl.enc),.sl 13 (gates.map Gt.enc),.v (.bool walk.neg),.v (.string (bs walk.num)),.v (.string (bs walk.den))],.gone,.gone,.gone,.box 73 [.v (.bool cx.neg),.v (.string (bs cx.num)),.v (.string (bs cx.den)),.v (.bool cy.neg),.v (.string (bs cy.num)),.v (.string (bs cy.den))]] (by simp [Eng.F3,Eng.E5]) ?_;(repeat first|refine uI ?_|(apply uK;· first|omega|(intros;simp_all<;>omega))|simp (disch:=omega) only [go_sem,Nat.reduceBEq,Nat.reduceAdd,ww,F3,Eng.E5,c8r,c8x,gp,c8s,c8u,Pt.enc,Fr.enc,vts,sb]|(refine uD o1 ?_ ?_ ?_;exact tz hw;rfl))
  refine S.X4 [.gone,.gone,.gone,.gone,.gone,.box 73 [.v (.bool (Nm.ofQ d1).neg),.v (.string (bs (Nm.ofQ d1).num)),.v (.string (bs (Nm.ofQ d1).den)),.v (.bool (Nm.ofQ d2).neg),.v (.string (bs (Nm.ofQ d2).num)),.v (.string (bs (Nm.ofQ d2).den))]] (by simp [Eng.F3,Eng.E5]) ?_;(repeat first|refine uA ?_|(apply uK;· first|omega|(intros;simp_all<;>omega))|simp (disch:=omega) only [go_sem,Nat.reduceBEq,Nat.reduceAdd,ww,F3,Eng.E5]|(refine uD o3 ?_ ?_ ?_;exact tz hw;rfl)|(refine uD o4 ?_ ?_ ?_;exact tz hw;rfl)|(refine uD o5 ?_ ?_ ?_;exact tz hw;rfl)|(refine uD o6 ?_ ?_ ?_;exact tz hw;rfl));refine S.cond rfl (fun hc=>?_) (fun hc=>?_)
  ·rw [if_pos (by simpa using hc)] at hn2;(repeat first|refine uA ?_|(apply uK;· first|omega|(intros;simp_all<;>omega))|simp (disch:=omega) only [go_sem,Nat.reduceBEq,Nat.reduceAdd,ww]);refine S.next (i+1) (by omega) (by omega) (by rw [hF1,hn2];exact (by repeat first|refine uA ?_|(refine ⟨?_,?_⟩;· first|rfl|simp [slot])|rfl|simp))
  ·rw [if_neg (by simpa using hc)] at hn2;(repeat first|refine uA ?_|(apply uK;· first|omega|(intros;simp_all<;>omega))|simp (disch:=omega) only [go_sem,Nat.reduceBEq,Nat.reduceAdd,ww]);refine S.next (i+1) (by omega) (by omega) (by rw [hF1,hn2];exact (by repeat first|refine uA ?_|(refine ⟨?_,?_⟩;· first|rfl|simp [slot])|rfl|simp))
 have hi':i=shp.length:=by omega
 subst hi';have o7:=c5C tip (F shp.length) ⟨htb.1.m rfl,htb.2.1.m rfl,htb.2.2.1.m rfl,htb.2.2.2.m rfl⟩ ((hfb _).m rfl);have c1:=c2s (R.map Bq.enc) (by rw [c8r];omega);clear hfb hfn;generalize F shp.length=f0 at *;generalize a0b tip f0=gb at *;have e7:((T.length:Int)-1).toNat=links.length:=by omega
 have e8:(0:Int)<=(T.length:Int)-1/\(T.length:Int)-1 < T.length:=by omega
 obtain ⟨tx,ty,tx2,ty2⟩:=tip;obtain ⟨g1,g2,g3,g4⟩:=gb;simp only [Bq.enc,rq,rc,sb] at o7;refine S.weaken (st':=⟨[(10,.sl 12 (R.map Bq.enc)),(12,.sl 12 (T.map Bq.enc)),(13,.bp 3 0)],[.gone,.gone,.gone,.box 28 [.v (.bool (Nm.ofQ f0).neg),.v (.string (bs (Nm.ofQ f0).num)),.v (.string (bs (Nm.ofQ f0).den))]]⟩) ?_ ?_
 ·exact Ent.mk _ _ (R3.cons (Imp.frz rfl rfl rfl) (R3.cons (Imp.refl rfl) (R3.cons (Imp.refl rfl) R3.nil))) (D9.cons (RI.gone _) (D9.cons (RI.gone _) (D9.cons (RI.gone _) (D9.cons (RI.box _ _ _ (j3.refl rfl)) D9.nil)))) (c8w _)
 (repeat first|refine uI ?_|(apply uK;· first|omega|(intros;simp_all<;>omega))|simp (disch:=omega) only [go_sem,Nat.reduceBEq,Nat.reduceAdd,ww]);refine S.X4 [.gone,.gone,.gone,.box 28 [.v (.bool (Nm.ofQ f0).neg),.v (.string (bs (Nm.ofQ f0).num)),.v (.string (bs (Nm.ofQ f0).den))]] (by simp [Eng.F3,Eng.E5]) ?_;(repeat first|refine uA ?_|(apply uK;· first|omega|(intros;simp_all<;>omega))|simp (disch:=omega) only [go_sem,Nat.reduceBEq,Nat.reduceAdd,ww,F3,Eng.E5,c8r,c8x,ht1,e7,c8s,Bq.enc,sb]|refine l9.t (FNew.t c1 rfl) ?_|(refine uD o7 ?_ ?_ ?_;exact tz hw;rfl));simp only [c9i,c8K,c8O,Bq.enc,sb]
 exact uQ rfl (Imp.tup (by (repeat' (first|exact j3.nil|exact Imp.refl rfl|exact Imp.frz rfl rfl rfl|exact Imp.I9|refine Imp.agg ?_|refine j3.cons ?_ ?_)))) rfl rfl
set_option maxHeartbeats 32000000
def a0h (walk:Nm.Rt) (t:Int) (g:Gt):Bq:=a0b ⟨Nm.d9 g.low.x,Nm.d9 g.low.y,Nm.d9 g.high.x,Nm.d9 g.high.y⟩ (Nm.d9 walk*(t:Rat))
def a9O (bs:List Bq) (walk:Nm.Rt) (t:Int) (G:List Gt) (O:List Bool):Bool:=(G.zip O).any fun z=>z.2 && a0G bs (a0h walk t z.1)
def a8t (bs:List Bq) (w:Wk) (t:Int) (lease:List Cl) (ps:List (Rat × Rat)) (O:List Bool):Int:=
 if a7Z bs lease=true then 3 else if b2A bs w.walls=true then 4 else if (ps.any fun p=>a0G bs (P7 p.1 p.2 w.walk t))=true then 5 else if a9O bs w.walk t w.gates O=true then 6 else 0
theorem b2i {L:List Lk} {q u:List Nm.Rt} (h1:q.length=L.length) (h2:u.length=L.length) (hq:∀ r ∈ q,Rb 1048576 r) (hu:∀ r ∈ u,Rb 1048576 r) (hf:∀ (i:Nat) (l:Lk) (x:Nm.Rt),L[i]?=some l->u[i]?=some x->Jo l x/\r9 (Nm.d9 l.brake) (Nm.d9 x)<=2000):∀ s ∈ N9 L q u,Zr 3200000 s:=fun s hs=>by
 obtain ⟨i,hi⟩:=List.mem_iff_getElem?.1 hs;unfold N9 at hi;rw [c8x] at hi;cases hz:(L.zip (q.zip u))[i]? with
 | none=>rw [hz] at hi;cases hi
 | some z=>
  rw [hz] at hi;injection hi with hi;subst hi;obtain ⟨l,x,y⟩:=z;rw [List.getElem?_zip_eq_some] at hz;obtain ⟨h1,h2⟩:=hz;rw [List.getElem?_zip_eq_some] at h2;have hF:=hf i l y h1 h2.2;have ry:=hu y (c8t h2.2);have hw:=a8r hF.1 hF.2;have r1:=(hq x (c8t h2.1)).g rfl;have r2:=ry.g rfl;have r3:=I5 r1 r2;have r4:=I5 r3 hw;change Zr 3200000 (snQ (loQ x y l.brake) (hiQ x y l.brake));unfold loQ hiQ;rw [show a9y x y l.brake=Nm.d9 x+Nm.d9 y+X3 l y from rfl];exact ⟨a6h (a6h (r3.m rfl) (r4.m rfl)) (r1.m rfl),a6w (a6w (r3.m rfl) (r4.m rfl)) (r1.m rfl)⟩
theorem b2a {L:List Lk} {q u:List Nm.Rt} (h:∀ s ∈ N9 L q u,Zr 3200000 s):∀ s ∈ a0P L q u,Zb 3200000 s:=fun s hs=>by
 obtain ⟨z,hz,rfl⟩:=List.mem_map.1 hs;exact h _ (List.mem_map.2 ⟨z,hz,rfl⟩)
theorem Bb.mono {k m:Nat} {b:Bq} (h:Bb k b) (hm:k<=m):Bb m b:=⟨h.1.mono hm,h.2.1.mono hm,h.2.2.1.mono hm,h.2.2.2.mono hm⟩
theorem Bb.m {k m:Nat} {b:Bq} (h:Bb k b) (e:Nat.ble k m=true):Bb m b:=h.mono (c8G e)
theorem c7p (w:Wk) (n:Nat) (holds:Int) (a:Am) (q:List Sn) (hwb:Wb 1048576 w) (ga:w.arms[n]?=some a) (h1:-1<=holds) (h2:holds < w.parts.length) (ha:H9 a=0) (hql:q.length=a.links.length) (hq:∀ r ∈ q,Zr 16000000 r) :
  FZ 41 [w.c,ints n,ints holds,.sl 6 (q.map Sn.enc)] (.tup [bqs (gbL w a holds q),ints 0]):=by
 unfold gbL;rw [if_neg (by rw [b3t ha (by omega)];decide)];by_cases hh:holds < 0
 ·rw [if_pos hh];obtain rfl:holds=-1:=by omega
  exact b7G w n a q (hwb.m rfl) ga ha hql hq
 ·rw [if_neg hh];obtain ⟨k,rfl⟩:∃ k:Nat,holds=k:=⟨holds.toNat,by omega⟩
  have gp:=c8q (show k < w.parts.length by omega);rw [c8u,gp];exact b6Y w n k a _ q hwb ga gp ha hql hq
theorem c3r {w:Wk} {a:Am} {holds:Int} {q:List Sn} (hwb:Wb 1048576 w) (ha:H9 a=0) (hql:q.length=a.links.length) (hq:∀ r ∈ q,Zr 16000000 r):∀ b ∈ gbL w a holds q,Bb 4200000 b:=fun b hb=>by
 unfold gbL at hb;split at hb
 ·cases hb
 split at hb
 ·exact (b6h hql ha hq b hb).m rfl
 split at hb
 ·rename_i p hp;rw [List.mem_append,List.mem_singleton] at hb;rcases hb with hb|rfl
  ·exact (b6h hql ha hq b hb).m rfl
  ·obtain ⟨_,ps,pg⟩:=hwb.parts.2 p (c8t hp);have hf:Rb 4194400 (Nm.ofQ (a1B p.grasp p.shape)):=a9V (g:=p.grasp) pg.1 pg.2.1 p.shape 0 (fun v hv=>ps.2 v hv) (O8.m rfl);exact (a6s (b0R ha hql hq) hf).m rfl
 ·cases hb
def a6e (w:Wk) (a:Am) (holds:Int) (q u:List Nm.Rt) (lease:List Cl) (ps:List (Rat × Rat)) (O:List Bool):Int:=
 if (decide (u.length=a.links.length) && a0O (a.links.zip (q.zip u)))=false then 1 else if a1D (a.links.zip u)=false then 2 else if a7b a.links (a0P a.links q u)=true then 2 else a8t (gbL w a holds (N9 a.links q u)) w (J2 (a.links.zip u)+1) lease ps O
theorem c2E (w:Wk) (s:Stt) (n:Nat) (a:Am) (x:Ast) (lease:List Cl) (u:List Nm.Rt) (ps:List (Rat × Rat)) (hwb:Wb 1048576 w) (ga:w.arms[n]?=some a) (gx:s.arms[n]?=some x) (ha:H9 a=0) (hh1:-1<=x.holds) (hh2:x.holds < w.parts.length)
  (hxl:x.q.length=a.links.length) (hul:u.length=a.links.length) (hqb:∀ r ∈ x.q,Rb 1048576 r) (hub:∀ r ∈ u,Rb 1048576 r) (hfw:a1D (a.links.zip u)=true)
  (hle:lease.length<=1000000) (hps:s.people=ps.map pvt) (hpb:∀ p ∈ ps,Vb 1048576 (pvt p)) (hpn:ps.length<=1000) (hgn:s.gates.length=w.gates.length) (hw1:w.arms.length<=1000) (hw2:w.parts.length<=1000) :
  FZ 15 [w.c,s.c,ints n,cls lease,rts u] (ints (if a0O (a.links.zip (x.q.zip u))=false then 1 else if a7b a.links (a0P a.links x.q u)=true then 2 else a8t (gbL w a x.holds (N9 a.links x.q u)) w (J2 (a.links.zip u)+1) lease ps s.gates)):=by
 refine kW Tryz.func15 (cF rfl rfl (by cbv) (by repeat' first|exact cS|exact cT|exact cE|apply cA|apply cC|apply cB|apply cL|(apply cR;cbv)|(apply cD;cbv;cbv;kernel_rfl))) (by rfl) fun w' O hw=>?_;have hn:=(c8v.1 ga).1;have hns:=(c8v.1 gx).1;have hl:Ab 1073741824 a:=(M7 ha).1.m rfl;have hf:∀ (i:Nat) (l:Lk) (y:Nm.Rt),a.links[i]?=some l->u[i]?=some y->Jo l y/\r9 (Nm.d9 l.brake) (Nm.d9 y)<=2000:=fun i l y g1 g2=>by
  have h:=(M7 ha).2 l (c8t g1);refine ⟨⟨a8j h,hub y (c8t g2),a4G h⟩,?_⟩;unfold a1D at hfw;rw [List.all_eq_true] at hfw;have h2:=hfw (l,y) (c8t (J5 g1 g2));simp only [c8D] at h2;exact h2
 have h0:=b1S a x.q u hl hxl hul (fun r hr=>(hqb r hr).m rfl) (fun r hr=>(hub r hr).m rfl);have h1:=c2H a x.q u hl ha hxl hul hqb hf;have hql:=b0D (L:=a.links) hxl hul;have hzz:=b2i hxl hul hqb hub hf;have hqz:=b2a hzz;have hrl:=a5N (L:=a.links) hxl hul;have h2:=c7p w n x.holds a (N9 a.links x.q u) hwb ga hh1 hh2 ha hrl (fun r hr=>(hzz r hr).m rfl);have hbl:=@b6j w a x.holds (N9 a.links x.q u);have hbb:=c3r (holds:=x.holds) hwb ha hrl (fun r hr=>(hzz r hr).m rfl);rw [b1Q] at h1 h2;have hlk:=hl.2.2.2;have hl3:=(K4 ha).2;have htk0:=a2M (a.links.zip u);have htk1:J2 (a.links.zip u)<=2000:=by
  unfold J2;have key:∀ (z:List (Lk × Nm.Rt)) (m:Int),m<=2000->(∀ x ∈ z,r9 (Nm.d9 x.1.brake) (Nm.d9 x.2)<=2000)->z.foldl (fun m z=>max m (r9 (Nm.d9 z.1.brake) (Nm.d9 z.2))) m<=2000:=by
   intro z
   induction z with
   | nil=>intro m hm _;exact hm
   | cons x z ih=>
    intro m hm hx;rw [List.foldl_cons];have:=hx x (by simp);exact ih _ (by omega) fun y hy=>hx y (by simp [hy])
  refine key _ 0 (by decide) fun x hx=>?_;obtain ⟨j,hj⟩:=List.getElem?_of_mem hx;rw [List.getElem?_zip_eq_some] at hj;exact (hf j _ _ hj.1 hj.2).2
 obtain ⟨J,hJ⟩:∃ J,J=if a0O (a.links.zip (x.q.zip u))=false then (1:Int) else if a7b a.links (a0P a.links x.q u)=true then 2 else a8t (gbL w a x.holds (N9 a.links x.q u)) w (J2 (a.links.zip u)+1) lease ps s.gates:=⟨_,rfl⟩
 rw [<- hJ];generalize gbL w a x.holds (N9 a.links x.q u)=bs at *;clear hzz hrl;generalize a0P a.links x.q u=Q at *;generalize a0O (a.links.zip (x.q.zip u))=al at *;obtain ⟨t,ht⟩:∃ t,t=J2 (a.links.zip u)+1:=⟨_,rfl⟩
 rw [<- ht] at h1 hJ;have tb:0<=t/\t<=2001:=by omega
 have hb30:∀ b ∈ bs,Bb 1000000000 b:=fun b hb=>(hbb b hb).m rfl;have hb32:∀ b ∈ bs,Bb 4294967296 b:=fun b hb=>(hbb b hb).m rfl;have hsq:∀ b ∈ bs,Vbs 268435456 (Q7 b):=fun b hb=>by
  have h:=hbb b hb;unfold Q7;split
  ·exact ⟨c8w _,fun v hv=>by cases hv⟩
  ·refine ⟨by show 4<=268435456;decide,fun v hv=>?_⟩;simp only [List.mem_cons,List.not_mem_nil,or_false] at hv;rcases hv with rfl|rfl|rfl|rfl
   ·exact ⟨h.1.m rfl,h.2.1.m rfl⟩
   ·exact ⟨h.2.2.1.m rfl,h.2.1.m rfl⟩
   ·exact ⟨h.2.2.1.m rfl,h.2.2.2.m rfl⟩
   ·exact ⟨h.1.m rfl,h.2.2.2.m rfl⟩
 have hgb:=hwb.gates.2;have hgc:=hwb.gates.1;have hwl:=hwb.walls;have hwk:=hwb.walk;have h5:=c5W 52 (by kernel_rfl) [.clo 48 [.ep [bqs bs]]] w.enc [ints t] (fun v=>a0G bs (P7 (Nm.d9 v.x) (Nm.d9 v.y) w.walk t)) s.people (by rw [hps,c8r];omega) (fun v hv=>by
  rw [hps] at hv;obtain ⟨p,hp,rfl⟩:=List.mem_map.1 hv;have:=c2K w bs p t (by omega) hb32 hwk (hpb p hp) tb.1 (by omega);unfold pvt;simp only [Nm.l6];exact this)
 have hpe:(s.people.any fun v=>a0G bs (P7 (Nm.d9 v.x) (Nm.d9 v.y) w.walk t))=ps.any fun p=>a0G bs (P7 p.1 p.2 w.walk t):=by
  rw [hps,List.any_map];congr 1
  funext p
  show a0G bs (P7 (Nm.d9 (Nm.ofQ p.1)) (Nm.d9 (Nm.ofQ p.2)) w.walk t)=_;rw [Nm.l6,Nm.l6]
 rw [hpe] at h5;unfold a8t at hJ;generalize (ps.any fun p=>a0G bs (P7 p.1 p.2 w.walk t))=pb at *;have hcal:callable Tryz.prog 48=true:=by kernel_rfl
 have ht1:Rb 8 (Nm.ofQ (t:Rat)):=by
  rw [a2V];exact ⟨Nm.H6 (by omega),by show (Nm.enc 1).length<=8;rw [Nm.O9];decide⟩
 have o7:=a1y t (by omega) (by omega);have hrn:∀ a b:Nat,a<=b->a<=b:=fun _ _ h=>h;clear hf hqb hub hwb hpb hps hpe ht htk0 htk1 hl hrn hfw;have enc:=fun (l:List Lk)=>l;clear enc;simp only [j4];simp only [Wk.c,Wk.enc,Stt.c,Stt.enc,Am.c,Am.enc,ams,wls,pts,sls,gts,lks,E8,frs,bls,rts,vts,cls,bqs,sb,ints] at h0 h1 h2 h5 ⊢;(repeat first|refine uI ?_|(apply uK;· first|omega|(intros;simp_all<;>omega))|simp (disch:=omega) only [go_sem,Nat.reduceBEq,Nat.reduceAdd]);refine S.X4 [.gone,.box 36 [.v (.int .i64 s.tick),.sl 4 (s.arms.map Ast.enc),.sl 10 (s.parts.map Fr.enc),.sl 6 (s.people.map Vt.enc),.sl 1 (s.gates.map fun b=>[.v (.bool b)])]] (by simp [Eng.F3,Eng.E5]) ?_
 (repeat first|refine uA ?_|(apply uK;· first|omega|(intros;simp_all<;>omega))|simp (disch:=omega) only [go_sem,Nat.reduceBEq,Nat.reduceAdd,Eng.E5,c8r,c8x,ga,gx,c8s,c8u,Am.enc,Ast.enc,lks,rts,sb,ints]|(refine uD h0 ?_ ?_ ?_;exact tz hw;rfl));refine S.cond rfl (fun hc=>?_) (fun hc=>?_)
 ·rw [if_pos (by simpa using hc)] at hJ;rw [hJ];(repeat first|refine uA ?_|(apply uK;· first|omega|(intros;simp_all<;>omega))|simp (disch:=omega) only [go_sem]);exact uS rfl rfl
 rw [if_neg (by simpa using hc)] at hJ;(repeat first|refine uA ?_|(apply uK;· first|omega|(intros;simp_all<;>omega))|simp (disch:=omega) only [go_sem,Nat.reduceBEq,Nat.reduceAdd]|(refine uD h1 ?_ ?_ ?_;exact tz hw;rfl));refine S.cond rfl (fun hc=>by simp at hc) (fun hc=>?_);clear h0 h1;(repeat first|refine uA ?_|(apply uK;· first|omega|(intros;simp_all<;>omega))|simp (disch:=omega) only [go_sem,Nat.reduceBEq,Nat.reduceAdd,c8r])
 refine S.loop (X:=Nat) (fun i=>⟨[(2,ints n),(3,cls lease),(5,.bp 0 0),(6,.bp 1 0),(11,.bp 2 0),(12,.bp 3 0),(13,.sl 6 (Q.map Sp.enc)),(14,.bp 4 0),(57,lks a.links),(58,ints a.links.length),(59,ints i)],[.box 30 w.enc,.box 36 s.enc,.box 80 a.enc,.box 70 x.enc,.box 3 [ints t]]⟩)
  (fun i=>i<=a.links.length/\∀ (j:Nat) (z:Lk × Sp),j < i->(a.links.zip Q)[j]?=some z->(decide (Nm.l8 z.2.lo (Nm.d9 z.1.low) < 0) || decide (0 < Nm.l8 z.2.hi (Nm.d9 z.1.high)))=false) (fun i=>a.links.length-i) 0 ⟨c8w _,fun _ _ h=>absurd h (Nat.not_lt_zero _)⟩ (by simp only [Wk.enc,Stt.enc,Am.enc,Ast.enc,ams,wls,pts,sls,gts,lks,E8,frs,bls,rts,vts,cls,sb,ints];exact (by repeat first|refine uA ?_|(refine ⟨?_,?_⟩;· first|rfl|simp [slot])|rfl|simp)) ?_
 rintro i ⟨hi,hm⟩;simp only [Wk.enc,Stt.enc,Am.enc,Ast.enc,ams,wls,pts,sls,gts,lks,E8,frs,bls,rts,vts,cls,sb,ints];(repeat first|refine uA ?_|(apply uK;· first|omega|(intros;simp_all<;>omega))|simp (disch:=omega) only [go_sem,Nat.reduceBEq]);(refine uJ rfl (fun hc=>?_) fun hc=>?_)
 ·have hi':i < a.links.length:=by omega
  have hgl:=c8q hi';have hgq:=c8q (show i < Q.length by omega);generalize a.links[i]=l at hgl;generalize Q[i]'_=z at hgq;have rl:=hlk l (c8t hgl);have rz:=hqz z (c8t hgq);have o1:=F6 (Nm.ofQ z.lo) l.low (rz.1.m rfl) (rl.2.1.m rfl);have o2:=F6 (Nm.ofQ z.hi) l.high (rz.2.m rfl) (rl.2.2.1.m rfl);rw [Nm.l6] at o1 o2;have hz:=J5 hgl hgq;have hit:=fun hp=>a0C (p:=fun z:Lk × Sp=>decide (Nm.l8 z.2.lo (Nm.d9 z.1.low) < 0) || decide (0 < Nm.l8 z.2.hi (Nm.d9 z.1.high))) hz hp;have nxt:=fun hp=>V9 (p:=fun z:Lk × Sp=>decide (Nm.l8 z.2.lo (Nm.d9 z.1.low) < 0) || decide (0 < Nm.l8 z.2.hi (Nm.d9 z.1.high))) hz hp hm;simp only at hit nxt;clear rl rz;generalize Nm.l8 z.lo (Nm.d9 l.low)=c1 at *
  generalize Nm.l8 z.hi (Nm.d9 l.high)=c2 at *;simp only [rc,sb,ints] at o1 o2;(repeat first|refine uA ?_|(apply uK;· first|omega|(intros;simp_all<;>omega))|simp (disch:=omega) only [go_sem,Nat.reduceBEq,Nat.reduceAdd,hgl,hgq,c8s,c8r,c8x,Lk.enc,Sp.enc,Sn.enc,snQ,vts,sb,c8u]|(refine uD o1 ?_ ?_ ?_;exact tz hw;rfl)|(refine uD o2 ?_ ?_ ?_;exact tz hw;rfl));refine S.cond rfl (fun hc=>?_) (fun hc=>?_)
  ·have hL:a7b a.links Q=true:=hit (by revert hc;by_cases k1:c1 < 0<;>by_cases k2:0 < c2<;>simp [k1,k2]);rw [if_pos hL] at hJ;rw [hJ];(repeat first|refine uA ?_|(apply uK;· first|omega|(intros;simp_all<;>omega))|simp (disch:=omega) only [go_sem]);exact uS rfl rfl
  ·have hp:=nxt (by revert hc;by_cases k1:c1 < 0<;>by_cases k2:0 < c2<;>simp [k1,k2]);(repeat first|refine uA ?_|(apply uK;· first|omega|(intros;simp_all<;>omega))|simp (disch:=omega) only [go_sem,Nat.reduceBEq,ww]);refine S.next (x:=i) (i+1) ⟨by omega,hp⟩ (by omega) (by repeat first|refine uA ?_|(refine ⟨?_,?_⟩;· first|rfl|simp [slot])|rfl|simp)
 have hi':i=a.links.length:=by omega
 subst hi';have hL:a7b a.links Q=false:=Z4 fun j z hj hz=>hm j z (by rw [List.length_zip] at hj;omega) hz;rw [if_neg (by rw [hL];decide)] at hJ;clear hm hL;(repeat first|refine uA ?_|(apply uK;· first|omega|(intros;simp_all<;>omega))|simp (disch:=omega) only [go_sem,Nat.reduceBEq,Nat.reduceAdd]|(refine uD h2 ?_ ?_ ?_;exact tz hw;rfl));refine S.cond rfl (fun hc=>by simp at hc) (fun hc=>?_);clear h2;(repeat first|refine uA ?_|(apply uK;· first|omega|(intros;simp_all<;>omega))|simp (disch:=omega) only [go_sem,Nat.reduceBEq,c8r]);clear hi hlk hqz hql
 refine S.loop (X:=Nat) (fun i=>⟨[(3,cls lease),(5,.bp 0 0),(6,.bp 1 0),(14,.bp 4 0),(18,.bp 5 0),(96,.sl 12 (bs.map Bq.enc)),(97,ints bs.length),(98,ints i)],[.box 30 w.enc,.box 36 s.enc,.gone,.gone,.box 3 [ints t],.box 99 [.sl 12 (bs.map Bq.enc)]]⟩)
  (fun i=>i<=bs.length/\∀ (j:Nat) (b:Bq),j < i->bs[j]?=some b->(!decide (ofE b=0) || !a1o (ofC b) lease)=false) (fun i=>bs.length-i) 0 ⟨c8w _,fun _ _ h=>absurd h (Nat.not_lt_zero _)⟩ (by simp only [Wk.enc,Stt.enc,ams,wls,pts,sls,gts,E8,frs,bls,vts,cls,sb,ints];exact (by repeat first|refine uA ?_|(refine ⟨?_,?_⟩;· first|rfl|simp [slot])|rfl|simp)) ?_
 rintro i ⟨hi,hm⟩;simp only [Wk.enc,Stt.enc,ams,wls,pts,sls,gts,E8,frs,bls,vts,cls,sb,ints];(repeat first|refine uA ?_|(apply uK;· first|omega|(intros;simp_all<;>omega))|simp (disch:=omega) only [go_sem,Nat.reduceBEq]);(refine uJ rfl (fun hc=>?_) fun hc=>?_)
 ·have hi':i < bs.length:=by omega
  have hg:=c8q hi';generalize bs[i]=b at hg;have hbm:=c8t hg;have o1:=c6b b (hb30 b hbm);have o2:=c0W (ofC b) lease (c8y (b6k b) (by decide)) (by omega);have hit:=fun hp=>a0C (p:=fun b=>!decide (ofE b=0) || !a1o (ofC b) lease) hg hp;have nxt:=fun hp=>V9 (p:=fun b=>!decide (ofE b=0) || !a1o (ofC b) lease) hg hp hm;generalize a1o (ofC b) lease=wi at *;generalize ofC b=D at *;generalize ofE b=e at *;simp only [Bq.enc,cls,sb,ints] at o1 o2;(repeat first|refine uA ?_|(apply uK;· first|omega|(intros;simp_all<;>omega))|simp (disch:=omega) only [go_sem,Nat.reduceBEq,Nat.reduceAdd,hg,c8s,c8r,c8x,Bq.enc,sb,c8u]|(refine uB o2 ?_ ?_;rfl)|(refine uD o1 ?_ ?_ ?_;exact tz hw;rfl))
  refine S.cond rfl (fun hc=>?_) (fun hc=>?_)
  ·have hL:a7Z bs lease=true:=hit (by revert hc;by_cases k1:e=0<;>cases wi<;>simp [k1]);rw [if_pos hL] at hJ;rw [hJ];(repeat first|refine uA ?_|(apply uK;· first|omega|(intros;simp_all<;>omega))|simp (disch:=omega) only [go_sem]);exact uS rfl rfl
  ·have hp:=nxt (by revert hc;by_cases k1:e=0<;>cases wi<;>simp [k1]);(repeat first|refine uA ?_|(apply uK;· first|omega|(intros;simp_all<;>omega))|simp (disch:=omega) only [go_sem,Nat.reduceBEq,ww]);refine S.next (x:=i) (i+1) ⟨by omega,hp⟩ (by omega) (by repeat first|refine uA ?_|(refine ⟨?_,?_⟩;· first|rfl|simp [slot])|rfl|simp)
 have hi':i=bs.length:=by omega
 subst hi';have hL:a7Z bs lease=false:=Z4 fun j z hj hz=>hm j z hj hz;rw [if_neg (by rw [hL];decide)] at hJ;clear hm hL hi;(repeat first|refine uA ?_|(apply uK;· first|omega|(intros;simp_all<;>omega))|simp (disch:=omega) only [go_sem,Nat.reduceBEq,c8r]);refine S.loop (X:=Nat) (fun i=>⟨[(5,.bp 0 0),(6,.bp 1 0),(14,.bp 4 0),(18,.bp 5 0),(116,.sl 12 (bs.map Bq.enc)),(117,ints bs.length),(118,ints i)],[.box 30 w.enc,.box 36 s.enc,.gone,.gone,.box 3 [ints t],.box 99 [.sl 12 (bs.map Bq.enc)]]⟩)
  (fun i=>i<=bs.length/\∀ (j:Nat) (b:Bq),j < i->bs[j]?=some b->(w.walls.any fun l=>a4X (Q7 b) l)=false) (fun i=>bs.length-i) 0 ⟨c8w _,fun _ _ h=>absurd h (Nat.not_lt_zero _)⟩ (by simp only [Wk.enc,Stt.enc,ams,wls,pts,sls,gts,E8,frs,bls,vts,sb,ints];exact (by repeat first|refine uA ?_|(refine ⟨?_,?_⟩;· first|rfl|simp [slot])|rfl|simp)) ?_
 rintro i ⟨hi,hm⟩;simp only [Wk.enc,Stt.enc,ams,wls,pts,sls,gts,E8,frs,bls,vts,sb,ints];(repeat first|refine uA ?_|(apply uK;· first|omega|(intros;simp_all<;>omega))|simp (disch:=omega) only [go_sem,Nat.reduceBEq]);(refine uJ rfl (fun hc=>?_) fun hc=>?_)
 ·have hi':i < bs.length:=by omega
  have hg:=c8q hi';generalize bs[i]=b at hg;have hbm:=c8t hg;have o1:=c2l b (hb32 b hbm);have o2:=c5f 46 (by kernel_rfl) [vts (Q7 b)] (fun l=>a4X (Q7 b) l) w.walls (by have:=hwl.1;omega) (fun l hl=>c2i (Q7 b) l (hsq b hbm) ⟨c8y (hwl.2 l hl).1 (by decide),fun v hv=>((hwl.2 l hl).2 v hv).m rfl⟩);have hit:=fun hp=>a0C (p:=fun b=>w.walls.any fun l=>a4X (Q7 b) l) hg hp;have nxt:=fun hp=>V9 (p:=fun b=>w.walls.any fun l=>a4X (Q7 b) l) hg hp hm;generalize (w.walls.any fun l=>a4X (Q7 b) l)=wi at *;generalize Q7 b=D at *;simp only [Bq.enc,wls,vts,sb] at o1 o2
  (repeat first|refine uA ?_|(apply uK;· first|omega|(intros;simp_all<;>omega))|simp (disch:=omega) only [go_sem,Nat.reduceBEq,Nat.reduceAdd,hg,c8s,c8r,c8x,Bq.enc,sb,c8u]|(refine uD o1 ?_ ?_ ?_;exact tz hw;rfl)|(refine uE o2 ?_ ?_ ?_ ?_;exact tz hw;exact rfl;focus (repeat' first|exact j3.nil|exact Imp.refl rfl|exact Imp.I9|exact Imp.fbx rfl rfl (j3.refl rfl) rfl rfl|refine Imp.clo ?_|exact Imp.frz rfl rfl rfl|(refine Imp.K5 rfl rfl ?_ ?_;(focus ((try simp only [c8A,hg,c8s,c8r,c8x,Bq.enc,sb,c8u]);omega));(focus first|rfl|assumption))|refine Imp.agg ?_|refine j3.cons ?_ ?_);done));refine S.cond rfl (fun hc=>?_) (fun hc=>?_)
  ·have hL:b2A bs w.walls=true:=hit hc;rw [if_pos hL] at hJ;rw [hJ];(repeat first|refine uA ?_|(apply uK;· first|omega|(intros;simp_all<;>omega))|simp (disch:=omega) only [go_sem]);exact uS rfl rfl
  ·have hp:=nxt hc;(repeat first|refine uA ?_|(apply uK;· first|omega|(intros;simp_all<;>omega))|simp (disch:=omega) only [go_sem,Nat.reduceBEq,ww]);refine S.next (x:=i) (i+1) ⟨by omega,hp⟩ (by omega) (by repeat first|refine uA ?_|(refine ⟨?_,?_⟩;· first|rfl|simp [slot])|rfl|simp)
 have hi':i=bs.length:=by omega
 subst hi';have hL:b2A bs w.walls=false:=Z4 fun j z hj hz=>hm j z hj hz;rw [if_neg (by rw [hL];decide)] at hJ;clear hm hL hi;(repeat first|refine uA ?_|(apply uK;· first|omega|(intros;simp_all<;>omega))|simp (disch:=omega) only [go_sem,Nat.reduceBEq,Nat.reduceAdd]);refine uE h5 ?_ ?_ ?_ ?_
 ·exact tz hw
 ·exact rfl
 ·exact j3.cons (Imp.refl rfl) (j3.cons (Imp.clo (j3.cons (Imp.fbx rfl rfl (j3.cons (Imp.clo (j3.cons (Imp.fbx rfl rfl (j3.refl rfl) rfl rfl) j3.nil)) j3.nil) rfl rfl) (j3.cons (Imp.fbx rfl rfl (j3.refl rfl) rfl rfl) (j3.cons (Imp.fbx rfl rfl (j3.refl rfl) rfl rfl) j3.nil)))) j3.nil)
 clear h5;(repeat first|refine uA ?_|(apply uK;· first|omega|(intros;simp_all<;>omega))|simp (disch:=omega) only [go_sem]);refine S.cond rfl (fun hc=>?_) (fun hc=>?_)
 ·rw [if_pos hc] at hJ;rw [hJ];(repeat first|refine uA ?_|(apply uK;· first|omega|(intros;simp_all<;>omega))|simp (disch:=omega) only [go_sem]);exact uS rfl rfl
 rw [if_neg (by rw [hc];decide)] at hJ;(repeat first|refine uA ?_|(apply uK;· first|omega|(intros;simp_all<;>omega))|simp (disch:=omega) only [go_sem,Nat.reduceBEq,Nat.reduceAdd,c8r]);refine S.loop (X:=Nat) (fun i=>⟨[(5,.bp 0 0),(6,.bp 1 0),(14,.bp 4 0),(26,.bp 6 0),(135,gts w.gates),(136,ints w.gates.length),(137,ints i)],[.box 30 w.enc,.box 36 s.enc,.gone,.gone,.box 3 [ints t],.box 99 [.sl 12 (bs.map Bq.enc)],.box 114 [.clo 48 [.bp 5 0]]]⟩)
  (fun i=>i<=w.gates.length/\∀ (j:Nat) (z:Gt × Bool),j < i->(w.gates.zip s.gates)[j]?=some z->(z.2 && a0G bs (a0h w.walk t z.1))=false) (fun i=>w.gates.length-i) 0 ⟨c8w _,fun _ _ h=>absurd h (Nat.not_lt_zero _)⟩ (by simp only [Wk.enc,Stt.enc,ams,wls,pts,sls,gts,E8,frs,bls,vts,sb,ints];exact (by repeat first|refine uA ?_|(refine ⟨?_,?_⟩;· first|rfl|simp [slot])|rfl|simp)) ?_
 rintro i ⟨hi,hm⟩;simp only [Wk.enc,Stt.enc,ams,wls,pts,sls,gts,E8,frs,bls,vts,sb,ints];(repeat first|refine uA ?_|(apply uK;· first|omega|(intros;simp_all<;>omega))|simp (disch:=omega) only [go_sem,Nat.reduceBEq]);(refine uJ rfl (fun hc=>?_) fun hc=>?_)
 ·have hi':i < w.gates.length:=by omega
  have hg:=c8q hi';have hgo:=c8q (show i < s.gates.length by omega);generalize w.gates[i]=g at hg;generalize s.gates[i]'_=o at hgo;have hz:=J5 hg hgo;have gb:=hgb g (c8t hg);have r8:=y9 (hwk.g rfl) ht1;have o8:=b0o w.walk (Nm.ofQ (t:Rat)) (hwk.m rfl) (ht1.m rfl);rw [Nm.l6] at o8;have o9:=c4v g.low.x g.low.y g.high.x g.high.y (Nm.d9 w.walk*(t:Rat)) (gb.2.1.1.m rfl) (gb.2.1.2.m rfl) (gb.2.2.1.m rfl) (gb.2.2.2.m rfl) (r8.m rfl);have hGb:Bb 4294967296 (a0h w.walk t g):=by
   have:=a6s (b:=⟨Nm.d9 g.low.x,Nm.d9 g.low.y,Nm.d9 g.high.x,Nm.d9 g.high.y⟩) (r:=Nm.d9 w.walk*(t:Rat)) ⟨gb.2.1.1.g rfl,gb.2.1.2.g rfl,gb.2.2.1.g rfl,gb.2.2.2.g rfl⟩ r8;exact ⟨this.1.m rfl,this.2.1.m rfl,this.2.2.1.m rfl,this.2.2.2.m rfl⟩
  change FZ 54 _ (.agg (a0h w.walk t g).enc) at o9;have o10:=b4W bs (a0h w.walk t g) (by omega) hGb hb32;have hit:=fun hp=>a0C (p:=fun z:Gt × Bool=>z.2 && a0G bs (a0h w.walk t z.1)) hz hp;have nxt:=fun hp=>V9 (p:=fun z:Gt × Bool=>z.2 && a0G bs (a0h w.walk t z.1)) hz hp hm;simp only at hit nxt;clear r8 hGb gb;generalize a0G bs (a0h w.walk t g)=nb at *;generalize a0h w.walk t g=G at *;generalize Nm.d9 w.walk*(t:Rat)=wt at *;generalize (t:Rat)=tq at *;simp only [Bq.enc,bqs,rq,rc,sb,ints] at o7 o8 o9 o10
  (repeat first|refine uA ?_|(apply uK;· first|omega|(intros;simp_all<;>omega))|simp (disch:=omega) only [go_sem,Nat.reduceBEq,Nat.reduceAdd,hg,hgo,hcal,c8s,c8r,c8x,Gt.enc,sb,c8u,hgn]|(refine uD o7 ?_ ?_ ?_;exact tz hw;rfl)|(refine uD o8 ?_ ?_ ?_;exact tz hw;rfl)|(refine uD o9 ?_ ?_ ?_;exact tz hw;rfl)|(refine uE o10 ?_ ?_ ?_ ?_;exact tz hw;exact rfl;focus (repeat' first|exact j3.nil|exact Imp.refl rfl|exact Imp.I9|exact Imp.fbx rfl rfl (j3.refl rfl) rfl rfl|refine Imp.clo ?_|exact Imp.frz rfl rfl rfl|(refine Imp.K5 rfl rfl ?_ ?_;(focus ((try simp only [c8A,hg,hgo,hcal,c8s,c8r,c8x,Gt.enc,Vt.enc,Bq.enc,sb,c8u,hgn]);omega));(focus first|rfl|assumption))|refine Imp.agg ?_|refine j3.cons ?_ ?_);done))
  refine S.cond rfl (fun hc=>?_) (fun hc=>?_)
  ·have hL:a9O bs w.walk t w.gates s.gates=true:=hit (by revert hc;cases o<;>cases nb<;>simp);rw [if_pos hL] at hJ;rw [hJ];(repeat first|refine uA ?_|(apply uK;· first|omega|(intros;simp_all<;>omega))|simp (disch:=omega) only [go_sem]);exact uS rfl rfl
  ·have hp:=nxt (by revert hc;cases o<;>cases nb<;>simp);(repeat first|refine uA ?_|(apply uK;· first|omega|(intros;simp_all<;>omega))|simp (disch:=omega) only [go_sem,Nat.reduceBEq,ww]);refine S.next (x:=i) (i+1) ⟨by omega,hp⟩ (by omega) (by repeat first|refine uA ?_|(refine ⟨?_,?_⟩;· first|rfl|simp [slot])|rfl|simp)
 ·have hi':i=w.gates.length:=by omega
  subst hi';have hL:a9O bs w.walk t w.gates s.gates=false:=Z4 fun j z hj hz=>hm j z (by rw [List.length_zip] at hj;omega) hz;rw [if_neg (by rw [hL];decide)] at hJ;rw [hJ];(repeat first|refine uA ?_|(apply uK;· first|omega|(intros;simp_all<;>omega))|simp (disch:=omega) only [go_sem]);exact uS rfl rfl
theorem b7a (a:Am) (q u:List Nm.Rt) (hl:Ab 1073741824 a) (hu:u.length<=1000000000) (h:u.length ≠ a.links.length):FZ 38 [a.c,rts q,rts u] (.v (.bool false)):=by
 refine kW Tryz.func38 (cF rfl rfl (by cbv) (by repeat' first|exact cS|exact cT|exact cE|apply cA|apply cC|apply cB|apply cL|(apply cR;cbv)|(apply cD;cbv;cbv;kernel_rfl))) (by rfl) fun w O hw=>?_;have hn:=hl.2.2.1;obtain ⟨name,⟨bx,by',half,tu⟩,links⟩:=a;simp only at h hn;simp only [j4,TT,II,OA,OB,OC,MM,LL,VV,FF,MG,LG,FG];simp only [Am.c,Am.enc,lks,rts,sb];(repeat first|refine uA ?_|(apply uK;· first|omega|(intros;simp_all<;>omega))|simp (disch:=omega) only [go_sem,Nat.reduceBEq,Nat.reduceAdd,c8r]);refine S.cond rfl (fun hc=>?_) (fun hc=>by simp at hc;omega);(repeat first|refine uA ?_|(apply uK;· omega)|simp (disch:=omega) only [go_sem]);exact uS rfl rfl
theorem b3Q (w:Wk) (s:Stt) (n:Nat) (a:Am) (x:Ast) (lease:List Cl) (u:List Nm.Rt) (al:Bool) (hwb:Wb 1048576 w) (ga:w.arms[n]?=some a) (gx:s.arms[n]?=some x)
  (h0:FZ 38 [a.c,rts x.q,rts u] (.v (.bool al))) (h1:al=true->FZ 39 [a.c,rts x.q,rts u] (.tup [.v (.slice none 0 0),ints 0,ints 2])) :
  FZ 15 [w.c,s.c,ints n,cls lease,rts u] (ints (if al=false then 1 else 2)):=by
 refine kW Tryz.func15 (cF rfl rfl (by cbv) (by repeat' first|exact cS|exact cT|exact cE|apply cA|apply cC|apply cB|apply cL|(apply cR;cbv)|(apply cD;cbv;cbv;kernel_rfl))) (by rfl) fun w' O hw=>?_;have hn:=(c8v.1 ga).1;have hns:=(c8v.1 gx).1;simp only [j4];simp only [Wk.c,Wk.enc,Stt.c,Stt.enc,Am.c,Am.enc,ams,wls,pts,sls,gts,lks,E8,frs,bls,rts,vts,cls,sb,ints] at h0 h1 ⊢;(repeat first|refine uI ?_|(apply uK;· first|omega|(intros;simp_all<;>omega))|simp (disch:=omega) only [go_sem,Nat.reduceBEq,Nat.reduceAdd])
 refine S.X4 [.gone,.box 36 [.v (.int .i64 s.tick),.sl 4 (s.arms.map Ast.enc),.sl 10 (s.parts.map Fr.enc),.sl 6 (s.people.map Vt.enc),.sl 1 (s.gates.map fun b=>[.v (.bool b)])]] (by simp [Eng.F3,Eng.E5]) ?_;(repeat first|refine uA ?_|(apply uK;· first|omega|(intros;simp_all<;>omega))|simp (disch:=omega) only [go_sem,Nat.reduceBEq,Nat.reduceAdd,Eng.E5,c8r,c8x,ga,gx,c8s,c8u,Am.enc,Ast.enc,lks,rts,sb,ints]|(refine uD h0 ?_ ?_ ?_;exact tz hw;rfl));refine S.cond rfl (fun hc=>?_) (fun hc=>?_)
 ·rw [if_pos (by simpa using hc)];(repeat first|refine uA ?_|(apply uK;· first|omega|(intros;simp_all<;>omega))|simp (disch:=omega) only [go_sem]);exact uS rfl rfl
 rw [if_neg (by simpa using hc)];have h1:=h1 (by simpa using hc);(repeat first|refine uA ?_|(apply uK;· first|omega|(intros;simp_all<;>omega))|simp (disch:=omega) only [go_sem,Nat.reduceBEq,Nat.reduceAdd]|(refine uD h1 ?_ ?_ ?_;exact tz hw;rfl));refine S.cond rfl (fun hc=>?_) (fun hc=>by simp at hc);(repeat first|refine uA ?_|(apply uK;· first|omega|(intros;simp_all<;>omega))|simp (disch:=omega) only [go_sem]);exact uS rfl rfl
theorem c2j (w:Wk) (s:Stt) (n:Nat) (a:Am) (x:Ast) (lease:List Cl) (u:List Nm.Rt) (ps:List (Rat × Rat)) (hwb:Wb 1048576 w) (ga:w.arms[n]?=some a) (gx:s.arms[n]?=some x) (ha:H9 a=0) (hh1:-1<=x.holds) (hh2:x.holds < w.parts.length)
  (hxl:x.q.length=a.links.length) (hun:u.length<=1000000000) (hqb:∀ r ∈ x.q,Rb 1048576 r) (hub:∀ r ∈ u,Rb 1048576 r)
  (hle:lease.length<=1000000) (hps:s.people=ps.map pvt) (hpb:∀ p ∈ ps,Vb 1048576 (pvt p)) (hpn:ps.length<=1000) (hgn:s.gates.length=w.gates.length) (hw1:w.arms.length<=1000) (hw2:w.parts.length<=1000) :
  FZ 15 [w.c,s.c,ints n,cls lease,rts u] (ints (a6e w a x.holds x.q u lease ps s.gates)):=by
 have hl:Ab 1073741824 a:=(M7 ha).1.m rfl;unfold a6e;by_cases hul:u.length=a.links.length
 ·rw [decide_eq_true hul,Bool.true_and];cases hfw:a1D (a.links.zip u) with
  | true=>
   rw [if_neg (show ¬ true=false by decide)];exact c2E w s n a x lease u ps hwb ga gx ha hh1 hh2 hxl hul hqb hub hfw hle hps hpb hpn hgn hw1 hw2
  | false=>
   rw [if_pos (show false=false from rfl)];have hJ:∀ (i:Nat) (l:Lk) (y:Nm.Rt),a.links[i]?=some l->u[i]?=some y->Jo l y:=fun i l y g1 g2=>by
    have h:=(M7 ha).2 l (c8t g1);exact ⟨a8j h,hub y (c8t g2),a4G h⟩
   obtain ⟨k,h1,h2,h3⟩:=b9q hul hfw;exact b3Q w s n a x lease u _ hwb ga gx (b1S a x.q u hl hxl hul (fun r hr=>(hqb r hr).m rfl) (fun r hr=>(hub r hr).m rfl)) fun _=>c2I a x.q u k hl ha hxl hul hqb hJ h1 h2 h3
 ·rw [decide_eq_false hul,Bool.false_and,if_pos rfl];have h:=b3Q w s n a x lease u false hwb ga gx (b7a a x.q u hl hun hul) (fun h=>by cases h);exact h
end Go.Proofs.YtpnbklgbfhgknaaGreatDoor
