/- A part of the proof: lemmas only, with the conditions that each names. -/
import Derived.Test.YtfkipfnkpeobjaaGreatDoorProg
import Derived.KernelRfl
import Derived.Test.YtfkipfnkpeobjaaGreatDoorRows
import Derived.Carry
import Derived.ChangeArms
import Derived.ChangeSame
import Derived.Deep.Slices
import Derived.WalkKit
import Derived.ProofKit
import Derived.OpenShut
import Derived.JoinedCond
import Derived.Test.YtfkipfnkpeobjaaGreatDoorCards
import Derived.Test.YtfkipfnkpeobjaaGreatDoorTie
import Derived.Deep.DeepHandedRow
import Derived.Deep.DeepWitnessRowRef
import Derived.Lib.LaidTab
import Derived.LaidMore
import Derived.Lay
import Derived.Test.YtfkipfnkpeobjaaGreatDoorRk7
set_option linter.all false
namespace Go.Proofs.YtfkipfnkpeobjaaGreatDoor
attribute [local go_sem] Eng.nbq beq_self_eq_true Eng.ww Eng.uk Eng.uk2
open Go Go.RowKit Eng
set_option maxRecDepth 100000
set_option maxHeartbeats 16000000
def a5r(d:Dy)(v:Vt):Bool:=(!(F9 v.x&&F9 v.y)||decide (0<Nm.A9 (q9 (Nm.d9 v.x)) (Nm.d9 d.works.walk)))||decide (0<Nm.A9 (q9 (Nm.d9 v.y)) (Nm.d9 d.works.walk))
def b0K(d:Dy):Int:=
 if Z5 d.works d.start≠0 then Z5 d.works d.start else
 if((d.tracks.length:Int)≠d.works.arms.length\/d.ticks<0\/2000<d.start.tick+min d.ticks 4000\/d.ticks<d.walks.length) then 1 else
 if G7 a4f (d.works.arms.zip d.tracks)≠0 then G7 a4f (d.works.arms.zip d.tracks) else
 if Z7 d.faults d.works.arms.length≠0 then Z7 d.faults d.works.arms.length else
 if a7w d.works [] (d.works.arms.zip d.start.arms)≠0 then a7w d.works [] (d.works.arms.zip d.start.arms) else
 if(d.walks.any λl=>!decide ((l.length:Int)=d.start.people.length)||l.any (a5r d))=true then 1 else 0
def c0S{d:Dy}(R:0<=d.start.tick)(h:a2k d=0):b0K d=0:=by
 unfold a2k at h;unfold b0K;split at h
 ·rename_i B;exact absurd h B
 rename_i B;rw[if_neg B];split at h
 ·cases h
 rename_i T;rw[if_neg (by omega)];split at h
 ·rename_i D;exact absurd h D
 rename_i D;rw[if_neg D];split at h
 ·rename_i E;exact absurd h E
 rename_i E;rw[if_neg E];split at h
 ·rename_i u;exact absurd h u
 rename_i u;have u:=b5z d.works _ [] (Classical.not_not.1 u);rw[List.flatten_nil]at u;rw[if_neg (by rw[u];decide)];split at h
 ·cases h
 rename_i K;rw[if_neg];intro G;refine K ?_;rw[List.any_eq_true]at G ⊢;obtain⟨l,N,H⟩:=G;refine⟨l,N,?_⟩;unfold b4n;rw[d0R]at H ⊢;refine H.imp id λF=>?_;rw[List.any_eq_true]at F ⊢;obtain⟨v,I,A⟩:=F;refine⟨v,I,?_⟩;unfold a5r at A;unfold a3A;revert A;generalize F9 v.x=M;generalize F9 v.y=J;generalize decide (0<Nm.A9 (q9 (Nm.d9 v.x)) (Nm.d9 d.works.walk))=O;generalize decide (0<Nm.A9 (q9 (Nm.d9 v.y)) (Nm.d9 d.works.walk))=P;cases M<;>cases J<;>cases O<;>cases P<;>decide
def c7e(all:List Cl)(c:Cl)(u:all.length<=1000000000):p8 Tryz.prog 41 [.agg (ce c),.ep [cls all]] (.v (.bool (all.contains c))):=by
 refine kS Tryz.func41 (by cbv) (by rfl) λw O=>?_;have h:=b4q all c u;generalize all.contains c=b at*;simp only[j4,TT,OA,MM,LL,VV];simp only[cls,ce]at*;(repeat first|refine uA ?_|simp(disch:=omega) only[go_sem,Nat.reduceAdd]|refine uB h rfl ?_);exact uS rfl rfl
def c2k(w:Wk)(o:List Cl)(z:Am×Ast)(r:List (Am×Ast)):a7w w o (z::r)=if a3h w z≠0 then a3h w z else if((K6 w z).any λc=>o.contains c)=true then 10 else a7w w (o++K6 w z) r:=by rw[a7w]
def c7f(d:Dy)(B:Dyb 131072 d):FZ 7 [d.c] (ints (b0K d)):=by
 refine kW Tryz.func7 (by cbv) (by rfl) λw' O N=>?_;have h0:=c4j d.works d.start (B.works.m rfl) (B.start.m rfl);obtain⟨aA,az⟩:=B.ints.1;obtain⟨aw,ax⟩:=B.ticks;have W:=λ(i:Nat) (a:Am) (t:List Ky) (D:d.works.arms[i]?=some a) (T:d.tracks[i]?=some t)=>b8d a t ((B.works.arms.2 a (d0g D)).m rfl) (B.tracks.2 t (d0g T)).1 (B.tracks.2 t (d0g T)).2;have U:=c3I d.faults d.works.arms.length (d0f B.faults.1 (by decide));have F:=λh:Z5 d.works d.start=0=>b0A h;have hR:=λ(G:Z5 d.works d.start=0) (i:Nat) (a:Am) (x:Ast) (D:d.works.arms[i]?=some a) (V:d.start.arms[i]?=some x)=>
  have ho:=c0H ((b0A G).one (a,x) (d0g (M5 D V)))
  c3T d.works i a x (B.works.m rfl) D ho.arm ho.holds.1 ho.holds.2 ho.q ho.v (B.start.arms.2 x (d0g V))
 have ae:callable Tryz.prog 41=true:=by kernel_rfl
 have A:=λ(all l:List Cl) (W:all.length<=1000000000) (U:l.length<=400)=>c6K 41 ae (cls all) (λc=>all.contains c) l (d0f U (by decide)) rfl λc=>c7e all c W;have aC:=B.works.arms.1;have aF:=B.walks.1;have af:=B.works.walk;have zz:=B.walks.2;unfold b0K;generalize aD:Z5 d.works d.start=SE at h0 F hR ⊢;generalize Z7 d.faults d.works.arms.length=FE at*;generalize hz:d.works.arms.zip d.tracks=zs at*;generalize am:G7 a4f zs=TE;generalize hZ:d.works.arms.zip d.start.arms=Z;generalize hK:a7w d.works [] Z=K;clear B;simp only[j4,TT,II,OA,OB,OC,MM,LL,VV,FF,LG,VG,FG]
 simp only[Dy.c,Dy.enc,Wk.c,Wk.enc,Stt.c,Stt.enc,Am.c,Am.enc,Ast.c,Ast.enc,lks,ams,wls,pts,sls,gts,J9,frs,vts,bls,tks,kys,fts,rts,cls,sb,ints]at h0 W U hR A ⊢;(repeat first|refine uA ?_|simp(disch:=omega) only[go_sem,Nat.reduceAdd]|refine uD h0 (tz N) rfl ?_);apply uJ rfl<;>intro u
 ·rw[if_pos u];exact uT rfl rfl rfl
 have aa:SE=0:=by omega
 rw[if_neg (by omega)];have hR:=hR aa;have F:=F aa;have ay:=F.arms;have av:=F.big;clear h0;have ac:(if(4000:Int)<d.ticks then 4000 else d.ticks)=min d.ticks 4000:=by rw[Int.min_def];split<;>split<;>omega
 (repeat first|refine uA ?_|simp(disch:=omega) only[go_sem,Nat.reduceAdd,ww,d0d,ac]);apply S.cond rfl<;>intro u
 ·rw[if_pos (by simp at u;omega)];exact uT rfl rfl rfl
 have au:(d.tracks.length:Int)=d.works.arms.length:=by simp at u;omega
 rw[if_neg (by simp at u;omega)];(repeat first|refine uA ?_|simp(disch:=omega) only[go_sem,Nat.reduceAdd,d0d]);refine S.loop (X:=Nat) (λi=>⟨[(1,.bp 0 0),(57,tks d.tracks),(58,ints d.tracks.length),(59,ints i)],[.box 41 d.enc]⟩) (λi=>i<=d.tracks.length/\TE=G7 a4f (zs.drop i)) (λi=>d.tracks.length-i) 0 ⟨d0k _,am.symm⟩ (by repeat first|refine uA ?_|refine⟨rfl,?_⟩|rfl|simp) ?_
 rintro i ⟨hi,hT⟩;simp only[Dy.enc,ams,wls,pts,sls,gts,J9,frs,vts,bls,tks,fts,sb,ints];refine uV rfl ?_;apply uJ rfl<;>intro u
 ·have H:i<d.tracks.length:=by omega
  have T:=d0b H;have D:=d0b (show i<d.works.arms.length by omega);generalize d.tracks[i]=t at T;generalize d.works.arms[i]'_=a at D;have gz:zs[i]?=some (a,t):=by rw[<- hz];exact M5 D T
  have M:=W i a t D T;have G:=λh=>a0s (f:=a4f) gz h;have I:=λh=>a0r (f:=a4f) gz h;have hv:a4f (a,t)=if t.length=0 then 0 else a6s a t:=rfl
  rw[hv]at G I;generalize a6s a t=te at*;(repeat first|refine uA ?_|simp(disch:=omega) only[go_sem,T,d0e,d0d,d0q,d0h,tkC]);apply uJ rfl<;>intro u
  ·have h:=I (by rw[if_pos (by omega)]);(repeat first|refine uA ?_|simp(disch:=omega) only[go_sem]);exact S.next (x:=i) (i+1) ⟨by omega,by rw[hT,h]⟩ (by omega) (by repeat first|refine uA ?_|refine⟨rfl,?_⟩|rfl|simp)
  rw[if_neg (by omega)]at G I;(repeat first|refine uA ?_|simp(disch:=omega) only[go_sem,Nat.reduceAdd,D,d0e,d0d,d0q,d0h,Am.enc,lks,sb]|refine uD M (tz N) rfl ?_);apply uJ rfl<;>intro u
  ·have h:=G u;rw[hT,h,if_pos u];exact uT rfl rfl rfl
  ·have h:=I (by omega);(repeat first|refine uA ?_|simp(disch:=omega) only[go_sem]);exact S.next (x:=i) (i+1) ⟨by omega,by rw[hT,h]⟩ (by omega) (by repeat first|refine uA ?_|refine⟨rfl,?_⟩|rfl|simp)
 have aG:TE=0:=by rw[hT];exact a0N (by rw[<- hz,List.length_zip];omega)
 rw[if_neg (by omega)];clear W hT;(repeat first|refine uA ?_|simp(disch:=omega) only[go_sem,Nat.reduceAdd,d0d]|refine uB U rfl ?_);apply uJ rfl<;>intro u
 ·rw[if_pos u];exact uT rfl rfl rfl
 rw[if_neg (by omega)];clear U;(repeat first|refine uA ?_|simp(disch:=omega) only[go_sem,Nat.reduceAdd,d0d]);have aB:Z.length=d.start.arms.length:=by rw[<- hZ,List.length_zip];omega
 have aj:∀(i:Nat) (a:Am) (x:Ast),d.works.arms[i]?=some a->d.start.arms[i]?=some x->Z[i]?=some (a,x):=λi a x W U=>by rw[<- hZ];exact M5 W U
 refine S.loop (X:=Nat×List Cl) (λy=>⟨[(1,.bp 0 0),(8,.bp 1 0),(91,J9 d.start.arms),(92,ints d.start.arms.length),(93,ints y.1)],[.box 41 d.enc,.box 113 [.rv 2],.row 120 2 (y.2.map ce)]⟩) (λy=>y.1<=d.start.arms.length/\y.2.length<=400*y.1/\K=a7w d.works y.2 (Z.drop y.1)) (λy=>d.start.arms.length-y.1) (0,[]) ⟨d0k _,d0k _,hK.symm⟩ (Ent.trans (Ent.a5w 1 0 120 2 (c:=.v (.slice none 0 0)) rfl rfl rfl) (by repeat first|refine uA ?_|refine⟨rfl,?_⟩|rfl|simp)) ?_;rintro⟨i,o⟩ ⟨hi,ai,E⟩;simp only[Dy.enc,ams,wls,pts,sls,gts,J9,frs,vts,bls,tks,fts,sb,ints]at hi ai E ⊢;refine uV rfl ?_;apply uJ rfl<;>intro u
 ·have H:i<d.start.arms.length:=by omega
  have V:=d0b H;have D:=d0b (show i<d.works.arms.length by omega);generalize d.start.arms[i]=x at V;generalize d.works.arms[i]'_=a at D;have ah:=aj i a x D V;have al:Z.drop i=(a,x)::Z.drop (i+1):=by
   obtain⟨hl,he⟩:=d0i.1 ah;rw[List.drop_eq_getElem_cons hl,he]
  rw[al,c2k]at E;have M:=hR i a x D V;have aq:=a7t d.works (a,x);have o2:=A o (K6 d.works (a,x)) (by omega) aq;rw[show cellL d.works a x (X4 a x)=K6 d.works (a,x) from rfl,show a2V d.works a x (X4 a x)=a3h d.works (a,x) from rfl]at M;generalize a3h d.works (a,x)=e at*;generalize K6 d.works (a,x)=l at*;(repeat first|refine uA ?_|simp(disch:=omega) only[go_sem,Nat.reduceAdd,V,d0e,d0d,d0q,d0h,Ast.enc,rts]|refine uD M (tz N) rfl ?_);apply uJ rfl<;>intro u
  ·rw[if_pos u]at E;rw[E,if_pos u];exact uT rfl rfl rfl
  rw[if_neg (by omega)]at E;generalize(l.any λc=>o.contains c)=an at*;(repeat first|refine uA ?_|simp(disch:=omega) only[go_sem]);refine uC o2 rfl (j3.cons (Imp.refl rfl) (j3.cons (Imp.clo (j3.cons (Imp.fbx rfl rfl (j3.cons (Imp.frz rfl rfl rfl) j3.nil) rfl rfl) j3.nil)) j3.nil)) ?_
  cases an
  ·(repeat first|refine uA ?_|simp(disch:=omega) only[go_sem]);refine S.cond rfl (λu=>by simp at u) (λu=>?_)
   rw[if_neg (by decide)]at E;(repeat first|refine uA ?_|(apply uK;· first|omega|(intros;simp_all<;>omega))|simp(disch:=omega) only[go_sem,Nat.reduceAdd,ww,d0d]);refine S.next (x:=(i,o)) (i+1,o++l) ⟨by simp only;omega,by simp only[d0c];omega,E⟩ (by simp only;omega) (by simp only[d0u];exact(by repeat first|refine uA ?_|refine⟨rfl,?_⟩|rfl|simp[slot]))
  ·(repeat first|refine uA ?_|simp(disch:=omega) only[go_sem]);refine S.cond rfl (λu=>?_) (λu=>by simp at u)
   rw[if_pos rfl]at E;rw[E,if_pos (by decide)];exact uT rfl rfl rfl
 rw[List.drop_eq_nil_of_le (by omega)]at E;have E:K=0:=E;rw[if_neg (by omega)];clear A hR;(repeat first|refine uA ?_|simp(disch:=omega) only[go_sem,Nat.reduceAdd,d0d]);refine S.loop (X:=Nat) (λi=>⟨[(1,.bp 0 0),(117,wls d.walks),(118,ints d.walks.length),(119,ints i)],[.box 41 d.enc]⟩) (λi=>i<=d.walks.length/\∀j l,j<i->d.walks[j]?=some l->(!decide ((l.length:Int)=d.start.people.length)||l.any (a5r d))=false) (λi=>d.walks.length-i) 0 ⟨d0k _,λ_ _ h=>absurd h (Nat.not_lt_zero _)⟩ (by repeat first|refine uA ?_|refine⟨rfl,?_⟩|rfl|simp) ?_
 rintro i ⟨hi,hM⟩;simp only[Dy.enc,ams,wls,pts,sls,gts,J9,frs,vts,bls,tks,fts,sb,ints];refine uV rfl ?_;apply uJ rfl<;>intro u
 ·have H:i<d.walks.length:=by omega
  have gl:=d0b H;generalize d.walks[i]=l at gl;have P:=d0g gl;have ag:=zz l P;(repeat first|refine uA ?_|simp(disch:=omega) only[go_sem,Nat.reduceAdd,gl,d0e,d0d,d0q,d0h]);apply uJ rfl<;>intro u
  ·rw[if_pos (List.any_eq_true.2 ⟨l,P,by rw[decide_eq_false u];rfl⟩)];exact uT rfl rfl rfl
  have ak:(l.length:Int)=d.start.people.length:=by omega
  (repeat first|refine uA ?_|simp(disch:=omega) only[go_sem,d0d]);refine S.loop (X:=Nat) (λj=>⟨[(1,.bp 0 0),(117,wls d.walks),(118,ints d.walks.length),(119,ints i),(130,vts l),(131,ints l.length),(132,ints j)],[.box 41 d.enc]⟩) (λj=>j<=l.length/\l.any (a5r d)=(l.drop j).any (a5r d)) (λj=>l.length-j) 0 ⟨d0k _,rfl⟩ (by repeat first|refine uA ?_|refine⟨rfl,?_⟩|rfl|simp) ?_
  rintro j ⟨hj,hg⟩;have aE:=ag.1;simp only[Dy.enc,ams,wls,pts,sls,gts,J9,frs,vts,bls,tks,fts,sb,ints];refine uV rfl ?_;apply uJ rfl<;>intro u
  ·have J:=d0b (show j<l.length by omega);generalize l[j]'_=y at J;have ar:=d0g J;have hd:(l.drop j).any (a5r d)=(a5r d y||(l.drop (j+1)).any (a5r d)):=by
    obtain⟨hl,he⟩:=d0i.1 J;rw[List.drop_eq_getElem_cons hl,he,List.any_cons]
   obtain⟨ap,ao⟩:=ag.2 y ar;have bx:=(ap.mono (m:=17179869184) (by decide))
   have Y:=(ao.mono (m:=17179869184) (by decide))
   have M:=a7U [y.x,y.y] (Rbs.two (by decide) bx Y);have o3:=a2W y.x bx;have o4:=a2W y.y Y;have ra:=a6H (bx.g rfl);have rb:=a6H (Y.g rfl);have o5:=P8 (Nm.ofQ (q9 (Nm.d9 y.x))) d.works.walk ra (af.m rfl);have o6:=P8 (Nm.ofQ (q9 (Nm.d9 y.y))) d.works.walk rb (af.m rfl);rw[Nm.y8]at o5 o6;rw[a5Q]at M;have hv:a5r d y=((!(F9 y.x&&F9 y.y)||decide (0<Nm.A9 (q9 (Nm.d9 y.x)) (Nm.d9 d.works.walk)))||decide (0<Nm.A9 (q9 (Nm.d9 y.y)) (Nm.d9 d.works.walk))):=rfl;have ab:a5r d y=true->(d.walks.any λl=>!decide ((l.length:Int)=d.start.people.length)||l.any (a5r d))=true:=λh=>List.any_eq_true.2 ⟨l,P,by rw[hg,hd,h];simp⟩;rw[hv]at hd ab;clear hv
   generalize Nm.A9 (q9 (Nm.d9 y.x)) (Nm.d9 d.works.walk)=c0 at*;generalize Nm.A9 (q9 (Nm.d9 y.y)) (Nm.d9 d.works.walk)=c1 at*;generalize(F9 y.x&&F9 y.y)=g1 at*;unfold rq at o3 o4;generalize Nm.ofQ (q9 (Nm.d9 y.x))=a1 at*;generalize Nm.ofQ (q9 (Nm.d9 y.y))=a2 at*;simp only[rts,rcs,rc,sb,ints,d0l,d0p]at M o3 o4 o5 o6;(repeat first|refine uA ?_|simp(disch:=omega) only[go_sem,Nat.reduceAdd,J,d0e,d0d,Vt.enc,sb,d0h]|refine uD M (tz N) rfl ?_|refine uD o3 (tz N) rfl ?_|refine uD o4 (tz N) rfl ?_|refine uD o5 (tz N) rfl ?_|refine uD o6 (tz N) rfl ?_);generalize(!g1||decide (0<c0)||decide (0<c1))=bv at*;cases bv
   ·refine S.cond rfl (λu=>by simp at u) (λu=>?_);(repeat first|refine uA ?_|simp(disch:=omega) only[go_sem]);exact S.next (x:=j) (j+1) ⟨by omega,by rw[hg,hd,Bool.false_or]⟩ (by omega) (by repeat first|refine uA ?_|refine⟨rfl,?_⟩|rfl|simp)
   ·refine S.cond rfl (λu=>?_) (λu=>by simp at u);rw[if_pos (ab rfl)];exact uT rfl rfl rfl
  rw[List.drop_eq_nil_of_le (by omega),List.any_nil]at hg;(repeat first|refine uA ?_|simp(disch:=omega) only[go_sem,ww]);refine S.next (x:=i) (i+1) ⟨by omega,?_⟩ (by omega) (by repeat first|refine uA ?_|refine⟨rfl,?_⟩|rfl|simp)
  intro k l' hk R;rcases d0B k i with h|h
  ·exact hM k l' h R
  ·have:k=i:=by omega
   subst this;rw[gl]at R;cases R;rw[hg,decide_eq_true ak];rfl
 ·have A:(d.walks.any λl=>!decide ((l.length:Int)=d.start.people.length)||l.any (a5r d))=false:=by
   rw[List.any_eq_false];intro l hl;obtain⟨j,hj⟩:=List.mem_iff_getElem?.1 hl;have:=hM j l (by have:=(d0i.1 hj).1;omega) hj;rw[this];decide
  rw[A,if_neg (by decide)];exact uT rfl rfl rfl
set_option maxRecDepth 10000
set_option maxHeartbeats 4000000
def b8J(k:Nat):Dyb (k+1) dy0:=b8e k ⟨[],true⟩ (d0k _)
def b8c:(dyB dy0).length<=17:=by
 have h:=c0D ⟨[0,0,0,0,0,0,0,0,0,0,0,0,0,0,0,0,0],false⟩ rfl;have h:(dyB dy0).length+_<=17+0:=h;omega
def a8n(b:List UInt8):Int:=if 65536<b.length then 2 else if b.length<10 then 14 else if b.take 2≠[71,49] then 3 else if leB 8 (a1W (P5 b))≠b.drop (b.length-8) then 13 else 0
def b5B(b:List UInt8):b1Y (P5 b)≠b <-> leB 8 (a1W (P5 b))≠b.drop (b.length-8):=by
 unfold b1Y;constructor
 ·intro h e;exact h (by rw[e];exact List.take_append_drop _ _)
 ·intro h e;refine h ?_;have u:P5 b++leB 8 (a1W (P5 b))=P5 b++b.drop (b.length-8):=e.trans (List.take_append_drop _ _).symm;exact List.append_cancel_left u
def c2O{b:List UInt8}(h:¬b.length<10):(P5 b).take 2=b.take 2:=by
 unfold P5;rw[List.take_take,Nat.min_eq_left (by omega)]
def c3O{d:Dy}(h:wrE d=0):a2k d=0/\wrB d=a2r d:=by
 unfold wrE at h;unfold wrB;split at h
 ·rename_i u;exact absurd h u
 rename_i u;rw[if_neg u];split at h
 ·cases h
 rename_i A;rw[if_neg A];exact⟨Classical.not_not.1 u,rfl⟩
def c7M(b:List UInt8):(a8n b≠0->rdO b=(dy0,a8n b))/\(a8n b=0->rdO b=(dy0,3)\/(rdO b=((a1E b).1,0)/\b0K (a1E b).1=0/\a2r (a1E b).1=b)):=by
 unfold rdO a8n;split
 ·exact⟨λ_=>rfl,λh=>by cases h⟩
 rename_i I;split
 ·exact⟨λ_=>rfl,λh=>by cases h⟩
 rename_i B;rw[c2O B];split
 ·exact⟨λ_=>rfl,λh=>by cases h⟩
 rename_i H;split
 ·rename_i u;rw[if_pos ((b5B b).2 u)];exact⟨λ_=>rfl,λh=>by cases h⟩
 rename_i u;rw[if_neg λh=>u ((b5B b).1 h)];refine⟨λh=>absurd rfl h,λ_=>?_⟩;split
 ·exact .inl rfl
 split
 ·exact .inl rfl
 split
 ·exact .inl rfl
 rename_i F;split
 ·exact .inl rfl
 rename_i E;obtain⟨D,G⟩:=c3O (Classical.not_not.1 F);have A:=b1T (b:=b) (k:=65536) (by omega);exact .inr ⟨rfl,c0S A.ints.1.1 D,by rw[<- G];exact Classical.not_not.1 E⟩
def c2I(b:List UInt8):(rdO b).1=dy0\/((rdO b).1=(a1E b).1/\b.length<=65536/\(a1E b).2.bad=false):=by
 unfold rdO;split
 ·exact .inl rfl
 rename_i u;split
 ·exact .inl rfl
 split
 ·exact .inl rfl
 split
 ·exact .inl rfl
 split
 ·exact .inl rfl
 rename_i h;split
 ·exact .inl rfl
 split
 ·exact .inl rfl
 split
 ·exact .inl rfl
 ·exact .inr ⟨rfl,by omega,by simpa using h⟩
def c9r(b:List UInt8):Dyb 131072 (rdO b).1/\Dyb 1048576 (rdO b).1/\(dyB (rdO b).1).length<=65536:=by
 rcases c2I b with h|⟨h,u,A⟩
 ·rw[h];exact⟨b8J 131071,b8J 1048575,d0f b8c (by decide)⟩
 ·rw[h];exact⟨b1T (k:=131071) (by omega),b1T (k:=1048575) (by omega),d0f (c1Y A) u⟩
open Go Eng
set_option maxRecDepth 100000
set_option maxHeartbeats 8000000
def a8J:List UInt8->Int->Int->Int
 | [],_,y=>y
 | c::l,n,y=>a8J l (n.fdiv 256) (if UInt8.ofNat (n%256).toNat=c then y else 13)
theorem b6D:∀(l:List UInt8) (n y:Int),a8J l n y=if leB l.length n≠l then 13 else y
 | [],n,y=>by rw[if_neg (λh=>h rfl)];rfl
 | c::l,n,y=>by
  rw[a8J,b6D l,d0j,leB];by_cases h1:UInt8.ofNat (n%256).toNat=c
  ·rw[if_pos h1,h1];by_cases h2:leB l.length (n.fdiv 256)=l
   ·rw[if_neg (λh=>h h2),if_neg (λh=>h (by rw[h2]))]
   ·rw[if_pos h2,if_pos (λh=>h2 (List.cons.inj h).2)]
  ·rw[if_neg h1,if_pos (λh=>h1 (List.cons.inj h).1)];split<;>rfl
def b8Q{T:List UInt8}{i:Nat}{c:UInt8}(h:T[i]?=some c)(n y:Int):a8J (T.drop i) n y=a8J (T.drop (i+1)) (n.fdiv 256) (if UInt8.ofNat (n%256).toNat=c then y else 13):=by
 obtain⟨u,rfl⟩:=d0i.1 h;rw[List.drop_eq_getElem_cons u,a8J]
def FZ.c9L{f sz:Nat}{r:C}(hs:FZ f [.sl sz []] r):FZ f [.v (.slice none 0 0)] r:=λO w vs A u h=>hs O w vs A u (by
 simp only[FzL,Fz]at h ⊢;obtain⟨y,B,rfl,rfl,rfl⟩:=h;exact⟨_,_,rfl,⟨none,0,rfl,d0m _,d0k _,λh=>by simp at h⟩,rfl⟩)
def c6d:rdO []=(dy0,14):=rfl
def b3U(b:List UInt8)(hB:b.length<=1000000000):FZ 3 [.sl 1 (b.map u7)] (.v (.bool true)):=by
 refine kW Tryz.func3 (by cbv) (by rfl) λw' O R=>?_;have I:=b9V [] (d0k _);rw[c6d]at I;have I:=FZ.c9L I;have P:=b9V b hB;have h2:=b3i dy0 (b8J 1048575) (d0f b8c (by decide));obtain⟨b1,b2,b3⟩:=c9r b;have E:=b3i (rdO b).1 b2 (d0f b3 (by decide));have h4:=c7f (rdO b).1 b1;have V:=c0V (P5 b) (by unfold P5;rw[d0r];omega);obtain⟨L1,L2⟩:=c7M b;have L3:a8n b=0->(rdO b=(dy0,3))\/((rdO b).2=0/\b0K (rdO b).1=0/\a2r (rdO b).1=b):=λh=>(L2 h).imp id λ⟨e,x,y⟩=>by rw[e];exact⟨rfl,x,y⟩
 clear L2;have ab:b.take (b.length-8)=P5 b:=rfl;have u:a8n b=if 65536<b.length then 2 else if b.length<10 then 14 else if b.take 2≠[71,49] then 3 else if leB 8 (a1W (P5 b))≠b.drop (b.length-8) then 13 else 0:=rfl
 generalize a8n b=W at*;generalize hX:rdO b=X at*;obtain⟨d,e⟩:=X;simp only at E h4 L3 b1;have hG:(⟨#[71,49]⟩:ByteArray)=bs [71,49]:=rfl;generalize K:a2r d=rd at*;generalize J:a2r dy0=rz at*;generalize af:b0K d=de at*;simp only[j4,TT,II,OA,OB,OC,MM,LL,VV,MG,LG];simp only[Dy.c,Dy.enc,dy0,wk0,b2D,rt0,ams,wls,pts,sls,gts,J9,frs,vts,bls,tks,fts,sb,ints,d0p]at I P h2 E h4 V ⊢;(repeat first|refine uA ?_|simp(disch:=omega) only[go_sem,Nat.reduceAdd]|refine uD I (tz R) rfl ?_);refine S.cond rfl (λA=>by simp at A) (λA=>?_)
 (repeat first|refine uA ?_|simp(disch:=omega) only[go_sem,Nat.reduceAdd]|refine uD P (tz R) rfl ?_);refine S.b8T (Y:=Int) (λy=>⟨[(0,.sl 1 (b.map u7)),(5,.bp 1 0),(6,ints e),(7,ints y)],[.gone,.box 41 d.enc]⟩) (λy=>y=W) ?_ ?_
 ·simp only[Dy.enc,ams,wls,pts,sls,gts,J9,frs,vts,bls,tks,fts,sb,ints];apply S.cond rfl<;>intro A
  ·(repeat first|refine uA ?_|simp(disch:=omega) only[go_sem]);exact S.met _ (by rw[u,if_pos (by simp at A;omega)]) (by repeat first|refine uA ?_|refine⟨rfl,?_⟩|rfl|simp)
  rw[if_neg (by simp at A;omega)]at u;(repeat first|refine uA ?_|simp(disch:=omega) only[go_sem,d0d]);apply S.cond rfl<;>intro A
  ·(repeat first|refine uA ?_|simp(disch:=omega) only[go_sem]);exact S.met _ (by rw[u,if_pos (by simp at A;omega)]) (by repeat first|refine uA ?_|refine⟨rfl,?_⟩|rfl|simp)
  rw[if_neg (by simp at A;omega)]at u;have ae:10<=b.length:=by simp at A;omega
  have N:((b.length:Int)-8).toNat=b.length-8:=by omega
  (repeat first|refine uA ?_|simp(disch:=omega) only[go_sem,d0d,<- List.map_take,<- List.map_drop,Q8,hG,a1J,a6S]);apply S.cond rfl<;>intro A
  ·(repeat first|refine uA ?_|simp(disch:=omega) only[go_sem]);exact S.met _ (by rw[u,if_pos (by simpa using A)]) (by repeat first|refine uA ?_|refine⟨rfl,?_⟩|rfl|simp)
  rw[if_neg (by simpa using A)]at u;have B:(b.drop (b.length-8)).length=8:=by rw[d0L];omega
  have ac:(b.drop (b.length-8)).take (b.length-(b.length-8))=b.drop (b.length-8):=d0y (by rw[B];omega);(repeat first|refine uA ?_|simp(disch:=omega) only[go_sem,ww,d0d,N,<- List.map_take,<- List.map_drop,ab,Q8,a1J,ac,B]|refine uB V rfl ?_);generalize a1W (P5 b)=N0 at*;generalize b.drop (b.length-8)=T at*;have hz:=b6D T N0 0;rw[B,<- u]at hz
  refine S.loop (X:=Nat×Int×Int) (λx=>⟨[(0,.sl 1 (b.map u7)),(5,.bp 1 0),(6,ints e),(7,ints x.2.2),(8,.v (.int .u64 x.2.1)),(33,.sl 1 (T.map u7)),(34,ints 8),(35,ints x.1)],[.gone,.box 41 d.enc]⟩) (λx=>x.1<=8/\a8J (T.drop x.1) x.2.1 x.2.2=W) (λx=>8-x.1) (0,N0,0) ⟨d0k _,hz⟩ (by repeat first|refine uA ?_|refine⟨rfl,?_⟩|rfl|simp) ?_;rintro⟨i,n,y⟩ ⟨hi,D⟩;simp only[Dy.enc,ams,wls,pts,sls,gts,J9,frs,vts,bls,tks,fts,sb,ints]at hi D ⊢;refine uV rfl ?_;apply uJ rfl<;>intro A
  ·have G:i<T.length:=by omega
   have F:=d0b G;generalize T[i]=c at F;rw[b8Q F]at D;have ag:=UInt8.toNat_lt c;(repeat first|refine uA ?_|simp(disch:=omega) only[go_sem,d0q,F,d0e,u7,d0h,b9W,d0d,B]);generalize UInt8.ofNat (n%256).toNat=q at*;apply S.cond rfl<;>intro A
   ·rw[if_neg (by rintro rfl;simp at A)]at D;(repeat first|refine uA ?_|simp(disch:=omega) only[go_sem]);refine S.next (x:=(i,n,y)) (i+1,n.fdiv 256,13) ⟨by simp only;omega,D⟩ (by simp only;omega) (by repeat first|refine uA ?_|refine⟨rfl,?_⟩|rfl|simp)
   ·rw[if_pos (by rw[<- UInt8.toNat_inj];simp at A;omega)]at D;(repeat first|refine uA ?_|simp(disch:=omega) only[go_sem]);refine S.next (x:=(i,n,y)) (i+1,n.fdiv 256,y) ⟨by simp only;omega,D⟩ (by simp only;omega) (by repeat first|refine uA ?_|refine⟨rfl,?_⟩|rfl|simp)
  ·have G:i=8:=by omega
   subst G;rw[List.drop_of_length_le (by omega)]at D;(repeat first|refine uA ?_|simp(disch:=omega) only[go_sem]);exact S.met _ D (by repeat first|refine uA ?_|refine⟨rfl,?_⟩|rfl|simp)
 ·intro y hy;subst hy;clear u I P V;simp only[Dy.enc,ams,wls,pts,sls,gts,J9,frs,vts,bls,tks,fts,sb,ints];(repeat first|refine uA ?_|simp(disch:=omega) only[go_sem]);by_cases M:y=0
  ·refine S.cond rfl (λA=>by simp[M]at A) (λA=>?_);rcases L3 M with h|⟨he,U,aa⟩
   ·injection h with h6 Z;subst h6 Z;have H:=K.symm.trans J;subst H;simp only[dy0,wk0,b2D,rt0,d0p]at E ⊢;refine uV rfl ?_;refine S.cond rfl (λA=>?_) (λA=>by simp at A);(repeat first|refine uA ?_|simp(disch:=omega) only[go_sem,Nat.reduceAdd]|refine uB E rfl ?_|(refine uC h2 ?_ ?_ ?_;exact rfl;focus (repeat' first|exact j3.nil|exact Imp.refl rfl|exact Imp.D8|exact Imp.fbx rfl rfl (j3.refl rfl) rfl rfl|refine Imp.clo ?_|exact Imp.frz rfl rfl rfl|(refine Imp.O0 rfl rfl ?_ ?_;(focus ((try simp only[d0c]);omega));(focus first|rfl|assumption))|refine Imp.agg ?_|refine j3.cons ?_ ?_);done));exact uS rfl rfl
   ·subst he U aa;refine uV rfl ?_;refine S.cond rfl (λA=>by simp at A) (λA=>?_);(repeat first|refine uA ?_|simp(disch:=omega) only[go_sem,Nat.reduceAdd,Q8,a1J]|refine uB E rfl ?_|refine uD h4 (tz R) rfl ?_);exact uS rfl rfl
  ·have h:=L1 M;injection h with h6 Z;subst h6 Z;have H:=K.symm.trans J;subst H;simp only[dy0,wk0,b2D,rt0,d0p]at E ⊢;refine S.cond rfl (λA=>?_) (λA=>by simp[M]at A);(repeat first|refine uA ?_|simp(disch:=omega) only[go_sem,Nat.reduceAdd]|refine uB E rfl ?_|(refine uC h2 ?_ ?_ ?_;exact rfl;focus (repeat' first|exact j3.nil|exact Imp.refl rfl|exact Imp.D8|exact Imp.fbx rfl rfl (j3.refl rfl) rfl rfl|refine Imp.clo ?_|exact Imp.frz rfl rfl rfl|(refine Imp.O0 rfl rfl ?_ ?_;(focus ((try simp only[d0c]);omega));(focus first|rfl|assumption))|refine Imp.agg ?_|refine j3.cons ?_ ?_);done));exact uS rfl rfl
open Go Go.RowKit Go.ChangeShapes Go.WideShapes Eng
def c3p{H:Type}{l:List (DataW H)}(hk:Rows.uptoSmall H l=true):Rows.uptoBulkAll l<=1048576:=of_decide_eq_true hk
def c3Q{H:Type}(l r:List (DataW H)):Rows.uptoBulkAll (l++r)=Rows.uptoBulkAll l+Rows.uptoBulkAll r:=by
 induction l with
 | nil=>simp[Rows.uptoBulkAll]
 | cons x l ih=>simp only[List.cons_append,Rows.uptoBulkAll,ih];omega
def noB:Nat->Prop:=λ_=>False
section
variable {H:Type} {enc:TypeId×Value->H} {P:Program} {W:World}
def Opens(enc:TypeId×Value->H)(P:Program)(W:World)(t:TypeId){α:Type}(tc:α->List C)(ok:α->Prop)(ms:α->Nat):Prop:=
 ∀(fuel:Nat) (cs:List Value) (x:DataW H×List MemPlace),DataW.trod enc P W 0 (λ_=>true) true fuel t cs=some x->∃a:α,FzL W noB (tc a) cs/\(∀u∈cs,u.oneCell'=true)/\ok a/\ms a<=Rows.uptoBulk x.1
def b9O{t:TypeId}(B:P.underlying t=some (.int .u8)):Opens enc P W t u7 (λ_=>True) λ_=>1:=by
 intro u cs x h;obtain⟨n,rfl,rfl,A⟩:=DataW.trod_int B h;have D:0<=n/\n<=255:=by simpa[Lit.wf,IntKind.min,IntKind.max,IntKind.signed,IntKind.bits] using A
 refine⟨UInt8.ofNat n.toNat,?_,by simp[Value.oneCell'],trivial,by simp[Rows.uptoBulk]⟩;simp only[u7,FzL,Fz];refine⟨_,_,rfl,?_,rfl⟩;rw[UInt8.toNat_ofNat'];congr 1;omega
def Opens.imp{t:TypeId}{α β:Type}{tc:α->List C}{ok:α->Prop}{F:α->Nat}{D:β->List C}{u:β->Prop}{A:β->Nat}(h:Opens enc P W t tc ok F)
  (f:∀a,ok a->∃b,tc a=D b/\u b/\A b<=F a):Opens enc P W t D u A:=by
 intro B cs x G;obtain⟨a,N,E,H,K⟩:=h B cs x G;obtain⟨b,J,I,M⟩:=f a H;exact⟨b,by rw[<- J];exact N,E,I,d0f M K⟩
def c0m{w:World}{O:Nat->Prop}{q:List C}{vs:List Value}{ad:Addr}{j:Nat}(hF:FzL w O q vs)(h1:∀u∈vs,u.oneCell'=true)(hc:∀i v,vs[i]?=some v->w.cell? (ad.add (j+i))=some v):FzA w O q ad j:=FzA.of hF h1 hc
def b6V{t e:TypeId}{α:Type}{tc:α->List C}{ok:α->Prop}{R:α->Nat}{sz:Nat}(ht:P.underlying t=some (.slice e))(hc:P.cellsOf e=sz)(ah:0<sz)(J:∀a,(tc a).length=sz)
  (he:Opens enc P W e tc ok R):Opens enc P W t (λxs:List α=>[.sl sz (xs.map tc)]) (λxs=>∀a∈xs,ok a) λxs=>1+(xs.map R).sum:=by
 intro af cs x h;rcases Deep.open_slice ht h with⟨rfl,rfl⟩|⟨a,len,cap,m,n,D,Pl,rfl,_,hl,hm,X,rfl,hx⟩
 ·refine⟨[],?_,by simp[Value.oneCell'],(λa ha=>by cases ha),by simp[Rows.uptoBulk]⟩;simp only[FzL,Fz];exact⟨_,_,rfl,⟨none,0,rfl,d0m _,d0k _,λh=>by simp at h⟩,rfl⟩
 ·have ag:len<=m:=by rw[X];split<;>omega
  have ae:∀i,i<len->∃(y:α) (vs:List Value),W.cells? 0 (a.add (i*sz)) sz=some vs/\FzL W noB (tc y) vs/\(∀u∈vs,u.oneCell'=true)/\ok y/\R y<=Rows.uptoBulk (D i):=by
   intro i T;obtain⟨ac,H,I⟩:=hx i (by omega);obtain⟨y,aa,Y,V,M⟩:=he _ _ _ I;rw[hc]at H;exact⟨y,ac,H,aa,Y,V,M⟩
  have build:∀k,k<=len->∃xs:List α,xs.length=k/\(∀i y,xs[i]?=some y->∃vs,W.cells? 0 (a.add (i*sz)) sz=some vs/\FzL W noB (tc y) vs/\(∀u∈vs,u.oneCell'=true)/\ok y)/\(xs.map R).sum<=Rows.uptoBulkAll ((List.range k).map D):=by
   intro k
   induction k with
   | zero=>intro _;exact⟨[],rfl,(λi y h=>by simp at h),by simp⟩
   | succ k ih=>
    intro hk;obtain⟨xs,H,I,V⟩:=ih (by omega);obtain⟨y,vs,M,F,G,h5,h6⟩:=ae k (by omega);refine⟨xs++[y],by simp[H],λi z E=>?_,?_⟩
    ·rcases d0B i xs.length with U|Z
     ·rw[d0v U]at E;exact I i z E
     ·rw[d0D Z]at E;have:i-xs.length=0:=by
       rcases d0K (i-xs.length) with O|O
       ·exact O
       ·obtain⟨d,hd⟩:∃d,i-xs.length=d+1:=⟨i-xs.length-1,by omega⟩
        rw[hd]at E;simp at E
      rw[this]at E;simp at E;subst E;have:i=k:=by omega
      subst this;exact⟨vs,M,F,G,h5⟩
    ·rw[d0u,List.sum_append,List.range_succ,d0u,c3Q];simp only[d0l,d0p,List.sum_cons,List.sum_nil,Rows.uptoBulkAll];omega
  obtain⟨xs,H,I,V⟩:=build len (d0m _);have A:∀(i:Nat) (y:α),xs[i]?=some y->(tc y).length=sz/\FzA W noB (tc y) a (i*sz):=by
   intro i y K;obtain⟨vs,M,F,G,_⟩:=I i y K;obtain⟨_,h5,h6⟩:=World.cells?_some M;refine⟨J _,c0m F G λj v N=>?_⟩;have hj:j<sz:=by
    have:=(d0i.1 N).1;rwa[h5]at this
   have h7:=h6 j hj;rw[N,Deep.add_add]at h7;exact h7
  refine⟨xs,?_,by simp[Value.oneCell'],λy K=>?_,?_⟩
  ·simp only[FzL];refine⟨_,_,rfl,?_,rfl⟩;simp only[Fz];refine⟨some a,cap,by simp[H],by simp;omega,hm,λO=>⟨a,rfl,?_,(λh=>h),FzE.of λk q hq=>?_⟩⟩
   ·have T:0<xs.length:=by simpa using O
    obtain⟨ai,B⟩:=A 0 xs[0] (d0b T);have h9:0<(tc xs[0]).length:=by omega
    match aj:tc xs[0],h9,B with
    | c::cs,_,B=>
     simp only[FzA]at B;obtain⟨⟨v,N,_⟩,_⟩:=B;have ab:=block_lt_of_cell N;rwa[add_block]at ab
   ·rw[d0q]at hq;obtain⟨y,K,rfl⟩:=Option.map_eq_some_iff.1 hq;rw[d0A];exact A k y K
  ·obtain⟨i,T⟩:=List.mem_iff_getElem?.1 K;exact(I i y T).choose_spec.2.2.2
  ·simp only[Rows.uptoBulk];omega
theorem FzL.app{w:World}{O:Nat->Prop}:∀{cs u:List C} {vs us:List Value},FzL w O cs vs->FzL w O u us->FzL w O (cs++u) (vs++us)
 | [],u,vs,us,h,k=>by simp only[FzL]at h;subst h;simpa using k
 | c::cs,u,vs,us,h,k=>by
  simp only[FzL]at h;obtain⟨y,ys,rfl,h1,h2⟩:=h;exact⟨y,ys++us,rfl,h1,FzL.app h2 k⟩
def c2B{f:Func}{s:ChangeSpec}{A M E J:Bool}{U:World}{args:Array Value}{ds gs:List (DataW H)}{u:List MemPlace}{tb:TypeId}(hl:laidOutB P=true)(Y:∀t∈f.params.toList,P.readableRec t=true/\t<P.types.size)
  (af:f.resultTypes=#[tb]) (ab:P.underlying tb=some .bool) (hv:s.vars=[]) (T:s.fn H (ds++gs)={ results:=[.lit (.bool true)],args:=ds }) (hW:DataW.Whole enc P f.params.toList s.vars A W args.toList ds gs u) (hb:Below W.heap.size W U) :
  s.post enc P f A M E J W args (.bool true) U:=by
 have K:∀p∈u,p.block<W.heap.size:=λp F=>hW.lt p F;obtain⟨p,q,hA,hV,aa,hz,hn⟩:=id hW;rw[hv]at hV;obtain⟨rfl,rfl⟩:=trodVars_none hV;rw[List.append_nil]at aa;subst aa;have all:∀(sp:Nat->Bool) (X:List TypeId) (vs:List Value) (V:List (DataW H)) (Z:List MemPlace),(∀t∈X,P.readableRec t=true/\t<P.types.size)->(∀x∈Z,x.block<W.heap.size/\sp x.block=true)->DataW.TrodAll enc P W 0 (λ_=>true) true X vs V Z->DataW.TrodAll enc P U 0 sp true X vs V Z:=by
  intro sp X
  induction X with
  | nil=>
   intro vs V Z _ _ h;cases vs<;>cases V<;>simp only[DataW.TrodAll]at h ⊢<;>exact h
  | cons t X ih=>
   intro vs V Z R N h;cases vs<;>cases V<;>simp only[DataW.TrodAll]at h ⊢;obtain⟨p1,p2,h1,h2,rfl⟩:=h;refine⟨p1,p2,?_,ih _ _ _ (λt ht=>R t (List.mem_cons_of_mem _ ht)) (λx G=>N x (List.mem_append_right _ G)) h2,rfl⟩;exact WideElems.Trod_stays hl (R t (List.mem_cons_self ..)).1 (R t (List.mem_cons_self ..)).2 h1 (λx G=>hb.same (N x (List.mem_append_left _ G)).1) λx G=>(N x (List.mem_append_left _ G)).2
 have I:∀(b:Nat) (sp:Nat->Bool) (hd:Bool),DataW.TrodAll enc P U b sp hd f.resultTypes.toList ((Value.bool true).resultList f.resultTypes.size) (s.fn H (ds++[])).results []:=by
  intro b sp hd;rw[af,T];exact trodAll_cons_mk (shut_bool ab true) trodAll_mk0
 have D:∀sp:Nat->Bool,(∀O∈u,sp O.block=true)->DataW.TrodAll enc P U 0 sp true f.params.toList args.toList (s.fn H (ds++[])).args u:=λsp ag=>by
  rw[T];exact all sp _ _ _ _ Y (λx G=>⟨K x G,ag x G⟩) hA
 have B:∀sp:Nat->Bool,DataW.TrodVars enc P U sp s.vars (s.fn H (ds++[])).vars []:=λsp=>by rw[hv,T];rfl
 have ac:∀O∈u,(λb=>decide (b<W.heap.size)) O.block=true:=λO F=>by simpa using K O F
 refine⟨ds,[],u,[],u,[],hW,I _ _ _,D _ ac,B _,World.keptBut_mono (λO F=>⟨F,?_⟩) (hb.frame (· ∈ u)),λ_=>⟨ok_one af rfl (okWide_bool_mk ab _),_,_,([]++u)++[],⟨[]++u,[],trodAll_append (D _ (λ_ _=>rfl)) (I _ _ _),B _,rfl,?_,?_⟩,?_⟩⟩
 ·exact Or.inr (by simpa using F)
 ·intro b off F;have ae:MemPlace.cell b off∈u:=by simpa using F
  rw[hb.frozen (K _ ae)];exact hz b off ae
 ·intro ha;have:=hn ha;simpa using this
 ·intro O F _;simpa using F
end
open Go Go.RowKit Go.ChangeShapes Go.WideShapes Go.ChangeAt Eng
set_option maxRecDepth 10000
def c2x:ownKnob Tryz.prog.godebug=none:=by kernel_rfl
def c3B:laidOutB Tryz.prog=true:=by kernel_rfl
def gDb:Tryz.prog.globalNamed "math/bits.deBruijn64tab" = some 1:=by kernel_rfl
def c5d:(Tryz.prog.globals[1]?).map (·.type)=some 372:=by kernel_rfl
def c3M:Tryz.prog.cellsOf 372=64:=by kernel_rfl
def c6J:Tryz.prog.cellsOf 5=1:=by kernel_rfl
def c2t:Tryz.prog.underlying 372=some (.array 64 5):=by kernel_rfl
def c8i:Tryz.prog.underlying 5=some (.int .u8):=by kernel_rfl
def c6l:(Rows.laid_math_bits_deBruijn64tab:DataW Unit)=Lib.tabData .u8 (Lib.deBruijn64tab.map λn:Nat=>(n:Int)):=by rfl
def c9d {W:World} {rest:List (String×DataW Unit)} (h:laidMet Tryz.prog (("math/bits.deBruijn64tab",Rows.laid_math_bits_deBruijn64tab)::rest) W):Wz W:=by
 rw[c6l]at h;have ht:=Lib.tabIs_of_head gDb c5d c2t c8i c6J c3M h;intro j hj;have:=ht.cell gDb j (by rw[d0d];exact hj);rw[this];congr 2;rw[d0C,d0C,d0q,d0b hj];rfl
section
variable {H:Type} {enc:TypeId×Value->H} {W:World}
theorem b6B{α:Type}:∀l:List α,l.length=(l.map λ_=>1).sum
 | []=>rfl
 | x::l=>by simp only[d0j,d0l,List.sum_cons,<- b6B l];omega
end
noncomputable def laidWorld(os:Os):World:=World.doorLaid Tryz.prog 400 os
noncomputable def laidWorldU(os:Os):World:=World.laidAll Tryz.prog os Rows.recordReadsUptoRow.laid
def c0M(os:Os)(args:Array Value):laidMet Tryz.prog Rows.recordReadsUptoRow.laid ((laidWorldU os).forCall (λ_ _=>0) ⟨#[],args,[]⟩).memory:=
 laidMet_laidAll args (by kernel_rfl) (by kernel_rfl)
def b7f{H:Type}{enc:TypeId×Value->H}{C:Checked}{os:Os}{f:FuncId}{fn:Func}{s:OpenSpec}{conds:List PathCond}{apart:Bool}{laid:List (String×DataW Unit)}(modest:Bool)(w0:World)(args:Array Value)(hos:w0.os=os)
  (hv:(w0.forCall (λ_ _=>0) ⟨#[],args,[]⟩).variablesZipB C.prog=true)
  (hr:((w0.forCall (λ_ _=>0) ⟨#[],args,[]⟩).heap.toList.drop C.prog.globals.size).take ((begin C.prog (λ_ _=>0) default).world.heap.size-C.prog.globals.size) =
   (begin C.prog (λ_ _=>0) default).world.heap.toList.drop C.prog.globals.size)
  (hok:Input.okWideB C.prog (w0.forCall (λ_ _=>0) ⟨#[],args,[]⟩) f ⟨#[],args,[]⟩=true)
  (hrow:s.preRow enc C.prog fn conds apart laid (w0.forCall (λ_ _=>0) ⟨#[],args,[]⟩).memory args) :
  ∃(w:World) (tape:Tape) (i:Input),w.os=os/\(w.forCall tape i).Shaped C.prog/\i.vars=[]/\Input.okWide C.prog (w.forCall tape i) .any w.heap.size f i /\
   s.preRow enc C.prog fn conds apart laid (w.forCall tape i).memory i.args/\({ modest:=modest }:Assume).holds C.prog (lone (Frame.enter C.prog f i.args .normal) [] (w.forCall tape i)):=
 ⟨w0,λ_ _=>0,⟨#[],args,[]⟩,hos,World.shaped_of_ZipB hv hr,(Input.okWide_of_okWideB (base:=0) hok).1,(Input.okWide_of_okWideB hok).2,hrow,by
  simp only[Assume.holds];exact⟨by simp,by simp,λ_=>Modest.zero,by simp,by simp⟩⟩
section
variable {H:Type} {enc:TypeId×Value->H} {W:World}
def c4k:Tryz.prog.cellsOf 5=1:=by kernel_rfl
def c6o:Opens enc Tryz.prog W 22 (λl:List UInt8=>[.sl 1 (l.map u7)]) (λ_=>True) λl=>1+l.length:=
 (b6V Tryz.underlying22 c4k (by decide) (λ_=>rfl) (b9O Tryz.underlying5)).imp λf h=>⟨f,rfl,trivial,by rw[<- b6B];exact d0m _⟩
end
def b1k(os:Os)(args:Array Value):laidMet Tryz.prog Rows.recordReadsUptoRow.laid ((laidWorldU os).forCall (λ_ _=>0) ⟨#[],args,[]⟩).memory:=
 c0M os args
def a8o(H:Type)(enc:TypeId×Value->H)(W:World)(base:Nat)(u:Array Value)(J V:List (DataW H))(A:List MemPlace)
  (B:∀(j:Nat) t v,Tryz.f3.params[j]?=some t->u[j]?=some v->Value.okWide Tryz.prog W .any base t v)
  (X:DataW.Whole enc Tryz.prog Tryz.f3.params.toList Rows.recordReadsSpec.vars false W u.toList J V A) (hk:Rows.uptoSmall H (J++V)=true) (hL:laidMetH Tryz.prog Rows.recordReadsUptoRow.laid W) (hS:W.ShapedOpen Tryz.prog) :
  Calls Tryz.prog 3 u W λe W'=>∃v,e=.returned v/\Rows.recordReadsSpec.post enc Tryz.prog Tryz.f3 false true false false W u v W':=by
 have K:=X;obtain⟨p,q,F,hV,rfl,ab,af⟩:=X;have N:DataW.TrodAll enc Tryz.prog W 0 (λ_=>true) true Tryz.f3.params.toList u.toList J p:=F;rw[Tryz.params3]at N B;obtain⟨P,ae,d0,aa,p0,q0,G,rfl,rfl,I,r0⟩:=trodAll_cons N;obtain⟨rfl,rfl,rfl⟩:=trodAll_nil r0;obtain rfl:u=#[P]:=by cases u;simp_all
 obtain⟨rfl,rfl⟩:=trodVars_none hV;have Y:=c3p hk;obtain⟨O,R,c0,rfl⟩:=okWide_slice Tryz.underlying22 (B 0 22 P rfl rfl);obtain⟨m0,I⟩:=I;obtain⟨b,e0,_,k0,T⟩:=c6o _ _ _ I;have T:1+b.length<=Rows.uptoBulk d0:=T;have e0:FzL W noB [.sl 1 (b.map u7)] [.slice O R c0]:=e0;simp only[FzL]at e0;obtain⟨y0,ac,M,Z,rfl⟩:=e0;injection M with M _;subst M;simp only[List.append_nil,List.cons_append,List.nil_append,Rows.uptoBulkAll]at Y;have hF:FzL W noB [.sl 1 (b.map u7)] [.slice O R c0]:=by
  simp only[FzL];exact⟨_,_,rfl,Z,rfl⟩
 refine(b3U b (by omega) noB W _ (c9d hL) (λ_ h=>h.elim) hF).mono λe W' ⟨y,he,E,U⟩=>?_;subst he;simp only[Fz]at U;subst U;refine⟨_,rfl,c2B c3B (by
  intro t D;rw[Tryz.params3]at D;simp only[List.mem_cons,List.not_mem_nil,or_false]at D;rcases D with rfl
  ·exact⟨by kernel_rfl,of_decide_eq_true (by kernel_rfl)⟩) (tb:=4) rfl Tryz.underlying4 rfl rfl K E⟩
def b0e(os:Os){H:Type}(enc:TypeId×Value->H):∃places,DataW.whole enc Tryz.prog ((laidWorldU os).forCall (λ_ _=>0) ⟨#[],#[.slice none 0 0],[]⟩).memory Tryz.f3.params.toList Rows.recordReadsSpec.vars false (#[.slice none 0 0]:Array Value).toList 8=some ([.nil],[],places):=
 ⟨[],by kernel_rfl⟩
set_option maxRecDepth 100000 in
theorem a9x(D:Os)(h:D.Started)(H:Type)(enc:TypeId×Value->H)(F:Stop.Interp) :
  ReturnsInHanded {} Tryz.checked D 3 .any ((Rows.OpenSpec.upto Rows.recordReadsSpec).preRow enc Tryz.prog Tryz.f3 Rows.recordReadsUptoRow.domain false Rows.recordReadsUptoRow.laid) (((Rows.OpenSpec.upto Rows.recordReadsSpec).at F).post enc Tryz.prog Tryz.f3 false true false false):=by
 obtain⟨I,M⟩:=b0e D enc;refine returnsInHanded_of_row (C:=Tryz.checked) (s:=Rows.OpenSpec.upto Rows.recordReadsSpec) c2x h (by kernel_rfl) Tryz.func3
  (b7f (enc:=enc) (C:=Tryz.checked) false (laidWorldU D) #[.slice none 0 0] rfl (by kernel_rfl) (by kernel_rfl) (by kernel_rfl)
   (OpenSpec.preRow_of_cond 8 M (by kernel_rfl) (λk J=>by cases J;kernel_rfl) (by kernel_rfl) (b1k D _))) ?_
 intro W B E N P u G R _ A _ O K _;exact a8o H enc W B E N P u G R (A _ rfl) O K
def c9W{a b:Bool}(h:a=true)(k:b=true):(a&&b)=true:=by rw[h,k];rfl
set_option maxHeartbeats 40000000 in
theorem a8T:joinedFacts Tryz.pinned.checked.prog 3 Tryz.f3 (Rows.OpenSpec.upto Rows.recordReadsSpec).bare Rows.recordReadsUptoRow=true:=by
 unfold joinedFacts
 repeat' (with_reducible refine c9W ?_ ?_)
 all_goals (as_aux_lemma=>kernel_rfl)
end Go.Proofs.YtfkipfnkpeobjaaGreatDoor
