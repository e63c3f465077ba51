/- A part of the proof: lemmas only, with the conditions that each names. -/
import Derived.Test.YtpffebkbmcbmgaaGreatDoorProg
import Derived.KernelRfl
import Derived.Shelf.Strings.SlTrimAscii
import Derived.Test.YtpffebkbmcbmgaaGreatDoorRk5
set_option linter.all false
namespace Go.Proofs.YtpffebkbmcbmgaaGreatDoor
open Go Go.RowKit Eng
set_option maxRecDepth 100000
set_option maxHeartbeats 8000000
theorem b6E (n:Int):y9 Tryz.prog 93 [ints n] (.v (.bool (onB n))):=by
 refine kS Tryz.func93 (by cbv) (by rfl) fun w O=>?_
 unfold onB
 simp only [j6,ints]
 (repeat first|refine uA ?_|(refine uK ?_ ?_;focus first|omega|(intros;simp_all<;>omega))|simp (disch:=omega) only [go_sem,Nat.reduceBEq,Nat.reduceAdd,ww])
 exact S.done (j4.out rfl (Imp.refl rfl) rfl)
theorem c1S (p:Rat):-9223372036854775807<=flI p/\flI p<=9223372036854775807:=by
 unfold flI
 split<;>omega
theorem b5B (lo hi:Rat) (hl:Rb 1000000000 (Nm.ofQ lo)) (hh:Rb 1000000000 (Nm.ofQ hi)):FZ 167 [rq lo,rq hi] (.tup [ints (K7 lo),ints (flI hi),.v (.bool (a0Y lo hi))]):=by
 refine kW Tryz.func167 (by cbv) (by rfl) fun w O hw=>?_
 have o1:=a8Y (Nm.ofQ hi) (hh.mono (by decide))
 have o2:=a7F (Nm.ofQ lo) (hl.mono (by decide))
 have r2:=a0L hl
 have o3:=a8Y (Nm.ofQ (-lo)) (r2.mono (by decide))
 rw [Nm.q8] at o1 o2 o3
 have b1:=c1S hi
 have b2:=c1S (-lo)
 have hs:K7 lo=-flI (-lo)-1:=rfl
 have hB:a0Y lo hi=(decide (flE hi=0) && decide (flE (-lo)=0) && onB (K7 lo) && onB (flI hi)):=rfl
 rw [hB]
 generalize K7 lo=x at *
 generalize flE hi=e1 at *
 generalize flE (-lo)=e2 at *
 generalize flI hi=y at *
 generalize flI (-lo)=z at *
 have o4:=b6E x
 have o5:=b6E y
 have hx:-z-1=x:=hs.symm
 have hx2:0-z-1=x:=by omega
 generalize onB x=u1 at *
 generalize onB y=u2 at *
 simp only [j6]
 simp only [rq,rc,sb,ints] at o1 o2 o3 o4 o5 ⊢
 (repeat first|refine uA ?_|(refine uK ?_ ?_;focus first|omega|(intros;simp_all<;>omega))|simp (disch:=omega) only [go_sem,Nat.reduceBEq,Nat.reduceAdd,ww,hx,hx2]|(refine uB o4 ?_ ?_;exact rfl)|(refine uB o5 ?_ ?_;exact rfl)|(refine uD o1 ?_ ?_ ?_;exact tz hw;exact rfl)|(refine uD o2 ?_ ?_ ?_;exact tz hw;exact rfl)|(refine uD o3 ?_ ?_ ?_;exact tz hw;exact rfl))
 refine S.done ?_
 simp only [l9,p9,go_sem,Nat.reduceBEq,Nat.reduceAdd,Nat.reduceLeDiff,Int.reduceToNat,Int.reducePow]
 (repeat (refine ⟨?_,?_⟩;focus first|trivial|omega|simp))
 exact j4.out rfl (Imp.tup (j5.cons (Imp.refl rfl) (j5.cons (Imp.refl rfl) (j5.cons (Imp.eq (by simp) rfl) j5.nil)))) rfl
theorem b9W (l:List Cl) (h:b6z l):y9 Tryz.prog 49 [cls l] (ints 0):=by
 refine kS Tryz.func49 (by cbv) (by rfl) fun w O=>?_
 obtain ⟨hn,hon,hu⟩:=h
 simp only [j6,cls,ints]
 (repeat first|refine uA ?_|(refine uK ?_ ?_;focus first|omega|(intros;simp_all<;>omega))|simp (disch:=omega) only [go_sem,Nat.reduceBEq,Nat.reduceAdd,ww,c6F])
 (refine uJ rfl (fun hc=>?_) fun hc=>?_)
 ·omega
 (repeat first|refine uA ?_|(refine uK ?_ ?_;focus first|omega|(intros;simp_all<;>omega))|simp (disch:=omega) only [go_sem,Nat.reduceBEq,Nat.reduceAdd,ww,c6F])
 refine S.loop (X:=Nat) (fun i=>⟨[(0,cls l),(8,cls l),(9,ints l.length),(10,ints i)],[]⟩) (fun i=>i<=l.length) (fun i=>l.length-i) 0 (c6K _) (by (repeat first|refine uA ?_|(refine ⟨?_,?_⟩;focus first|rfl|simp [slot])|rfl|simp)) ?_
 intro i hi
 simp only [cls,ints]
 (repeat first|refine uA ?_|(refine uK ?_ ?_;focus first|omega|(intros;simp_all<;>omega))|simp (disch:=omega) only [go_sem,Nat.reduceBEq,Nat.reduceAdd,ww])
 (refine uJ rfl (fun hc=>?_) fun hc=>?_)
 ·have hi':i < l.length:=by omega
  have hg:=c6E hi'
  generalize l[i]=x at hg
  obtain ⟨x1,x2⟩:=hon x (c6H hg)
  have o1:=b6E x.1
  have o2:=b6E x.2
  rw [x1] at o1
  rw [x2] at o2
  simp only [ints] at o1 o2
  (repeat first|refine uA ?_|(refine uK ?_ ?_;focus first|omega|(intros;simp_all<;>omega))|simp (disch:=omega) only [go_sem,Nat.reduceBEq,Nat.reduceAdd,ww,c6F,c6P,hg,c6G,c6I,ce]|(refine uB o1 ?_ ?_;exact rfl)|(refine uB o2 ?_ ?_;exact rfl))
  refine S.cond rfl (fun hc=>by simp at hc) (fun hc=>?_)
  rcases c7d i with h0|h0
  ·subst h0
   have hjl:decide ((0:Int) < ((0:Nat):Int))=false:=by decide
   have hjm:(((0:Nat):Int)-1).toNat=0:=by decide
   (repeat first|refine uA ?_|(refine uK ?_ ?_;focus first|omega|(intros;simp_all<;>omega))|simp (disch:=omega) only [go_sem,Nat.reduceBEq,Nat.reduceAdd,ww,c6F,hjl,hjm,hg,c6P,c6G,ce])
   refine a0s.mk (r:=.v (.int .i64 0)) (fun hp=>by cases hp) ?_
   (repeat first|refine uA ?_|(refine uK ?_ ?_;focus first|omega|(intros;simp_all<;>omega))|simp (disch:=omega) only [go_sem,Nat.reduceBEq,Nat.reduceAdd,ww,hjl])
   refine S.cond rfl (fun hc=>by simp at hc) (fun hc=>?_)
   (repeat first|refine uA ?_|(refine uK ?_ ?_;focus first|omega|(intros;simp_all<;>omega))|simp (disch:=omega) only [go_sem,Nat.reduceBEq,Nat.reduceAdd,ww])
   refine S.next (x:=0) 1 (by omega) (by omega) (by (repeat first|refine uA ?_|(refine ⟨?_,?_⟩;focus first|rfl|simp [slot])|rfl|simp))
  ·have hgy:=c6E (show i-1 < l.length by omega)
   generalize l[i-1]'_=y at hgy
   have hlt:=hu.get (show i-1 < i by omega) hgy hg
   have o3:=b5h y x
   have h4:a1o y x < 0:=by simpa [ltC] using hlt
   have hjl:decide ((0:Int) < (i:Int))=true:=decide_eq_true (by omega)
   have hjm:((i:Int)-1).toNat=i-1:=by omega
   generalize a1o y x=c at *
   simp only [ce,ints] at o3
   (repeat first|refine uA ?_|(refine uK ?_ ?_;focus first|omega|(intros;simp_all<;>omega))|simp (disch:=omega) only [go_sem,Nat.reduceBEq,Nat.reduceAdd,ww,c6F,hjl,hjm,hg,hgy,c6P,c6G,ce]|(refine uB o3 ?_ ?_;exact rfl))
   refine S.cond rfl (fun hc=>?_) (fun hc=>?_)
   ·simp at hc
    omega
   (repeat first|refine uA ?_|(refine uK ?_ ?_;focus first|omega|(intros;simp_all<;>omega))|simp (disch:=omega) only [go_sem,Nat.reduceBEq,Nat.reduceAdd,ww])
   refine S.next (i+1) (by omega) (by omega) (by (repeat first|refine uA ?_|(refine ⟨?_,?_⟩;focus first|rfl|simp [slot])|rfl|simp))
 ·have hi':i=l.length:=by omega
  subst hi'
  (repeat first|refine uA ?_|(refine uK ?_ ?_;focus first|omega|(intros;simp_all<;>omega))|simp (disch:=omega) only [go_sem,Nat.reduceBEq,Nat.reduceAdd,ww])
  exact S.done (j4.out rfl (Imp.refl rfl) rfl)
open Go Eng
theorem c6r (b:Bq) (hb:Bb 1000000000 b):FZ 100 [.agg b.enc] (.tup [cls (ofC b),ints (ofE b)]):=by
  refine kW Tryz.func100 (by cbv) (by rfl) fun w O hw=>?_
  have hon:=@b8b b
  have hE:ofE b=if 0 < Nm.q9 b.lx b.hx \/ 0 < Nm.q9 b.ly b.hy then 1 else if (a0Y b.lx b.hx && a0Y b.ly b.hy)=false then 17 else if 400 < (flI b.hx-K7 b.lx+1)*(flI b.hy-K7 b.ly+1) then 2 else 0:=rfl
  have hC:ofC b=if ofE b=0 then a4H (K7 b.lx) (K7 b.ly) (wid (K7 b.lx) (flI b.hx)) (wid (K7 b.ly) (flI b.hy)) else []:=rfl
  have hS:(a0Y b.lx b.hx && a0Y b.ly b.hy)=true->(onB (K7 b.lx)=true/\onB (flI b.hx)=true)/\(onB (K7 b.ly)=true/\onB (flI b.hy)=true):=fun h2=>by
    unfold a0Y at h2
    simp only [c6Q] at h2
    exact ⟨⟨h2.1.1.2,h2.1.2⟩,⟨h2.2.1.2,h2.2.2⟩⟩
  rw [hC]
  clear hon hC
  obtain ⟨lx,ly,hx,hy⟩:=b
  obtain ⟨b1,b2,b3,b4⟩:=hb
  simp only at b1 b2 b3 b4 hE hS ⊢
  have o1:=M6 (Nm.ofQ lx) (Nm.ofQ hx) (b1.mono (by decide)) (b3.mono (by decide))
  have o2:=M6 (Nm.ofQ ly) (Nm.ofQ hy) (b2.mono (by decide)) (b4.mono (by decide))
  rw [Nm.q8,Nm.q8] at o1 o2
  have o3:=b5B lx hx b1 b3
  have o4:=b5B ly hy b2 b4
  generalize ofE ⟨lx,ly,hx,hy⟩=E at *
  generalize Nm.q9 lx hx=c1 at *
  generalize Nm.q9 ly hy=c2 at *
  generalize a0Y lx hx=s1 at *
  generalize a0Y ly hy=s2 at *
  generalize K7 lx=x0 at *
  generalize K7 ly=y0 at *
  generalize flI hx=x1 at *
  generalize flI hy=y1 at *
  clear b1 b2 b3 b4
  simp only [j6]
  simp only [Bq.enc,rq,rc,sb,ints,cls] at o1 o2 o3 o4 ⊢
  (repeat first|refine uA ?_|(refine uK ?_ ?_;focus first|omega|(intros;simp_all<;>omega))|simp (disch:=omega) only [go_sem,Nat.reduceBEq,Nat.reduceAdd,ww]|(refine uD o1 ?_ ?_ ?_;exact tz hw;exact rfl)|(refine uD o2 ?_ ?_ ?_;exact tz hw;exact rfl))
  refine S.cond rfl (fun hc=>?_) (fun hc=>?_)
  · have h1:0 < c1 \/ 0 < c2:=by
      revert hc
      by_cases k1:0 < c1<;>by_cases k2:0 < c2<;>simp [k1,k2]
    rw [if_pos h1] at hE
    subst hE
    rw [if_neg (by decide)]
    (repeat first|refine uA ?_|(refine uK ?_ ?_;focus first|omega|(intros;simp_all<;>omega))|simp (disch:=omega) only [go_sem,Nat.reduceBEq,Nat.reduceAdd,ww])
    (refine S.done ?_;simp only [l9,p9,go_sem,Nat.reduceBEq,Nat.reduceAdd,Nat.reduceLeDiff,Int.reduceToNat,Int.reducePow];(repeat (refine ⟨?_,?_⟩;focus first|trivial|omega|simp));exact j4.out rfl (Imp.tup (by (repeat' (first|exact j5.nil|exact Imp.refl rfl|exact Imp.frz rfl rfl rfl|exact Imp.D8|refine Imp.agg ?_|refine j5.cons ?_ ?_)))) rfl)
  have h1:¬ (0 < c1 \/ 0 < c2):=by
    revert hc
    by_cases k1:0 < c1<;>by_cases k2:0 < c2<;>simp [k1,k2]
  rw [if_neg h1] at hE
  (repeat first|refine uA ?_|(refine uK ?_ ?_;focus first|omega|(intros;simp_all<;>omega))|simp (disch:=omega) only [go_sem,Nat.reduceBEq,Nat.reduceAdd,ww]|(refine uD o3 ?_ ?_ ?_;exact tz hw;exact rfl)|(refine uD o4 ?_ ?_ ?_;exact tz hw;exact rfl))
  refine S.cond rfl (fun hc=>?_) (fun hc=>?_)
  · have h2:(s1 && s2)=false:=by
      revert hc
      cases s1<;>cases s2<;>simp
    rw [if_pos h2] at hE
    subst hE
    rw [if_neg (by decide)]
    (repeat first|refine uA ?_|(refine uK ?_ ?_;focus first|omega|(intros;simp_all<;>omega))|simp (disch:=omega) only [go_sem,Nat.reduceBEq,Nat.reduceAdd,ww])
    (refine S.done ?_;simp only [l9,p9,go_sem,Nat.reduceBEq,Nat.reduceAdd,Nat.reduceLeDiff,Int.reduceToNat,Int.reducePow];(repeat (refine ⟨?_,?_⟩;focus first|trivial|omega|simp));exact j4.out rfl (Imp.tup (by (repeat' (first|exact j5.nil|exact Imp.refl rfl|exact Imp.frz rfl rfl rfl|exact Imp.D8|refine Imp.agg ?_|refine j5.cons ?_ ?_)))) rfl)
  have h2:(s1 && s2)=true:=by
    revert hc
    cases s1<;>cases s2<;>simp
  obtain ⟨⟨e1,e2⟩,e3,e4⟩:=hS h2
  rw [if_neg (by rw [h2];decide)] at hE
  rw [b5e] at e1 e2 e3 e4
  obtain ⟨A,hA⟩:∃ A,A=x1-x0+1:=⟨_,rfl⟩
  obtain ⟨B,hB⟩:∃ B,B=y1-y0+1:=⟨_,rfl⟩
  rw [<- hA,<- hB] at hE
  have hP:-65536<=A*B/\A*B<=65536:=by
    have a1:-128<=A/\A<=128:=by omega
    have a2:-128<=B/\B<=128:=by omega
    have hq:=Int.natAbs_mul A B
    have:=Nat.mul_le_mul (show A.natAbs<=128 by omega) (show B.natAbs<=128 by omega)
    omega
  have hA':x1-x0+1=A:=hA.symm
  have hB':y1-y0+1=B:=hB.symm
  generalize hAB:A*B=AB at hE hP
  (repeat first|refine uA ?_|(refine uK ?_ ?_;focus first|omega|(intros;simp_all<;>omega))|simp (disch:=omega) only [go_sem,Nat.reduceBEq,Nat.reduceAdd,ww,hA',hB',hAB])
  refine S.cond rfl (fun hc=>?_) (fun hc=>?_)
  · rw [if_pos (by simpa using hc)] at hE
    subst hE
    rw [if_neg (by decide)]
    (repeat first|refine uA ?_|(refine uK ?_ ?_;focus first|omega|(intros;simp_all<;>omega))|simp (disch:=omega) only [go_sem,Nat.reduceBEq,Nat.reduceAdd,ww])
    (refine S.done ?_;simp only [l9,p9,go_sem,Nat.reduceBEq,Nat.reduceAdd,Nat.reduceLeDiff,Int.reduceToNat,Int.reducePow];(repeat (refine ⟨?_,?_⟩;focus first|trivial|omega|simp));exact j4.out rfl (Imp.tup (by (repeat' (first|exact j5.nil|exact Imp.refl rfl|exact Imp.frz rfl rfl rfl|exact Imp.D8|refine Imp.agg ?_|refine j5.cons ?_ ?_)))) rfl)
  rw [if_neg (by simpa using hc)] at hE
  subst hE
  rw [if_pos rfl]
  obtain ⟨m,hm⟩:∃ m,m=wid x0 x1:=⟨_,rfl⟩
  obtain ⟨n,hn⟩:∃ n,n=wid y0 y1:=⟨_,rfl⟩
  have hm':m=(x1+1-x0).toNat:=hm
  have hn':n=(y1+1-y0).toNat:=hn
  rw [<- hm,<- hn]
  have hlen:∀ i j,i<=n->j<=m->(a4H x0 y0 m i).length+j<=20000:=fun i j hi hj=>by
    rw [a9k]
    have:=Nat.mul_le_mul (show i<=128 by omega) (show m<=128 by omega)
    omega
  clear o1 o2 o3 o4 hP hAB hA' hB' hA hB hm hn
  (repeat first|refine uA ?_|(refine uK ?_ ?_;focus first|omega|(intros;simp_all<;>omega))|simp (disch:=omega) only [go_sem,Nat.reduceBEq,Nat.reduceAdd,ww])
  refine S.loop (X:=Nat) (fun i=>⟨[(4,ints x0),(5,ints x1),(8,ints y1),(10,.rv 1),(11,ints (y0+(i:Int)))],[.gone,.row 157 2 ((a4H x0 y0 m i).map ce)]⟩) (fun i=>i<=n) (fun i=>n-i) 0 (c6K _) (Ent.trans (Ent.pack 10 157 2 rfl) (by simp only [ints,Int.natCast_zero,Int.add_zero,show a4H x0 y0 m 0=[] from rfl,c6Z];exact (by (repeat first|refine uA ?_|(refine ⟨?_,?_⟩;focus first|rfl|simp [slot])|rfl|simp)))) ?_
  intro i hi
  simp only [ints]
  (repeat first|refine uA ?_|(refine uK ?_ ?_;focus first|omega|(intros;simp_all<;>omega))|simp (disch:=omega) only [go_sem,Nat.reduceBEq,Nat.reduceAdd,ww])
  (refine uJ rfl (fun hc=>?_) fun hc=>?_)
  · have hi':i < n:=by omega
    have hl0:=hlen i
    have hsu:=b1N x0 y0 m i
    generalize a4H x0 y0 m i=T at *
    obtain ⟨y,hy⟩:∃ y,y=y0+(i:Int):=⟨_,rfl⟩
    have hyn:y0+((i+1:Nat):Int)=y+1:=by omega
    rw [<- hy] at hsu ⊢
    (repeat first|refine uA ?_|(refine uK ?_ ?_;focus first|omega|(intros;simp_all<;>omega))|simp (disch:=omega) only [go_sem,Nat.reduceBEq,Nat.reduceAdd,ww])
    refine S.loop (X:=Nat) (fun j=>⟨[(4,ints x0),(5,ints x1),(8,ints y1),(10,.rv 1),(11,ints y),(12,ints (x0+(j:Int)))],[.gone,.row 157 2 ((T++a3c x0 y j).map ce)]⟩) (fun j=>j<=m) (fun j=>m-j) 0 (c6K _) (by simp only [ints,Int.natCast_zero,Int.add_zero,show a3c x0 y 0=[] from rfl,List.append_nil];exact (by (repeat first|refine uA ?_|(refine ⟨?_,?_⟩;focus first|rfl|simp [slot])|rfl|simp))) ?_
    intro j hj
    simp only [ints]
    (repeat first|refine uA ?_|(refine uK ?_ ?_;focus first|omega|(intros;simp_all<;>omega))|simp (disch:=omega) only [go_sem,Nat.reduceBEq,Nat.reduceAdd,ww])
    (refine uJ rfl (fun hc=>?_) fun hc=>?_)
    · have hj':j < m:=by omega
      have hl1:=hl0 j (by omega) hj
      have hrs:=b9s x0 y j
      have hrl:=b3m x0 y j
      have hxn:x0+((j+1:Nat):Int)=x0+(j:Int)+1:=by omega
      obtain ⟨x,hx⟩:∃ x,x=x0+(j:Int):=⟨_,rfl⟩
      rw [<- hx] at hrs hxn ⊢
      have hap:(T++a3c x0 y (j+1)).map ce=(T++a3c x0 y j).map ce++[[C.v (.int .i64 x),.v (.int .i64 y)]]:=by
        rw [hrs,<- c7u,c7t (l₂:=[(x,y)])]
        rfl
      have hTl:((T++a3c x0 y j).map ce).length<=20000:=by rw [c6F,c6M,hrl];exact hl1
      generalize (T++a3c x0 y j).map ce=R at *
      (repeat first|refine uA ?_|(refine uK ?_ ?_;focus first|omega|(intros;simp_all<;>omega))|simp (disch:=omega) only [go_sem,Nat.reduceBEq,Nat.reduceAdd,ww])
      refine S.next (j+1) (by omega) (by omega) (by simp only [ints,hxn,hap];exact (by (repeat first|refine uA ?_|(refine ⟨?_,?_⟩;focus first|rfl|simp [slot])|rfl|simp)))
    · have hj':j=m:=by omega
      subst hj'
      rw [<- hsu]
      (repeat first|refine uA ?_|(refine uK ?_ ?_;focus first|omega|(intros;simp_all<;>omega))|simp (disch:=omega) only [go_sem,Nat.reduceBEq,Nat.reduceAdd,ww])
      refine S.next (i+1) (by omega) (by omega) (by simp only [ints,hyn];exact (by (repeat first|refine uA ?_|(refine ⟨?_,?_⟩;focus first|rfl|simp [slot])|rfl|simp)))
  · have hi':i=n:=by omega
    subst hi'
    (repeat first|refine uA ?_|(refine uK ?_ ?_;focus first|omega|(intros;simp_all<;>omega))|simp (disch:=omega) only [go_sem,Nat.reduceBEq,Nat.reduceAdd,ww])
    (refine S.done ?_;simp only [l9,p9,go_sem,Nat.reduceBEq,Nat.reduceAdd,Nat.reduceLeDiff,Int.reduceToNat,Int.reducePow];(repeat (refine ⟨?_,?_⟩;focus first|trivial|omega|simp));exact j4.out rfl (Imp.tup (by (repeat' (first|exact j5.nil|exact Imp.refl rfl|exact Imp.frz rfl rfl rfl|exact Imp.D8|refine Imp.agg ?_|refine j5.cons ?_ ?_)))) rfl)
set_option maxRecDepth 10000
theorem b8m (x n:Int) (h:1<=n):x % n=(if x.tmod n < 0 then x.tmod n+n else x.tmod n)/\-n < x.tmod n/\x.tmod n < n:=by
 have hq:x=n*(x.tdiv n)+x.tmod n:=(Int.mul_tdiv_add_tmod x n).symm
 have he:x % n=x.tmod n % n:=by
  conv=>lhs;rw [hq]
  exact Int.mul_add_emod_self_left ..
 have h2:=Int.tmod_lt_of_pos x (show 0 < n by omega)
 have h3:-n < x.tmod n:=by
  have:=Int.tmod_lt_of_pos (-x) (show 0 < n by omega)
  rw [Int.neg_tmod] at this
  omega
 refine ⟨?_,h3,h2⟩
 rw [he]
 split
 ·rename_i hc
  have:x.tmod n % n=(x.tmod n+n) % n:=by simp
  rw [this]
  exact Int.emod_eq_of_lt (by omega) (by omega)
 ·exact Int.emod_eq_of_lt (by omega) (by omega)
theorem b9O (x n:Int) (h:1<=n/\n<=4611686018427387904):y9 Tryz.prog 143 [ints x,ints n] (ints (x % n)):=by
 refine kS Tryz.func143 (by cbv) (by rfl) fun w O=>?_
 simp only [j6,ints]
 have hn:¬ n=0:=by omega
 obtain ⟨he,hlt⟩:=b8m x n (by omega)
 (repeat first|refine uA ?_|(refine uK ?_ ?_;focus first|omega|(intros;simp_all<;>omega))|simp (disch:=omega) only [go_sem,Nat.reduceBEq,Nat.reduceAdd,ww,hn])
 (refine uJ rfl (fun hc=>?_) fun hc=>?_)
 ·rw [he,if_pos hc]
  (repeat first|refine uA ?_|(refine uK ?_ ?_;focus first|omega|(intros;simp_all<;>omega))|simp (disch:=omega) only [go_sem,Nat.reduceBEq,Nat.reduceAdd,ww])
  exact S.done (j4.out rfl (Imp.refl rfl) rfl)
 ·rw [he,if_neg hc]
  (repeat first|refine uA ?_|(refine uK ?_ ?_;focus first|omega|(intros;simp_all<;>omega))|simp (disch:=omega) only [go_sem,Nat.reduceBEq,Nat.reduceAdd,ww])
  exact S.done (j4.out rfl (Imp.refl rfl) rfl)
def V8 (l:List Int):C:=.sl 1 (l.map fun n=>[.v (.int .i64 n)])
theorem a1c {E:Ctx} (hP:E.P=Tryz.prog) (l:List Int) (n:Int) (h:1<=n/\n<=4611686018427387904) :
  l8 E [.box 142 [V8 l]] 79 [.bp 0 0,ints n] (ints (nx l n)) [.box 142 [V8 (l.drop 1)]] []:=by
 obtain ⟨P,eff',N,w0,own0,av0,nu0,pk0⟩:=E
 simp only at hP
 subst hP
 refine l8.of (eff:=eff) Tryz.func79 (by cbv) (by exact c6Y rfl) fun w own av ν hν=>?_
 have hν0:ν.length<=1:=by rw [hν];exact c6N _
 have hn1:decide (n < 1)=false:=decide_eq_false (by omega)
 cases l with
 | nil=>
  have e:nx [] n=0:=by unfold nx;rw [List.headD_nil,Int.zero_emod]
  rw [e]
  simp only [j6,V8,ints,List.drop_nil,c6Z]
  (repeat first|refine uA ?_|(refine uK ?_ ?_;focus first|omega|(intros;simp_all<;>omega))|simp (disch:=omega) only [go_sem,Nat.reduceBEq,Nat.reduceAdd,ww,hn1,List.length_nil])
  refine S.cond rfl (fun hc=>?_) (fun hc=>by simp at hc)
  (repeat first|refine uA ?_|(refine uK ?_ ?_;focus first|omega|(intros;simp_all<;>omega))|simp (disch:=omega) only [go_sem,Nat.reduceBEq,Nat.reduceAdd,ww])
  (refine S.done ?_;simp only [l9,p9,go_sem,Nat.reduceBEq,Nat.reduceAdd,Nat.reduceLeDiff,Int.reduceToNat,Int.reducePow];(repeat (refine ⟨?_,?_⟩;focus first|trivial|omega|simp));exact j4.M9 (Imp.refl rfl) (by (repeat first|refine uA ?_|(refine ⟨?_,?_⟩;focus first|rfl|simp [slot])|rfl|simp)) (c6L hν0 (by simp)))
 | cons x r=>
  have e:nx (x::r) n=x % n:=by unfold nx;rw [List.headD_cons]
  rw [e]
  have hb:=b9O x n h
  have h0:decide (((r.length:Int)+1)=0)=false:=decide_eq_false (by omega)
  simp only [j6,V8,ints,c6V,List.drop_succ_cons,List.drop_zero] at *
  (repeat first|refine uA ?_|(refine uK ?_ ?_;focus first|omega|(intros;simp_all<;>omega))|simp (disch:=omega) only [go_sem,Nat.reduceBEq,Nat.reduceAdd,ww,hn1,h0,c7g,c6F]|(refine uB hb ?_ ?_;exact rfl))
  refine S.cond rfl (fun hc=>by simp at hc;omega) (fun hc=>?_)
  (repeat first|refine uA ?_|(refine uK ?_ ?_;focus first|omega|(intros;simp_all<;>omega))|simp (disch:=omega) only [go_sem,Nat.reduceBEq,Nat.reduceAdd,ww,hn1,c7g,c6F,List.getElem?_cons_zero,a9H,List.take_succ_cons,List.drop_succ_cons,Nat.add_sub_cancel,c6X]|(refine uB hb ?_ ?_;exact rfl))
  (refine S.done ?_;simp only [l9,p9,go_sem,Nat.reduceBEq,Nat.reduceAdd,Nat.reduceLeDiff,Int.reduceToNat,Int.reducePow];(repeat (refine ⟨?_,?_⟩;focus first|trivial|omega|simp));exact j4.M9 (Imp.refl rfl) (by (repeat first|refine uA ?_|(refine ⟨?_,?_⟩;focus first|rfl|simp [slot])|rfl|simp)) (c6L hν0 (by simp)))
set_option maxRecDepth 100000
set_option maxHeartbeats 4000000
def nuI (a:Nm.Rt):Int:=Nm.sgn a.neg (Nm.val a.num)
def deI (a:Nm.Rt):Int:=max (Nm.val a.den:Int) 1
def c5z (x:Lk) (k:Int):Nm.Rt:=Q (8*nuI x.low*deI x.high+(nuI x.high*deI x.low-nuI x.low*deI x.high)*k) (8*deI x.low*deI x.high)
def c1Z:List Lk->List Int->List Nm.Rt
 | [],_=>[]
 | x::r,l=>c5z x (nx l 9)::c1Z r (l.drop 1)
structure c6y (x:Lk) (k:Int):Prop where
 n1:-1000000<=nuI x.low/\nuI x.low<=1000000
 n2:-1000000<=nuI x.high/\nuI x.high<=1000000
 d1:1<=deI x.low/\deI x.low<=1000
 d2:1<=deI x.high/\deI x.high<=1000
 p1:-1000000000<=nuI x.low*deI x.high/\nuI x.low*deI x.high<=1000000000
 p2:-1000000000<=nuI x.high*deI x.low/\nuI x.high*deI x.low<=1000000000
 p3:-16000000000<=(nuI x.high*deI x.low-nuI x.low*deI x.high)*k/\(nuI x.high*deI x.low-nuI x.low*deI x.high)*k<=16000000000
 p4:1<=deI x.low*deI x.high/\deI x.low*deI x.high<=1000000
 p5:8*nuI x.low*deI x.high=8*(nuI x.low*deI x.high)
 p6:8*deI x.low*deI x.high=8*(deI x.low*deI x.high)
theorem a8R (l:List UInt8) (b:UInt8):Nm.val (l++[b])=256*Nm.val l+b.toNat:=by
 unfold Nm.val
 rw [List.foldl_append]
 rfl
def c5A (x:Lk) (c q:Nm.Rt):Nm.Rt:=Nm.ofQ (G8 (-(Nm.d9 x.speed)) (G9 (Nm.d9 x.speed) (Nm.d9 c-Nm.d9 q)))
def c5i (L:List Lk) (c q:List Nm.Rt):List Nm.Rt:=(L.zip (c.zip q)).map fun z=>c5A z.1 z.2.1 z.2.2
def c5J (z:List (Am × Ast)) (to:List Int) (i:Nat):List Nm.Rt:=match z[i]? with
 | some (a,x)=>c5i a.links (c1Z a.links (to.drop (3*i))) x.q
 | none=>[]
def c1x (z:List (Am × Ast)) (to:List Int) (n:Nat):List (List Nm.Rt):=(List.range n).map (c5J z to)
structure c6B (w:Wk) (s:Stt) (k:Nat):Prop where
 st:a2U w s=0
 q:∀ x ∈ s.arms,∀ r ∈ x.q,Rb (100+1000*k) r
structure c3W (y b:Ast) (j:Nat) (v:Nm.Rt):Prop where
 ex:∃ bv q bq,b.v[j]?=some bv/\y.q[j]?=some q/\b.q[j]?=some bq/\¬ 0 < Nm.q9 (r9 (Nm.d9 v)) (r9 (Nm.d9 bv))/\(z8 (Nm.d9 bv)=0->q=bq)/\Rb 1048576 bv/\Rb 1048576 v
structure c6C (y b:Ast):Prop where
 power:y.power=false
 vlen:y.v.length=b.v.length
 qlen:y.q.length=y.v.length
 small:y.v.length<=3
 joint:∀ j v,y.v[j]?=some v->c3W y b j v
structure c6A (w:Wk) (s:Stt) (to:List Int):Prop where
 step:c5B w s (c1x (w.arms.zip s.arms) to w.arms.length) (List.replicate w.arms.length true) []=0
 next:Calm w (c5s w s (c1x (w.arms.zip s.arms) to w.arms.length) (List.replicate w.arms.length true) []) 1
set_option maxRecDepth 10000
set_option maxHeartbeats 8000000
instance :DecidableEq Nm.Rt:=fun ⟨a,b,c⟩ ⟨d,e,f⟩=>decidable_of_iff (a=d/\b=e/\c=f) ⟨fun ⟨h1,h2,h3⟩=>by rw [h1,h2,h3],fun h=>by injection h with h1 h2 h3;exact ⟨h1,h2,h3⟩⟩
instance :DecidableEq Vt:=fun ⟨a,b⟩ ⟨d,e⟩=>decidable_of_iff (a=d/\b=e) ⟨fun ⟨h1,h2⟩=>by rw [h1,h2],fun h=>by injection h with h1 h2;exact ⟨h1,h2⟩⟩
instance :DecidableEq Fr:=fun ⟨a,b,c,g⟩ ⟨d,e,f,h⟩=>decidable_of_iff (a=d/\b=e/\c=f/\g=h) ⟨fun ⟨h1,h2,h3,h4⟩=>by rw [h1,h2,h3,h4],fun h=>by injection h with h1 h2 h3 h4;exact ⟨h1,h2,h3,h4⟩⟩
instance :DecidableEq Ast:=fun ⟨a,b,c,g⟩ ⟨d,e,f,h⟩=>decidable_of_iff (a=d/\b=e/\c=f/\g=h) ⟨fun ⟨h1,h2,h3,h4⟩=>by rw [h1,h2,h3,h4],fun h=>by injection h with h1 h2 h3 h4;exact ⟨h1,h2,h3,h4⟩⟩
instance :DecidableEq Stt:=fun ⟨a,b,c,g,i⟩ ⟨d,e,f,h,j⟩=>decidable_of_iff (a=d/\b=e/\c=f/\g=h/\i=j) ⟨fun ⟨h1,h2,h3,h4,h5⟩=>by rw [h1,h2,h3,h4,h5],fun h=>by injection h with h1 h2 h3 h4 h5;exact ⟨h1,h2,h3,h4,h5⟩⟩
theorem c0N (a b:List Bool) (hn:a.length<=1000000000000) (hb:b.length<=1000000000000):y9 Tryz.prog 17 [bls a,bls b] (.v (.bool (decide (a=b)))):=by
  refine kS Tryz.func17 (by cbv) (by rfl) fun w O=>?_
  simp only [j6,ints,bls]
  (repeat first|refine uA ?_|(refine uK ?_ ?_;focus first|omega|(intros;simp_all<;>omega))|simp (disch:=omega) only [go_sem,Nat.reduceBEq,Nat.reduceAdd,ww,c6F])
  (refine uJ rfl (fun hc=>?_) fun hc=>?_)
  · have hne:¬ a=b:=fun e=>hc (by rw [e])
    rw [decide_eq_false hne]
    (repeat first|refine uA ?_|(refine uK ?_ ?_;focus first|omega|(intros;simp_all<;>omega))|simp (disch:=omega) only [go_sem,Nat.reduceBEq,Nat.reduceAdd,ww])
    exact S.done (j4.out rfl (Imp.refl rfl) rfl)
  have hlen:a.length=b.length:=by omega
  (repeat first|refine uA ?_|(refine uK ?_ ?_;focus first|omega|(intros;simp_all<;>omega))|simp (disch:=omega) only [go_sem,Nat.reduceBEq,Nat.reduceAdd,ww,c6F])
  refine S.loop (X:=Nat) (fun i=>⟨[(0,bls a),(1,bls b),(12,ints a.length),(13,ints i)],[]⟩)
    (fun i=>i<=a.length/\a.take i=b.take i) (fun i=>a.length-i) 0 ⟨c6K _,by simp⟩ (by (repeat first|refine uA ?_|(refine ⟨?_,?_⟩;focus first|rfl|simp [slot])|rfl|simp)) ?_
  rintro i ⟨hi,he⟩
  simp only [ints,bls] at hi ⊢
  (repeat first|refine uA ?_|(refine uK ?_ ?_;focus first|omega|(intros;simp_all<;>omega))|simp (disch:=omega) only [go_sem,Nat.reduceBEq,Nat.reduceAdd,ww])
  (refine uJ rfl (fun hc=>?_) fun hc=>?_)
  · have hgi:=c6E (show i < a.length by omega)
    have hgj:=c6E (show i < b.length by omega)
    have hti:=c7w (show i < a.length by omega)
    have htj:=c7w (show i < b.length by omega)
    generalize a[i]'_=z at hgi hti
    generalize b[i]'_=y at hgj htj
    by_cases hzy:z=y
    · subst hzy
      (repeat first|refine uA ?_|(refine uK ?_ ?_;focus first|omega|(intros;simp_all<;>omega))|simp (disch:=omega) only [go_sem,Nat.reduceBEq,Nat.reduceAdd,ww,hgi,hgj,c6G,c6F,sb,c6I,a8b,c7x,decide_true])
      refine S.cond rfl (fun hc2=>by simp at hc2) (fun hc2=>?_)
      (repeat first|refine uA ?_|(refine uK ?_ ?_;focus first|omega|(intros;simp_all<;>omega))|simp (disch:=omega) only [go_sem,Nat.reduceBEq,Nat.reduceAdd,ww])
      refine S.next (i+1) ⟨by omega,by rw [hti,htj,he]⟩ (by omega) (by (repeat first|refine uA ?_|(refine ⟨?_,?_⟩;focus first|rfl|simp [slot])|rfl|simp))
    · have hne:¬ a=b:=fun e=>by
        subst e
        rw [hgi] at hgj
        injection hgj with hgj
        exact hzy hgj
      skip
      skip
      (repeat first|refine uA ?_|(refine uK ?_ ?_;focus first|omega|(intros;simp_all<;>omega))|simp (disch:=omega) only [go_sem,Nat.reduceBEq,Nat.reduceAdd,ww,hgi,hgj,c6G,c6F,sb,c6I,a8b])
      refine S.cond rfl (fun hc2=>?_) (fun hc2=>by simp at hc2 hzy;simp_all)
      rw [decide_eq_false hne]
      (repeat first|refine uA ?_|(refine uK ?_ ?_;focus first|omega|(intros;simp_all<;>omega))|simp (disch:=omega) only [go_sem,Nat.reduceBEq,Nat.reduceAdd,ww])
      exact S.done (j4.out rfl (Imp.refl rfl) rfl)
  have hi':i=a.length:=by omega
  subst hi'
  have hab:a=b:=by
    rw [c6X] at he
    rw [hlen,c6X] at he
    exact he
  rw [decide_eq_true hab]
  (repeat first|refine uA ?_|(refine uK ?_ ?_;focus first|omega|(intros;simp_all<;>omega))|simp (disch:=omega) only [go_sem,Nat.reduceBEq,Nat.reduceAdd,ww])
  exact S.done (j4.out rfl (Imp.refl rfl) rfl)
set_option maxHeartbeats 4000000
def azL:List UInt8:=[97,98,99,100,101,102,103,104,105,106,107,108,109,110,111,112,113,114,115,116,117,118,119,120,121,122]
theorem c4t:∀ n:Fin 256,azL.contains (UInt8.ofNat n)=J8 (UInt8.ofNat n):=by decide +kernel
theorem b7B (b:UInt8):azL.contains b=J8 b:=by
 have h:=c4t ⟨b.toNat,b.toNat_lt⟩
 simpa using h
theorem b8h {p:UInt8->Bool} {x:UInt8}:∀ {l:List UInt8},x ∈ l.takeWhile p->p x=true
 | [],h=>by simp at h
 | y::l,h=>by
  rw [List.takeWhile_cons] at h
  split at h
  ·rcases List.mem_cons.1 h with rfl|h
   ·assumption
   ·exact b8h h
  ·cases h
theorem b3n {p:UInt8->Bool}:∀ {l:List UInt8},l.dropWhile p=[] <-> l.all p=true
 | []=>by simp
 | x::l=>by
  rw [List.dropWhile_cons,List.all_cons]
  cases h:p x
  ·simp
  ·simpa using b3n (p:=p) (l:=l)
theorem c0M (l:List UInt8):Lib.trimS l azL=[] <-> l.all J8=true:=by
 have hf:(fun b=>azL.contains b)=J8:=funext b7B
 unfold Lib.trimS Lib.trimLeftS Lib.trimRightS
 rw [hf,b3n]
 constructor
 ·intro h
  rw [List.all_eq_true] at h ⊢
  intro x hx
  cases hl:J8 x with
  | true=>rfl
  | false=>
   have:x ∈ (l.reverse.dropWhile J8).reverse:=by
    rw [List.mem_reverse]
    have hx':x ∈ l.reverse:=List.mem_reverse.2 hx
    rw [<- List.takeWhile_append_dropWhile (p:=J8) (l:=l.reverse)] at hx'
    rcases List.mem_append.1 hx' with h1|h1
    ·have:=b8h h1
     rw [hl] at this;cases this
    ·exact h1
   have:=h x this
   rw [hl] at this;cases this
 ·intro h
  rw [List.all_eq_true] at h ⊢
  intro x hx
  exact h x (List.mem_reverse.1 ((List.dropWhile_sublist _).mem (List.mem_reverse.1 hx)))
theorem c2t (s:List UInt8) (hs:s.length<=1099511627776):y9 Tryz.prog 73 [sb s,.v (.string ⟨#[97,98,99,100,101,102,103,104,105,106,107,108,109,110,111,112,113,114,115,116,117,118,119,120,121,122]⟩)] (sb (Lib.trimS s azL)):=by
 intro O w vs hO hA
 simp only [FzL,sb,Fz] at hA
 obtain ⟨y,ys,rfl,rfl,z,zs,rfl,rfl,rfl⟩:=hA
 refine (Any.strings_Trim_laid Tryz.c3t (by kernel_rfl) (bs s) ⟨#[97,98,99,100,101,102,103,104,105,106,107,108,109,110,111,112,113,114,115,116,117,118,119,120,121,122]⟩ w (by rw [D9];omega) (by decide) (ascii_of_all (by decide))).mono ?_
 rintro e w' ⟨rfl,hb⟩
 exact ⟨_,rfl,hb,by simp only [sb,Fz,Y1];rfl⟩
theorem c3e (s:List UInt8) (hs:s.length<=1099511627776):y9 Tryz.prog 37 [sb s] (.v (.bool (a0H s))):=by
 refine kS Tryz.func37 (by cbv) (by rfl) fun w O=>?_
 have h:=c2t s hs
 have e:a0H s=((!decide (s=[]) && decide ((s.length:Int)<=12)) && decide (Lib.trimS s azL=[])):=by
  have h1:decide (Lib.trimS s azL=[])=s.all J8:=by
   have:=c0M s
   cases h:s.all J8
   ·exact decide_eq_false (fun h2=>by rw [this.1 h2] at h;cases h)
   ·exact decide_eq_true (this.2 h)
  have h2:(s.all fun b=>decide (97<=b.toNat) && decide (b.toNat<=122))=s.all J8:=rfl
  have h3:decide (1<=s.length)=!decide (s=[]):=by cases s<;>simp
  have h4:decide (s.length<=12)=decide ((s.length:Int)<=12):=by apply decide_eq_decide.2;omega
  unfold a0H
  rw [h1,h2,h3,h4]
  cases s.all J8<;>cases (decide (s=[]))<;>cases (decide ((s.length:Int)<=12))<;>rfl
 rw [e]
 generalize Lib.trimS s azL=t at *
 simp only [j6]
 simp only [sb] at *
 (repeat first|refine uA ?_|(refine uK ?_ ?_;focus first|omega|(intros;simp_all<;>omega))|simp (disch:=omega) only [go_sem,Nat.reduceBEq,Nat.reduceAdd,ww,D9,Y8,decide_not]|(refine uB h ?_ ?_;exact rfl))
 exact S.done (j4.out rfl (Imp.refl rfl) rfl)
theorem b2E {α:Type} {f:α->Bool} {l:List α} {i:Nat} {x:α} (h:l[i]?=some x):(l.drop i).all f=(f x && (l.drop (i+1)).all f):=by
 obtain ⟨h1,h2⟩:=c6J.1 h
 rw [List.drop_eq_getElem_cons h1,List.all_cons,h2]
theorem b5Q {α:Type} {f:α->Bool} {l:List α} {i:Nat} (h:l.length<=i):(l.drop i).all f=true:=by rw [List.drop_eq_nil_of_le h];rfl
theorem Z6 {a:Nm.Rt}:l6 a=(decide a.F5 && l6 a):=by
 unfold l6
 cases decide a.F5<;>simp
theorem a4F (l:List Nm.Rt) (hl:Rbs 17179869184 l):FZ 41 [rts l] (.v (.bool (l.all l6))):=by
 refine kW Tryz.func41 (by cbv) (by rfl) fun w O hw=>?_
 obtain ⟨hn,hb⟩:=hl
 simp only [j6,rts]
 (repeat first|refine uA ?_|(refine uK ?_ ?_;focus first|omega|(intros;simp_all<;>omega))|simp (disch:=omega) only [go_sem,Nat.reduceBEq,Nat.reduceAdd,ww,c6F])
 refine S.loop (X:=Nat) (fun i=>⟨[(5,rts l),(6,ints l.length),(7,ints i)],[]⟩) (fun i=>i<=l.length/\l.all l6=(l.drop i).all l6) (fun i=>l.length-i) 0 ⟨c6K _,rfl⟩ (by (repeat first|refine uA ?_|(refine ⟨?_,?_⟩;focus first|rfl|simp [slot])|rfl|simp)) ?_
 rintro i ⟨hi,hg⟩
 simp only [rts,ints] at hi ⊢
 (repeat first|refine uA ?_|(refine uK ?_ ?_;focus first|omega|(intros;simp_all<;>omega))|simp (disch:=omega) only [go_sem,Nat.reduceBEq,Nat.reduceAdd,ww])
 (refine uJ rfl (fun hc=>?_) fun hc=>?_)
 ·have hgi:=c6E (show i < l.length by omega)
  generalize l[i]'(_)=x at hgi
  have hx:=hb x (c6H hgi)
  have hs:=b2E (f:=l6) hgi
  have o1:=a0q x (hx.mono (by decide))
  have o2:=a2W x hx
  rw [Z6] at hs
  generalize decide x.F5=q1 at *
  generalize l6 x=q2 at *
  simp only [rc,sb] at o1 o2
  (repeat first|refine uA ?_|(refine uK ?_ ?_;focus first|omega|(intros;simp_all<;>omega))|simp (disch:=omega) only [go_sem,Nat.reduceBEq,Nat.reduceAdd,ww,hgi,c6G,c6F,rcs,sb,c6I]|(refine uD o1 ?_ ?_ ?_;exact tz hw;exact rfl)|(refine uD o2 ?_ ?_ ?_;exact tz hw;exact rfl))
  refine S.cond rfl (fun hc2=>?_) (fun hc2=>?_)
  ·rw [hg,hs,show (q1 && q2)=false by cases q1<;>cases q2<;>simp_all,Bool.false_and]
   (repeat first|refine uA ?_|(refine uK ?_ ?_;focus first|omega|(intros;simp_all<;>omega))|simp (disch:=omega) only [go_sem,Nat.reduceBEq,Nat.reduceAdd,ww])
   exact S.done (j4.out rfl (Imp.refl rfl) rfl)
  ·(repeat first|refine uA ?_|(refine uK ?_ ?_;focus first|omega|(intros;simp_all<;>omega))|simp (disch:=omega) only [go_sem,Nat.reduceBEq,Nat.reduceAdd,ww])
   refine S.next (i+1) ⟨by omega,by rw [hg,hs,show (q1 && q2)=true by cases q1<;>cases q2<;>simp_all,Bool.true_and]⟩ (by omega) (by (repeat first|refine uA ?_|(refine ⟨?_,?_⟩;focus first|rfl|simp [slot])|rfl|simp))
 ·rw [hg,b5Q (by omega)]
  (repeat first|refine uA ?_|(refine uK ?_ ?_;focus first|omega|(intros;simp_all<;>omega))|simp (disch:=omega) only [go_sem,Nat.reduceBEq,Nat.reduceAdd,ww])
  exact S.done (j4.out rfl (Imp.refl rfl) rfl)
theorem okF_eq (f:Fr):okF f=([f.x,f.y,f.t].all l6 && !a3B f.half f.t):=by
 rw [a7k,Z6 (a:=f.x),Z6 (a:=f.y),Z6 (a:=f.t)]
 unfold okF okV
 simp only
 generalize a3B f.half f.t=z
 cases decide f.x.F5<;>cases decide f.y.F5<;>cases decide f.t.F5<;>cases l6 f.x<;>cases l6 f.y<;>cases l6 f.t<;>cases z<;>rfl
theorem b3P (v:Vt):okV v=[v.x,v.y].all l6:=by
 rw [a8c,Z6 (a:=v.x),Z6 (a:=v.y)]
 unfold okV
 cases decide v.x.F5<;>cases decide v.y.F5<;>cases l6 v.x<;>cases l6 v.y<;>rfl
theorem b2y (f:Fr) (hf:Fb 17179869184 f):FZ 40 [f.c] (.v (.bool (okF f))):=by
 refine kW Tryz.func40 (by cbv) (by rfl) fun w O hw=>?_
 rw [okF_eq]
 obtain ⟨x,y,half,t⟩:=f
 obtain ⟨b1,b2,b3⟩:=hf
 simp only at b1 b2 b3
 have h1:=a4F _ (Rbs.three (by decide) b1 b2 b3)
 have h4:=O9 t b3
 unfold a3B
 simp only
 generalize [x,y,t].all l6=q1 at *
 generalize z8 (Nm.d9 t)=n at *
 simp only [j6]
 simp only [Fr.c,Fr.enc,rts,rcs,rc,sb,ints,c6V,c6Z] at *
 (repeat first|refine uA ?_|(refine uK ?_ ?_;focus first|omega|(intros;simp_all<;>omega))|simp (disch:=omega) only [go_sem,Nat.reduceBEq,Nat.reduceAdd,ww]|(refine uD h4 ?_ ?_ ?_;exact tz hw;exact rfl)|(refine uE h1 ?_ ?_ ?_ ?_;exact tz hw;exact rfl;focus (repeat' first|exact j5.nil|exact Imp.refl rfl|exact Imp.frz rfl rfl rfl|(refine Imp.M8 rfl rfl ?_ ?_;(focus ((try simp only [c6M]);omega));(focus first|rfl|assumption))|refine j5.cons ?_ ?_);done))
 exact S.done (j4.out rfl (Imp.refl (by rfl)) rfl)
theorem b2u (l:List Vt) (hl:Vbs 1073741824 l):FZ 39 [vts l] (ints (N9 l)):=by
 refine kW Tryz.func39 (by cbv) (by rfl) fun w O hw=>?_
 have h1:=a5N l hl
 obtain ⟨hn,hb⟩:=hl
 unfold N9
 generalize U9 l 8=e at *
 simp only [j6]
 simp only [vts,ints] at *
 (repeat first|refine uA ?_|(refine uK ?_ ?_;focus first|omega|(intros;simp_all<;>omega))|simp (disch:=omega) only [go_sem,Nat.reduceBEq,Nat.reduceAdd,ww]|(refine uD h1 ?_ ?_ ?_;exact tz hw;exact rfl))
 refine S.cond rfl (fun hc=>?_) (fun hc=>?_)
 ·rw [if_pos (by simpa using hc)]
  (repeat first|refine uA ?_|(refine uK ?_ ?_;focus first|omega|(intros;simp_all<;>omega))|simp (disch:=omega) only [go_sem,Nat.reduceBEq,Nat.reduceAdd,ww])
  exact S.done (j4.out rfl (Imp.refl rfl) rfl)
 rw [if_neg (by simpa using hc)]
 (repeat first|refine uA ?_|(refine uK ?_ ?_;focus first|omega|(intros;simp_all<;>omega))|simp (disch:=omega) only [go_sem,Nat.reduceBEq,Nat.reduceAdd,ww,c6F])
 refine S.loop (X:=Nat) (fun i=>⟨[(11,vts l),(12,ints l.length),(13,ints i)],[]⟩) (fun i=>i<=l.length/\l.all okV=(l.drop i).all okV) (fun i=>l.length-i) 0 ⟨c6K _,rfl⟩ (by (repeat first|refine uA ?_|(refine ⟨?_,?_⟩;focus first|rfl|simp [slot])|rfl|simp)) ?_
 rintro i ⟨hi,hg⟩
 simp only [vts,ints] at hi ⊢
 (repeat first|refine uA ?_|(refine uK ?_ ?_;focus first|omega|(intros;simp_all<;>omega))|simp (disch:=omega) only [go_sem,Nat.reduceBEq,Nat.reduceAdd,ww])
 (refine uJ rfl (fun hc=>?_) fun hc=>?_)
 ·have hgi:=c6E (show i < l.length by omega)
  generalize l[i]'(_)=v at hgi
  have hv:=hb v (c6H hgi)
  have hs:=b2E (f:=okV) hgi
  rw [b3P] at hs
  have o1:=a4F _ (Rbs.two (by decide) (hv.1.mono (m:=17179869184) (by decide)) (hv.2.mono (m:=17179869184) (by decide)))
  generalize [v.x,v.y].all l6=q at *
  simp only [rts,rcs,sb,c6V,c6Z] at o1
  (repeat first|refine uA ?_|(refine uK ?_ ?_;focus first|omega|(intros;simp_all<;>omega))|simp (disch:=omega) only [go_sem,Nat.reduceBEq,Nat.reduceAdd,ww,hgi,c6G,c6F,Vt.enc,sb,c6I]|(refine uE o1 ?_ ?_ ?_ ?_;exact tz hw;exact rfl;focus (repeat' first|exact j5.nil|exact Imp.refl rfl|exact Imp.frz rfl rfl rfl|(refine Imp.M8 rfl rfl ?_ ?_;(focus ((try simp only [c6M,hgi,c6G,c6F,Vt.enc,sb,c6I]);omega));(focus first|rfl|assumption))|refine j5.cons ?_ ?_);done))
  refine S.cond rfl (fun hc2=>?_) (fun hc2=>?_)
  ·rw [hg,hs,show q=false by simpa using hc2,Bool.false_and,if_neg (by decide)]
   (repeat first|refine uA ?_|(refine uK ?_ ?_;focus first|omega|(intros;simp_all<;>omega))|simp (disch:=omega) only [go_sem,Nat.reduceBEq,Nat.reduceAdd,ww])
   exact S.done (j4.out rfl (Imp.refl rfl) rfl)
  ·(repeat first|refine uA ?_|(refine uK ?_ ?_;focus first|omega|(intros;simp_all<;>omega))|simp (disch:=omega) only [go_sem,Nat.reduceBEq,Nat.reduceAdd,ww])
   refine S.next (i+1) ⟨by omega,by rw [hg,hs,show q=true by simpa using hc2,Bool.true_and]⟩ (by omega) (by (repeat first|refine uA ?_|(refine ⟨?_,?_⟩;focus first|rfl|simp [slot])|rfl|simp))
 ·rw [hg,b5Q (by omega),if_pos rfl]
  (repeat first|refine uA ?_|(refine uK ?_ ?_;focus first|omega|(intros;simp_all<;>omega))|simp (disch:=omega) only [go_sem,Nat.reduceBEq,Nat.reduceAdd,ww])
  exact S.done (j4.out rfl (Imp.refl rfl) rfl)
end Go.Proofs.YtpffebkbmcbmgaaGreatDoor
namespace Go.Proofs.YtpffebkbmcbmgaaGreatDoor.Eng
open Go Go.RowKit
theorem l8.b6Q {E:Ctx} {rs rs':List Res} {pk:List Nat} (ex:List Res) {f:Nat} {args:List C} {s:C} (h:l8 E rs f args s rs' pk) (hl:rs'.length=rs.length) (hb:rs.all (Res.bdr rs.length)=true) (ha:C.bdL rs.length args=true):l8 E (rs++ex) f args s (rs'++ex.map (Res.A8 pk)) pk:=by
 intro av ν w vs hR hav hF hD
 have hlen:=hR.len
 have hl1:(ν.take rs.length).length=rs.length:=by rw [c6O,hlen,c6M];omega
 generalize hν1:ν.take rs.length=ν1 at hl1
 have hown:=fun b=>a3H hlen b
 rw [hν1] at hown
 have hx:∀ b k r x,ex[k]?=some r->ν[rs.length+k]?=some x->fp r x b->¬ owned rs ν1 b:=by
  rintro b k r x h1 h2 h3 ⟨l,q,y,g1,g2,g3⟩
  have hlt:=(c6J.1 g1).1
  rw [<- hν1] at g2
  exact hR.dis l (rs.length+k) q r y x b (by omega) (by rw [c6R hlt];exact g1) (by rw [c6W (by omega),show rs.length+k-rs.length=k by omega];exact h1) (Y4 g2) h2 g3 h3
 let av':Nat->Prop:=fun b=>OO av (rs++ex) ν b/\¬ owned rs ν1 b
 have hOO:∀ b,OO av' rs ν1 b->OO av (rs++ex) ν b:=fun b hb=>by
  rcases hb with hb|hb
  ·exact hb.1
  ·exact .inr ((hown b).2 (.inl hb))
 have hRG:RG av' E.own0 E.w0.heap.size ν1 rs w:=by
  refine ⟨hl1,fun k r hk=>?_,fun l m q q' y y' b hne h1 h2 h3 h4=>?_,fun b hb=>?_,fun b hb=>?_,hR.n0⟩
  ·have hlt:=(c6J.1 hk).1
   obtain ⟨x,hx,hok⟩:=hR.res k r (by rw [c6R hlt];exact hk)
   refine ⟨x,by rw [<- hν1];exact K4 hlt hx,?_⟩
   rw [<- hν1]
   rw [List.all_eq_true] at hb
   exact b8l (hb r (c6H hk)) (by rw [hν1];exact hOO) hok
  ·have g1:=(c6J.1 h1).1
   have g2:=(c6J.1 h2).1
   rw [<- hν1] at h3 h4
   exact hR.dis l m q q' y y' b hne (by rw [c6R g1];exact h1) (by rw [c6R g2];exact h2) (Y4 h3) (Y4 h4)
  ·obtain ⟨g1,g2,g3⟩:=hR.low b ((hown b).2 (.inl hb))
   exact ⟨g1,fun h=>h.2 hb,g3⟩
  ·rcases hb.1 with h1|h1
   ·exact hR.av b h1
   ·exact (hR.low b h1).1
 have hnav:∀ b,av b->¬ owned rs ν1 b:=fun b hb ho=>(hR.low b ((hown b).2 (.inl ho))).2.1 hb
 have hD':l7 ν1 w (OO av' rs ν1) args vs:=by
  have:=l7.keep (Keeps.sub hOO) (l7.takeν rs.length ha hD)
  rwa [hν1] at this
 refine (h av' ν1 w vs hRG (fun b hb=>⟨.inl (hav b hb),hnav b (hav b hb)⟩) hF hD').mono ?_
 rintro e w' ⟨y,ν',rfl,h1,h2,h3⟩
 have hl':ν'.length=rs.length:=by rw [h1.len,hl]
 let ν2:List Value:=ν'++ν.drop rs.length
 have hdl:(ν.drop rs.length).length=ex.length:=by rw [c7s,hlen,c6M];omega
 have hlen':ν2.length=(rs'++ex.map (Res.A8 pk)).length:=by rw [c6M,c6M,hl',hdl,hl,c6F]
 have tk:ν2.take rs'.length=ν':=by rw [hl,<- hl'];simp [ν2]
 have tl:∀ k,ν2[rs.length+k]?=ν[rs.length+k]?:=fun k=>by
  show (ν'++ν.drop rs.length)[rs.length+k]?=_
  rw [c6W (by omega),hl',show rs.length+k-rs.length=k by omega,c7q]
 have hown':=fun b=>a3H hlen' b
 rw [tk,hl] at hown'
 have hnu:X5 [] ν' ν2:=fun k x _ hx=>by show (ν'++_)[k]?=_;rw [c6R (c6J.1 hx).1];exact hx
 have hnu2:X5 pk ν ν2:=fun k x hk hx=>by
  rcases c7a k rs.length with h0|h0
  ·show (ν'++_)[k]?=_
   rw [c6R (by omega)]
   exact h2.nu k x hk (by rw [<- hν1];exact K4 h0 hx)
  ·have:=tl (k-rs.length)
   rw [show rs.length+(k-rs.length)=k by omega] at this
   rw [this];exact hx
 have hxo:∀ b k r x,ex[k]?=some r->ν[rs.length+k]?=some x->fp r x b->owned (rs++ex) ν b:=fun b k r x g1 g2 g3=>(hown b).2 (.inr ⟨k,r,x,g1,g2,g3⟩)
 have hex:∀ b,(∃ k r x,(ex.map (Res.A8 pk))[k]?=some r/\ν2[rs.length+k]?=some x/\fp r x b)->∃ k r x,ex[k]?=some r/\ν[rs.length+k]?=some x/\fp r x b:=by
  rintro b ⟨k,r,x,g1,g2,g3⟩
  rw [c6P] at g1
  cases hk:ex[k]? with
  | none=>rw [hk] at g1;cases g1
  | some r0=>
   rw [hk] at g1
   simp only [c6G,Option.some.injEq] at g1
   subst g1
   rw [a0S] at g3
   exact ⟨k,r0,x,hk,by rw [<- tl];exact g2,g3⟩
 have hOO':∀ b,OO av (rs'++ex.map (Res.A8 pk)) ν2 b->OO av' rs' ν' b:=fun b hb=>by
  rcases hb with hb|hb
  ·exact .inl ⟨.inl hb,hnav b hb⟩
  ·rcases (hown' b).1 hb with hb|hb
   ·exact .inr hb
   ·obtain ⟨k,r,x,g1,g2,g3⟩:=hex b hb
    exact .inl ⟨.inr (hxo b k r x g1 g2 g3),hx b k r x g1 g2 g3⟩
 have hM:Mv (rs++ex) ν w pk (rs'++ex.map (Res.A8 pk)) ν2 w':=by
  refine ⟨h2.os,h2.tape,h2.output,h2.size,fun b hb hn=>h2.block b hb fun ho=>hn ((hown b).2 (.inl ho)),fun b hb=>?_,hnu2⟩
  rcases (hown' b).1 hb with hb|hb
  ·rcases h2.own b hb with g|g
   ·exact .inl ((hown b).2 (.inl g))
   ·exact .inr g
  ·obtain ⟨k,r,x,g1,g2,g3⟩:=hex b hb
   exact .inl (hxo b k r x g1 g2 g3)
 have old:∀ {l q z},l < rs'.length->(rs'++ex.map (Res.A8 pk))[l]?=some q->ν2[l]?=some z->rs'[l]?=some q/\ν'[l]?=some z:=fun hlt a1 a2=>by
  rw [c6R hlt] at a1
  exact ⟨a1,by rw [<- tk];exact K4 hlt a2⟩
 have new:∀ {l q z b},rs'.length<=l->(rs'++ex.map (Res.A8 pk))[l]?=some q->ν2[l]?=some z->fp q z b->∃ q0,ex[l-rs'.length]?=some q0/\ν[rs.length+(l-rs'.length)]?=some z/\fp q0 z b:=fun {l q z b} hge a1 a2 a3=>by
  rw [c6W hge,c6P] at a1
  cases hk:ex[l-rs'.length]? with
  | none=>rw [hk] at a1;cases a1
  | some q0=>
   rw [hk] at a1
   simp only [c6G,Option.some.injEq] at a1
   subst a1
   rw [a0S] at a3
   refine ⟨q0,rfl,?_,a3⟩
   rw [<- tl,show rs.length+(l-rs'.length)=l by omega];exact a2
 refine ⟨y,ν2,rfl,⟨hlen',fun k r hk=>?_,fun l m q q' z z' b hne g1 g2 g3 g4 g5 g6=>?_,fun b hb=>?_,fun b hb=>c7f (hR.av b hb) h2.size,c6L hR.n0 h2.size⟩,hM,Den.keep (Keeps.sub hOO') (Den.nu hnu (fun k hk=>by cases hk) h3)⟩
 ·rcases c7a k rs'.length with hlt|hge
  ·rw [c6R hlt] at hk
   obtain ⟨x,hx',hok⟩:=h1.res k r hk
   exact ⟨x,hnu k x (fun hk=>by cases hk) hx',c1K hnu hOO' hok⟩
  ·rw [c6W hge,c6P] at hk
   cases hk0:ex[k-rs'.length]? with
   | none=>rw [hk0] at hk;cases hk
   | some r0=>
    rw [hk0] at hk
    simp only [c6G,Option.some.injEq] at hk
    subst hk
    have hk':(rs++ex)[k]?=some r0:=by rw [c6W (by omega),<- hl];exact hk0
    obtain ⟨x,hx',hok⟩:=hR.res k r0 hk'
    have hx2:ν[rs.length+(k-rs'.length)]?=some x:=by rw [show rs.length+(k-rs'.length)=k by omega];exact hx'
    refine ⟨x,by have:=tl (k-rs'.length);rw [show rs.length+(k-rs'.length)=k by omega] at this;rw [this];exact hx',?_⟩
    exact hok.mv (O':=OO av (rs'++ex.map (Res.A8 pk)) ν2) (hM.keeps (av:=av)) hM.nu (fun b hf=>h2.block b (hR.lt hk' hx' hf) (hx b (k-rs'.length) r0 x hk0 hx2 hf))
 ·rcases c7a l rs'.length with hl2|hl2<;>rcases c7a m rs'.length with hm2|hm2
  ·obtain ⟨a1,a2⟩:=old hl2 g1 g3
   obtain ⟨a3,a4⟩:=old hm2 g2 g4
   exact h1.dis l m q q' z z' b hne a1 a3 a2 a4 g5 g6
  ·obtain ⟨a1,a2⟩:=old hl2 g1 g3
   obtain ⟨q0,a3,a4,a5⟩:=new hm2 g2 g4 g6
   rcases h2.own b ⟨l,q,z,a1,a2,g5⟩ with ho|ho
   ·exact hx b _ q0 z' a3 a4 a5 ho
   ·have:=(hR.low b (hxo b _ q0 z' a3 a4 a5)).1;omega
  ·obtain ⟨q0,a1,a2,a5⟩:=new hl2 g1 g3 g5
   obtain ⟨a3,a4⟩:=old hm2 g2 g4
   rcases h2.own b ⟨m,q',z',a3,a4,g6⟩ with ho|ho
   ·exact hx b _ q0 z a1 a2 a5 ho
   ·have:=(hR.low b (hxo b _ q0 z a1 a2 a5)).1;omega
  ·obtain ⟨q0,a1,a2,a5⟩:=new hl2 g1 g3 g5
   obtain ⟨q1,a3,a4,a6⟩:=new hm2 g2 g4 g6
   rw [show rs.length+(l-rs'.length)=l by omega] at a2
   rw [show rs.length+(m-rs'.length)=m by omega] at a4
   exact hR.dis l m q0 q1 z z' b hne (by rw [c6W (by omega),<- hl];exact a1) (by rw [c6W (by omega),<- hl];exact a3) a2 a4 a5 a6
 ·rcases (hown' b).1 hb with hb|hb
  ·obtain ⟨a1,a2,a3⟩:=h1.low b hb
   exact ⟨a1,fun ha=>a2 ⟨.inl ha,hnav b ha⟩,a3⟩
  ·obtain ⟨k,r,x,g1,g2,g3⟩:=hex b hb
   obtain ⟨a1,a2,a3⟩:=hR.low b (hxo b k r x g1 g2 g3)
   exact ⟨c7f a1 h2.size,a2,a3⟩
theorem l8.quiet {P:Program} {f:Nat} {args:List C} {s s':C} {rs':List Res} (h:∀ E:Ctx,E.P=P->l8 E [] f args s rs' []) (hi:Imp rs' [] s s') (hc:s'.cl=true):y9 P f args s':=by
 intro O w vs hO hA
 have ho0:∀ b,¬ owned [] [] b:=fun b ⟨k,r,x,hk,_⟩=>by simp at hk
 have hRG:RG O (fun _=>False) w.heap.size [] [] w:=⟨rfl,fun k r hk=>by simp at hk,fun k l r r' x x' b _ hk=>by simp at hk,fun b hb=>(ho0 b hb).elim,hO,c6N _⟩
 have hsub:∀ b,OO O [] [] b->O b:=fun b hb=>hb.elim id fun h=>(ho0 b h).elim
 refine (h ⟨P,fun _=>false,0,w,fun _=>False,O,[],[]⟩ rfl O [] w vs hRG (fun b hb=>hb) ⟨rfl,rfl,rfl,c6N _,fun _ _ _=>rfl⟩ ((FzL.keep (Keeps.sub hsub) hA).den [])).mono ?_
 rintro e w' ⟨y,ν',rfl,h1,h2,h3⟩
 have hC:Cut O rs' [] ν':=Cut.of h1 (by simp [R4])
 have h4:=hi O (fun _=>False) w.heap.size ν' w' y h1 hC h3
 exact ⟨y,rfl,⟨h2.os,h2.tape,h2.output,h2.size,fun b hb=>h2.block b hb (ho0 b)⟩,Fz.keep (Keeps.sub fun b hb=>.inl hb) (Den.fz hc h4)⟩
end Go.Proofs.YtpffebkbmcbmgaaGreatDoor.Eng
namespace Go.Proofs.YtpffebkbmcbmgaaGreatDoor
open Go Go.RowKit Eng
set_option maxRecDepth 10000
set_option maxHeartbeats 16000000
def nmR (n:Nms):List (List C):=n.map fun s=>[sb s]
theorem c3N (n:Nms) (s:List UInt8) (hn:n.length<=1099511627776):y9 Tryz.prog 74 [.sl 1 (nmR n),sb s] (ints (a1U (fun x=>decide (s=x)) n)):=by
 refine kS Tryz.func74 (by cbv) (by rfl) fun w O=>?_
 simp only [j6,nmR,sb]
 (repeat first|refine uA ?_|(refine uK ?_ ?_;focus first|omega|(intros;simp_all<;>omega))|simp (disch:=omega) only [go_sem,Nat.reduceBEq,Nat.reduceAdd,ww,c6F])
 refine S.loop (X:=Nat) (fun i=>⟨[(0,.sl 1 (nmR n)),(1,sb s),(7,ints n.length),(8,ints i)],[]⟩) (fun i=>i<=n.length/\∀ j,j < i->∀ x,n[j]?=some x->decide (s=x)=false) (fun i=>n.length-i) 0 ⟨c6K _,fun _ h=>absurd h (Nat.not_lt_zero _)⟩ (by simp only [nmR,sb];exact (by (repeat first|refine uA ?_|(refine ⟨?_,?_⟩;focus first|rfl|simp [slot])|rfl|simp))) ?_
 rintro i ⟨hi,hm⟩
 simp only [nmR,sb,ints]
 (repeat first|refine uA ?_|(refine uK ?_ ?_;focus first|omega|(intros;simp_all<;>omega))|simp (disch:=omega) only [go_sem,Nat.reduceBEq,Nat.reduceAdd,ww])
 (refine uJ rfl (fun hc=>?_) fun hc=>?_)
 ·have hgi:=c6E (show i < n.length by omega)
  generalize n[i]'(_)=x at hgi
  (repeat first|refine uA ?_|(refine uK ?_ ?_;focus first|omega|(intros;simp_all<;>omega))|simp (disch:=omega) only [go_sem,Nat.reduceBEq,Nat.reduceAdd,ww,hgi,c6G,c6F,c6I,a8b])
  refine S.cond rfl (fun hc2=>?_) (fun hc2=>?_)
  ·rw [a3k (p:=fun x=>decide (s=x)) hgi hc2 hm]
   (repeat first|refine uA ?_|(refine uK ?_ ?_;focus first|omega|(intros;simp_all<;>omega))|simp (disch:=omega) only [go_sem,Nat.reduceBEq,Nat.reduceAdd,ww])
   exact S.done (j4.out rfl (Imp.refl rfl) rfl)
  ·(repeat first|refine uA ?_|(refine uK ?_ ?_;focus first|omega|(intros;simp_all<;>omega))|simp (disch:=omega) only [go_sem,Nat.reduceBEq,Nat.reduceAdd,ww])
   refine S.next (i+1) ⟨by omega,fun j hj y hy=>?_⟩ (by omega) (by (repeat first|refine uA ?_|(refine ⟨?_,?_⟩;focus first|rfl|simp [slot])|rfl|simp))
   rcases c7a j i with h1|h1
   ·exact hm j h1 y hy
   ·have:j=i:=by omega
    subst this
    rw [hgi] at hy
    cases hy
    exact hc2
 ·have hi':i=n.length:=by omega
  subst hi'
  rw [a2x hm]
  (repeat first|refine uA ?_|(refine uK ?_ ?_;focus first|omega|(intros;simp_all<;>omega))|simp (disch:=omega) only [go_sem,Nat.reduceBEq,Nat.reduceAdd,ww])
  exact S.done (j4.out rfl (Imp.refl rfl) rfl)
theorem c2w (n:Nms) (s:List UInt8):n.any (fun x=>decide (s=x))=n.contains s:=by
 rw [Bool.eq_iff_iff,List.any_eq_true,List.contains_iff_mem]
 exact ⟨fun ⟨x,h1,h2⟩=>by rw [of_decide_eq_true h2];exact h1,fun h=>⟨s,h,by simp⟩⟩
theorem c3Q (n:Nms) (s:List UInt8) (hn:n.length<=1099511627776):y9 Tryz.prog 38 [.sl 1 (nmR n),sb s] (.v (.bool (n.contains s))):=by
 refine kS Tryz.func38 (by cbv) (by rfl) fun w O=>?_
 have h:=c3N n s hn
 rw [<- c2w,<- a5c]
 generalize a1U (fun x=>decide (s=x)) n=k at *
 simp only [j6]
 simp only [sb,ints] at *
 (repeat first|refine uA ?_|(refine uK ?_ ?_;focus first|omega|(intros;simp_all<;>omega))|simp (disch:=omega) only [go_sem,Nat.reduceBEq,Nat.reduceAdd,ww]|(refine uB h ?_ ?_;exact rfl))
 exact S.done (j4.out rfl (Imp.refl rfl) rfl)
def rsR (w:Wk) (n:Nms):List Res:=[.box 30 w.enc,.box 96 [.rv 2],.row 9 1 (nmR n)]
theorem c3F {E:Ctx} (hP:E.P=Tryz.prog) (w:Wk) (n:Nms) (s:List UInt8) (hs:s.length<=1099511627776) (hn:n.length<=1000000) :
  l8 E (rsR w n) 36 [sb s,.bp 1 0] (ints (L6 n s).1) (rsR w (L6 n s).2) [2]:=by
 obtain ⟨P,eff',N,w0,own0,av0,nu0,pk0⟩:=E
 simp only at hP
 subst hP
 refine l8.of (eff:=eff) Tryz.func36 (by cbv) (by exact c6Y rfl) fun w' own av ν hν=>?_
 have hν0:ν.length<=3:=by rw [hν];exact c6N _
 have h1:=c3e s hs
 have h2:=c3Q n s (by omega)
 have hap:nmR (n++[s])=nmR n++[[sb s]]:=by simp [nmR]
 unfold L6
 generalize a0H s=q at *
 generalize n.contains s=c at *
 have hl:(nmR n).length=n.length:=by simp [nmR]
 obtain ⟨arms,walls,parts,slots,gates,walk⟩:=w
 simp only [j6]
 simp only [rsR,Wk.enc,ams,wls,pts,sls,gts,sb,ints] at h1 h2 hap ⊢
 (repeat first|refine uA ?_|(refine uK ?_ ?_;focus first|omega|(intros;simp_all<;>omega))|simp (disch:=omega) only [go_sem,Nat.reduceBEq,Nat.reduceAdd,ww]|(refine uB h1 ?_ ?_;exact rfl))
 refine S.cond rfl (fun hc=>?_) (fun hc=>?_)
 ·rw [if_pos (by simpa using hc)]
  (repeat first|refine uA ?_|(refine uK ?_ ?_;focus first|omega|(intros;simp_all<;>omega))|simp (disch:=omega) only [go_sem,Nat.reduceBEq,Nat.reduceAdd,ww])
  (refine S.done ?_;simp only [l9,p9,go_sem,Nat.reduceBEq,Nat.reduceAdd,Nat.reduceLeDiff,Int.reduceToNat,Int.reducePow];(repeat (refine ⟨?_,?_⟩;focus first|trivial|omega|simp));exact j4.M9 (Imp.refl rfl) (by (repeat first|refine uA ?_|(refine ⟨?_,?_⟩;focus first|rfl|simp [slot])|rfl|simp)) (c6L hν0 (by simp)))
 rw [if_neg (by simpa using hc)]
 (repeat first|refine uA ?_|(refine uK ?_ ?_;focus first|omega|(intros;simp_all<;>omega))|simp (disch:=omega) only [go_sem,Nat.reduceBEq,Nat.reduceAdd,ww]|(refine uC h2 ?_ ?_ ?_;exact rfl;focus (repeat' first|exact j5.nil|exact Imp.refl rfl|exact Imp.frz rfl rfl rfl|(refine Imp.M8 rfl rfl ?_ ?_;(focus ((try simp only [c6M]);omega));(focus first|rfl|assumption))|refine j5.cons ?_ ?_);done))
 refine S.cond rfl (fun hc=>?_) (fun hc=>?_)
 ·rw [if_pos hc]
  (repeat first|refine uA ?_|(refine uK ?_ ?_;focus first|omega|(intros;simp_all<;>omega))|simp (disch:=omega) only [go_sem,Nat.reduceBEq,Nat.reduceAdd,ww])
  (refine S.done ?_;simp only [l9,p9,go_sem,Nat.reduceBEq,Nat.reduceAdd,Nat.reduceLeDiff,Int.reduceToNat,Int.reducePow];(repeat (refine ⟨?_,?_⟩;focus first|trivial|omega|simp));exact j4.M9 (Imp.refl rfl) (by (repeat first|refine uA ?_|(refine ⟨?_,?_⟩;focus first|rfl|simp [slot])|rfl|simp)) (c6L hν0 (by simp)))
 ·rw [if_neg (by rw [hc];decide)]
  simp only [hap]
  (repeat first|refine uA ?_|(refine uK ?_ ?_;focus first|omega|(intros;simp_all<;>omega))|simp (disch:=omega) only [go_sem,Nat.reduceBEq,Nat.reduceAdd,ww,hl])
  (refine S.done ?_;simp only [l9,p9,go_sem,Nat.reduceBEq,Nat.reduceAdd,Nat.reduceLeDiff,Int.reduceToNat,Int.reducePow];(repeat (refine ⟨?_,?_⟩;focus first|trivial|omega|simp));exact j4.M9 (Imp.refl rfl) (by (repeat first|refine uA ?_|(refine ⟨?_,?_⟩;focus first|rfl|simp [slot])|rfl|simp)) (c6L hν0 (by simp)))
theorem a6x (n:Nms) (s:List UInt8):(L6 n s).2.length<=n.length+1:=by
 unfold L6
 split
 ·simp
 ·split
  ·simp
  ·simp
theorem b5a (p q:Rat):decide (Nm.q9 p q=1)=!decide (Nm.q9 p q<=0):=by
 have h:-1<=Nm.q9 p q/\Nm.q9 p q<=1:=by
  unfold Nm.q9
  repeat' split
  all_goals first
   | omega
   | (have:=b0s (p.num.natAbs*q.den) (q.num.natAbs*p.den);omega)
 by_cases h1:Nm.q9 p q<=0
 ·rw [decide_eq_true h1,decide_eq_false (by omega)];rfl
 ·rw [decide_eq_false h1,decide_eq_true (by omega)];rfl
theorem b3Y (q:Rat):-1<=z8 q/\z8 q<=1:=by unfold z8;split;omega;split<;>omega
theorem sign_one (q:Rat):decide (z8 q < 1)=!decide (0 < z8 q):=by
 rw [<- decide_not];apply decide_eq_decide.2;omega
theorem b9e (q:Rat):decide (z8 q=-1)=!decide (0<=z8 q):=by
 have:=b3Y q
 rw [<- decide_not];apply decide_eq_decide.2;omega
open Go Eng
set_option maxRecDepth 100000
def dX (t f g:Fr):Rat:=Nm.d9 t.x-c4k f ⟨g.x,g.y⟩
def dY (t f g:Fr):Rat:=Nm.d9 t.y-c4o f ⟨g.x,g.y⟩
def c4A (t f g:Fr):Prop:=0 < Nm.q9 (r9 (dX t f g)) (1 / 8) \/ 0 < Nm.q9 (r9 (dY t f g)) (1 / 8)
instance (t f g:Fr):Decidable (c4A t f g):=by unfold c4A;infer_instance
set_option maxHeartbeats 4000000
set_option maxHeartbeats 16000000
set_option maxRecDepth 10000
set_option maxHeartbeats 8000000
def a7K (l:List UInt8) (i:Nat) (out:List UInt8):Prop:=
 out.length=l.length/\∀ k,k < l.length->out[k]?=if k < i \/ l.length-i<=k then l[l.length-1-k]? else l[k]?
theorem b4L (l:List UInt8):a7K l 0 l:=⟨rfl,fun k hk=>by rw [if_neg (by omega)]⟩
theorem b4P {l out:List UInt8} {i:Nat} {x y:UInt8} (h:a7K l i out) (hi:i+1 < l.length-i) (hx:out[i]?=some x) (hy:out[l.length-1-i]?=some y):a7K l (i+1) ((out.set i y).set (l.length-1-i) x):=by
 obtain ⟨h1,h2⟩:=h
 have e1:=h2 i (by omega)
 have e2:=h2 (l.length-1-i) (by omega)
 rw [if_neg (by omega),hx] at e1
 rw [if_neg (by omega),hy] at e2
 refine ⟨by simp [h1],fun k hk=>?_⟩
 by_cases k1:k=l.length-1-i
 ·subst k1
  rw [List.getElem?_set_self (by simp;omega),if_pos (by omega),e1]
  congr 1
  omega
 ·rw [List.getElem?_set_ne (fun e=>k1 e.symm)]
  by_cases k2:k=i
  ·subst k2
   rw [List.getElem?_set_self (by omega),if_pos (by omega),e2]
  ·rw [List.getElem?_set_ne (fun e=>k2 e.symm),h2 k hk]
   by_cases k3:k < i \/ l.length-i<=k
   ·rw [if_pos k3,if_pos (by omega)]
   ·rw [if_neg k3,if_neg (by omega)]
theorem b6u {l out:List UInt8} {i:Nat} (h:a7K l i out) (hi:l.length-i<=i+1):out=l.reverse:=by
 obtain ⟨h1,h2⟩:=h
 apply List.ext_getElem?
 intro k
 rcases c7a k l.length with hk|hk
 ·rw [h2 k hk,List.getElem?_reverse hk]
  by_cases k3:k < i \/ l.length-i<=k
  ·rw [if_pos k3]
  ·rw [if_neg k3,show l.length-1-k=k by omega]
 ·rw [c7i (by omega),c7i (by simp;omega)]
theorem c5n {E:Ctx} (hP:E.P=Tryz.prog) (l:List UInt8) (hl:l.length<=1099511627776):l8 E [.row 5 1 (l.map H7)] 78 [.rv 0] (.tup []) [.row 5 1 (l.reverse.map H7)] []:=by
 obtain ⟨P,eff',N,w0,own0,av0,nu0,pk0⟩:=E
 simp only at hP
 subst hP
 refine l8.of (eff:=eff) Tryz.func78 (by cbv) (by exact c6Y rfl) fun w own av ν hν=>?_
 have hν0:ν.length<=1:=by rw [hν];exact c6N _
 simp only [j6,TT,II,OA,OB,MM,VV]
 (repeat first|refine uA ?_|(apply uK;focus omega)|simp (disch:=omega) only [go_sem,Nat.reduceBEq,ww,c6F])
 refine S.loop (X:=Nat × List UInt8) (fun x=>⟨[(0,.rv 0),(2,ints x.1),(3,ints ((l.length:Int)-1-(x.1:Int)))],[.row 5 1 (x.2.map H7)]⟩) (fun x=>x.1<=l.length/\a7K l x.1 x.2) (fun x=>l.length-x.1) (0,l) ⟨c6K _,b4L l⟩ (by simp only [Int.natCast_zero,Int.sub_zero];exact (by (repeat first|refine uA ?_|(refine ⟨?_,?_⟩;focus first|rfl|simp [slot])|rfl|simp|exact c6L hν0 (by simp)))) ?_
 rintro ⟨i,out⟩ ⟨hi,hinv⟩
 simp only [ints] at hi hinv ⊢
 have hol:=hinv.1
 (repeat first|refine uA ?_|(apply uK;focus omega)|simp (disch:=omega) only [go_sem,Nat.reduceBEq])
 (refine uJ rfl (fun hc=>?_) fun hc=>?_)
 ·have gi:out[i]?=some (out[i]'(by omega)):=c6E (by omega)
  have gj:out[l.length-1-i]?=some (out[l.length-1-i]'(by omega)):=c6E (by omega)
  have hst:=b4P hinv (by omega) gi gj
  have hsk:l.length-1-i ≠ i:=by omega
  generalize out[i]'_=xi at *
  generalize out[l.length-1-i]'_=xj at *
  have gj2:(out.set i xj)[l.length-1-i]?=some xj:=by rw [List.getElem?_set_ne (Ne.symm hsk)];exact gj
  have n0:((l.length:Int)-1-(i:Int)).toNat=l.length-1-i:=by omega
  have e1:(out.map H7).set i [.v (.int .u8 ((xj.toNat:Nat):Int))]=(out.set i xj).map H7:=a6g out i xj
  have e2:((out.set i xj).map H7).set (l.length-1-i) [.v (.int .u8 ((xi.toNat:Nat):Int))]=((out.set i xj).set (l.length-1-i) xi).map H7:=a6g _ _ _
  have hr:(l.length:Int)-1-((i+1:Nat):Int)=(l.length:Int)-1-(i:Int)-1:=by omega
  (repeat first|refine uA ?_|(apply uK;focus omega)|simp (disch:=omega) only [go_sem,Nat.reduceBEq,ww,c6F,gi,gj,gj2,n0,e1,e2,H7,c6G,c6I,c7r])
  refine S.next (x:=(i,out)) (i+1,_) ⟨by simp only;omega,hst⟩ (by simp only;omega) (by simp only [hr];exact (by (repeat first|refine uA ?_|(refine ⟨?_,?_⟩;focus first|rfl|simp [slot])|rfl|simp|exact c6L hν0 (by simp))))
 ·have:=b6u hinv (by omega)
  subst this
  (repeat first|refine uA ?_|(apply uK;focus omega)|simp (disch:=omega) only [go_sem,Nat.reduceBEq,ww])
  exact S.end_ (j4.own rfl)
theorem b2C (n:Nat) (hn:n < 4611686018427387904):y9 Tryz.prog 43 [.v (.int .i64 (n:Int))] (sb (Nm.enc n)):=by
  refine kS Tryz.func43 (by cbv) (by rfl) fun w O=>?_
  have h8:(Nm.enc n).length<=8:=Nm.I8 (by omega)
  simp only [j6,TT,II,OA,MM,sb]
  (repeat first|refine uA ?_|(apply uK;focus omega)|simp (disch:=omega) only [go_sem])
  refine S.loop (X:=Nat × List UInt8) (fun x=>⟨[(0,ints x.1),(3,.rv 0)],[.row 5 1 (x.2.map H7)]⟩) (fun x=>x.1<=n/\Nm.enc x.1++x.2.reverse=Nm.enc n) (fun x=>x.1) (n,[]) ⟨c6N _,by simp⟩ (Ent.trans (Ent.pack 3 5 1 rfl) (by (repeat first|refine uA ?_|(refine ⟨?_,?_⟩;focus first|rfl|simp [slot])|rfl|simp))) ?_
  rintro ⟨m,out⟩ ⟨hm,hinv⟩
  simp only [ints] at hm hinv ⊢
  have hol:out.length<=8:=by
    have:=congrArg List.length hinv
    simp only [c6M,List.length_reverse] at this
    omega
  (repeat first|refine uA ?_|(apply uK;focus omega)|simp (disch:=omega) only [go_sem,Nat.reduceBEq])
  (refine uJ rfl (fun hc=>?_) fun hc=>?_)
  · have he:Nm.enc m=Nm.enc (m / 256)++[UInt8.ofNat (m % 256)]:=by
      conv=>lhs;unfold Nm.enc
      rw [if_neg (by omega)]
    have hb:(UInt8.ofNat (m % 256)).toNat=m % 256:=by simp
    have h1:IntKind.u8.wrap (Int.tmod (m:Int) 256)=(((UInt8.ofNat (m % 256)).toNat:Nat):Int):=by
      rw [hb,show Int.tmod (m:Int) 256=((m % 256:Nat):Int) from rfl,a1Y]
      omega
    have h2:Int.tdiv (m:Int) 256=((m / 256:Nat):Int):=rfl
    have hap:Nm.enc (m / 256)++(out++[UInt8.ofNat (m % 256)]).reverse=Nm.enc n:=by
      rw [List.reverse_append,<- hinv,he]
      simp
    generalize UInt8.ofNat (m % 256)=b at *
    (repeat first|refine uA ?_|(apply uK;focus first|omega|(intros;simp_all<;>omega))|simp (disch:=omega) only [go_sem,Nat.reduceBEq,Nat.reduceAdd,ww,c6F,h1,h2])
    refine S.next (x:=(m,out)) (m / 256,out++[b]) ⟨by simp only;omega,hap⟩ (by simp only;omega) (by simp only [c7t,c6V,c6Z,H7];exact (by (repeat first|refine uA ?_|(refine ⟨?_,?_⟩;focus first|rfl|simp [slot])|rfl|simp)))
  · have h0:m=0:=by omega
    subst h0
    rw [Nm.a0X,List.nil_append] at hinv
    have hr:=fun (E:Ctx) (hP:E.P=Tryz.prog)=>c5n hP out (by omega)
    rw [hinv] at hr
    (repeat first|refine uA ?_|(apply uK;focus omega)|simp (disch:=omega) only [go_sem,Nat.reduceBEq,a0m,a6w]|refine p8.t (l8.lift (k:=0) rfl (hr _ rfl) rfl rfl rfl) ?_)
    exact S.done (j4.out rfl (Imp.refl rfl) rfl)
theorem c0G (a b:Nat) (h:0 < b):Nat.gcd b (a % b)=Nat.gcd a b:=by
 rw [Nat.gcd_comm b,<- Nat.gcd_rec,Nat.gcd_comm]
theorem a2I (n d:Int) (hn:-1099511627776<=n/\n<=1099511627776) (hd:1<=d/\d<=1099511627776):y9 Tryz.prog 10 [ints n,ints d] (rc (Q n d)):=by
 refine kS Tryz.func10 (by cbv) (by rfl) fun w O=>?_
 obtain ⟨m,rfl⟩:∃ m:Nat,d=m:=⟨d.toNat,by omega⟩
 have hq:Q n m=Nm.ofQ (mkRat (Nm.sgn (decide (n < 0)) n.natAbs) m):=by
  unfold Q
  have:Nm.sgn (decide (n < 0)) n.natAbs=n:=by unfold Nm.sgn;by_cases h:n < 0<;>simp [h]<;>omega
  rw [this,c6I]
 rw [hq,<- Nm.b0M _ (by omega)]
 have hmx:(if n < -n then -n else n)=((n.natAbs:Nat):Int):=by split<;>omega
 have hwn:IntKind.i64.wrap (0-n)=-n:=by rw [Eng.wrap_i64 (by omega)];omega
 have hgp:0 < Nat.gcd n.natAbs m:=Nat.gcd_pos_of_pos_right _ (by omega)
 simp only [j6,TT,II,OA,OB,MM,ints]
 (repeat first|refine uA ?_|(refine uK ?_ ?_;focus first|omega|(intros;simp_all<;>omega))|simp (disch:=omega) only [go_sem,Nat.reduceBEq,Nat.reduceAdd,hwn,hmx])
 refine S.loop (X:=Nat × Nat) (fun x=>⟨[(0,ints n),(1,ints m),(4,.bp 0 0),(5,ints x.1),(6,ints x.2)],[.box 28 [.v (.bool false),.v (.string ⟨#[]⟩),.v (.string ⟨#[]⟩)]]⟩) (fun x=>Nat.gcd x.1 x.2=Nat.gcd n.natAbs m/\x.1<=1099511627776/\x.2<=1099511627776) (fun x=>x.2) (n.natAbs,m) ⟨rfl,by omega,by omega⟩ (by (repeat first|refine uA ?_|(refine ⟨?_,?_⟩;focus first|rfl|simp [slot])|rfl|simp)) ?_
 rintro ⟨a,b⟩ ⟨hg,ha,hb⟩
 simp only [ints] at hg ha hb ⊢
 (repeat first|refine uA ?_|(refine uK ?_ ?_;focus first|omega|(intros;simp_all<;>omega))|simp (disch:=omega) only [go_sem,Nat.reduceBEq])
 (refine uJ rfl (fun hc=>?_) fun hc=>?_)
 ·have h1:Int.tmod (a:Int) (b:Int)=((a % b:Nat):Int):=rfl
  have hlt:a % b < b:=Nat.mod_lt _ (by omega)
  have hb0:¬ ((b:Int)=0):=by omega
  (repeat first|refine uA ?_|(refine uK ?_ ?_;focus first|omega|(intros;simp_all<;>omega))|simp (disch:=omega) only [go_sem,Nat.reduceBEq,h1])
  refine S.next (x:=(a,b)) (b,a % b) ⟨by simp only;rw [c0G a b (by omega)];exact hg,by simp only;omega,by simp only;omega⟩ (by simp only;omega) (by (repeat first|refine uA ?_|(refine ⟨?_,?_⟩;focus first|rfl|simp [slot])|rfl|simp))
 ·have hb0:b=0:=by omega
  subst hb0
  rw [Nat.gcd_zero_right] at hg
  subst hg
  have ha0:¬ (((Nat.gcd n.natAbs m:Nat):Int)=0):=by omega
  generalize hgg:Nat.gcd n.natAbs m=g at *
  have hdvn:g ∣ n.natAbs:=by rw [<- hgg];exact Nat.gcd_dvd_left ..
  have e2:Int.tdiv (m:Int) (g:Int)=((m / g:Nat):Int):=rfl
  obtain ⟨k,hk⟩:=hdvn
  have hkq:n.natAbs / g=k:=by rw [hk];exact Nat.mul_div_cancel_left _ hgp
  have e1:Int.tdiv n (g:Int)=Nm.sgn (decide (n < 0)) k:=by
   have h3:(n:Int)=(g:Int)*Nm.sgn (decide (n < 0)) k:=by
    have h4:((n.natAbs:Nat):Int)=(g:Int)*(k:Int):=by rw [hk];simp
    unfold Nm.sgn
    by_cases h:n < 0
    ·simp only [h,decide_true,if_true,Int.mul_neg];omega
    ·simp only [h,decide_false,c7o,if_false];omega
   rw [show Int.tdiv n (g:Int)=Int.tdiv ((g:Int)*Nm.sgn (decide (n < 0)) k) (g:Int) from congrArg (fun z=>Int.tdiv z (g:Int)) h3]
   exact Int.mul_tdiv_cancel_left _ (by omega)
  have hkb:k<=1099511627776:=by
   have:k<=g*k:=Nat.le_mul_of_pos_left k hgp
   omega
  have hmb:m / g<=m:=Nat.div_le_self _ _
  have hs:-1099511627776<=Nm.sgn (decide (n < 0)) k/\Nm.sgn (decide (n < 0)) k<=1099511627776:=by unfold Nm.sgn;split<;>omega
  have hneg:decide (Nm.sgn (decide (n < 0)) k < 0)=(decide (n < 0) && !decide (k=0)):=by
   unfold Nm.sgn
   by_cases h:n < 0
   ·by_cases h0:k=0
    ·subst h0;simp [h]
    ·simp [h,h0];try omega
   ·simp [h];try omega
  have hab:(if Nm.sgn (decide (n < 0)) k < -(Nm.sgn (decide (n < 0)) k) then -(Nm.sgn (decide (n < 0)) k) else Nm.sgn (decide (n < 0)) k)=((k:Nat):Int):=by unfold Nm.sgn;split<;>split<;>omega
  have hws:IntKind.i64.wrap (0-Nm.sgn (decide (n < 0)) k)=-(Nm.sgn (decide (n < 0)) k):=by rw [Eng.wrap_i64 (by omega)];omega
  have hwm:IntKind.i64.wrap ((m / g:Nat):Int)=((m / g:Nat):Int):=by
   generalize m / g=z at *
   exact Eng.wrap_i64 (by omega)
  have d1:=b2C k (by omega)
  have d2:=b2C (m / g) (by omega)
  have hres:(if n.natAbs=0 then Nm.a3u else ⟨decide (n < 0),Nm.enc (n.natAbs / g),Nm.enc (m / g)⟩:Nm.Rt)=⟨decide (n < 0) && !decide (k=0),Nm.enc k,Nm.enc (m / g)⟩:=by
   rw [hkq]
   by_cases h0:n.natAbs=0
   ·have hn0:n=0:=by omega
    subst hn0
    have hk0:k=0:=by
     rcases c7d k with h|h
     ·exact h
     ·have:=Nat.mul_pos hgp h;omega
    have hgm:g=m:=by rw [<- hgg];simp
    subst hk0
    have h1:m / g=1:=by rw [hgm];exact Nat.div_self (by omega)
    rw [h1,Nm.U2,Nm.a0X]
    rfl
   ·have hk0:k ≠ 0:=by intro h;subst h;omega
    rw [if_neg h0]
    simp [hk0]
  rw [hres]
  rw [<- hneg]
  simp only [rc,sb] at d1 d2 ⊢
  generalize Nm.sgn (decide (n < 0)) k=s at *
  (repeat first|refine uA ?_|(refine uK ?_ ?_;focus first|omega|(intros;simp_all<;>omega))|simp (disch:=omega) only [go_sem,Nat.reduceBEq,Nat.reduceAdd,ww,e1,e2,hws,hab,hwm]|(refine uB d1 ?_ ?_;exact rfl)|(refine uB d2 ?_ ?_;exact rfl))
  (refine S.done ?_;simp only [l9,p9,go_sem,Nat.reduceBEq,Nat.reduceAdd,Nat.reduceLeDiff];(repeat (refine ⟨?_,?_⟩;focus first|trivial|omega|simp));exact j4.out rfl (Imp.refl rfl) rfl)
theorem a7h (x y:Int) (hx:-1000000<=x/\x<=1000000) (hy:-1000000<=y/\y<=1000000):y9 Tryz.prog 83 [ints x,ints y] (atV x y).c:=by
 refine kS Tryz.func83 (by cbv) (by rfl) fun w O=>?_
 have h1:=a2I x 4 (by omega) (by omega)
 have h2:=a2I y 4 (by omega) (by omega)
 unfold atV
 generalize Q x 4=qx at *
 generalize Q y 4=qy at *
 simp only [j6]
 simp only [rc,sb,ints,Vt.c,Vt.enc] at *
 (repeat first|refine uA ?_|(refine uK ?_ ?_;focus first|omega|(intros;simp_all<;>omega))|simp (disch:=omega) only [go_sem,Nat.reduceBEq,Nat.reduceAdd,ww]|(refine uB h1 ?_ ?_;exact rfl)|(refine uB h2 ?_ ?_;exact rfl))
 (refine S.done ?_;simp only [l9,p9,go_sem,Nat.reduceBEq,Nat.reduceAdd,Nat.reduceLeDiff,Int.reduceToNat,Int.reducePow];(repeat (refine ⟨?_,?_⟩;focus first|trivial|omega|simp));exact j4.out rfl (Imp.refl rfl) rfl)
theorem c4Z (x y u v:Int) (hx:-100000<=x/\x<=100000) (hy:-100000<=y/\y<=100000) (hu:-100000<=u/\u<=100000) (hv:-100000<=v/\v<=100000):y9 Tryz.prog 81 [ints x,ints y,ints u,ints v] (vts (b2s x y u v)):=by
 refine kS Tryz.func81 (by cbv) (by rfl) fun w O=>?_
 have h1:=a7h x y (by omega) (by omega)
 have h2:=a7h u y (by omega) (by omega)
 have h3:=a7h u v (by omega) (by omega)
 have h4:=a7h x v (by omega) (by omega)
 unfold b2s
 generalize atV x y=p1 at *
 generalize atV u y=p2 at *
 generalize atV u v=p3 at *
 generalize atV x v=p4 at *
 simp only [j6]
 simp only [vts,Vt.c,Vt.enc,sb,ints] at *
 (repeat first|refine uA ?_|(refine uK ?_ ?_;focus first|omega|(intros;simp_all<;>omega))|simp (disch:=omega) only [go_sem,Nat.reduceBEq,Nat.reduceAdd,ww]|(refine uB h1 ?_ ?_;exact rfl)|(refine uB h2 ?_ ?_;exact rfl)|(refine uB h3 ?_ ?_;exact rfl)|(refine uB h4 ?_ ?_;exact rfl))
 exact S.done (j4.out rfl (Imp.frz rfl rfl rfl) rfl)
set_option maxRecDepth 100000
set_option maxHeartbeats 16000000
theorem b9L (n:Nat) (h:n<=3):([[C.v (.string ⟨#[111,110,101]⟩)],[C.v (.string ⟨#[116,119,111]⟩)],[C.v (.string ⟨#[116,104,114,101,101]⟩)],[C.v (.string ⟨#[102,111,117,114]⟩)]]:List (List C))[n]?=some [C.v (.string (bs (c0L n)))]:=by
 match n,h with
 | 0,_=>rfl
 | 1,_=>rfl
 | 2,_=>rfl
 | 3,_=>rfl
theorem c2l (k:Int) (h0:0<=k) (h1:k < 4):([[C.v (.int .i64 0)],[C.v (.int .i64 1)],[C.v (.int .i64 (-1))],[C.v (.int .i64 1)]]:List (List C))[k.toNat]?=some [C.v (.int .i64 (a6M k))]:=by
 have:k=0 \/ k=1 \/ k=2 \/ k=3:=by omega
 rcases this with rfl|rfl|rfl|rfl<;>rfl
theorem b8G (k:Int):-1<=a6M k/\a6M k<=1:=by unfold a6M;split;omega;split<;>omega
theorem c5j {E:Ctx} (hP:E.P=Tryz.prog) (l:List Int) (n:Nat) (hn:n<=3) :
  l8 E [.box 142 [V8 l]] 80 [.bp 0 0,.v (.int .i64 (n:Int))] (a3g l n).c [.box 142 [V8 (a8W l)]] []:=by
 obtain ⟨P,eff',N,w0,own0,av0,nu0,pk0⟩:=E
 simp only at hP
 subst hP
 refine l8.of (eff:=eff) Tryz.func80 (by cbv) (by exact c6Y rfl) fun w own av ν hν=>?_
 have hν0:ν.length<=1:=by rw [hν];exact c6N _
 have hnm:=b9L n hn
 have h1:=a7h (40*(n:Int)) 0 (by omega) (by omega)
 have k1:=fun (E:Ctx) (hP:E.P=Tryz.prog)=>a1c hP l 4 (by decide)
 have k2:=fun (E:Ctx) (hP:E.P=Tryz.prog)=>a1c hP (l.drop 1) 3 (by decide)
 have k3:=fun (E:Ctx) (hP:E.P=Tryz.prog)=>a1c hP (l.drop 2) 3 (by decide)
 have a1:=a0p l (n:=4) (by decide)
 have a2:=a4g l (n:=4) (by decide)
 have a3:=a0p (l.drop 1) (n:=3) (by decide)
 have a4:=a4g (l.drop 1) (n:=3) (by decide)
 have a5:=a0p (l.drop 2) (n:=3) (by decide)
 have a6:=a4g (l.drop 2) (n:=3) (by decide)
 have htn:=c2l (nx l 4) a1 a2
 have htr:=b8G (nx l 4)
 have h2:=a2I (a6M (nx l 4)) (1+nx (l.drop 1) 3) (by omega) (by omega)
 rw [List.drop_drop] at k2 k3
 have hc:((a6H l:Nat):Int)=1+nx (l.drop 2) 3:=by unfold a6H;omega
 have hc3:a6H l<=3:=by omega
 have hR:a8W l=(l.drop 3).drop (6*a6H l):=by unfold a8W;rw [List.drop_drop]
 unfold a3g
 rw [hR]
 generalize a6H l=c at *
 generalize l.drop 3=l0 at *
 unfold atV at h1
 generalize Q (40*(n:Int)) 4=q1 at *
 generalize Q 0 4=q2 at *
 generalize a6M (nx l 4)=tn at *
 generalize Q tn (1+nx (l.drop 1) 3)=q3 at *
 generalize nx l 4=x1 at *
 generalize nx (l.drop 1) 3=x2 at *
 generalize nx (l.drop 2) 3=x3 at *
 generalize c0L n=nm at *
 simp only [j6]
 simp only [Am.c,Am.enc,Vt.c,Vt.enc,rc,V8,sb,ints,lks] at h1 h2 k1 k2 k3 ⊢
 (repeat first|refine uA ?_|(refine uK ?_ ?_;focus first|omega|trivial|(intros;simp_all<;>omega))|simp (disch:=omega) only [go_sem,Nat.reduceBEq,Nat.reduceAdd,Nat.reduceLeDiff,Int.reduceToNat,Int.reducePow,ww,hnm,htn,c6I]|refine p8.t (l8.lift (k:=0) rfl (k1 _ rfl) rfl rfl rfl) ?_|refine p8.t (l8.lift (k:=0) rfl (k2 _ rfl) rfl rfl rfl) ?_|(refine uB h1 ?_ ?_;exact rfl)|(refine uB h2 ?_ ?_;exact rfl))
 (repeat first|refine uA ?_|(refine uK ?_ ?_;focus first|omega|trivial|(intros;simp_all<;>omega))|simp (disch:=omega) only [go_sem,Nat.reduceBEq,Nat.reduceAdd,Nat.reduceLeDiff,Int.reduceToNat,Int.reducePow,ww]|refine p8.t (l8.lift (k:=0) rfl (k3 _ rfl) rfl rfl rfl) ?_)
 rw [<- hc]
 refine S.loop (X:=Nat × List Lk × List Int) (fun x=>⟨[(0,.bp 0 0),(4,.bp 1 0),(5,.bp 3 0),(30,ints c),(31,ints x.1)],[.box 142 [V8 x.2.2],.box 49 [.v (.string ⟨#[]⟩),.v (.bool false),.v (.string ⟨#[]⟩),.v (.string ⟨#[]⟩),.v (.bool false),.v (.string ⟨#[]⟩),.v (.string ⟨#[]⟩),.v (.bool false),.v (.bool false),.v (.string ⟨#[]⟩),.v (.string ⟨#[]⟩),.v (.slice none 0 0)],.gone,.box 49 [.v (.string (bs nm)),.v (.bool q1.neg),.v (.string (bs q1.num)),.v (.string (bs q1.den)),.v (.bool q2.neg),.v (.string (bs q2.num)),.v (.string (bs q2.den)),.v (.bool false),.v (.bool q3.neg),.v (.string (bs q3.num)),.v (.string (bs q3.den)),.rv 4],.row 95 16 (x.2.1.map Lk.enc)]⟩)
  (fun x=>x.1<=c/\x.2.1.length=x.1/\x.2.1++a5T (c-x.1) x.2.2=a5T c l0/\x.2.2.drop (6*(c-x.1))=l0.drop (6*c)) (fun x=>c-x.1) (0,[],l0) ⟨c6K _,rfl,rfl,rfl⟩ (Ent.trans (Ent.a6C 3 11 95 16 rfl rfl rfl) (by (repeat first|refine uA ?_|(refine ⟨?_,?_⟩;focus first|rfl|trivial|(simp [slot];done))|rfl|trivial|simp|exact c6L hν0 (by simp)))) ?_
 rintro ⟨i,ls,m⟩ ⟨hi,hls,hL,hM⟩
 simp only [ints,V8] at hi hls hL hM ⊢
 (repeat first|refine uA ?_|(refine uK ?_ ?_;focus first|omega|trivial|(intros;simp_all<;>omega))|simp (disch:=omega) only [go_sem,Nat.reduceBEq,Nat.reduceAdd,Nat.reduceLeDiff,Int.reduceToNat,Int.reducePow,ww])
 (refine uJ rfl (fun hc=>?_) fun hc=>?_)
 ·have hi':c-i=(c-i-1)+1:=by omega
  have n0:=fun (E:Ctx) (hP:E.P=Tryz.prog)=>a1c hP (m.drop 0) 4 (by decide)
  have a0:=a0p (m.drop 0) (n:=4) (by decide)
  have b0:=a4g (m.drop 0) (n:=4) (by decide)
  have n1:=fun (E:Ctx) (hP:E.P=Tryz.prog)=>a1c hP (m.drop 1) 6 (by decide)
  have a1:=a0p (m.drop 1) (n:=6) (by decide)
  have b1:=a4g (m.drop 1) (n:=6) (by decide)
  have n2:=fun (E:Ctx) (hP:E.P=Tryz.prog)=>a1c hP (m.drop 2) 6 (by decide)
  have a2:=a0p (m.drop 2) (n:=6) (by decide)
  have b2:=a4g (m.drop 2) (n:=6) (by decide)
  have n3:=fun (E:Ctx) (hP:E.P=Tryz.prog)=>a1c hP (m.drop 3) 8 (by decide)
  have a3:=a0p (m.drop 3) (n:=8) (by decide)
  have b3:=a4g (m.drop 3) (n:=8) (by decide)
  have n4:=fun (E:Ctx) (hP:E.P=Tryz.prog)=>a1c hP (m.drop 4) 20 (by decide)
  have a4:=a0p (m.drop 4) (n:=20) (by decide)
  have b4:=a4g (m.drop 4) (n:=20) (by decide)
  have n5:=fun (E:Ctx) (hP:E.P=Tryz.prog)=>a1c hP (m.drop 5) 3 (by decide)
  have a5:=a0p (m.drop 5) (n:=3) (by decide)
  have b5:=a4g (m.drop 5) (n:=3) (by decide)
  rw [hi',a5T] at hL
  have hM2:(m.drop 6).drop (6*(c-(i+1)))=l0.drop (6*c):=by rw [List.drop_drop,<- hM];congr 1;omega
  rw [show c-i-1=c-(i+1) by omega] at hL
  simp only [List.drop_drop,List.drop_zero] at n0 n1 n2 n3 n4 n5 a0 b0
  unfold c1W c2e at hL
  have o1:=a2I (4+2*nx m 4) 4 (by omega) (by omega)
  have o2:=a2I (-1-nx (m.drop 1) 6) 3 (by omega) (by omega)
  have o3:=a2I (1+nx (m.drop 2) 6) 3 (by omega) (by omega)
  have o4:=a2I 1 (4+nx (m.drop 3) 8) (by omega) (by omega)
  have o5:=a2I 1 (10+nx (m.drop 4) 20) (by omega) (by omega)
  have o6:=c4Z (-1) (-1) (4+2*nx m 4+1) 1 (by omega) (by omega) (by omega) (by omega)
  have o7:=a7h (-1) (-1) (by omega) (by omega)
  have o8:=a7h (4+2*nx m 4+1) 0 (by omega) (by omega)
  have o9:=a7h (-1) 1 (by omega) (by omega)
  generalize Q (4+2*nx m 4) 4=p1 at *
  generalize Q (-1-nx (m.drop 1) 6) 3=p2 at *
  generalize Q (1+nx (m.drop 2) 6) 3=p3 at *
  generalize Q 1 (4+nx (m.drop 3) 8)=p4 at *
  generalize Q 1 (10+nx (m.drop 4) 20)=p5 at *
  generalize b2s (-1) (-1) (4+2*nx m 4+1) 1=r6 at *
  generalize atV (-1) (-1)=v7 at *
  generalize atV (4+2*nx m 4+1) 0=v8 at *
  generalize atV (-1) 1=v9 at *
  generalize nx m 4=y0 at *
  generalize nx (m.drop 1) 6=y1 at *
  generalize nx (m.drop 2) 6=y2 at *
  generalize nx (m.drop 3) 8=y3 at *
  generalize nx (m.drop 4) 20=y4 at *
  generalize nx (m.drop 5) 3=y5 at *
  simp only [V8,ints,rc,sb,vts,Vt.c,Vt.enc] at n0 n1 n2 n3 n4 n5 o1 o2 o3 o4 o5 o6 o7 o8 o9
  (repeat first|refine uA ?_|(refine uK ?_ ?_;focus first|omega|trivial|(intros;simp_all<;>omega))|simp (disch:=omega) only [go_sem,Nat.reduceBEq,Nat.reduceAdd,Nat.reduceLeDiff,Int.reduceToNat,Int.reducePow,ww]|refine p8.t (l8.lift (k:=0) rfl (n0 _ rfl) rfl rfl rfl) ?_|refine p8.t (l8.lift (k:=0) rfl (n1 _ rfl) rfl rfl rfl) ?_|refine p8.t (l8.lift (k:=0) rfl (n2 _ rfl) rfl rfl rfl) ?_|refine p8.t (l8.lift (k:=0) rfl (n3 _ rfl) rfl rfl rfl) ?_|refine p8.t (l8.lift (k:=0) rfl (n4 _ rfl) rfl rfl rfl) ?_|refine p8.t (l8.lift (k:=0) rfl (n5 _ rfl) rfl rfl rfl) ?_|(refine uB o1 ?_ ?_;exact rfl)|(refine uB o2 ?_ ?_;exact rfl)|(refine uB o3 ?_ ?_;exact rfl)|(refine uB o4 ?_ ?_;exact rfl)|(refine uB o5 ?_ ?_;exact rfl)|(refine uB o6 ?_ ?_;exact rfl))
  refine S.join (Y:=List Vt) (fun sh=>⟨[(0,.bp 0 0),(4,.bp 1 0),(5,.bp 3 0),(7,.bp 5 0),(30,ints c),(31,ints i)],[.box 142 [V8 (m.drop 6)],.box 49 [.v (.string ⟨#[]⟩),.v (.bool false),.v (.string ⟨#[]⟩),.v (.string ⟨#[]⟩),.v (.bool false),.v (.string ⟨#[]⟩),.v (.string ⟨#[]⟩),.v (.bool false),.v (.bool false),.v (.string ⟨#[]⟩),.v (.string ⟨#[]⟩),.v (.slice none 0 0)],.gone,.box 49 [.v (.string (bs nm)),.v (.bool q1.neg),.v (.string (bs q1.num)),.v (.string (bs q1.den)),.v (.bool q2.neg),.v (.string (bs q2.num)),.v (.string (bs q2.den)),.v (.bool false),.v (.bool q3.neg),.v (.string (bs q3.num)),.v (.string (bs q3.den)),.rv 4],.row 95 16 (ls.map Lk.enc),.box 95 (Lk.enc ⟨p1,p2,p3,p4,p5,sh⟩)]⟩) (fun sh=>sh=if y5=2 then [v7,v8,v9] else r6) ?_ ?_
  ·refine S.cond rfl (fun hc=>?_) (fun hc=>?_)
   ·(repeat first|refine uA ?_|(refine uK ?_ ?_;focus first|omega|trivial|(intros;simp_all<;>omega))|simp (disch:=omega) only [go_sem,Nat.reduceBEq,Nat.reduceAdd,Nat.reduceLeDiff,Int.reduceToNat,Int.reducePow,ww]|(refine uB o7 ?_ ?_;exact rfl)|(refine uB o8 ?_ ?_;exact rfl)|(refine uB o9 ?_ ?_;exact rfl))
    exact S.met [v7,v8,v9] (by simp at hc;rw [if_pos hc]) (Ent.mk _ _ (by (repeat' (first|exact Q6.nil|exact Imp.junk|exact Imp.refl rfl|exact Imp.eq (by simp [slot];done) rfl|refine Q6.cons ?_ ?_))) (by (repeat' (first|exact E5.nil|exact RI.gone _|exact RI.row _ _ _ _ rfl|exact RI.map _ _ _ rfl|exact RI.box _ _ _ (j5.refl rfl)|(refine RI.box _ _ _ ?_;(repeat' (first|exact j5.nil|exact Imp.refl rfl|exact Imp.frz rfl rfl rfl|exact Imp.D8|refine j5.cons ?_ ?_)))|refine E5.cons ?_ ?_))) (c6L hν0 (by simp)))
   ·(repeat first|refine uA ?_|(refine uK ?_ ?_;focus first|omega|trivial|(intros;simp_all<;>omega))|simp (disch:=omega) only [go_sem,Nat.reduceBEq,Nat.reduceAdd,Nat.reduceLeDiff,Int.reduceToNat,Int.reducePow,ww])
    exact S.met r6 (by simp at hc;rw [if_neg hc]) (by (repeat first|refine uA ?_|(refine ⟨?_,?_⟩;focus first|rfl|trivial|(simp [slot];done))|rfl|trivial|simp|exact c6L hν0 (by simp)))
  rintro sh hsh
  rw [<- hsh] at hL
  simp only [V8,ints,Lk.enc,vts]
  (repeat first|refine uA ?_|(refine uK ?_ ?_;focus first|omega|trivial|(intros;simp_all<;>omega))|simp (disch:=omega) only [go_sem,Nat.reduceBEq,Nat.reduceAdd,Nat.reduceLeDiff,Int.reduceToNat,Int.reducePow,ww,c6F,hls])
  refine S.next (x:=(i,ls,m)) (i+1,ls++[⟨p1,p2,p3,p4,p5,sh⟩],m.drop 6) ⟨by simp only;omega,by simp [hls],by simp only;rw [c7u];exact hL,by simp only;exact hM2⟩ (by simp only;omega) (by simp only [c7t,c6V,c6Z];exact (by (repeat first|refine uA ?_|(refine ⟨?_,?_⟩;focus first|rfl|trivial|(simp [slot];done))|rfl|trivial|simp|exact c6L hν0 (by simp))))
 ·have hi':i=c:=by omega
  subst hi'
  rw [Nat.sub_self,a5T,List.append_nil] at hL
  rw [Nat.sub_self,Nat.mul_zero,List.drop_zero] at hM
  subst hL
  subst hM
  (repeat first|refine uA ?_|(refine uK ?_ ?_;focus first|omega|trivial|(intros;simp_all<;>omega))|simp (disch:=omega) only [go_sem,Nat.reduceBEq,Nat.reduceAdd,Nat.reduceLeDiff,Int.reduceToNat,Int.reducePow,ww])
  (refine S.done ?_;simp only [l9,p9,go_sem,Nat.reduceBEq,Nat.reduceAdd,Nat.reduceLeDiff,Int.reduceToNat,Int.reducePow];(repeat (refine ⟨?_,?_⟩;focus first|trivial|omega|simp));exact j4.M9 (Imp.agg (by (repeat' (first|exact j5.nil|exact Imp.refl rfl|exact Imp.frz rfl rfl rfl|exact Imp.D8|refine j5.cons ?_ ?_)))) (by (repeat first|refine uA ?_|(refine ⟨?_,?_⟩;focus first|rfl|trivial|(simp [slot];done))|rfl|trivial|simp)) (c6L hν0 (by simp)))
set_option maxHeartbeats 32000000
theorem c4i {w:World} {O:Nat->Prop} {sz:Nat}:Fz w O (.sl sz []) (.slice none 0 0):=by
 simp only [Fz]
 exact ⟨none,0,rfl,c6N _,c6K _,fun h=>absurd h (by simp)⟩
set_option maxHeartbeats 16000000
theorem l8.b6y {E:Ctx} {rs rs2 rs':List Res} {f:Nat} {args args':List C} {s:C} {pk:List Nat} (h:l8 E rs2 f args' s rs' pk) (hi:j5 rs rs2 args args') (hrs:E5 rs rs2 rs2 rs) (hlen:rs2.length=rs.length):l8 E rs f args s rs' pk:=by
 intro av ν w vs hR hav hF hD
 have hk:=a1z hrs
 have hD':=hi.den hR (Cut.of hR hk) hD
 have et:ν.take rs2.length=ν:=by rw [hlen,<- hR.len];exact c6X
 rw [et] at hD'
 have hR2:=hR.weak hrs
 rw [et] at hR2
 refine (h av ν w vs hR2 hav hF hD').mono ?_
 rintro e w' ⟨y,ν',rfl,h1,h2,h3⟩
 exact ⟨y,ν',rfl,h1,⟨h2.os,h2.tape,h2.output,h2.size,fun b hb hn=>h2.block b hb (fun ho=>hn (a2F hk ho)),fun b hb=>(h2.own b hb).imp (a2F hk) id,h2.nu⟩,h3⟩
theorem b9J {α:Type} {l m:List α} {i:Nat} {y:α} (hl:l.length=m.length) (hy:m[i]?=some y):(l.take i++m.drop i)[i]?=some y:=by
 have hi:=(c6J.1 hy).1
 have h1:(l.take i).length=i:=by rw [c6O];omega
 rw [c6W (by omega),h1,Nat.sub_self,c7q,Nat.add_zero,hy]
set_option maxHeartbeats 4000000
structure Run (a:Am) (q0 u:List Nm.Rt) (j:Nat) (y:Ast):Prop where
 q:y.q.length=a.links.length
 v:y.v.length=a.links.length
 pos:∀ (i:Nat) (l:Lk) (b c q v:Nm.Rt),a.links[i]?=some l->q0[i]?=some b->u[i]?=some c->y.q[i]?=some q->y.v[i]?=some v->c5W b c l.brake j q v
def O6 (z:List (Lk × Nm.Rt)):Int:=z.foldl (fun m z=>max m (u7 (Nm.d9 z.1.brake) (Nm.d9 z.2))) 0
theorem b2Q {α:Type} {f:α->Int}:∀ (l:List α) (m:Int),m<=l.foldl (fun m z=>max m (f z)) m/\∀ z ∈ l,f z<=l.foldl (fun m z=>max m (f z)) m
 | [],m=>⟨Int.le_refl _,fun z hz=>by cases hz⟩
 | x::l,m=>by
  obtain ⟨h1,h2⟩:=b2Q (f:=f) l (max m (f x))
  rw [List.foldl_cons]
  refine ⟨by omega,fun z hz=>?_⟩
  rcases List.mem_cons.1 hz with rfl|hz
  ·omega
  ·exact h2 z hz
theorem b1Z (z:List (Lk × Nm.Rt)):0<=O6 z:=(b2Q (f:=fun z:Lk × Nm.Rt=>u7 (Nm.d9 z.1.brake) (Nm.d9 z.2)) z 0).1
def a1N:M4:=⟨106,[.tmp 6,.tmp 7,.tmp 8],.seq (.reg [OA 3 (.box 49 (TT 0)),OA 6 (.mv (.const (.slice none 0 0))),OA 7 (.mv (II 0)),OA 8 (.mv (II 0))]) (.seq (.seq (.reg [LL 18 12 3,OA 19 (.call 31 [TT 18]),MM 9 19]) (.seq (.reg [MM 20
 9,OA 21 (.bin .neq (TT 20) (II 0))]) (.cond (TT 21) (.seq (.reg [MM 22 9,OA 6 (.mv (.const (.slice none 0 0))),OA 7 (.mv (II 0)),MM 8 22]) .ret) .skip))) (.seq (.seq (.reg [MM 23 1,OA 24 (.len false (TT 23)),FF 25 11 3,VV
 26 25,OA 27 (.len false (TT 26)),OA 28 (.bin .neq (TT 24) (TT 27)),MM 29 28,MG 30 2 29 false,OC 31 (.len false (TT 30)) 29 false,FG 32 11 3 29 false,VG 33 32 29 false,OC 34 (.len false (TT 33)) 29 false,OC 35 (.bin .neq
 (TT 31) (TT 34)) 29 false,OA 36 (.pick (TT 29) (.const (.bool true)) (TT 35))]) (.cond (TT 36) (.seq (.reg [OA 6 (.mv (.const (.slice none 0 0))),OA 7 (.mv (II 0)),OA 8 (.mv (II 1))]) .ret) .skip)) (.seq (.reg [OA 10 (.mv
 (.const (.slice none 0 0)))]) (.seq (.seq (.reg [MM 37 1,OA 38 (.len false (TT 37)),OA 39 (.mv (II 0))]) (.block 0 (.loop (.seq (.reg [OA 40 (.bin .lss (TT 39) (TT 38))]) (.seq (.cond (TT 40) .skip (.exit 0)) (.seq (.block 1
 (.seq (.reg [MM 41 39,MM 11 41]) (.D6 [.q,.q,.q,.q,.q,.q,.q,.q,.q,.q,.q,.e none true,.q] [MM 42 10,MM 43 1,MM 44 11,OA 45 (.x9 3 (TT 43) (TT 44)),LL 46 3 45,MM 47 2,MM 48 11,OA 49 (.x9 3 (TT 47) (TT
 48)),LL 50 3 49,OA 51 (.call 22 [TT 46,TT 50]),OA 52 (.bsl 28 3 1 [.bool false,.string ⟨#[]⟩,.string ⟨#[]⟩] [(0,TT 51)]),OA 53 (.app 28 3 40 (TT 42) (TT 52)),MM 10 53]))) (.reg [OA 54 (.bin .add (TT 39) (II 1)),MM 39
 54]))))))) (.seq (.reg [LL 56 12 3,MM 57 10,MM 58 2,OA 59 (.call 32 [TT 56,TT 57,TT 58]),MM 55 59,OA 60 (.ext (TT 55) 0),OA 61 (.ext (TT 55) 1),MM 12 60,MM 13 61]) (.seq (.seq (.reg [MM 62 13,OA 63 (.bin .neq (TT 62)
 (II 0))]) (.cond (TT 63) (.seq (.reg [MM 64 13,OA 6 (.mv (.const (.slice none 0 0))),OA 7 (.mv (II 0)),MM 8 64]) .ret) .skip)) (.seq (.reg [OA 14 (.mv (II 0))]) (.seq (.seq (.reg [MM 65 12,OA 66 (.len false (TT 65)),OA 67
 (.mv (II 0))]) (.block 2 (.loop (.seq (.reg [OA 68 (.bin .lss (TT 67) (TT 66))]) (.seq (.cond (TT 68) .skip (.exit 2)) (.seq (.block 3 (.seq (.reg [MM 69 67,MM 15 69]) (.seq (.D6 [.q,.q,.q,.q,.q,.q,.q,.q,.q,.q,.q,
 .q,.q,.e none true] [MM 70 12,MM 71 15,MM 72 12,MM 73 15,OA 74 (.x9 6 (TT 72) (TT 73)),LL 75 6 74,MM 76 1,MM 77 15,OA 78 (.x9 3 (TT 76) (TT 77)),LL 79 3 78,OA 80 (.call 34 [TT 79]),OA 81 (.call 33 [TT 75,TT
 80]),OA 82 (.x9 6 (TT 70) (TT 71)),OB (.store 6 (TT 82) (TT 81))]) (.seq (.D6 [.q,.q,.q,.q,.q,.q,.q,.q,.q,.q,.q,.q,.q,.q,.q] [FF 84 11 3,VV 85 84,MM 86 15,OA 87 (.x9 16 (TT 85) (TT 86)),LL 88 16 87,
 MM 89 2,MM 90 15,OA 91 (.x9 3 (TT 89) (TT 90)),LL 92 3 91,OA 93 (.call 35 [TT 88,TT 92]),MM 83 93,OA 94 (.ext (TT 83) 0),OA 95 (.ext (TT 83) 1),MM 16 94,MM 17 95]) (.seq (.seq (.reg [MM 96 17,OA 97 (.bin .neq (TT
 96) (II 0))]) (.cond (TT 97) (.seq (.reg [MM 98 17,OA 6 (.mv (.const (.slice none 0 0))),OA 7 (.mv (II 0)),MM 8 98]) .ret) .skip)) (.reg [MM 99 14,MM 100 16,OA 101 (.max (TT 99) (TT 100)),MM 14 101])))))) (.reg [OA 102
 (.bin .add (TT 67) (II 1)),MM 67 102]))))))) (.seq (.reg [MM 103 12,MM 104 14,OA 105 (.bin .add (TT 104) (II 1)),MM 6 103,MM 7 105,OA 8 (.mv (II 0))]) .ret)))))))))⟩
theorem a3l:I9 eff Tryz.prog Tryz.f8=some a1N:=by kernel_rfl
theorem a3j:Tryz.prog.funcs[8]?=some Tryz.f8:=Tryz.func8
set_option maxHeartbeats 8000000
def b0e (l:Lk) (q u:Nm.Rt):Sn:=snQ (loQ q u l.brake) (hiQ q u l.brake)
def Q9 (L:List Lk) (q u:List Nm.Rt):List Sn:=(L.zip (q.zip u)).map fun z=>b0e z.1 z.2.1 z.2.2
theorem b1F {L:List Lk} {t v:List Nm.Rt} {i:Nat} {l:Lk} {x y:Nm.Rt} (h1:L[i]?=some l) (h2:t[i]?=some x) (h3:v[i]?=some y):(Q9 L t v)[i]?=some (b0e l x y):=by
 unfold Q9
 rw [c6P,V6 h1 (V6 h2 h3)]
 rfl
theorem a5D {L:List Lk} {t v:List Nm.Rt} (h1:t.length=L.length) (h2:v.length=L.length):(Q9 L t v).length=L.length:=by
 unfold Q9;simp only [c6F,List.length_zip];omega
def toL (q u:List Nm.Rt):List Nm.Rt:=(q.zip u).map fun z=>a1k z.1 z.2
theorem b8a {q u:List Nm.Rt} {i:Nat} {x y:Nm.Rt} (h2:q[i]?=some x) (h3:u[i]?=some y):(toL q u)[i]?=some (a1k x y):=by
 unfold toL
 rw [c6P,V6 h2 h3]
 rfl
theorem b8J {q u:List Nm.Rt} (h:u.length=q.length):(toL q u).length=q.length:=by
 unfold toL;simp only [c6F,List.length_zip];omega
theorem a8s {z:List (Lk × Nm.Rt)} {i:Nat} {x:Lk × Nm.Rt} (h:z[i]?=some x):O6 (z.take (i+1))=if O6 (z.take i) < u7 (Nm.d9 x.1.brake) (Nm.d9 x.2) then u7 (Nm.d9 x.1.brake) (Nm.d9 x.2) else O6 (z.take i):=by
 unfold O6
 rw [take_at h,List.foldl_append,List.foldl_cons,List.foldl_nil]
 generalize List.foldl _ _ _=m
 generalize u7 _ _=k
 split<;>omega
theorem c3y (p q:Rat):G9 p q<=G8 p q:=by
 have h1:=(c2H p q).1
 have h2:=(c2Y p q).1
 grind
theorem a5X {k:Nat} {p q:Rat} (hp:Rb k (Nm.ofQ p)) (hq:Rb k (Nm.ofQ q)):Rb k (Nm.ofQ (G9 p q)):=by unfold G9;split;exact hp;exact hq
theorem a6d {k:Nat} {p q:Rat} (hp:Rb k (Nm.ofQ p)) (hq:Rb k (Nm.ofQ q)):Rb k (Nm.ofQ (G8 p q)):=by unfold G8;split;exact hp;exact hq
def a0M:M4:=⟨119,[.tmp 8,.tmp 9],.seq (.reg [OA 4 (.box 30 (TT 0)),OA 8 (.mv (.const (.slice none 0 0))),OA 9 (.mv (II 0))]) (.seq (.seq (.reg [MM 18 1,OA 19 (.bin .lss (TT 18) (II 0)),MM 20 19,MG 21 1 20 false,FG 22 0 4 20 false,VG
 23 22 20 false,OC 24 (.len false (TT 23)) 20 false,OC 25 (.bin .geq (TT 21) (TT 24)) 20 false,OA 26 (.pick (TT 20) (.const (.bool true)) (TT 25)),MM 27 26,MG 28 2 27 false,OC 29 (.bin .lss (TT 28) (II (-1))) 27 false,OA
 30 (.pick (TT 27) (.const (.bool true)) (TT 29)),MM 31 30,MG 32 2 31 false,FG 33 2 4 31 false,VG 34 33 31 false,OC 35 (.len false (TT 34)) 31 false,OC 36 (.bin .geq (TT 32) (TT 35)) 31 false,OA 37 (.pick (TT 31) (.const
 (.bool true)) (TT 36))]) (.cond (TT 37) (.seq (.reg [OA 8 (.mv (.const (.slice none 0 0))),OA 9 (.mv (II 1))]) .ret) .skip)) (.seq (.reg [FF 39 0 4,VV 40 39,MM 41 1,OA 42 (.x9 12 (TT 40) (TT 41)),LL 43 12 42,MM 44 3,OA
 45 (.call 19 [TT 43,TT 44]),MM 38 45,OA 46 (.ext (TT 38) 0),OA 47 (.ext (TT 38) 1),MM 10 46,MM 11 47]) (.seq (.seq (.reg [MM 48 11,OA 49 (.bin .neq (TT 48) (II 0)),MM 50 49,MG 51 2 50 false,OC 52 (.bin .lss (TT 51) (II
 0)) 50 false,OA 53 (.pick (TT 50) (.const (.bool true)) (TT 52))]) (.cond (TT 53) (.seq (.reg [MM 54 10,MM 55 11,MM 8 54,MM 9 55]) .ret) .skip)) (.seq (.reg [FF 57 0 4,VV 58 57,MM 59 1,OA 60 (.x9 12 (TT 58) (TT 59)),
 LL 61 12 60,MM 62 3,OA 63 (.call 20 [TT 61,TT 62]),MM 56 63,OA 64 (.ext (TT 56) 0),OA 65 (.ext (TT 56) 1),MM 12 64,MM 11 65]) (.seq (.seq (.reg [MM 66 11,OA 67 (.bin .neq (TT 66) (II 0)),MM 68 67,MG 69 12 68 false,OC
 70 (.len false (TT 69)) 68 false,OC 71 (.bin .eql (TT 70) (II 0)) 68 false,OA 72 (.pick (TT 68) (.const (.bool true)) (TT 71))]) (.cond (TT 72) (.seq (.reg [MM 73 11,OA 8 (.mv (.const (.slice none 0 0))),MM 9 73]) .ret)
 .skip)) (.seq (.reg [FF 74 2 4,VV 75 74,MM 76 2,OA 77 (.x9 12 (TT 75) (TT 76)),LL 78 12 77,OA 13 (.alloc 77 [.string ⟨#[]⟩,.slice none 0 0,.bool false,.string ⟨#[]⟩,.string ⟨#[]⟩,.bool false,.string ⟨#[]⟩,.string
 ⟨#[]⟩,.bool false,.bool false,.string ⟨#[]⟩,.string ⟨#[]⟩]),OB (.store 12 (TT 13) (TT 78))]) (.seq (.reg [OA 79 (.call 21 [II 0]),OA 14 (.alloc 28 [.bool false,.string ⟨#[]⟩,.string ⟨#[]⟩]),OB (.store 3 (TT 14) (TT
 79))]) (.seq (.seq (.reg [FF 80 1 13,VV 81 80,OA 82 (.len false (TT 81)),OA 83 (.mv (II 0))]) (.block 0 (.loop (.seq (.reg [OA 84 (.bin .lss (TT 83) (TT 82))]) (.seq (.cond (TT 84) .skip (.exit 0)) (.seq (.block 1 (.seq (.reg
 [OA 85 (.x9 6 (TT 81) (TT 83)),LL 86 6 85,OA 16 (.alloc 40 [.bool false,.string ⟨#[]⟩,.string ⟨#[]⟩,.bool false,.string ⟨#[]⟩,.string ⟨#[]⟩]),OB (.store 6 (TT 16) (TT 86))]) (.seq (.D6 [.q,.q,.q,.q,.q,.q,.q,
 .q,.q,.q,.q,.q,.q,.q,.q,.q,.q,.a,.e (some 17) true] [FF 87 0 16,LL 88 3 87,FF 89 2 13,FF 90 0 89,FF 91 0 90,LL 92 3 91,OA 93 (.call 24 [TT 88,TT 92]),OA 94 (.call 23 [TT 93]),FF 95 3 16,LL 96 3 95,FF 97 2
 13,FF 98 0 97,FF 99 3 98,LL 100 3 99,OA 101 (.call 24 [TT 96,TT 100]),OA 102 (.call 23 [TT 101]),OA 103 (.call 22 [TT 94,TT 102]),OA 17 (.alloc 28 [.bool false,.string ⟨#[]⟩,.string ⟨#[]⟩]),OB (.store 3 (TT 17) (TT
 103))]) (.reg [LL 104 3 14,LL 105 3 17,OA 106 (.call 25 [TT 104,TT 105]),OB (.store 3 (TT 14) (TT 106))])))) (.reg [OA 107 (.bin .add (TT 83) (II 1)),MM 83 107]))))))) (.seq (.D6 [.q,.q,.q,.q,.q,.q,.q,.q,.q,.q,
 .e none true,.q,.q] [MM 108 10,MM 109 12,MM 110 12,OA 111 (.len false (TT 110)),OA 112 (.bin .sub (TT 111) (II 1)),OA 113 (.x9 12 (TT 109) (TT 112)),LL 114 12 113,LL 115 3 14,OA 116 (.call 26 [TT 114,TT 115]),OA
 117 (.bsl 42 12 1 [.bool false,.string ⟨#[]⟩,.string ⟨#[]⟩,.bool false,.string ⟨#[]⟩,.string ⟨#[]⟩,.bool false,.string ⟨#[]⟩,.string ⟨#[]⟩,.bool false,.string ⟨#[]⟩,.string ⟨#[]⟩] [(0,TT 116)]),OA 118 (.app 42 12
 160 (TT 108) (TT 117)),MM 8 118,OA 9 (.mv (II 0))]) .ret)))))))))⟩
theorem a1M:I9 eff Tryz.prog Tryz.f5=some a0M:=by kernel_rfl
theorem a1R:Tryz.prog.funcs[5]?=some Tryz.f5:=Tryz.func5
def a1w (L:List Lk) (q u:List Nm.Rt):List Sp:=(L.zip (q.zip u)).map fun z=>⟨loQ z.2.1 z.2.2 z.1.brake,hiQ z.2.1 z.2.2 z.1.brake⟩
theorem b7h (L:List Lk) (q u:List Nm.Rt):(Q9 L q u).map Sn.enc=(a1w L q u).map Sp.enc:=by
 unfold Q9 a1w
 rw [List.map_map,List.map_map]
 rfl
theorem b6f {L:List Lk} {t v:List Nm.Rt} (h1:t.length=L.length) (h2:v.length=L.length):(a1w L t v).length=L.length:=by
 unfold a1w;simp only [c6F,List.length_zip];omega
def a0U (a:Am) (q:List Sp):List Bq:=a2v (P5 (a0J a.base) (a.links.zip q)) a.links
theorem a6y {a:Am} {q:List Sp} (h:q.length=a.links.length):(a0U a q).length=a.links.length:=by
 unfold a0U a2v
 rw [c6F,List.length_zip,a2V,List.length_zip]
 omega
set_option maxHeartbeats 16000000
theorem c2k {a:Am} {q:List Sn} (ha:F4 a=0) (hq:∀ r ∈ q,Zr 1048576 r):∀ b ∈ a0U a (q.map F8),Bb 402700000 b:=fun b hb=>by
 have hT:=a6p (a.links.zip (q.map F8)) 0 (a0J a.base) (by rw [List.length_zip];have:=(U1 ha).2;omega) (b0z ha) (fun z hz=>⟨(a7c ha).2 _ (List.of_mem_zip hz).1,b3J hq _ (List.of_mem_zip hz).2⟩)
 obtain ⟨z,hz,rfl⟩:=List.mem_map.1 hb
 have hl:=(List.of_mem_zip hz).1
 have hf:=hT _ (List.of_mem_zip hz).2
 obtain ⟨s1,s2,s3⟩:=b0n ((Z7 ha).2 _ hl)
 unfold shB
 split
 ·rename_i he
  rw [he] at s1
  simp at s1
 ·rename_i v r he
  have hp:=b3V hf r (atX z.2 v,atY z.2 v) (b2r hf (s3 v (by rw [he];simp)).1 (s3 v (by rw [he];simp)).2) (fun u hu=>s3 u (by rw [he];exact List.mem_cons_of_mem v hu))
  exact ⟨hp.1.1,hp.2.1,hp.1.2,hp.2.2⟩
def a1m (g:Fr) (l:List Vt):Rat:=l.foldl (fun m c=>G8 m (r9 (Nm.d9 c.x-Nm.d9 g.x)+r9 (Nm.d9 c.y-Nm.d9 g.y))) 0
theorem b1z (g:Fr) {l:List Vt} {i:Nat} {c:Vt} (h:l[i]?=some c):a1m g (l.take (i+1))=G8 (a1m g (l.take i)) (r9 (Nm.d9 c.x-Nm.d9 g.x)+r9 (Nm.d9 c.y-Nm.d9 g.y)):=by
 unfold a1m
 rw [take_at h,List.foldl_append]
 rfl
theorem b2M {g:Fr} (hx:Rb 1048576 g.x) (hy:Rb 1048576 g.y):∀ (l:List Vt) (m:Rat),(∀ v ∈ l,Rb 1048576 v.x/\Rb 1048576 v.y)->Rb 4194400 (Nm.ofQ m)->Rb 4194400 (Nm.ofQ (l.foldl (fun m c=>G8 m (r9 (Nm.d9 c.x-Nm.d9 g.x)+r9 (Nm.d9 c.y-Nm.d9 g.y))) m))
 | [],_,_,hm=>hm
 | c::r,m,hv,hm=>by
  have h:=hv c (by simp)
  exact b2M hx hy r _ (fun v hm=>hv v (by simp [hm])) (a6K hm ((K9 (U4 (O8 (h.1.fit (by decide)) (hx.fit (by decide)))) (U4 (O8 (h.2.fit (by decide)) (hy.fit (by decide))))).mono (by decide)))
def a7E (a:Am) (Q:List Sp):Bq:=(a1X a Q).getD a.links.length ⟨0,0,0,0⟩
theorem b0W {a:Am} {Q:List Sp} (h:Q.length=a.links.length):(a1X a Q)[a.links.length]?=some (a7E a Q)/\(a1X a Q).length=a.links.length+1:=by
 have hl:(a1X a Q).length=a.links.length+1:=by
  unfold a1X
  rw [c6F,a2V,List.length_zip]
  omega
 refine ⟨?_,hl⟩
 unfold a7E
 rw [c6T,c6E (by omega)]
 rfl
theorem b7J {a:Am} {q:List Sn} (ha:F4 a=0) (hql:q.length=a.links.length) (hq:∀ r ∈ q,Zr 1048576 r):Bb 134217728 (a7E a (q.map F8)):=by
 have hT:=a6p (a.links.zip (q.map F8)) 0 (a0J a.base) (by rw [List.length_zip];have:=(U1 ha).2;omega) (b0z ha) (fun z hz=>⟨(a7c ha).2 _ (List.of_mem_zip hz).1,b3J hq _ (List.of_mem_zip hz).2⟩)
 have hm:=c6H (b0W (a:=a) (Q:=q.map F8) (by rw [c6F];exact hql)).1
 unfold a1X at hm
 obtain ⟨f,hf,he⟩:=List.mem_map.1 hm
 have hz:=hT f hf
 rw [<- he]
 exact ⟨hz.1.1,hz.2.1.1,hz.1.2,hz.2.1.2⟩
theorem b9q (w:Wk) (n holds:Int) (q:List Sn) (hwb:Wb 1073741824 w) (h:n < 0 \/ (w.arms.length:Int)<=n \/ holds < -1 \/ (w.parts.length:Int)<=holds) :
  FZ 5 [w.c,ints n,ints holds,.sl 6 (q.map Sn.enc)] (.tup [.v (.slice none 0 0),ints 1]):=by
 refine kW a1R a1M (by rfl) fun w' O hw=>?_
 have n1:=hwb.arms.1
 have n2:=hwb.parts.1
 obtain ⟨arms,walls,parts,slots,gates,walk⟩:=w
 simp only at h n1 n2
 simp only [a0M,j6,TT,II,OA,OB,OC,MM,LL,VV,FF,MG,VG,FG]
 simp only [Wk.c,Wk.enc,ams,wls,pts,sls,gts,sb,ints]
 (repeat first|refine uA ?_|(apply uK;focus first|omega|(intros;simp_all<;>omega))|simp (disch:=omega) only [go_sem,Nat.reduceBEq,Nat.reduceAdd,c6F])
 refine S.cond rfl (fun hc=>?_) (fun hc=>?_)
 ·(repeat first|refine uA ?_|(apply uK;focus omega)|simp (disch:=omega) only [go_sem])
  (refine S.done ?_;simp only [l9,go_sem,Nat.reduceBEq];exact j4.out rfl (Imp.tup (by (repeat' (first|exact j5.nil|exact Imp.refl rfl|exact Imp.frz rfl rfl rfl|exact Imp.D8|refine Imp.agg ?_|refine j5.cons ?_ ?_)))) rfl)
 ·exfalso
  by_cases k1:n < 0<;>by_cases k2:(arms.length:Int)<=n<;>by_cases k3:holds < -1<;>by_cases k4:(parts.length:Int)<=holds<;>simp_all<;>omega
theorem b7m (w:Wk) (n:Nat) (holds:Int) (a:Am) (q:List Sn) (hwb:Wb 1073741824 w) (ga:w.arms[n]?=some a) (h1:-1<=holds) (h2:holds < w.parts.length) (hqn:q.length<=1000000000) (he:P8 a q.length ≠ 0) :
  FZ 5 [w.c,ints n,ints holds,.sl 6 (q.map Sn.enc)] (.tup [.v (.slice none 0 0),ints (P8 a q.length)]):=by
 refine kW a1R a1M (by rfl) fun w' O hw=>?_
 have h:=a9E a q (hwb.arms.2 a (c6H ga)) hqn he
 have hn:=(c6J.1 ga).1
 have n1:=hwb.arms.1
 have n2:=hwb.parts.1
 generalize P8 a q.length=e at *
 obtain ⟨arms,walls,parts,slots,gates,walk⟩:=w
 obtain ⟨name,⟨bx,by',half,tu⟩,links⟩:=a
 simp only at ga hn n1 n2 h2
 have e1:decide ((n:Int) < 0)=false:=decide_eq_false (by omega)
 have e2:decide ((arms.length:Int)<=(n:Int))=false:=decide_eq_false (by omega)
 have e3:decide ((parts.length:Int)<=holds)=false:=decide_eq_false (by omega)
 have e4:decide (holds < -1)=false:=decide_eq_false (by omega)
 have e5:decide (e=0)=false:=decide_eq_false he
 simp only [a0M,j6,TT,II,OA,OB,OC,MM,LL,VV,FF,MG,VG,FG]
 simp only [Wk.c,Wk.enc,Am.c,Am.enc,ams,wls,pts,sls,gts,lks,sb,ints] at h ⊢
 (repeat first|refine uA ?_|(apply uK;focus first|omega|(intros;simp_all<;>omega))|simp (disch:=omega) only [go_sem,Nat.reduceBEq,Nat.reduceAdd,c6F,e1,e2,e3,e4])
 refine S.cond rfl (fun hc=>by simp at hc) (fun hc=>?_)
 (repeat first|refine uA ?_|(apply uK;focus first|omega|(intros;simp_all<;>omega))|simp (disch:=omega) only [go_sem,Nat.reduceBEq,Nat.reduceAdd,c6F,c6P,ga,c6G,c6I,Am.enc,lks,sb,e5]|(apply uD h;exact tz hw;rfl))
 refine S.cond rfl (fun hc=>?_) (fun hc=>by simp [e5] at hc)
 (repeat first|refine uA ?_|(apply uK;focus omega)|simp (disch:=omega) only [go_sem,Nat.reduceBEq])
 (refine S.done ?_;simp only [l9,go_sem,Nat.reduceBEq];exact j4.out rfl (Imp.tup (by (repeat' (first|exact j5.nil|exact Imp.refl rfl|exact Imp.frz rfl rfl rfl|exact Imp.D8|refine Imp.agg ?_|refine j5.cons ?_ ?_)))) rfl)
theorem b1l (w:Wk) (n:Nat) (a:Am) (q:List Sn) (hwb:Wb 1073741824 w) (ga:w.arms[n]?=some a) (ha:F4 a=0) (hql:q.length=a.links.length) (hq:∀ r ∈ q,Zr 1048576 r) :
  FZ 5 [w.c,ints n,ints (-1),.sl 6 (q.map Sn.enc)] (.tup [.sl 12 ((a0U a (q.map F8)).map Bq.enc),ints 0]):=by
 refine kW a1R a1M (by rfl) fun w' O hw=>?_
 have hl:=hwb.arms.2 a (c6H ga)
 have h:=fun (E:Ctx) (hP:E.P=Tryz.prog) (ht:Tz E)=>a4o hP ht a q hl ha hql hq
 have hn:=(c6J.1 ga).1
 have n1:=hwb.arms.1
 have n2:=hwb.parts.1
 change ∀ E:Ctx,E.P=Tryz.prog->Tz E->l8 E [] 19 [a.c,.sl 6 (q.map Sn.enc)] (.tup [.rv 1,ints 0]) [.gone,.row 42 12 ((a0U a (q.map F8)).map Bq.enc)] [] at h
 generalize a0U a (q.map F8)=R at *
 obtain ⟨arms,walls,parts,slots,gates,walk⟩:=w
 obtain ⟨name,⟨bx,by',half,tu⟩,links⟩:=a
 simp only at ga hn n1 n2
 have e1:decide ((n:Int) < 0)=false:=decide_eq_false (by omega)
 have e2:decide ((arms.length:Int)<=(n:Int))=false:=decide_eq_false (by omega)
 have e3:decide ((parts.length:Int)<=-1)=false:=decide_eq_false (by omega)
 simp only [a0M,j6,TT,II,OA,OB,OC,MM,LL,VV,FF,MG,VG,FG]
 simp only [Wk.c,Wk.enc,Am.c,Am.enc,ams,wls,pts,sls,gts,lks,sb,ints] at h ⊢
 (repeat first|refine uA ?_|(apply uK;focus first|omega|(intros;simp_all<;>omega))|simp (disch:=omega) only [go_sem,Nat.reduceBEq,Nat.reduceAdd,c6F,e1,e2,e3])
 refine S.cond rfl (fun hc=>by simp at hc) (fun hc=>?_)
 (repeat first|refine uA ?_|(apply uK;focus first|omega|(intros;simp_all<;>omega))|simp (disch:=omega) only [go_sem,Nat.reduceBEq,Nat.reduceAdd,C.sh,C.shL,c7g,List.length_nil,c6F,c6P,ga,c6G,c6I,Am.enc,lks,sb]|refine p8.t (l8.pre (h _ rfl ⟨hw,id⟩) rfl rfl rfl) ?_)
 refine S.cond rfl (fun hc=>?_) (fun hc=>by simp at hc)
 (repeat first|refine uA ?_|(apply uK;focus omega)|simp (disch:=omega) only [go_sem,Nat.reduceBEq])
 (refine S.done ?_;simp only [l9,go_sem,Nat.reduceBEq];exact j4.out rfl (Imp.tup (by (repeat' (first|exact j5.nil|exact Imp.refl rfl|exact Imp.frz rfl rfl rfl|exact Imp.D8|refine Imp.agg ?_|refine j5.cons ?_ ?_)))) rfl)
theorem b9v (w:Wk) (n k:Nat) (a:Am) (p:Pt) (q:List Sn) (hwb:Wb 1048576 w) (ga:w.arms[n]?=some a) (gp:w.parts[k]?=some p) (ha:F4 a=0) (hql:q.length=a.links.length) (hq:∀ r ∈ q,Zr 1048576 r) :
  FZ 5 [w.c,ints n,ints k,.sl 6 (q.map Sn.enc)] (.tup [.sl 12 ((a0U a (q.map F8)++[a4n (a7E a (q.map F8)) (a1m p.grasp p.shape)]).map Bq.enc),ints 0]):=by
 refine kW a1R a1M (by rfl) fun w' O hw=>?_
 have hl:=(hwb.mono (show 1048576<=1073741824 by decide)).arms.2 a (c6H ga)
 have h:=fun (E:Ctx) (hP:E.P=Tryz.prog) (ht:Tz E)=>a4o hP ht a q hl ha hql hq
 have hn:=(c6J.1 ga).1
 have hk:=(c6J.1 gp).1
 have n1:=hwb.arms.1
 have n2:=hwb.parts.1
 obtain ⟨pn,ps,pg⟩:=hwb.parts.2 p (c6H gp)
 have hf:=b1J a q hl ha hql hq
 obtain ⟨ht1,ht2⟩:=b0W (a:=a) (Q:=q.map F8) (by rw [c6F];exact hql)
 have htb:=b7J ha hql hq
 have hal:=(U1 ha).2
 have hRl:=a6y (a:=a) (q:=q.map F8) (by rw [c6F];exact hql)
 have hz:=a2k
 change ∀ E:Ctx,E.P=Tryz.prog->Tz E->l8 E [] 19 [a.c,.sl 6 (q.map Sn.enc)] (.tup [.rv 1,ints 0]) [.gone,.row 42 12 ((a0U a (q.map F8)).map Bq.enc)] [] at h
 generalize a0U a (q.map F8)=R at *
 generalize a1X a (q.map F8)=T at *
 generalize a7E a (q.map F8)=tip at *
 obtain ⟨arms,walls,parts,slots,gates,walk⟩:=w
 obtain ⟨name,⟨bx,by',half,tu⟩,links⟩:=a
 obtain ⟨pname,shp,⟨gx,gy,gh,gt⟩⟩:=p
 simp only at ga gp hn hk n1 n2 ht1 ht2 hal hRl pn ps pg ⊢
 have hsl:shp.length<=1048576:=ps.1
 have hfb:=fun i=>b2M (g:=⟨gx,gy,gh,gt⟩) pg.1 pg.2.1 (shp.take i) 0 (fun v hv=>ps.2 v (List.mem_of_mem_take hv)) (a0j.mono (by decide))
 change ∀ i,Rb 4194400 (Nm.ofQ (a1m ⟨gx,gy,gh,gt⟩ (shp.take i))) at hfb
 have hfn:=fun (i:Nat) (c:Vt) (h:shp[i]?=some c)=>b1z ⟨gx,gy,gh,gt⟩ h
 have hf0:a1m ⟨gx,gy,gh,gt⟩ (shp.take 0)=0:=rfl
 have hfe:a1m ⟨gx,gy,gh,gt⟩ shp=a1m ⟨gx,gy,gh,gt⟩ (shp.take shp.length):=by rw [c6X]
 rw [hfe]
 generalize hF:(fun i=>a1m ⟨gx,gy,gh,gt⟩ (shp.take i))=F
 have hFi:∀ i,a1m ⟨gx,gy,gh,gt⟩ (shp.take i)=F i:=fun i=>by rw [<- hF]
 simp only [hFi] at hfb hfn hf0 ⊢
 clear hF hFi hfe
 have e1:decide ((n:Int) < 0)=false:=decide_eq_false (by omega)
 have e2:decide ((arms.length:Int)<=(n:Int))=false:=decide_eq_false (by omega)
 have e3:decide ((parts.length:Int)<=(k:Int))=false:=decide_eq_false (by omega)
 have e4:decide ((k:Int) < -1)=false:=decide_eq_false (by omega)
 have e5:decide ((k:Int) < 0)=false:=decide_eq_false (by omega)
 have e6:decide ((T.length:Int)=0)=false:=decide_eq_false (by omega)
 simp only [a0M,j6,TT,II,OA,OB,OC,MM,LL,VV,FF,MG,VG,FG]
 simp only [Wk.c,Wk.enc,Am.c,Am.enc,ams,wls,pts,sls,gts,lks,sb,ints] at h hf ⊢
 (repeat first|refine uA ?_|(refine uK ?_ ?_;focus first|omega|(intros;simp_all<;>omega))|simp (disch:=omega) only [go_sem,Nat.reduceBEq,Nat.reduceAdd,c6F,e1,e2,e3,e4])
 refine S.cond rfl (fun hc=>by simp at hc) (fun hc=>?_)
 (repeat first|refine uA ?_|(refine uK ?_ ?_;focus first|omega|(intros;simp_all<;>omega))|simp (disch:=omega) only [go_sem,Nat.reduceBEq,Nat.reduceAdd,C.sh,C.shL,c7g,List.length_nil,c6F,c6P,ga,c6G,c6I,Am.enc,lks,sb,e5]|refine p8.t (l8.pre (h _ rfl ⟨hw,id⟩) rfl rfl rfl) ?_)
 refine S.cond rfl (fun hc=>by simp [e5] at hc) (fun hc=>?_)
 (repeat first|refine uA ?_|(refine uK ?_ ?_;focus first|omega|(intros;simp_all<;>omega))|simp (disch:=omega) only [go_sem,Nat.reduceBEq,Nat.reduceAdd,c6F,c6P,ga,c6G,c6I,Am.enc,lks,sb,e6]|(refine uD hf ?_ ?_ ?_;exact tz hw;exact rfl))
 refine S.cond rfl (fun hc=>by simp [e6] at hc) (fun hc=>?_)
 unfold rq at hz
 simp only [rc,sb] at hz
 (repeat first|refine uA ?_|(refine uK ?_ ?_;focus first|omega|(intros;simp_all<;>omega))|simp (disch:=omega) only [go_sem,Nat.reduceBEq,Nat.reduceAdd,c6F,c6P,gp,c6G,c6I,Pt.enc,vts,sb]|(refine uD hz ?_ ?_ ?_;exact tz hw;exact rfl))
 refine S.loop (X:=Nat) (fun i=>⟨[(10,.rv 2),(12,.sl 12 (T.map Bq.enc)),(13,.bp 3 0),(14,.bp 4 0),(81,vts shp),(82,ints shp.length),(83,ints i)],[.gone,.gone,.row 42 12 (R.map Bq.enc),.box 77 (Pt.mk pname shp ⟨gx,gy,gh,gt⟩).enc,.box 28 (rcs (Nm.ofQ (F i)))]⟩) (fun i=>i<=shp.length) (fun i=>shp.length-i) 0 (c6K _) (by rw [hf0];simp only [Pt.enc,vts,rcs,sb];exact (by (repeat first|refine uA ?_|(refine ⟨?_,?_⟩;focus first|rfl|simp [slot])|rfl|simp))) ?_
 intro i hi
 clear h hf hz hf0
 simp only [Pt.enc,vts,rcs,sb,ints]
 (repeat first|refine uA ?_|(refine uK ?_ ?_;focus first|omega|(intros;simp_all<;>omega))|simp (disch:=omega) only [go_sem,Nat.reduceBEq])
 (refine uJ rfl (fun hc=>?_) fun hc=>?_)
 ·have hi':i < shp.length:=by omega
  have hg:=c6E hi'
  generalize shp[i]=c at hg
  have hc2:=ps.2 c (c6H hg)
  have hn2:=hfn i c hg
  have hb:=hfb i
  have b1:=O8 (hc2.1.fit (by decide)) (pg.1.fit (by decide))
  have b2:=O8 (hc2.2.fit (by decide)) (pg.2.1.fit (by decide))
  have b3:=K9 (U4 b1) (U4 b2)
  have o1:=a6b c.x gx (hc2.1.mono (by decide)) (pg.1.mono (by decide))
  have o2:=a6b c.y gy (hc2.2.mono (by decide)) (pg.2.1.mono (by decide))
  have o3:=a5q (Nm.ofQ (Nm.d9 c.x-Nm.d9 gx)) (b1.mono (by decide))
  have o4:=a5q (Nm.ofQ (Nm.d9 c.y-Nm.d9 gy)) (b2.mono (by decide))
  rw [Nm.q8] at o3 o4
  have o5:=a2e (r9 (Nm.d9 c.x-Nm.d9 gx)) (r9 (Nm.d9 c.y-Nm.d9 gy)) ((U4 b1).mono (by decide)) ((U4 b2).mono (by decide))
  have o6:=a4V (Nm.ofQ (F i)) (Nm.ofQ (r9 (Nm.d9 c.x-Nm.d9 gx)+r9 (Nm.d9 c.y-Nm.d9 gy))) (hb.mono (by decide)) (b3.mono (by decide))
  rw [Nm.q8,Nm.q8,<- hn2] at o6
  clear hn2 hb b1 b2 b3 hc2 hfn hfb
  generalize Nm.d9 c.x-Nm.d9 gx=d1 at *
  generalize Nm.d9 c.y-Nm.d9 gy=d2 at *
  generalize r9 d1+r9 d2=d5 at *
  generalize r9 d1=d3 at *
  generalize r9 d2=d4 at *
  generalize F i=f0 at *
  generalize hF1:F (i+1)=f1 at *
  obtain ⟨cx,cy⟩:=c
  simp only [rq,rc,sb] at o1 o2 o3 o4 o5 o6
  (repeat first|refine uI ?_|(refine uK ?_ ?_;focus first|omega|(intros;simp_all<;>omega))|simp (disch:=omega) only [go_sem,Nat.reduceBEq,Nat.reduceAdd,hg,c6G,c6F,c6P,Vt.enc,sb,c6I])
  refine S.D6 [.gone,.gone,.gone,.box 77 [.v (.string (bs pname)),.sl 6 (shp.map Vt.enc),.v (.bool gx.neg),.v (.string (bs gx.num)),.v (.string (bs gx.den)),.v (.bool gy.neg),.v (.string (bs gy.num)),.v (.string (bs gy.den)),.v (.bool gh),.v (.bool gt.neg),.v (.string (bs gt.num)),.v (.string (bs gt.den))],.gone,.box 40 [.v (.bool cx.neg),.v (.string (bs cx.num)),.v (.string (bs cx.den)),.v (.bool cy.neg),.v (.string (bs cy.num)),.v (.string (bs cy.den))]] (by simp [Eng.F6,Eng.H6]) ?_
  (repeat first|refine uA ?_|(refine uK ?_ ?_;focus first|omega|(intros;simp_all<;>omega))|simp (disch:=omega) only [go_sem,Nat.reduceBEq,Nat.reduceAdd,ww,Eng.H6]|(refine uD o1 ?_ ?_ ?_;exact tz hw;exact rfl)|(refine uD o3 ?_ ?_ ?_;exact tz hw;exact rfl)|(refine uD o2 ?_ ?_ ?_;exact tz hw;exact rfl)|(refine uD o4 ?_ ?_ ?_;exact tz hw;exact rfl)|(refine uD o5 ?_ ?_ ?_;exact tz hw;exact rfl)|(refine uD o6 ?_ ?_ ?_;exact tz hw;exact rfl))
  refine S.next (i+1) (by omega) (by omega) (by rw [hF1];exact (by (repeat first|refine uA ?_|(refine ⟨?_,?_⟩;focus first|rfl|simp [slot])|rfl|simp)))
 have hi':i=shp.length:=by omega
 subst hi'
 have o7:=c5e tip (F shp.length) ⟨htb.1.mono (by decide),htb.2.1.mono (by decide),htb.2.2.1.mono (by decide),htb.2.2.2.mono (by decide)⟩ ((hfb _).mono (by decide))
 clear hfb hfn
 generalize F shp.length=f0 at *
 generalize a4n tip f0=gb at *
 have e7:((T.length:Int)-1).toNat=links.length:=by omega
 have e8:(0:Int)<=(T.length:Int)-1/\(T.length:Int)-1 < T.length:=by omega
 obtain ⟨tx,ty,tx2,ty2⟩:=tip
 obtain ⟨g1,g2,g3,g4⟩:=gb
 simp only [Bq.enc,rq,rc,sb] at o7
 (repeat first|refine uI ?_|(refine uK ?_ ?_;focus first|omega|(intros;simp_all<;>omega))|simp (disch:=omega) only [go_sem,Nat.reduceBEq,Nat.reduceAdd,ww])
 refine S.D6 [.gone,.gone,.gone,.gone,.box 28 [.v (.bool (Nm.ofQ f0).neg),.v (.string (bs (Nm.ofQ f0).num)),.v (.string (bs (Nm.ofQ f0).den))]] (by simp [Eng.F6,Eng.H6]) ?_
 (repeat first|refine uA ?_|(refine uK ?_ ?_;focus first|omega|(intros;simp_all<;>omega))|simp (disch:=omega) only [go_sem,Nat.reduceBEq,Nat.reduceAdd,ww,Eng.H6,c6F,c6P,ht1,e7,c6G,Bq.enc,sb]|(refine uD o7 ?_ ?_ ?_;exact tz hw;exact rfl))
 simp only [c7t,c6V,c6Z,Bq.enc,sb]
 (refine S.done ?_;simp only [l9,go_sem,Nat.reduceBEq];(repeat (refine ⟨?_,?_⟩;focus first|trivial|omega|simp));exact j4.out rfl (Imp.tup (by (repeat' (first|exact j5.nil|exact Imp.refl rfl|exact Imp.frz rfl rfl rfl|exact Imp.D8|refine Imp.agg ?_|refine j5.cons ?_ ?_)))) rfl)
set_option maxHeartbeats 8000000
structure Jo (l:Lk) (v:Nm.Rt):Prop where
 hb:Rb 3 l.brake
 hv:Rb 1048576 v
 pos:0 < z8 (Nm.d9 l.brake)
theorem c0P (q:Rat) (h0:0<=q.floor):(flI q=q.floor/\flE q=0) \/ (flI q=0/\flE q=2/\2000 < q.floor):=by
 unfold flI flE
 by_cases h:q.floor.natAbs < 9223372036854775808
 ·exact .inl ⟨if_pos h,if_pos h⟩
 ·exact .inr ⟨if_neg h,if_neg h,by omega⟩
theorem a9a (l:Lk) (v:Nm.Rt) (h:Jo l v):FZ 35 [l.c,rc v] (.tup [ints (if u7 (Nm.d9 l.brake) (Nm.d9 v)<=2000 then u7 (Nm.d9 l.brake) (Nm.d9 v) else 0),ints (if u7 (Nm.d9 l.brake) (Nm.d9 v)<=2000 then 0 else 2)]):=by
 refine kW b2a b2h (by rfl) fun w O hw=>?_
 obtain ⟨hb,hv,h0⟩:=h
 have hB:=b0r h0
 have hne:Nm.d9 l.brake ≠ 0:=by grind
 have ra:=U4 (hv.fit (by decide))
 have rd:=a9y hne ra (hb.fit (by decide))
 have o1:=O9 l.brake (hb.mono (by decide))
 have o2:=a5q v (hv.mono (by decide))
 have o3:=b7G (Nm.ofQ (r9 (Nm.d9 v))) l.brake (ra.mono (by decide)) (hb.mono (by decide))
 rw [Nm.q8] at o3
 unfold a3p a8T at o3
 rw [if_neg hne,if_neg hne] at o3
 have hq0:0<=r9 (Nm.d9 v) / Nm.d9 l.brake:=by
  rw [Rat.div_def]
  exact Rat.mul_nonneg (abs_nonneg _) (Rat.le_of_lt (Rat.inv_pos.2 hB))
 have hTd:u7 (Nm.d9 l.brake) (Nm.d9 v)=if ((r9 (Nm.d9 v) / Nm.d9 l.brake).floor:Rat) < r9 (Nm.d9 v) / Nm.d9 l.brake then (r9 (Nm.d9 v) / Nm.d9 l.brake).floor+1 else (r9 (Nm.d9 v) / Nm.d9 l.brake).floor:=rfl
 have hf0:=b2I hq0
 generalize r9 (Nm.d9 v) / Nm.d9 l.brake=q at *
 generalize u7 (Nm.d9 l.brake) (Nm.d9 v)=T at *
 have o4:=a8Y (Nm.ofQ q) (rd.mono (by decide))
 rw [Nm.q8] at o4
 have hfl:=c0P q hf0
 have o5:=fun hF:q.floor<=2000=>a2h q.floor (by omega) (by omega)
 have o6:=fun hF:q.floor<=2000=>M6 (Nm.ofQ (q.floor:Rat)) (Nm.ofQ q) ((a2c (by omega)).mono (by decide)) (rd.mono (by decide))
 rw [Nm.q8,Nm.q8] at o6
 have hcn:=a1J (q.floor:Rat) q
 have hTd2:T=if Nm.q9 (q.floor:Rat) q < 0 then q.floor+1 else q.floor:=by
  rw [hTd]
  by_cases hc:(q.floor:Rat) < q
  ·rw [if_pos hc,if_pos (hcn.2 hc)]
  ·rw [if_neg hc,if_neg fun h=>hc (hcn.1 h)]
 clear hcn hTd
 generalize Nm.q9 (q.floor:Rat) q=cc at *
 generalize flI q=fi at *
 generalize flE q=fe at *
 generalize q.floor=F at *
 have hT1:(fe ≠ 0 \/ 2000 < fi)->¬ T<=2000:=fun h=>by
  split at hTd2<;>omega
 have hT2:¬ (fe ≠ 0 \/ 2000 < fi)->fi=F/\F<=2000:=fun h=>by omega
 unfold rq at *
 generalize Nm.ofQ (r9 (Nm.d9 v))=z1 at *
 generalize Nm.ofQ q=z2 at *
 generalize Nm.ofQ (F:Rat)=z3 at *
 generalize z8 (Nm.d9 l.brake)=sg at *
 simp only [a6X,j6,TT,II,OA,OB,OC,MM,LL,FF,MG]
 simp only [Lk.c,Lk.enc,rc,vts,sb,ints] at *
 (repeat first|refine uA ?_|(apply uK;focus first|omega|(intros;simp_all<;>omega))|simp (disch:=omega) only [go_sem,Nat.reduceBEq,Nat.reduceAdd]|(apply uD o1;exact tz hw;rfl))
 refine S.cond rfl (fun hc=>by simp at hc;omega) (fun hc=>?_)
 (repeat first|refine uA ?_|(apply uK;focus first|omega|(intros;simp_all<;>omega))|simp (disch:=omega) only [go_sem,Nat.reduceBEq,Nat.reduceAdd]|(apply uD o2;exact tz hw;rfl)|(apply uD o3;exact tz hw;rfl)|(apply uD o4;exact tz hw;rfl))
 refine S.cond rfl (fun hc=>?_) (fun hc=>?_)
 ·have hT:=hT1 (by by_cases k:fe=0<;>simp_all)
  rw [if_neg hT,if_neg hT]
  (repeat first|refine uA ?_|(apply uK;focus omega)|simp (disch:=omega) only [go_sem])
  (refine S.done ?_;simp only [l9,go_sem,Nat.reduceBEq];exact j4.out rfl (Imp.tup (by (repeat' (first|exact j5.nil|exact Imp.refl rfl|exact Imp.frz rfl rfl rfl|exact Imp.D8|refine Imp.agg ?_|refine j5.cons ?_ ?_)))) rfl)
 obtain ⟨rfl,hF⟩:=hT2 (by by_cases k:fe=0<;>simp_all)
 have o5:=o5 hF
 have o6:=o6 hF
 (repeat first|refine uA ?_|(apply uK;focus omega)|simp (disch:=omega) only [go_sem,Nat.reduceBEq]|(apply uD o5;exact tz hw;rfl)|(apply uD o6;exact tz hw;rfl))
 refine S.cond rfl (fun hc=>?_) (fun hc=>?_)
 ·rw [if_pos (by simpa using hc)] at hTd2
  subst hTd2
  (repeat first|refine uA ?_|(apply uK;focus omega)|simp (disch:=omega) only [go_sem,Nat.reduceBEq,ww])
  refine S.cond rfl (fun hc=>?_) (fun hc=>?_)
  ·have hT:¬ fi+1<=2000:=by simp at hc;omega
   rw [if_neg hT,if_neg hT]
   (repeat first|refine uA ?_|(apply uK;focus omega)|simp (disch:=omega) only [go_sem])
   (refine S.done ?_;simp only [l9,go_sem,Nat.reduceBEq];exact j4.out rfl (Imp.tup (by (repeat' (first|exact j5.nil|exact Imp.refl rfl|exact Imp.frz rfl rfl rfl|exact Imp.D8|refine Imp.agg ?_|refine j5.cons ?_ ?_)))) rfl)
  ·have hT:fi+1<=2000:=by simp at hc;omega
   rw [if_pos hT,if_pos hT]
   (repeat first|refine uA ?_|(apply uK;focus omega)|simp (disch:=omega) only [go_sem,Nat.reduceBEq])
   (refine S.done ?_;simp only [l9,go_sem,Nat.reduceBEq];exact j4.out rfl (Imp.tup (by (repeat' (first|exact j5.nil|exact Imp.refl rfl|exact Imp.frz rfl rfl rfl|exact Imp.D8|refine Imp.agg ?_|refine j5.cons ?_ ?_)))) rfl)
 ·rw [if_neg (by simpa using hc)] at hTd2
  subst hTd2
  rw [if_pos hF,if_pos hF]
  (repeat first|refine uA ?_|(apply uK;focus omega)|simp (disch:=omega) only [go_sem,Nat.reduceBEq])
  refine S.cond rfl (fun hc=>by simp at hc;omega) (fun hc=>?_)
  (repeat first|refine uA ?_|(apply uK;focus omega)|simp (disch:=omega) only [go_sem,Nat.reduceBEq])
  (refine S.done ?_;simp only [l9,go_sem,Nat.reduceBEq];exact j4.out rfl (Imp.tup (by (repeat' (first|exact j5.nil|exact Imp.refl rfl|exact Imp.frz rfl rfl rfl|exact Imp.D8|refine Imp.agg ?_|refine j5.cons ?_ ?_)))) rfl)
def b9A:C:=.agg [.v (.bool false),sb [],sb []]
theorem c4E (l:Lk) (v:Nm.Rt) (h:Jo l v) (hle:¬ u7 (Nm.d9 l.brake) (Nm.d9 v)<=2000):FZ 68 [l.c,rc v] (.tup [b9A,ints 2]):=by
 refine kW a8C a8E (by rfl) fun w O hw=>?_
 have o1:=a9a l v h
 rw [if_neg hle,if_neg hle] at o1
 unfold b9A
 simp only [a3F,j6,TT,II,OA,OB,MM,LL,FF]
 simp only [Lk.c,Lk.enc,rc,vts,sb,ints] at *
 (repeat first|refine uA ?_|(apply uK;focus first|omega|(intros;simp_all<;>omega))|simp (disch:=omega) only [go_sem,Nat.reduceBEq,Nat.reduceAdd]|(apply uD o1;exact tz hw;rfl))
 refine S.cond rfl (fun hc=>?_) (fun hc=>by simp at hc)
 (repeat first|refine uA ?_|(apply uK;focus omega)|simp (disch:=omega) only [go_sem,Nat.reduceBEq])
 (refine S.done ?_;simp only [l9,p9,go_sem,Nat.reduceBEq,Nat.reduceAdd,Nat.reduceLeDiff];(repeat (refine ⟨?_,?_⟩;focus first|trivial|omega|simp));exact j4.out rfl (Imp.tup (by (repeat' (first|exact j5.nil|exact Imp.refl rfl|exact Imp.frz rfl rfl rfl|exact Imp.D8|refine Imp.agg ?_|refine j5.cons ?_ ?_)))) rfl)
theorem b0R {l:Lk} {v:Nm.Rt} (h:Jo l v) (hle:u7 (Nm.d9 l.brake) (Nm.d9 v)<=2000):Rb 1048704 (Nm.ofQ (R8 l v)):=by
 obtain ⟨hb,hv,h0⟩:=h
 have hs:sgQ (Nm.d9 v)=1 \/ sgQ (Nm.d9 v)=-1:=by unfold sgQ;split<;>simp
 have ra:=U4 (hv.fit (by decide))
 have rb:=hb.fit (by decide)
 have hw:Rb 1048704 (Nm.ofQ (a2p (Nm.d9 l.brake) (r9 (Nm.d9 v)) (u7 (Nm.d9 l.brake) (Nm.d9 v)).toNat)):=by
  have hn:(u7 (Nm.d9 l.brake) (Nm.d9 v)).toNat<=2000:=by omega
  generalize (u7 (Nm.d9 l.brake) (Nm.d9 v)).toNat=n at *
  have hm:n*(n-1)<=2000*2000:=Nat.mul_le_mul hn (by omega)
  have i1:Rb 8 (Nm.ofQ ((n-1:Nat):Rat)):=a2c (n:=((n-1:Nat):Int)) (by omega)
  have i2:Rb 8 (Nm.ofQ ((n*(n-1) / 2:Nat):Rat)):=a2c (n:=((n*(n-1) / 2:Nat):Int)) (by omega)
  unfold a2p
  split
  ·exact a0j.mono (by decide)
  ·exact (O8 (I5 i1 ra) (I5 rb i2)).mono (by decide)
 unfold R8
 rcases hs with e|e<;>rw [e]
 ·rw [Rat.one_mul];exact hw
 ·rw [show (-1:Rat)*a2p (Nm.d9 l.brake) (r9 (Nm.d9 v)) (u7 (Nm.d9 l.brake) (Nm.d9 v)).toNat=-a2p (Nm.d9 l.brake) (r9 (Nm.d9 v)) (u7 (Nm.d9 l.brake) (Nm.d9 v)).toNat by grind]
  exact a0L hw
theorem b8H (l:Lk) (v:Nm.Rt) (h:Jo l v) (hle:u7 (Nm.d9 l.brake) (Nm.d9 v)<=2000):FZ 68 [l.c,rc v] (.tup [rq (R8 l v),ints 0]):=by
 refine kW a8C a8E (by rfl) fun w O hw=>?_
 have o1:=a9a l v h
 rw [if_pos hle,if_pos hle] at o1
 obtain ⟨hb,hv,h0⟩:=h
 have hT:=(a4M (V:=Nm.d9 v) (b0r h0)).1
 have ra:=U4 (hv.fit (by decide))
 have rb:=hb.fit (by decide)
 have o2:=a2k
 have o3:=a5q v (hv.mono (by decide))
 have o4:=O9 v (hv.mono (by decide))
 have hsn:=b9F (Nm.d9 v)
 unfold R8 sgQ a2p
 obtain ⟨n,hn⟩:∃ n:Nat,u7 (Nm.d9 l.brake) (Nm.d9 v)=n:=⟨(u7 (Nm.d9 l.brake) (Nm.d9 v)).toNat,by omega⟩
 rw [hn] at hle o1 ⊢
 rw [c6I]
 clear hn
 generalize r9 (Nm.d9 v)=V at *
 generalize hBq:Nm.d9 l.brake=B at *
 by_cases h2:n < 2
 ·rw [if_pos h2,show (if Nm.d9 v < 0 then (-1:Rat) else 1)*0=0 by grind]
  unfold rq at *
  generalize Nm.ofQ 0=z at *
  simp only [a3F,j6,TT,II,OA,OB,MM,LL,FF]
  simp only [Lk.c,Lk.enc,rc,vts,sb,ints] at *
  (repeat first|refine uA ?_|(apply uK;focus first|omega|(intros;simp_all<;>omega))|simp (disch:=omega) only [go_sem,Nat.reduceBEq,Nat.reduceAdd]|(apply uD o1;exact tz hw;rfl))
  refine S.cond rfl (fun hc=>by simp at hc) (fun hc=>?_)
  (repeat first|refine uA ?_|(apply uK;focus omega)|simp (disch:=omega) only [go_sem,Nat.reduceBEq])
  refine S.cond rfl (fun hc=>?_) (fun hc=>by simp at hc;omega)
  (repeat first|refine uA ?_|(apply uK;focus omega)|simp (disch:=omega) only [go_sem,Nat.reduceBEq]|(apply uD o2;exact tz hw;rfl))
  (refine S.done ?_;simp only [l9,p9,go_sem,Nat.reduceBEq,Nat.reduceAdd,Nat.reduceLeDiff];(repeat (refine ⟨?_,?_⟩;focus first|trivial|omega|simp));exact j4.out rfl (Imp.tup (by (repeat' (first|exact j5.nil|exact Imp.refl rfl|exact Imp.frz rfl rfl rfl|exact Imp.D8|refine Imp.agg ?_|refine j5.cons ?_ ?_)))) rfl)
 rw [if_neg h2]
 have hm:n*(n-1)<=2000*2000:=Nat.mul_le_mul (show n<=2000 by omega) (by omega)
 have hm0:(n:Int)*((n:Int)-1)=((n*(n-1):Nat):Int):=by
  rw [Int.natCast_mul];congr 1;omega
 have e1:IntKind.i64.wrap ((n:Int)-1)=((n-1:Nat):Int):=by rw [Eng.wrap_i64 (by omega)];omega
 have e2:IntKind.i64.wrap ((n:Int)*((n-1:Nat):Int))=((n*(n-1):Nat):Int):=by
  rw [<- Int.natCast_mul];exact Eng.wrap_i64 (by omega)
 have e3:IntKind.i64.wrap (((n*(n-1):Nat):Int).tdiv 2)=((n*(n-1) / 2:Nat):Int):=by
  rw [show ((n*(n-1):Nat):Int).tdiv 2=((n*(n-1) / 2:Nat):Int) from rfl];exact Eng.wrap_i64 (by omega)
 have i1:Rb 8 (Nm.ofQ ((n-1:Nat):Rat)):=a2c (n:=((n-1:Nat):Int)) (by omega)
 have i2:Rb 8 (Nm.ofQ ((n*(n-1) / 2:Nat):Rat)):=a2c (n:=((n*(n-1) / 2:Nat):Int)) (by omega)
 have o5:=a2h ((n-1:Nat):Int) (by omega) (by omega)
 have o6:=a2h ((n*(n-1) / 2:Nat):Int) (by omega) (by omega)
 have o7:=a2f ((n-1:Nat):Rat) V (i1.mono (by decide)) (ra.mono (by decide))
 have o8:=b8x l.brake (Nm.ofQ ((n*(n-1) / 2:Nat):Rat)) (hb.mono (by decide)) (i2.mono (by decide))
 rw [Nm.q8,hBq] at o8
 have r1:=I5 i1 ra
 have r2:=I5 rb i2
 have o9:=a5C (((n-1:Nat):Rat)*V) (B*((n*(n-1) / 2:Nat):Rat)) (r1.mono (by decide)) (r2.mono (by decide))
 have r3:=O8 r1 r2
 have o10:=a7F (Nm.ofQ (((n-1:Nat):Rat)*V-B*((n*(n-1) / 2:Nat):Rat))) (r3.mono (by decide))
 rw [Nm.q8] at o10
 rw [show (((n-1:Nat):Int):Rat)=((n-1:Nat):Rat) from rfl] at o5
 rw [show (((n*(n-1) / 2:Nat):Int):Rat)=((n*(n-1) / 2:Nat):Rat) from rfl] at o6
 have key:(if Nm.d9 v < 0 then (-1:Rat) else 1)*(((n-1:Nat):Rat)*V-B*((n*(n-1) / 2:Nat):Rat))=if z8 (Nm.d9 v) < 0 then -(((n-1:Nat):Rat)*V-B*((n*(n-1) / 2:Nat):Rat)) else ((n-1:Nat):Rat)*V-B*((n*(n-1) / 2:Nat):Rat):=by
  by_cases hv0:Nm.d9 v < 0
  ·rw [if_pos hv0,if_pos (hsn.2 hv0)];grind
  ·rw [if_neg hv0,if_neg fun h=>hv0 (hsn.1 h)];grind
 rw [key]
 clear key hsn r1 r2 r3 i1 i2 ra rb hm hm0 hv hb h0 hBq
 generalize z8 (Nm.d9 v)=sg at *
 generalize ((n-1:Nat):Rat)*V=x1 at *
 generalize B*((n*(n-1) / 2:Nat):Rat)=x2 at *
 generalize x1-x2=x3 at *
 generalize -x3=x4 at *
 generalize hk1:n-1=k1 at *
 generalize n*k1 / 2=k2 at *
 unfold rq at *
 generalize Nm.ofQ V=y1 at *
 generalize Nm.ofQ (k1:Rat)=y2 at *
 generalize Nm.ofQ (k2:Rat)=y3 at *
 generalize Nm.ofQ x1=y4 at *
 generalize Nm.ofQ x2=y5 at *
 simp only [a3F,j6,TT,II,OA,OB,MM,LL,FF]
 simp only [Lk.c,Lk.enc,rc,vts,sb,ints] at *
 (repeat first|refine uA ?_|(apply uK;focus first|omega|(intros;simp_all<;>omega))|simp (disch:=omega) only [go_sem,Nat.reduceBEq,Nat.reduceAdd]|(apply uD o1;exact tz hw;rfl))
 refine S.cond rfl (fun hc=>by simp at hc) (fun hc=>?_)
 (repeat first|refine uA ?_|(apply uK;focus omega)|simp (disch:=omega) only [go_sem,Nat.reduceBEq])
 refine S.cond rfl (fun hc=>by simp at hc;omega) (fun hc=>?_)
 (repeat first|refine uA ?_|(apply uK;focus omega)|simp (disch:=omega) only [go_sem,Nat.reduceBEq,e1,e2,e3]|(apply uD o5;exact tz hw;rfl)|(apply uD o3;exact tz hw;rfl)|(apply uD o7;exact tz hw;rfl)|(apply uD o6;exact tz hw;rfl)|(apply uD o8;exact tz hw;rfl)|(apply uD o9;exact tz hw;rfl)|(apply uD o4;exact tz hw;rfl))
 refine S.cond rfl (fun hc=>?_) (fun hc=>?_)
 ·rw [if_pos (by simpa using hc)]
  generalize Nm.ofQ x3=y6 at *
  generalize Nm.ofQ x4=y7 at *
  (repeat first|refine uA ?_|(apply uK;focus omega)|simp (disch:=omega) only [go_sem,Nat.reduceBEq]|(apply uD o10;exact tz hw;rfl))
  (refine S.done ?_;simp only [l9,p9,go_sem,Nat.reduceBEq,Nat.reduceAdd,Nat.reduceLeDiff];(repeat (refine ⟨?_,?_⟩;focus first|trivial|omega|simp));exact j4.out rfl (Imp.tup (by (repeat' (first|exact j5.nil|exact Imp.refl rfl|exact Imp.frz rfl rfl rfl|exact Imp.D8|refine Imp.agg ?_|refine j5.cons ?_ ?_)))) rfl)
 ·rw [if_neg (by simpa using hc)]
  generalize Nm.ofQ x3=y6 at *
  (repeat first|refine uA ?_|(apply uK;focus omega)|simp (disch:=omega) only [go_sem,Nat.reduceBEq])
  (refine S.done ?_;simp only [l9,p9,go_sem,Nat.reduceBEq,Nat.reduceAdd,Nat.reduceLeDiff];(repeat (refine ⟨?_,?_⟩;focus first|trivial|omega|simp));exact j4.out rfl (Imp.tup (by (repeat' (first|exact j5.nil|exact Imp.refl rfl|exact Imp.frz rfl rfl rfl|exact Imp.D8|refine Imp.agg ?_|refine j5.cons ?_ ?_)))) rfl)
theorem a7r (p q r s:Rat) (h1:p<=q) (h2:r<=s) (hp:Rb 1073741824 (Nm.ofQ p)) (hq:Rb 1073741824 (Nm.ofQ q)) (hr:Rb 1073741824 (Nm.ofQ r)) (hs:Rb 1073741824 (Nm.ofQ s)):FZ 33 [(snQ p q).c,(snQ r s).c] (snQ (G9 p r) (G8 q s)).c:=by
 have h:=a4D ⟨p,q⟩ ⟨r,s⟩ ⟨hp,hq⟩ ⟨hr,hs⟩
 unfold P7 at h
 rw [b0H h1,b0H h2] at h
 exact h
theorem b9X {E:Ctx} (hP:E.P=Tryz.prog) (ht0:Tz E) (a:Am) (t v:List Nm.Rt) (hl:Ab 1073741824 a) (ha:F4 a=0) (hq:t.length=a.links.length) (hv:v.length=a.links.length) (htb:∀ r ∈ t,Rb 2097153 r) (hf:∀ (i:Nat) (l:Lk) (x:Nm.Rt),a.links[i]?=some l->v[i]?=some x->Jo l x/\u7 (Nm.d9 l.brake) (Nm.d9 x)<=2000) :
  l8 E [] 32 [a.c,rts t,rts v] (.tup [.rv 1,ints 0]) [.gone,.row 89 6 ((a3J a.links t v).map Sn.enc)] []:=by
 obtain ⟨P,eff',N,w0,own0,av0,nu0,pk0⟩:=E
 simp only at hP
 subst hP
 refine l8.ofT (eff:=eff) ht0 a7a a6Z (by exact c6Y rfl) fun w' own av ν hν ht=>?_
 have hν0:ν.length<=0:=by rw [hν];exact c6N _
 have hfit:=b5S a t v hl ha hq hv
 have hn:=hl.2.2.1
 have hsl:=a7n hq hv
 have hsg:=@a7v a.links t v
 have hz:=a2k
 generalize a3J a.links t v=SL at *
 obtain ⟨name,⟨bx,by',half,tu⟩,links⟩:=a
 simp only at hq hv hn hf hsl hsg ⊢
 simp only [a3V,j6,TT,II,OA,OB,MM,LL,VV,FF]
 simp only [Am.c,Am.enc,lks,rts,sb,ints] at hfit ⊢
 (repeat first|refine uA ?_|(refine uK ?_ ?_;focus first|omega|(intros;simp_all<;>omega))|simp (disch:=omega) only [go_sem,Nat.reduceBEq,Nat.reduceAdd]|(refine uD hfit ?_ ?_ ?_;exact ht;exact rfl))
 refine S.cond rfl (fun hc=>by simp at hc) (fun hc=>?_)
 (repeat first|refine uA ?_|(refine uK ?_ ?_;focus first|omega|(intros;simp_all<;>omega))|simp (disch:=omega) only [go_sem,Nat.reduceBEq,Nat.reduceAdd,c6F])
 refine S.loop (X:=Nat) (fun i=>⟨[(1,rts t),(2,rts v),(9,.rv 1),(24,lks links),(25,ints links.length),(26,ints i)],[.gone,.row 89 6 ((SL.take i).map Sn.enc)]⟩) (fun i=>i<=links.length) (fun i=>links.length-i) 0 (c6K _)
  (Ent.trans (Ent.pack 9 89 6 rfl) (by (repeat first|refine uA ?_|(refine ⟨?_,?_⟩;focus first|rfl|simp [slot])|rfl|simp|exact c6L hν0 (by simp)))) ?_
 intro i hi
 simp only [lks,rts,ints]
 (repeat first|refine uA ?_|(refine uK ?_ ?_;focus first|omega|(intros;simp_all<;>omega))|simp (disch:=omega) only [go_sem,Nat.reduceBEq])
 (refine uJ rfl (fun hc=>?_) fun hc=>?_)
 ·have hi':i < links.length:=by omega
  have hgl:=c6E hi'
  have hgt:=c6E (show i < t.length by omega)
  have hgv:=c6E (show i < v.length by omega)
  generalize links[i]=l at *
  generalize t[i]'_=x at *
  generalize v[i]'_=y at *
  have hgs:=hsg hgl hgt hgv
  have hap:=take_at hgs
  have htl:(SL.take i).length=i:=by rw [c6O];omega
  have hF:=hf i l y hgl hgv
  have rx:=htb x (c6H hgt)
  have rw':=b0R hF.1 hF.2
  have r0:=rx.fit (by decide)
  have o1:=b8H l y hF.1 hF.2
  have o2:=a0O x (Nm.ofQ 0) (rx.mono (by decide)) (a0j.mono (by decide))
  rw [Nm.q8,Rat.add_zero] at o2
  have o3:=a2e (Nm.d9 x) (R8 l y) (r0.mono (by decide)) (rw'.mono (by decide))
  have r1:=K9 r0 rw'
  have o4:=a3K (Nm.ofQ (Nm.d9 x)) (Nm.ofQ (Nm.d9 x+R8 l y)) (r0.mono (by decide)) (r1.mono (by decide))
  have o5:=a4V (Nm.ofQ (Nm.d9 x)) (Nm.ofQ (Nm.d9 x+R8 l y)) (r0.mono (by decide)) (r1.mono (by decide))
  rw [Nm.q8,Nm.q8] at o4 o5
  unfold a9K snQ at hap
  unfold rq at o1 o2 o3 o4 o5 hz
  generalize Nm.ofQ (G9 (Nm.d9 x) (Nm.d9 x+R8 l y))=m1 at *
  generalize Nm.ofQ (G8 (Nm.d9 x) (Nm.d9 x+R8 l y))=m2 at *
  generalize Nm.ofQ (Nm.d9 x+R8 l y)=z1 at *
  generalize Nm.ofQ (Nm.d9 x)=z2 at *
  generalize Nm.ofQ (R8 l y)=z3 at *
  generalize Nm.ofQ 0=z0 at *
  clear hsg hf htb hgs hF rx rw' r0 r1
  simp only [Lk.c,Lk.enc,vts,rc,sb,ints] at o1 o2 o3 o4 o5 hz
  (repeat first|refine uA ?_|(refine uK ?_ ?_;focus first|omega|(intros;simp_all<;>omega))|simp (disch:=omega) only [go_sem,Nat.reduceBEq,Nat.reduceAdd,hgl,hgv,c6G,c6F,Lk.enc,rcs,vts,sb,c6I]|(refine uD o1 ?_ ?_ ?_;exact ht;exact rfl))
  refine S.cond rfl (fun hc=>by simp at hc) (fun hc=>?_)
  (repeat first|refine uA ?_|(refine uK ?_ ?_;focus first|omega|(intros;simp_all<;>omega))|simp (disch:=omega) only [go_sem,Nat.reduceBEq,Nat.reduceAdd,ww,hgt,c6G,c6F,htl,rcs,sb,c6I]|(refine uD hz ?_ ?_ ?_;exact ht;exact rfl)|(refine uD o2 ?_ ?_ ?_;exact ht;exact rfl)|(refine uD o3 ?_ ?_ ?_;exact ht;exact rfl)|(refine uD o4 ?_ ?_ ?_;exact ht;exact rfl)|(refine uD o5 ?_ ?_ ?_;exact ht;exact rfl))
  refine S.next (i+1) (by omega) (by omega) (by simp only [hap,c7t,c6V,c6Z,Sn.enc,sb];exact (by (repeat first|refine uA ?_|(refine ⟨?_,?_⟩;focus first|rfl|simp [slot])|rfl|simp|exact c6L hν0 (by simp))))
 ·have hi':i=links.length:=by omega
  subst hi'
  rw [c7b (by omega)]
  (repeat first|refine uA ?_|(refine uK ?_ ?_;focus first|omega|(intros;simp_all<;>omega))|simp (disch:=omega) only [go_sem,Nat.reduceBEq])
  (refine S.done ?_;simp only [l9,go_sem,Nat.reduceBEq];(repeat (refine ⟨?_,?_⟩;focus first|trivial|omega|simp));exact j4.M9 (Imp.tup (by (repeat' (first|exact j5.nil|exact Imp.refl rfl|exact Imp.frz rfl rfl rfl|exact Imp.D8|refine Imp.agg ?_|refine j5.cons ?_ ?_)))) (by (repeat first|refine uA ?_|(refine ⟨?_,?_⟩;focus first|rfl|simp [slot])|rfl|simp)) (c6L hν0 (by simp)))
theorem b3L (a:Am) (q u:List Nm.Rt) (hl:Ab 1073741824 a) (ha:F4 a=0) (hq:q.length=a.links.length) (hv:u.length=a.links.length) (hqb:∀ r ∈ q,Rb 1048576 r) (hf:∀ (i:Nat) (l:Lk) (x:Nm.Rt),a.links[i]?=some l->u[i]?=some x->Jo l x/\u7 (Nm.d9 l.brake) (Nm.d9 x)<=2000) :
  FZ 8 [a.c,rts q,rts u] (.tup [.sl 6 ((Q9 a.links q u).map Sn.enc),ints (O6 (a.links.zip u)+1),ints 0]):=by
 refine kW a3j a3l (by rfl) fun w O hw=>?_
 have hck:=a4C a hl
 rw [ha] at hck
 have hn:=hl.2.2.1
 have htl:=b8J (q:=q) (u:=u) (by omega)
 have htg:=@b8a q u
 have hsp:=fun (E:Ctx) (hP:E.P=Tryz.prog) (ht:Tz E)=>b9X hP ht a (toL q u) u hl ha (by omega) hv (fun r hr=>by
  obtain ⟨x,hx,y,hy,rfl⟩:=c4H hr
  obtain ⟨i,hi⟩:=List.getElem?_of_mem hy
  have hil:=(c6J.1 hi).1
  exact (K9 ((hqb x hx).fit (by decide)) ((hf i _ y (c6E (show i < a.links.length by omega)) hi).1.hv.fit (by decide))).mono (by decide)) hf
 have hsl:=a7n (L:=a.links) (t:=toL q u) (v:=u) (by omega) hv
 have hsg:=@a7v a.links (toL q u) u
 have hrl:=a5D (L:=a.links) hq hv
 have hrg:=@b1F a.links q u
 have htk:=@a8s (a.links.zip u)
 have hzl:(a.links.zip u).length=a.links.length:=by rw [List.length_zip];omega
 have hT8:∀ i,0<=O6 ((a.links.zip u).take i)/\O6 ((a.links.zip u).take i)<=2000:=fun i=>by
  refine ⟨b1Z _,?_⟩
  have key:∀ (z:List (Lk × Nm.Rt)) (m:Int),m<=2000->(∀ x ∈ z,u7 (Nm.d9 x.1.brake) (Nm.d9 x.2)<=2000)->z.foldl (fun m z=>max m (u7 (Nm.d9 z.1.brake) (Nm.d9 z.2))) m<=2000:=by
   intro z
   induction z with
   | nil=>intro m hm _;exact hm
   | cons x z ih=>
    intro m hm hx
    rw [List.foldl_cons]
    have:=hx x (by simp)
    exact ih _ (by omega) fun y hy=>hx y (by simp [hy])
  refine key _ 0 (by decide) fun x hx=>?_
  obtain ⟨j,hj⟩:=List.getElem?_of_mem (List.mem_of_mem_take hx)
  rw [List.getElem?_zip_eq_some] at hj
  exact (hf j _ _ hj.1 hj.2).2
 have hzg:=fun (i:Nat) (l:Lk) (x:Nm.Rt) (h1:a.links[i]?=some l) (h2:u[i]?=some x)=>V6 h1 h2
 have ht0:O6 ((a.links.zip u).take 0)=0:=rfl
 have hte:(a.links.zip u).take a.links.length=a.links.zip u:=c7b (by omega)
 generalize a3J a.links (toL q u) u=SL at *
 generalize toL q u=T at *
 generalize Q9 a.links q u=RL at *
 generalize a.links.zip u=Z at *
 obtain ⟨name,⟨bx,by',half,tu⟩,links⟩:=a
 simp only at hq hv hn hf hsl hsg hrl hrg hzl hte hzg hsp ⊢
 simp only [a1N,j6,TT,II,OA,OB,OC,MM,LL,VV,FF,MG,VG,FG]
 simp only [Am.c,Am.enc,lks,rts,sb,ints] at hck hsp ⊢
 (repeat first|refine uA ?_|(refine uK ?_ ?_;focus first|omega|(intros;simp_all<;>omega))|simp (disch:=omega) only [go_sem,Nat.reduceBEq,Nat.reduceAdd]|(refine uD hck ?_ ?_ ?_;exact tz hw;exact rfl))
 refine S.cond rfl (fun hc=>by simp at hc) (fun hc=>?_)
 (repeat first|refine uA ?_|(refine uK ?_ ?_;focus first|omega|(intros;simp_all<;>omega))|simp (disch:=omega) only [go_sem,Nat.reduceBEq,Nat.reduceAdd,c6F])
 refine S.cond rfl (fun hc=>by simp [hq,hv] at hc) (fun hc=>?_)
 (repeat first|refine uA ?_|(refine uK ?_ ?_;focus first|omega|(intros;simp_all<;>omega))|simp (disch:=omega) only [go_sem,Nat.reduceBEq,c6F])
 refine S.loop (X:=Nat) (fun i=>⟨[(1,rts q),(2,rts u),(3,.bp 0 0),(10,.rv 1),(38,ints q.length),(39,ints i)],[.box 49 [sb name,.v (.bool bx.neg),sb bx.num,sb bx.den,.v (.bool by'.neg),sb by'.num,sb by'.den,.v (.bool half),.v (.bool tu.neg),sb tu.num,sb tu.den,lks links],.row 28 3 ((T.take i).map rcs)]⟩) (fun i=>i<=q.length) (fun i=>q.length-i) 0 (c6K _)
  (Ent.trans (Ent.pack 10 28 3 rfl) (by (repeat first|refine uA ?_|(refine ⟨?_,?_⟩;focus first|rfl|simp [slot])|rfl|simp))) ?_
 intro i hi
 simp only [lks,rts,sb,ints]
 (repeat first|refine uA ?_|(refine uK ?_ ?_;focus first|omega|(intros;simp_all<;>omega))|simp (disch:=omega) only [go_sem,Nat.reduceBEq])
 (refine uJ rfl (fun hc=>?_) fun hc=>?_)
 ·have hi':i < q.length:=by omega
  have hgl:=c6E (show i < links.length by omega)
  have hgq:=c6E hi'
  have hgu:=c6E (show i < u.length by omega)
  generalize q[i]'_=x at *
  generalize u[i]'_=y at *
  have hap:=take_at (htg hgq hgu)
  have htl:(T.take i).length=i:=by rw [c6O];omega
  have o1:=a0O x y ((hqb x (c6H hgq)).mono (by decide)) ((hf i _ y hgl hgu).1.hv.mono (by decide))
  unfold a1k at hap
  unfold rq at o1
  generalize Nm.ofQ (Nm.d9 x+Nm.d9 y)=z at *
  clear hsg hf hqb hrg htg htk hsp hgl hzg
  simp only [rc,sb] at o1
  (repeat first|refine uA ?_|(refine uK ?_ ?_;focus first|omega|(intros;simp_all<;>omega))|simp (disch:=omega) only [go_sem,Nat.reduceBEq,Nat.reduceAdd,ww,hgq,hgu,c6G,c6F,htl,rcs,sb,c6I]|(refine uD o1 ?_ ?_ ?_;exact tz hw;exact rfl))
  refine S.next (i+1) (by omega) (by omega) (by simp only [hap,c7t,c6V,c6Z,rcs,sb];exact (by (repeat first|refine uA ?_|(refine ⟨?_,?_⟩;focus first|rfl|simp [slot])|rfl|simp)))
 have hi':i=q.length:=by omega
 subst hi'
 rw [c7b (by omega)]
 refine S.exit rfl ?_
 refine S.weaken (st':=⟨[(1,rts q),(2,rts u),(3,.bp 0 0),(10,.sl 3 (T.map rcs))],[.box 49 [sb name,.v (.bool bx.neg),sb bx.num,sb bx.den,.v (.bool by'.neg),sb by'.num,sb by'.den,.v (.bool half),.v (.bool tu.neg),sb tu.num,sb tu.den,lks links]]⟩) (Ent.mk _ _ (by (repeat' (first|exact Q6.nil|exact Imp.junk|exact Imp.refl rfl|exact Imp.frz rfl rfl rfl|exact Imp.eq (by simp [slot];done) rfl|refine Q6.cons ?_ ?_))) (by (repeat' (first|exact E5.nil|exact RI.gone _|exact RI.row _ _ _ _ rfl|exact RI.map _ _ _ rfl|exact RI.box _ _ _ (j5.refl rfl)|(refine RI.box _ _ _ ?_;(repeat' (first|exact j5.nil|exact Imp.refl rfl|exact Imp.frz rfl rfl rfl|exact Imp.D8|refine j5.cons ?_ ?_)))|refine E5.cons ?_ ?_))) (c6K _)) ?_
 simp only [lks,rts,sb]
 (repeat first|refine uA ?_|(refine uK ?_ ?_;focus first|omega|(intros;simp_all<;>omega))|simp (disch:=omega) only [go_sem,Nat.reduceBEq,Nat.reduceAdd,C.sh,C.shL,c7g,List.length_nil]|refine p8.t (l8.pre (hsp _ rfl (tz hw)) rfl rfl rfl) ?_)
 refine S.cond rfl (fun hc=>by simp at hc) (fun hc=>?_)
 (repeat first|refine uA ?_|(refine uK ?_ ?_;focus first|omega|(intros;simp_all<;>omega))|simp (disch:=omega) only [go_sem,Nat.reduceBEq,c6F])
 refine S.loop (X:=Nat) (fun i=>⟨[(1,rts q),(2,rts u),(3,.bp 0 0),(12,.rv 2),(14,ints (O6 (Z.take i))),(66,ints SL.length),(67,ints i)],[.box 49 [sb name,.v (.bool bx.neg),sb bx.num,sb bx.den,.v (.bool by'.neg),sb by'.num,sb by'.den,.v (.bool half),.v (.bool tu.neg),sb tu.num,sb tu.den,lks links],.gone,.row 89 6 ((RL.take i++SL.drop i).map Sn.enc)]⟩) (fun i=>i<=SL.length) (fun i=>SL.length-i) 0 (c6K _) (by rw [ht0];exact (by (repeat first|refine uA ?_|(refine ⟨?_,?_⟩;focus first|rfl|simp [slot])|rfl|simp))) ?_
 intro i hi
 simp only [lks,rts,sb,ints]
 have hti:=hT8 i
 (repeat first|refine uA ?_|(refine uK ?_ ?_;focus first|omega|(intros;simp_all<;>omega))|simp (disch:=omega) only [go_sem,Nat.reduceBEq])
 (refine uJ rfl (fun hc=>?_) fun hc=>?_)
 ·have hi':i < SL.length:=by omega
  have hgl:=c6E (show i < links.length by omega)
  have hgq:=c6E (show i < q.length by omega)
  have hgu:=c6E (show i < u.length by omega)
  generalize links[i]'_=l at *
  generalize q[i]'_=x at *
  generalize u[i]'_=y at *
  have hgs:=hsg hgl (htg hgq hgu) hgu
  have hgr:=hrg hgl hgq hgu
  have hF:=hf i l y hgl hgu
  have hsn:=htk (hzg i l y hgl hgu)
  have r1:=(hqb x (c6H hgq)).fit (by decide)
  have r2:=hF.1.hv.fit (by decide)
  have r3:=K9 r1 r2
  have r4:=K9 r3 (b0R hF.1 hF.2)
  have e1:Nm.d9 (a1k x y)=Nm.d9 x+Nm.d9 y:=by unfold a1k;rw [Nm.q8]
  have e2:b2Y x y l.brake=Nm.d9 x+Nm.d9 y+R8 l y:=rfl
  unfold a9K at hgs
  unfold b0e loQ hiQ at hgr
  rw [e1] at hgs
  rw [e2] at hgr
  have o1:FZ 34 [rc x] (snQ (Nm.d9 x) (Nm.d9 x)).c:=X7 x ((hqb x (c6H hgq)).mono (by decide))
  have o2:=a7r (G9 (Nm.d9 x+Nm.d9 y) (Nm.d9 x+Nm.d9 y+R8 l y)) (G8 (Nm.d9 x+Nm.d9 y) (Nm.d9 x+Nm.d9 y+R8 l y)) (Nm.d9 x) (Nm.d9 x) (c3y _ _) Rat.le_refl ((a5X (r3.mono (by decide)) r4).mono (by decide)) ((a6d (r3.mono (by decide)) r4).mono (by decide)) (r1.mono (by decide)) (r1.mono (by decide))
  have o3:=a9a l y hF.1
  rw [if_pos hF.2,if_pos hF.2] at o3
  have m1:=b9J (l:=RL) (m:=SL) (by omega) hgs
  have s1:=c2m Sn.enc (by omega) hgr (m:=SL)
  have hml:=c2j (l:=RL) (m:=SL) (i:=i) (by omega) (by omega)
  have hb8:=hF.2
  have hb0:=(a4M (V:=Nm.d9 y) (b0r hF.1.pos)).1
  simp only at hsn
  clear r1 r2 r3 r4 e1 e2 hgs hgr hF hsg hf hqb hrg htg htk hsp hzg
  generalize u7 (Nm.d9 l.brake) (Nm.d9 y)=tk at *
  unfold snQ at *
  generalize Nm.ofQ (G9 (G9 (Nm.d9 x+Nm.d9 y) (Nm.d9 x+Nm.d9 y+R8 l y)) (Nm.d9 x))=n1 at *
  generalize Nm.ofQ (G8 (G8 (Nm.d9 x+Nm.d9 y) (Nm.d9 x+Nm.d9 y+R8 l y)) (Nm.d9 x))=n2 at *
  generalize Nm.ofQ (G9 (Nm.d9 x+Nm.d9 y) (Nm.d9 x+Nm.d9 y+R8 l y))=n3 at *
  generalize Nm.ofQ (G8 (Nm.d9 x+Nm.d9 y) (Nm.d9 x+Nm.d9 y+R8 l y))=n4 at *
  generalize Nm.ofQ (Nm.d9 x)=n5 at *
  generalize O6 (Z.take i)=t0 at *
  generalize hM1:RL.take (i+1)++SL.drop (i+1)=M1 at *
  generalize RL.take i++SL.drop i=M0 at *
  simp only [Lk.c,Lk.enc,Sn.c,Sn.enc,vts,rc,sb,ints] at o1 o2 o3 s1
  (repeat first|refine uA ?_|(refine uK ?_ ?_;focus first|omega|(intros;simp_all<;>omega))|simp (disch:=omega) only [go_sem,Nat.reduceBEq,Nat.reduceAdd,hgl,hgq,hgu,m1,s1,hml,c6G,c6F,Lk.enc,Sn.enc,rcs,vts,sb,c6I]|(refine uD o1 ?_ ?_ ?_;exact tz hw;exact rfl)|(refine uD o2 ?_ ?_ ?_;exact tz hw;exact rfl)|(refine uD o3 ?_ ?_ ?_;exact tz hw;exact rfl))
  refine S.cond rfl (fun hc=>by simp at hc) (fun hc=>?_)
  (repeat first|refine uA ?_|(refine uK ?_ ?_;focus first|omega|(intros;simp_all<;>omega))|simp (disch:=omega) only [go_sem,Nat.reduceBEq,ww])
  refine S.next (i+1) (by omega) (by omega) (by simp only [hM1,hsn];exact (by (repeat first|refine uA ?_|(refine ⟨?_,?_⟩;focus first|rfl|simp [slot])|rfl|simp)))
 ·have hi':i=SL.length:=by omega
  subst hi'
  rw [hsl,hte] at hti
  rw [hsl,hte,<- hrl,c6X,List.drop_eq_nil_of_le (by omega),List.append_nil]
  generalize O6 Z=tz at *
  (repeat first|refine uA ?_|(refine uK ?_ ?_;focus first|omega|(intros;simp_all<;>omega))|simp (disch:=omega) only [go_sem,Nat.reduceBEq,ww])
  (refine S.done ?_;simp only [l9,go_sem,Nat.reduceBEq];(repeat (refine ⟨?_,?_⟩;focus first|trivial|omega|simp));exact j4.out rfl (Imp.tup (by (repeat' (first|exact j5.nil|exact Imp.refl rfl|exact Imp.frz rfl rfl rfl|exact Imp.D8|refine Imp.agg ?_|refine j5.cons ?_ ?_)))) rfl)
theorem c0l (a:Am) (t v:List Nm.Rt) (k:Nat) (hl:Ab 1073741824 a) (ha:F4 a=0) (hq:t.length=a.links.length) (hv:v.length=a.links.length) (htb:∀ r ∈ t,Rb 2097153 r) (hf:∀ (i:Nat) (l:Lk) (x:Nm.Rt),a.links[i]?=some l->v[i]?=some x->Jo l x) (hk:k < a.links.length)
  (hlong:∀ (l:Lk) (x:Nm.Rt),a.links[k]?=some l->v[k]?=some x->¬ u7 (Nm.d9 l.brake) (Nm.d9 x)<=2000) (hfew:∀ (i:Nat) (l:Lk) (x:Nm.Rt),i < k->a.links[i]?=some l->v[i]?=some x->u7 (Nm.d9 l.brake) (Nm.d9 x)<=2000) :
  FZ 32 [a.c,rts t,rts v] (.tup [.v (.slice none 0 0),ints 2]):=by
 refine kW a7a a6Z (by rfl) fun w' O hw=>?_
 have hfit:=b5S a t v hl ha hq hv
 have hn:=hl.2.2.1
 have hsl:=a7n hq hv
 have hsg:=@a7v a.links t v
 have hz:=a2k
 generalize a3J a.links t v=SL at *
 obtain ⟨name,⟨bx,by',half,tu⟩,links⟩:=a
 simp only at hq hv hn hf hsl hsg hk hlong hfew ⊢
 simp only [a3V,j6,TT,II,OA,OB,MM,LL,VV,FF]
 simp only [Am.c,Am.enc,lks,rts,sb,ints] at hfit ⊢
 (repeat first|refine uA ?_|(refine uK ?_ ?_;focus first|omega|(intros;simp_all<;>omega))|simp (disch:=omega) only [go_sem,Nat.reduceBEq,Nat.reduceAdd]|(refine uD hfit ?_ ?_ ?_;exact tz hw;exact rfl))
 refine S.cond rfl (fun hc=>by simp at hc) (fun hc=>?_)
 (repeat first|refine uA ?_|(refine uK ?_ ?_;focus first|omega|(intros;simp_all<;>omega))|simp (disch:=omega) only [go_sem,Nat.reduceBEq,Nat.reduceAdd,c6F])
 refine S.loop (X:=Nat) (fun i=>⟨[(1,rts t),(2,rts v),(9,.rv 1),(24,lks links),(25,ints links.length),(26,ints i)],[.gone,.row 89 6 ((SL.take i).map Sn.enc)]⟩) (fun i=>i<=k) (fun i=>links.length-i) 0 (c6K _)
  (Ent.trans (Ent.pack 9 89 6 rfl) (by (repeat first|refine uA ?_|(refine ⟨?_,?_⟩;focus first|rfl|simp [slot])|rfl|simp))) ?_
 intro i hi
 simp only [lks,rts,ints]
 (repeat first|refine uA ?_|(refine uK ?_ ?_;focus first|omega|(intros;simp_all<;>omega))|simp (disch:=omega) only [go_sem,Nat.reduceBEq])
 (refine uJ rfl (fun hc=>?_) fun hc=>?_)
 ·have hi':i < links.length:=by omega
  have hgl:=c6E hi'
  have hgt:=c6E (show i < t.length by omega)
  have hgv:=c6E (show i < v.length by omega)
  generalize links[i]=l at *
  generalize t[i]'_=x at *
  generalize v[i]'_=y at *
  have hgs:=hsg hgl hgt hgv
  have hap:=take_at hgs
  have htl:(SL.take i).length=i:=by rw [c6O];omega
  have hF:=hf i l y hgl hgv
  by_cases hik:i=k
  ·subst hik
   have o1:=c4E l y hF (hlong l y hgl hgv)
   clear hsg hf htb hgs hF hap hlong hfew
   unfold b9A at o1
   simp only [Lk.c,Lk.enc,vts,rc,sb,ints] at o1
   (repeat first|refine uA ?_|(refine uK ?_ ?_;focus first|omega|(intros;simp_all<;>omega))|simp (disch:=omega) only [go_sem,Nat.reduceBEq,Nat.reduceAdd,hgl,hgv,c6G,c6F,Lk.enc,rcs,vts,sb,c6I]|(refine uD o1 ?_ ?_ ?_;exact tz hw;exact rfl))
   refine S.cond rfl (fun hc=>?_) (fun hc=>by simp at hc)
   (repeat first|refine uA ?_|(refine uK ?_ ?_;focus first|omega|(intros;simp_all<;>omega))|simp (disch:=omega) only [go_sem,Nat.reduceBEq])
   (refine S.done ?_;simp only [l9,go_sem,Nat.reduceBEq];(repeat (refine ⟨?_,?_⟩;focus first|trivial|omega|simp));exact j4.out rfl (Imp.tup (by (repeat' (first|exact j5.nil|exact Imp.refl rfl|exact Imp.frz rfl rfl rfl|exact Imp.D8|refine Imp.agg ?_|refine j5.cons ?_ ?_)))) rfl)
  have hle:=hfew i l y (by omega) hgl hgv
  have rx:=htb x (c6H hgt)
  have rw':=b0R hF hle
  have r0:=rx.fit (by decide)
  have o1:=b8H l y hF hle
  have o2:=a0O x (Nm.ofQ 0) (rx.mono (by decide)) (a0j.mono (by decide))
  rw [Nm.q8,Rat.add_zero] at o2
  have o3:=a2e (Nm.d9 x) (R8 l y) (r0.mono (by decide)) (rw'.mono (by decide))
  have r1:=K9 r0 rw'
  have o4:=a3K (Nm.ofQ (Nm.d9 x)) (Nm.ofQ (Nm.d9 x+R8 l y)) (r0.mono (by decide)) (r1.mono (by decide))
  have o5:=a4V (Nm.ofQ (Nm.d9 x)) (Nm.ofQ (Nm.d9 x+R8 l y)) (r0.mono (by decide)) (r1.mono (by decide))
  rw [Nm.q8,Nm.q8] at o4 o5
  unfold a9K snQ at hap
  unfold rq at o1 o2 o3 o4 o5 hz
  generalize Nm.ofQ (G9 (Nm.d9 x) (Nm.d9 x+R8 l y))=m1 at *
  generalize Nm.ofQ (G8 (Nm.d9 x) (Nm.d9 x+R8 l y))=m2 at *
  generalize Nm.ofQ (Nm.d9 x+R8 l y)=z1 at *
  generalize Nm.ofQ (Nm.d9 x)=z2 at *
  generalize Nm.ofQ (R8 l y)=z3 at *
  generalize Nm.ofQ 0=z0 at *
  clear hsg hf htb hgs hF rx rw' r0 r1 hlong hfew hle
  simp only [Lk.c,Lk.enc,vts,rc,sb,ints] at o1 o2 o3 o4 o5 hz
  (repeat first|refine uA ?_|(refine uK ?_ ?_;focus first|omega|(intros;simp_all<;>omega))|simp (disch:=omega) only [go_sem,Nat.reduceBEq,Nat.reduceAdd,hgl,hgv,c6G,c6F,Lk.enc,rcs,vts,sb,c6I]|(refine uD o1 ?_ ?_ ?_;exact tz hw;exact rfl))
  refine S.cond rfl (fun hc=>by simp at hc) (fun hc=>?_)
  (repeat first|refine uA ?_|(refine uK ?_ ?_;focus first|omega|(intros;simp_all<;>omega))|simp (disch:=omega) only [go_sem,Nat.reduceBEq,Nat.reduceAdd,ww,hgt,c6G,c6F,htl,rcs,sb,c6I]|(refine uD hz ?_ ?_ ?_;exact tz hw;exact rfl)|(refine uD o2 ?_ ?_ ?_;exact tz hw;exact rfl)|(refine uD o3 ?_ ?_ ?_;exact tz hw;exact rfl)|(refine uD o4 ?_ ?_ ?_;exact tz hw;exact rfl)|(refine uD o5 ?_ ?_ ?_;exact tz hw;exact rfl))
  refine S.next (i+1) (by omega) (by omega) (by simp only [hap,c7t,c6V,c6Z,Sn.enc,sb];exact (by (repeat first|refine uA ?_|(refine ⟨?_,?_⟩;focus first|rfl|simp [slot])|rfl|simp)))
 ·omega
theorem c1s (a:Am) (q u:List Nm.Rt) (k:Nat) (hl:Ab 1073741824 a) (ha:F4 a=0) (hq:q.length=a.links.length) (hv:u.length=a.links.length) (hqb:∀ r ∈ q,Rb 1048576 r) (hf:∀ (i:Nat) (l:Lk) (x:Nm.Rt),a.links[i]?=some l->u[i]?=some x->Jo l x) (hk:k < a.links.length)
  (hlong:∀ (l:Lk) (x:Nm.Rt),a.links[k]?=some l->u[k]?=some x->¬ u7 (Nm.d9 l.brake) (Nm.d9 x)<=2000) (hfew:∀ (i:Nat) (l:Lk) (x:Nm.Rt),i < k->a.links[i]?=some l->u[i]?=some x->u7 (Nm.d9 l.brake) (Nm.d9 x)<=2000) :
  FZ 8 [a.c,rts q,rts u] (.tup [.v (.slice none 0 0),ints 0,ints 2]):=by
 refine kW a3j a3l (by rfl) fun w O hw=>?_
 have hck:=a4C a hl
 rw [ha] at hck
 have hn:=hl.2.2.1
 have htl:=b8J (q:=q) (u:=u) (by omega)
 have htg:=@b8a q u
 have hsp:=c0l a (toL q u) u k hl ha (by omega) hv (fun r hr=>by
  obtain ⟨x,hx,y,hy,rfl⟩:=c4H hr
  obtain ⟨i,hi⟩:=List.getElem?_of_mem hy
  have hil:=(c6J.1 hi).1
  exact (K9 ((hqb x hx).fit (by decide)) ((hf i _ y (c6E (show i < a.links.length by omega)) hi).hv.fit (by decide))).mono (by decide)) hf hk hlong hfew
 generalize toL q u=T at *
 obtain ⟨name,⟨bx,by',half,tu⟩,links⟩:=a
 simp only at hq hv hn hf hsp ⊢
 simp only [a1N,j6,TT,II,OA,OB,OC,MM,LL,VV,FF,MG,VG,FG]
 simp only [Am.c,Am.enc,lks,rts,sb,ints] at hck hsp ⊢
 (repeat first|refine uA ?_|(refine uK ?_ ?_;focus first|omega|(intros;simp_all<;>omega))|simp (disch:=omega) only [go_sem,Nat.reduceBEq,Nat.reduceAdd]|(refine uD hck ?_ ?_ ?_;exact tz hw;exact rfl))
 refine S.cond rfl (fun hc=>by simp at hc) (fun hc=>?_)
 (repeat first|refine uA ?_|(refine uK ?_ ?_;focus first|omega|(intros;simp_all<;>omega))|simp (disch:=omega) only [go_sem,Nat.reduceBEq,Nat.reduceAdd,c6F])
 refine S.cond rfl (fun hc=>by simp [hq,hv] at hc) (fun hc=>?_)
 (repeat first|refine uA ?_|(refine uK ?_ ?_;focus first|omega|(intros;simp_all<;>omega))|simp (disch:=omega) only [go_sem,Nat.reduceBEq,c6F])
 refine S.loop (X:=Nat) (fun i=>⟨[(1,rts q),(2,rts u),(3,.bp 0 0),(10,.rv 1),(38,ints q.length),(39,ints i)],[.box 49 [sb name,.v (.bool bx.neg),sb bx.num,sb bx.den,.v (.bool by'.neg),sb by'.num,sb by'.den,.v (.bool half),.v (.bool tu.neg),sb tu.num,sb tu.den,lks links],.row 28 3 ((T.take i).map rcs)]⟩) (fun i=>i<=q.length) (fun i=>q.length-i) 0 (c6K _)
  (Ent.trans (Ent.pack 10 28 3 rfl) (by (repeat first|refine uA ?_|(refine ⟨?_,?_⟩;focus first|rfl|simp [slot])|rfl|simp))) ?_
 intro i hi
 simp only [lks,rts,sb,ints]
 (repeat first|refine uA ?_|(refine uK ?_ ?_;focus first|omega|(intros;simp_all<;>omega))|simp (disch:=omega) only [go_sem,Nat.reduceBEq])
 (refine uJ rfl (fun hc=>?_) fun hc=>?_)
 ·have hi':i < q.length:=by omega
  have hgl:=c6E (show i < links.length by omega)
  have hgq:=c6E hi'
  have hgu:=c6E (show i < u.length by omega)
  generalize q[i]'_=x at *
  generalize u[i]'_=y at *
  have hap:=take_at (htg hgq hgu)
  have htl:(T.take i).length=i:=by rw [c6O];omega
  have o1:=a0O x y ((hqb x (c6H hgq)).mono (by decide)) ((hf i _ y hgl hgu).hv.mono (by decide))
  unfold a1k at hap
  unfold rq at o1
  generalize Nm.ofQ (Nm.d9 x+Nm.d9 y)=z at *
  clear hf hqb htg hsp hgl hlong hfew
  simp only [rc,sb] at o1
  (repeat first|refine uA ?_|(refine uK ?_ ?_;focus first|omega|(intros;simp_all<;>omega))|simp (disch:=omega) only [go_sem,Nat.reduceBEq,Nat.reduceAdd,ww,hgq,hgu,c6G,c6F,htl,rcs,sb,c6I]|(refine uD o1 ?_ ?_ ?_;exact tz hw;exact rfl))
  refine S.next (i+1) (by omega) (by omega) (by simp only [hap,c7t,c6V,c6Z,rcs,sb];exact (by (repeat first|refine uA ?_|(refine ⟨?_,?_⟩;focus first|rfl|simp [slot])|rfl|simp)))
 have hi':i=q.length:=by omega
 subst hi'
 rw [c7b (by omega)]
 refine S.exit rfl ?_
 refine S.weaken (st':=⟨[(1,rts q),(2,rts u),(3,.bp 0 0),(10,.sl 3 (T.map rcs))],[.box 49 [sb name,.v (.bool bx.neg),sb bx.num,sb bx.den,.v (.bool by'.neg),sb by'.num,sb by'.den,.v (.bool half),.v (.bool tu.neg),sb tu.num,sb tu.den,lks links]]⟩) (Ent.mk _ _ (by (repeat' (first|exact Q6.nil|exact Imp.junk|exact Imp.refl rfl|exact Imp.frz rfl rfl rfl|exact Imp.eq (by simp [slot];done) rfl|refine Q6.cons ?_ ?_))) (by (repeat' (first|exact E5.nil|exact RI.gone _|exact RI.row _ _ _ _ rfl|exact RI.map _ _ _ rfl|exact RI.box _ _ _ (j5.refl rfl)|(refine RI.box _ _ _ ?_;(repeat' (first|exact j5.nil|exact Imp.refl rfl|exact Imp.frz rfl rfl rfl|exact Imp.D8|refine j5.cons ?_ ?_)))|refine E5.cons ?_ ?_))) (c6K _)) ?_
 simp only [lks,rts,sb]
 (repeat first|refine uA ?_|(refine uK ?_ ?_;focus first|omega|(intros;simp_all<;>omega))|simp (disch:=omega) only [go_sem,Nat.reduceBEq,Nat.reduceAdd]|(refine uD hsp ?_ ?_ ?_;exact tz hw;exact rfl))
 refine S.cond rfl (fun hc=>?_) (fun hc=>by simp at hc)
 (repeat first|refine uA ?_|(refine uK ?_ ?_;focus first|omega|(intros;simp_all<;>omega))|simp (disch:=omega) only [go_sem,Nat.reduceBEq])
 (refine S.done ?_;simp only [l9,go_sem,Nat.reduceBEq];(repeat (refine ⟨?_,?_⟩;focus first|trivial|omega|simp));exact j4.out rfl (Imp.tup (by (repeat' (first|exact j5.nil|exact Imp.refl rfl|exact Imp.frz rfl rfl rfl|exact Imp.D8|refine Imp.agg ?_|refine j5.cons ?_ ?_)))) rfl)
theorem c0Y (a:Am) (q u:List Nm.Rt) (hl:Ab 1073741824 a) (hqn:q.length<=1000000000) (hun:u.length<=1000000000) (h:F4 a ≠ 0 \/ q.length ≠ a.links.length \/ u.length ≠ a.links.length) :
  FZ 8 [a.c,rts q,rts u] (.tup [.v (.slice none 0 0),ints 0,ints (if F4 a ≠ 0 then F4 a else 1)]):=by
 refine kW a3j a3l (by rfl) fun w O hw=>?_
 have hck:=a4C a hl
 have hn:=hl.2.2.1
 generalize F4 a=e at *
 obtain ⟨name,⟨bx,by',half,tu⟩,links⟩:=a
 simp only at h hn ⊢
 simp only [a1N,j6,TT,II,OA,OB,OC,MM,LL,VV,FF,MG,VG,FG]
 simp only [Am.c,Am.enc,lks,rts,sb,ints] at hck ⊢
 (repeat first|refine uA ?_|(refine uK ?_ ?_;focus first|omega|(intros;simp_all<;>omega))|simp (disch:=omega) only [go_sem,Nat.reduceBEq,Nat.reduceAdd]|(refine uD hck ?_ ?_ ?_;exact tz hw;exact rfl))
 refine S.cond rfl (fun hc=>?_) (fun hc=>?_)
 ·rw [if_pos (by simpa using hc)]
  (repeat first|refine uA ?_|(refine uK ?_ ?_;focus first|omega|(intros;simp_all<;>omega))|simp (disch:=omega) only [go_sem,Nat.reduceBEq])
  (refine S.done ?_;simp only [l9,go_sem,Nat.reduceBEq];(repeat (refine ⟨?_,?_⟩;focus first|trivial|omega|simp));exact j4.out rfl (Imp.tup (by (repeat' (first|exact j5.nil|exact Imp.refl rfl|exact Imp.frz rfl rfl rfl|exact Imp.D8|refine Imp.agg ?_|refine j5.cons ?_ ?_)))) rfl)
 have he:e=0:=by simpa using hc
 rw [if_neg (by simpa using hc)]
 (repeat first|refine uA ?_|(refine uK ?_ ?_;focus first|omega|(intros;simp_all<;>omega))|simp (disch:=omega) only [go_sem,Nat.reduceBEq,Nat.reduceAdd,c6F])
 refine S.cond rfl (fun hc=>?_) (fun hc=>?_)
 ·(repeat first|refine uA ?_|(refine uK ?_ ?_;focus first|omega|(intros;simp_all<;>omega))|simp (disch:=omega) only [go_sem])
  (refine S.done ?_;simp only [l9,go_sem,Nat.reduceBEq];(repeat (refine ⟨?_,?_⟩;focus first|trivial|omega|simp));exact j4.out rfl (Imp.tup (by (repeat' (first|exact j5.nil|exact Imp.refl rfl|exact Imp.frz rfl rfl rfl|exact Imp.D8|refine Imp.agg ?_|refine j5.cons ?_ ?_)))) rfl)
 ·exfalso
  have h:=h.resolve_left (by simp [he])
  by_cases k1:q.length=links.length<;>by_cases k2:u.length=links.length<;>simp_all<;>omega
def bqs (l:List Bq):C:=.sl 12 (l.map Bq.enc)
def a5S:M4:=⟨160,[.tmp 10],.seq (.reg [OA 5 (.box 30 (TT 0)),OA 6 (.box 63 (TT 1)),OA 10 (.mv (II 0))]) (.seq (.D6 [.q,.q,.q,.q,.q,.l,.l,.l,.l,.l,.a,.a,.e (some 11) false,.e (some 12) true] [FF 29 0 5,VV 30 29,MM 31 2,OA
 32 (.x9 12 (TT 30) (TT 31)),LL 33 12 32,FF 34 1 6,VV 35 34,MM 36 2,OA 37 (.x9 4 (TT 35) (TT 36)),LL 38 4 37,OA 11 (.alloc 49 [.string ⟨#[]⟩,.bool false,.string ⟨#[]⟩,.string ⟨#[]⟩,.bool false,.string ⟨#[]⟩,
 .string ⟨#[]⟩,.bool false,.bool false,.string ⟨#[]⟩,.string ⟨#[]⟩,.slice none 0 0]),OA 12 (.alloc 149 [.slice none 0 0,.slice none 0 0,.bool false,.int .i64 0]),OB (.store 12 (TT 11) (TT 33)),OB (.store 4 (TT 12) (TT
 38))]) (.seq (.seq (.reg [LL 39 12 11,FF 40 0 12,VV 41 40,MM 42 4,OA 43 (.call 99 [TT 39,TT 41,TT 42]),OA 44 (.un .not (TT 43))]) (.cond (TT 44) (.seq (.reg [OA 10 (.mv (II 1))]) .ret) .skip)) (.seq (.reg [LL 46 12 11,FF
 47 0 12,VV 48 47,MM 49 4,OA 50 (.call 8 [TT 46,TT 48,TT 49]),MM 45 50,OA 51 (.ext (TT 45) 0),OA 52 (.ext (TT 45) 1),OA 53 (.ext (TT 45) 2),OA 14 (.alloc 3 [.int .i64 0]),MM 13 51,OB (.store 1 (TT 14) (TT 52)),MM 15
 53]) (.seq (.seq (.reg [MM 54 15,OA 55 (.bin .neq (TT 54) (II 0))]) (.cond (TT 55) (.seq (.reg [OA 10 (.mv (II 2))]) .ret) .skip)) (.seq (.seq (.reg [FF 56 11 11,VV 57 56,OA 58 (.len false (TT 57)),OA 59 (.mv (II 0))])
 (.block 0 (.loop (.seq (.reg [OA 60 (.bin .lss (TT 59) (TT 58))]) (.seq (.cond (TT 60) .skip (.exit 0)) (.seq (.block 1 (.seq (.reg [MM 61 59,OA 62 (.x9 16 (TT 57) (TT 59)),LL 63 16 62,OA 17 (.alloc 95 [.bool false,
 .string ⟨#[]⟩,.string ⟨#[]⟩,.bool false,.string ⟨#[]⟩,.string ⟨#[]⟩,.bool false,.string ⟨#[]⟩,.string ⟨#[]⟩,.bool false,.string ⟨#[]⟩,.string ⟨#[]⟩,.bool false,.string ⟨#[]⟩,.string ⟨#[]⟩,.slice none 0 0]),MM 16
 61,OB (.store 16 (TT 17) (TT 63))]) (.seq (.D6 [.q,.q,.q,.q,.q,.q,.q,.q,.q,.q,.q,.q,.q,.q,.q,.q,.q,.q,.q,.q] [MM 64 13,MM 65 16,OA 66 (.x9 6 (TT 64) (TT 65)),FF 67 0 66,LL 68 3 67,FF 69 3 17,LL 70
 3 69,OA 71 (.call 28 [TT 68,TT 70]),OA 72 (.bin .lss (TT 71) (II 0)),MM 73 72,MG 74 13 73 false,MG 75 16 73 false,OC 76 (.x9 6 (TT 74) (TT 75)) 73 false,FG 77 3 76 73 false,LG 78 3 77 73 false,FG 79 6 17 73 false,
 LG 80 3 79 73 false,OC 81 (.call 28 [TT 78,TT 80]) 73 false,OC 82 (.bin .gtr (TT 81) (II 0)) 73 false,OA 83 (.pick (TT 73) (.const (.bool true)) (TT 82))]) (.cond (TT 83) (.seq (.reg [OA 10 (.mv (II 2))]) .ret) .skip))))
 (.reg [OA 84 (.bin .add (TT 59) (II 1)),MM 59 84]))))))) (.seq (.reg [LL 86 8 5,MM 87 2,FF 88 3 12,VV 89 88,MM 90 13,OA 91 (.call 5 [TT 86,TT 87,TT 89,TT 90]),MM 85 91,OA 92 (.ext (TT 85) 0),OA 93 (.ext (TT 85) 1),
 OA 18 (.alloc 34 [.slice none 0 0]),OB (.store 1 (TT 18) (TT 92)),MM 15 93]) (.seq (.seq (.reg [MM 94 15,OA 95 (.bin .neq (TT 94) (II 0))]) (.cond (TT 95) (.seq (.reg [OA 10 (.mv (II 2))]) .ret) .skip)) (.seq (.seq (.reg [VV
 96 18,OA 97 (.len false (TT 96)),OA 98 (.mv (II 0))]) (.block 2 (.loop (.seq (.reg [OA 99 (.bin .lss (TT 98) (TT 97))]) (.seq (.cond (TT 99) .skip (.exit 2)) (.seq (.block 3 (.seq (.reg [OA 100 (.x9 12 (TT 96) (TT 98)),LL
 101 12 100,OA 20 (.alloc 42 [.bool false,.string ⟨#[]⟩,.string ⟨#[]⟩,.bool false,.string ⟨#[]⟩,.string ⟨#[]⟩,.bool false,.string ⟨#[]⟩,.string ⟨#[]⟩,.bool false,.string ⟨#[]⟩,.string ⟨#[]⟩]),OB (.store 12 (TT 20)
 (TT 101))]) (.seq (.reg [LL 103 12 20,OA 104 (.call 100 [TT 103]),MM 102 104,OA 105 (.ext (TT 102) 0),OA 106 (.ext (TT 102) 1),MM 21 105,MM 22 106]) (.seq (.reg [MM 107 22,OA 108 (.bin .neq (TT 107) (II 0)),MM 109 108,
 MG 110 21 109 false,MG 111 3 109 false,OC 112 (.call 101 [TT 110,TT 111]) 109 false,OC 113 (.un .not (TT 112)) 109 false,OA 114 (.pick (TT 109) (.const (.bool true)) (TT 113))]) (.cond (TT 114) (.seq (.reg [OA 10 (.mv (II
 3))]) .ret) .skip))))) (.reg [OA 115 (.bin .add (TT 98) (II 1)),MM 98 115]))))))) (.seq (.seq (.reg [VV 116 18,OA 117 (.len false (TT 116)),OA 118 (.mv (II 0))]) (.block 4 (.loop (.seq (.reg [OA 119 (.bin .lss (TT 118) (TT
 117))]) (.seq (.cond (TT 119) .skip (.exit 4)) (.seq (.block 5 (.seq (.reg [OA 120 (.x9 12 (TT 116) (TT 118)),LL 121 12 120,OA 24 (.alloc 42 [.bool false,.string ⟨#[]⟩,.string ⟨#[]⟩,.bool false,.string ⟨#[]⟩,.string
 ⟨#[]⟩,.bool false,.string ⟨#[]⟩,.string ⟨#[]⟩,.bool false,.string ⟨#[]⟩,.string ⟨#[]⟩]),OB (.store 12 (TT 24) (TT 121))]) (.seq (.reg [LL 122 12 24,OA 123 (.call 102 [TT 122]),OA 25 (.alloc 60 [.slice none 0 0]),OB
 (.store 1 (TT 25) (TT 123))]) (.seq (.reg [FF 124 1 5,VV 125 124,OA 126 (.clo 104 [TT 25]),OA 127 (.call 103 [TT 125,TT 126])]) (.cond (TT 127) (.seq (.reg [OA 10 (.mv (II 4))]) .ret) .skip))))) (.reg [OA 128 (.bin .add (TT
 118) (II 1)),MM 118 128]))))))) (.seq (.reg [OA 129 (.clo 106 [TT 18]),OA 26 (.alloc 175 [.nilFunc]),OB (.store 1 (TT 26) (TT 129))]) (.seq (.seq (.reg [FF 130 3 6,VV 131 130,OA 132 (.clo 110 [TT 26,TT 5,TT 14]),OA 133
 (.call 90 [TT 131,TT 132])]) (.cond (TT 133) (.seq (.reg [OA 10 (.mv (II 5))]) .ret) .skip)) (.seq (.seq (.reg [FF 134 4 5,VV 135 134,OA 136 (.len false (TT 135)),OA 137 (.mv (II 0))]) (.block 6 (.loop (.seq (.reg [OA 138
 (.bin .lss (TT 137) (TT 136))]) (.seq (.cond (TT 138) .skip (.exit 6)) (.seq (.block 7 (.seq (.reg [MM 139 137,OA 140 (.x9 13 (TT 135) (TT 137)),LL 141 13 140,OA 28 (.alloc 107 [.string ⟨#[]⟩,.bool false,.string ⟨#[]⟩,
 .string ⟨#[]⟩,.bool false,.string ⟨#[]⟩,.string ⟨#[]⟩,.bool false,.string ⟨#[]⟩,.string ⟨#[]⟩,.bool false,.string ⟨#[]⟩,.string ⟨#[]⟩]),MM 27 139,OB (.store 13 (TT 28) (TT 141))]) (.seq (.D6 [.q,.q,.q,.q,.q,.q,
 .q,.q,.q,.q,.q,.q,.q,.q,.q,.q,.q] [FF 142 4 6,VV 143 142,MM 144 27,OA 145 (.x9 1 (TT 143) (TT 144)),VV 146 145,MM 147 146,VG 148 26 147 true,FG 149 1 28 147 true,LG 150 12 149 147 true,FG 151 5 5 147 true,
 LG 152 3 151 147 true,VG 153 14 147 true,OC 154 (.call 21 [TT 153]) 147 true,OC 155 (.call 112 [TT 152,TT 154]) 147 true,OC 156 (.call 26 [TT 150,TT 155]) 147 true,OC 157 (.S9 (TT 148) [TT 156]) 147 true,OA 158 (.pick
 (TT 147) (TT 157) (.const (.bool false)))]) (.cond (TT 158) (.seq (.reg [OA 10 (.mv (II 6))]) .ret) .skip)))) (.reg [OA 159 (.bin .add (TT 137) (II 1)),MM 137 159]))))))) (.seq (.reg [OA 10 (.mv (II 0))]) .ret)))))))))))))⟩
theorem b0Q:I9 eff Tryz.prog Tryz.f51=some a5S:=by kernel_rfl
theorem b0u:Tryz.prog.funcs[51]?=some Tryz.f51:=Tryz.func51
set_option maxHeartbeats 32000000
def c1y (L:List Lk) (Q:List Sp):Bool:=(L.zip Q).any fun z=>decide (Nm.q9 z.2.lo (Nm.d9 z.1.low) < 0) || decide (0 < Nm.q9 z.2.hi (Nm.d9 z.1.high))
def b9y (bs:List Bq) (lease:List Cl):Bool:=bs.any fun b=>!decide (ofE b=0) || !a2C (ofC b) lease
theorem b0L {α:Type} {l:List α} {i:Nat} {x:α} {p:α->Bool} (h:l[i]?=some x) (hp:p x=true):l.any p=true:=List.any_eq_true.2 ⟨x,c6H h,hp⟩
theorem b3e {α:Type} {l:List α} {p:α->Bool} (h:∀ (j:Nat) x,j < l.length->l[j]?=some x->p x=false):l.any p=false:=by
 rw [List.any_eq_false]
 intro x hx
 obtain ⟨j,hj⟩:=List.mem_iff_getElem?.1 hx
 rw [h j x (c6J.1 hj).1 hj]
 decide
theorem a7p {α:Type} {l:List α} {i:Nat} {x:α} {p:α->Bool} (hg:l[i]?=some x) (hx:p x=false) (h:∀ (j:Nat) x,j < i->l[j]?=some x->p x=false):∀ (j:Nat) x,j < i+1->l[j]?=some x->p x=false:=fun j y hj hy=>by
 rcases c7a j i with h1|h1
 ·exact h j y h1 hy
 ·have:j=i:=by omega
  subst this
  rw [hg] at hy
  cases hy
  exact hx
theorem c3j {l:Lk} {v:Nm.Rt} (hb:Rb 3 l.brake) (hv:Rb 4096 v) (hle:u7 (Nm.d9 l.brake) (Nm.d9 v)<=2000):Rb 4224 (Nm.ofQ (R8 l v)):=by
 have hs:sgQ (Nm.d9 v)=1 \/ sgQ (Nm.d9 v)=-1:=by unfold sgQ;split<;>simp
 have ra:=U4 (hv.fit (by decide))
 have rb:=hb.fit (by decide)
 have hw:Rb 4224 (Nm.ofQ (a2p (Nm.d9 l.brake) (r9 (Nm.d9 v)) (u7 (Nm.d9 l.brake) (Nm.d9 v)).toNat)):=by
  have hn:(u7 (Nm.d9 l.brake) (Nm.d9 v)).toNat<=2000:=by omega
  generalize (u7 (Nm.d9 l.brake) (Nm.d9 v)).toNat=n at *
  have hm:n*(n-1)<=2000*2000:=Nat.mul_le_mul hn (by omega)
  have i1:Rb 8 (Nm.ofQ ((n-1:Nat):Rat)):=a2c (n:=((n-1:Nat):Int)) (by omega)
  have i2:Rb 8 (Nm.ofQ ((n*(n-1) / 2:Nat):Rat)):=a2c (n:=((n*(n-1) / 2:Nat):Int)) (by omega)
  unfold a2p
  split
  ·exact a0j.mono (by decide)
  ·exact (O8 (I5 i1 ra) (I5 rb i2)).mono (by decide)
 unfold R8
 rcases hs with e|e<;>rw [e]
 ·rw [Rat.one_mul];exact hw
 ·rw [show (-1:Rat)*a2p (Nm.d9 l.brake) (r9 (Nm.d9 v)) (u7 (Nm.d9 l.brake) (Nm.d9 v)).toNat=-a2p (Nm.d9 l.brake) (r9 (Nm.d9 v)) (u7 (Nm.d9 l.brake) (Nm.d9 v)).toNat by grind]
  exact a0L hw
theorem c0W (p q:Rat):F8 (snQ p q)=⟨p,q⟩:=by
 unfold F8 snQ H8
 rw [if_pos ⟨decide_eq_true (Nm.a3m _),decide_eq_true (Nm.a3m _)⟩,Nm.q8,Nm.q8]
theorem b8q (L:List Lk) (q u:List Nm.Rt):(Q9 L q u).map F8=a1w L q u:=by
 unfold Q9 a1w
 rw [List.map_map]
 refine List.map_congr_left fun z _=>?_
 exact c0W _ _
theorem c0u {L:List Lk} {q u:List Nm.Rt} (h1:q.length=L.length) (h2:u.length=L.length) (hq:∀ r ∈ q,Rb 4096 r) (hu:∀ r ∈ u,Rb 4096 r) (hf:∀ (i:Nat) (l:Lk) (x:Nm.Rt),L[i]?=some l->u[i]?=some x->Jo l x/\u7 (Nm.d9 l.brake) (Nm.d9 x)<=2000):∀ s ∈ Q9 L q u,Zr 16384 s:=fun s hs=>by
 obtain ⟨i,hi⟩:=List.mem_iff_getElem?.1 hs
 unfold Q9 at hi
 rw [c6P] at hi
 cases hz:(L.zip (q.zip u))[i]? with
 | none=>rw [hz] at hi;cases hi
 | some z=>
  rw [hz] at hi
  injection hi with hi
  subst hi
  obtain ⟨l,x,y⟩:=z
  rw [List.getElem?_zip_eq_some] at hz
  obtain ⟨h1,h2⟩:=hz
  rw [List.getElem?_zip_eq_some] at h2
  have hF:=hf i l y h1 h2.2
  have ry:=hu y (c6H h2.2)
  have hw:=c3j hF.1.hb ry hF.2
  have r1:=(hq x (c6H h2.1)).fit (by decide)
  have r2:=ry.fit (by decide)
  have r3:=K9 r1 r2
  have r4:=K9 r3 hw
  change Zr 16384 (snQ (loQ x y l.brake) (hiQ x y l.brake))
  unfold loQ hiQ
  rw [show b2Y x y l.brake=Nm.d9 x+Nm.d9 y+R8 l y from rfl]
  exact ⟨a5X (a5X (r3.mono (by decide)) (r4.mono (by decide))) (r1.mono (by decide)),a6d (a6d (r3.mono (by decide)) (r4.mono (by decide))) (r1.mono (by decide))⟩
theorem b8P {L:List Lk} {q u:List Nm.Rt} (h:∀ s ∈ Q9 L q u,Zr 16384 s):∀ s ∈ a1w L q u,Zb 16384 s:=fun s hs=>by
 obtain ⟨z,hz,rfl⟩:=List.mem_map.1 hs
 exact h _ (List.mem_map.2 ⟨z,hz,rfl⟩)
theorem c1n (w:Wk) (s:Stt) (n:Nat) (a:Am) (x:Ast) (lease:List Cl) (u:List Nm.Rt) (hwb:Wb 1048576 w) (ga:w.arms[n]?=some a) (gx:s.arms[n]?=some x) (ha:F4 a=0) (hh:x.holds=-1)
  (hxl:x.q.length=a.links.length) (hul:u.length=a.links.length) (hqb:∀ r ∈ x.q,Rb 4096 r) (hub:∀ r ∈ u,Rb 4096 r) (hf:∀ (i:Nat) (l:Lk) (y:Nm.Rt),a.links[i]?=some l->u[i]?=some y->Jo l y/\u7 (Nm.d9 l.brake) (Nm.d9 y)<=2000)
  (hle:lease.length<=1000000) (j1:a1W (a.links.zip (x.q.zip u))=true) (j2:c1y a.links (a1w a.links x.q u)=false) (j3:b9y (a0U a (a1w a.links x.q u)) lease=true) :
  FZ 51 [w.c,s.c,ints n,cls lease,rts u] (ints 3):=by
 refine kW b0u b0Q (by rfl) fun w' O hw=>?_
 have hn:=(c6J.1 ga).1
 have hns:=(c6J.1 gx).1
 have hl:Ab 1073741824 a:=(Z7 ha).1.mono (by decide)
 have h0:=b7k a x.q u hl hxl hul (fun r hr=>(hqb r hr).mono (by decide)) (fun r hr=>(hub r hr).mono (by decide))
 have h1:=b3L a x.q u hl ha hxl hul (fun r hr=>(hqb r hr).mono (by decide)) hf
 have hql:=b6f (L:=a.links) hxl hul
 have hqz:=c0u hxl hul hqb hub hf
 have h2:=b1l w n a (Q9 a.links x.q u) (hwb.mono (by decide)) ga ha (by rw [a5D hxl hul]) (fun r hr=>⟨(hqz r hr).1.mono (by decide),(hqz r hr).2.mono (by decide)⟩)
 have hbb:=c2k (q:=Q9 a.links x.q u) ha (fun r hr=>⟨(hqz r hr).1.mono (by decide),(hqz r hr).2.mono (by decide)⟩)
 rw [b8q] at h2 hbb
 rw [b7h] at h1 h2
 have hqs:=b8P hqz
 have hbl:=a6y hql
 have hl3:=(U1 ha).2
 have hlk:=hl.2.2.2
 generalize a0U a (a1w a.links x.q u)=bs at *
 generalize a1w a.links x.q u=Q at *
 generalize a1W (a.links.zip (x.q.zip u))=al at *
 subst j1
 generalize O6 (a.links.zip u)+1=t at *
 have hb30:∀ b ∈ bs,Bb 1000000000 b:=fun b hb=>⟨(hbb b hb).1.mono (by decide),(hbb b hb).2.1.mono (by decide),(hbb b hb).2.2.1.mono (by decide),(hbb b hb).2.2.2.mono (by decide)⟩
 clear hf hqb hub hwb hl hbb
 simp only [a5S,j6,TT,II,OA,OB,OC,MM,LL,VV,FF,MG,LG,VG,FG]
 simp only [Wk.c,Wk.enc,Stt.c,Stt.enc,Am.c,Am.enc,ams,wls,pts,sls,gts,lks,a0K,frs,bls,rts,vts,cls,sb,ints] at h0 h1 h2 ⊢
 (repeat first|refine uI ?_|(refine uK ?_ ?_;focus first|omega|(intros;simp_all<;>omega))|simp (disch:=omega) only [go_sem,Nat.reduceBEq,Nat.reduceAdd])
 refine S.D6 [.gone,.box 63 [.v (.int .i64 s.tick),.sl 4 (s.arms.map Ast.enc),.sl 10 (s.parts.map Fr.enc),.sl 6 (s.people.map Vt.enc),.sl 1 (s.gates.map fun b=>[.v (.bool b)])]] (by simp [Eng.F6,Eng.H6]) ?_
 (repeat first|refine uA ?_|(refine uK ?_ ?_;focus first|omega|(intros;simp_all<;>omega))|simp (disch:=omega) only [go_sem,Nat.reduceBEq,Nat.reduceAdd,Eng.H6,c6F,c6P,ga,gx,c6G,c6I,Am.enc,Ast.enc,lks,rts,sb,ints,hh]|(refine uD h0 ?_ ?_ ?_;exact tz hw;exact rfl))
 refine S.cond rfl (fun hc=>by simp at hc) (fun hc=>?_)
 (repeat first|refine uA ?_|(refine uK ?_ ?_;focus first|omega|(intros;simp_all<;>omega))|simp (disch:=omega) only [go_sem,Nat.reduceBEq,Nat.reduceAdd]|(refine uD h1 ?_ ?_ ?_;exact tz hw;exact rfl))
 refine S.cond rfl (fun hc=>by simp at hc) (fun hc=>?_)
 clear h0 h1
 (repeat first|refine uA ?_|(refine uK ?_ ?_;focus first|omega|(intros;simp_all<;>omega))|simp (disch:=omega) only [go_sem,Nat.reduceBEq,Nat.reduceAdd,c6F])
 refine S.loop (X:=Nat) (fun i=>⟨[(2,ints n),(3,cls lease),(5,.bp 0 0),(6,.bp 1 0),(11,.bp 2 0),(12,.bp 3 0),(13,.sl 6 (Q.map Sp.enc)),(14,.bp 4 0),(57,lks a.links),(58,ints a.links.length),(59,ints i)],[.box 30 w.enc,.box 63 s.enc,.box 49 a.enc,.box 149 x.enc,.box 3 [ints t]]⟩)
  (fun i=>i<=a.links.length/\∀ (j:Nat) (z:Lk × Sp),j < i->(a.links.zip Q)[j]?=some z->(decide (Nm.q9 z.2.lo (Nm.d9 z.1.low) < 0) || decide (0 < Nm.q9 z.2.hi (Nm.d9 z.1.high)))=false) (fun i=>a.links.length-i) 0 ⟨c6K _,fun _ _ h=>absurd h (Nat.not_lt_zero _)⟩ (by simp only [Wk.enc,Stt.enc,Am.enc,Ast.enc,ams,wls,pts,sls,gts,lks,a0K,frs,bls,rts,vts,cls,sb,ints,hh];exact (by (repeat first|refine uA ?_|(refine ⟨?_,?_⟩;focus first|rfl|simp [slot])|rfl|simp))) ?_
 rintro i ⟨hi,hm⟩
 simp only [Wk.enc,Stt.enc,Am.enc,Ast.enc,ams,wls,pts,sls,gts,lks,a0K,frs,bls,rts,vts,cls,sb,ints,hh]
 (repeat first|refine uA ?_|(refine uK ?_ ?_;focus first|omega|(intros;simp_all<;>omega))|simp (disch:=omega) only [go_sem,Nat.reduceBEq])
 (refine uJ rfl (fun hc=>?_) fun hc=>?_)
 ·have hi':i < a.links.length:=by omega
  have hgl:=c6E hi'
  have hgq:=c6E (show i < Q.length by omega)
  generalize a.links[i]=l at hgl
  generalize Q[i]'_=z at hgq
  have rl:=hlk l (c6H hgl)
  have rz:=hqs z (c6H hgq)
  have o1:=M6 (Nm.ofQ z.lo) l.low (rz.1.mono (by decide)) (rl.2.1.mono (by decide))
  have o2:=M6 (Nm.ofQ z.hi) l.high (rz.2.mono (by decide)) (rl.2.2.1.mono (by decide))
  rw [Nm.q8] at o1 o2
  have hz:=V6 hgl hgq
  have hit:=fun hp=>b0L (p:=fun z:Lk × Sp=>decide (Nm.q9 z.2.lo (Nm.d9 z.1.low) < 0) || decide (0 < Nm.q9 z.2.hi (Nm.d9 z.1.high))) hz hp
  have nxt:=fun hp=>a7p (p:=fun z:Lk × Sp=>decide (Nm.q9 z.2.lo (Nm.d9 z.1.low) < 0) || decide (0 < Nm.q9 z.2.hi (Nm.d9 z.1.high))) hz hp hm
  simp only at hit nxt
  clear rl rz
  generalize Nm.q9 z.lo (Nm.d9 l.low)=c1 at *
  generalize Nm.q9 z.hi (Nm.d9 l.high)=c2 at *
  simp only [rc,sb,ints] at o1 o2
  (repeat first|refine uA ?_|(refine uK ?_ ?_;focus first|omega|(intros;simp_all<;>omega))|simp (disch:=omega) only [go_sem,Nat.reduceBEq,Nat.reduceAdd,hgl,hgq,c6G,c6F,c6P,Lk.enc,Sp.enc,Sn.enc,snQ,vts,sb,c6I]|(refine uD o1 ?_ ?_ ?_;exact tz hw;exact rfl)|(refine uD o2 ?_ ?_ ?_;exact tz hw;exact rfl))
  refine S.cond rfl (fun hc=>?_) (fun hc=>?_)
  ·exfalso
   have hL:c1y a.links Q=true:=hit (by revert hc;by_cases k1:c1 < 0<;>by_cases k2:0 < c2<;>simp [k1,k2])
   rw [j2] at hL
   cases hL
  ·have hp:=nxt (by revert hc;by_cases k1:c1 < 0<;>by_cases k2:0 < c2<;>simp [k1,k2])
   (repeat first|refine uA ?_|(refine uK ?_ ?_;focus first|omega|(intros;simp_all<;>omega))|simp (disch:=omega) only [go_sem,Nat.reduceBEq,ww])
   refine S.next (x:=i) (i+1) ⟨by omega,hp⟩ (by omega) (by (repeat first|refine uA ?_|(refine ⟨?_,?_⟩;focus first|rfl|simp [slot])|rfl|simp))
 have hi':i=a.links.length:=by omega
 subst hi'
 clear hm
 (repeat first|refine uA ?_|(refine uK ?_ ?_;focus first|omega|(intros;simp_all<;>omega))|simp (disch:=omega) only [go_sem,Nat.reduceBEq,Nat.reduceAdd]|(refine uD h2 ?_ ?_ ?_;exact tz hw;exact rfl))
 refine S.cond rfl (fun hc=>by simp at hc) (fun hc=>?_)
 clear h2
 (repeat first|refine uA ?_|(refine uK ?_ ?_;focus first|omega|(intros;simp_all<;>omega))|simp (disch:=omega) only [go_sem,Nat.reduceBEq,c6F])
 clear hi hlk hqz hql hqs
 refine S.loop (X:=Nat) (fun i=>⟨[(3,cls lease),(5,.bp 0 0),(6,.bp 1 0),(14,.bp 4 0),(18,.bp 5 0),(96,.sl 12 (bs.map Bq.enc)),(97,ints bs.length),(98,ints i)],[.box 30 w.enc,.box 63 s.enc,.gone,.gone,.box 3 [ints t],.box 34 [.sl 12 (bs.map Bq.enc)]]⟩)
  (fun i=>i<=bs.length/\∀ (j:Nat) (b:Bq),j < i->bs[j]?=some b->(!decide (ofE b=0) || !a2C (ofC b) lease)=false) (fun i=>bs.length-i) 0 ⟨c6K _,fun _ _ h=>absurd h (Nat.not_lt_zero _)⟩ (by simp only [Wk.enc,Stt.enc,ams,wls,pts,sls,gts,a0K,frs,bls,vts,cls,sb,ints];exact (by (repeat first|refine uA ?_|(refine ⟨?_,?_⟩;focus first|rfl|simp [slot])|rfl|simp))) ?_
 rintro i ⟨hi,hm⟩
 simp only [Wk.enc,Stt.enc,ams,wls,pts,sls,gts,a0K,frs,bls,vts,cls,sb,ints]
 (repeat first|refine uA ?_|(refine uK ?_ ?_;focus first|omega|(intros;simp_all<;>omega))|simp (disch:=omega) only [go_sem,Nat.reduceBEq])
 (refine uJ rfl (fun hc=>?_) fun hc=>?_)
 ·have hi':i < bs.length:=by omega
  have hg:=c6E hi'
  generalize bs[i]=b at hg
  have hbm:=c6H hg
  have o1:=c6r b (hb30 b hbm)
  have o2:=c1d (ofC b) lease (c6L (c3h b) (by decide)) (by omega)
  have hit:=fun hp=>b0L (p:=fun b=>!decide (ofE b=0) || !a2C (ofC b) lease) hg hp
  have nxt:=fun hp=>a7p (p:=fun b=>!decide (ofE b=0) || !a2C (ofC b) lease) hg hp hm
  generalize a2C (ofC b) lease=wi at *
  generalize ofC b=D at *
  generalize ofE b=e at *
  simp only [Bq.enc,cls,sb,ints] at o1 o2
  (repeat first|refine uA ?_|(refine uK ?_ ?_;focus first|omega|(intros;simp_all<;>omega))|simp (disch:=omega) only [go_sem,Nat.reduceBEq,Nat.reduceAdd,hg,c6G,c6F,c6P,Bq.enc,sb,c6I]|(refine uB o2 ?_ ?_;exact rfl)|(refine uD o1 ?_ ?_ ?_;exact tz hw;exact rfl))
  refine S.cond rfl (fun hc=>?_) (fun hc=>?_)
  ·(repeat first|refine uA ?_|(refine uK ?_ ?_;focus first|omega|(intros;simp_all<;>omega))|simp (disch:=omega) only [go_sem])
   exact S.done (j4.out rfl (Imp.refl rfl) rfl)
  ·have hp:=nxt (by revert hc;by_cases k1:e=0<;>cases wi<;>simp [k1])
   (repeat first|refine uA ?_|(refine uK ?_ ?_;focus first|omega|(intros;simp_all<;>omega))|simp (disch:=omega) only [go_sem,Nat.reduceBEq,ww])
   refine S.next (x:=i) (i+1) ⟨by omega,hp⟩ (by omega) (by (repeat first|refine uA ?_|(refine ⟨?_,?_⟩;focus first|rfl|simp [slot])|rfl|simp))
 exfalso
 have hi':i=bs.length:=by omega
 subst hi'
 have hL:b9y bs lease=false:=b3e fun j z hj hz=>hm j z hj hz
 rw [j3] at hL
 cases hL
set_option maxRecDepth 10000
set_option maxHeartbeats 8000000
def sns (l:List Sn):C:=.sl 6 (l.map Sn.enc)
theorem b8R (a:List Bq) (hn:a.length<=1000000000000):y9 Tryz.prog 7 [bqs a,bqs a] (.v (.bool true)):=by
 refine kS Tryz.func7 (by cbv) (by rfl) fun w O=>?_
 simp only [j6,ints,bqs]
 (repeat first|refine uA ?_|(refine uK ?_ ?_;focus first|omega|(intros;simp_all<;>omega))|simp (disch:=omega) only [go_sem,Nat.reduceBEq,Nat.reduceAdd,ww,c6F])
 refine S.cond rfl (fun hc=>by simp at hc) (fun hc=>?_)
 (repeat first|refine uA ?_|(refine uK ?_ ?_;focus first|omega|(intros;simp_all<;>omega))|simp (disch:=omega) only [go_sem,Nat.reduceBEq,Nat.reduceAdd,ww,c6F])
 refine S.loop (X:=Nat) (fun i=>⟨[(0,bqs a),(1,bqs a),(12,ints a.length),(13,ints i)],[]⟩)
  (fun i=>i<=a.length) (fun i=>a.length-i) 0 (c6K _) (by (repeat first|refine uA ?_|(refine ⟨?_,?_⟩;focus first|rfl|simp [slot])|rfl|simp)) ?_
 intro i hi
 simp only [ints,bqs] at hi ⊢
 (repeat first|refine uA ?_|(refine uK ?_ ?_;focus first|omega|(intros;simp_all<;>omega))|simp (disch:=omega) only [go_sem,Nat.reduceBEq,Nat.reduceAdd,ww])
 (refine uJ rfl (fun hc=>?_) fun hc=>?_)
 ·have hgi:=c6E (show i < a.length by omega)
  generalize a[i]'_=z at hgi
  obtain ⟨z1,z2,z3,z4⟩:=z
  (repeat first|refine uA ?_|(refine uK ?_ ?_;focus first|omega|(intros;simp_all<;>omega))|simp (disch:=omega) only [go_sem,Nat.reduceBEq,Nat.reduceAdd,ww,hgi,c6G,c6F,Bq.enc,sb,c6I,c7x,decide_true])
  refine S.cond rfl (fun hc2=>by simp at hc2) (fun hc2=>?_)
  (repeat first|refine uA ?_|(refine uK ?_ ?_;focus first|omega|(intros;simp_all<;>omega))|simp (disch:=omega) only [go_sem,Nat.reduceBEq,Nat.reduceAdd,ww])
  refine S.next (i+1) (by omega) (by omega) (by (repeat first|refine uA ?_|(refine ⟨?_,?_⟩;focus first|rfl|simp [slot])|rfl|simp))
 ·(repeat first|refine uA ?_|(refine uK ?_ ?_;focus first|omega|(intros;simp_all<;>omega))|simp (disch:=omega) only [go_sem,Nat.reduceBEq,Nat.reduceAdd,ww])
  exact S.done (j4.out rfl (Imp.refl rfl) rfl)
theorem b6c (a:List Sn) (hn:a.length<=1000000000000):y9 Tryz.prog 45 [sns a,sns a] (.v (.bool true)):=by
 refine kS Tryz.func45 (by cbv) (by rfl) fun w O=>?_
 simp only [j6,ints,sns]
 (repeat first|refine uA ?_|(refine uK ?_ ?_;focus first|omega|(intros;simp_all<;>omega))|simp (disch:=omega) only [go_sem,Nat.reduceBEq,Nat.reduceAdd,ww,c6F])
 refine S.cond rfl (fun hc=>by simp at hc) (fun hc=>?_)
 (repeat first|refine uA ?_|(refine uK ?_ ?_;focus first|omega|(intros;simp_all<;>omega))|simp (disch:=omega) only [go_sem,Nat.reduceBEq,Nat.reduceAdd,ww,c6F])
 refine S.loop (X:=Nat) (fun i=>⟨[(0,sns a),(1,sns a),(12,ints a.length),(13,ints i)],[]⟩)
  (fun i=>i<=a.length) (fun i=>a.length-i) 0 (c6K _) (by (repeat first|refine uA ?_|(refine ⟨?_,?_⟩;focus first|rfl|simp [slot])|rfl|simp)) ?_
 intro i hi
 simp only [ints,sns] at hi ⊢
 (repeat first|refine uA ?_|(refine uK ?_ ?_;focus first|omega|(intros;simp_all<;>omega))|simp (disch:=omega) only [go_sem,Nat.reduceBEq,Nat.reduceAdd,ww])
 (refine uJ rfl (fun hc=>?_) fun hc=>?_)
 ·have hgi:=c6E (show i < a.length by omega)
  generalize a[i]'_=z at hgi
  obtain ⟨⟨z1,z2,z3⟩,⟨z4,z5,z6⟩⟩:=z
  (repeat first|refine uA ?_|(refine uK ?_ ?_;focus first|omega|(intros;simp_all<;>omega))|simp (disch:=omega) only [go_sem,Nat.reduceBEq,Nat.reduceAdd,ww,hgi,c6G,c6F,Sn.enc,sb,c6I,c7x,decide_true])
  refine S.cond rfl (fun hc2=>by simp at hc2) (fun hc2=>?_)
  (repeat first|refine uA ?_|(refine uK ?_ ?_;focus first|omega|(intros;simp_all<;>omega))|simp (disch:=omega) only [go_sem,Nat.reduceBEq,Nat.reduceAdd,ww])
  refine S.next (i+1) (by omega) (by omega) (by (repeat first|refine uA ?_|(refine ⟨?_,?_⟩;focus first|rfl|simp [slot])|rfl|simp))
 ·(repeat first|refine uA ?_|(refine uK ?_ ?_;focus first|omega|(intros;simp_all<;>omega))|simp (disch:=omega) only [go_sem,Nat.reduceBEq,Nat.reduceAdd,ww])
  exact S.done (j4.out rfl (Imp.refl rfl) rfl)
theorem b8g (a:List Int) (hn:a.length<=1000000000000):y9 Tryz.prog 18 [V8 a,V8 a] (.v (.bool true)):=by
 refine kS Tryz.func18 (by cbv) (by rfl) fun w O=>?_
 simp only [j6,ints,V8]
 (repeat first|refine uA ?_|(refine uK ?_ ?_;focus first|omega|(intros;simp_all<;>omega))|simp (disch:=omega) only [go_sem,Nat.reduceBEq,Nat.reduceAdd,ww,c6F])
 refine S.cond rfl (fun hc=>by simp at hc) (fun hc=>?_)
 (repeat first|refine uA ?_|(refine uK ?_ ?_;focus first|omega|(intros;simp_all<;>omega))|simp (disch:=omega) only [go_sem,Nat.reduceBEq,Nat.reduceAdd,ww,c6F])
 refine S.loop (X:=Nat) (fun i=>⟨[(0,V8 a),(1,V8 a),(12,ints a.length),(13,ints i)],[]⟩)
  (fun i=>i<=a.length) (fun i=>a.length-i) 0 (c6K _) (by (repeat first|refine uA ?_|(refine ⟨?_,?_⟩;focus first|rfl|simp [slot])|rfl|simp)) ?_
 intro i hi
 simp only [ints,V8] at hi ⊢
 (repeat first|refine uA ?_|(refine uK ?_ ?_;focus first|omega|(intros;simp_all<;>omega))|simp (disch:=omega) only [go_sem,Nat.reduceBEq,Nat.reduceAdd,ww])
 (refine uJ rfl (fun hc=>?_) fun hc=>?_)
 ·have hgi:=c6E (show i < a.length by omega)
  generalize a[i]'_=z at hgi
  skip
  (repeat first|refine uA ?_|(refine uK ?_ ?_;focus first|omega|(intros;simp_all<;>omega))|simp (disch:=omega) only [go_sem,Nat.reduceBEq,Nat.reduceAdd,ww,hgi,c6G,c6F,sb,c6I,c7x,decide_true])
  refine S.cond rfl (fun hc2=>by simp at hc2) (fun hc2=>?_)
  (repeat first|refine uA ?_|(refine uK ?_ ?_;focus first|omega|(intros;simp_all<;>omega))|simp (disch:=omega) only [go_sem,Nat.reduceBEq,Nat.reduceAdd,ww])
  refine S.next (i+1) (by omega) (by omega) (by (repeat first|refine uA ?_|(refine ⟨?_,?_⟩;focus first|rfl|simp [slot])|rfl|simp))
 ·(repeat first|refine uA ?_|(refine uK ?_ ?_;focus first|omega|(intros;simp_all<;>omega))|simp (disch:=omega) only [go_sem,Nat.reduceBEq,Nat.reduceAdd,ww])
  exact S.done (j4.out rfl (Imp.refl rfl) rfl)
set_option maxRecDepth 100000
set_option maxHeartbeats 16000000
def a1Z (ls:List (List Cl)) (i:Nat) (m:List Cl):Bool:=decide (0 < (a2M (ls.getD i []) m).length)
theorem b8i {ls:List (List Cl)} {i:Nat} (hi:i < ls.length) (h:(ls.take i).any (a1Z ls i)=true):a3S ls=true:=List.any_eq_true.2 ⟨i,List.mem_range.2 hi,h⟩
theorem b6G {ls:List (List Cl)} (h:∀ i,i < ls.length->(ls.take i).any (a1Z ls i)=false):a3S ls=false:=by
 unfold a3S
 rw [List.any_eq_false]
 intro i hi
 have:=h i (List.mem_range.1 hi)
 unfold a1Z at this
 rw [this]
 decide
def powC (R:List Int):C:=.sl 1 (R.map fun r=>[.v (.bool (decide (r=0)))])
theorem c2E (w:Wk) (s:Stt) (ls:List (List Cl)) (us:List (List Nm.Rt)) (R:List Int) (hwb:Wb 1073741824 w) (hsb:Stb 1073741824 s) (hst:a2U w s=0) (hl:ls.length=w.arms.length) (hu:us.length=w.arms.length) (hR:R.length=w.arms.length) (hn:w.arms.length<=1000)
  (hg:∀ l ∈ ls,b6z l) (hj:∀ (n:Nat) (l:List Cl) (u:List Nm.Rt) (r:Int),ls[n]?=some l->us[n]?=some u->R[n]?=some r->FZ 51 [w.c,s.c,ints n,cls l,rts u] (ints r)) :
  FZ 14 [w.c,s.c,X9 ls,wss us] (.tup [powC (if a3S ls=true then [] else R),V8 (if a3S ls=true then [] else R),ints (if a3S ls=true then 10 else 0)]):=by
 refine kW Tryz.func14 (by cbv) (by rfl) fun w' O hw=>?_
 have h0:=c1r w s hwb hsb
 rw [hst] at h0
 have hit:=fun (i:Nat) (hi:i < ls.length) (h:(ls.take i).any (a1Z ls i)=true)=>b8i hi h
 have miss:=fun (h:∀ i,i < ls.length->(ls.take i).any (a1Z ls i)=false)=>b6G h
 generalize a3S ls=K at *
 clear hwb hsb hst
 simp only [j6]
 simp only [Wk.c,Wk.enc,Stt.c,Stt.enc,ams,wls,pts,sls,gts,a0K,frs,bls,vts,X9,cls,wss,rts,powC,V8,sb,ints] at h0 hj ⊢
 (repeat first|refine uA ?_|(refine uK ?_ ?_;focus first|omega|(intros;simp_all<;>omega))|simp (disch:=omega) only [go_sem,Nat.reduceBEq,Nat.reduceAdd,ww]|(refine uD h0 ?_ ?_ ?_;exact tz hw;exact rfl))
 refine S.cond rfl (fun hc=>by simp at hc) (fun hc=>?_)
 clear h0
 (repeat first|refine uA ?_|(refine uK ?_ ?_;focus first|omega|(intros;simp_all<;>omega))|simp (disch:=omega) only [go_sem,Nat.reduceBEq,Nat.reduceAdd,ww,c6F,hl,hu])
 refine S.cond rfl (fun hc=>by simp at hc) (fun hc=>?_)
 (repeat first|refine uA ?_|(refine uK ?_ ?_;focus first|omega|(intros;simp_all<;>omega))|simp (disch:=omega) only [go_sem,Nat.reduceBEq,Nat.reduceAdd,ww,c6F])
 refine S.loop (X:=Nat) (fun i=>⟨[(2,X9 ls),(3,wss us),(4,.bp 0 0),(5,.bp 1 0),(41,X9 ls),(42,ints ls.length),(43,ints i)],[.box 30 w.enc,.box 63 s.enc]⟩)
  (fun i=>i<=ls.length/\∀ k,k < i->(ls.take k).any (a1Z ls k)=false) (fun i=>ls.length-i) 0 ⟨c6K _,fun _ h=>absurd h (Nat.not_lt_zero _)⟩ (by simp only [Wk.enc,Stt.enc,ams,wls,pts,sls,gts,a0K,frs,bls,vts,X9,cls,wss,rts,sb,ints];exact (by (repeat first|refine uA ?_|(refine ⟨?_,?_⟩;focus first|rfl|simp [slot])|rfl|simp))) ?_
 rintro i ⟨hi,hm⟩
 simp only [Wk.enc,Stt.enc,ams,wls,pts,sls,gts,a0K,frs,bls,vts,X9,cls,wss,rts,sb,ints]
 (repeat first|refine uA ?_|(refine uK ?_ ?_;focus first|omega|(intros;simp_all<;>omega))|simp (disch:=omega) only [go_sem,Nat.reduceBEq,Nat.reduceAdd,ww])
 (refine uJ rfl (fun hc=>?_) fun hc=>?_)
 ·have hi':i < ls.length:=by omega
  have hgl:=c6E hi'
  generalize ls[i]=l at hgl
  have gl:=hg l (c6H hgl)
  have o1:=b9W l gl
  have hgd:ls.getD i []=l:=by rw [c6T,hgl];rfl
  have hti:=hit i hi'
  have htl:(ls.take i).length=i:=by rw [c6O];omega
  have htm:∀ m ∈ ls.take i,b6z m:=fun m hm=>hg m (List.mem_of_mem_take hm)
  unfold a1Z at hti
  rw [hgd] at hti
  have hmi:a1Z ls i=fun m=>decide (0 < (a2M l m).length):=by unfold a1Z;rw [hgd]
  generalize hT:ls.take i=T at *
  have hTe:List.take i (ls.map fun l=>[C.sl 2 (l.map ce)])=T.map fun l=>[C.sl 2 (l.map ce)]:=by rw [<- List.map_take,hT]
  simp only [cls,ints] at o1
  (repeat first|refine uA ?_|(refine uK ?_ ?_;focus first|omega|(intros;simp_all<;>omega))|simp (disch:=omega) only [go_sem,Nat.reduceBEq,Nat.reduceAdd,ww,c6F,c6P,hgl,c6G,c6I,cls,List.drop_zero,Nat.sub_zero,hTe,htl,Int.toNat_zero]|(refine uB o1 ?_ ?_;exact rfl))
  refine S.cond rfl (fun hc=>by simp at hc) (fun hc=>?_)
  (repeat first|refine uA ?_|(refine uK ?_ ?_;focus first|omega|(intros;simp_all<;>omega))|simp (disch:=omega) only [go_sem,Nat.reduceBEq,Nat.reduceAdd,ww,c6F,c6P,hgl,c6G,c6I,cls,List.drop_zero,Nat.sub_zero,hTe,htl,Int.toNat_zero])
  refine S.loop (X:=Nat) (fun j=>⟨[(2,X9 ls),(3,wss us),(4,.bp 0 0),(5,.bp 1 0),(12,ints i),(13,cls l),(41,X9 ls),(42,ints ls.length),(43,ints i),(55,X9 T),(56,ints i),(57,ints j)],[.box 30 w.enc,.box 63 s.enc]⟩)
   (fun j=>j<=i/\∀ (k:Nat) (m:List Cl),k < j->T[k]?=some m->decide (0 < (a2M l m).length)=false) (fun j=>i-j) 0 ⟨c6K _,fun _ _ h=>absurd h (Nat.not_lt_zero _)⟩ (by simp only [Wk.enc,Stt.enc,ams,wls,pts,sls,gts,a0K,frs,bls,vts,X9,cls,wss,rts,sb,ints];exact (by (repeat first|refine uA ?_|(refine ⟨?_,?_⟩;focus first|rfl|simp [slot])|rfl|simp))) ?_
  rintro j ⟨hj',hk⟩
  clear o1
  simp only [Wk.enc,Stt.enc,ams,wls,pts,sls,gts,a0K,frs,bls,vts,X9,cls,wss,rts,sb,ints]
  (repeat first|refine uA ?_|(refine uK ?_ ?_;focus first|omega|(intros;simp_all<;>omega))|simp (disch:=omega) only [go_sem,Nat.reduceBEq,Nat.reduceAdd,ww])
  (refine uJ rfl (fun hc=>?_) fun hc=>?_)
  ·have hgm:=c6E (show j < T.length by omega)
   generalize T[j]'_=m at hgm
   have gm:=htm m (c6H hgm)
   have o2:=c4u l m (c6L gl.1 (by decide)) (c6L gm.1 (by decide))
   have hml:(a2M l m).length<=400:=c6L (List.length_filter_le _ _) (c6L (a5w l) gl.1)
   have hit2:=fun hp=>b0L (p:=fun m=>decide (0 < (a2M l m).length)) hgm hp
   have nxt:=fun hp=>a7p (p:=fun m=>decide (0 < (a2M l m).length)) hgm hp hk
   generalize a2M l m=M at *
   simp only [cls] at o2
   (repeat first|refine uA ?_|(refine uK ?_ ?_;focus first|omega|(intros;simp_all<;>omega))|simp (disch:=omega) only [go_sem,Nat.reduceBEq,Nat.reduceAdd,ww,c6F,c6P,hgm,c6G,c6I,cls]|(refine uB o2 ?_ ?_;exact rfl))
   (refine uJ rfl (fun hc=>?_) fun hc=>?_)
   ·have hK:=hti (hit2 (decide_eq_true (by omega)))
    subst hK
    simp only [if_true,c6Z]
    (repeat first|refine uA ?_|(refine uK ?_ ?_;focus first|omega|(intros;simp_all<;>omega))|simp (disch:=omega) only [go_sem,Nat.reduceBEq,Nat.reduceAdd,ww])
    (refine S.done ?_;simp only [l9,p9,go_sem,Nat.reduceBEq,Nat.reduceAdd,Nat.reduceLeDiff,Int.reduceToNat,Int.reducePow];(repeat (refine ⟨?_,?_⟩;focus first|trivial|omega|simp));exact j4.out rfl (Imp.tup (by (repeat' (first|exact j5.nil|exact Imp.refl rfl|exact Imp.frz rfl rfl rfl|exact Imp.D8|refine Imp.agg ?_|refine j5.cons ?_ ?_)))) rfl)
   ·have hp:=nxt (decide_eq_false (by omega))
    (repeat first|refine uA ?_|(refine uK ?_ ?_;focus first|omega|(intros;simp_all<;>omega))|simp (disch:=omega) only [go_sem,Nat.reduceBEq,Nat.reduceAdd,ww])
    refine S.next (x:=j) (j+1) ⟨by omega,hp⟩ (by omega) (by (repeat first|refine uA ?_|(refine ⟨?_,?_⟩;focus first|rfl|simp [slot])|rfl|simp))
  ·have hje:j=i:=by omega
   subst hje
   have hno:(ls.take j).any (a1Z ls j)=false:=by
    rw [hmi,hT]
    exact b3e fun k m hkl hkm=>hk k m (by omega) hkm
   (repeat first|refine uA ?_|(refine uK ?_ ?_;focus first|omega|(intros;simp_all<;>omega))|simp (disch:=omega) only [go_sem,Nat.reduceBEq,Nat.reduceAdd,ww])
   refine S.next (x:=j) (j+1) ⟨by omega,fun k hk2=>?_⟩ (by omega) (by (repeat first|refine uA ?_|(refine ⟨?_,?_⟩;focus first|rfl|simp [slot])|rfl|simp))
   rcases c7a k j with h|h
   ·exact hm k h
   ·have:k=j:=by omega
    subst this
    exact hno
 have hi':i=ls.length:=by omega
 subst hi'
 have hK:=miss fun k hk=>hm k hk
 subst hK
 simp only [c7o,if_false]
 clear hm hit miss hi
 (repeat first|refine uA ?_|(refine uK ?_ ?_;focus first|omega|(intros;simp_all<;>omega))|simp (disch:=omega) only [go_sem,Nat.reduceBEq,Nat.reduceAdd,ww,c6F])
 refine S.loop (X:=Nat) (fun i=>⟨[(2,X9 ls),(3,wss us),(4,.bp 0 0),(5,.bp 1 0),(17,.rv 2),(18,.rv 3),(69,ams w.arms),(70,ints w.arms.length),(71,ints i)],[.box 30 w.enc,.box 63 s.enc,.row 4 1 ((R.take i).map fun r=>[.v (.bool (decide (r=0)))]),.row 3 1 ((R.take i).map fun r=>[ints r])]⟩)
  (fun i=>i<=w.arms.length) (fun i=>w.arms.length-i) 0 (c6K _) (Ent.trans (Ent.pack 17 4 1 rfl) (Ent.trans (Ent.pack 18 3 1 rfl) (by simp only [Wk.enc,Stt.enc,ams,wls,pts,sls,gts,a0K,frs,bls,vts,X9,cls,wss,rts,sb,ints,List.take_zero,c6Z];exact (by (repeat first|refine uA ?_|(refine ⟨?_,?_⟩;focus first|rfl|simp [slot])|rfl|simp))))) ?_
 intro i hi
 simp only [Wk.enc,Stt.enc,ams,wls,pts,sls,gts,a0K,frs,bls,vts,X9,cls,wss,rts,sb,ints]
 (repeat first|refine uA ?_|(refine uK ?_ ?_;focus first|omega|(intros;simp_all<;>omega))|simp (disch:=omega) only [go_sem,Nat.reduceBEq,Nat.reduceAdd,ww])
 (refine uJ rfl (fun hc=>?_) fun hc=>?_)
 ·have hi':i < w.arms.length:=by omega
  have hgl:=c6E (show i < ls.length by omega)
  have hgu:=c6E (show i < us.length by omega)
  have hgr:=c6E (show i < R.length by omega)
  generalize ls[i]'_=l at hgl
  generalize us[i]'_=u at hgu
  generalize R[i]'_=r at hgr
  have o1:=hj i l u r hgl hgu hgr
  have hil:(i:Int) < ls.length:=by omega
  have hiu:(i:Int) < us.length:=by omega
  have htl:(R.take i).length=i:=by rw [c6O];omega
  have hap:=take_at hgr
  clear hj
  (repeat first|refine uA ?_|(refine uK ?_ ?_;focus first|omega|(intros;simp_all<;>omega))|simp (disch:=omega) only [go_sem,Nat.reduceBEq,Nat.reduceAdd,ww,c6F,c6P,hgl,hgu,c6G,c6I,cls,rts,hil,hiu,htl]|(refine uD o1 ?_ ?_ ?_;exact tz hw;exact rfl))
  refine S.next (i+1) (by omega) (by omega) (by simp only [hap,c7t,c6V,c6Z];exact (by (repeat first|refine uA ?_|(refine ⟨?_,?_⟩;focus first|rfl|simp [slot])|rfl|simp)))
 ·have hi':i=w.arms.length:=by omega
  subst hi'
  rw [c7b (by omega)]
  (repeat first|refine uA ?_|(refine uK ?_ ?_;focus first|omega|(intros;simp_all<;>omega))|simp (disch:=omega) only [go_sem,Nat.reduceBEq,Nat.reduceAdd,ww])
  (refine S.done ?_;simp only [l9,p9,go_sem,Nat.reduceBEq,Nat.reduceAdd,Nat.reduceLeDiff,Int.reduceToNat,Int.reducePow];(repeat (refine ⟨?_,?_⟩;focus first|trivial|omega|simp));exact j4.out rfl (Imp.tup (by (repeat' (first|exact j5.nil|exact Imp.refl rfl|exact Imp.frz rfl rfl rfl|exact Imp.D8|refine Imp.agg ?_|refine j5.cons ?_ ?_)))) rfl)
theorem a8y {a:Nm.Rt} (h:l6 a=true):a.F5:=by
 rw [Z6,c6Q] at h
 exact of_decide_eq_true h.1
theorem b5L {q:Rat}:0 < z8 q <-> 0 < q:=by
 have h1:=@Rat.num_nonneg q
 have h2:=@Rat.num_eq_zero q
 unfold z8
 constructor
 ·intro h
  split at h
  ·omega
  ·split at h
   ·omega
   ·rename_i h3 h4
    have h5:0<=q:=h1.1 (by omega)
    have h6:q ≠ 0:=fun e=>h3 (h2.2 e)
    grind
 ·intro h
  have h5:0<=q.num:=h1.2 (by grind)
  have h6:q.num ≠ 0:=fun e=>by have:=h2.1 e;grind
  rw [if_neg h6,if_neg (by omega)];decide
theorem b4Z {q:Rat}:z8 q < 0 <-> q < 0:=by
 have h1:=@Rat.num_nonneg q
 have hn:q.num < 0 <-> q < 0:=by rw [<- Rat.not_le,<- h1];omega
 unfold z8
 constructor
 ·intro h
  split at h
  ·omega
  ·split at h
   ·exact hn.1 (by assumption)
   ·omega
 ·intro h
  have:=hn.2 h
  rw [if_neg (by omega),if_pos this];decide
theorem b7T (p q:Rat):G8 p q=if p < q then q else p:=by
 unfold G8
 by_cases h:p < q
 ·rw [if_pos h,if_neg]
  have:=(a1J p q).2 h
  omega
 ·rw [if_neg h,if_pos]
  have:¬ Nm.q9 p q < 0:=fun h2=>h ((a1J p q).1 h2)
  omega
theorem b8o (p q:Rat):G9 p q=if q < p then q else p:=by
 unfold G9
 by_cases h:q < p
 ·rw [if_pos h,if_neg]
  have:=(a1d p q).2 h
  omega
 ·rw [if_neg h,if_pos]
  have:¬ 0 < Nm.q9 p q:=fun h2=>h ((a1d p q).1 h2)
  omega
theorem c3b {l:Lk} (h:V3 l=0):a0P l=if 0 < z8 (Nm.d9 l.low) then l.low else if z8 (Nm.d9 l.high) < 0 then l.high else Nm.ofQ 0:=by
 have hlt:=(a1J _ _).1 (a4j h).2.1
 have hs:l6 l.low=true/\l6 l.high=true:=by
  unfold V3 at h
  split at h
  ·cases h
  ·rename_i h1
   have h2:(l6 l.length && l6 l.low && l6 l.high && l6 l.speed && l6 l.brake)=true:=by
    cases hb:(l6 l.length && l6 l.low && l6 l.high && l6 l.speed && l6 l.brake) with
    | true=>rfl
    | false=>exact absurd (.inl hb) h1
   simp only [c6Q] at h2
   exact ⟨h2.1.1.1.2,h2.1.1.2⟩
 have g1:=a8y hs.1
 have g2:=a8y hs.2
 unfold a0P
 rw [b7T,b8o]
 by_cases c1:0 < Nm.d9 l.low
 ·rw [if_pos (b5L.2 c1)]
  by_cases c2:0 < Nm.d9 l.high
  ·rw [if_pos c2,if_neg (by grind),Nm.a4B g1]
  ·rw [if_neg c2,if_neg (by grind),Nm.a4B g1]
 ·rw [if_neg (fun h=>c1 (b5L.1 h))]
  by_cases c2:Nm.d9 l.high < 0
  ·rw [if_pos (b4Z.2 c2),if_neg (show ¬ 0 < Nm.d9 l.high by grind),if_pos hlt,Nm.a4B g2]
  ·rw [if_neg (fun h=>c2 (b4Z.1 h))]
   congr 1
   by_cases c3:0 < Nm.d9 l.high
   ·rw [if_pos c3];split<;>grind
   ·rw [if_neg c3];split<;>grind
theorem b9D (w:Wk) (hwb:Wb 1073741824 w) (h:a0a w=0):FZ 47 [w.c] (O7 w).c:=by
 refine kW Tryz.func47 (by cbv) (by rfl) fun w' O hw=>?_
 have hao:=a8h h
 obtain ⟨n1,b1⟩:=hwb.arms
 have n3:=hwb.parts.1
 have n4:=hwb.slots.1
 have n5:=hwb.gates.1
 have hz:=a2k
 have hfz:=c2n
 have hpe:∀ i,a7f w i=if h:i < w.slots.length then (w.slots[i]).frame else a5m:=fun _=>rfl
 unfold O7
 generalize hfp:a7f w=fP at *
 obtain ⟨arms,walls,parts,slots,gates,walk⟩:=w
 simp only at n1 b1 n3 n4 n5 hpe hao ⊢
 simp only [j6,TT,II,OA,OB,MM,LL,VV,FF]
 simp only [Wk.c,Wk.enc,Stt.c,Stt.enc,ams,wls,pts,sls,gts,a0K,frs,vts,bls,sb,ints] at ⊢
 (repeat first|refine uA ?_|(refine uK ?_ ?_;focus first|omega|(intros;simp_all<;>omega))|simp (disch:=omega) only [go_sem,Nat.reduceBEq,Nat.reduceAdd,c6F,c6I])
 refine S.loop (X:=Nat) (fun i=>⟨[(1,.bp 0 0),(2,.bp 1 0),(3,.bp 3 0),(17,ams arms),(18,ints arms.length),(19,ints i)],[.box 30 [ams arms,wls walls,pts parts,sls slots,gts gates,.v (.bool walk.neg),sb walk.num,sb walk.den],.box 63 [.v (.int .i64 0),.v (.slice none 0 0),.v (.slice none 0 0),.v (.slice none 0 0),.v (.slice none 0 0)],.row 4 1 (List.replicate gates.length [.v (.bool false)]),.box 63 [.v (.int .i64 0),.rv 4,.rv 5,.v (.slice none 0 0),.rv 2],.row 149 4 (((arms.take i).map X4).map Ast.enc),.row 46 10 []]⟩) (fun i=>i<=arms.length) (fun i=>arms.length-i) 0 (c6K _)
  (Ent.trans (Ent.a6C 3 1 149 4 rfl rfl rfl) (Ent.trans (Ent.a6C 3 2 46 10 rfl rfl rfl) (by (repeat first|refine uA ?_|(refine ⟨?_,?_⟩;focus first|rfl|simp [slot])|rfl|simp)))) ?_
 intro i hi
 simp only [ams,wls,pts,sls,gts,vts,sb,ints]
 (repeat first|refine uA ?_|(refine uK ?_ ?_;focus first|omega|(intros;simp_all<;>omega))|simp (disch:=omega) only [go_sem,Nat.reduceBEq])
 (refine uJ rfl (fun hc=>?_) fun hc=>?_)
 ·have hi':i < arms.length:=by omega
  have hgi:=c6E hi'
  have hap:arms.take (i+1)=arms.take i++[arms[i]]:=c7w hi'
  have htl:(arms.take i).length=i:=by rw [c6O];omega
  generalize arms[i]=a at hgi hap
  obtain ⟨b0,_,nl,bl⟩:=b1 a (c6H hgi)
  have hlo:=(Z7 (hao a (c6H hgi))).2
  (repeat first|refine uA ?_|(refine uK ?_ ?_;focus first|omega|(intros;simp_all<;>omega))|simp (disch:=omega) only [go_sem,Nat.reduceBEq,Nat.reduceAdd,hgi,c6G,c6F,Am.enc,lks,sb])
  refine S.loop (X:=Nat) (fun k=>⟨[(1,.bp 0 0),(2,.bp 1 0),(3,.bp 3 0),(6,.bp 7 0),(17,ams arms),(18,ints arms.length),(19,ints i),(25,lks a.links),(26,ints a.links.length),(27,ints k)],[.box 30 [ams arms,wls walls,pts parts,sls slots,gts gates,.v (.bool walk.neg),sb walk.num,sb walk.den],.box 63 [.v (.int .i64 0),.v (.slice none 0 0),.v (.slice none 0 0),.v (.slice none 0 0),.v (.slice none 0 0)],.row 4 1 (List.replicate gates.length [.v (.bool false)]),.box 63 [.v (.int .i64 0),.rv 4,.rv 5,.v (.slice none 0 0),.rv 2],.row 149 4 (((arms.take i).map X4).map Ast.enc),.row 46 10 [],.gone,.box 149 [.rv 8,.rv 9,.v (.bool false),.v (.int .i64 (-1))],.row 28 3 (((a.links.take k).map a0P).map rcs),.row 28 3 (((a.links.take k).map fun _=>Nm.ofQ 0).map rcs)]⟩) (fun k=>k<=a.links.length) (fun k=>a.links.length-k) 0 (c6K _)
   (Ent.trans (Ent.a6C 7 0 28 3 rfl rfl rfl) (Ent.trans (Ent.a6C 7 1 28 3 rfl rfl rfl) (by (repeat first|refine uA ?_|(refine ⟨?_,?_⟩;focus first|rfl|simp [slot])|rfl|simp)))) ?_
  intro k hk
  simp only [ams,wls,pts,sls,gts,lks,vts,sb,ints]
  (repeat first|refine uA ?_|(refine uK ?_ ?_;focus first|omega|(intros;simp_all<;>omega))|simp (disch:=omega) only [go_sem,Nat.reduceBEq])
  (refine uJ rfl (fun hc=>?_) fun hc=>?_)
  ·have hk':k < a.links.length:=by omega
   have hgk:=c6E hk'
   have hak:a.links.take (k+1)=a.links.take k++[a.links[k]]:=c7w hk'
   have htk:(a.links.take k).length=k:=by rw [c6O];omega
   generalize a.links[k]=l at hgk hak
   obtain ⟨_,l2,l3,_⟩:=bl l (c6H hgk)
   have o1:=O9 l.low (l2.mono (by decide))
   have o2:=O9 l.high (l3.mono (by decide))
   have hq:=c3b (hlo l (c6H hgk))
   unfold rq at hz
   generalize z8 (Nm.d9 l.low)=s1 at *
   generalize z8 (Nm.d9 l.high)=s2 at *
   generalize hz0:Nm.ofQ 0=r0 at *
   simp only [rc,sb,ints] at o1 o2 hz
   (repeat first|refine uA ?_|(refine uK ?_ ?_;focus first|omega|(intros;simp_all<;>omega))|simp (disch:=omega) only [go_sem,Nat.reduceBEq,Nat.reduceAdd,hgk,c6G,c6F,Lk.enc,vts,sb]|(refine uD hz ?_ ?_ ?_;exact tz hw;exact rfl)|(refine uD o1 ?_ ?_ ?_;exact tz hw;exact rfl))
   refine S.join (Y:=Nm.Rt) (fun q=>⟨[(1,.bp 0 0),(2,.bp 1 0),(3,.bp 3 0),(6,.bp 7 0),(9,.bp 11 0),(17,ams arms),(18,ints arms.length),(19,ints i),(25,lks a.links),(26,ints a.links.length),(27,ints k)],[.box 30 [ams arms,wls walls,pts parts,sls slots,gts gates,.v (.bool walk.neg),sb walk.num,sb walk.den],.box 63 [.v (.int .i64 0),.v (.slice none 0 0),.v (.slice none 0 0),.v (.slice none 0 0),.v (.slice none 0 0)],.row 4 1 (List.replicate gates.length [.v (.bool false)]),.box 63 [.v (.int .i64 0),.rv 4,.rv 5,.v (.slice none 0 0),.rv 2],.row 149 4 (((arms.take i).map X4).map Ast.enc),.row 46 10 [],.gone,.box 149 [.rv 8,.rv 9,.v (.bool false),.v (.int .i64 (-1))],.row 28 3 (((a.links.take k).map a0P).map rcs),.row 28 3 (((a.links.take k).map fun _=>r0).map rcs),.gone,.box 28 (rcs q)]⟩) (fun q=>q=a0P l) ?_ ?_
   ·refine S.cond rfl (fun hc2=>?_) (fun hc2=>?_)
    ·rw [if_pos (by simpa using hc2)] at hq
     (repeat first|refine uA ?_|(refine uK ?_ ?_;focus first|omega|(intros;simp_all<;>omega))|simp (disch:=omega) only [go_sem,Nat.reduceBEq,Nat.reduceAdd])
     exact S.met l.low hq.symm (by simp only [ams,wls,pts,sls,gts,lks,vts,rcs,sb];exact (by (repeat first|refine uA ?_|(refine ⟨?_,?_⟩;focus first|rfl|simp [slot])|rfl|simp)))
    rw [if_neg (by simpa using hc2)] at hq
    (repeat first|refine uA ?_|(refine uK ?_ ?_;focus first|omega|(intros;simp_all<;>omega))|simp (disch:=omega) only [go_sem,Nat.reduceBEq,Nat.reduceAdd]|(refine uD o2 ?_ ?_ ?_;exact tz hw;exact rfl))
    refine S.cond rfl (fun hc3=>?_) (fun hc3=>?_)
    ·rw [if_pos (by simpa using hc3)] at hq
     (repeat first|refine uA ?_|(refine uK ?_ ?_;focus first|omega|(intros;simp_all<;>omega))|simp (disch:=omega) only [go_sem,Nat.reduceBEq,Nat.reduceAdd])
     exact S.met l.high hq.symm (by simp only [ams,wls,pts,sls,gts,lks,vts,rcs,sb];exact (by (repeat first|refine uA ?_|(refine ⟨?_,?_⟩;focus first|rfl|simp [slot])|rfl|simp)))
    ·rw [if_neg (by simpa using hc3)] at hq
     (repeat first|refine uA ?_|(refine uK ?_ ?_;focus first|omega|(intros;simp_all<;>omega))|simp (disch:=omega) only [go_sem,Nat.reduceBEq,Nat.reduceAdd,ww])
     exact S.met r0 hq.symm (by simp only [ams,wls,pts,sls,gts,lks,vts,rcs,sb];exact (by (repeat first|refine uA ?_|(refine ⟨?_,?_⟩;focus first|rfl|simp [slot])|rfl|simp)))
   rintro q rfl
   clear hq
   simp only [ams,wls,pts,sls,gts,lks,vts,rcs,sb,ints]
   (repeat first|refine uI ?_|(refine uK ?_ ?_;focus first|omega|(intros;simp_all<;>omega))|simp (disch:=omega) only [go_sem,Nat.reduceBEq,Nat.reduceAdd,ww])
   refine S.D6 [.gone,.gone,.gone,.gone,.gone,.gone,.gone,.box 149 [.junk,.rv 9,.v (.bool false),.v (.int .i64 (-1))]] (by simp [Eng.F6,Eng.leC]) ?_
   (repeat first|refine uA ?_|(refine uK ?_ ?_;focus first|omega|(intros;simp_all<;>omega))|simp (disch:=omega) only [go_sem,Nat.reduceBEq,Nat.reduceAdd,ww,KMd,c6F,htk]|(refine uD hz ?_ ?_ ?_;exact tz hw;exact rfl))
   refine S.next (k+1) (by omega) (by omega) (by simp only [hak,c7t,c6V,c6Z,rcs,sb];exact (by (repeat first|refine uA ?_|(refine ⟨?_,?_⟩;focus first|rfl|simp [slot])|rfl|simp)))
  ·have hk':k=a.links.length:=by omega
   subst hk'
   rw [c6X]
   refine S.exit rfl ?_
   refine S.weaken (st':=⟨[(1,.bp 0 0),(2,.bp 1 0),(3,.bp 3 0),(6,.bp 7 0),(17,ams arms),(18,ints arms.length),(19,ints i)],[.box 30 [ams arms,wls walls,pts parts,sls slots,gts gates,.v (.bool walk.neg),sb walk.num,sb walk.den],.box 63 [.v (.int .i64 0),.v (.slice none 0 0),.v (.slice none 0 0),.v (.slice none 0 0),.v (.slice none 0 0)],.row 4 1 (List.replicate gates.length [.v (.bool false)]),.box 63 [.v (.int .i64 0),.rv 4,.rv 5,.v (.slice none 0 0),.rv 2],.row 149 4 (((arms.take i).map X4).map Ast.enc),.row 46 10 [],.gone,.box 149 (X4 a).enc]⟩) (Ent.mk _ _ (by (repeat first|refine uA ?_|(refine ⟨?_,?_⟩;focus first|rfl|simp [slot])|rfl|simp)) (by (repeat' (first|exact E5.nil|exact RI.gone _|exact RI.row _ _ _ _ rfl|exact RI.map _ _ _ rfl|exact RI.box _ _ _ (j5.refl rfl)|(refine RI.box _ _ _ ?_;(repeat' (first|exact j5.nil|exact Imp.refl rfl|exact Imp.frz rfl rfl rfl|exact Imp.D8|refine j5.cons ?_ ?_)))|refine E5.cons ?_ ?_))) (c6K _)) ?_
   simp only [ams,wls,pts,sls,gts,vts,sb,ints,Ast.enc,rts]
   (repeat first|refine uA ?_|(refine uK ?_ ?_;focus first|omega|(intros;simp_all<;>omega))|simp (disch:=omega) only [go_sem,Nat.reduceBEq,Nat.reduceAdd,ww,c6F,htl])
   refine S.next (i+1) (by omega) (by omega) (by simp only [hap,c7t,c6V,c6Z,Ast.enc,rts,ints];exact (by (repeat first|refine uA ?_|(refine ⟨?_,?_⟩;focus first|rfl|simp [slot])|rfl|simp)))
 ·have hi':i=arms.length:=by omega
  subst hi'
  rw [c6X]
  (repeat first|refine uA ?_|(refine uK ?_ ?_;focus first|omega|(intros;simp_all<;>omega))|simp (disch:=omega) only [go_sem,Nat.reduceBEq,Nat.reduceAdd,c6F])
  refine S.loop (X:=Nat) (fun i=>⟨[(1,.bp 0 0),(2,.bp 1 0),(3,.bp 3 0),(66,ints parts.length),(67,ints i)],[.box 30 [ams arms,wls walls,pts parts,sls slots,gts gates,.v (.bool walk.neg),sb walk.num,sb walk.den],.box 63 [.v (.int .i64 0),.v (.slice none 0 0),.v (.slice none 0 0),.v (.slice none 0 0),.v (.slice none 0 0)],.row 4 1 (List.replicate gates.length [.v (.bool false)]),.box 63 [.v (.int .i64 0),.rv 4,.rv 5,.v (.slice none 0 0),.rv 2],.row 149 4 ((arms.map X4).map Ast.enc),.row 46 10 (((List.range i).map fP).map Fr.enc)]⟩) (fun i=>i<=parts.length) (fun i=>parts.length-i) 0 (c6K _) (by (repeat first|refine uA ?_|(refine ⟨?_,?_⟩;focus first|rfl|simp [slot])|rfl|simp)) ?_
  intro i hi
  simp only [ams,wls,pts,sls,gts,vts,sb,ints]
  (repeat first|refine uA ?_|(refine uK ?_ ?_;focus first|omega|(intros;simp_all<;>omega))|simp (disch:=omega) only [go_sem,Nat.reduceBEq])
  (refine uJ rfl (fun hc=>?_) fun hc=>?_)
  ·have hrl:((List.range i).map fP).length=i:=by simp
   simp only [a5m,Fr.c,Fr.enc,sb] at hfz
   (repeat first|refine uA ?_|(refine uK ?_ ?_;focus first|omega|(intros;simp_all<;>omega))|simp (disch:=omega) only [go_sem,Nat.reduceBEq,Nat.reduceAdd,c6F])
   refine S.cond rfl (fun hc=>?_) (fun hc=>?_)
   ·have hsi:i < slots.length:=by simp at hc;omega
    have hgs:=c6E hsi
    have hf:fP i=(slots[i]).frame:=by rw [hpe i,dif_pos hsi]
    generalize slots[i]=s at hgs hf
    (repeat first|refine uA ?_|(refine uK ?_ ?_;focus first|omega|(intros;simp_all<;>omega))|simp (disch:=omega) only [go_sem,Nat.reduceBEq,Nat.reduceAdd,ww,hgs,c6G,c6F,Sl.enc,sb,c6I,hrl])
    refine S.next (i+1) (by omega) (by omega) (by simp only [List.range_succ,c7t,c6V,c6Z,hf,Fr.enc,sb];exact (by (repeat first|refine uA ?_|(refine ⟨?_,?_⟩;focus first|rfl|simp [slot])|rfl|simp)))
   ·have hf:fP i=a5m:=by rw [hpe i,dif_neg (by simp at hc;omega)]
    (repeat first|refine uA ?_|(refine uK ?_ ?_;focus first|omega|(intros;simp_all<;>omega))|simp (disch:=omega) only [go_sem,Nat.reduceBEq,Nat.reduceAdd,ww,c6F,hrl]|(refine uD hfz ?_ ?_ ?_;exact tz hw;exact rfl))
    refine S.next (i+1) (by omega) (by omega) (by simp only [List.range_succ,c7t,c6V,c6Z,hf,a5m,Fr.enc,sb];exact (by (repeat first|refine uA ?_|(refine ⟨?_,?_⟩;focus first|rfl|simp [slot])|rfl|simp)))
  ·have hi':i=parts.length:=by omega
   subst hi'
   simp only [List.map_replicate]
   (repeat first|refine uA ?_|(refine uK ?_ ?_;focus first|omega|(intros;simp_all<;>omega))|simp (disch:=omega) only [go_sem,Nat.reduceBEq,Nat.reduceAdd])
   (refine S.done ?_;simp only [l9,p9,go_sem,Nat.reduceBEq,Nat.reduceAdd,Nat.reduceLeDiff];(repeat (refine ⟨?_,?_⟩;focus first|trivial|omega|simp));exact j4.out rfl (Imp.agg (by (repeat' (first|exact j5.nil|exact Imp.refl rfl|exact Imp.frz rfl rfl rfl|exact Imp.D8|refine j5.cons ?_ ?_)))) rfl)
def M7:Wk:=⟨[a3g [] 0],[],[],[],[],Q 0 8⟩
theorem a5r:a0a M7=0:=by decide +kernel
theorem a9b:Wb 1048576 M7:=by
 have ha:=a8h a5r
 refine ⟨⟨by decide,fun x hx=>(Z7 (ha x hx)).1⟩,⟨by decide,fun x hx=>by cases hx⟩,⟨by decide,fun x hx=>by cases hx⟩,⟨by decide,fun x hx=>by cases hx⟩,⟨by decide,fun x hx=>by cases hx⟩,⟨by decide +kernel,by decide +kernel⟩⟩
theorem S.b2p {E:Ctx} {Q:Exit->Act->World->Prop} {st:St} {k:List It} {body:IC} (h:∀ J,S E Q st (.code body::.inv J::k)):S E Q st (.code (.loop body)::k):=
 S.loop (X:=Unit) (fun _=>st) (fun _=>True) (fun _=>0) () trivial (fun _ ν _ _ h=>⟨ν,h⟩) fun _ _=>h _
theorem c1i:y9 Tryz.prog 46 [V8 []] M7.c:=by
 refine kS a8p a8n (by rfl) fun w O=>?_
 have k2:=fun (E:Ctx) (hP:E.P=Tryz.prog)=>a1c hP [] 2 (by decide)
 have k3:=fun (E:Ctx) (hP:E.P=Tryz.prog)=>a1c hP [] 3 (by decide)
 have k4:=fun (E:Ctx) (hP:E.P=Tryz.prog)=>a1c hP [] 4 (by decide)
 have ha:∀ i:Nat,i=0->∀ E:Ctx,E.P=Tryz.prog->l8 E [.box 142 [V8 []]] 80 [.bp 0 0,.v (.int .i64 (i:Int))] (a3g [] 0).c [.box 142 [V8 (a8W [])]] []:=fun i h E hP=>by subst h;exact c5j hP [] 0 (by decide)
 have o1:=a2I 0 8 (by decide) (by decide)
 have e1:a8W []=[]:=by unfold a8W;exact List.drop_nil
 rw [e1] at ha
 simp only [List.drop_nil,show nx [] 2=0 from rfl,show nx [] 3=0 from rfl,show nx [] 4=0 from rfl,V8,c6Z,ints] at k2 k3 k4 ha o1
 unfold M7
 generalize a3g [] 0=A at *
 generalize Q 0 8=q at *
 simp only [Am.c,Am.enc,lks,rc,sb] at ha o1
 simp only [a4d,j6,TT,II,OA,OB,OC,MM,LL,VV,FF,MG,LG,VG,FG]
 simp only [V8,c6Z]
 (repeat first|refine uA ?_|(refine uK ?_ ?_;focus first|omega|(intros;simp_all<;>omega))|simp (disch:=omega) only [go_sem,Nat.reduceBEq,Nat.reduceAdd,ww]|refine p8.t (l8.lift (k:=1) rfl (k2 _ rfl) rfl rfl rfl) ?_)
 refine S.loop (X:=Nat) (fun i=>⟨[(2,.bp 0 0),(3,.bp 1 0),(4,.bp 2 0),(17,ints 1),(18,ints i)],[.box 30 [.v (.slice none 0 0),.v (.slice none 0 0),.v (.slice none 0 0),.v (.slice none 0 0),.v (.slice none 0 0),.v (.bool false),.v (.string ⟨#[]⟩),.v (.string ⟨#[]⟩)],.box 142 [.sl 1 []],.box 30 [.rv 3,.v (.slice none 0 0),.v (.slice none 0 0),.v (.slice none 0 0),.v (.slice none 0 0),.v (.bool false),.v (.string ⟨#[]⟩),.v (.string ⟨#[]⟩)],.row 49 12 ((List.replicate i A).map Am.enc)]⟩) (fun i=>i<=1) (fun i=>1-i) 0 (by decide) (Ent.trans (Ent.a6C 2 0 49 12 rfl rfl rfl) (by (repeat first|refine uA ?_|(refine ⟨?_,?_⟩;focus first|rfl|simp [slot])|rfl|simp))) ?_
 intro i hi
 simp only [ints]
 (repeat first|refine uA ?_|(refine uK ?_ ?_;focus first|omega|(intros;simp_all<;>omega))|simp (disch:=omega) only [go_sem,Nat.reduceBEq,Nat.reduceAdd,ww])
 (refine uJ rfl (fun hc=>?_) fun hc=>?_)
 ·have hi':i=0:=by omega
  have ha:=ha i hi'
  (repeat first|refine uI ?_|(refine uK ?_ ?_;focus first|omega|(intros;simp_all<;>omega))|simp (disch:=omega) only [go_sem,Nat.reduceBEq,Nat.reduceAdd,ww])
  refine S.D6 [.gone,.gone,.box 30 [.rv 3,.v (.slice none 0 0),.v (.slice none 0 0),.v (.slice none 0 0),.v (.slice none 0 0),.v (.bool false),.v (.string ⟨#[]⟩),.v (.string ⟨#[]⟩)]] (by simp [Eng.F6,Eng.H6]) ?_
  (repeat first|refine uA ?_|(refine uK ?_ ?_;focus first|omega|(intros;simp_all<;>omega))|simp (disch:=omega) only [go_sem,Nat.reduceBEq,Nat.reduceAdd,ww,c6F,List.length_replicate,F6]|refine p8.t (l8.lift (k:=1) rfl (ha _ rfl) rfl rfl rfl) ?_)
  refine S.next (i+1) (by omega) (by omega) (by simp only [List.replicate_succ',c7t,c6V,c6Z,Am.enc,lks,sb,ints];exact (by (repeat first|refine uA ?_|(refine ⟨?_,?_⟩;focus first|rfl|simp [slot])|rfl|simp)))
 have hi':i=1:=by omega
 subst hi'
 (repeat first|refine uA ?_|(refine uK ?_ ?_;focus first|omega|(intros;simp_all<;>omega))|simp (disch:=omega) only [go_sem,Nat.reduceBEq,Nat.reduceAdd,ww]|refine p8.t (l8.lift (k:=1) rfl (k3 _ rfl) rfl rfl rfl) ?_)
 refine S.b2p fun J=>?_
 (repeat first|refine uA ?_|(refine uK ?_ ?_;focus first|omega|(intros;simp_all<;>omega))|simp (disch:=omega) only [go_sem,Nat.reduceBEq,Nat.reduceAdd,ww])
 refine S.cond rfl (fun hc=>by simp at hc) (fun hc=>?_)
 (repeat first|refine uA ?_|(refine uK ?_ ?_;focus first|omega|(intros;simp_all<;>omega))|simp (disch:=omega) only [go_sem,Nat.reduceBEq,Nat.reduceAdd,ww]|refine p8.t (l8.lift (k:=1) rfl (k3 _ rfl) rfl rfl rfl) ?_)
 refine S.b2p fun J=>?_
 (repeat first|refine uA ?_|(refine uK ?_ ?_;focus first|omega|(intros;simp_all<;>omega))|simp (disch:=omega) only [go_sem,Nat.reduceBEq,Nat.reduceAdd,ww])
 refine S.cond rfl (fun hc=>by simp at hc) (fun hc=>?_)
 (repeat first|refine uI ?_|(refine uK ?_ ?_;focus first|omega|(intros;simp_all<;>omega))|simp (disch:=omega) only [go_sem,Nat.reduceBEq,Nat.reduceAdd,ww])
 refine S.D6 [.gone,.gone,.box 30 [.rv 3,.v (.slice none 0 0),.v (.slice none 0 0),.v (.slice none 0 0),.v (.slice none 0 0),.v (.bool false),.v (.string ⟨#[]⟩),.v (.string ⟨#[]⟩)]] (by simp [Eng.F6,Eng.H6]) ?_
 (repeat first|refine uA ?_|(refine uK ?_ ?_;focus first|omega|(intros;simp_all<;>omega))|simp (disch:=omega) only [go_sem,Nat.reduceBEq,Nat.reduceAdd,ww]|refine p8.t (l8.lift (k:=1) rfl (k2 _ rfl) rfl rfl rfl) ?_)
 refine S.b2p fun J=>?_
 (repeat first|refine uA ?_|(refine uK ?_ ?_;focus first|omega|(intros;simp_all<;>omega))|simp (disch:=omega) only [go_sem,Nat.reduceBEq,Nat.reduceAdd,ww])
 refine S.cond rfl (fun hc=>by simp at hc) (fun hc=>?_)
 (repeat first|refine uA ?_|(refine uK ?_ ?_;focus first|omega|(intros;simp_all<;>omega))|simp (disch:=omega) only [go_sem,Nat.reduceBEq,Nat.reduceAdd,ww]|refine p8.t (l8.lift (k:=1) rfl (k2 _ rfl) rfl rfl rfl) ?_)
 refine S.b2p fun J=>?_
 (repeat first|refine uA ?_|(refine uK ?_ ?_;focus first|omega|(intros;simp_all<;>omega))|simp (disch:=omega) only [go_sem,Nat.reduceBEq,Nat.reduceAdd,ww])
 refine S.cond rfl (fun hc=>by simp at hc) (fun hc=>?_)
 (repeat first|refine uA ?_|(refine uK ?_ ?_;focus first|omega|(intros;simp_all<;>omega))|simp (disch:=omega) only [go_sem,Nat.reduceBEq,Nat.reduceAdd,ww]|refine p8.t (l8.lift (k:=1) rfl (k4 _ rfl) rfl rfl rfl) ?_|(refine uB o1 ?_ ?_;exact rfl))
 simp only [Wk.c,Wk.enc,ams,wls,pts,sls,gts,sb,List.replicate_succ,List.replicate_zero,c6V,c6Z,Am.enc,lks]
 (refine S.done ?_;simp only [l9,p9,go_sem,Nat.reduceBEq,Nat.reduceAdd,Nat.reduceLeDiff,Int.reduceToNat,Int.reducePow];(repeat (refine ⟨?_,?_⟩;focus first|trivial|omega|simp));exact j4.out rfl (Imp.agg (by (repeat' (first|exact j5.nil|exact Imp.refl rfl|exact Imp.frz rfl rfl rfl|exact Imp.D8|refine j5.cons ?_ ?_)))) rfl)
theorem c0F:y9 Tryz.prog 46 [.v (.slice none 0 0)] M7.c:=by
 have h:=c1i
 intro O w vs hO hA
 refine h O w vs hO ?_
 simp only [FzL,Fz] at hA
 obtain ⟨y,ys,rfl,rfl,rfl⟩:=hA
 exact ⟨_,_,rfl,c4i,rfl⟩
theorem b9f:(∀ a ∈ M7.arms,F4 a=0)/\∀ s ∈ M7.slots,okF s.frame=true:=⟨a8h a5r,fun s hs=>by cases hs⟩
theorem c2J:FZ 13 [] (.tup [M7.c,(O7 M7).c]):=by
 refine kW Tryz.func13 (by cbv) (by rfl) fun w' O hw=>?_
 have h1:=c0F
 have h2:=b9D M7 (a9b.mono (by decide)) a5r
 generalize O7 M7=s at *
 generalize M7=w at *
 obtain ⟨arms,walls,parts,slots,gates,walk⟩:=w
 obtain ⟨tick,sarms,sparts,people,sgates⟩:=s
 simp only [j6]
 simp only [Wk.c,Wk.enc,Stt.c,Stt.enc,ams,wls,pts,sls,gts,a0K,frs,vts,bls,sb,ints,V8,c6Z] at h1 h2 ⊢
 (repeat first|refine uA ?_|(refine uK ?_ ?_;focus first|omega|(intros;simp_all<;>omega))|simp (disch:=omega) only [go_sem,Nat.reduceBEq,Nat.reduceAdd,ww]|(refine uB h1 ?_ ?_;exact rfl)|(refine uD h2 ?_ ?_ ?_;exact tz hw;exact rfl))
 (refine S.done ?_;simp only [l9,p9,go_sem,Nat.reduceBEq,Nat.reduceAdd,Nat.reduceLeDiff,Int.reduceToNat,Int.reducePow];(repeat (refine ⟨?_,?_⟩;focus first|trivial|omega|simp));exact j4.out rfl (Imp.tup (by (repeat' (first|exact j5.nil|exact Imp.refl rfl|exact Imp.frz rfl rfl rfl|exact Imp.D8|refine Imp.agg ?_|refine j5.cons ?_ ?_)))) rfl)
theorem b7U {E:Ctx} {N:Nat} (wf:Wf E) (hN:E.N=N) {ops:Array Oper} {Q:Exit->Act->World->Prop} {K:St->Prop} (hK:∀ st' ν' a' w',K st'->Eng.Good E ν' st' a' w'->Q .normal a' w') :
  ∀ (i1:List E8) (l:List Oper) (i2:List E8) (st:St) (ν:List Value) (a:Act) (w:World),V7 E.P N ops l=some (i1++i2)->ev E i1 st (fun s1=>∃ s2,Ent E s1 s2/\ev E i2 s2 K)->Eng.Good E ν st a w->wpList E.P ops Q l a w
 | [],l,i2,st,ν,a,w,hc,h,hG=>by
  obtain ⟨s2,he,h⟩:=h
  obtain ⟨ν',hG'⟩:=he wf ν a w hG
  exact a9j hN hK l _ s2 ν' a w hc h hG'
 | i::r,[],i2,st,ν,a,w,hc,h,hG=>by simp [V7] at hc
 | i::r,o::l,i2,st,ν,a,w,hc,h,hG=>by
  rw [List.cons_append] at hc
  simp only [V7] at hc
  split at hc
  ·rename_i io ir hio hir
   injection hc with hc
   injection hc with hc1 hc2
   subst hc1 hc2
   obtain ⟨hd,his,hdst,hg⟩:=Y7 hio
   rw [<- hN] at hd
   have next:∀ st' ν' a' w',(ev E r st' fun s1=>∃ s2,Ent E s1 s2/\ev E i2 s2 K)->Eng.Good E ν' st' a' w'->wpList E.P ops Q l a' w':=fun st' ν' a' w' h' hG'=>b7U wf hN hK r l i2 st' ν' a' w' hir h' hG'
   simp only [ev,ev1,hdst] at h
   rcases hg with ⟨hg1,hg2⟩|⟨j,s,want,hg1,hg2,hs⟩
   ·rw [hg2] at h
    simp only at h
    unfold wpList
    rw [if_pos (by simp [Region.wanted,hg1])]
    exact .inl (b1O his hd h hG next)
   ·rw [hg2] at h
    simp only at h
    obtain ⟨gv1,gv2⟩:=a4m hs (hG.fr s)
    have fin:∀ p:Bool,(yielded ops a.tmps j == some want)=p->evG E st p o.dst io.op (fun st'=>ev E r st' fun s1=>∃ s2,Ent E s1 s2/\ev E i2 s2 K)->wpList E.P ops Q (o::l) a w:=by
     intro p hp h'
     have:=b1I his hd h' hG next (Q:=Q)
     unfold wpList
     rw [a4l hg1,hp]
     cases p with
     | true=>exact .inl (by simpa using this)
     | false=>simpa using this
    split at h
    ·rename_i b hb
     exact fin _ (by rw [gv1 b hb];rfl) h
    ·rename_i q b hb
     refine fin _ ?_ h
     cases hq:q with
     | true=>rw [(gv2 q b hb).1 hq];rfl
     | false=>rw [(gv2 q b hb).2 hq];rfl
    ·exact h.elim
  ·cases hc
theorem S.c6i {E:Ctx} {Q:Exit->Act->World->Prop} {st:St} {k:List It} {x y:List E8} (h:ev E x st fun s1=>∃ s2,Ent E s1 s2/\ev E y s2 fun st'=>S E Q st' k):S E Q st (.code (.reg (x++y))::k):=by
 intro wf ν a w hG code hc
 obtain ⟨id,cops,rfl,hl⟩:=a0A hc
 exact wp_region_list (b7U wf rfl (fun st' ν' a' w' hk hG'=>hk wf ν' a' w' hG') _ cops.toList _ st ν a w hl h hG)
theorem c4Q:FZ 15 [] (.sl 1 [[.v (.slice none 0 0)]]):=by
 refine kW Tryz.func15 (by cbv) (by rfl) fun w' O hw=>?_
 simp only [j6]
 (repeat first|refine uA ?_|(refine uK ?_ ?_;focus first|omega|(intros;simp_all<;>omega))|simp (disch:=omega) only [go_sem,Nat.reduceBEq,Nat.reduceAdd,ww])
 exact S.done (j4.out rfl (Imp.frz rfl rfl rfl) rfl)
theorem c3E:FZ 16 [] (wss [[Q 0 1]]):=by
 refine kW Tryz.func16 (by cbv) (by rfl) fun w' O hw=>?_
 have h2:=a2I 0 1 (by decide) (by decide)
 generalize Q 0 1=q at *
 simp only [j6]
 simp only [wss,rts,rcs,rc,sb,ints,c6V,c6Z] at h2 ⊢
 refine S.seq (S.reg ?_)
 simp only [go_sem]
 refine S.seq ?_
 refine S.c6i (x:=[_,_]) (y:=[_,_]) ?_
 (repeat first|refine uA ?_|(refine uK ?_ ?_;focus first|omega|(intros;simp_all<;>omega))|simp (disch:=omega) only [go_sem,Nat.reduceBEq,Nat.reduceAdd,ww]|(refine uB h2 ?_ ?_;exact rfl))
 refine ⟨⟨[(2,.sl 3 [[.v (.bool q.neg),.v (.string (bs q.num)),.v (.string (bs q.den))]])],[.gone]⟩,Ent.mk _ _ (Q6.cons (Imp.frz rfl rfl rfl) Q6.nil) (E5.cons (RI.gone _) E5.nil) (c6K _),?_⟩
 (repeat first|refine uA ?_|(refine uK ?_ ?_;focus first|omega|(intros;simp_all<;>omega))|simp (disch:=omega) only [go_sem,Nat.reduceBEq,Nat.reduceAdd,ww])
 exact S.done (j4.out rfl (Imp.frz rfl rfl rfl) rfl)
theorem c2F {w:World} {O:Nat->Prop} {y:Value} (h:Fz w O (.sl 1 [[.v (.slice none 0 0)]]) y):Fz w O (.sl 1 [[.sl 2 []]]) y:=by
 simp only [Fz] at h ⊢
 obtain ⟨A,c,h1,h2,h3,h4⟩:=h
 refine ⟨A,c,h1,h2,h3,fun h0=>?_⟩
 obtain ⟨ad,e1,e2,e3,e4⟩:=h4 h0
 refine ⟨ad,e1,e2,e3,?_⟩
 obtain ⟨_,⟨⟨y,g1,g2,g3⟩,_⟩,_⟩:=e4
 obtain rfl:y=.slice none 0 0:=by simpa only [Fz] using g3
 simp only [FzE,FzA,Fz]
 exact ⟨rfl,⟨⟨_,g1,g2,none,0,rfl,c6N _,c6K _,fun h=>absurd h (by simp)⟩,trivial⟩,trivial⟩
theorem FZ.c6f {f:Nat} {a b d r:C} (h:FZ f [a,b,.sl 1 [[.sl 2 []]],d] r):FZ f [a,b,.sl 1 [[.v (.slice none 0 0)]],d] r:=by
 intro O w' vs hw hO hA
 refine h O w' vs hw hO ?_
 simp only [FzL] at hA ⊢
 obtain ⟨y1,r1,rfl,f1,y2,r2,rfl,f2,y3,r3,rfl,f3,y4,r4,rfl,f4,rfl⟩:=hA
 exact ⟨_,_,rfl,f1,_,_,rfl,f2,_,_,rfl,c2F f3,_,_,rfl,f4,rfl⟩
theorem a7L:M7.arms[0]?=some (a3g [] 0)/\(O7 M7).arms[0]?=some (X4 (a3g [] 0)):=⟨rfl,rfl⟩
theorem b4R:∀ r ∈ (X4 (a3g [] 0)).q,(decide (r.num.length<=4096) && decide (r.den.length<=4096))=true:=by decide +kernel
theorem b8X:∀ l ∈ (a3g [] 0).links,(decide (u7 (Nm.d9 l.brake) (Nm.d9 (Q 0 1))<=2000) && decide (0 < z8 (Nm.d9 l.brake)) && decide (l.brake.num.length<=3) && decide (l.brake.den.length<=3))=true:=by decide +kernel
theorem b7K:(a3g [] 0).links.length=1:=by decide +kernel
theorem b6m:Rb 4096 (Q 0 1):=⟨by decide +kernel,by decide +kernel⟩
theorem b4G:FZ 51 [M7.c,(O7 M7).c,ints (0:Nat),cls [],rts [Q 0 1]] (ints 3):=by
 have ha:=b9f.1 (a3g [] 0) (c6H a7L.1)
 have h1:=b7K
 refine c1n M7 (O7 M7) 0 (a3g [] 0) (X4 (a3g [] 0)) [] [Q 0 1] a9b a7L.1 a7L.2 ha rfl (by unfold X4;simp) (by rw [h1];rfl) (fun r hr=>?_) (fun r hr=>?_) (fun i l y hl hy=>?_) (c6K _) (by decide +kernel) (by decide +kernel) (by decide +kernel)
 ·have:=b4R r hr
  simp only [c6Q,c6S] at this
  exact this
 ·rw [List.mem_singleton.1 hr]
  exact b6m
 ·have:=b8X l (c6H hl)
  simp only [c6Q,c6S] at this
  have hy':=List.mem_singleton.1 (c6H hy)
  subst hy'
  exact ⟨⟨⟨this.1.2,this.2⟩,b6m.mono (by decide),this.1.1.2⟩,this.1.1.1⟩
theorem b2U:FZ 4 [] (.v (.bool true)):=by
 refine kW Tryz.func4 (by cbv) (by rfl) fun w' O hw=>?_
 obtain ⟨ha,hs⟩:=b9f
 have hb:Wb 1073741824 M7:=a9b.mono (by decide)
 have hf:=b7V hb ha hs
 have h0:=c0x a5r ha hs
 have hn:M7.arms.length=1:=rfl
 have h1:=c2J
 have h2:=c4Q
 have h3:=c3E
 have h4:=c2E M7 (O7 M7) [[]] [[Q 0 1]] [3] hb hf h0 hn.symm hn.symm hn.symm (by rw [hn];decide) (fun l hl=>by rw [List.mem_singleton.1 hl];exact ⟨c6K _,fun c hc=>absurd hc List.not_mem_nil,List.Pairwise.nil⟩) (fun n l u r g1 g2 g3=>by
  cases n with
  | zero=>
   injection g1 with g1
   injection g2 with g2
   injection g3 with g3
   subst g1 g2 g3
   exact b4G
  | succ n=>simp at g1)
 rw [show a3S [[]]=false by decide] at h4
 simp only [c7o,if_false] at h4
 have h5:=c0N [false] [false] (by decide) (by decide)
 rw [decide_eq_true rfl] at h5
 have h6:=b8g [3] (by decide)
 clear hf h0 hn hb ha hs
 generalize O7 M7=s at *
 generalize M7=w at *
 generalize Q 0 1=q at *
 obtain ⟨arms,walls,parts,slots,gates,walk⟩:=w
 obtain ⟨tick,sarms,sparts,people,sgates⟩:=s
 simp only [j6]
 simp only [Wk.c,Wk.enc,Stt.c,Stt.enc,ams,wls,pts,sls,gts,a0K,frs,vts,bls,X9,cls,wss,rts,rcs,rc,V8,powC,sb,ints,c6V,c6Z,Int.reduceEq,decide_false,decide_true] at h1 h2 h3 h4 h5 h6 ⊢
 have h4:=FZ.c6f h4
 (repeat first|refine uI ?_|(refine uK ?_ ?_;focus first|omega|(intros;simp_all<;>omega))|simp (disch:=omega) only [go_sem,Nat.reduceBEq,Nat.reduceAdd,ww]|(refine uD h1 ?_ ?_ ?_;exact tz hw;exact rfl))
 refine S.D6 [.box 30 [.sl 12 (arms.map Am.enc),.sl 1 (walls.map fun s=>[.sl 6 (s.map Vt.enc)]),.sl 12 (parts.map Pt.enc),.sl 14 (slots.map Sl.enc),.sl 13 (gates.map Gt.enc),.v (.bool walk.neg),.v (.string (bs walk.num)),.v (.string (bs walk.den))],.box 63 [.v (.int .i64 tick),.sl 4 (sarms.map Ast.enc),.sl 10 (sparts.map Fr.enc),.sl 6 (people.map Vt.enc),.sl 1 (sgates.map fun b=>[.v (.bool b)])]] (by simp [Eng.F6,Eng.H6]) ?_
 (repeat first|refine uA ?_|(refine uK ?_ ?_;focus first|omega|(intros;simp_all<;>omega))|simp (disch:=omega) only [go_sem,Nat.reduceBEq,Nat.reduceAdd,ww,F6,Eng.H6,decide_true,decide_false]|(refine uD h2 ?_ ?_ ?_;exact tz hw;exact rfl)|(refine uD h3 ?_ ?_ ?_;exact tz hw;exact rfl)|(refine uD h4 ?_ ?_ ?_;exact tz hw;exact rfl)|(refine uC h5 ?_ ?_ ?_;exact rfl;focus (repeat' first|exact j5.nil|exact Imp.refl rfl|exact Imp.frz rfl rfl rfl|(refine Imp.M8 rfl rfl ?_ ?_;(focus ((try simp only [c6M,F6,Eng.H6,decide_true,decide_false]);omega));(focus first|rfl|assumption))|refine j5.cons ?_ ?_);done)|(refine uC h6 ?_ ?_ ?_;exact rfl;focus (repeat' first|exact j5.nil|exact Imp.refl rfl|exact Imp.frz rfl rfl rfl|(refine Imp.M8 rfl rfl ?_ ?_;(focus ((try simp only [c6M,F6,Eng.H6,decide_true,decide_false]);omega));(focus first|rfl|assumption))|refine j5.cons ?_ ?_);done))
 exact S.done (j4.out rfl (Imp.refl rfl) rfl)
set_option maxHeartbeats 4000000
theorem b1D {B V:Rat} (hB:0 < B) {n:Nat} (h:r9 V<=(n:Rat)*B):u7 B V<=n:=by
 have hq:r9 V / B*B=r9 V:=Rat.div_mul_cancel (by grind)
 unfold u7
 generalize r9 V / B=q at *
 have hqn:q<=(n:Rat):=Classical.byContradiction fun hc=>by
  have h1:(n:Rat) < q:=by grind
  have h2:=Rat.mul_lt_mul_of_pos_right h1 hB
  grind
 have h1:=Rat.floor_le q
 have e2:(((n:Nat):Int):Rat)=(n:Rat):=rfl
 rw [<- e2] at hqn
 split
 ·rename_i hlt
  have h3:(q.floor:Rat) < ((n:Int):Rat):=by grind
  have h4:q.floor < (n:Int):=by exact_mod_cast h3
  omega
 ·have h3:(q.floor:Rat)<=((n:Int):Rat):=by grind
  exact_mod_cast h3
def a0F (B T V:Rat) (n:Nat):Rat:=T+sgQ V*sQ B (r9 V) n
def a4W (B V:Rat) (n:Nat):Rat:=sgQ V*aQ B (r9 V) n
theorem b2F (B T V:Rat):a0F B T V 0=T:=by unfold a0F;rw [sQ];grind
theorem c0p (B V:Rat):a4W B V 0=V:=by unfold a4W;rw [b8r (abs_nonneg _),b7d]
theorem c1e (b v:Nm.Rt):Nm.ofQ (Nm.d9 (a2Q b v))=a2Q b v:=by
 unfold a2Q a1k
 split
 ·rw [Nm.q8]
 ·split<;>rw [Nm.q8]
theorem c0Z {B V:Rat} {b:Nm.Rt} (hb:Nm.d9 b=B) (h0:0 < B) (n:Nat):a2Q b (Nm.ofQ (a4W B V n))=Nm.ofQ (a4W B V (n+1)):=by
 have h:Jnt 0 V B n (Nm.ofQ (a0F B 0 V n)) (Nm.ofQ (a4W B V n)):=⟨Nm.q8 _,Nm.q8 _⟩
 rw [<- c1e,(h.next hb h0).v]
 rfl
theorem c0i (B T V:Rat) (n:Nat):a0F B T V n+a4W B V (n+1)=a0F B T V (n+1):=by
 unfold a0F a4W
 rw [sQ]
 grind
theorem b0i (V:Rat):sgQ V=1 \/ sgQ V=-1:=by unfold sgQ;split<;>simp
theorem b9P {B V:Rat} (n:Nat):a4W B V n=0 <-> r9 V<=(n:Rat)*B:=by
 unfold a4W aQ
 generalize (n:Rat)*B=t
 rcases b0i V with e|e<;>rw [e]<;>split<;>constructor<;>grind
theorem b3N (p q:Rat):G9 p q=if p<=q then p else q:=by
 unfold G9
 have h:=a1d p q
 by_cases hc:p<=q
 ·have:¬ q < p:=by grind
  rw [if_pos hc,if_pos (by have:=mt h.1 this;omega)]
 ·have:q < p:=by grind
  rw [if_neg hc,if_neg (by have:=h.2 this;omega)]
theorem a9Q (p q:Rat):G8 p q=if p<=q then q else p:=by
 unfold G8
 have h:=a1J p q
 by_cases hc:p < q
 ·have hle:p<=q:=by grind
  rw [if_pos hle,if_neg (by have:=h.2 hc;omega)]
 ·rw [if_pos (show Nm.q9 p q >= 0 by have:=mt h.1 hc;omega)]
  split
  ·grind
  ·rfl
theorem c2y {T A A' q:Rat} (h:(T<=A/\A<=A') \/ (A'<=A/\A<=T)):G9 (G9 (G9 T A) q) A'=G9 (G9 T A') q:=by
 simp only [b3N]
 grind
theorem c2W {T A A' q:Rat} (h:(T<=A/\A<=A') \/ (A'<=A/\A<=T)):G8 (G8 (G8 T A) q) A'=G8 (G8 T A') q:=by
 simp only [a9Q]
 grind
theorem b5K (B T V:Rat) (n:Nat):(T<=a0F B T V n/\a0F B T V n<=a0F B T V (n+1)) \/ (a0F B T V (n+1)<=a0F B T V n/\a0F B T V n<=T):=by
 have h1:=b2w B (r9 V) n
 have h2:=a9w B (r9 V) n (n+1) (by omega)
 unfold a0F
 rcases b0i V with e|e<;>rw [e]
 ·left;grind
 ·right;grind
def a2J (B q T V:Rat) (n:Nat):Sp:=⟨G9 (G9 T (a0F B T V n)) q,G8 (G8 T (a0F B T V n)) q⟩
theorem b8e (B q T V:Rat):a2J B q T V 0=⟨G9 q T,G8 q T⟩:=by
 unfold a2J
 rw [b2F]
 simp only [b3N,a9Q]
 congr 1<;>grind
theorem c3A (B q T V:Rat) (n:Nat):(a2J B q T V n).lo<=(a2J B q T V n).hi:=by
 unfold a2J
 simp only [b3N,a9Q]
 grind
theorem b8A (B q T V:Rat) (n:Nat):(⟨G9 (a2J B q T V n).lo (a0F B T V (n+1)),G8 (a2J B q T V n).hi (a0F B T V (n+1))⟩:Sp)=a2J B q T V (n+1):=by
 unfold a2J
 simp only
 rw [c2y (b5K B T V n),c2W (b5K B T V n)]
theorem c1X {k:Nat} {s x:Rat} (hs:s=1 \/ s=-1) (h:Rb k (Nm.ofQ x)):Rb k (Nm.ofQ (s*x)):=by
 rcases hs with e|e<;>rw [e]
 ·rw [Rat.one_mul];exact h
 ·rw [show (-1:Rat)*x=-x by grind];exact a0L h
theorem c4b {B V:Rat} {n:Nat} (hb:Rb 3 (Nm.ofQ B)) (hv:Rb 1048576 (Nm.ofQ V)) (hn:n<=2000):Rb 1048704 (Nm.ofQ (a4W B V n)):=by
 refine c1X (b0i V) ?_
 have i1:Rb 8 (Nm.ofQ (n:Rat)):=a2c (n:=(n:Int)) (by omega)
 unfold aQ
 split
 ·exact a0j.mono (by decide)
 ·exact (O8 (U4 hv) (I5 i1 hb)).mono (by decide)
theorem c1C {B v:Rat} {n:Nat} (h0:0 < B) (hb:Rb 3 (Nm.ofQ B)) (hv:Rb 1048576 (Nm.ofQ v)) (hn:n<=2000) (h:(n:Rat)*B<=v):Rb 1048704 (Nm.ofQ (sQ B v n)):=by
 have e:=b1b (n+1)
 rw [Nat.add_sub_cancel] at e
 rw [a9c h0 n h,<- e]
 have hm:(n+1)*n<=2001*2000:=Nat.mul_le_mul (by omega) hn
 have i1:Rb 8 (Nm.ofQ (n:Rat)):=a2c (n:=(n:Int)) (by omega)
 have i2:Rb 8 (Nm.ofQ (((n+1)*n / 2:Nat):Rat)):=a2c (n:=(((n+1)*n / 2:Nat):Int)) (by omega)
 exact (O8 (I5 i1 hv) (I5 hb i2)).mono (by decide)
theorem b5w {B T V:Rat} {n:Nat} (h0:0 < B) (hb:Rb 3 (Nm.ofQ B)) (hv:Rb 1048576 (Nm.ofQ V)) (hT:Rb 2097153 (Nm.ofQ T)) (hn:n<=2000) (hN:n<=(u7 B V).toNat):Rb 3200000 (Nm.ofQ (a0F B T V n)):=by
 have ra:=U4 hv
 have key:Rb 1048704 (Nm.ofQ (sQ B (r9 V) n)):=by
  by_cases h:(n:Rat)*B<=r9 V
  ·exact c1C h0 hb ra hn h
  cases n with
  | zero=>exact absurd (show ((0:Nat):Rat)*B<=r9 V by have:=abs_nonneg V;rw [show ((0:Nat):Rat)=0 from rfl];grind) h
  | succ m=>
   have ht:=a4M (V:=V) h0
   have hm:=b1D h0 (n:=m+1) (V:=V) (by grind)
   have h3:=ht.2.2 (by omega)
   rw [show (u7 B V).toNat-1=m by omega] at h3
   rw [sQ,b2l h0 (n:=m+1) (by grind) (c6N _),Rat.add_zero]
   exact c1C h0 hb ra (by omega) h3
 unfold a0F
 exact (K9 hT (c1X (b0i V) key)).mono (by decide)
theorem c2B {B q T V:Rat} {n:Nat} (h0:0 < B) (hb:Rb 3 (Nm.ofQ B)) (hv:Rb 1048576 (Nm.ofQ V)) (hT:Rb 2097153 (Nm.ofQ T)) (hq:Rb 1048576 (Nm.ofQ q)) (hn:n<=2000) (hN:n<=(u7 B V).toNat):Zb 3200000 (a2J B q T V n):=by
 have h:=b5w h0 hb hv hT hn hN
 have hT':Rb 3200000 (Nm.ofQ T):=hT.mono (by decide)
 have hq':Rb 3200000 (Nm.ofQ q):=hq.mono (by decide)
 exact ⟨a5X (a5X hT' h) hq',a6d (a6d hT' h) hq'⟩
theorem b9G {q u b:Nm.Rt} (h0:0 < Nm.d9 b):snQ (a2J (Nm.d9 b) (Nm.d9 q) (Nm.d9 q+Nm.d9 u) (Nm.d9 u) (u7 (Nm.d9 b) (Nm.d9 u)).toNat).lo (a2J (Nm.d9 b) (Nm.d9 q) (Nm.d9 q+Nm.d9 u) (Nm.d9 u) (u7 (Nm.d9 b) (Nm.d9 u)).toNat).hi=snQ (loQ q u b) (hiQ q u b):=by
 have ht:=a4M (V:=Nm.d9 u) h0
 unfold a2J loQ hiQ b2Y a0F
 rw [b7M h0 ht.2.1 ht.2.2]
set_option maxHeartbeats 8000000
theorem b7L (b v:Nm.Rt) (hb:Rb 1073741824 b) (hv:Rb 1073741824 v):FZ 44 [rc b,rc v] (rc (a2Q b v)):=by
 refine kW Tryz.func44 (by cbv) (by rfl) fun w O hw=>?_
 have o2:=a5q v (hv.mono (by decide))
 have o3:=M6 (Nm.ofQ (r9 (Nm.d9 v))) b (b9h ((hv.mono (m:=17179869184) (by decide)).fit (by decide))) (hb.mono (by decide))
 rw [Nm.q8] at o3
 have o4:=a2k
 have o5:=O9 v (hv.mono (by decide))
 have o6:=a6b v b (hv.mono (by decide)) (hb.mono (by decide))
 have o7:=a0O v b (hv.mono (by decide)) (hb.mono (by decide))
 unfold a2Q a1k
 generalize Nm.q9 (r9 (Nm.d9 v)) (Nm.d9 b)=c at *
 generalize z8 (Nm.d9 v)=s2 at *
 unfold rq at *
 generalize Nm.ofQ (r9 (Nm.d9 v))=av at *
 generalize Nm.ofQ (Nm.d9 v-Nm.d9 b)=d at *
 generalize Nm.ofQ (Nm.d9 v+Nm.d9 b)=e at *
 generalize Nm.ofQ 0=z at *
 simp only [j6]
 simp only [rc,sb,ints] at *
 (repeat first|refine uG o2 ?_|refine uG o3 ?_|refine uA ?_|(refine uK ?_ ?_;focus first|omega|(intros;simp_all<;>omega))|simp (disch:=omega) only [go_sem,Nat.reduceBEq,Nat.reduceAdd,ww]|(refine uD o2 ?_ ?_ ?_;exact tz hw;exact rfl)|(refine uD o3 ?_ ?_ ?_;exact tz hw;exact rfl))
 refine S.cond rfl (fun hc=>?_) (fun hc=>?_)
 ·rw [if_pos (by simpa using hc)]
  (repeat first|refine uG o4 ?_|refine uA ?_|(refine uK ?_ ?_;focus first|omega|(intros;simp_all<;>omega))|simp (disch:=omega) only [go_sem,Nat.reduceBEq,Nat.reduceAdd,ww]|(refine uD o4 ?_ ?_ ?_;exact tz hw;exact rfl))
  (refine S.done ?_;simp only [l9,p9,go_sem,Nat.reduceBEq,Nat.reduceAdd,Nat.reduceLeDiff,Int.reduceToNat,Int.reducePow];(repeat (refine ⟨?_,?_⟩;focus first|trivial|omega|simp));exact j4.out rfl (Imp.refl rfl) rfl)
 rw [if_neg (by simpa using hc)]
 (repeat first|refine uG o5 ?_|refine uA ?_|(refine uK ?_ ?_;focus first|omega|(intros;simp_all<;>omega))|simp (disch:=omega) only [go_sem,Nat.reduceBEq,Nat.reduceAdd,ww]|(refine uD o5 ?_ ?_ ?_;exact tz hw;exact rfl))
 refine S.cond rfl (fun hc=>?_) (fun hc=>?_)
 ·rw [if_pos (by simpa using hc)]
  (repeat first|refine uG o7 ?_|refine uA ?_|(refine uK ?_ ?_;focus first|omega|(intros;simp_all<;>omega))|simp (disch:=omega) only [go_sem,Nat.reduceBEq,Nat.reduceAdd,ww]|(refine uD o7 ?_ ?_ ?_;exact tz hw;exact rfl))
  (refine S.done ?_;simp only [l9,p9,go_sem,Nat.reduceBEq,Nat.reduceAdd,Nat.reduceLeDiff,Int.reduceToNat,Int.reducePow];(repeat (refine ⟨?_,?_⟩;focus first|trivial|omega|simp));exact j4.out rfl (Imp.refl rfl) rfl)
 ·rw [if_neg (by simpa using hc)]
  (repeat first|refine uG o6 ?_|refine uA ?_|(refine uK ?_ ?_;focus first|omega|(intros;simp_all<;>omega))|simp (disch:=omega) only [go_sem,Nat.reduceBEq,Nat.reduceAdd,ww]|(refine uD o6 ?_ ?_ ?_;exact tz hw;exact rfl))
  (refine S.done ?_;simp only [l9,p9,go_sem,Nat.reduceBEq,Nat.reduceAdd,Nat.reduceLeDiff,Int.reduceToNat,Int.reducePow];(repeat (refine ⟨?_,?_⟩;focus first|trivial|omega|simp));exact j4.out rfl (Imp.refl rfl) rfl)
def a4c:M4:=⟨77,[.tmp 6,.tmp 7,.tmp 8],.seq (.reg [OA 3 (.box 49 (TT 0)),OA 6 (.mv (.const (.slice none 0 0))),OA 7 (.mv (II 0)),OA 8 (.mv (.const (.bool false)))]) (.seq (.reg [OA 9 (.mv (.const (.slice none 0 0)))]) (.seq (.reg [OA
 10 (.mv (II 0))]) (.seq (.seq (.reg [FF 17 11 3,VV 18 17,OA 19 (.len false (TT 18)),OA 20 (.mv (II 0))]) (.block 0 (.loop (.seq (.reg [OA 21 (.bin .lss (TT 20) (TT 19))]) (.seq (.cond (TT 21) .skip (.exit 0)) (.seq (.block 1
 (.seq (.reg [MM 22 20,OA 23 (.x9 16 (TT 18) (TT 20)),LL 24 16 23,OA 12 (.alloc 95 [.bool false,.string ⟨#[]⟩,.string ⟨#[]⟩,.bool false,.string ⟨#[]⟩,.string ⟨#[]⟩,.bool false,.string ⟨#[]⟩,.string ⟨#[]⟩,.bool
 false,.string ⟨#[]⟩,.string ⟨#[]⟩,.bool false,.string ⟨#[]⟩,.string ⟨#[]⟩,.slice none 0 0]),MM 11 22,OB (.store 16 (TT 12) (TT 24))]) (.seq (.D6 [.q,.q,.q,.q,.q,.q,.q,.q,.q,.q,.q,.q,.q,.q,.q,.a,.a,.e
 (some 13) true,.e (some 14) true,.q] [MM 25 1,MM 26 11,OA 27 (.x9 3 (TT 25) (TT 26)),LL 28 3 27,MM 29 2,MM 30 11,OA 31 (.x9 3 (TT 29) (TT 30)),LL 32 3 31,OA 33 (.call 22 [TT 28,TT 32]),MM 34 2,MM 35 11,OA 36
 (.x9 3 (TT 34) (TT 35)),LL 37 3 36,OA 38 (.call 21 [II 0]),OA 39 (.call 22 [TT 37,TT 38]),OA 13 (.alloc 28 [.bool false,.string ⟨#[]⟩,.string ⟨#[]⟩]),OA 14 (.alloc 28 [.bool false,.string ⟨#[]⟩,.string ⟨#[]⟩]),OB
 (.store 3 (TT 13) (TT 33)),OB (.store 3 (TT 14) (TT 39)),OA 15 (.mv (II 0))]) (.seq (.D6 [.q,.q,.q,.q,.q,.q,.q,.q,.a,.e (some 16) true] [MM 40 1,MM 41 11,OA 42 (.x9 3 (TT 40) (TT 41)),LL 43 3 42,OA 44 (.call
 34 [TT 43]),LL 45 3 13,OA 46 (.call 34 [TT 45]),OA 47 (.call 33 [TT 44,TT 46]),OA 16 (.alloc 89 [.bool false,.string ⟨#[]⟩,.string ⟨#[]⟩,.bool false,.string ⟨#[]⟩,.string ⟨#[]⟩]),OB (.store 6 (TT 16) (TT 47))]) (.seq
 (.block 2 (.loop (.seq (.seq (.reg [LL 48 3 14,OA 49 (.call 42 [TT 48]),OA 50 (.bin .neq (TT 49) (II 0))]) (.cond (TT 50) .skip (.exit 2))) (.block 3 (.seq (.seq (.reg [MM 51 15,OA 52 (.bin .eql (TT 51) (II 2000))]) (.cond
 (TT 52) (.seq (.reg [OA 6 (.mv (.const (.slice none 0 0))),OA 7 (.mv (II 0)),OA 8 (.mv (.const (.bool false)))]) .ret) .skip)) (.seq (.reg [FF 53 12 12,LL 54 3 53,LL 55 3 14,OA 56 (.call 44 [TT 54,TT 55]),OB (.store 3 (TT
 14) (TT 56))]) (.seq (.reg [LL 57 3 13,LL 58 3 14,OA 59 (.call 22 [TT 57,TT 58]),OB (.store 3 (TT 13) (TT 59))]) (.seq (.D6 [.q,.q,.q,.q,.e none true] [LL 60 6 16,LL 61 3 13,OA 62 (.call 34 [TT 61]),OA 63 (.call 33
 [TT 60,TT 62]),OB (.store 6 (TT 16) (TT 63))]) (.reg [MM 64 15,OA 65 (.bin .add (TT 64) (II 1)),MM 15 65]))))))))) (.reg [MM 66 9,LL 67 6 16,OA 68 (.bsl 89 6 1 [.bool false,.string ⟨#[]⟩,.string ⟨#[]⟩,.bool false,
 .string ⟨#[]⟩,.string ⟨#[]⟩] [(0,TT 67)]),OA 69 (.app 89 6 80 (TT 66) (TT 68)),MM 70 10,MM 71 15,OA 72 (.max (TT 70) (TT 71)),MM 9 69,MM 10 72])))))) (.reg [OA 73 (.bin .add (TT 20) (II 1)),MM 20 73]))))))) (.seq (.reg
 [MM 74 9,MM 75 10,OA 76 (.bin .add (TT 75) (II 1)),MM 6 74,MM 7 76,OA 8 (.mv (.const (.bool true)))]) .ret))))⟩
theorem a8o:I9 eff Tryz.prog Tryz.f11=some a4c:=by kernel_rfl
theorem a8k:Tryz.prog.funcs[11]?=some Tryz.f11:=Tryz.func11
end Go.Proofs.YtpffebkbmcbmgaaGreatDoor
