/- A part of the proof: lemmas only, with the conditions that each names. -/
import Derived.Test.YtgpegbfnlkidjaaGreatDoorProg
import Derived.KernelRfl
import Derived.Test.YtgpegbfnlkidjaaGreatDoorRows
import Derived.Carry
import Derived.ChangeArms
import Derived.ChangeSame
import Derived.Deep.Slices
import Derived.WalkKit
import Derived.ProofKit
import Derived.OpenShut
import Derived.JoinedCond
import Derived.Test.YtgpegbfnlkidjaaGreatDoorCards
import Derived.Test.YtgpegbfnlkidjaaGreatDoorTie
import Derived.Deep.DeepHandedRow
import Derived.Deep.DeepWitnessRowRef
import Derived.Lib.LaidTab
import Derived.LaidMore
import Derived.Test.YtgpegbfnlkidjaaGreatDoorFk6
set_option linter.all false
namespace Go.Proofs.YtgpegbfnlkidjaaGreatDoor
open Go Go.RowKit Eng
set_option maxRecDepth 100000
set_option maxHeartbeats 8000000
theorem c4H (a b c d:Rat) (ha:Rb 1000000000 (Nm.ofQ a)) (hb:Rb 1000000000 (Nm.ofQ b)) (hc:Rb 1000000000 (Nm.ofQ c)) (hd:Rb 1000000000 (Nm.ofQ d)) :
  FZ 169 [vq a b,vq c d] (rq (a*c+b*d)):=by
 refine kW Tryz.func169 (by cbv) (by rfl) fun w O hw=>?_
 have h1:=a1p a c (ha.mono (by decide)) (hc.mono (by decide))
 have h2:=a1p b d (hb.mono (by decide)) (hd.mono (by decide))
 have h3:=a5s (a*c) (b*d) ((I9 ha hc).mono (by decide)) ((I9 hb hd).mono (by decide))
 unfold vq rq at *
 generalize Nm.ofQ (a*c+b*d)=r3 at *
 generalize Nm.ofQ (a*c)=r1 at *
 generalize Nm.ofQ (b*d)=r2 at *
 simp only [j5,TT,OA,OB,LL,FF]
 simp only [rc,vc,sb] at *
 (repeat first|refine uA ?_|(apply uK;focus first|omega|(intros;simp_all<;>omega))|simp (disch:=omega) only [go_sem,Nat.reduceBEq,Nat.reduceAdd]|(apply uD h1;exact tz hw;rfl)|(apply uD h2;exact tz hw;rfl)|(apply uD h3;exact tz hw;rfl))
 (refine S.done ?_;simp only [p9,r9,go_sem,Nat.reduceBEq,Nat.reduceAdd,Nat.reduceLeDiff];(repeat (refine ⟨?_,?_⟩;focus first|trivial|omega|simp));exact j3.out rfl (Imp.refl rfl) rfl)
theorem b4L (l:List Vt) (hl:Vbs 1073741824 l):FZ 167 [vts l] (ints (L6 l 64)):=by
 refine kW Tryz.func167 (by cbv) (by rfl) fun w O hw=>?_
 have h:FZ 171 [vts l,ints 64] (ints (L6 l 64)):=b5Q l 64 hl (by decide)
 generalize L6 l 64=e at *
 simp only [j5,TT,II,OA,MM]
 simp only [vts,ints] at *
 (repeat first|refine uA ?_|(apply uK;focus omega)|simp (disch:=omega) only [go_sem,Nat.reduceBEq]|(apply uD h;exact tz hw;rfl))
 exact S.done (j3.out rfl (Imp.refl rfl) rfl)
def a6Z (a b:List Vt):Int:=if L6 a 64=0 then L6 b 64 else L6 a 64
theorem c4I (a b:List Vt) (ha:Vbs 1073741824 a) (hb:Vbs 1073741824 b):FZ 130 [vts a,vts b] (ints (a6Z a b)):=by
 refine kW Tryz.func130 (by cbv) (by rfl) fun w O hw=>?_
 have h1:=b4L a ha
 have h2:=b4L b hb
 unfold a6Z
 generalize L6 a 64=e1 at *
 generalize L6 b 64=e2 at *
 simp only [j5,TT,II,OA,MM]
 simp only [vts,ints] at *
 (repeat first|refine uA ?_|(apply uK;focus omega)|simp (disch:=omega) only [go_sem,Nat.reduceBEq]|(apply uD h1;exact tz hw;rfl))
 (refine uJ rfl (fun hc=>?_) fun hc=>?_)
 ·rw [if_neg (by omega)]
  (repeat first|refine uA ?_|(apply uK;focus omega)|simp (disch:=omega) only [go_sem,Nat.reduceBEq])
  exact S.done (j3.out rfl (Imp.refl rfl) rfl)
 ·rw [if_pos (by omega)]
  (repeat first|refine uA ?_|(apply uK;focus first|omega|(intros;simp_all<;>omega))|simp (disch:=omega) only [go_sem,Nat.reduceBEq,Nat.reduceAdd]|(apply uD h2;exact tz hw;rfl))
  exact S.done (j3.out rfl (Imp.refl rfl) rfl)
def b8Q (x y q:Vt):Int:=E9 ((Nm.d9 y.y-Nm.d9 x.y)*(Nm.d9 q.x-Nm.d9 x.x)+(-(Nm.d9 y.x-Nm.d9 x.x))*(Nm.d9 q.y-Nm.d9 x.y))
def a0H (a b:List Vt) (i:Nat):Bool:=b.all fun q=>decide (0 < b8Q (a.getD i Vt.zero) (a.getD ((i+1) % a.length) Vt.zero) q)
def a2I (a b:List Vt):Bool:=(List.range a.length).any (a0H a b)
theorem b8T {a b:List Vt} {i:Nat} (hi:i < a.length) (h:a0H a b i=true):a2I a b=true:=List.any_eq_true.2 ⟨i,List.mem_range.2 hi,h⟩
theorem b6w {a b:List Vt} (h:∀ j,j < a.length->a0H a b j=false):a2I a b=false:=by
 unfold a2I
 rw [List.any_eq_false]
 intro j hj
 rw [h j (List.mem_range.1 hj)]
 decide
def b7Y (x y:Vt):Vt:=⟨Nm.ofQ (Nm.d9 y.y-Nm.d9 x.y),Nm.ofQ (-(Nm.d9 y.x-Nm.d9 x.x))⟩
def a3j (a b:List Vt):Vt:=match (List.range a.length).find? (a0H a b) with
 | some i=>b7Y (a.getD i Vt.zero) (a.getD ((i+1) % a.length) Vt.zero)
 | none=>Vt.zero
theorem b6Q {a b:List Vt} {i:Nat} {x y:Vt} (hx:a[i]?=some x) (hy:a[(i+1) % a.length]?=some y) (h:a0H a b i=true) (hm:∀ j,j < i->a0H a b j=false):a3j a b=b7Y x y:=by
 have hi:=(c7m.1 hx).1
 have:(List.range a.length).find? (a0H a b)=some i:=by
  rw [List.find?_eq_some_iff_getElem]
  exact ⟨h,i,by simpa using hi,by simp,fun j hj=>by simp [hm j hj]⟩
 unfold a3j
 rw [this]
 simp only
 rw [c7u,c7u,hx,hy]
 rfl
theorem b5q {a b:List Vt} (hm:∀ j,j < a.length->a0H a b j=false):a3j a b=Vt.zero:=by
 have:(List.range a.length).find? (a0H a b)=none:=List.find?_eq_none.2 fun j hj=>by simp [hm j (List.mem_range.1 hj)]
 unfold a3j
 rw [this]
theorem b5I (a b:List Vt) (ha:Vbs 268435456 a) (hb:Vbs 268435456 b):FZ 131 [vts a,vts b] (.tup [(a3j a b).c,.v (.bool (a2I a b))]):=by
 refine kW b1r b0V (by rfl) fun w O hw=>?_
 obtain ⟨an,ab⟩:=ha
 obtain ⟨bn,bb⟩:=hb
 simp only [a5G,j5,TT,II,OA,OB,OC,MM,LL,FF,LG]
 simp only [vts]
 (repeat first|refine uA ?_|(apply uK;focus omega)|simp (disch:=omega) only [go_sem,Nat.reduceBEq,c7i])
 refine S.loop (X:=Nat) (fun i=>⟨[(0,vts a),(1,vts b),(4,.bp 0 0),(13,vts a),(14,ints a.length),(15,ints i)],[.box 59 [.v (.bool false),sb [],sb [],.v (.bool false),sb [],sb []]]⟩) (fun i=>i<=a.length/\∀ j,j < i->a0H a b j=false) (fun i=>a.length-i) 0 ⟨c7n _,fun _ h=>absurd h (Nat.not_lt_zero _)⟩ (by (repeat first|refine uA ?_|(refine ⟨?_,?_⟩;focus first|rfl|simp [slot])|rfl|simp)) ?_
 rintro i ⟨hi,hm⟩
 simp only [vts,ints,sb]
 (repeat first|refine uA ?_|(apply uK;focus omega)|simp (disch:=omega) only [go_sem,Nat.reduceBEq])
 (refine uJ rfl (fun hc=>?_) fun hc=>?_)
 ·have hi':i < a.length:=by omega
  have hylt:(i+1) % a.length < a.length:=Nat.mod_lt _ (by omega)
  have gx:=c7h hi'
  have gy:=c7h hylt
  generalize a[i]=x at gx
  generalize a[(i+1) % a.length]=y at gy
  have haw:a0H a b i=b.all fun q=>decide (0 < b8Q x y q):=by
   unfold a0H
   rw [c7u,c7u,gx,gy]
   rfl
  have hV:=fun h=>b6Q (b:=b) gx gy h hm
  unfold b7Y at hV
  have hx:=ab x (c7k gx)
  have hy:=ab y (c7k gy)
  have o1:=b0y y.x y.y x.x x.y (hy.1.mono (by decide)) (hy.2.mono (by decide)) (hx.1.mono (by decide)) (hx.2.mono (by decide))
  have g1:=U5 (hy.1.fit (by decide)) (hx.1.fit (by decide))
  have g2:=U5 (hy.2.fit (by decide)) (hx.2.fit (by decide))
  have o2:=a4S (Nm.ofQ (Nm.d9 y.x-Nm.d9 x.x)) (g1.mono (by decide))
  have g3:=a1c g1
  rw [Nm.q8] at o2
  unfold b8Q at haw
  generalize Nm.d9 y.y-Nm.d9 x.y=n1 at *
  generalize Nm.d9 y.x-Nm.d9 x.x=m1 at *
  generalize -m1=n2 at *
  simp only [vq,rq,rc,vc,sb] at o1 o2
  (repeat first|refine uA ?_|(apply uK;focus first|omega|(intros;simp_all<;>omega))|simp (disch:=omega) only [go_sem,Nat.reduceBEq,Nat.reduceAdd,ww,gx,gy,c7j,tmod_one,c7i,c7r,Vt.enc,sb,c7o]|(apply uD o1;exact tz hw;rfl)|(apply uD o2;exact tz hw;rfl))
  refine S.loop (X:=Nat) (fun j=>⟨[(0,vts a),(1,vts b),(4,.bp 0 0),(7,.bp 1 0),(9,.bp 3 0),(10,.v (.bool ((b.take j).all fun q=>decide (0 < E9 (n1*(Nm.d9 q.x-Nm.d9 x.x)+n2*(Nm.d9 q.y-Nm.d9 x.y)))))),(13,vts a),(14,ints a.length),(15,ints i),(36,vts b),(37,ints b.length),(38,ints j)],[.box 59 [.v (.bool false),sb [],sb [],.v (.bool false),sb [],sb []],.box 59 x.enc,.gone,.box 59 (Vt.mk (Nm.ofQ n1) (Nm.ofQ n2)).enc]⟩) (fun j=>j<=b.length) (fun j=>b.length-j) 0 (c7n _) (by simp only [List.take_zero,List.all_nil,Vt.enc,sb];exact (by (repeat first|refine uA ?_|(refine ⟨?_,?_⟩;focus first|rfl|simp [slot])|rfl|simp))) ?_
  intro j hj
  clear o1 o2
  simp only [vts,ints,Vt.enc,sb]
  (repeat first|refine uA ?_|(apply uK;focus omega)|simp (disch:=omega) only [go_sem,Nat.reduceBEq])
  (refine uJ rfl (fun hc=>?_) fun hc=>?_)
  ·have hj':j < b.length:=by omega
   have gq:=c7h hj'
   generalize b[j]=q at gq
   have hq:=bb q (c7k gq)
   have o1:=b0y q.x q.y x.x x.y (hq.1.mono (by decide)) (hq.2.mono (by decide)) (hx.1.mono (by decide)) (hx.2.mono (by decide))
   have k1:=U5 (hq.1.fit (by decide)) (hx.1.fit (by decide))
   have k2:=U5 (hq.2.fit (by decide)) (hx.2.fit (by decide))
   have hts:(b.take (j+1)).all (fun q=>decide (0 < E9 (n1*(Nm.d9 q.x-Nm.d9 x.x)+n2*(Nm.d9 q.y-Nm.d9 x.y))))=((b.take j).all (fun q=>decide (0 < E9 (n1*(Nm.d9 q.x-Nm.d9 x.x)+n2*(Nm.d9 q.y-Nm.d9 x.y)))) && decide (0 < E9 (n1*(Nm.d9 q.x-Nm.d9 x.x)+n2*(Nm.d9 q.y-Nm.d9 x.y)))):=by
    rw [List.take_add_one,gq,List.all_append]
    simp
   generalize hB1:(b.take (j+1)).all (fun q=>decide (0 < E9 (n1*(Nm.d9 q.x-Nm.d9 x.x)+n2*(Nm.d9 q.y-Nm.d9 x.y))))=B1 at *
   generalize (b.take j).all (fun q=>decide (0 < E9 (n1*(Nm.d9 q.x-Nm.d9 x.x)+n2*(Nm.d9 q.y-Nm.d9 x.y))))=B0 at *
   generalize Nm.d9 q.x-Nm.d9 x.x=d1 at *
   generalize Nm.d9 q.y-Nm.d9 x.y=d2 at *
   have o2:=c4H n1 n2 d1 d2 (g2.mono (by decide)) (g3.mono (by decide)) (k1.mono (by decide)) (k2.mono (by decide))
   have k3:=U4 (I9 g2 k1) (I9 g3 k2)
   have o3:=a0g (Nm.ofQ (n1*d1+n2*d2)) (k3.mono (by decide))
   rw [Nm.q8] at o3
   generalize E9 (n1*d1+n2*d2)=c at *
   generalize n1*d1+n2*d2=d at *
   clear k1 k2 k3 hq
   simp only [vq,rq,rc,vc,sb,ints] at o1 o2 o3
   (repeat first|refine uA ?_|(apply uK;focus omega)|simp (disch:=omega) only [go_sem,Nat.reduceBEq,ww,gq,c7j,c7i,c7r,Vt.enc,sb,c7o]|(apply uD o1;exact tz hw;rfl)|(apply uD o2;exact tz hw;rfl)|(apply uD o3;exact tz hw;rfl))
   refine S.next (j+1) (by omega) (by omega) (by simp only [hB1,hts];exact (by (repeat first|refine uA ?_|(refine ⟨?_,?_⟩;focus first|rfl|simp [slot])|rfl|simp)))
  ·have hj':j=b.length:=by omega
   subst hj'
   rw [c7y]
   rw [<- haw]
   generalize hA:a0H a b i=A at *
   clear haw
   (repeat first|refine uA ?_|(apply uK;focus omega)|simp (disch:=omega) only [go_sem,Nat.reduceBEq])
   refine S.cond rfl (fun hc=>?_) (fun hc=>?_)
   ·rw [b8T hi' (hA.trans hc),hV hc]
    simp only [Vt.c,Vt.enc,sb]
    (repeat first|refine uA ?_|(apply uK;focus omega)|simp (disch:=omega) only [go_sem,Nat.reduceBEq])
    (refine S.done ?_;simp only [p9,r9,go_sem,Nat.reduceBEq,Nat.reduceAdd,Nat.reduceLeDiff];(repeat (refine ⟨?_,?_⟩;focus first|trivial|omega|simp));exact j3.out rfl (Imp.tup (by (repeat' (first|exact j4.nil|exact Imp.refl rfl|exact Imp.frz rfl rfl rfl|exact Imp.F8|refine Imp.agg ?_|refine j4.cons ?_ ?_)))) rfl)
   ·have hcf:=hA.trans hc
    (repeat first|refine uA ?_|(apply uK;focus omega)|simp (disch:=omega) only [go_sem,Nat.reduceBEq,ww])
    refine S.next (x:=i) (i+1) ⟨by omega,fun k hk=>?_⟩ (by omega) (by (repeat first|refine uA ?_|(refine ⟨?_,?_⟩;focus first|rfl|simp [slot])|rfl|simp))
    rcases c7D k i with h|h
    ·exact hm k h
    ·have:k=i:=by omega
     subst this
     exact hcf
 ·have hi':i=a.length:=by omega
  subst hi'
  rw [b6w hm,b5q hm]
  simp only [Vt.c,Vt.enc,Vt.zero,sb]
  (repeat first|refine uA ?_|(apply uK;focus omega)|simp (disch:=omega) only [go_sem,Nat.reduceBEq])
  (refine S.done ?_;simp only [p9,r9,go_sem,Nat.reduceBEq,Nat.reduceAdd,Nat.reduceLeDiff];(repeat (refine ⟨?_,?_⟩;focus first|trivial|omega|simp));exact j3.out rfl (Imp.tup (by (repeat' (first|exact j4.nil|exact Imp.refl rfl|exact Imp.frz rfl rfl rfl|exact Imp.F8|refine Imp.agg ?_|refine j4.cons ?_ ?_)))) rfl)
def b0H (a b:List Vt):Bool:=decide (a6Z a b=0) && (!a2I a b && !a2I b a)
theorem c2l (a b:List Vt) (ha:Vbs 268435456 a) (hb:Vbs 268435456 b):FZ 70 [vts a,vts b] (.tup [.v (.bool (b0H a b)),ints (a6Z a b)]):=by
 refine kW Tryz.func70 (by cbv) (by rfl) fun w O hw=>?_
 have h1:=c4I a b ⟨c7l ha.1 (by decide),fun v hv=>(ha.2 v hv).mono (by decide)⟩ ⟨c7l hb.1 (by decide),fun v hv=>(hb.2 v hv).mono (by decide)⟩
 have h2:=b5I a b ha hb
 have h3:=b5I b a hb ha
 unfold b0H
 generalize a6Z a b=e at *
 generalize a2I a b=u1 at *
 generalize a2I b a=u2 at *
 generalize a3j a b=v1 at *
 generalize a3j b a=v2 at *
 simp only [j5,TT,II,OA,OB,OC,MM,MG]
 simp only [vts,ints,Vt.c,Vt.enc,sb] at *
 (repeat first|refine uA ?_|(apply uK;focus first|omega|(intros;simp_all<;>omega))|simp (disch:=omega) only [go_sem,Nat.reduceBEq,Nat.reduceAdd]|(apply uD h1;exact tz hw;rfl))
 (refine uJ rfl (fun hc=>?_) fun hc=>?_)
 ·rw [decide_eq_false (by omega),Bool.false_and]
  (repeat first|refine uA ?_|(apply uK;focus omega)|simp (disch:=omega) only [go_sem,Nat.reduceBEq])
  (refine S.done ?_;simp only [p9,go_sem,Nat.reduceBEq];exact j3.out rfl (Imp.tup (by (repeat' (first|exact j4.nil|exact Imp.refl rfl|exact Imp.frz rfl rfl rfl|exact Imp.F8|refine Imp.agg ?_|refine j4.cons ?_ ?_)))) rfl)
 ·have he:e=0:=by omega
  subst he
  (repeat first|refine uA ?_|(apply uK;focus omega)|simp (disch:=omega) only [go_sem,Nat.reduceBEq]|(apply uD h2;exact tz hw;rfl)|(apply uD h3;exact tz hw;rfl))
  refine S.done ?_
  simp only [p9,go_sem,Nat.reduceBEq,Nat.reduceAdd]
  (repeat (refine ⟨?_,?_⟩;focus first|trivial|omega|simp))
  exact j3.out rfl (Imp.tup (j4.cons (Imp.eq (by cases u1<;>cases u2<;>rfl) rfl) (j4.cons (Imp.refl rfl) j4.nil))) rfl
open Go Eng
theorem c4G (g:Nat) (hcal:callable Tryz.prog g=true) (c1:List C) (p:List Vt->Bool) (l:List (List Vt)) (hn:l.length<=1000000000) (hg:∀ x ∈ l,FZ g [vts x,.ep c1] (.v (.bool (p x)))) :
  FZ 129 [wls l,.clo g [.ep c1]] (ints (a1f p l)):=by
 refine kW Tryz.func129 (by cbv) (by rfl) fun w O hw=>?_
 simp only [j5,TT,II,OA,MM,VV,wls,ints]
 (repeat first|refine uA ?_|(apply uK;focus omega)|simp (disch:=omega) only [go_sem,Nat.reduceBEq,c7i])
 refine S.loop (X:=Nat) (fun i=>⟨[(0,wls l),(1,.clo g [.ep c1]),(7,ints l.length),(8,ints i)],[]⟩) (fun i=>i<=l.length/\∀ j,j < i->∀ x,l[j]?=some x->p x=false) (fun i=>l.length-i) 0 ⟨c7n _,fun _ h=>absurd h (Nat.not_lt_zero _)⟩ (by (repeat first|refine uA ?_|(refine ⟨?_,?_⟩;focus first|rfl|simp [slot])|rfl|simp)) ?_
 rintro i ⟨hi,hm⟩
 simp only [wls,ints]
 (repeat first|refine uA ?_|(apply uK;focus omega)|simp (disch:=omega) only [go_sem,Nat.reduceBEq])
 (refine uJ rfl (fun hc=>?_) fun hc=>?_)
 ·have hi':i < l.length:=by omega
  have hgi:=c7h hi'
  generalize l[i]=x at hgi
  have hs:=hg x (c7k hgi)
  simp only [vts] at hs
  generalize hpx:p x=b at hs
  (repeat first|refine uA ?_|(apply uK;focus omega)|simp (disch:=omega) only [go_sem,Nat.reduceBEq,hgi,c7j,c7i,c7r,vts,c7o,hcal]|(apply uD hs;exact tz hw;rfl))
  refine S.cond rfl (fun hc2=>?_) (fun hc2=>?_)
  ·rw [a2z (p:=p) hgi (hpx.trans hc2) hm]
   (repeat first|refine uA ?_|(apply uK;focus omega)|simp (disch:=omega) only [go_sem,Nat.reduceBEq])
   exact S.done (j3.out rfl (Imp.refl rfl) rfl)
  ·(repeat first|refine uA ?_|(apply uK;focus omega)|simp (disch:=omega) only [go_sem,Nat.reduceBEq,ww])
   refine S.next (i+1) ⟨by omega,fun j hj y hy=>?_⟩ (by omega) (by (repeat first|refine uA ?_|(refine ⟨?_,?_⟩;focus first|rfl|simp [slot])|rfl|simp))
   rcases c7D j i with h1|h1
   ·exact hm j h1 y hy
   ·have:j=i:=by omega
    subst this
    rw [hgi] at hy
    cases hy
    exact hpx.trans hc2
 ·have hi':i=l.length:=by omega
  subst hi'
  rw [a1B hm]
  (repeat first|refine uA ?_|(apply uK;focus omega)|simp (disch:=omega) only [go_sem])
  exact S.done (j3.out rfl (Imp.refl rfl) rfl)
theorem c5e (g:Nat) (hcal:callable Tryz.prog g=true) (c1:List C) (p:List Vt->Bool) (l:List (List Vt)) (hn:l.length<=1000000000) (hg:∀ x ∈ l,FZ g [vts x,.ep c1] (.v (.bool (p x)))) :
  FZ 68 [wls l,.clo g [.ep c1]] (.v (.bool (l.any p))):=by
 refine kW Tryz.func68 (by cbv) (by rfl) fun w O hw=>?_
 have h:=c4G g hcal c1 p l hn hg
 rw [<- a3k]
 generalize a1f p l=n at *
 simp only [j5,TT,II,OA,MM]
 simp only [wls,ints] at *
 (repeat first|refine uA ?_|(apply uK;focus first|omega|(intros;simp_all<;>omega))|simp (disch:=omega) only [go_sem,Nat.reduceBEq,Nat.reduceAdd]|(apply uD h;exact tz hw;rfl))
 exact S.done (j3.out rfl (Imp.refl rfl) rfl)
theorem c5x (g:Nat) (hcal:callable Tryz.prog g=true) (c1 c2 c3:List C) (p:Vt->Bool) (l:List (Vt)) (hn:l.length<=1000000000) (hg:∀ x ∈ l,FZ g [x.c,.ep c1,.ep c2,.ep c3] (.v (.bool (p x)))) :
  FZ 121 [vts l,.clo g [.ep c1,.ep c2,.ep c3]] (ints (a1f p l)):=by
 refine kW Y2 Y1 (by rfl) fun w O hw=>?_
 simp only [P8,j5,TT,II,OA,MM,LL,vts,ints]
 (repeat first|refine uA ?_|(apply uK;focus omega)|simp (disch:=omega) only [go_sem,Nat.reduceBEq,c7i])
 refine S.loop (X:=Nat) (fun i=>⟨[(0,vts l),(1,.clo g [.ep c1,.ep c2,.ep c3]),(7,ints l.length),(8,ints i)],[]⟩) (fun i=>i<=l.length/\∀ j,j < i->∀ x,l[j]?=some x->p x=false) (fun i=>l.length-i) 0 ⟨c7n _,fun _ h=>absurd h (Nat.not_lt_zero _)⟩ (by (repeat first|refine uA ?_|(refine ⟨?_,?_⟩;focus first|rfl|simp [slot])|rfl|simp)) ?_
 rintro i ⟨hi,hm⟩
 simp only [vts,ints]
 (repeat first|refine uA ?_|(apply uK;focus omega)|simp (disch:=omega) only [go_sem,Nat.reduceBEq])
 (refine uJ rfl (fun hc=>?_) fun hc=>?_)
 ·have hi':i < l.length:=by omega
  have hgi:=c7h hi'
  generalize l[i]=x at hgi
  have hs:=hg x (c7k hgi)
  simp only [Vt.c,Vt.enc,sb] at hs
  generalize hpx:p x=b at hs
  (repeat first|refine uA ?_|(apply uK;focus omega)|simp (disch:=omega) only [go_sem,Nat.reduceBEq,hgi,c7j,c7i,c7r,Vt.enc,sb,c7o,hcal]|(apply uD hs;exact tz hw;rfl))
  refine S.cond rfl (fun hc2=>?_) (fun hc2=>?_)
  ·rw [a2z (p:=p) hgi (hpx.trans hc2) hm]
   (repeat first|refine uA ?_|(apply uK;focus omega)|simp (disch:=omega) only [go_sem,Nat.reduceBEq])
   exact S.done (j3.out rfl (Imp.refl rfl) rfl)
  ·(repeat first|refine uA ?_|(apply uK;focus omega)|simp (disch:=omega) only [go_sem,Nat.reduceBEq,ww])
   refine S.next (i+1) ⟨by omega,fun j hj y hy=>?_⟩ (by omega) (by (repeat first|refine uA ?_|(refine ⟨?_,?_⟩;focus first|rfl|simp [slot])|rfl|simp))
   rcases c7D j i with h1|h1
   ·exact hm j h1 y hy
   ·have:j=i:=by omega
    subst this
    rw [hgi] at hy
    cases hy
    exact hpx.trans hc2
 ·have hi':i=l.length:=by omega
  subst hi'
  rw [a1B hm]
  (repeat first|refine uA ?_|(apply uK;focus omega)|simp (disch:=omega) only [go_sem])
  exact S.done (j3.out rfl (Imp.refl rfl) rfl)
theorem c5d (g:Nat) (hcal:callable Tryz.prog g=true) (c1 c2 c3:List C) (p:Vt->Bool) (l:List (Vt)) (hn:l.length<=1000000000) (hg:∀ x ∈ l,FZ g [x.c,.ep c1,.ep c2,.ep c3] (.v (.bool (p x)))) :
  FZ 57 [vts l,.clo g [.ep c1,.ep c2,.ep c3]] (.v (.bool (l.any p))):=by
 refine kW W9 V9 (by rfl) fun w O hw=>?_
 have h:=c5x g hcal c1 c2 c3 p l hn hg
 rw [<- a3k]
 generalize a1f p l=n at *
 simp only [N7,j5,TT,II,OA,MM]
 simp only [vts,ints] at *
 (repeat first|refine uA ?_|(apply uK;focus first|omega|(intros;simp_all<;>omega))|simp (disch:=omega) only [go_sem,Nat.reduceBEq,Nat.reduceAdd]|(apply uD h;exact tz hw;rfl))
 exact S.done (j3.out rfl (Imp.refl rfl) rfl)
def a8k (p l:List Vt):Bool:=b0H p l || !decide (a6Z p l=0)
theorem c2w (p l:List Vt) (hp:Vbs 268435456 p) (hl:Vbs 268435456 l):FZ 69 [vts l,.ep [vts p]] (.v (.bool (a8k p l))):=by
 refine kW Tryz.func69 (by cbv) (by rfl) fun w O hw=>?_
 have h:=c2l p l hp hl
 unfold a8k
 generalize b0H p l=b at *
 generalize a6Z p l=e at *
 simp only [j5,TT,II,OA,OC,MM,VV,MG]
 simp only [vts,ints] at *
 (repeat first|refine uA ?_|(apply uK;focus first|omega|(intros;simp_all<;>omega))|simp (disch:=omega) only [go_sem,Nat.reduceBEq,Nat.reduceAdd]|(apply uD h;exact tz hw;rfl))
 refine S.done ?_
 simp only [p9,go_sem,Nat.reduceBEq]
 (repeat (refine ⟨?_,?_⟩;focus first|trivial|omega|simp))
 exact j3.out rfl (Imp.eq (by cases b<;>simp [a7n]) rfl) rfl
def a6n:H6:=⟨160,[.tmp 10],.seq (.reg [OA 5 (.box 31 (TT 0)),OA 6 (.box 37 (TT 1)),OA 10 (.mv (II 0))]) (.seq (.y9 [.q,.q,.q,.q,.q,.l,.l,.l,.l,.l,.a,.a,.e (some 11) false,.e (some 12) true] [FF 29 0 5,VV 30 29,MM 31 2,OA
 32 (.l7 12 (TT 30) (TT 31)),LL 33 12 32,FF 34 1 6,VV 35 34,MM 36 2,OA 37 (.l7 4 (TT 35) (TT 36)),LL 38 4 37,OA 11 (.alloc 69 [.string ⟨#[]⟩,.bool false,.string ⟨#[]⟩,.string ⟨#[]⟩,.bool false,.string ⟨#[]⟩,
 .string ⟨#[]⟩,.bool false,.bool false,.string ⟨#[]⟩,.string ⟨#[]⟩,.slice none 0 0]),OA 12 (.alloc 49 [.slice none 0 0,.slice none 0 0,.bool false,.int .i64 0]),OB (.store 12 (TT 11) (TT 33)),OB (.store 4 (TT 12) (TT
 38))]) (.seq (.seq (.reg [LL 39 12 11,FF 40 0 12,VV 41 40,MM 42 4,OA 43 (.call 65 [TT 39,TT 41,TT 42]),OA 44 (.un .not (TT 43))]) (.cond (TT 44) (.seq (.reg [OA 10 (.mv (II 1))]) .ret) .skip)) (.seq (.reg [LL 46 12 11,FF
 47 0 12,VV 48 47,MM 49 4,OA 50 (.call 19 [TT 46,TT 48,TT 49]),MM 45 50,OA 51 (.ext (TT 45) 0),OA 52 (.ext (TT 45) 1),OA 53 (.ext (TT 45) 2),OA 14 (.alloc 3 [.int .i64 0]),MM 13 51,OB (.store 1 (TT 14) (TT 52)),MM 15
 53]) (.seq (.seq (.reg [MM 54 15,OA 55 (.bin .neq (TT 54) (II 0))]) (.cond (TT 55) (.seq (.reg [OA 10 (.mv (II 2))]) .ret) .skip)) (.seq (.seq (.reg [FF 56 11 11,VV 57 56,OA 58 (.len false (TT 57)),OA 59 (.mv (II 0))])
 (.block 0 (.loop (.seq (.reg [OA 60 (.bin .lss (TT 59) (TT 58))]) (.seq (.cond (TT 60) .skip (.exit 0)) (.seq (.block 1 (.seq (.reg [MM 61 59,OA 62 (.l7 16 (TT 57) (TT 59)),LL 63 16 62,OA 17 (.alloc 74 [.bool false,
 .string ⟨#[]⟩,.string ⟨#[]⟩,.bool false,.string ⟨#[]⟩,.string ⟨#[]⟩,.bool false,.string ⟨#[]⟩,.string ⟨#[]⟩,.bool false,.string ⟨#[]⟩,.string ⟨#[]⟩,.bool false,.string ⟨#[]⟩,.string ⟨#[]⟩,.slice none 0 0]),MM 16
 61,OB (.store 16 (TT 17) (TT 63))]) (.seq (.y9 [.q,.q,.q,.q,.q,.q,.q,.q,.q,.q,.q,.q,.q,.q,.q,.q,.q,.q,.q,.q] [MM 64 13,MM 65 16,OA 66 (.l7 6 (TT 64) (TT 65)),FF 67 0 66,LL 68 3 67,FF 69 3 17,LL 70
 3 69,OA 71 (.call 39 [TT 68,TT 70]),OA 72 (.bin .lss (TT 71) (II 0)),MM 73 72,MG 74 13 73 false,MG 75 16 73 false,OC 76 (.l7 6 (TT 74) (TT 75)) 73 false,FG 77 3 76 73 false,LG 78 3 77 73 false,FG 79 6 17 73 false,
 LG 80 3 79 73 false,OC 81 (.call 39 [TT 78,TT 80]) 73 false,OC 82 (.bin .gtr (TT 81) (II 0)) 73 false,OA 83 (.pick (TT 73) (.const (.bool true)) (TT 82))]) (.cond (TT 83) (.seq (.reg [OA 10 (.mv (II 2))]) .ret) .skip))))
 (.reg [OA 84 (.bin .add (TT 59) (II 1)),MM 59 84]))))))) (.seq (.reg [LL 86 8 5,MM 87 2,FF 88 3 12,VV 89 88,MM 90 13,OA 91 (.call 20 [TT 86,TT 87,TT 89,TT 90]),MM 85 91,OA 92 (.ext (TT 85) 0),OA 93 (.ext (TT 85) 1),
 OA 18 (.alloc 78 [.slice none 0 0]),OB (.store 1 (TT 18) (TT 92)),MM 15 93]) (.seq (.seq (.reg [MM 94 15,OA 95 (.bin .neq (TT 94) (II 0))]) (.cond (TT 95) (.seq (.reg [OA 10 (.mv (II 2))]) .ret) .skip)) (.seq (.seq (.reg [VV
 96 18,OA 97 (.len false (TT 96)),OA 98 (.mv (II 0))]) (.block 2 (.loop (.seq (.reg [OA 99 (.bin .lss (TT 98) (TT 97))]) (.seq (.cond (TT 99) .skip (.exit 2)) (.seq (.block 3 (.seq (.reg [OA 100 (.l7 12 (TT 96) (TT 98)),LL
 101 12 100,OA 20 (.alloc 82 [.bool false,.string ⟨#[]⟩,.string ⟨#[]⟩,.bool false,.string ⟨#[]⟩,.string ⟨#[]⟩,.bool false,.string ⟨#[]⟩,.string ⟨#[]⟩,.bool false,.string ⟨#[]⟩,.string ⟨#[]⟩]),OB (.store 12 (TT 20)
 (TT 101))]) (.seq (.reg [LL 103 12 20,OA 104 (.call 21 [TT 103]),MM 102 104,OA 105 (.ext (TT 102) 0),OA 106 (.ext (TT 102) 1),MM 21 105,MM 22 106]) (.seq (.reg [MM 107 22,OA 108 (.bin .neq (TT 107) (II 0)),MM 109 108,MG
 110 21 109 false,MG 111 3 109 false,OC 112 (.call 66 [TT 110,TT 111]) 109 false,OC 113 (.un .not (TT 112)) 109 false,OA 114 (.pick (TT 109) (.const (.bool true)) (TT 113))]) (.cond (TT 114) (.seq (.reg [OA 10 (.mv (II 3))])
 .ret) .skip))))) (.reg [OA 115 (.bin .add (TT 98) (II 1)),MM 98 115]))))))) (.seq (.seq (.reg [VV 116 18,OA 117 (.len false (TT 116)),OA 118 (.mv (II 0))]) (.block 4 (.loop (.seq (.reg [OA 119 (.bin .lss (TT 118) (TT 117))])
 (.seq (.cond (TT 119) .skip (.exit 4)) (.seq (.block 5 (.seq (.reg [OA 120 (.l7 12 (TT 116) (TT 118)),LL 121 12 120,OA 24 (.alloc 82 [.bool false,.string ⟨#[]⟩,.string ⟨#[]⟩,.bool false,.string ⟨#[]⟩,.string ⟨#[]⟩,
 .bool false,.string ⟨#[]⟩,.string ⟨#[]⟩,.bool false,.string ⟨#[]⟩,.string ⟨#[]⟩]),OB (.store 12 (TT 24) (TT 121))]) (.seq (.reg [LL 122 12 24,OA 123 (.call 67 [TT 122]),OA 25 (.alloc 34 [.slice none 0 0]),OB (.store 1
 (TT 25) (TT 123))]) (.seq (.reg [FF 124 1 5,VV 125 124,OA 126 (.clo 69 [TT 25]),OA 127 (.call 68 [TT 125,TT 126])]) (.cond (TT 127) (.seq (.reg [OA 10 (.mv (II 4))]) .ret) .skip))))) (.reg [OA 128 (.bin .add (TT 118) (II
 1)),MM 118 128]))))))) (.seq (.reg [OA 129 (.clo 71 [TT 18]),OA 26 (.alloc 140 [.nilFunc]),OB (.store 1 (TT 26) (TT 129))]) (.seq (.seq (.reg [FF 130 3 6,VV 131 130,OA 132 (.clo 75 [TT 26,TT 5,TT 14]),OA 133 (.call 57
 [TT 131,TT 132])]) (.cond (TT 133) (.seq (.reg [OA 10 (.mv (II 5))]) .ret) .skip)) (.seq (.seq (.reg [FF 134 4 5,VV 135 134,OA 136 (.len false (TT 135)),OA 137 (.mv (II 0))]) (.block 6 (.loop (.seq (.reg [OA 138 (.bin .lss
 (TT 137) (TT 136))]) (.seq (.cond (TT 138) .skip (.exit 6)) (.seq (.block 7 (.seq (.reg [MM 139 137,OA 140 (.l7 13 (TT 135) (TT 137)),LL 141 13 140,OA 28 (.alloc 143 [.string ⟨#[]⟩,.bool false,.string ⟨#[]⟩,.string
 ⟨#[]⟩,.bool false,.string ⟨#[]⟩,.string ⟨#[]⟩,.bool false,.string ⟨#[]⟩,.string ⟨#[]⟩,.bool false,.string ⟨#[]⟩,.string ⟨#[]⟩]),MM 27 139,OB (.store 13 (TT 28) (TT 141))]) (.seq (.y9 [.q,.q,.q,.q,.q,.q,.q,.q,
 .q,.q,.q,.q,.q,.q,.q,.q,.q] [FF 142 4 6,VV 143 142,MM 144 27,OA 145 (.l7 1 (TT 143) (TT 144)),VV 146 145,MM 147 146,VG 148 26 147 true,FG 149 1 28 147 true,LG 150 12 149 147 true,FG 151 5 5 147 true,LG 152 3
 151 147 true,VG 153 14 147 true,OC 154 (.call 48 [TT 153]) 147 true,OC 155 (.call 77 [TT 152,TT 154]) 147 true,OC 156 (.call 50 [TT 150,TT 155]) 147 true,OC 157 (.X8 (TT 148) [TT 156]) 147 true,OA 158 (.pick (TT 147)
 (TT 157) (.const (.bool false)))]) (.cond (TT 158) (.seq (.reg [OA 10 (.mv (II 6))]) .ret) .skip)))) (.reg [OA 159 (.bin .add (TT 137) (II 1)),MM 137 159]))))))) (.seq (.reg [OA 10 (.mv (II 0))]) .ret)))))))))))))⟩
theorem b2d:F3 eff Tryz.prog Tryz.f27=some a6n:=by kernel_rfl
theorem b2i:Tryz.prog.funcs[27]?=some Tryz.f27:=Tryz.func27
set_option maxHeartbeats 32000000
def b3O (L:List Lk) (Q:List Sp):Bool:=(L.zip Q).any fun z=>decide (Nm.q9 z.2.lo (Nm.d9 z.1.low) < 0) || decide (0 < Nm.q9 z.2.hi (Nm.d9 z.1.high))
def a3b (bs:List Bq) (lease:List Cl):Bool:=bs.any fun b=>!decide (ofE b=0) || !a0k (ofC b) lease
def b3Q (bs:List Bq) (W:List (List Vt)):Bool:=bs.any fun b=>W.any fun l=>a8k (Z9 b) l
def a6s (w:Wk) (a:Am) (q u:List Nm.Rt) (lease:List Cl):Int:=
 if a1w (a.links.zip (q.zip u))=false then 1 else if b3O a.links (J8 a.links q u)=true then 2 else if a3b (Z5 a (J8 a.links q u)) lease=true then 3 else if b3Q (Z5 a (J8 a.links q u)) w.walls=true then 4 else 0
theorem a8G {α:Type} {l:List α} {i:Nat} {x:α} {p:α->Bool} (h:l[i]?=some x) (hp:p x=true):l.any p=true:=List.any_eq_true.2 ⟨x,c7k h,hp⟩
theorem a6U {α:Type} {l:List α} {p:α->Bool} (h:∀ (j:Nat) x,j < l.length->l[j]?=some x->p x=false):l.any p=false:=by
 rw [List.any_eq_false]
 intro x hx
 obtain ⟨j,hj⟩:=List.mem_iff_getElem?.1 hx
 rw [h j x (c7m.1 hj).1 hj]
 decide
theorem a4a {α:Type} {l:List α} {i:Nat} {x:α} {p:α->Bool} (hg:l[i]?=some x) (hx:p x=false) (h:∀ (j:Nat) x,j < i->l[j]?=some x->p x=false):∀ (j:Nat) x,j < i+1->l[j]?=some x->p x=false:=fun j y hj hy=>by
 rcases c7D j i with h1|h1
 ·exact h j y h1 hy
 ·have:j=i:=by omega
  subst this
  rw [hg] at hy
  cases hy
  exact hx
theorem c2n (w:Wk) (s:Stt) (n:Nat) (a:Am) (x:Ast) (lease:List Cl) (u:List Nm.Rt) (hwb:Wb 1048576 w) (ga:w.arms[n]?=some a) (gx:s.arms[n]?=some x) (ha:J3 a=0) (hh:x.holds=-1)
  (hxl:x.q.length=a.links.length) (hul:u.length=a.links.length) (hqb:∀ r ∈ x.q,Rb 1024 r) (hf:∀ (i:Nat) (l:Lk) (y:Nm.Rt),a.links[i]?=some l->u[i]?=some y->Few l y)
  (t0:0<=R7 (a.links.zip u)) (t8:R7 (a.links.zip u)<=1000) (hle:lease.length<=1000000) (hps:s.people=[]) (hgc:∀ o ∈ s.gates,o=false) (hgn:s.gates.length=w.gates.length) (hw1:w.arms.length<=1000) (hw2:w.parts.length<=1000) :
  FZ 27 [w.c,s.c,ints n,cls lease,rts u] (ints (a6s w a x.q u lease)):=by
 refine kW b2i b2d (by rfl) fun w' O hw=>?_
 have hn:=(c7m.1 ga).1
 have hns:=(c7m.1 gx).1
 have hl:Ab 1073741824 a:=(O7 ha).1.mono (by decide)
 have hub:∀ r ∈ u,Rb 1024 r:=fun r hr=>by
  obtain ⟨i,hi⟩:=List.mem_iff_getElem?.1 hr
  have hi':=(c7m.1 hi).1
  exact (hf i _ r (c7h (by omega)) hi).hv
 have h0:=c0U a x.q u hl hxl hul (fun r hr=>(hqb r hr).mono (by decide)) (fun r hr=>(hub r hr).mono (by decide))
 have h1:=b7m a x.q u hl ha hxl hul hqb hf
 rw [b3l] at h1
 have hql:=b1m (L:=a.links) hxl hul
 have hqz:=b4U hqb hf
 have h2:=b5Y w n a (J8 a.links x.q u) hw1 hw2 ga hl ha hql hqz
 have hbl:=b5M hql
 have hbb:=c0u ha hql hqz
 have hl3:=(Z4 ha).2
 have hlk:=hl.2.2.2
 have hJ:a6s w a x.q u lease=if a1w (a.links.zip (x.q.zip u))=false then 1 else if b3O a.links (J8 a.links x.q u)=true then 2 else if a3b (Z5 a (J8 a.links x.q u)) lease=true then 3 else if b3Q (Z5 a (J8 a.links x.q u)) w.walls=true then 4 else 0:=rfl
 generalize a6s w a x.q u lease=J at *
 generalize Z5 a (J8 a.links x.q u)=bs at *
 generalize J8 a.links x.q u=Q at *
 generalize a1w (a.links.zip (x.q.zip u))=al at *
 obtain ⟨t,ht⟩:∃ t,t=R7 (a.links.zip u)+1:=⟨_,rfl⟩
 rw [<- ht] at h1
 have tb:0<=t/\t<=1001:=by omega
 have hb30:∀ b ∈ bs,Bb 1000000000 b:=fun b hb=>⟨(hbb b hb).1.mono (by decide),(hbb b hb).2.1.mono (by decide),(hbb b hb).2.2.1.mono (by decide),(hbb b hb).2.2.2.mono (by decide)⟩
 have hb32:∀ b ∈ bs,Bb 4294967296 b:=fun b hb=>⟨(hbb b hb).1.mono (by decide),(hbb b hb).2.1.mono (by decide),(hbb b hb).2.2.1.mono (by decide),(hbb b hb).2.2.2.mono (by decide)⟩
 have hsq:∀ b ∈ bs,Vbs 268435456 (Z9 b):=fun b hb=>by
  have h:=hbb b hb
  unfold Z9
  split
  ·exact ⟨c7n _,fun v hv=>by cases hv⟩
  ·refine ⟨by show 4<=268435456;decide,fun v hv=>?_⟩
   simp only [List.mem_cons,List.not_mem_nil,or_false] at hv
   rcases hv with rfl|rfl|rfl|rfl
   ·exact ⟨h.1.mono (by decide),h.2.1.mono (by decide)⟩
   ·exact ⟨h.2.2.1.mono (by decide),h.2.1.mono (by decide)⟩
   ·exact ⟨h.2.2.1.mono (by decide),h.2.2.2.mono (by decide)⟩
   ·exact ⟨h.1.mono (by decide),h.2.2.2.mono (by decide)⟩
 have hgl:=hwb.gates.1
 have hwl:=hwb.walls
 have h5:=c5d 75 (by kernel_rfl) [.clo 71 [.ep [.sl 12 (bs.map Bq.enc)]]] w.enc [ints t] (fun _=>false) s.people (by rw [hps];exact c7n _) (fun v hv=>by rw [hps] at hv;cases hv)
 rw [show (s.people.any fun _=>false)=false by rw [hps];rfl] at h5
 have hcal:callable Tryz.prog 71=true:=by kernel_rfl
 clear hf hqb hub hwb ht t0 t8 hl
 have enc:=fun (l:List Lk)=>l
 clear enc
 simp only [a6n,j5,TT,II,OA,OB,OC,MM,LL,VV,FF,MG,LG,VG,FG]
 simp only [Wk.c,Wk.enc,Stt.c,Stt.enc,Am.c,Am.enc,ams,wls,pts,sls,gts,lks,P9,frs,bls,rts,vts,cls,sb,ints] at h0 h1 h2 h5 ⊢
 (repeat first|refine uI ?_|(refine uK ?_ ?_;focus first|omega|(intros;simp_all<;>omega))|simp (disch:=omega) only [go_sem,Nat.reduceBEq,Nat.reduceAdd])
 refine S.y9 [.gone,.box 37 [.v (.int .i64 s.tick),.sl 4 (s.arms.map Ast.enc),.sl 10 (s.parts.map Fr.enc),.sl 6 (s.people.map Vt.enc),.sl 1 (s.gates.map fun b=>[.v (.bool b)])]] (by simp [Eng.H8,Eng.X0]) ?_
 (repeat first|refine uA ?_|(refine uK ?_ ?_;focus first|omega|(intros;simp_all<;>omega))|simp (disch:=omega) only [go_sem,Nat.reduceBEq,Nat.reduceAdd,Eng.X0,c7i,c7r,ga,gx,c7j,c7o,Am.enc,Ast.enc,lks,rts,sb,ints,hh]|(refine uD h0 ?_ ?_ ?_;exact tz hw;exact rfl))
 refine S.cond rfl (fun hc=>?_) (fun hc=>?_)
 ·rw [if_pos (by simpa using hc)] at hJ
  rw [hJ]
  (repeat first|refine uA ?_|(refine uK ?_ ?_;focus first|omega|(intros;simp_all<;>omega))|simp (disch:=omega) only [go_sem])
  exact S.done (j3.out rfl (Imp.refl rfl) rfl)
 rw [if_neg (by simpa using hc)] at hJ
 (repeat first|refine uA ?_|(refine uK ?_ ?_;focus first|omega|(intros;simp_all<;>omega))|simp (disch:=omega) only [go_sem,Nat.reduceBEq,Nat.reduceAdd]|(refine uD h1 ?_ ?_ ?_;exact tz hw;exact rfl))
 refine S.cond rfl (fun hc=>by simp at hc) (fun hc=>?_)
 clear h0 h1
 (repeat first|refine uA ?_|(refine uK ?_ ?_;focus first|omega|(intros;simp_all<;>omega))|simp (disch:=omega) only [go_sem,Nat.reduceBEq,Nat.reduceAdd,c7i])
 refine S.loop (X:=Nat) (fun i=>⟨[(2,ints n),(3,cls lease),(5,.bp 0 0),(6,.bp 1 0),(11,.bp 2 0),(12,.bp 3 0),(13,.sl 6 (Q.map Sp.enc)),(14,.bp 4 0),(57,lks a.links),(58,ints a.links.length),(59,ints i)],[.box 31 w.enc,.box 37 s.enc,.box 69 a.enc,.box 49 x.enc,.box 3 [ints t]]⟩)
  (fun i=>i<=a.links.length/\∀ (j:Nat) (z:Lk × Sp),j < i->(a.links.zip Q)[j]?=some z->(decide (Nm.q9 z.2.lo (Nm.d9 z.1.low) < 0) || decide (0 < Nm.q9 z.2.hi (Nm.d9 z.1.high)))=false) (fun i=>a.links.length-i) 0 ⟨c7n _,fun _ _ h=>absurd h (Nat.not_lt_zero _)⟩ (by simp only [Wk.enc,Stt.enc,Am.enc,Ast.enc,ams,wls,pts,sls,gts,lks,P9,frs,bls,rts,vts,cls,sb,ints,hh];exact (by (repeat first|refine uA ?_|(refine ⟨?_,?_⟩;focus first|rfl|simp [slot])|rfl|simp))) ?_
 rintro i ⟨hi,hm⟩
 simp only [Wk.enc,Stt.enc,Am.enc,Ast.enc,ams,wls,pts,sls,gts,lks,P9,frs,bls,rts,vts,cls,sb,ints,hh]
 (repeat first|refine uA ?_|(refine uK ?_ ?_;focus first|omega|(intros;simp_all<;>omega))|simp (disch:=omega) only [go_sem,Nat.reduceBEq])
 (refine uJ rfl (fun hc=>?_) fun hc=>?_)
 ·have hi':i < a.links.length:=by omega
  have hgl:=c7h hi'
  have hgq:=c7h (show i < Q.length by omega)
  generalize a.links[i]=l at hgl
  generalize Q[i]'_=z at hgq
  have rl:=hlk l (c7k hgl)
  have rz:=hqz z (c7k hgq)
  have o1:=Q9 (Nm.ofQ z.lo) l.low (rz.1.mono (by decide)) (rl.2.1.mono (by decide))
  have o2:=Q9 (Nm.ofQ z.hi) l.high (rz.2.mono (by decide)) (rl.2.2.1.mono (by decide))
  rw [Nm.q8] at o1 o2
  have hz:=O1 hgl hgq
  have hit:=fun hp=>a8G (p:=fun z:Lk × Sp=>decide (Nm.q9 z.2.lo (Nm.d9 z.1.low) < 0) || decide (0 < Nm.q9 z.2.hi (Nm.d9 z.1.high))) hz hp
  have nxt:=fun hp=>a4a (p:=fun z:Lk × Sp=>decide (Nm.q9 z.2.lo (Nm.d9 z.1.low) < 0) || decide (0 < Nm.q9 z.2.hi (Nm.d9 z.1.high))) hz hp hm
  simp only at hit nxt
  clear rl rz
  generalize Nm.q9 z.lo (Nm.d9 l.low)=c1 at *
  generalize Nm.q9 z.hi (Nm.d9 l.high)=c2 at *
  simp only [rc,sb,ints] at o1 o2
  (repeat first|refine uA ?_|(refine uK ?_ ?_;focus first|omega|(intros;simp_all<;>omega))|simp (disch:=omega) only [go_sem,Nat.reduceBEq,Nat.reduceAdd,hgl,hgq,c7j,c7i,c7r,Lk.enc,Sp.enc,Sn.enc,snQ,vts,sb,c7o]|(refine uD o1 ?_ ?_ ?_;exact tz hw;exact rfl)|(refine uD o2 ?_ ?_ ?_;exact tz hw;exact rfl))
  refine S.cond rfl (fun hc=>?_) (fun hc=>?_)
  ·have hL:b3O a.links Q=true:=hit (by revert hc;by_cases k1:c1 < 0<;>by_cases k2:0 < c2<;>simp [k1,k2])
   rw [if_pos hL] at hJ
   rw [hJ]
   (repeat first|refine uA ?_|(refine uK ?_ ?_;focus first|omega|(intros;simp_all<;>omega))|simp (disch:=omega) only [go_sem])
   exact S.done (j3.out rfl (Imp.refl rfl) rfl)
  ·have hp:=nxt (by revert hc;by_cases k1:c1 < 0<;>by_cases k2:0 < c2<;>simp [k1,k2])
   (repeat first|refine uA ?_|(refine uK ?_ ?_;focus first|omega|(intros;simp_all<;>omega))|simp (disch:=omega) only [go_sem,Nat.reduceBEq,ww])
   refine S.next (x:=i) (i+1) ⟨by omega,hp⟩ (by omega) (by (repeat first|refine uA ?_|(refine ⟨?_,?_⟩;focus first|rfl|simp [slot])|rfl|simp))
 have hi':i=a.links.length:=by omega
 subst hi'
 have hL:b3O a.links Q=false:=a6U fun j z hj hz=>hm j z (by rw [List.length_zip] at hj;omega) hz
 rw [if_neg (by rw [hL];decide)] at hJ
 clear hm hL
 (repeat first|refine uA ?_|(refine uK ?_ ?_;focus first|omega|(intros;simp_all<;>omega))|simp (disch:=omega) only [go_sem,Nat.reduceBEq,Nat.reduceAdd]|(refine uD h2 ?_ ?_ ?_;exact tz hw;exact rfl))
 refine S.cond rfl (fun hc=>by simp at hc) (fun hc=>?_)
 clear h2
 (repeat first|refine uA ?_|(refine uK ?_ ?_;focus first|omega|(intros;simp_all<;>omega))|simp (disch:=omega) only [go_sem,Nat.reduceBEq,c7i])
 clear hi hlk hqz hql
 refine S.loop (X:=Nat) (fun i=>⟨[(3,cls lease),(5,.bp 0 0),(6,.bp 1 0),(14,.bp 4 0),(18,.bp 5 0),(96,.sl 12 (bs.map Bq.enc)),(97,ints bs.length),(98,ints i)],[.box 31 w.enc,.box 37 s.enc,.gone,.gone,.box 3 [ints t],.box 78 [.sl 12 (bs.map Bq.enc)]]⟩)
  (fun i=>i<=bs.length/\∀ (j:Nat) (b:Bq),j < i->bs[j]?=some b->(!decide (ofE b=0) || !a0k (ofC b) lease)=false) (fun i=>bs.length-i) 0 ⟨c7n _,fun _ _ h=>absurd h (Nat.not_lt_zero _)⟩ (by simp only [Wk.enc,Stt.enc,ams,wls,pts,sls,gts,P9,frs,bls,vts,cls,sb,ints];exact (by (repeat first|refine uA ?_|(refine ⟨?_,?_⟩;focus first|rfl|simp [slot])|rfl|simp))) ?_
 rintro i ⟨hi,hm⟩
 simp only [Wk.enc,Stt.enc,ams,wls,pts,sls,gts,P9,frs,bls,vts,cls,sb,ints]
 (repeat first|refine uA ?_|(refine uK ?_ ?_;focus first|omega|(intros;simp_all<;>omega))|simp (disch:=omega) only [go_sem,Nat.reduceBEq])
 (refine uJ rfl (fun hc=>?_) fun hc=>?_)
 ·have hi':i < bs.length:=by omega
  have hg:=c7h hi'
  generalize bs[i]=b at hg
  have hbm:=c7k hg
  have o1:=c4O b (hb30 b hbm)
  have o2:=c2e (ofC b) lease (c7l (b1u b) (by decide)) (by omega)
  have hit:=fun hp=>a8G (p:=fun b=>!decide (ofE b=0) || !a0k (ofC b) lease) hg hp
  have nxt:=fun hp=>a4a (p:=fun b=>!decide (ofE b=0) || !a0k (ofC b) lease) hg hp hm
  generalize a0k (ofC b) lease=wi at *
  generalize ofC b=D at *
  generalize ofE b=e at *
  simp only [Bq.enc,cls,sb,ints] at o1 o2
  (repeat first|refine uA ?_|(refine uK ?_ ?_;focus first|omega|(intros;simp_all<;>omega))|simp (disch:=omega) only [go_sem,Nat.reduceBEq,Nat.reduceAdd,hg,c7j,c7i,c7r,Bq.enc,sb,c7o]|(refine uB o2 ?_ ?_;exact rfl)|(refine uD o1 ?_ ?_ ?_;exact tz hw;exact rfl))
  refine S.cond rfl (fun hc=>?_) (fun hc=>?_)
  ·have hL:a3b bs lease=true:=hit (by revert hc;by_cases k1:e=0<;>cases wi<;>simp [k1])
   rw [if_pos hL] at hJ
   rw [hJ]
   (repeat first|refine uA ?_|(refine uK ?_ ?_;focus first|omega|(intros;simp_all<;>omega))|simp (disch:=omega) only [go_sem])
   exact S.done (j3.out rfl (Imp.refl rfl) rfl)
  ·have hp:=nxt (by revert hc;by_cases k1:e=0<;>cases wi<;>simp [k1])
   (repeat first|refine uA ?_|(refine uK ?_ ?_;focus first|omega|(intros;simp_all<;>omega))|simp (disch:=omega) only [go_sem,Nat.reduceBEq,ww])
   refine S.next (x:=i) (i+1) ⟨by omega,hp⟩ (by omega) (by (repeat first|refine uA ?_|(refine ⟨?_,?_⟩;focus first|rfl|simp [slot])|rfl|simp))
 have hi':i=bs.length:=by omega
 subst hi'
 have hL:a3b bs lease=false:=a6U fun j z hj hz=>hm j z hj hz
 rw [if_neg (by rw [hL];decide)] at hJ
 clear hm hL hi
 (repeat first|refine uA ?_|(refine uK ?_ ?_;focus first|omega|(intros;simp_all<;>omega))|simp (disch:=omega) only [go_sem,Nat.reduceBEq,c7i])
 refine S.loop (X:=Nat) (fun i=>⟨[(5,.bp 0 0),(6,.bp 1 0),(14,.bp 4 0),(18,.bp 5 0),(116,.sl 12 (bs.map Bq.enc)),(117,ints bs.length),(118,ints i)],[.box 31 w.enc,.box 37 s.enc,.gone,.gone,.box 3 [ints t],.box 78 [.sl 12 (bs.map Bq.enc)]]⟩)
  (fun i=>i<=bs.length/\∀ (j:Nat) (b:Bq),j < i->bs[j]?=some b->(w.walls.any fun l=>a8k (Z9 b) l)=false) (fun i=>bs.length-i) 0 ⟨c7n _,fun _ _ h=>absurd h (Nat.not_lt_zero _)⟩ (by simp only [Wk.enc,Stt.enc,ams,wls,pts,sls,gts,P9,frs,bls,vts,sb,ints];exact (by (repeat first|refine uA ?_|(refine ⟨?_,?_⟩;focus first|rfl|simp [slot])|rfl|simp))) ?_
 rintro i ⟨hi,hm⟩
 simp only [Wk.enc,Stt.enc,ams,wls,pts,sls,gts,P9,frs,bls,vts,sb,ints]
 (repeat first|refine uA ?_|(refine uK ?_ ?_;focus first|omega|(intros;simp_all<;>omega))|simp (disch:=omega) only [go_sem,Nat.reduceBEq])
 (refine uJ rfl (fun hc=>?_) fun hc=>?_)
 ·have hi':i < bs.length:=by omega
  have hg:=c7h hi'
  generalize bs[i]=b at hg
  have hbm:=c7k hg
  have o1:=c1S b (hb32 b hbm)
  have o2:=c5e 69 (by kernel_rfl) [vts (Z9 b)] (fun l=>a8k (Z9 b) l) w.walls (by have:=hwl.1;omega) (fun l hl=>c2w (Z9 b) l (hsq b hbm) ⟨c7l (hwl.2 l hl).1 (by decide),fun v hv=>((hwl.2 l hl).2 v hv).mono (by decide)⟩)
  have hit:=fun hp=>a8G (p:=fun b=>w.walls.any fun l=>a8k (Z9 b) l) hg hp
  have nxt:=fun hp=>a4a (p:=fun b=>w.walls.any fun l=>a8k (Z9 b) l) hg hp hm
  generalize (w.walls.any fun l=>a8k (Z9 b) l)=wi at *
  generalize Z9 b=D at *
  simp only [Bq.enc,wls,vts,sb] at o1 o2
  (repeat first|refine uA ?_|(refine uK ?_ ?_;focus first|omega|(intros;simp_all<;>omega))|simp (disch:=omega) only [go_sem,Nat.reduceBEq,Nat.reduceAdd,hg,c7j,c7i,c7r,Bq.enc,sb,c7o]|(refine uD o1 ?_ ?_ ?_;exact tz hw;exact rfl)|(refine uE o2 ?_ ?_ ?_ ?_;exact tz hw;exact rfl;focus (repeat' first|exact j4.nil|exact Imp.refl rfl|exact Imp.F8|exact Imp.fbx rfl rfl (j4.refl rfl) rfl rfl|refine Imp.clo ?_|exact Imp.frz rfl rfl rfl|(refine Imp.V5 rfl rfl ?_ ?_;(focus ((try simp only [c7t,hg,c7j,c7i,c7r,Bq.enc,sb,c7o]);omega));(focus first|rfl|assumption))|refine Imp.agg ?_|refine j4.cons ?_ ?_);done))
  refine S.cond rfl (fun hc=>?_) (fun hc=>?_)
  ·have hL:b3Q bs w.walls=true:=hit hc
   rw [if_pos hL] at hJ
   rw [hJ]
   (repeat first|refine uA ?_|(refine uK ?_ ?_;focus first|omega|(intros;simp_all<;>omega))|simp (disch:=omega) only [go_sem])
   exact S.done (j3.out rfl (Imp.refl rfl) rfl)
  ·have hp:=nxt hc
   (repeat first|refine uA ?_|(refine uK ?_ ?_;focus first|omega|(intros;simp_all<;>omega))|simp (disch:=omega) only [go_sem,Nat.reduceBEq,ww])
   refine S.next (x:=i) (i+1) ⟨by omega,hp⟩ (by omega) (by (repeat first|refine uA ?_|(refine ⟨?_,?_⟩;focus first|rfl|simp [slot])|rfl|simp))
 have hi':i=bs.length:=by omega
 subst hi'
 have hL:b3Q bs w.walls=false:=a6U fun j z hj hz=>hm j z hj hz
 rw [if_neg (by rw [hL];decide)] at hJ
 clear hm hL hi
 (repeat first|refine uA ?_|(refine uK ?_ ?_;focus first|omega|(intros;simp_all<;>omega))|simp (disch:=omega) only [go_sem,Nat.reduceBEq,Nat.reduceAdd])
 refine uE h5 ?_ ?_ ?_ ?_
 ·exact tz hw
 ·exact rfl
 ·exact j4.cons (Imp.refl rfl) (j4.cons (Imp.clo (j4.cons (Imp.fbx rfl rfl (j4.cons (Imp.clo (j4.cons (Imp.fbx rfl rfl (j4.refl rfl) rfl rfl) j4.nil)) j4.nil) rfl rfl) (j4.cons (Imp.fbx rfl rfl (j4.refl rfl) rfl rfl) (j4.cons (Imp.fbx rfl rfl (j4.refl rfl) rfl rfl) j4.nil)))) j4.nil)
 clear h5
 (repeat first|refine uA ?_|(refine uK ?_ ?_;focus first|omega|(intros;simp_all<;>omega))|simp (disch:=omega) only [go_sem])
 refine S.cond rfl (fun hc=>by cases hc) (fun hc=>?_)
 (repeat first|refine uA ?_|(refine uK ?_ ?_;focus first|omega|(intros;simp_all<;>omega))|simp (disch:=omega) only [go_sem,Nat.reduceBEq,Nat.reduceAdd,c7i])
 refine S.loop (X:=Nat) (fun i=>⟨[(5,.bp 0 0),(6,.bp 1 0),(14,.bp 4 0),(26,.bp 6 0),(135,gts w.gates),(136,ints w.gates.length),(137,ints i)],[.box 31 w.enc,.box 37 s.enc,.gone,.gone,.box 3 [ints t],.box 78 [.sl 12 (bs.map Bq.enc)],.box 140 [.clo 71 [.bp 5 0]]]⟩)
  (fun i=>i<=w.gates.length) (fun i=>w.gates.length-i) 0 (c7n _) (by simp only [Wk.enc,Stt.enc,ams,wls,pts,sls,gts,P9,frs,bls,vts,sb,ints];exact (by (repeat first|refine uA ?_|(refine ⟨?_,?_⟩;focus first|rfl|simp [slot])|rfl|simp))) ?_
 intro i hi
 simp only [Wk.enc,Stt.enc,ams,wls,pts,sls,gts,P9,frs,bls,vts,sb,ints]
 (repeat first|refine uA ?_|(refine uK ?_ ?_;focus first|omega|(intros;simp_all<;>omega))|simp (disch:=omega) only [go_sem,Nat.reduceBEq])
 (refine uJ rfl (fun hc=>?_) fun hc=>?_)
 ·have hi':i < w.gates.length:=by omega
  have hg:=c7h hi'
  have hgo:=c7h (show i < s.gates.length by omega)
  generalize w.gates[i]=g at hg
  generalize s.gates[i]'_=o at hgo
  have ho:=hgc o (c7k hgo)
  subst ho
  (repeat first|refine uA ?_|(refine uK ?_ ?_;focus first|omega|(intros;simp_all<;>omega))|simp (disch:=omega) only [go_sem,Nat.reduceBEq,Nat.reduceAdd,hg,hgo,c7j,c7i,c7r,Gt.enc,sb,c7o,hgn])
  refine X6.mk (r:=.v (.bool false)) (fun hp=>by cases hp) ?_
  (repeat first|refine uA ?_|(refine uK ?_ ?_;focus first|omega|(intros;simp_all<;>omega))|simp (disch:=omega) only [go_sem,Nat.reduceBEq])
  refine X6.mk (r:=.v (.bool false)) (fun hp=>by cases hp) ?_
  (repeat first|refine uA ?_|(refine uK ?_ ?_;focus first|omega|(intros;simp_all<;>omega))|simp (disch:=omega) only [go_sem,Nat.reduceBEq])
  refine X6.mk (r:=.v (.bool false)) (fun hp=>by cases hp) ?_
  (repeat first|refine uA ?_|(refine uK ?_ ?_;focus first|omega|(intros;simp_all<;>omega))|simp (disch:=omega) only [go_sem,Nat.reduceBEq,hcal])
  refine X6.mk (r:=.v (.bool false)) (fun hp=>by cases hp) ?_
  (repeat first|refine uA ?_|(refine uK ?_ ?_;focus first|omega|(intros;simp_all<;>omega))|simp (disch:=omega) only [go_sem,Nat.reduceBEq])
  refine S.cond rfl (fun hc=>by simp at hc) (fun hc=>?_)
  (repeat first|refine uA ?_|(refine uK ?_ ?_;focus first|omega|(intros;simp_all<;>omega))|simp (disch:=omega) only [go_sem,Nat.reduceBEq,ww])
  refine S.next (i+1) (by omega) (by omega) (by (repeat first|refine uA ?_|(refine ⟨?_,?_⟩;focus first|rfl|simp [slot])|rfl|simp))
 ·have hi':i=w.gates.length:=by omega
  subst hi'
  rw [hJ]
  (repeat first|refine uA ?_|(refine uK ?_ ?_;focus first|omega|(intros;simp_all<;>omega))|simp (disch:=omega) only [go_sem])
  exact S.done (j3.out rfl (Imp.refl rfl) rfl)
def a6c:H6:=⟨98,[.tmp 8,.tmp 9,.tmp 10],.seq (.reg [OA 4 (.box 31 (TT 0)),OA 5 (.box 37 (TT 1)),OA 8 (.mv (.const (.slice none 0 0))),OA 9 (.mv (.const (.slice none 0 0))),OA 10 (.mv (II 0))]) (.seq (.seq (.reg [LL 21 8 4,LL 22 5 5,
 OA 23 (.call 24 [TT 21,TT 22]),MM 11 23]) (.seq (.reg [MM 24 11,OA 25 (.bin .neq (TT 24) (II 0))]) (.cond (TT 25) (.seq (.reg [MM 26 11,OA 8 (.mv (.const (.slice none 0 0))),OA 9 (.mv (.const (.slice none 0 0))),MM 10 26])
 .ret) .skip))) (.seq (.seq (.reg [MM 27 2,OA 28 (.len false (TT 27)),FF 29 0 4,VV 30 29,OA 31 (.len false (TT 30)),OA 32 (.bin .neq (TT 28) (TT 31)),MM 33 32,MG 34 3 33 false,OC 35 (.len false (TT 34)) 33 false,FG 36 0
 4 33 false,VG 37 36 33 false,OC 38 (.len false (TT 37)) 33 false,OC 39 (.bin .neq (TT 35) (TT 38)) 33 false,OA 40 (.pick (TT 33) (.const (.bool true)) (TT 39))]) (.cond (TT 40) (.seq (.reg [OA 8 (.mv (.const (.slice none 0
 0))),OA 9 (.mv (.const (.slice none 0 0))),OA 10 (.mv (II 1))]) .ret) .skip)) (.seq (.seq (.reg [MM 41 2,OA 42 (.len false (TT 41)),OA 43 (.mv (II 0))]) (.block 0 (.loop (.seq (.reg [OA 44 (.bin .lss (TT 43) (TT 42))]) (.seq
 (.cond (TT 44) .skip (.exit 0)) (.seq (.block 1 (.seq (.reg [MM 45 43,OA 46 (.l7 1 (TT 41) (TT 43)),VV 47 46,MM 12 45,MM 13 47]) (.seq (.seq (.reg [MM 48 13,OA 49 (.call 25 [TT 48]),MM 14 49]) (.seq (.reg [MM 50 14,OA
 51 (.bin .neq (TT 50) (II 0))]) (.cond (TT 51) (.seq (.reg [MM 52 14,OA 8 (.mv (.const (.slice none 0 0))),OA 9 (.mv (.const (.slice none 0 0))),MM 10 52]) .ret) .skip))) (.seq (.reg [MM 53 2,MM 54 12,OA 55 (.a0L 1 (TT 53)
 none (some (TT 54))),OA 56 (.len false (TT 55)),OA 57 (.mv (II 0))]) (.block 2 (.loop (.seq (.reg [OA 58 (.bin .lss (TT 57) (TT 56))]) (.seq (.cond (TT 58) .skip (.exit 2)) (.seq (.block 3 (.seq (.reg [OA 59 (.l7 1 (TT 55)
 (TT 57)),VV 60 59,MM 16 60]) (.seq (.reg [MM 61 13,MM 62 16,OA 63 (.call 26 [TT 61,TT 62]),OA 64 (.len false (TT 63)),OA 65 (.bin .gtr (TT 64) (II 0))]) (.cond (TT 65) (.seq (.reg [OA 8 (.mv (.const (.slice none 0 0))),
 OA 9 (.mv (.const (.slice none 0 0))),OA 10 (.mv (II 10))]) .ret) .skip)))) (.reg [OA 66 (.bin .add (TT 57) (II 1)),MM 57 66])))))))))) (.reg [OA 67 (.bin .add (TT 43) (II 1)),MM 43 67]))))))) (.seq (.reg [OA 17 (.mv (.const
 (.slice none 0 0)))]) (.seq (.reg [OA 18 (.mv (.const (.slice none 0 0)))]) (.seq (.seq (.reg [FF 68 0 4,VV 69 68,OA 70 (.len false (TT 69)),OA 71 (.mv (II 0))]) (.block 4 (.loop (.seq (.reg [OA 72 (.bin .lss (TT 71) (TT
 70))]) (.seq (.cond (TT 72) .skip (.exit 4)) (.seq (.block 5 (.seq (.reg [MM 73 71,MM 19 73]) (.seq (.y9 [.q,.q,.q,.q,.q,.q,.q,.q,.q,.q,.q,.q,.q] [LL 74 8 4,LL 75 5 5,MM 76 19,MM 77 2,MM 78 19,OA 79 (.l7 1
 (TT 77) (TT 78)),VV 80 79,MM 81 3,MM 82 19,OA 83 (.l7 1 (TT 81) (TT 82)),VV 84 83,OA 85 (.call 27 [TT 74,TT 75,TT 76,TT 80,TT 84]),MM 20 85]) (.reg [MM 86 17,MM 87 20,OA 88 (.bin .eql (TT 87) (II 0)),OA 89 (.bsl
 4 1 1 [.bool false] [(0,TT 88)]),OA 90 (.app 4 1 1 (TT 86) (TT 89)),MM 91 18,MM 92 20,OA 93 (.bsl 3 1 1 [.int .i64 0] [(0,TT 92)]),OA 94 (.app 3 1 8 (TT 91) (TT 93)),MM 17 90,MM 18 94])))) (.reg [OA 95 (.bin .add (TT
 71) (II 1)),MM 71 95]))))))) (.seq (.reg [MM 96 17,MM 97 18,MM 8 96,MM 9 97,OA 10 (.mv (II 0))]) .ret)))))))⟩
theorem b1C:F3 eff Tryz.prog Tryz.f10=some a6c:=by kernel_rfl
theorem b2m:Tryz.prog.funcs[10]?=some Tryz.f10:=Tryz.func10
set_option maxHeartbeats 16000000
def a2h (ls:List (List Cl)) (i:Nat) (m:List Cl):Bool:=decide (0 < (a1F (ls.getD i []) m).length)
theorem b9T {ls:List (List Cl)} {i:Nat} (hi:i < ls.length) (h:(ls.take i).any (a2h ls i)=true):Q8 ls=true:=List.any_eq_true.2 ⟨i,List.mem_range.2 hi,h⟩
theorem b8L {ls:List (List Cl)} (h:∀ i,i < ls.length->(ls.take i).any (a2h ls i)=false):Q8 ls=false:=by
 unfold Q8
 rw [List.any_eq_false]
 intro i hi
 have:=h i (List.mem_range.1 hi)
 unfold a2h at this
 rw [this]
 decide
def powC (R:List Int):C:=.sl 1 (R.map fun r=>[.v (.bool (decide (r=0)))])
theorem c4b (w:Wk) (s:Stt) (ls:List (List Cl)) (us:List (List Nm.Rt)) (R:List Int) (hwb:Wb 1073741824 w) (hsb:Stb 1073741824 s) (hst:U1 w s=0) (hl:ls.length=w.arms.length) (hu:us.length=w.arms.length) (hR:R.length=w.arms.length) (hn:w.arms.length<=1000)
  (hg:∀ l ∈ ls,a2O l) (hj:∀ (n:Nat) (l:List Cl) (u:List Nm.Rt) (r:Int),ls[n]?=some l->us[n]?=some u->R[n]?=some r->FZ 27 [w.c,s.c,ints n,cls l,rts u] (ints r)) :
  FZ 10 [w.c,s.c,P7 ls,wss us] (.tup [powC (if Q8 ls=true then [] else R),x9 (if Q8 ls=true then [] else R),ints (if Q8 ls=true then 10 else 0)]):=by
 refine kW b2m b1C (by rfl) fun w' O hw=>?_
 have h0:=b5g w s hwb hsb
 rw [hst] at h0
 have hit:=fun (i:Nat) (hi:i < ls.length) (h:(ls.take i).any (a2h ls i)=true)=>b9T hi h
 have miss:=fun (h:∀ i,i < ls.length->(ls.take i).any (a2h ls i)=false)=>b8L h
 generalize Q8 ls=K at *
 clear hwb hsb hst
 simp only [a6c,j5,TT,II,OA,OC,MM,LL,VV,FF,MG,VG,FG]
 simp only [Wk.c,Wk.enc,Stt.c,Stt.enc,ams,wls,pts,sls,gts,P9,frs,bls,vts,P7,cls,wss,rts,powC,x9,sb,ints] at h0 hj ⊢
 (repeat first|refine uA ?_|(refine uK ?_ ?_;focus first|omega|(intros;simp_all<;>omega))|simp (disch:=omega) only [go_sem,Nat.reduceBEq,Nat.reduceAdd]|(refine uD h0 ?_ ?_ ?_;exact tz hw;exact rfl))
 refine S.cond rfl (fun hc=>by simp at hc) (fun hc=>?_)
 clear h0
 (repeat first|refine uA ?_|(refine uK ?_ ?_;focus first|omega|(intros;simp_all<;>omega))|simp (disch:=omega) only [go_sem,Nat.reduceBEq,Nat.reduceAdd,c7i,hl,hu])
 refine S.cond rfl (fun hc=>by simp at hc) (fun hc=>?_)
 (repeat first|refine uA ?_|(refine uK ?_ ?_;focus first|omega|(intros;simp_all<;>omega))|simp (disch:=omega) only [go_sem,Nat.reduceBEq,c7i])
 refine S.loop (X:=Nat) (fun i=>⟨[(2,P7 ls),(3,wss us),(4,.bp 0 0),(5,.bp 1 0),(41,P7 ls),(42,ints ls.length),(43,ints i)],[.box 31 w.enc,.box 37 s.enc]⟩)
  (fun i=>i<=ls.length/\∀ k,k < i->(ls.take k).any (a2h ls k)=false) (fun i=>ls.length-i) 0 ⟨c7n _,fun _ h=>absurd h (Nat.not_lt_zero _)⟩ (by simp only [Wk.enc,Stt.enc,ams,wls,pts,sls,gts,P9,frs,bls,vts,P7,cls,wss,rts,sb,ints];exact (by (repeat first|refine uA ?_|(refine ⟨?_,?_⟩;focus first|rfl|simp [slot])|rfl|simp))) ?_
 rintro i ⟨hi,hm⟩
 simp only [Wk.enc,Stt.enc,ams,wls,pts,sls,gts,P9,frs,bls,vts,P7,cls,wss,rts,sb,ints]
 (repeat first|refine uA ?_|(refine uK ?_ ?_;focus first|omega|(intros;simp_all<;>omega))|simp (disch:=omega) only [go_sem,Nat.reduceBEq])
 (refine uJ rfl (fun hc=>?_) fun hc=>?_)
 ·have hi':i < ls.length:=by omega
  have hgl:=c7h hi'
  generalize ls[i]=l at hgl
  have gl:=hg l (c7k hgl)
  have o1:=c1w l gl
  have hgd:ls.getD i []=l:=by rw [c7u,hgl];rfl
  have hti:=hit i hi'
  have htl:(ls.take i).length=i:=by rw [c7s];omega
  have htm:∀ m ∈ ls.take i,a2O m:=fun m hm=>hg m (List.mem_of_mem_take hm)
  unfold a2h at hti
  rw [hgd] at hti
  have hmi:a2h ls i=fun m=>decide (0 < (a1F l m).length):=by unfold a2h;rw [hgd]
  generalize hT:ls.take i=T at *
  have hTe:List.take i (ls.map fun l=>[C.sl 2 (l.map ce)])=T.map fun l=>[C.sl 2 (l.map ce)]:=by rw [<- List.map_take,hT]
  simp only [cls,ints] at o1
  (repeat first|refine uA ?_|(refine uK ?_ ?_;focus first|omega|(intros;simp_all<;>omega))|simp (disch:=omega) only [go_sem,Nat.reduceBEq,c7i,c7r,hgl,c7j,c7o]|(refine uB o1 ?_ ?_;exact rfl))
  refine S.cond rfl (fun hc=>by simp at hc) (fun hc=>?_)
  (repeat first|refine uA ?_|(refine uK ?_ ?_;focus first|omega|(intros;simp_all<;>omega))|simp (disch:=omega) only [go_sem,Nat.reduceBEq,c7i,c7o,List.drop_zero,Nat.sub_zero,hTe,htl,Int.toNat_zero])
  refine S.loop (X:=Nat) (fun j=>⟨[(2,P7 ls),(3,wss us),(4,.bp 0 0),(5,.bp 1 0),(12,ints i),(13,cls l),(41,P7 ls),(42,ints ls.length),(43,ints i),(55,P7 T),(56,ints i),(57,ints j)],[.box 31 w.enc,.box 37 s.enc]⟩)
   (fun j=>j<=i/\∀ (k:Nat) (m:List Cl),k < j->T[k]?=some m->decide (0 < (a1F l m).length)=false) (fun j=>i-j) 0 ⟨c7n _,fun _ _ h=>absurd h (Nat.not_lt_zero _)⟩ (by simp only [Wk.enc,Stt.enc,ams,wls,pts,sls,gts,P9,frs,bls,vts,P7,cls,wss,rts,sb,ints];exact (by (repeat first|refine uA ?_|(refine ⟨?_,?_⟩;focus first|rfl|simp [slot])|rfl|simp))) ?_
  rintro j ⟨hj',hk⟩
  clear o1
  simp only [Wk.enc,Stt.enc,ams,wls,pts,sls,gts,P9,frs,bls,vts,P7,cls,wss,rts,sb,ints]
  (repeat first|refine uA ?_|(refine uK ?_ ?_;focus first|omega|(intros;simp_all<;>omega))|simp (disch:=omega) only [go_sem,Nat.reduceBEq])
  (refine uJ rfl (fun hc=>?_) fun hc=>?_)
  ·have hgm:=c7h (show j < T.length by omega)
   generalize T[j]'_=m at hgm
   have gm:=htm m (c7k hgm)
   have o2:=c4Y l m (c7l gl.1 (by decide)) (c7l gm.1 (by decide))
   have hml:(a1F l m).length<=400:=c7l (List.length_filter_le _ _) (c7l (a4d l) gl.1)
   have hit2:=fun hp=>a8G (p:=fun m=>decide (0 < (a1F l m).length)) hgm hp
   have nxt:=fun hp=>a4a (p:=fun m=>decide (0 < (a1F l m).length)) hgm hp hk
   generalize a1F l m=M at *
   simp only [cls] at o2
   (repeat first|refine uA ?_|(refine uK ?_ ?_;focus first|omega|(intros;simp_all<;>omega))|simp (disch:=omega) only [go_sem,Nat.reduceBEq,c7i,c7r,hgm,c7j,c7o]|(refine uB o2 ?_ ?_;exact rfl))
   (refine uJ rfl (fun hc=>?_) fun hc=>?_)
   ·have hK:=hti (hit2 (decide_eq_true (by omega)))
    subst hK
    simp only [if_true,c7I]
    (repeat first|refine uA ?_|(refine uK ?_ ?_;focus first|omega|(intros;simp_all<;>omega))|simp (disch:=omega) only [go_sem])
    (refine S.done ?_;simp only [p9,go_sem,Nat.reduceBEq];(repeat (refine ⟨?_,?_⟩;focus first|trivial|omega|simp));exact j3.out rfl (Imp.tup (by (repeat' (first|exact j4.nil|exact Imp.refl rfl|exact Imp.frz rfl rfl rfl|exact Imp.F8|refine Imp.agg ?_|refine j4.cons ?_ ?_)))) rfl)
   ·have hp:=nxt (decide_eq_false (by omega))
    (repeat first|refine uA ?_|(refine uK ?_ ?_;focus first|omega|(intros;simp_all<;>omega))|simp (disch:=omega) only [go_sem,Nat.reduceBEq,ww])
    refine S.next (x:=j) (j+1) ⟨by omega,hp⟩ (by omega) (by (repeat first|refine uA ?_|(refine ⟨?_,?_⟩;focus first|rfl|simp [slot])|rfl|simp))
  ·have hje:j=i:=by omega
   subst hje
   have hno:(ls.take j).any (a2h ls j)=false:=by
    rw [hmi,hT]
    exact a6U fun k m hkl hkm=>hk k m (by omega) hkm
   (repeat first|refine uA ?_|(refine uK ?_ ?_;focus first|omega|(intros;simp_all<;>omega))|simp (disch:=omega) only [go_sem,Nat.reduceBEq,ww])
   refine S.next (x:=j) (j+1) ⟨by omega,fun k hk2=>?_⟩ (by omega) (by (repeat first|refine uA ?_|(refine ⟨?_,?_⟩;focus first|rfl|simp [slot])|rfl|simp))
   rcases c7D k j with h|h
   ·exact hm k h
   ·have:k=j:=by omega
    subst this
    exact hno
 have hi':i=ls.length:=by omega
 subst hi'
 have hK:=miss fun k hk=>hm k hk
 subst hK
 simp only [c7Q,if_false]
 clear hm hit miss hi
 (repeat first|refine uA ?_|(refine uK ?_ ?_;focus first|omega|(intros;simp_all<;>omega))|simp (disch:=omega) only [go_sem,Nat.reduceBEq,Nat.reduceAdd,c7i])
 refine S.loop (X:=Nat) (fun i=>⟨[(2,P7 ls),(3,wss us),(4,.bp 0 0),(5,.bp 1 0),(17,.rv 2),(18,.rv 3),(69,ams w.arms),(70,ints w.arms.length),(71,ints i)],[.box 31 w.enc,.box 37 s.enc,.row 4 1 ((R.take i).map fun r=>[.v (.bool (decide (r=0)))]),.row 3 1 ((R.take i).map fun r=>[ints r])]⟩)
  (fun i=>i<=w.arms.length) (fun i=>w.arms.length-i) 0 (c7n _) (Ent.trans (Ent.pack 17 4 1 rfl) (Ent.trans (Ent.pack 18 3 1 rfl) (by simp only [Wk.enc,Stt.enc,ams,wls,pts,sls,gts,P9,frs,bls,vts,P7,cls,wss,rts,sb,ints,List.take_zero,c7I];exact (by (repeat first|refine uA ?_|(refine ⟨?_,?_⟩;focus first|rfl|simp [slot])|rfl|simp))))) ?_
 intro i hi
 simp only [Wk.enc,Stt.enc,ams,wls,pts,sls,gts,P9,frs,bls,vts,P7,cls,wss,rts,sb,ints]
 (repeat first|refine uA ?_|(refine uK ?_ ?_;focus first|omega|(intros;simp_all<;>omega))|simp (disch:=omega) only [go_sem,Nat.reduceBEq])
 (refine uJ rfl (fun hc=>?_) fun hc=>?_)
 ·have hi':i < w.arms.length:=by omega
  have hgl:=c7h (show i < ls.length by omega)
  have hgu:=c7h (show i < us.length by omega)
  have hgr:=c7h (show i < R.length by omega)
  generalize ls[i]'_=l at hgl
  generalize us[i]'_=u at hgu
  generalize R[i]'_=r at hgr
  have o1:=hj i l u r hgl hgu hgr
  have hil:(i:Int) < ls.length:=by omega
  have hiu:(i:Int) < us.length:=by omega
  have htl:(R.take i).length=i:=by rw [c7s];omega
  have hap:=take_at hgr
  clear hj
  (repeat first|refine uA ?_|(refine uK ?_ ?_;focus first|omega|(intros;simp_all<;>omega))|simp (disch:=omega) only [go_sem,Nat.reduceBEq,Nat.reduceAdd,ww,c7i,c7r,hgl,hgu,c7j,c7o,hil,hiu,htl]|(refine uD o1 ?_ ?_ ?_;exact tz hw;exact rfl))
  refine S.next (i+1) (by omega) (by omega) (by simp only [hap,c7X,c7w,c7I];exact (by (repeat first|refine uA ?_|(refine ⟨?_,?_⟩;focus first|rfl|simp [slot])|rfl|simp)))
 ·have hi':i=w.arms.length:=by omega
  subst hi'
  rw [c7C (by omega)]
  (repeat first|refine uA ?_|(refine uK ?_ ?_;focus first|omega|(intros;simp_all<;>omega))|simp (disch:=omega) only [go_sem,Nat.reduceBEq])
  (refine S.done ?_;simp only [p9,go_sem,Nat.reduceBEq];(repeat (refine ⟨?_,?_⟩;focus first|trivial|omega|simp));exact j3.out rfl (Imp.tup (by (repeat' (first|exact j4.nil|exact Imp.refl rfl|exact Imp.frz rfl rfl rfl|exact Imp.F8|refine Imp.agg ?_|refine j4.cons ?_ ?_)))) rfl)
set_option maxHeartbeats 4000000
def a6o (x:Lk):Prop:=0<=Nm.d9 x.speed/\Nm.d9 x.speed<=8*Nm.d9 x.brake
theorem b8D (l:List Int):a6o (b3P l):=by
 have h1:=p8 (l.drop 3) (n:=8) (by decide)
 have h2:=C9 (l.drop 3) (n:=8) (by decide)
 have h3:=p8 (l.drop 4) (n:=20) (by decide)
 have h4:=C9 (l.drop 4) (n:=20) (by decide)
 show 0<=Nm.d9 (Q 1 (4+nx (l.drop 3) 8))/\Nm.d9 (Q 1 (4+nx (l.drop 3) 8))<=8*Nm.d9 (Q 1 (10+nx (l.drop 4) 20))
 rw [Nm.q8,Nm.q8]
 generalize nx (l.drop 3) 8=s at *
 generalize nx (l.drop 4) 20=b at *
 have hs:0<=mkRat 1 (4+s).toNat/\mkRat 1 (4+s).toNat<=mkRat 1 4:=by
  have:s=0 \/ s=1 \/ s=2 \/ s=3 \/ s=4 \/ s=5 \/ s=6 \/ s=7:=by omega
  rcases this with rfl|rfl|rfl|rfl|rfl|rfl|rfl|rfl<;>decide +kernel
 have hb:mkRat 1 32<=mkRat 1 (10+b).toNat:=by
  have:b=0 \/ b=1 \/ b=2 \/ b=3 \/ b=4 \/ b=5 \/ b=6 \/ b=7 \/ b=8 \/ b=9 \/ b=10 \/ b=11 \/ b=12 \/ b=13 \/ b=14 \/ b=15 \/ b=16 \/ b=17 \/ b=18 \/ b=19:=by omega
  rcases this with rfl|rfl|rfl|rfl|rfl|rfl|rfl|rfl|rfl|rfl|rfl|rfl|rfl|rfl|rfl|rfl|rfl|rfl|rfl|rfl<;>decide +kernel
 have e:mkRat 1 4=8*mkRat 1 32:=by decide +kernel
 refine ⟨hs.1,?_⟩
 grind
theorem a9a:∀ (n:Nat) (l:List Int),∀ x ∈ a1u n l,a6o x
 | 0,_,x,h=>by cases h
 | n+1,l,x,h=>by
  rw [a1u] at h
  rcases List.mem_cons.1 h with rfl|h
  ·exact b8D l
  ·exact a9a n _ x h
theorem b1f:∀ (k n:Nat) (l:List Int),∀ a ∈ a0C k n l,∀ x ∈ a.links,a6o x
 | 0,_,_,a,h=>by cases h
 | k+1,n,l,a,h=>by
  rw [a0C] at h
  rcases List.mem_cons.1 h with rfl|h
  ·exact a9a _ _
  ·exact b1f k _ _ a h
theorem c1Q (l:List Int):0 < (u6 l).arms.length:=by
 have h1:=p8 l (n:=2) (by decide)
 obtain ⟨k,hk⟩:∃ k,nA l=k+1:=⟨(nA l)-1,by unfold nA;omega⟩
 show 0 < (a0C (nA l) 0 (l.drop 1)).length
 rw [hk,a0C,c7A]
 omega
theorem c2f {x:Lk} {c q:Nm.Rt} (h:0<=Nm.d9 x.speed):E8 (Nm.d9 (a4o x c q))<=Nm.d9 x.speed:=by
 unfold a4o
 rw [Nm.q8]
 generalize Nm.d9 x.speed=s at *
 generalize Nm.d9 c-Nm.d9 q=d at *
 have h1:=(b7w (-s) (G9 s d)).1
 have h2:K6 (-s) (G9 s d)<=s:=by
  have:=b7A s d
  unfold K6
  split
  ·grind
  ·exact this.1
 rcases a3V (K6 (-s) (G9 s d)) with ⟨_,e⟩|⟨_,e⟩<;>rw [e]<;>grind
theorem c0M {B V:Rat} (hB:0 < B) (h:E8 V<=8*B):I6 B V<=8:=by
 have hq:E8 V / B<=8:=by
  have e:E8 V / B*B=E8 V:=Rat.div_mul_cancel (by grind)
  rcases (Rat.le_total:E8 V / B<=8 \/ 8<=E8 V / B) with h1|h1
  ·exact h1
  ·have h2:8*B<=E8 V / B*B:=Rat.mul_le_mul_of_nonneg_right h1 (by grind)
   have h3:E8 V / B*B=8*B:=by grind
   have h4:(E8 V / B-8)*B=0:=by grind
   rcases Rat.mul_eq_zero.1 h4 with h5|h5<;>grind
 unfold I6
 generalize E8 V / B=q at *
 have h1:=Rat.floor_le q
 have h8:(q.floor:Rat)<=((8:Int):Rat):=Rat.le_trans h1 hq
 have h9:q.floor<=8:=Rat.intCast_le_intCast.1 h8
 split
 ·rename_i h2
  have h10:(q.floor:Rat) < ((8:Int):Rat):=by
   have:q<=((8:Int):Rat):=hq
   grind
  have h11:q.floor < 8:=Rat.intCast_lt_intCast.1 h10
  omega
 ·exact h9
theorem b8k {L:List Lk} {c q:List Nm.Rt} (hq:∀ x ∈ L,a6o x) (hb:∀ x ∈ L,0 < E9 (Nm.d9 x.brake)):∀ z ∈ L.zip (a2M L c q),0<=I6 (Nm.d9 z.1.brake) (Nm.d9 z.2)/\I6 (Nm.d9 z.1.brake) (Nm.d9 z.2)<=8:=fun z hz=>by
 obtain ⟨i,hi⟩:=List.getElem?_of_mem hz
 rw [List.getElem?_zip_eq_some] at hi
 obtain ⟨e1,e2⟩:=hi
 have m:=c7k e1
 unfold a2M at e2
 rw [c7r,Option.map_eq_some_iff] at e2
 obtain ⟨⟨y,c',q'⟩,e3,e4⟩:=e2
 rw [List.getElem?_zip_eq_some] at e3
 have e5:=e3.1
 rw [e1] at e5
 injection e5 with e5
 obtain ⟨h1,h2⟩:=hq _ m
 have hB:=b0I (hb _ m)
 have h3:=c2f (c:=c') (q:=q') h1
 rw [<- e4]
 subst e5
 refine ⟨(a6Q hB).1,c0M hB ?_⟩
 simp only at h3 ⊢
 grind
theorem b8P {z:List (Lk × Nm.Rt)} (h:∀ x ∈ z,I6 (Nm.d9 x.1.brake) (Nm.d9 x.2)<=8):R7 z<=8:=by
 unfold R7
 have key:∀ (z:List (Lk × Nm.Rt)) (m:Int),m<=8->(∀ x ∈ z,I6 (Nm.d9 x.1.brake) (Nm.d9 x.2)<=8)->z.foldl (fun m z=>max m (I6 (Nm.d9 z.1.brake) (Nm.d9 z.2))) m<=8:=by
  intro z
  induction z with
  | nil=>intro m hm _;exact hm
  | cons x z ih=>
   intro m hm hx
   rw [List.foldl_cons]
   have:=hx x (by simp)
   exact ih _ (by omega) fun y hy=>hx y (by simp [hy])
 exact key z 0 (by decide) h
structure GInv (w:Wk) (a:Am) (q0 u0:List Nm.Rt) (i:Nat) (s:Stt):Prop where
 big:Stb 1048576 s
 people:s.people=[]
 tick:s.tick=i
 len:s.arms.length=w.arms.length
 two:U1 w s=0 \/ U1 w s=17
 calm:U1 w s=0->Calm w s i
 run:∃ y,s.arms[0]?=some y/\Run a q0 u0 i y
theorem c0n {a:Am} {c q:List Nm.Rt} (ha:J3 a=0) (hq:∀ x ∈ a.links,a6o x) (hb:∀ r ∈ a2M a.links c q,Rb 150 r) (i:Nat) (l:Lk) (x:Nm.Rt) (h1:a.links[i]?=some l) (h2:(a2M a.links c q)[i]?=some x):Few l x:=by
 have hl:=(O7 ha).2
 have hm:=hl l (c7k h1)
 exact ⟨(a7j hm).2.2.2,(hb x (c7k h2)).mono (by decide),b0o hm,(b8k hq (fun x hx=>b0o (hl x hx)) _ (c7k (O1 h1 h2))).2⟩
def a3g:H6:=⟨74,[.tmp 6],.seq (.reg [OA 3 (.box 31 (TT 0)),OA 4 (.box 37 (TT 1)),OA 6 (.mv (.const (.slice none 0 0)))]) (.seq (.reg [OA 7 (.mv (.const (.slice none 0 0)))]) (.seq (.seq (.reg [FF 14 0 3,VV 15 14,OA 16 (.len false (TT
 15)),OA 17 (.mv (II 0))]) (.block 0 (.loop (.seq (.reg [OA 18 (.bin .lss (TT 17) (TT 16))]) (.seq (.cond (TT 18) .skip (.exit 0)) (.seq (.block 1 (.seq (.reg [MM 19 17,OA 20 (.l7 12 (TT 15) (TT 17)),LL 21 12 20,OA 9
 (.alloc 69 [.string ⟨#[]⟩,.bool false,.string ⟨#[]⟩,.string ⟨#[]⟩,.bool false,.string ⟨#[]⟩,.string ⟨#[]⟩,.bool false,.bool false,.string ⟨#[]⟩,.string ⟨#[]⟩,.slice none 0 0]),MM 8 19,OB (.store 12 (TT 9) (TT 21))])
 (.seq (.reg [OA 10 (.mv (.const (.slice none 0 0)))]) (.seq (.seq (.y9 [.q,.q,.q,.q,.q,.q,.q,.q,.q,.q,.q] [LL 22 12 9,MM 23 2,MM 24 2,OA 25 (.len false (TT 24)),MM 26 8,OA 27 (.bin .mul (II 3) (TT 26)),OA 28
 (.min (TT 25) (TT 27)),OA 29 (.a0L 1 (TT 23) (some (TT 28)) none),OA 30 (.call 14 [TT 22,TT 29]),OA 31 (.len false (TT 30)),OA 32 (.mv (II 0))]) (.block 2 (.loop (.seq (.reg [OA 33 (.bin .lss (TT 32) (TT 31))]) (.seq
 (.cond (TT 33) .skip (.exit 2)) (.seq (.block 3 (.seq (.reg [MM 34 32,OA 35 (.l7 3 (TT 30) (TT 32)),LL 36 3 35,OA 12 (.alloc 29 [.bool false,.string ⟨#[]⟩,.string ⟨#[]⟩]),MM 11 34,OB (.store 3 (TT 12) (TT 36))]) (.seq
 (.y9 [.q,.q,.q,.q,.q,.q,.q,.q,.q,.q,.q,.a,.e (some 13) true] [LL 37 3 12,FF 38 1 4,VV 39 38,MM 40 8,OA 41 (.l7 4 (TT 39) (TT 40)),FF 42 0 41,VV 43 42,MM 44 11,OA 45 (.l7 3 (TT 43) (TT 44)),LL 46 3
 45,OA 47 (.call 15 [TT 37,TT 46]),OA 13 (.alloc 29 [.bool false,.string ⟨#[]⟩,.string ⟨#[]⟩]),OB (.store 3 (TT 13) (TT 47))]) (.y9 [.q,.q,.q,.q,.q,.q,.q,.q,.q,.q,.q,.q,.q,.q,.q,.q,.q,.q,.e none true,
 .q] [MM 48 10,FF 49 11 9,VV 50 49,MM 51 11,OA 52 (.l7 16 (TT 50) (TT 51)),FF 53 9 52,LL 54 3 53,OA 55 (.call 17 [TT 54]),FF 56 11 9,VV 57 56,MM 58 11,OA 59 (.l7 16 (TT 57) (TT 58)),FF 60 9 59,LL 61 3 60,LL 62
 3 13,OA 63 (.call 18 [TT 61,TT 62]),OA 64 (.call 16 [TT 55,TT 63]),OA 65 (.bsl 29 3 1 [.bool false,.string ⟨#[]⟩,.string ⟨#[]⟩] [(0,TT 64)]),OA 66 (.app 29 3 40 (TT 48) (TT 65)),MM 10 66])))) (.reg [OA 67 (.bin .add
 (TT 32) (II 1)),MM 32 67]))))))) (.reg [MM 68 7,MM 69 10,OA 70 (.bsl 47 1 1 [.slice none 0 0] [(0,TT 69)]),OA 71 (.app 47 1 24 (TT 68) (TT 70)),MM 7 71]))))) (.reg [OA 72 (.bin .add (TT 17) (II 1)),MM 17 72]))))))) (.seq
 (.reg [MM 73 7,MM 6 73]) .ret)))⟩
theorem a7x:F3 eff Tryz.prog Tryz.f6=some a3g:=by kernel_rfl
theorem a7y:Tryz.prog.funcs[6]?=some Tryz.f6:=Tryz.func6
set_option maxHeartbeats 16000000
theorem c1P (w:Wk) (s:Stt) (to:List Int) (k:Nat) (h:b7O w s k) (hk:k<=10) (hn:to.length<=1048576):FZ 6 [w.c,s.c,x9 to] (wss (a1O (w.arms.zip s.arms) to w.arms.length)):=by
 refine kW a7y a7x (by rfl) fun w' O hw=>?_
 have hok:=a2v h.st
 have hone:=hok.one
 have hla:=hok.arms
 have hbig:=hok.big.2.1
 have hq:=h.q
 have hwl:=fun (i:Nat) (a:Am) (ha:w.arms[i]?=some a)=>b9z (to:=to) h ha
 obtain ⟨arms,walls,parts,slots,gates,walk⟩:=w
 obtain ⟨tick,sarms,sparts,people,sgates⟩:=s
 simp only at hone hla hbig hq hwl ⊢
 generalize hz:arms.zip sarms=z at *
 simp only [a3g,j5,TT,II,OA,OB,MM,LL,VV,FF]
 simp only [Wk.c,Wk.enc,Stt.c,Stt.enc,ams,wls,pts,sls,gts,P9,frs,vts,bls,wss,x9,sb,ints]
 (repeat first|refine uA ?_|(refine uK ?_ ?_;focus first|omega|(intros;simp_all<;>omega))|simp (disch:=omega) only [go_sem,Nat.reduceBEq,Nat.reduceAdd,c7i])
 refine S.loop (X:=Nat) (fun i=>⟨[(2,x9 to),(4,.bp 1 0),(7,.rv 2),(15,ams arms),(16,ints arms.length),(17,ints i)],[.gone,.box 37 [ints tick,P9 sarms,frs sparts,vts people,bls sgates],.row 47 1 ((a1O z to i).map fun l=>[rts l])]⟩) (fun i=>i<=arms.length) (fun i=>arms.length-i) 0 (c7n _)
  (Ent.trans (Ent.pack 7 47 1 rfl) (by (repeat first|refine uA ?_|(refine ⟨?_,?_⟩;focus first|rfl|simp [slot])|rfl|simp))) ?_
 intro i hi
 simp only [ams,x9,P9,frs,vts,bls,ints]
 (repeat first|refine uA ?_|(refine uK ?_ ?_;focus first|omega|(intros;simp_all<;>omega))|simp (disch:=omega) only [go_sem,Nat.reduceBEq])
 (refine uJ rfl (fun hc=>?_) fun hc=>?_)
 ·have hi':i < arms.length:=by omega
  have hga:=c7h hi'
  have hgx:=c7h (show i < sarms.length by omega)
  have hsn:=b8B z to i
  have hsl:=b2Q z to i
  have hzi:z[i]?=some (arms[i],sarms[i]):=by have h9:=O1 hga hgx;rw [hz] at h9;exact h9
  have ho:=b0k (hone _ (c7k hzi))
  have hwi:a3a z to i=a2M arms[i].links (O4 arms[i].links (to.drop (3*i))) sarms[i].q:=by unfold a3a;rw [hzi]
  have hwl:=hwl i _ hga
  have hqx:=hq _ (c7k hgx)
  generalize arms[i]=a at *
  generalize sarms[i]=x at *
  simp only at ho
  have hlk:=(O7 ho.arm).2
  have h3:=(Z4 ho.arm).2
  have hxq:=ho.q
  have hcl:=a1D a.links (to.drop (3*i))
  have hcr:=a5k a.links (to.drop (3*i)) hlk
  have hC:=c0k a (to.drop (3*i)) ho.arm
  generalize O4 a.links (to.drop (3*i))=c at *
  have hxl:x.q.length<=3:=by omega
  have hdl:(to.drop (3*i)).length<=1048576:=by rw [c7S];omega
  generalize a1O z to i=W0 at *
  generalize a3a z to i=WI at *
  have hmn:(if 3*(i:Int) < (to.length:Int) then 3*(i:Int) else (to.length:Int))=((min to.length (3*i):Nat):Int):=by split<;>omega
  have hdm:(to.drop (min to.length (3*i))).take (to.length-min to.length (3*i))=to.drop (3*i):=by
   rw [b5j,c7C (by rw [c7S];omega)]
  have hml:min to.length (3*i)<=to.length:=Nat.min_le_left _ _
  generalize min to.length (3*i)=mm at *
  generalize to.drop (3*i)=td at *
  simp only [Am.c,Am.enc,lks,rts,x9,sb] at hC
  (repeat first|refine uA ?_|(refine uK ?_ ?_;focus first|omega|(intros;simp_all<;>omega))|simp (disch:=omega) only [go_sem,Nat.reduceBEq,Nat.reduceAdd,ww,hga,c7j,c7i,Am.enc,lks,sb,hmn,hdm,c7o]|(refine uB hC ?_ ?_;exact rfl))
  refine S.loop (X:=Nat) (fun j=>⟨[(2,x9 to),(4,.bp 1 0),(7,.rv 2),(8,ints i),(9,.bp 3 0),(10,.rv 4),(15,ams arms),(16,ints arms.length),(17,ints i),(30,rts c),(31,ints c.length),(32,ints j)],[.gone,.box 37 [ints tick,P9 sarms,frs sparts,vts people,bls sgates],.row 47 1 (W0.map fun l=>[rts l]),.box 69 [sb a.name,.v (.bool a.base.x.neg),sb a.base.x.num,sb a.base.x.den,.v (.bool a.base.y.neg),sb a.base.y.num,sb a.base.y.den,.v (.bool a.base.half),.v (.bool a.base.t.neg),sb a.base.t.num,sb a.base.t.den,lks a.links],.row 29 3 ((WI.take j).map rcs)]⟩) (fun j=>j<=c.length) (fun j=>c.length-j) 0 (c7n _)
   (Ent.trans (Ent.pack 10 29 3 rfl) (by (repeat first|refine uA ?_|(refine ⟨?_,?_⟩;focus first|rfl|simp [slot])|rfl|simp))) ?_
  intro j hj
  simp only [ams,x9,P9,frs,vts,bls,rts,lks,sb,ints]
  (repeat first|refine uA ?_|(refine uK ?_ ?_;focus first|omega|(intros;simp_all<;>omega))|simp (disch:=omega) only [go_sem,Nat.reduceBEq])
  (refine uJ rfl (fun hc=>?_) fun hc=>?_)
  ·have hj':j < c.length:=by omega
   have hgc:=c7h hj'
   have hgl:=c7h (show j < a.links.length by omega)
   have hgq:=c7h (show j < x.q.length by omega)
   have hgw:WI[j]?=some (a4o a.links[j] c[j] x.q[j]):=by have h9:=c0O hgl hgc hgq;rw [<- hwi] at h9;exact h9
   have hap:=take_at hgw
   have hwtl:(WI.take j).length=j:=by rw [c7s];omega
   have rc1:=hcr _ (c7k hgc)
   have rq1:=hqx _ (c7k hgq)
   have rl1:=(a7j (hlk _ (c7k hgl))).2.2.1
   generalize c[j]=cj at *
   generalize a.links[j]=lj at *
   generalize x.q[j]=qj at *
   have o1:=b0G cj qj (rc1.mono (by decide)) (rq1.mono (by omega))
   have rd:=(U5 (rc1.fit (by decide)) (rq1.fit (by omega)))
   have o2:=a4S lj.speed (rl1.mono (by decide))
   have o3:=a3W lj.speed (Nm.ofQ (Nm.d9 cj-Nm.d9 qj)) (rl1.mono (by decide)) (rd.mono (by omega))
   rw [Nm.q8] at o3
   have rm:Rb 1048576 (Nm.ofQ (G9 (Nm.d9 lj.speed) (Nm.d9 cj-Nm.d9 qj))):=by
    unfold G9
    split
    ·exact (rl1.fit (by decide)).mono (by decide)
    ·exact rd.mono (by omega)
   have rn:=b4F rl1 (by decide)
   have o4:=a6b (Nm.ofQ (-(Nm.d9 lj.speed))) (Nm.ofQ (G9 (Nm.d9 lj.speed) (Nm.d9 cj-Nm.d9 qj))) (rn.mono (by decide)) (rm.mono (by decide))
   rw [Nm.q8,Nm.q8] at o4
   have hwr:a4o lj cj qj=Nm.ofQ (K6 (-(Nm.d9 lj.speed)) (G9 (Nm.d9 lj.speed) (Nm.d9 cj-Nm.d9 qj))):=rfl
   unfold rq at o1 o2 o3 o4
   rw [<- hwr] at o4
   clear hwr
   generalize a4o lj cj qj=z1 at *
   generalize Nm.ofQ (G9 (Nm.d9 lj.speed) (Nm.d9 cj-Nm.d9 qj))=z2 at *
   generalize Nm.ofQ (-(Nm.d9 lj.speed))=z3 at *
   generalize Nm.ofQ (Nm.d9 cj-Nm.d9 qj)=z4 at *
   simp only [rc,sb] at o1 o2 o3 o4
   (repeat first|refine uA ?_|(refine uK ?_ ?_;focus first|omega|(intros;simp_all<;>omega))|simp (disch:=omega) only [go_sem,Nat.reduceBEq,Nat.reduceAdd,ww,hgc,hgl,hgq,hgx,c7j,c7i,hwtl,rcs,Lk.enc,Ast.enc,rts,vts,sb,ints,c7o]|(refine uD o1 ?_ ?_ ?_;exact tz hw;exact rfl)|(refine uD o2 ?_ ?_ ?_;exact tz hw;exact rfl)|(refine uD o3 ?_ ?_ ?_;exact tz hw;exact rfl)|(refine uD o4 ?_ ?_ ?_;exact tz hw;exact rfl))
   refine S.next (j+1) (by omega) (by omega) (by simp only [hap,c7X,c7w,c7I,rcs,sb];exact (by (repeat first|refine uA ?_|(refine ⟨?_,?_⟩;focus first|rfl|simp [slot])|rfl|simp)))
  ·have hj':j=c.length:=by omega
   subst hj'
   have hwt:WI.take c.length=WI:=c7C (by omega)
   rw [hwt]
   refine S.exit rfl ?_
   refine S.weaken (st':=⟨[(2,x9 to),(4,.bp 1 0),(7,.rv 2),(10,.sl 3 (WI.map rcs)),(15,ams arms),(16,ints arms.length),(17,ints i)],[.gone,.box 37 [ints tick,P9 sarms,frs sparts,vts people,bls sgates],.row 47 1 (W0.map fun l=>[rts l])]⟩) (Ent.mk _ _ (by (repeat' (first|exact O0.nil|exact Imp.junk|exact Imp.refl rfl|exact Imp.frz rfl rfl rfl|exact Imp.eq (by simp [slot];done) rfl|refine O0.cons ?_ ?_))) (by (repeat' (first|exact D8.nil|exact RI.gone _|exact RI.row _ _ _ _ rfl|exact RI.map _ _ _ rfl|exact RI.box _ _ _ (j4.refl rfl)|(refine RI.box _ _ _ ?_;(repeat' (first|exact j4.nil|exact Imp.refl rfl|exact Imp.frz rfl rfl rfl|exact Imp.F8|refine j4.cons ?_ ?_)))|refine D8.cons ?_ ?_))) (c7n _)) ?_
   simp only [ams,x9,P9,frs,vts,bls,ints,rts]
   (repeat first|refine uA ?_|(refine uK ?_ ?_;focus first|omega|(intros;simp_all<;>omega))|simp (disch:=omega) only [go_sem,Nat.reduceBEq,Nat.reduceAdd,ww,c7i,hsl])
   refine S.next (i+1) (by omega) (by omega) (by simp only [hsn,c7X,c7w,c7I];exact (by (repeat first|refine uA ?_|(refine ⟨?_,?_⟩;focus first|rfl|simp [slot])|rfl|simp)))
 have hi':i=arms.length:=by omega
 subst hi'
 (repeat first|refine uA ?_|(refine uK ?_ ?_;focus first|omega|(intros;simp_all<;>omega))|simp (disch:=omega) only [go_sem,Nat.reduceBEq])
 exact S.done (j3.out rfl (Imp.frz rfl rfl rfl) rfl)
open Go
abbrev Zt:=Am × Ast × List Nm.Rt
def bsZ (z:Zt):List Bq:=Z5 z.1 (J8 z.1.links z.2.1.q z.2.2)
structure OkZ (z:Zt):Prop where
 arm:J3 z.1=0
 holds:z.2.1.holds=-1
 ql:z.2.1.q.length=z.1.links.length
 ul:z.2.2.length=z.1.links.length
 qb:∀ r ∈ z.2.1.q,Rb 1024 r
 few:∀ (i:Nat) (l:Lk) (y:Nm.Rt),z.1.links[i]?=some l->z.2.2[i]?=some y->Few l y
 t0:0<=R7 (z.1.links.zip z.2.2)
 t8:R7 (z.1.links.zip z.2.2)<=1000
def rZ (J:Zt->List Cl->Int) (Z:List Zt) (ls:List (List Cl)):List Int:=(Z.zip ls).map fun p=>J p.1 p.2
def aZ (Z:List Zt):List (List Cl):=Z.map fun z=>G8 (bsZ z)
theorem a6q {J:Zt->List Cl->Int} {Z:List Zt} {ls:List (List Cl)} {i:Nat} {r:Int} (h:(rZ J Z ls)[i]?=some r):∃ z l,Z[i]?=some z/\ls[i]?=some l/\r=J z l:=by
 unfold rZ at h
 rw [c7r] at h
 cases hz:(Z.zip ls)[i]? with
 | none=>rw [hz] at h;cases h
 | some p=>
  rw [hz] at h
  injection h with h
  rw [List.getElem?_zip_eq_some] at hz
  exact ⟨p.1,p.2,hz.1,hz.2,h.symm⟩
theorem c0g {J:Zt->List Cl->Int} {Z:List Zt} {ls:List (List Cl)} (h:ls.length=Z.length):(rZ J Z ls).length=Z.length:=by
 unfold rZ;simp [h]
theorem a7J {Z:List Zt} {i:Nat} {z:Zt} (h:Z[i]?=some z):(aZ Z)[i]?=some (G8 (bsZ z)):=by unfold aZ;rw [c7r,h];rfl
theorem b4o (Z:List Zt):(aZ Z).length=Z.length:=by simp [aZ]
theorem c4y {Z:List Zt} (h:∀ z ∈ Z,cellsE (bsZ z)=0):∀ l ∈ aZ Z,a2O l:=fun l hl=>by
 obtain ⟨z,hz,rfl⟩:=List.mem_map.1 hl
 exact b6u (h z hz)
theorem c0N {bs:List Bq} (h:cellsE bs=0):a3b bs (G8 bs)=false:=by
 unfold a3b
 rw [List.any_eq_false]
 intro b hb
 have h1:=(a8X h).1 b hb
 have h2:a0k (ofC b) (G8 bs)=true:=a9j.2 fun c hc=>a6L.2 ⟨b,hb,hc⟩
 simp [h1,h2]
theorem c1t {bs:List Bq} {lease:List Cl} {c:Cl} (hc:c ∈ G8 bs) (hn:c ∉ lease):a3b bs lease=true:=by
 obtain ⟨b,hb,h⟩:=a6L.1 hc
 refine List.any_eq_true.2 ⟨b,hb,?_⟩
 cases hw:a0k (ofC b) lease with
 | true=>exact absurd (a9j.1 hw c h) hn
 | false=>simp
def jN (w:Wk) (z:Zt) (lease:List Cl):Int:=a6s w z.1 z.2.1.q z.2.2 lease
theorem c1f {w:Wk} {z:Zt} (h:cellsE (bsZ z)=0):jN w z (G8 (bsZ z)) ≠ 3:=by
 unfold jN a6s
 rw [show a3b (Z5 z.1 (J8 z.1.links z.2.1.q z.2.2)) (G8 (bsZ z))=false from c0N h]
 (repeat (split;focus decide))
 rw [if_neg (by decide)]
 (repeat (split;focus decide))
 decide
theorem c4T {w:Wk} {z:Zt} {lease:List Cl} {c:Cl} (hc:c ∈ G8 (bsZ z)) (hn:c ∉ lease):jN w z lease ≠ 0:=by
 unfold jN a6s
 rw [show a3b (Z5 z.1 (J8 z.1.links z.2.1.q z.2.2)) lease=true from c1t hc hn]
 split
 ·decide
 ·split
  ·decide
  ·rw [if_pos rfl]
   decide
theorem c2i {J:Zt->List Cl->Int} {Z:List Zt} {l0:List Cl} {k:Nat} (hown:∀ z ∈ Z,J z (G8 (bsZ z)) ≠ 3) (hcut:∀ (z:Zt) (l:List Cl) (c:Cl),c ∈ G8 (bsZ z)->c ∉ l->J z l ≠ 0) (h0:(aZ Z)[0]?=some l0) (hk:k < l0.length) :
  (∀ (i:Nat) (r r':Int),(rZ J Z (aZ Z))[i]?=some r->(rZ J Z ((aZ Z).set 0 (a1g l0 k)))[i]?=some r'->(r'=0->r=0)/\r ≠ 3)/\(∀ r',(rZ J Z ((aZ Z).set 0 (a1g l0 k)))[0]?=some r'->r' ≠ 0):=by
 have key:∀ r',(rZ J Z ((aZ Z).set 0 (a1g l0 k)))[0]?=some r'->r' ≠ 0:=fun r' h=>by
  obtain ⟨z,l,hz,hl,rfl⟩:=a6q h
  rw [List.getElem?_set_self (c7m.1 h0).1] at hl
  cases hl
  have:=a7J hz
  rw [h0] at this
  cases this
  have hc:=c7h hk
  exact hcut _ _ _ (c7k hc) (c3I (b2I _) hc)
 refine ⟨fun i r r' h h'=>?_,key⟩
 obtain ⟨z,l,hz,hl,rfl⟩:=a6q h
 rw [a7J hz] at hl
 cases hl
 refine ⟨fun hr=>?_,hown z (c7k hz)⟩
 rcases c7E i with rfl|hi
 ·exact absurd hr (key r' h')
 ·obtain ⟨z',l',hz',hl',rfl⟩:=a6q h'
  rw [hz] at hz'
  cases hz'
  rw [List.getElem?_set_ne (by omega),a7J hz] at hl'
  cases hl'
  exact hr
theorem c3S {J:Zt->List Cl->Int} {Z:List Zt} (hown:∀ z ∈ Z,J z (G8 (bsZ z)) ≠ 3) (i:Nat) (r r':Int) (h:(rZ J Z (aZ Z))[i]?=some r) (h':(rZ J Z (aZ Z))[i]?=some r'):(r'=0->r=0)/\r ≠ 3:=by
 rw [h] at h'
 cases h'
 obtain ⟨z,l,hz,hl,rfl⟩:=a6q h
 rw [a7J hz] at hl
 cases hl
 exact ⟨id,hown z (c7k hz)⟩
theorem b9w {Z:List Zt} {l0:List Cl} {k:Nat} (h0:(aZ Z)[0]?=some l0) (h:Q8 ((aZ Z).set 0 (a1g l0 k))=true):Q8 (aZ Z)=true:=by
 refine b9j (fun i a ha=>?_) h
 rcases c7E i with rfl|hi
 ·rw [List.getElem?_set_self (c7m.1 h0).1] at ha
  cases ha
  exact ⟨l0,h0,fun x hx=>(a8y l0 k).mem hx⟩
 ·rw [List.getElem?_set_ne (by omega)] at ha
  exact ⟨a,ha,fun x hx=>hx⟩
theorem c3Z {Z:List Zt} {l0:List Cl} {k:Nat} (hg:∀ l ∈ aZ Z,a2O l) (h0:(aZ Z)[0]?=some l0):∀ l ∈ (aZ Z).set 0 (a1g l0 k),a2O l:=fun l hl=>by
 rcases List.mem_or_eq_of_mem_set hl with h|h
 ·exact hg l h
 ·rw [h]
  exact c2u (hg l0 (c7k h0)) k
def zZ (w:Wk) (L:List Ast) (U:List (List Nm.Rt)):List Zt:=w.arms.zip (L.zip U)
theorem c5m {w:Wk} {L:List Ast} {U:List (List Nm.Rt)} (h1:L.length=w.arms.length) (h2:U.length=w.arms.length):(zZ w L U).length=w.arms.length:=by
 unfold zZ;simp [h1,h2]
theorem c6G {raw pose to:List Int}:∀ z ∈ zZ (u6 raw) (Y9 (u6 raw) pose) (a1O ((u6 raw).arms.zip (Y9 (u6 raw) pose)) to (u6 raw).arms.length),OkZ z:=fun z hz=>by
  obtain ⟨ha,hs⟩:=a3F raw
  have hC0:=b1p pose (a9T raw) (a6J raw) ha hs
  have hqk:∀ a ∈ (u6 raw).arms,∀ x ∈ a.links,a6o x:=b1f _ _ _
  obtain ⟨i,hi⟩:=List.mem_iff_getElem?.1 hz
  unfold zZ at hi
  rw [List.getElem?_zip_eq_some] at hi
  obtain ⟨h1,h2⟩:=hi
  rw [List.getElem?_zip_eq_some] at h2
  obtain ⟨h2,h3⟩:=h2
  have hiN:=(c7m.1 h1).1
  unfold a1O at h3
  rw [c7r,List.getElem?_range hiN] at h3
  have hu:z.2.2=a3a ((u6 raw).arms.zip (Y9 (u6 raw) pose)) to i:=(Option.some.inj h3).symm
  have hrb:∀ r ∈ z.2.2,Rb 150 r:=fun r hr=>by
    rw [hu] at hr
    exact (c2y hC0.c5t hr).mono (by decide)
  have hw:z.2.2=a2M z.1.links (O4 z.1.links (to.drop (3*i))) z.2.1.q:=by
    rw [hu]
    unfold a3a
    rw [O1 h1 h2]
  have hx:=a4b (to:=pose) h1
  rw [hx] at h2
  have hxe:a6M z.1 (pose.drop (3*i)) (-1)=z.2.1:=Option.some.inj h2
  have haa:=ha _ (c7k h1)
  have hql:z.2.1.q.length=z.1.links.length:=by rw [<- hxe];exact a1D _ _
  have hul:z.2.2.length=z.1.links.length:=by rw [hw];exact b2Y (a1D _ _) hql
  have hf:∀ (i:Nat) (l:Lk) (y:Nm.Rt),z.1.links[i]?=some l->z.2.2[i]?=some y->Few l y:=fun j l y hl hy=>by
    refine c0n (c:=O4 z.1.links (to.drop (3*i))) (q:=z.2.1.q) haa (hqk _ (c7k h1)) (fun r hr=>hrb r (by rw [hw];exact hr)) j l y hl (by rw [<- hw];exact hy)
  refine ⟨haa,by rw [<- hxe];rfl,hql,hul,fun r hr=>?_,hf,a7r _,Int.le_trans ?_ (show (8:Int)<=1000 by decide)⟩
  · rw [<- hxe] at hr
    exact (a5k _ _ (O7 haa).2 r hr).mono (by decide)
  · exact b8P fun p hp=>by
      obtain ⟨j,hj⟩:=List.mem_iff_getElem?.1 hp
      rw [List.getElem?_zip_eq_some] at hj
      exact (hf j _ _ hj.1 hj.2).few
def a1Y:H6:=⟨185,[.tmp 8],.seq (.reg [OA 8 (.mv (.const (.bool false)))]) (.seq (.reg [MM 27 0,MM 28 1,OA 29 (.call 5 [TT 27,TT 28]),MM 26 29,OA 30 (.ext (TT 26) 0),OA 31 (.ext (TT 26) 1),OA 32 (.ext (TT 26) 2),OA 9 (.alloc 31
 [.slice none 0 0,.slice none 0 0,.slice none 0 0,.slice none 0 0,.slice none 0 0,.bool false,.string ⟨#[]⟩,.string ⟨#[]⟩]),OA 10 (.alloc 37 [.int .i64 0,.slice none 0 0,.slice none 0 0,.slice none 0 0,.slice none 0
 0]),OB (.store 8 (TT 9) (TT 30)),OB (.store 5 (TT 10) (TT 31)),MM 11 32]) (.seq (.seq (.reg [MM 33 11,OA 34 (.un .not (TT 33))]) (.cond (TT 34) (.seq (.reg [OA 8 (.mv (.const (.bool false)))]) .ret) .skip)) (.seq (.reg [LL
 35 8 9,LL 36 5 10,MM 37 2,OA 38 (.call 6 [TT 35,TT 36,TT 37]),MM 12 38]) (.seq (.reg [OA 13 (.mv (.const (.slice none 0 0))),OA 14 (.mv (.const (.slice none 0 0)))]) (.seq (.seq (.reg [FF 39 0 9,VV 40 39,OA 41 (.len
 false (TT 40)),OA 42 (.mv (II 0))]) (.block 0 (.loop (.seq (.reg [OA 43 (.bin .lss (TT 42) (TT 41))]) (.seq (.cond (TT 43) .skip (.exit 0)) (.seq (.block 1 (.seq (.reg [MM 44 42,MM 15 44]) (.seq (.y9 [.q,.q,.q,.q,.q,.q,
 .q,.q,.q,.q,.q,.q,.q,.q,.q,.q,.q] [LL 46 8 9,MM 47 15,FF 48 1 10,VV 49 48,MM 50 15,OA 51 (.l7 4 (TT 49) (TT 50)),LL 52 4 51,MM 53 12,MM 54 15,OA 55 (.l7 1 (TT 53) (TT 54)),VV 56 55,OA 57 (.call 7 [TT
 46,TT 47,TT 52,TT 56]),MM 45 57,OA 58 (.ext (TT 45) 0),OA 59 (.ext (TT 45) 1),MM 16 58,MM 17 59]) (.seq (.seq (.reg [MM 60 17,OA 61 (.bin .neq (TT 60) (II 0))]) (.cond (TT 61) (.seq (.reg [OA 8 (.mv (.const (.bool
 true)))]) .ret) .skip)) (.reg [MM 62 13,MM 63 16,OA 64 (.bsl 43 1 1 [.slice none 0 0] [(0,TT 63)]),OA 65 (.app 43 1 24 (TT 62) (TT 64)),MM 66 14,MM 67 16,OA 68 (.bsl 43 1 1 [.slice none 0 0] [(0,TT 67)]),OA 69 (.app 43
 1 24 (TT 66) (TT 68)),MM 13 65,MM 14 69]))))) (.reg [OA 70 (.bin .add (TT 42) (II 1)),MM 42 70]))))))) (.seq (.seq (.reg [MM 71 13,OA 72 (.l7 1 (TT 71) (II 0)),VV 73 72,OA 74 (.len false (TT 73)),MM 18 74]) (.seq (.reg
 [MM 75 18,OA 76 (.bin .gtr (TT 75) (II 0))]) (.cond (TT 76) (.seq (.reg [MM 77 3,MM 78 18,OA 79 (.call 8 [TT 77,TT 78]),MM 3 79]) (.y9 [.q,.q,.q,.q,.q,.q,.q,.q,.q,.q,.q,.q,.q,.q,.q,.e none true] [MM 80 14,
 MM 81 13,OA 82 (.l7 1 (TT 81) (II 0)),VV 83 82,MM 84 3,OA 85 (.a0L 2 (TT 83) none (some (TT 84))),MM 86 13,OA 87 (.l7 1 (TT 86) (II 0)),VV 88 87,MM 89 3,OA 90 (.bin .add (TT 89) (II 1)),OA 91 (.a0L 2 (TT 88)
 (some (TT 90)) none),OA 92 (.bsl 43 1 2 [.slice none 0 0] [(0,TT 85),(1,TT 91)]),OA 93 (.call 9 [TT 92]),OA 94 (.l7 1 (TT 80) (II 0)),OB (.store 1 (TT 94) (TT 93))])) .skip))) (.seq (.reg [LL 96 8 9,LL 97 5 10,MM 98
 13,MM 99 12,OA 100 (.call 10 [TT 96,TT 97,TT 98,TT 99]),MM 95 100,OA 101 (.ext (TT 95) 0),OA 102 (.ext (TT 95) 1),OA 103 (.ext (TT 95) 2),MM 19 101,MM 20 102,MM 21 103]) (.seq (.reg [LL 105 8 9,LL 106 5 10,MM 107
 14,MM 108 12,OA 109 (.call 10 [TT 105,TT 106,TT 107,TT 108]),MM 104 109,OA 110 (.ext (TT 104) 0),OA 111 (.ext (TT 104) 1),OA 112 (.ext (TT 104) 2),MM 22 110,MM 23 111,MM 24 112]) (.seq (.seq (.reg [MM 113 21,OA 114
 (.bin .eql (TT 113) (II 10))]) (.cond (TT 114) (.seq (.reg [OA 8 (.mv (.const (.bool true)))]) .ret) .skip)) (.seq (.seq (.reg [MM 115 21,OA 116 (.bin .neq (TT 115) (II 0)),MM 117 116,MG 118 24 117 false,OC 119 (.bin .neq
 (TT 118) (II 0)) 117 false,OA 120 (.pick (TT 117) (.const (.bool true)) (TT 119)),MM 121 120,MG 122 19 121 false,OC 123 (.len false (TT 122)) 121 false,FG 124 0 9 121 false,VG 125 124 121 false,OC 126 (.len false (TT
 125)) 121 false,OC 127 (.bin .neq (TT 123) (TT 126)) 121 false,OA 128 (.pick (TT 121) (.const (.bool true)) (TT 127)),MM 129 128,MG 130 22 129 false,OC 131 (.len false (TT 130)) 129 false,MG 132 19 129 false,OC 133 (.len
 false (TT 132)) 129 false,OC 134 (.bin .neq (TT 131) (TT 133)) 129 false,OA 135 (.pick (TT 129) (.const (.bool true)) (TT 134)),MM 136 135,MG 137 20 136 false,OC 138 (.len false (TT 137)) 136 false,MG 139 19 136 false,OC
 140 (.len false (TT 139)) 136 false,OC 141 (.bin .neq (TT 138) (TT 140)) 136 false,OA 142 (.pick (TT 136) (.const (.bool true)) (TT 141)),MM 143 142,MG 144 23 143 false,OC 145 (.len false (TT 144)) 143 false,MG 146 19 143
 false,OC 147 (.len false (TT 146)) 143 false,OC 148 (.bin .neq (TT 145) (TT 147)) 143 false,OA 149 (.pick (TT 143) (.const (.bool true)) (TT 148))]) (.cond (TT 149) (.seq (.reg [OA 8 (.mv (.const (.bool false)))]) .ret)
 .skip)) (.seq (.seq (.reg [MM 150 19,OA 151 (.len false (TT 150)),OA 152 (.mv (II 0))]) (.block 2 (.loop (.seq (.reg [OA 153 (.bin .lss (TT 152) (TT 151))]) (.seq (.cond (TT 153) .skip (.exit 2)) (.seq (.block 3 (.seq (.reg
 [MM 154 152,MM 25 154]) (.seq (.reg [MM 155 22,MM 156 25,OA 157 (.l7 1 (TT 155) (TT 156)),VV 158 157,MM 159 158,MG 160 19 159 true,MG 161 25 159 true,OC 162 (.l7 1 (TT 160) (TT 161)) 159 true,VG 163 162 159 true,
 OC 164 (.un .not (TT 163)) 159 true,OA 165 (.pick (TT 159) (TT 164) (.const (.bool false))),MM 166 165,MG 167 20 166 false,MG 168 25 166 false,OC 169 (.l7 1 (TT 167) (TT 168)) 166 false,VG 170 169 166 false,OC 171
 (.bin .eql (TT 170) (II 3)) 166 false,OA 172 (.pick (TT 166) (.const (.bool true)) (TT 171))]) (.cond (TT 172) (.seq (.reg [OA 8 (.mv (.const (.bool false)))]) .ret) .skip)))) (.reg [OA 173 (.bin .add (TT 152) (II 1)),MM 152
 173]))))))) (.seq (.reg [MM 174 13,OA 175 (.l7 1 (TT 174) (II 0)),VV 176 175,OA 177 (.len false (TT 176)),OA 178 (.bin .eql (TT 177) (II 0)),MM 179 178,MG 180 22 179 false,OC 181 (.l7 1 (TT 180) (II 0)) 179 false,
 VG 182 181 179 false,OC 183 (.un .not (TT 182)) 179 false,OA 184 (.pick (TT 179) (.const (.bool true)) (TT 183)),MM 8 184]) .ret))))))))))))⟩
theorem a5l:F3 eff Tryz.prog Tryz.f3=some a1Y:=by kernel_rfl
theorem a5m:Tryz.prog.funcs[3]?=some Tryz.f3:=Tryz.func3
set_option maxHeartbeats 32000000
theorem j6.c5C {f:Nat} {args:List C} {s s':C} {rs':List Res} (h:∀ E:Ctx,E.P=Tryz.prog->Tz E->j6 E [] f args s rs' []) (hi:Imp rs' [] s s') (hc:s'.cl=true):FZ f args s':=by
 intro O w vs hw hO hA
 have ho0:∀ b,¬ owned [] [] b:=fun b ⟨k,r,x,hk,_⟩=>by simp at hk
 have hRG:RG O (fun _=>False) w.heap.size [] [] w:=⟨rfl,fun k r hk=>by simp at hk,fun k l r r' x x' b _ hk=>by simp at hk,fun b hb=>(ho0 b hb).elim,hO,c7p _⟩
 have hsub:∀ b,OO O [] [] b->O b:=fun b hb=>hb.elim id fun h=>(ho0 b h).elim
 refine (h ⟨Tryz.prog,fun _=>false,0,w,fun _=>False,O,[],[]⟩ rfl ⟨hw,id⟩ O [] w vs hRG (fun b hb=>hb) ⟨rfl,rfl,rfl,c7p _,fun _ _ _=>rfl⟩ ((FzL.keep (Keeps.sub hsub) hA).den [])).mono ?_
 rintro e w' ⟨y,ν',rfl,h1,h2,h3⟩
 have hC:Cut O rs' [] ν':=Cut.of h1 (by simp [R9])
 have h4:=hi O (fun _=>False) w.heap.size ν' w' y h1 hC h3
 exact ⟨y,rfl,⟨h2.os,h2.tape,h2.output,h2.size,fun b hb=>h2.block b hb (ho0 b)⟩,Fz.keep (Keeps.sub fun b hb=>.inl hb) (Den.fz hc h4)⟩
theorem c3U (raw pose:List Int) (hp:pose.length<=1048576):FZ 5 [x9 raw,x9 pose] (.tup [(u6 raw).c,(Stt.mk 0 (Y9 (u6 raw) pose) (E5 (u6 raw)).parts [] (E5 (u6 raw)).gates).c,.v (.bool true)]):=by
 refine j6.c5C (fun E hP ht=>c3p hP ht raw pose hp) ?_ rfl
 exact Imp.tup (j4.cons (Imp.refl rfl) (j4.cons (Imp.agg (j4.cons (Imp.refl rfl) (j4.cons (Imp.frz rfl rfl rfl) (j4.cons (Imp.frz rfl rfl rfl) (j4.cons Imp.F8 (j4.cons (Imp.frz rfl rfl rfl) j4.nil)))))) (j4.cons (Imp.refl rfl) j4.nil)))
theorem j6.oz {E:Ctx} {rs:List Res} {f:Nat} {args:List C} {r:C} (hP:E.P=Tryz.prog) (ht:Tz E) (hs:FZ f args r) (hb:(C.bdL rs.length args && C.clL args)=true):j6 E rs f args r rs []:=by
 rw [c7q] at hb
 intro av ν w vs hR hav hF hD
 refine (R3.c2Y (p:=true) ht (fun _=>by rw [hP];exact hs) (fun _=>j4.refl hb.1) (fun _=>hb.2) rfl av ν w vs hR hav hF hD).mono ?_
 rintro e w' ⟨y,rfl,h1,h2⟩
 exact ⟨y,ν,rfl,hR.below h1,Mv.of_below h1,h2⟩
theorem c2H {α:Type} {l:List α} {i:Nat} {x:α} (h:l[i]?=some x):l.take (i+1)=l.take i++[x]:=by rw [List.take_add_one,h];rfl
theorem b5p (raw pose to:List Int) (k:Int) (hp:pose.length<=1048576) (hn:to.length<=1048576):FZ 3 [x9 raw,x9 pose,x9 to,ints k] (.v (.bool true)):=by
 refine kW a5m a5l (by rfl) fun w' O hw=>?_
 have hk:=a6J raw
 obtain ⟨ha,hs⟩:=a3F raw
 have hwb:=a9T raw
 have hps:=c3U raw pose hp
 have hpos:=c1Q raw
 have hC0:=b1p pose hwb hk ha hs
 have hSb:Stb 1073741824 _:=(c5f hC0 (by decide)).mono (by decide)
 have hZ:=@c6G raw pose to
 have hgf:∀ o ∈ (E5 (u6 raw)).gates,o=false:=fun o ho=>c7G (show o ∈ List.replicate _ false from ho)
 have hpl:=a5p (u6 raw) pose
 generalize Y9 (u6 raw) pose=L at *
 generalize (E5 (u6 raw)).parts=P0 at *
 generalize (E5 (u6 raw)).gates=g0 at *
 generalize u6 raw=w at *
 have hwi:=c1P w ⟨0,L,P0,[],g0⟩ to 0 hC0.c5t (by decide) hn
 have hok:=a2v hC0.st
 have hnA:w.arms.length<=4:=hok.big.2.1
 have hnP:w.parts.length<=6:=hok.big.2.2.1
 have hgn:g0.length=w.gates.length:=hok.gates
 have hUl:=b2Q (w.arms.zip L) to w.arms.length
 simp only at hwi
 generalize a1O (w.arms.zip L) to w.arms.length=U at *
 have hZl:=c5m (w:=w) hpl hUl
 have hZg:∀ {i:Nat} {z:Zt},(zZ w L U)[i]?=some z->w.arms[i]?=some z.1/\L[i]?=some z.2.1/\U[i]?=some z.2.2:=fun {i z} h=>by
  unfold zZ at h
  rw [List.getElem?_zip_eq_some] at h
  obtain ⟨h1,h2⟩:=h
  rw [List.getElem?_zip_eq_some] at h2
  exact ⟨h1,h2.1,h2.2⟩
 generalize zZ w L U=Z at *
 have hCl:∀ (i:Nat) (z:Zt),Z[i]?=some z->FZ 7 [w.c,ints i,z.2.1.c,rts z.2.2] (.tup [cls (a6w (bsZ z)),ints (cellsE (bsZ z))]):=fun i z h=>by
  have o:=hZ z (c7k h)
  exact c3v w i z.1 z.2.1 z.2.2 (by omega) (by omega) (hZg h).1 ((O7 o.arm).1.mono (by decide)) o.arm o.holds o.ql o.ul o.qb o.few
 have hJ:∀ ls:List (List Cl),ls.length=w.arms.length->(∀ l ∈ ls,a2O l)->FZ 10 [w.c,(Stt.mk 0 L P0 [] g0).c,P7 ls,wss U] (.tup [powC (if Q8 ls=true then [] else rZ (jN w) Z ls),x9 (if Q8 ls=true then [] else rZ (jN w) Z ls),ints (if Q8 ls=true then 10 else 0)]):=fun ls hl hg=>by
  refine c4b w ⟨0,L,P0,[],g0⟩ ls U (rZ (jN w) Z ls) (hwb.mono (by decide)) hSb hC0.st hl hUl (by rw [c0g (by omega),hZl]) (by omega) hg fun n l u r h1 h2 h3=>?_
  obtain ⟨z,l',hz,hl',rfl⟩:=a6q h3
  rw [h1] at hl'
  cases hl'
  obtain ⟨g1,g2,g3⟩:=hZg hz
  rw [h2] at g3
  cases g3
  have o:=hZ z (c7k hz)
  exact c2n w ⟨0,L,P0,[],g0⟩ n z.1 z.2.1 l z.2.2 hwb g1 g2 o.arm o.holds o.ql o.ul o.qb o.few o.t0 o.t8 (c7l (hg l (c7k h1)).1 (by decide)) rfl hgf hgn (by omega) (by omega)
 clear hk ha hs hC0 hok hSb hwb
 have hRl:∀ ls:List (List Cl),ls.length=w.arms.length->(rZ (jN w) Z ls).length=w.arms.length:=fun ls h=>by rw [c0g (by omega),hZl]
 simp only [a1Y,j5,TT,II,OA,OB,OC,MM,LL,VV,FF,MG,LG,VG,FG]
 simp only [Wk.c,Wk.enc,Stt.c,Stt.enc,Ast.c,Ast.enc,ams,wls,pts,sls,gts,P9,frs,bls,vts,P7,cls,wss,rts,x9,powC,sb,ints] at hps hwi hCl hJ ⊢
 (repeat first|refine uA ?_|(refine uK ?_ ?_;focus first|omega|(intros;simp_all<;>omega))|simp (disch:=omega) only [go_sem,Nat.reduceBEq,Nat.reduceAdd,ww]|(refine uD hps ?_ ?_ ?_;exact tz hw;exact rfl))
 refine S.cond rfl (fun hc=>by simp at hc) (fun hc=>?_)
 (repeat first|refine uA ?_|(refine uK ?_ ?_;focus first|omega|(intros;simp_all<;>omega))|simp (disch:=omega) only [go_sem,Nat.reduceBEq,Nat.reduceAdd,ww,c7i]|(refine uD hwi ?_ ?_ ?_;exact tz hw;exact rfl))
 refine S.loop (X:=Nat) (fun i=>⟨[(3,ints k),(9,.bp 0 0),(10,.bp 1 0),(12,wss U),(13,.rv 2),(14,.rv 3),(40,ams w.arms),(41,ints w.arms.length),(42,ints i)],[.box 31 w.enc,.box 37 (Stt.mk 0 L P0 [] g0).enc,.row 43 1 (((aZ Z).take i).map fun l=>[cls l]),.row 43 1 (((aZ Z).take i).map fun l=>[cls l])]⟩)
  (fun i=>i<=w.arms.length/\∀ (j:Nat) (z:Zt),j < i->Z[j]?=some z->cellsE (bsZ z)=0) (fun i=>w.arms.length-i) 0 ⟨c7n _,fun _ _ h=>absurd h (Nat.not_lt_zero _)⟩ (Ent.trans (Ent.pack 13 43 1 rfl) (Ent.trans (Ent.pack 14 43 1 rfl) (by simp only [Wk.enc,Stt.enc,ams,wls,pts,sls,gts,P9,frs,bls,vts,cls,wss,rts,sb,ints,List.take_zero,c7I];exact (by (repeat first|refine uA ?_|(refine ⟨?_,?_⟩;focus first|rfl|simp [slot])|rfl|simp))))) ?_
 rintro i ⟨hi,hm⟩
 clear hps hwi
 simp only [Wk.enc,Stt.enc,ams,wls,pts,sls,gts,P9,frs,bls,vts,cls,wss,rts,sb,ints]
 (repeat first|refine uA ?_|(refine uK ?_ ?_;focus first|omega|(intros;simp_all<;>omega))|simp (disch:=omega) only [go_sem,Nat.reduceBEq,Nat.reduceAdd,ww])
 (refine uJ rfl (fun hc=>?_) fun hc=>?_)
 ·have hi':i < w.arms.length:=by omega
  have hgz:=c7h (show i < Z.length by omega)
  generalize Z[i]'_=z at hgz
  obtain ⟨g1,g2,g3⟩:=hZg hgz
  have o1:=hCl i z hgz
  have hap:=c2H (a7J hgz)
  have hil:(i:Int) < L.length:=by omega
  have hiu:(i:Int) < U.length:=by omega
  have htl:((aZ Z).take i).length=i:=by rw [c7s,b4o];omega
  have hR:cellsE (bsZ z)=0->a6w (bsZ z)=G8 (bsZ z):=fun h=>by unfold a6w;rw [if_pos h]
  have nxt:=fun h:cellsE (bsZ z)=0=>a4a (p:=fun z:Zt=>!decide (cellsE (bsZ z)=0)) hgz (by simp [h]) (fun j y hj hy=>by simp [hm j y hj hy])
  generalize G8 (bsZ z)=D at *
  generalize a6w (bsZ z)=D' at *
  generalize cellsE (bsZ z)=e at *
  clear hCl hJ
  (repeat first|refine uA ?_|(refine uK ?_ ?_;focus first|omega|(intros;simp_all<;>omega))|simp (disch:=omega) only [go_sem,Nat.reduceBEq,Nat.reduceAdd,ww,c7i,c7r,g2,g3,c7j,c7o,Ast.enc,rts,ints,hil,hiu,htl]|(refine uD o1 ?_ ?_ ?_;exact tz hw;exact rfl))
  (refine uJ rfl (fun hc=>?_) fun hc=>?_)
  ·(repeat first|refine uA ?_|(refine uK ?_ ?_;focus first|omega|(intros;simp_all<;>omega))|simp (disch:=omega) only [go_sem,Nat.reduceBEq,Nat.reduceAdd,ww])
   exact S.done (j3.out rfl (Imp.refl rfl) rfl)
  ·have he:e=0:=by omega
   have hD:=hR he
   subst hD
   have hp:=nxt he
   (repeat first|refine uA ?_|(refine uK ?_ ?_;focus first|omega|(intros;simp_all<;>omega))|simp (disch:=omega) only [go_sem,Nat.reduceBEq,Nat.reduceAdd,ww,htl,c7i])
   refine S.next (x:=i) (i+1) ⟨by omega,fun j y hj hy=>by simpa using hp j y hj hy⟩ (by omega) (by simp only [hap,c7X,c7w,c7I,cls];exact (by (repeat first|refine uA ?_|(refine ⟨?_,?_⟩;focus first|rfl|simp [slot])|rfl|simp)))
 have hi':i=w.arms.length:=by omega
 subst hi'
 have hE:∀ z ∈ Z,cellsE (bsZ z)=0:=fun z hz=>by
  obtain ⟨j,hj⟩:=List.mem_iff_getElem?.1 hz
  exact hm j z (by have:=(c7m.1 hj).1;omega) hj
 rw [c7C (by rw [b4o];omega)]
 have hAl:(aZ Z).length=w.arms.length:=by rw [b4o,hZl]
 have hAg:=c4y hE
 have hg0:=c7h (show 0 < (aZ Z).length by omega)
 generalize (aZ Z)[0]'_=l0 at hg0
 have hl0:=hAg l0 (c7k hg0)
 have fw:=fun (m:Nat) (hm:m < l0.length)=>c2i (J:=jN w) (fun z hz=>c1f (hE z hz)) (fun _ _ _=>c4T) hg0 hm
 have fs:=c3S (J:=jN w) (fun z hz=>c1f (hE z hz))
 have cc:=fun (m:Nat)=>b9w (k:=m) hg0
 have ca:=fun (m:Nat)=>c3Z (k:=m) hAg hg0
 generalize aZ Z=A at *
 clear hCl hm hi hZg hZ
 have hpA:(0:Int) < A.length:=by omega
 have hc1:l0.length<=400:=hl0.1
 refine S.weaken (st':=⟨[(3,ints k),(9,.bp 0 0),(10,.bp 1 0),(12,wss U),(13,P7 A),(14,.rv 3)],[.box 31 w.enc,.box 37 (Stt.mk 0 L P0 [] g0).enc,.gone,.row 43 1 (A.map fun l=>[cls l])]⟩) ?_ ?_
 ·exact Ent.mk _ _ (O0.cons (Imp.refl rfl) (O0.cons (Imp.refl rfl) (O0.cons (Imp.refl rfl) (O0.cons (Imp.refl rfl) (O0.cons (Imp.frz rfl rfl rfl) (O0.cons (Imp.refl rfl) O0.nil)))))) (D8.cons (RI.box _ _ _ (j4.refl rfl)) (D8.cons (RI.box _ _ _ (j4.refl rfl)) (D8.cons (RI.gone _) (D8.cons (RI.row _ _ _ _ rfl) D8.nil)))) (c7n _)
 simp only [Wk.enc,Stt.enc,ams,wls,pts,sls,gts,P9,frs,bls,vts,P7,cls,wss,rts,sb,ints]
 (repeat first|refine uA ?_|(refine uK ?_ ?_;focus first|omega|(intros;simp_all<;>omega))|simp (disch:=omega) only [go_sem,Nat.reduceBEq,Nat.reduceAdd,ww,c7i,c7r,hg0,c7j,Int.toNat_zero,hpA])
 refine S.cond rfl (fun hc=>?b1) (fun hc=>?b2)
 case' b1=>
  have hlp:0 < l0.length:=by have:=of_decide_eq_true hc;omega
  have o1:=b5z k l0.length (by omega)
  obtain ⟨m,hm⟩:∃ m:Nat,k % (l0.length:Int)=m:=⟨(k % (l0.length:Int)).toNat,by have:=Int.emod_nonneg k (show (l0.length:Int) ≠ 0 by omega);omega⟩
  have hml:m < l0.length:=by have:=Int.emod_lt_of_pos k (show (0:Int) < l0.length by omega);omega
  rw [hm] at o1
  have o2:=(b5K [l0.take m,l0.drop (m+1)] (by show 2<=1000;decide) (fun i=>c7l b7r (by simp;omega))).spec
  rw [show [l0.take m,l0.drop (m+1)].flatten=a1g l0 m by simp [a1g]] at o2
  have hT1:(A.set 0 (a1g l0 m)).length=w.arms.length:=by rw [c7W,hAl]
  have hT2:=ca m
  have hT3:=cc m
  have hT4:=(fw m hml).1
  have hT5:l0.length=0 \/ ∀ r',(rZ (jN w) Z (A.set 0 (a1g l0 m)))[0]?=some r'->r' ≠ 0:=.inr (fw m hml).2
  have hset:(A.map fun l=>[C.sl 2 (l.map ce)]).set 0 [C.sl 2 ((a1g l0 m).map ce)]=(A.set 0 (a1g l0 m)).map fun l=>[C.sl 2 (l.map ce)]:=by rw [List.map_set]
  simp only [P7,cls,c7w,c7I,ints] at o1 o2
  generalize A.set 0 (a1g l0 m)=T at *
  generalize a1g l0 m=D at *
  clear fw fs cc ca
  have hd2:(l0.drop (m+1)).take (l0.length-(m+1))=l0.drop (m+1):=c7C (by simp)
  have hm1:((m:Int)+1).toNat=m+1:=by omega
  have hJA:=hJ A hAl hAg
  (repeat first|refine uA ?_|(refine uK ?_ ?_;focus first|omega|(intros;simp_all<;>omega))|simp (disch:=omega) only [go_sem,Nat.reduceBEq,Nat.reduceAdd,ww,c7i,c7r,hg0,c7j,Int.toNat_zero,c7o,hpA,List.drop_zero,Nat.sub_zero,hset,hd2,hm1]|(refine uB o1 ?_ ?_;exact rfl)|(refine uB o2 ?_ ?_;exact rfl)|(refine uD hJA ?_ ?_ ?_;exact tz hw;exact rfl))
 case' b2=>
  have hlp:l0.length=0:=by have:=of_decide_eq_false hc;omega
  obtain ⟨T,hT⟩:∃ T,T=A:=⟨_,rfl⟩
  have hT1:T.length=w.arms.length:=by rw [hT];exact hAl
  have hT2:∀ l ∈ T,a2O l:=by rw [hT];exact hAg
  have hT3:Q8 T=true->Q8 A=true:=by rw [hT];exact id
  have hT4:∀ (i:Nat) (r r':Int),(rZ (jN w) Z A)[i]?=some r->(rZ (jN w) Z T)[i]?=some r'->(r'=0->r=0)/\r ≠ 3:=by rw [hT];exact fs
  have hT5:l0.length=0 \/ ∀ r',(rZ (jN w) Z T)[0]?=some r'->r' ≠ 0:=.inl hlp
  have hJA:=hJ A hAl hAg
  (repeat first|refine uA ?_|(refine uK ?_ ?_;focus first|omega|(intros;simp_all<;>omega))|simp (disch:=omega) only [go_sem,Nat.reduceBEq,Nat.reduceAdd,ww,c7i]|(refine uD hJA ?_ ?_ ?_;exact tz hw;exact rfl))
 all_goals
  have hJT:=hJ T hT1 hT2
  have hRA:=hRl A hAl
  have hRT:=hRl T hT1
  refine l9.t (j6.vg (rs2:=[.box 31 w.enc,.box 37 (Stt.mk 0 L P0 [] g0).enc,.gone,.gone]) (j6.oz rfl ⟨hw,id⟩ hJT rfl) (j4.cons (Imp.refl rfl) (j4.cons (Imp.refl rfl) (j4.cons (Imp.frz rfl rfl (by first|rfl|rw [hT])) (j4.cons (Imp.refl rfl) j4.nil)))) (D8.cons (RI.box _ _ _ (j4.refl rfl)) (D8.cons (RI.box _ _ _ (j4.refl rfl)) (D8.cons (RI.gone _) (D8.cons (RI.gone _) D8.nil)))) rfl) ?_
  simp only [Wk.enc,Stt.enc,ams,wls,pts,sls,gts,P9,frs,bls,vts,sb,ints]
  clear hJ hJA hJT
  generalize rZ (jN w) Z A=R at *
  generalize rZ (jN w) Z T=R' at *
  cases hKA:Q8 A with
  | true=>
   simp only [if_true,c7I]
   (repeat first|refine uA ?_|(refine uK ?_ ?_;focus first|omega|(intros;simp_all<;>omega))|simp (disch:=omega) only [go_sem,Nat.reduceBEq,Nat.reduceAdd,ww])
   refine S.cond rfl (fun hc=>?_) (fun hc=>by simp at hc)
   (repeat first|refine uA ?_|(refine uK ?_ ?_;focus first|omega|(intros;simp_all<;>omega))|simp (disch:=omega) only [go_sem,Nat.reduceBEq,Nat.reduceAdd,ww])
   exact S.done (j3.out rfl (Imp.refl rfl) rfl)
  | false=>
   have hKT:Q8 T=false:=by
    cases h:Q8 T with
    | false=>rfl
    | true=>have h9:=hT3 h;simp_all
   rw [hKT]
   simp only [c7Q,if_false]
   (repeat first|refine uA ?_|(refine uK ?_ ?_;focus first|omega|(intros;simp_all<;>omega))|simp (disch:=omega) only [go_sem,Nat.reduceBEq,Nat.reduceAdd,ww,c7i,hRA,hRT])
   refine S.cond rfl (fun hc=>by simp at hc) (fun hc=>?_)
   (repeat first|refine uA ?_|(refine uK ?_ ?_;focus first|omega|(intros;simp_all<;>omega))|simp (disch:=omega) only [go_sem,Nat.reduceBEq,Nat.reduceAdd,ww,c7i,hRA,hRT])
   refine S.cond rfl (fun hc=>by simp at hc) (fun hc=>?_)
   (repeat first|refine uA ?_|(refine uK ?_ ?_;focus first|omega|(intros;simp_all<;>omega))|simp (disch:=omega) only [go_sem,Nat.reduceBEq,Nat.reduceAdd,ww,c7i,hRA,hRT])
   refine S.loop (X:=Nat) (fun i=>⟨[(13,P7 A),(19,powC R),(20,x9 R),(22,powC R'),(150,powC R),(151,ints w.arms.length),(152,ints i)],[]⟩) (fun i=>i<=w.arms.length) (fun i=>w.arms.length-i) 0 (c7n _) (by simp only [P7,cls,powC,x9,ints];exact (by (repeat first|refine uA ?_|(refine ⟨?_,?_⟩;focus first|rfl|simp [slot])|rfl|simp))) ?_
   intro i hi
   simp only [P7,cls,powC,x9,ints]
   (repeat first|refine uA ?_|(refine uK ?_ ?_;focus first|omega|(intros;simp_all<;>omega))|simp (disch:=omega) only [go_sem,Nat.reduceBEq,Nat.reduceAdd,ww])
   (refine uJ rfl (fun hc=>?_) fun hc=>?_)
   ·have hi':i < w.arms.length:=by omega
    have hgr:=c7h (show i < R.length by omega)
    have hgq:=c7h (show i < R'.length by omega)
    generalize R[i]'_=r at hgr
    generalize R'[i]'_=r' at hgq
    obtain ⟨h1,h2⟩:=hT4 i r r' hgr hgq
    have hir:(i:Int) < R.length:=by omega
    have hiq:(i:Int) < R'.length:=by omega
    (repeat first|refine uA ?_|(refine uK ?_ ?_;focus first|omega|(intros;simp_all<;>omega))|simp (disch:=omega) only [go_sem,Nat.reduceBEq,Nat.reduceAdd,ww,c7i,c7r,hgr,hgq,c7j,c7o,hir,hiq])
    refine S.cond rfl (fun hc=>?_) (fun hc=>?_)
    ·exfalso
     revert hc
     by_cases k1:r'=0<;>by_cases k2:r=0<;>by_cases k3:r=3<;>simp_all
    ·(repeat first|refine uA ?_|(refine uK ?_ ?_;focus first|omega|(intros;simp_all<;>omega))|simp (disch:=omega) only [go_sem,Nat.reduceBEq,Nat.reduceAdd,ww])
     refine S.next (i+1) (by omega) (by omega) (by (repeat first|refine uA ?_|(refine ⟨?_,?_⟩;focus first|rfl|simp [slot])|rfl|simp))
   ·have hi':i=w.arms.length:=by omega
    subst hi'
    have hgq:=c7h (show 0 < R'.length by omega)
    generalize R'[0]'_=r' at hgq
    have hq0:(0:Int) < R'.length:=by omega
    have hfin:l0.length=0 \/ r' ≠ 0:=hT5.imp id fun h=>h r' hgq
    (repeat first|refine uA ?_|(refine uK ?_ ?_;focus first|omega|(intros;simp_all<;>omega))|simp (disch:=omega) only [go_sem,Nat.reduceBEq,Nat.reduceAdd,ww,c7i,c7r,hgq,hg0,c7j,Int.toNat_zero,hpA,hq0])
    refine S.done ?_
    simp only [p9,r9,go_sem,Nat.reduceBEq,Nat.reduceAdd,Nat.reduceLeDiff,Int.reduceToNat,Int.reducePow]
    refine j3.out rfl (Imp.eq ?_ rfl) rfl
    rcases hfin with h|h
    ·simp [a7n,h]
    ·by_cases h0:l0.length=0<;>simp [a7n,h,h0]
open Go Go.RowKit Go.ChangeShapes Go.WideShapes Eng
theorem c2F {H:Type} {l:List (DataW H)} (hk:Rows.uptoSmall H l=true):Rows.uptoBulkAll l<=1048576:=of_decide_eq_true hk
theorem c1U {H:Type} (l r:List (DataW H)):Rows.uptoBulkAll (l++r)=Rows.uptoBulkAll l+Rows.uptoBulkAll r:=by
 induction l with
 | nil=>simp [Rows.uptoBulkAll]
 | cons x l ih=>simp only [List.cons_append,Rows.uptoBulkAll,ih];omega
def noB:Nat->Prop:=fun _=>False
section
variable {H:Type} {enc:TypeId × Value->H} {P:Program} {W:World}
def Opens (enc:TypeId × Value->H) (P:Program) (W:World) (t:TypeId) {α:Type} (tc:α->List C) (ok:α->Prop) (ms:α->Nat):Prop:=
 ∀ (fuel:Nat) (cs:List Value) (x:DataW H × List MemPlace),DataW.trod enc P W 0 (fun _=>true) true fuel t cs=some x->∃ a:α,FzL W noB (tc a) cs/\(∀ u ∈ cs,u.oneCell'=true)/\ok a/\ms a<=Rows.uptoBulk x.1
def I64 (n:Int):Prop:=-9223372036854775808<=n/\n<=9223372036854775807
theorem c0G {t:TypeId} (ht:P.underlying t=some (.int .i64)):Opens enc P W t (fun n:Int=>[.v (.int .i64 n)]) I64 fun _=>1:=by
 intro fuel cs x h
 obtain ⟨n,rfl,rfl,hw⟩:=DataW.trod_int ht h
 refine ⟨n,by simp [FzL,Fz],by simp [Value.oneCell'],?_,by simp [Rows.uptoBulk]⟩
 simpa [Lit.wf,IntKind.min,IntKind.max,IntKind.signed,IntKind.bits,I64] using hw
theorem Opens.imp {t:TypeId} {α β:Type} {tc:α->List C} {ok:α->Prop} {ms:α->Nat} {tc':β->List C} {ok':β->Prop} {ms':β->Nat} (h:Opens enc P W t tc ok ms)
  (f:∀ a,ok a->∃ b,tc a=tc' b/\ok' b/\ms' b<=ms a):Opens enc P W t tc' ok' ms':=by
 intro fuel cs x hx
 obtain ⟨a,h0,h01,h1,h2⟩:=h fuel cs x hx
 obtain ⟨b,h3,h4,h5⟩:=f a h1
 exact ⟨b,by rw [<- h3];exact h0,h01,h4,c7l h5 h2⟩
theorem c0m {w:World} {O:Nat->Prop} {q:List C} {vs:List Value} {ad:Addr} {j:Nat} (hF:FzL w O q vs) (h1:∀ u ∈ vs,u.oneCell'=true) (hc:∀ i v,vs[i]?=some v->w.cell? (ad.add (j+i))=some v):FzA w O q ad j:=FzA.of hF h1 hc
theorem b6S {t e:TypeId} {α:Type} {tc:α->List C} {ok:α->Prop} {ms:α->Nat} {sz:Nat} (ht:P.underlying t=some (.slice e)) (hc:P.cellsOf e=sz) (hsz:0 < sz) (hlen:∀ a,(tc a).length=sz)
  (he:Opens enc P W e tc ok ms):Opens enc P W t (fun xs:List α=>[.sl sz (xs.map tc)]) (fun xs=>∀ a ∈ xs,ok a) fun xs=>1+(xs.map ms).sum:=by
 intro fuel cs x h
 rcases Deep.open_slice ht h with ⟨rfl,rfl⟩|⟨a,len,cap,m,n,D,Pl,rfl,_,hl,hm,hmm,rfl,hx⟩
 ·refine ⟨[],?_,by simp [Value.oneCell'],(fun a ha=>by cases ha),by simp [Rows.uptoBulk]⟩
  simp only [FzL,Fz]
  exact ⟨_,_,rfl,⟨none,0,rfl,c7p _,c7n _,fun h=>by simp at h⟩,rfl⟩
 ·have hlm:len<=m:=by rw [hmm];split<;>omega
  have key:∀ i,i < len->∃ (y:α) (vs:List Value),W.cells? 0 (a.add (i*sz)) sz=some vs/\FzL W noB (tc y) vs/\(∀ u ∈ vs,u.oneCell'=true)/\ok y/\ms y<=Rows.uptoBulk (D i):=by
   intro i hi
   obtain ⟨cs',h1,h2⟩:=hx i (by omega)
   obtain ⟨y,h31,h32,h3,h4⟩:=he _ _ _ h2
   rw [hc] at h1
   exact ⟨y,cs',h1,h31,h32,h3,h4⟩
  have build:∀ k,k<=len->∃ xs:List α,xs.length=k/\(∀ i y,xs[i]?=some y->∃ vs,W.cells? 0 (a.add (i*sz)) sz=some vs/\FzL W noB (tc y) vs/\(∀ u ∈ vs,u.oneCell'=true)/\ok y)/\(xs.map ms).sum<=Rows.uptoBulkAll ((List.range k).map D):=by
   intro k
   induction k with
   | zero=>intro _;exact ⟨[],rfl,(fun i y h=>by simp at h),by simp⟩
   | succ k ih=>
    intro hk
    obtain ⟨xs,h1,h2,h3⟩:=ih (by omega)
    obtain ⟨y,vs,h4,h41,h42,h5,h6⟩:=key k (by omega)
    refine ⟨xs++[y],by simp [h1],fun i z hz=>?_,?_⟩
    ·rcases c7D i xs.length with hlt|hge
     ·rw [c7B hlt] at hz
      exact h2 i z hz
     ·rw [c7F hge] at hz
      have:i-xs.length=0:=by
       rcases c7E (i-xs.length) with h0|h0
       ·exact h0
       ·obtain ⟨d,hd⟩:∃ d,i-xs.length=d+1:=⟨i-xs.length-1,by omega⟩
        rw [hd] at hz;simp at hz
      rw [this] at hz
      simp at hz
      subst hz
      have:i=k:=by omega
      subst this
      exact ⟨vs,h4,h41,h42,h5⟩
    ·rw [c7X,List.sum_append,List.range_succ,c7X,c1U]
     simp only [c7w,c7I,List.sum_cons,List.sum_nil,Rows.uptoBulkAll]
     omega
  obtain ⟨xs,h1,h2,h3⟩:=build len (c7p _)
  have hcell:∀ (i:Nat) (y:α),xs[i]?=some y->(tc y).length=sz/\FzA W noB (tc y) a (i*sz):=by
   intro i y hy
   obtain ⟨vs,h4,h41,h42,_⟩:=h2 i y hy
   obtain ⟨_,h5,h6⟩:=World.cells?_some h4
   refine ⟨hlen _,c0m h41 h42 fun j v hv=>?_⟩
   have hj:j < sz:=by
    have:=(c7m.1 hv).1
    rwa [h5] at this
   have h7:=h6 j hj
   rw [hv,Deep.add_add] at h7
   exact h7
  refine ⟨xs,?_,by simp [Value.oneCell'],fun y hy=>?_,?_⟩
  ·simp only [FzL]
   refine ⟨_,_,rfl,?_,rfl⟩
   simp only [Fz]
   refine ⟨some a,cap,by simp [h1],by simp;omega,hm,fun h0=>⟨a,rfl,?_,(fun h=>h),FzE.of fun k q hq=>?_⟩⟩
   ·have hi:0 < xs.length:=by simpa using h0
    obtain ⟨hq1,hq2⟩:=hcell 0 xs[0] (c7h hi)
    have h9:0 < (tc xs[0]).length:=by omega
    match htc:tc xs[0],h9,hq2 with
    | c::cs,_,hq2=>
     simp only [FzA] at hq2
     obtain ⟨⟨v,hv,_⟩,_⟩:=hq2
     have h10:=block_lt_of_cell hv
     rwa [add_block] at h10
   ·rw [c7r] at hq
    obtain ⟨y,hy,rfl⟩:=Option.map_eq_some_iff.1 hq
    rw [c7R];exact hcell k y hy
  ·obtain ⟨i,hi⟩:=List.mem_iff_getElem?.1 hy
   exact (h2 i y hi).choose_spec.2.2.2
  ·simp only [Rows.uptoBulk]
   omega
theorem FzL.app {w:World} {O:Nat->Prop}:∀ {cs ds:List C} {vs us:List Value},FzL w O cs vs->FzL w O ds us->FzL w O (cs++ds) (vs++us)
 | [],ds,vs,us,h,k=>by simp only [FzL] at h;subst h;simpa using k
 | c::cs,ds,vs,us,h,k=>by
  simp only [FzL] at h
  obtain ⟨y,ys,rfl,h1,h2⟩:=h
  exact ⟨y,ys++us,rfl,h1,FzL.app h2 k⟩
theorem c1L {f:Func} {s:ChangeSpec} {apart fresh handsOn again:Bool} {W':World} {args:Array Value} {ds gs:List (DataW H)} {before:List MemPlace} {tb:TypeId} (hl:laidOutB P=true) (hpar:∀ t ∈ f.params.toList,P.readableRec t=true/\t < P.types.size)
  (hrt:f.resultTypes=#[tb]) (htb:P.underlying tb=some .bool) (hv:s.vars=[]) (hfn:s.fn H (ds++gs)={ results:=[.lit (.bool true)],args:=ds }) (hW:DataW.Whole enc P f.params.toList s.vars apart W args.toList ds gs before) (hb:Below W.heap.size W W') :
  s.post enc P f apart fresh handsOn again W args (.bool true) W':=by
 have hlt:∀ p ∈ before,p.block < W.heap.size:=fun p hp=>hW.lt p hp
 obtain ⟨p,q,hA,hV,hps,hz,hn⟩:=id hW
 rw [hv] at hV
 obtain ⟨rfl,rfl⟩:=trodVars_none hV
 rw [List.append_nil] at hps
 subst hps
 have all:∀ (sp:Nat->Bool) (ts:List TypeId) (vs:List Value) (es:List (DataW H)) (pl:List MemPlace),(∀ t ∈ ts,P.readableRec t=true/\t < P.types.size)->(∀ x ∈ pl,x.block < W.heap.size/\sp x.block=true)->DataW.TrodAll enc P W 0 (fun _=>true) true ts vs es pl->DataW.TrodAll enc P W' 0 sp true ts vs es pl:=by
  intro sp ts
  induction ts with
  | nil=>
   intro vs es pl _ _ h
   cases vs<;>cases es<;>simp only [DataW.TrodAll] at h ⊢<;>exact h
  | cons t ts ih=>
   intro vs es pl hts hpl h
   cases vs<;>cases es<;>simp only [DataW.TrodAll] at h ⊢
   obtain ⟨p1,p2,h1,h2,rfl⟩:=h
   refine ⟨p1,p2,?_,ih _ _ _ (fun t ht=>hts t (List.mem_cons_of_mem _ ht)) (fun x hx=>hpl x (List.mem_append_right _ hx)) h2,rfl⟩
   exact WideElems.Trod_stays hl (hts t (List.mem_cons_self ..)).1 (hts t (List.mem_cons_self ..)).2 h1 (fun x hx=>hb.same (hpl x (List.mem_append_left _ hx)).1) fun x hx=>(hpl x (List.mem_append_left _ hx)).2
 have hres:∀ (b:Nat) (sp:Nat->Bool) (hd:Bool),DataW.TrodAll enc P W' b sp hd f.resultTypes.toList ((Value.bool true).resultList f.resultTypes.size) (s.fn H (ds++[])).results []:=by
  intro b sp hd
  rw [hrt,hfn]
  exact trodAll_cons_mk (shut_bool htb true) trodAll_mk0
 have hargs:∀ sp:Nat->Bool,(∀ p' ∈ before,sp p'.block=true)->DataW.TrodAll enc P W' 0 sp true f.params.toList args.toList (s.fn H (ds++[])).args before:=fun sp hsp=>by
  rw [hfn]
  exact all sp _ _ _ _ hpar (fun x hx=>⟨hlt x hx,hsp x hx⟩) hA
 have hvars:∀ sp:Nat->Bool,DataW.TrodVars enc P W' sp s.vars (s.fn H (ds++[])).vars []:=fun sp=>by rw [hv,hfn];rfl
 have hold:∀ p' ∈ before,(fun b=>decide (b < W.heap.size)) p'.block=true:=fun p' hp=>by simpa using hlt p' hp
 refine ⟨ds,[],before,[],before,[],hW,hres _ _ _,hargs _ hold,hvars _,World.keptBut_mono (fun p' hp=>⟨hp,?_⟩) (hb.frame (· ∈ before)),fun _=>⟨ok_one hrt rfl (okWide_bool_mk htb _),_,_,([]++before)++[],⟨[]++before,[],trodAll_append (hargs _ (fun _ _=>rfl)) (hres _ _ _),hvars _,rfl,?_,?_⟩,?_⟩⟩
 ·exact Or.inr (by simpa using hp)
 ·intro b off hp
  have hin:MemPlace.cell b off ∈ before:=by simpa using hp
  rw [hb.frozen (hlt _ hin)]
  exact hz b off hin
 ·intro ha
  have:=hn ha
  simpa using this
 ·intro p' hp _
  simpa using hp
end
open Go Go.RowKit Go.ChangeShapes Go.WideShapes Go.ChangeAt Eng
set_option maxRecDepth 10000
theorem c2j:ownKnob Tryz.prog.godebug=none:=by kernel_rfl
theorem c1X:laidOutB Tryz.prog=true:=by kernel_rfl
theorem gDb:Tryz.prog.globalNamed "math/bits.deBruijn64tab" = some 1:=by kernel_rfl
theorem c4v:(Tryz.prog.globals[1]?).map (·.type)=some 276:=by kernel_rfl
theorem c1W:Tryz.prog.cellsOf 276=64:=by kernel_rfl
theorem c4f:Tryz.prog.cellsOf 5=1:=by kernel_rfl
theorem c1T:Tryz.prog.underlying 276=some (.array 64 5):=by kernel_rfl
theorem c4C:Tryz.prog.underlying 5=some (.int .u8):=by kernel_rfl
theorem c3q:(Rows.laid_math_bits_deBruijn64tab:DataW Unit)=Lib.tabData .u8 (Lib.deBruijn64tab.map fun n:Nat=>(n:Int)):=by rfl
theorem c6F {W:World} {rest:List (String × DataW Unit)} (h:laidMet Tryz.prog (("math/bits.deBruijn64tab",Rows.laid_math_bits_deBruijn64tab)::rest) W):Wz W:=by
 rw [c3q] at h
 have ht:=Lib.tabIs_of_head gDb c4v c1T c4C c4f c1W h
 intro j hj
 have:=ht.cell gDb j (by rw [c7i];exact hj)
 rw [this]
 congr 2
 rw [c7u,c7u,c7r,c7h hj]
 rfl
section
variable {H:Type} {enc:TypeId × Value->H} {W:World}
theorem b4j {α:Type}:∀ l:List α,l.length=(l.map fun _=>1).sum
 | []=>rfl
 | x::l=>by simp only [c7A,c7w,List.sum_cons,<- b4j l];omega
theorem c0Q:Tryz.prog.cellsOf 3=1:=by kernel_rfl
theorem b4i:Opens enc Tryz.prog W 22 (fun l:List Int=>[.sl 1 (l.map fun n=>[.v (.int .i64 n)])]) (fun l=>∀ x ∈ l,I64 x) fun l=>1+l.length:=
 (b6S Tryz.underlying22 c0Q (by decide) (fun _=>rfl) (c0G Tryz.underlying3)).imp fun f hf=>⟨f,rfl,hf,by rw [<- b4j];exact c7p _⟩
end
noncomputable def laidWorld (os:Os):World:=World.doorLaid Tryz.prog 400 os
theorem b1z (os:Os) (args:Array Value):laidMet Tryz.prog Rows.guardFewerUptoRow.laid ((laidWorld os).forCall (fun _ _=>0) ⟨#[],args,[]⟩).memory:=
 laidMet_of_run' 8 (by kernel_rfl) (by kernel_rfl)
theorem a7w (H:Type) (enc:TypeId × Value->H) (W:World) (base:Nat) (args:Array Value) (ds gs:List (DataW H)) (before:List MemPlace)
  (hval:∀ (j:Nat) t v,Tryz.f3.params[j]?=some t->args[j]?=some v->Value.okWide Tryz.prog W .any base t v)
  (hW:DataW.Whole enc Tryz.prog Tryz.f3.params.toList Rows.guardFewerSpec.vars false W args.toList ds gs before) (hk:Rows.uptoSmall H (ds++gs)=true) (hL:laidMetH Tryz.prog Rows.guardFewerUptoRow.laid W) (hS:W.ShapedOpen Tryz.prog) :
  Calls Tryz.prog 3 args W fun e W'=>∃ v,e=.returned v/\Rows.guardFewerSpec.post enc Tryz.prog Tryz.f3 false true false false W args v W':=by
 have hW':=hW
 obtain ⟨p,q,hA0,hV,rfl,hfz,hnd⟩:=hW
 have hA:DataW.TrodAll enc Tryz.prog W 0 (fun _=>true) true Tryz.f3.params.toList args.toList ds p:=hA0
 rw [Tryz.params3] at hA hval
 obtain ⟨v0,vs0,d0,ds0,p0,q0,hargs,rfl,rfl,h0,r0⟩:=trodAll_cons hA
 obtain ⟨v1,vs1,d1,ds1,p1,q1,rfl,rfl,rfl,h1,r1⟩:=trodAll_cons r0
 obtain ⟨v2,vs2,d2,ds2,p2,q2,rfl,rfl,rfl,h2,r2⟩:=trodAll_cons r1
 obtain ⟨v3,vs3,d3,ds3,p3,q3,rfl,rfl,rfl,h3,r3⟩:=trodAll_cons r2
 obtain ⟨rfl,rfl,rfl⟩:=trodAll_nil r3
 obtain rfl:args=#[v0,v1,v2,v3]:=by cases args;simp_all
 obtain ⟨rfl,rfl⟩:=trodVars_none hV
 have hb:=c2F hk
 obtain ⟨A0,n0,c0,rfl⟩:=okWide_slice Tryz.underlying22 (hval 0 22 v0 rfl rfl)
 obtain ⟨m0,h0⟩:=h0
 obtain ⟨raw,e0,_,k0,b0⟩:=b4i _ _ _ h0
 have b0:1+raw.length<=Rows.uptoBulk d0:=b0
 have e0:FzL W noB [x9 raw] [.slice A0 n0 c0]:=e0
 simp only [FzL] at e0
 obtain ⟨y0,ys0,f0,g0,rfl⟩:=e0
 injection f0 with f0 _
 subst f0
 obtain ⟨A1,n1,c1,rfl⟩:=okWide_slice Tryz.underlying22 (hval 1 22 v1 rfl rfl)
 obtain ⟨m1,h1⟩:=h1
 obtain ⟨pose,e1,_,k1,b1⟩:=b4i _ _ _ h1
 have b1:1+pose.length<=Rows.uptoBulk d1:=b1
 have e1:FzL W noB [x9 pose] [.slice A1 n1 c1]:=e1
 simp only [FzL] at e1
 obtain ⟨y1,ys1,f1,g1,rfl⟩:=e1
 injection f1 with f1 _
 subst f1
 obtain ⟨A2,n2,c2,rfl⟩:=okWide_slice Tryz.underlying22 (hval 2 22 v2 rfl rfl)
 obtain ⟨m2,h2⟩:=h2
 obtain ⟨to,e2,_,k2,b2⟩:=b4i _ _ _ h2
 have b2:1+to.length<=Rows.uptoBulk d2:=b2
 have e2:FzL W noB [x9 to] [.slice A2 n2 c2]:=e2
 simp only [FzL] at e2
 obtain ⟨y2,ys2,f2,g2,rfl⟩:=e2
 injection f2 with f2 _
 subst f2
 obtain ⟨k,rfl,rfl,rfl,w3⟩:=open_int Tryz.underlying3 (hval 3 3 v3 rfl rfl) h3
 have hk:I64 k:=by simpa [Lit.wf,IntKind.min,IntKind.max,IntKind.signed,IntKind.bits,I64] using w3
 simp only [List.append_nil,List.cons_append,List.nil_append,Rows.uptoBulkAll] at hb
 have hF:FzL W noB [x9 raw,x9 pose,x9 to,ints k] [.slice A0 n0 c0,.slice A1 n1 c1,.slice A2 n2 c2,.int .i64 k]:=by
  simp only [FzL]
  exact ⟨_,_,rfl,g0,⟨_,_,rfl,g1,⟨_,_,rfl,g2,⟨_,_,rfl,by simp only [ints,Fz],rfl⟩⟩⟩⟩
 refine (b5p raw pose to k (by omega) (by omega) noB W _ (c6F hL) (fun _ h=>h.elim) hF).mono fun e W' ⟨y,he,hbl,hy⟩=>?_
 subst he
 simp only [Fz] at hy
 subst hy
 refine ⟨_,rfl,c1L c1X (by
  intro t ht
  rw [Tryz.params3] at ht
  simp only [List.mem_cons,List.not_mem_nil,or_false] at ht
  rcases ht with rfl|rfl|rfl|rfl
  ·exact ⟨by kernel_rfl,of_decide_eq_true (by kernel_rfl)⟩
  ·exact ⟨by kernel_rfl,of_decide_eq_true (by kernel_rfl)⟩
  ·exact ⟨by kernel_rfl,of_decide_eq_true (by kernel_rfl)⟩
  ·exact ⟨by kernel_rfl,of_decide_eq_true (by kernel_rfl)⟩) (tb:=4) rfl Tryz.underlying4 rfl rfl hW' hbl⟩
theorem a9N (os:Os) {H:Type} (enc:TypeId × Value->H):∃ places,DataW.whole enc Tryz.prog ((laidWorld os).forCall (fun _ _=>0) ⟨#[],#[.slice none 0 0,.slice none 0 0,.slice none 0 0,.int .i64 0],[]⟩).memory Tryz.f3.params.toList Rows.guardFewerSpec.vars false (#[.slice none 0 0,.slice none 0 0,.slice none 0 0,.int .i64 0]:Array Value).toList 8=some ([.nil,.nil,.nil,.lit (.int .i64 0)],[],places):=
 ⟨[],by kernel_rfl⟩
set_option maxRecDepth 100000 in
theorem a8S (os:Os) (started:os.Started) (H:Type) (enc:TypeId × Value->H) (F:Stop.Interp) :
  ReturnsInHanded {} Tryz.checked os 3 .any ((Rows.OpenSpec.upto Rows.guardFewerSpec).preRow enc Tryz.prog Tryz.f3 Rows.guardFewerUptoRow.domain false Rows.guardFewerUptoRow.laid) (((Rows.OpenSpec.upto Rows.guardFewerSpec).at F).post enc Tryz.prog Tryz.f3 false true false false):=by
 obtain ⟨places,hx⟩:=a9N os enc
 refine returnsInHanded_of_row (C:=Tryz.checked) (s:=Rows.OpenSpec.upto Rows.guardFewerSpec) c2j started (by kernel_rfl) Tryz.func3
  (witness_row_at (enc:=enc) (C:=Tryz.checked) false (laidWorld os) #[.slice none 0 0,.slice none 0 0,.slice none 0 0,.int .i64 0] rfl (by kernel_rfl) (by kernel_rfl) (by kernel_rfl)
   (OpenSpec.preRow_of_cond 8 hx (by kernel_rfl) (fun k hk=>by cases hk;kernel_rfl) (by kernel_rfl) (b1z os _))) ?_
 intro W base args ds gs before hval hW _ hcond _ hL hS _
 exact a7w H enc W base args ds gs before hval hW (hcond _ rfl) hL hS
theorem c6J {a b:Bool} (h:a=true) (k:b=true):(a && b)=true:=by rw [h,k];rfl
set_option maxHeartbeats 40000000 in
theorem a8Q:joinedFacts Tryz.pinned.checked.prog 3 Tryz.f3 (Rows.OpenSpec.upto Rows.guardFewerSpec).bare Rows.guardFewerUptoRow=true:=by
 unfold joinedFacts
 repeat' (with_reducible refine c6J ?_ ?_)
 all_goals (as_aux_lemma=>kernel_rfl)
end Go.Proofs.YtgpegbfnlkidjaaGreatDoor
