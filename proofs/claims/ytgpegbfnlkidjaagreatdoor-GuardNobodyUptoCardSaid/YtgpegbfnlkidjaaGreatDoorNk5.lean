/- A part of the proof: lemmas only, with the conditions that each names. -/
import Derived.Test.YtgpegbfnlkidjaaGreatDoorProg
import Derived.KernelRfl
import Derived.Shelf.Small.Bits
import Derived.Shelf.Small.Strs
import Derived.Shelf.Small.Wraps
import Derived.Shelf.Strconv.Itoa0
import Derived.Shelf.Spec.TrailingZeros
import Derived.Shelf.SlSortCmp.NoneTotal
import Derived.Ground.SlsfProg
import Derived.Test.YtgpegbfnlkidjaaGreatDoorNk4
set_option linter.all false
namespace Go.Proofs.YtgpegbfnlkidjaaGreatDoor
open Go Go.RowKit Eng
set_option maxRecDepth 10000
set_option maxHeartbeats 8000000
theorem b8e {E:Ctx} (hP:E.P=Tryz.prog) (ht0:Tz E) (n:Nms) (l:List Pt) (hn:l.length<=1073741824) (hb:∀ x ∈ l,Pb 1073741824 x) :
  j6 E [.map true (nmE n)] 89 [pts l,.bnd 90 (.mp 0)] (ints (x9 a0X n l).1) [.map true (nmE (x9 a0X n l).2)] []:=by
 obtain ⟨P,eff',N,w0,own0,av0,nu0,pk0⟩:=E
 simp only at hP
 subst hP
 refine j6.ofT (eff:=eff) ht0 Tryz.func89 (by cbv) (by exact c7j rfl) fun w own av ν hν ht=>?_
 have hν0:ν.length<=1:=by rw [hν];exact c7b _
 simp only [j5,TT,II,OA,OB,MM,LL,pts,ints]
 (repeat first|refine uA ?_|(apply uK;focus omega)|simp (disch:=omega) only [go_sem,Nat.reduceBEq,c6U])
 refine S.loop (X:=Nat × Nms) (fun x=>⟨[(1,.bnd 90 (.mp 0)),(8,pts l),(9,ints l.length),(10,ints x.1)],[.map true (nmE x.2)]⟩) (fun x=>x.1<=l.length/\x9 a0X n l=x9 a0X x.2 (l.drop x.1)) (fun x=>l.length-x.1) (0,n) ⟨c6Z _,rfl⟩ (by (repeat first|refine uA ?_|(refine ⟨?_,?_⟩;focus first|rfl|trivial|(simp [slot];done))|rfl|trivial|simp|exact c6X hν0 (by simp))) ?_
 rintro ⟨i,m⟩ ⟨hi,hg⟩
 simp only [pts,ints] at hi hg ⊢
 (repeat first|refine uA ?_|(apply uK;focus omega)|simp (disch:=omega) only [go_sem,Nat.reduceBEq])
 (refine uJ rfl (fun hc=>?_) fun hc=>?_)
 ·have hi':i < l.length:=by omega
  have hgi:=c6T hi'
  generalize l[i]=x at hgi
  have hst:=a2Z (f:=a0X) (s:=m) hgi
  have hnx:=a3g (f:=a0X) (s:=m) hgi
  have hs:=fun (E:Ctx) (hP:E.P=Tryz.prog) (ht:Tz E)=>c4O hP ht m x (hb x (c6W hgi))
  generalize a0X m x=r at *
  obtain ⟨e,m'⟩:=r
  simp only [Pt.c,Pt.enc,vts,sb,ints] at hs hst hnx
  (repeat first|refine uA ?_|(refine uK ?_ ?_;focus first|omega|trivial|(intros;simp_all<;>omega))|simp (disch:=omega) only [go_sem,Nat.reduceBEq,Nat.reduceAdd,Nat.reduceLeDiff,hgi,c6V,c6U,Pt.enc,vts,sb]|refine l8.t (j6.lift (k:=0) rfl (hs _ rfl ht) rfl rfl rfl) ?_)
  refine S.cond rfl (fun hc2=>?_) (fun hc2=>?_)
  ·rw [hg,hst (by simpa using hc2)]
   (repeat first|refine uA ?_|(apply uK;focus omega)|simp (disch:=omega) only [go_sem,Nat.reduceBEq])
   (refine S.done ?_;simp only [p8,go_sem,Nat.reduceBEq];exact j3.K5 (Imp.refl rfl) (by (repeat first|refine uA ?_|rfl|simp [slot])) (c6X hν0 (by simp)))
  ·have hc3:e=0:=by simpa using hc2
   (repeat first|refine uA ?_|(apply uK;focus omega)|simp (disch:=omega) only [go_sem,Nat.reduceBEq,ww])
   refine S.next (x:=(i,m)) (i+1,m') ⟨by simp only;omega,by simp only;rw [hg,hnx hc3]⟩ (by simp only;omega) (by (repeat first|refine uA ?_|(refine ⟨?_,?_⟩;focus first|rfl|trivial|(simp [slot];done))|rfl|trivial|simp|exact c6X hν0 (by simp)))
 ·rw [hg,a4a (by omega)]
  (repeat first|refine uA ?_|(apply uK;focus omega)|simp (disch:=omega) only [go_sem])
  (refine S.done ?_;simp only [p8,go_sem,Nat.reduceBEq];exact j3.K5 (Imp.refl rfl) (by (repeat first|refine uA ?_|rfl|simp [slot])) (c6X hν0 (by simp)))
theorem b8G {E:Ctx} (hP:E.P=Tryz.prog) (ht0:Tz E) (n:Nms) (l:List Sl) (hn:l.length<=1073741824) (hb:∀ x ∈ l,Sb 1073741824 x) :
  j6 E [.map true (nmE n)] 91 [sls l,.bnd 92 (.mp 0)] (ints (x9 a0O n l).1) [.map true (nmE (x9 a0O n l).2)] []:=by
 obtain ⟨P,eff',N,w0,own0,av0,nu0,pk0⟩:=E
 simp only at hP
 subst hP
 refine j6.ofT (eff:=eff) ht0 Tryz.func91 (by cbv) (by exact c7j rfl) fun w own av ν hν ht=>?_
 have hν0:ν.length<=1:=by rw [hν];exact c7b _
 simp only [j5,TT,II,OA,OB,MM,LL,sls,ints]
 (repeat first|refine uA ?_|(apply uK;focus omega)|simp (disch:=omega) only [go_sem,Nat.reduceBEq,c6U])
 refine S.loop (X:=Nat × Nms) (fun x=>⟨[(1,.bnd 92 (.mp 0)),(8,sls l),(9,ints l.length),(10,ints x.1)],[.map true (nmE x.2)]⟩) (fun x=>x.1<=l.length/\x9 a0O n l=x9 a0O x.2 (l.drop x.1)) (fun x=>l.length-x.1) (0,n) ⟨c6Z _,rfl⟩ (by (repeat first|refine uA ?_|(refine ⟨?_,?_⟩;focus first|rfl|trivial|(simp [slot];done))|rfl|trivial|simp|exact c6X hν0 (by simp))) ?_
 rintro ⟨i,m⟩ ⟨hi,hg⟩
 simp only [sls,ints] at hi hg ⊢
 (repeat first|refine uA ?_|(apply uK;focus omega)|simp (disch:=omega) only [go_sem,Nat.reduceBEq])
 (refine uJ rfl (fun hc=>?_) fun hc=>?_)
 ·have hi':i < l.length:=by omega
  have hgi:=c6T hi'
  generalize l[i]=x at hgi
  have hst:=a2Z (f:=a0O) (s:=m) hgi
  have hnx:=a3g (f:=a0O) (s:=m) hgi
  have hs:=fun (E:Ctx) (hP:E.P=Tryz.prog) (ht:Tz E)=>c5u hP ht m x (hb x (c6W hgi))
  generalize a0O m x=r at *
  obtain ⟨e,m'⟩:=r
  simp only [Sl.c,Sl.enc,sb,ints] at hs hst hnx
  (repeat first|refine uA ?_|(refine uK ?_ ?_;focus first|omega|trivial|(intros;simp_all<;>omega))|simp (disch:=omega) only [go_sem,Nat.reduceBEq,Nat.reduceAdd,Nat.reduceLeDiff,hgi,c6V,c6U,Sl.enc,sb]|refine l8.t (j6.lift (k:=0) rfl (hs _ rfl ht) rfl rfl rfl) ?_)
  refine S.cond rfl (fun hc2=>?_) (fun hc2=>?_)
  ·rw [hg,hst (by simpa using hc2)]
   (repeat first|refine uA ?_|(apply uK;focus omega)|simp (disch:=omega) only [go_sem,Nat.reduceBEq])
   (refine S.done ?_;simp only [p8,go_sem,Nat.reduceBEq];exact j3.K5 (Imp.refl rfl) (by (repeat first|refine uA ?_|rfl|simp [slot])) (c6X hν0 (by simp)))
  ·have hc3:e=0:=by simpa using hc2
   (repeat first|refine uA ?_|(apply uK;focus omega)|simp (disch:=omega) only [go_sem,Nat.reduceBEq,ww])
   refine S.next (x:=(i,m)) (i+1,m') ⟨by simp only;omega,by simp only;rw [hg,hnx hc3]⟩ (by simp only;omega) (by (repeat first|refine uA ?_|(refine ⟨?_,?_⟩;focus first|rfl|trivial|(simp [slot];done))|rfl|trivial|simp|exact c6X hν0 (by simp)))
 ·rw [hg,a4a (by omega)]
  (repeat first|refine uA ?_|(apply uK;focus omega)|simp (disch:=omega) only [go_sem])
  (refine S.done ?_;simp only [p8,go_sem,Nat.reduceBEq];exact j3.K5 (Imp.refl rfl) (by (repeat first|refine uA ?_|rfl|simp [slot])) (c6X hν0 (by simp)))
theorem b7E {E:Ctx} (hP:E.P=Tryz.prog) (ht0:Tz E) (n:Nms) (l:List Gt) (hn:l.length<=1073741824) (hb:∀ x ∈ l,Gb 1073741824 x) :
  j6 E [.map true (nmE n)] 93 [gts l,.bnd 94 (.mp 0)] (ints (x9 a0U n l).1) [.map true (nmE (x9 a0U n l).2)] []:=by
 obtain ⟨P,eff',N,w0,own0,av0,nu0,pk0⟩:=E
 simp only at hP
 subst hP
 refine j6.ofT (eff:=eff) ht0 Tryz.func93 (by cbv) (by exact c7j rfl) fun w own av ν hν ht=>?_
 have hν0:ν.length<=1:=by rw [hν];exact c7b _
 simp only [j5,TT,II,OA,OB,MM,LL,gts,ints]
 (repeat first|refine uA ?_|(apply uK;focus omega)|simp (disch:=omega) only [go_sem,Nat.reduceBEq,c6U])
 refine S.loop (X:=Nat × Nms) (fun x=>⟨[(1,.bnd 94 (.mp 0)),(8,gts l),(9,ints l.length),(10,ints x.1)],[.map true (nmE x.2)]⟩) (fun x=>x.1<=l.length/\x9 a0U n l=x9 a0U x.2 (l.drop x.1)) (fun x=>l.length-x.1) (0,n) ⟨c6Z _,rfl⟩ (by (repeat first|refine uA ?_|(refine ⟨?_,?_⟩;focus first|rfl|trivial|(simp [slot];done))|rfl|trivial|simp|exact c6X hν0 (by simp))) ?_
 rintro ⟨i,m⟩ ⟨hi,hg⟩
 simp only [gts,ints] at hi hg ⊢
 (repeat first|refine uA ?_|(apply uK;focus omega)|simp (disch:=omega) only [go_sem,Nat.reduceBEq])
 (refine uJ rfl (fun hc=>?_) fun hc=>?_)
 ·have hi':i < l.length:=by omega
  have hgi:=c6T hi'
  generalize l[i]=x at hgi
  have hst:=a2Z (f:=a0U) (s:=m) hgi
  have hnx:=a3g (f:=a0U) (s:=m) hgi
  have hs:=fun (E:Ctx) (hP:E.P=Tryz.prog) (ht:Tz E)=>c5D hP ht m x (hb x (c6W hgi))
  generalize a0U m x=r at *
  obtain ⟨e,m'⟩:=r
  simp only [Gt.c,Gt.enc,sb,ints] at hs hst hnx
  (repeat first|refine uA ?_|(refine uK ?_ ?_;focus first|omega|trivial|(intros;simp_all<;>omega))|simp (disch:=omega) only [go_sem,Nat.reduceBEq,Nat.reduceAdd,Nat.reduceLeDiff,hgi,c6V,c6U,Gt.enc,sb]|refine l8.t (j6.lift (k:=0) rfl (hs _ rfl ht) rfl rfl rfl) ?_)
  refine S.cond rfl (fun hc2=>?_) (fun hc2=>?_)
  ·rw [hg,hst (by simpa using hc2)]
   (repeat first|refine uA ?_|(apply uK;focus omega)|simp (disch:=omega) only [go_sem,Nat.reduceBEq])
   (refine S.done ?_;simp only [p8,go_sem,Nat.reduceBEq];exact j3.K5 (Imp.refl rfl) (by (repeat first|refine uA ?_|rfl|simp [slot])) (c6X hν0 (by simp)))
  ·have hc3:e=0:=by simpa using hc2
   (repeat first|refine uA ?_|(apply uK;focus omega)|simp (disch:=omega) only [go_sem,Nat.reduceBEq,ww])
   refine S.next (x:=(i,m)) (i+1,m') ⟨by simp only;omega,by simp only;rw [hg,hnx hc3]⟩ (by simp only;omega) (by (repeat first|refine uA ?_|(refine ⟨?_,?_⟩;focus first|rfl|trivial|(simp [slot];done))|rfl|trivial|simp|exact c6X hν0 (by simp)))
 ·rw [hg,a4a (by omega)]
  (repeat first|refine uA ?_|(apply uK;focus omega)|simp (disch:=omega) only [go_sem])
  (refine S.done ?_;simp only [p8,go_sem,Nat.reduceBEq];exact j3.K5 (Imp.refl rfl) (by (repeat first|refine uA ?_|rfl|simp [slot])) (c6X hν0 (by simp)))
theorem b8E (l:List (List Vt)) (hn:l.length<=1073741824) (hb:∀ x ∈ l,Vbs 1073741824 x):FZ 87 [wls l,.v (.func (.func 88) #[] #[])] (ints (I4 K6 l)):=by
 refine kW Tryz.func87 (by cbv) (by rfl) fun w O hw=>?_
 have hcal:callable Tryz.prog 88=true:=by kernel_rfl
 simp only [j5,TT,II,OA,MM,VV,wls,ints]
 (repeat first|refine uA ?_|(apply uK;focus omega)|simp (disch:=omega) only [go_sem,Nat.reduceBEq,c6U])
 refine S.loop (X:=Nat) (fun i=>⟨[(1,.v (.func (.func 88) #[] #[])),(8,wls l),(9,ints l.length),(10,ints i)],[]⟩) (fun i=>i<=l.length/\I4 K6 l=I4 K6 (l.drop i)) (fun i=>l.length-i) 0 ⟨c6Z _,rfl⟩ (by (repeat first|refine uA ?_|(refine ⟨?_,?_⟩;focus first|rfl|trivial|(simp [slot];done))|rfl|trivial|simp)) ?_
 rintro i ⟨hi,hg⟩
 simp only [wls,ints] at hi hg ⊢
 (repeat first|refine uA ?_|(apply uK;focus omega)|simp (disch:=omega) only [go_sem,Nat.reduceBEq])
 (refine uJ rfl (fun hc=>?_) fun hc=>?_)
 ·have hi':i < l.length:=by omega
  have hgi:=c6T hi'
  generalize l[i]=x at hgi
  have hst:=a1Z (f:=K6) hgi
  have hnx:=a2a (f:=K6) hgi
  have hs:=b5j x (hb x (c6W hgi))
  generalize K6 x=e at *
  simp only [ints] at hs
  (repeat first|refine uA ?_|(refine uK ?_ ?_;focus first|omega|trivial|(intros;simp_all<;>omega))|simp (disch:=omega) only [go_sem,Nat.reduceBEq,hgi,c6V,c6U,hcal]|(refine uD hs ?_ ?_ ?_;exact tz hw;exact rfl))
  refine S.cond rfl (fun hc2=>?_) (fun hc2=>?_)
  ·rw [hg,hst (by simpa using hc2)]
   (repeat first|refine uA ?_|(apply uK;focus omega)|simp (disch:=omega) only [go_sem,Nat.reduceBEq])
   exact S.done (j3.out rfl (Imp.refl rfl) rfl)
  ·have hc3:e=0:=by simpa using hc2
   (repeat first|refine uA ?_|(apply uK;focus omega)|simp (disch:=omega) only [go_sem,Nat.reduceBEq,ww])
   refine S.next (i+1) ⟨by omega,by rw [hg,hnx hc3]⟩ (by omega) (by (repeat first|refine uA ?_|(refine ⟨?_,?_⟩;focus first|rfl|trivial|(simp [slot];done))|rfl|trivial|simp))
 ·rw [hg,a2S (by omega)]
  (repeat first|refine uA ?_|(apply uK;focus omega)|simp (disch:=omega) only [go_sem])
  exact S.done (j3.out rfl (Imp.refl rfl) rfl)
end Go.Proofs.YtgpegbfnlkidjaaGreatDoor
namespace Go.Proofs.YtgpegbfnlkidjaaGreatDoor.Eng
open Go Go.RowKit
def Res.bdr (n:Nat):Res->Bool
 | .box _ cs=>C.bdL n cs
 | _=>true
theorem c5a {ν:List Value} {w:World} {O O':Nat->Prop} {x:Value} {r:Res} {n:Nat} (hs:r.bdr n=true) (hO:∀ b,O' b->O b) (h:O5 ν w O x r):O5 (ν.take n) w O' x r:=by
 cases r with
 | gone=>exact h
 | box t cs=>
  obtain ⟨b,vs,h1,h2,h3,h4⟩:=h
  exact ⟨b,vs,h1,l7.keep (Keeps.sub hO) (l7.takeν n hs h2),h3,h4⟩
 | row e sz es=>exact a6z hO h
 | map s es=>exact h
theorem c6n {ν ν':List Value} {w:World} {O O':Nat->Prop} {x:Value} {r:Res} (hn:Z4 [] ν ν') (hO:∀ b,O' b->O b) (h:O5 ν w O x r):O5 ν' w O' x r:=by
 cases r with
 | gone=>exact h
 | box t cs=>
  obtain ⟨b,vs,h1,h2,h3,h4⟩:=h
  exact ⟨b,vs,h1,l7.keep (Keeps.sub hO) (l7.nu hn (fun k hk=>by cases hk) h2),h3,h4⟩
 | row e sz es=>exact a6z hO h
 | map s es=>exact h
theorem Z4.take (ν:List Value) (n:Nat):Z4 [] (ν.take n) ν:=fun _ _ _ h=>a0R h
theorem c6s {ν ν':List Value} (h:Z4 [] ν ν') (hl:ν'.length=ν.length):ν'=ν:=by
 apply List.ext_getElem?
 intro i
 rcases c7p i ν.length with h1|h1
 ·have:=h i _ (fun hk=>by cases hk) (c6T h1)
  rw [this,c6T h1]
 ·rw [c7v h1,c7v (by omega)]
theorem a7J {rs ext:List Res} {ν:List Value} (hl:ν.length=(rs++ext).length) (b:Nat):owned (rs++ext) ν b <-> owned rs (ν.take rs.length) b \/ ∃ k r x,ext[k]?=some r/\ν[rs.length+k]?=some x/\fp r x b:=by
 constructor
 ·rintro ⟨k,r,x,h1,h2,h3⟩
  rcases c7p k rs.length with h|h
  ·rw [c7n h] at h1
   exact .inl ⟨k,r,x,h1,P8 h h2,h3⟩
  ·rw [c7r h] at h1
   exact .inr ⟨k-rs.length,r,x,h1,by rw [show rs.length+(k-rs.length)=k by omega];exact h2,h3⟩
 ·rintro (⟨k,r,x,h1,h2,h3⟩|⟨k,r,x,h1,h2,h3⟩)
  ·have h:=(c6Y.1 h1).1
   exact ⟨k,r,x,by rw [c7n h];exact h1,a0R h2,h3⟩
  ·exact ⟨rs.length+k,r,x,by rw [c7r (by omega),show rs.length+k-rs.length=k by omega];exact h1,h2,h3⟩
theorem j6.ext {E:Ctx} {rs rs':List Res} (ex:List Res) {f:Nat} {args:List C} {s:C} (h:j6 E rs f args s rs' []) (hl:rs'.length=rs.length) (hb:rs.all (Res.bdr rs.length)=true) (ha:C.bdL rs.length args=true):j6 E (rs++ex) f args s (rs'++ex) []:=by
  intro av ν w vs hR hav hF hD
  have hlen:=hR.len
  have hl1:(ν.take rs.length).length=rs.length:=by rw [c7d,hlen,c7e];omega
  generalize hν1:ν.take rs.length=ν1 at hl1
  have hown:=fun b=>a7J hlen b
  rw [hν1] at hown
  have hx:∀ b k r x,ex[k]?=some r->ν[rs.length+k]?=some x->fp r x b->¬ owned rs ν1 b:=by
    rintro b k r x h1 h2 h3 ⟨l,q,y,g1,g2,g3⟩
    have hlt:=(c6Y.1 g1).1
    rw [<- hν1] at g2
    exact hR.dis l (rs.length+k) q r y x b (by omega) (by rw [c7n hlt];exact g1) (by rw [c7r (by omega),show rs.length+k-rs.length=k by omega];exact h1) (a0R g2) h2 g3 h3
  let av':Nat->Prop:=fun b=>OO av (rs++ex) ν b/\¬ owned rs ν1 b
  have hOO:∀ b,OO av' rs ν1 b->OO av (rs++ex) ν b:=fun b hb=>by
    rcases hb with hb|hb
    · exact hb.1
    · exact .inr ((hown b).2 (.inl hb))
  have hRG:RG av' E.own0 E.w0.heap.size ν1 rs w:=by
    refine ⟨hl1,fun k r hk=>?_,fun l m q q' y y' b hne h1 h2 h3 h4=>?_,fun b hb=>?_,fun b hb=>?_,hR.n0⟩
    · have hlt:=(c6Y.1 hk).1
      obtain ⟨x,hx,hok⟩:=hR.res k r (by rw [c7n hlt];exact hk)
      refine ⟨x,by rw [<- hν1];exact P8 hlt hx,?_⟩
      rw [<- hν1]
      rw [List.all_eq_true] at hb
      exact c5a (hb r (c6W hk)) (by rw [hν1];exact hOO) hok
    · have g1:=(c6Y.1 h1).1
      have g2:=(c6Y.1 h2).1
      rw [<- hν1] at h3 h4
      exact hR.dis l m q q' y y' b hne (by rw [c7n g1];exact h1) (by rw [c7n g2];exact h2) (a0R h3) (a0R h4)
    · obtain ⟨g1,g2,g3⟩:=hR.low b ((hown b).2 (.inl hb))
      exact ⟨g1,fun h=>h.2 hb,g3⟩
    · rcases hb.1 with h1|h1
      · exact hR.av b h1
      · exact (hR.low b h1).1
  have hnav:∀ b,av b->¬ owned rs ν1 b:=fun b hb ho=>(hR.low b ((hown b).2 (.inl ho))).2.1 hb
  have hD':l7 ν1 w (OO av' rs ν1) args vs:=by
    have:=l7.keep (Keeps.sub hOO) (l7.takeν rs.length ha hD)
    rwa [hν1] at this
  refine (h av' ν1 w vs hRG (fun b hb=>⟨.inl (hav b hb),hnav b (hav b hb)⟩) hF hD').mono ?_
  rintro e w' ⟨y,ν',rfl,h1,h2,h3⟩
  have hν':ν'=ν1:=c6s h2.nu (by rw [h1.len,hl,hl1])
  subst hν'
  have hlen':ν.length=(rs'++ex).length:=by rw [hlen,c7e,c7e,hl]
  have hν1':ν.take rs'.length=ν':=by rw [hl];exact hν1
  have hown':=fun b=>a7J hlen' b
  rw [hν1',hl] at hown'
  have hnu:Z4 [] ν' ν:=by rw [<- hν1];exact Z4.take ν _
  have hxo:∀ b k r x,ex[k]?=some r->ν[rs.length+k]?=some x->fp r x b->owned (rs++ex) ν b:=fun b k r x g1 g2 g3=>(hown b).2 (.inr ⟨k,r,x,g1,g2,g3⟩)
  have hOO':∀ b,OO av (rs'++ex) ν b->OO av' rs' ν' b:=fun b hb=>by
    rcases hb with hb|hb
    · exact .inl ⟨.inl hb,hnav b hb⟩
    · rcases (hown' b).1 hb with hb|⟨k,r,x,g1,g2,g3⟩
      · exact .inr hb
      · exact .inl ⟨.inr (hxo b k r x g1 g2 g3),hx b k r x g1 g2 g3⟩
  have hM:Mv (rs++ex) ν w [] (rs'++ex) ν w':=by
    refine ⟨h2.os,h2.tape,h2.output,h2.size,fun b hb hn=>h2.block b hb fun ho=>hn ((hown b).2 (.inl ho)),fun b hb=>?_,fun _ _ _ h=>h⟩
    rcases (hown' b).1 hb with hb|⟨k,r,x,g1,g2,g3⟩
    · rcases h2.own b hb with g|g
      · exact .inl ((hown b).2 (.inl g))
      · exact .inr g
    · exact .inl (hxo b k r x g1 g2 g3)
  refine ⟨y,ν,rfl,⟨hlen',fun k r hk=>?_,fun l m q q' z z' b hne g1 g2 g3 g4 g5=>?_,fun b hb=>?_,fun b hb=>c7x (hR.av b hb) h2.size,c6X hR.n0 h2.size⟩,hM,Den.keep (Keeps.sub hOO') (Den.nu hnu (fun k hk=>by cases hk) h3)⟩
  · rcases c7p k rs'.length with hlt|hge
    · rw [c7n hlt] at hk
      obtain ⟨x,hx',hok⟩:=h1.res k r hk
      exact ⟨x,hnu k x (fun hk=>by cases hk) hx',c6n hnu hOO' hok⟩
    · have hk':(rs++ex)[k]?=some r:=by
        rw [c7r hge] at hk
        rw [c7r (by omega),<- hl];exact hk
      obtain ⟨x,hx',hok⟩:=hR.res k r hk'
      refine ⟨x,hx',?_⟩
      have:=hok.mv (O':=OO av (rs'++ex) ν) (hM.keeps (av:=av)) hM.nu (fun b hf=>h2.block b (hR.lt hk' hx' hf) (by
        rw [c7r hge] at hk
        exact hx b (k-rs'.length) r x hk (by rw [show rs.length+(k-rs'.length)=k by omega];exact hx') hf))
      rwa [a3a] at this
  · rcases c7p l rs'.length with hl1'|hl1'<;>rcases c7p m rs'.length with hm1|hm1
    · rw [c7n hl1'] at g1
      rw [c7n hm1] at g2
      have e1:ν'[l]?=some z:=by rw [<- hν1'];exact P8 hl1' g3
      have e2:ν'[m]?=some z':=by rw [<- hν1'];exact P8 hm1 g4
      exact h1.dis l m q q' z z' b hne g1 g2 e1 e2 g5
    · rw [c7n hl1'] at g1
      rw [c7r hm1] at g2
      have e1:ν'[l]?=some z:=by rw [<- hν1'];exact P8 hl1' g3
      have g4':ν[rs.length+(m-rs'.length)]?=some z':=by rw [show rs.length+(m-rs'.length)=m by omega];exact g4
      intro hf
      rcases h2.own b ⟨l,q,z,g1,e1,g5⟩ with ho|ho
      · exact hx b _ q' z' g2 g4' hf ho
      · have:=(hR.low b (hxo b _ q' z' g2 g4' hf)).1;omega
    · rw [c7r hl1'] at g1
      rw [c7n hm1] at g2
      have e2:ν'[m]?=some z':=by rw [<- hν1'];exact P8 hm1 g4
      have g3':ν[rs.length+(l-rs'.length)]?=some z:=by rw [show rs.length+(l-rs'.length)=l by omega];exact g3
      intro hf
      rcases h2.own b ⟨m,q',z',g2,e2,hf⟩ with ho|ho
      · exact hx b _ q z g1 g3' g5 ho
      · have:=(hR.low b (hxo b _ q z g1 g3' g5)).1;omega
    · rw [c7r hl1'] at g1
      rw [c7r hm1] at g2
      exact hR.dis l m q q' z z' b hne (by rw [c7r (by omega),<- hl];exact g1) (by rw [c7r (by omega),<- hl];exact g2) g3 g4 g5
  · rcases (hown' b).1 hb with hb|⟨k,r,x,g1,g2,g3⟩
    · obtain ⟨a1,a2,a3⟩:=h1.low b hb
      exact ⟨a1,fun ha=>a2 ⟨.inl ha,hnav b ha⟩,a3⟩
    · obtain ⟨a1,a2,a3⟩:=hR.low b (hxo b k r x g1 g2 g3)
      exact ⟨c7x a1 h2.size,a2,a3⟩
end Go.Proofs.YtgpegbfnlkidjaaGreatDoor.Eng
namespace Go.Proofs.YtgpegbfnlkidjaaGreatDoor
open Go Go.RowKit Eng
set_option maxRecDepth 10000
set_option maxHeartbeats 8000000
def rsW (w:Wk) (n:Nms):List Res:=[.box 31 w.enc,.map true (nmE n),.box 154 [.mp 1]]
theorem c1j {E:Ctx} (hP:E.P=Tryz.prog) (ht0:Tz E) (w:Wk) (n:Nms) (a:Am) (hb:Ab 1073741824 a) :
  j6 E (rsW w n) 84 [a.c,.bp 2 0] (ints (a2t n a).1) (rsW w (a2t n a).2) []:=by
 obtain ⟨P,eff',N,w0,own0,av0,nu0,pk0⟩:=E
 simp only at hP
 subst hP
 refine j6.ofT (eff:=eff) ht0 Tryz.func84 (by cbv) (by exact c7j rfl) fun w' own av ν hν ht=>?_
 have hν0:ν.length<=3:=by rw [hν];exact c7b _
 have b0:=hb.1
 have h2:=b0p a hb
 have h1:=fun (E:Ctx) (hP:E.P=Tryz.prog)=>b3y hP n a.name (by omega)
 unfold a2t
 generalize M7 n a.name=r at *
 obtain ⟨e1,m⟩:=r
 generalize J2 a=e2 at *
 obtain ⟨name,⟨x,y,half,t⟩,links⟩:=a
 obtain ⟨arms,walls,parts,slots,gates,walk⟩:=w
 simp only [j5,TT,II,OA,MM,LL,VV,FF]
 simp only [Am.c,Am.enc,lks,sb,ints,rsW,Wk.enc,ams,wls,pts,sls,gts] at *
 (repeat first|refine uA ?_|(refine uK ?_ ?_;focus first|omega|(intros;simp_all<;>omega))|simp (disch:=omega) only [go_sem,Nat.reduceBEq,Nat.reduceAdd]|(refine uD h2 ?_ ?_ ?_;exact ht;exact rfl))
 refine S.cond rfl (fun hc=>?_) (fun hc=>?_)
 ·rw [if_pos (by simpa using hc)]
  (repeat first|refine uA ?_|(refine uK ?_ ?_;focus first|omega|(intros;simp_all<;>omega))|simp (disch:=omega) only [go_sem,Nat.reduceBEq])
  (refine S.done ?_;simp only [p8,go_sem,Nat.reduceBEq];(repeat (refine ⟨?_,?_⟩;focus first|trivial|omega|simp));exact j3.K5 (Imp.refl rfl) (by (repeat first|refine uA ?_|(refine ⟨?_,?_⟩;focus first|rfl|simp [slot])|rfl|simp)) (c6X hν0 (by simp)))
 rw [if_neg (by simpa using hc)]
 (repeat first|refine uA ?_|(refine uK ?_ ?_;focus first|omega|(intros;simp_all<;>omega))|simp (disch:=omega) only [go_sem,Nat.reduceBEq,Nat.reduceAdd]|refine l8.t (j6.lift (k:=1) rfl (h1 _ rfl) rfl rfl rfl) ?_)
 (refine S.done ?_;simp only [p8,go_sem,Nat.reduceBEq];(repeat (refine ⟨?_,?_⟩;focus first|trivial|omega|simp));exact j3.K5 (Imp.refl rfl) (by (repeat first|refine uA ?_|(refine ⟨?_,?_⟩;focus first|rfl|simp [slot])|rfl|simp)) (c6X hν0 (by simp)))
theorem b9G {E:Ctx} (hP:E.P=Tryz.prog) (ht0:Tz E) (w:Wk) (n:Nms) (l:List Am) (hn:l.length<=1073741824) (hb:∀ x ∈ l,Ab 1073741824 x) :
  j6 E (rsW w n) 86 [ams l,.clo 84 [.bp 2 0]] (ints (x9 a2t n l).1) (rsW w (x9 a2t n l).2) []:=by
 obtain ⟨P,eff',N,w0,own0,av0,nu0,pk0⟩:=E
 simp only at hP
 subst hP
 refine j6.ofT (eff:=eff) ht0 Tryz.func86 (by cbv) (by exact c7j rfl) fun w' own av ν hν ht=>?_
 have hν0:ν.length<=3:=by rw [hν];exact c7b _
 have hcal:callable Tryz.prog 84=true:=by kernel_rfl
 simp only [j5,TT,II,OA,OB,MM,LL,ams,ints]
 simp only [rsW,Wk.enc,ams,wls,pts,sls,gts]
 (repeat first|refine uA ?_|(refine uK ?_ ?_;focus first|omega|(intros;simp_all<;>omega))|simp (disch:=omega) only [go_sem,Nat.reduceBEq,Nat.reduceAdd,c6U])
 refine S.loop (X:=Nat × Nms) (fun x=>⟨[(1,.clo 84 [.bp 2 0]),(8,ams l),(9,ints l.length),(10,ints x.1)],rsW w x.2⟩) (fun x=>x.1<=l.length/\x9 a2t n l=x9 a2t x.2 (l.drop x.1)) (fun x=>l.length-x.1) (0,n) ⟨c6Z _,rfl⟩ (by simp only [rsW,Wk.enc,ams,wls,pts,sls,gts];exact (by (repeat first|refine uA ?_|(refine ⟨?_,?_⟩;focus first|rfl|simp [slot])|rfl|simp|exact c6X hν0 (by simp)))) ?_
 rintro ⟨i,m⟩ ⟨hi,hg⟩
 simp only [ams,ints,rsW,Wk.enc,wls,pts,sls,gts] at hi hg ⊢
 (repeat first|refine uA ?_|(refine uK ?_ ?_;focus first|omega|(intros;simp_all<;>omega))|simp (disch:=omega) only [go_sem,Nat.reduceBEq])
 (refine uJ rfl (fun hc=>?_) fun hc=>?_)
 ·have hi':i < l.length:=by omega
  have hgi:=c6T hi'
  generalize l[i]=x at hgi
  have hst:=a2Z (f:=a2t) (s:=m) hgi
  have hnx:=a3g (f:=a2t) (s:=m) hgi
  have hs:=fun (E:Ctx) (hP:E.P=Tryz.prog) (ht:Tz E)=>c1j hP ht w m x (hb x (c6W hgi))
  generalize a2t m x=r at *
  obtain ⟨e,m'⟩:=r
  simp only [Am.c,Am.enc,lks,sb,ints,rsW,Wk.enc,ams,wls,pts,sls,gts] at hs hst hnx
  (repeat first|refine uA ?_|(refine uK ?_ ?_;focus first|omega|(intros;simp_all<;>omega))|simp (disch:=omega) only [go_sem,Nat.reduceBEq,Nat.reduceAdd,hgi,c6V,c6U,Am.enc,lks,sb,hcal]|refine l8.t (j6.ext _ (hs _ rfl ht) rfl rfl rfl) ?_)
  refine S.cond rfl (fun hc2=>?_) (fun hc2=>?_)
  ·rw [hg,hst (by simpa using hc2)]
   (repeat first|refine uA ?_|(refine uK ?_ ?_;focus first|omega|(intros;simp_all<;>omega))|simp (disch:=omega) only [go_sem,Nat.reduceBEq])
   (refine S.done ?_;simp only [p8,go_sem,Nat.reduceBEq];(repeat (refine ⟨?_,?_⟩;focus first|trivial|omega|simp));exact j3.K5 (Imp.refl rfl) (by (repeat first|refine uA ?_|(refine ⟨?_,?_⟩;focus first|rfl|simp [slot])|rfl|simp)) (c6X hν0 (by simp)))
  ·have hc3:e=0:=by simpa using hc2
   (repeat first|refine uA ?_|(refine uK ?_ ?_;focus first|omega|(intros;simp_all<;>omega))|simp (disch:=omega) only [go_sem,Nat.reduceBEq,ww])
   refine S.next (x:=(i,m)) (i+1,m') ⟨by simp only;omega,by simp only;rw [hg,hnx hc3]⟩ (by simp only;omega) (by (repeat first|refine uA ?_|(refine ⟨?_,?_⟩;focus first|rfl|simp [slot])|rfl|simp|exact c6X hν0 (by simp)))
 ·rw [hg,a4a (by omega)]
  (repeat first|refine uA ?_|(refine uK ?_ ?_;focus first|omega|(intros;simp_all<;>omega))|simp (disch:=omega) only [go_sem])
  (refine S.done ?_;simp only [p8,go_sem,Nat.reduceBEq];(repeat (refine ⟨?_,?_⟩;focus first|trivial|omega|simp));exact j3.K5 (Imp.refl rfl) (by (repeat first|refine uA ?_|(refine ⟨?_,?_⟩;focus first|rfl|simp [slot])|rfl|simp)) (c6X hν0 (by simp)))
theorem a9z (w:Wk) (hb:Wb 1073741824 w):FZ 36 [w.c] (ints (a0c w)):=by
 refine kW b1F b1B (by rfl) fun w' O hw=>?_
 have ht:Tz ⟨Tryz.prog,eff,a3q.ntmps,w',fun _=>False,O,[],[]⟩:=tz hw
 obtain ⟨⟨n1,b1⟩,⟨n2,b2⟩,⟨n3,b3⟩,⟨n4,b4⟩,⟨n5,b5⟩,b6⟩:=hb
 have h1:=fun (E:Ctx) (hP:E.P=Tryz.prog) (ht:Tz E)=>b9G hP ht w [] w.arms n1 b1
 have h2:=b8E w.walls n2 b2
 unfold a0c a8l
 generalize x9 a2t [] w.arms=r1 at *
 obtain ⟨e1,m1⟩:=r1
 have h3:=fun (E:Ctx) (hP:E.P=Tryz.prog) (ht:Tz E)=>b8e hP ht m1 w.parts n3 b3
 simp only at h3 ⊢
 generalize x9 a0X m1 w.parts=r3 at *
 obtain ⟨e3,m3⟩:=r3
 have h4:=fun (E:Ctx) (hP:E.P=Tryz.prog) (ht:Tz E)=>b8G hP ht m3 w.slots n4 b4
 simp only at h4 ⊢
 generalize x9 a0O m3 w.slots=r4 at *
 obtain ⟨e4,m4⟩:=r4
 have h5:=fun (E:Ctx) (hP:E.P=Tryz.prog) (ht:Tz E)=>b7E hP ht m4 w.gates n5 b5
 simp only at h5 ⊢
 generalize x9 a0U m4 w.gates=r5 at *
 obtain ⟨e5,m5⟩:=r5
 generalize I4 K6 w.walls=e2 at *
 simp only
 have h6:=a1A w.walk (b6.mono (by decide))
 have h7:=a4E w.walk (b6.mono (by decide))
 have h8:=a0j w.walk (b6.mono (by decide))
 unfold b3x
 generalize decide w.walk.H9=q1 at *
 generalize l6 w.walk=q2 at *
 generalize E9 (Nm.d9 w.walk)=s8 at *
 obtain ⟨arms,walls,parts,slots,gates,walk⟩:=w
 simp only [a3q,j5,TT,II,OA,OB,OC,MM,LL,VV,FF,LG,VG,FG] at ht ⊢
 simp only [Wk.c,Wk.enc,rsW,ams,wls,pts,sls,gts,rc,sb,ints] at *
 (repeat first|refine uA ?_|(refine uK ?_ ?_;focus first|omega|(intros;simp_all<;>omega))|simp (disch:=omega) only [go_sem,Nat.reduceBEq,Nat.reduceAdd,c6U])
 refine S.cond rfl (fun hc=>?_) (fun hc=>?_)
 ·rw [if_pos (by simp only [c7K,c7h] at hc;omega)]
  (repeat first|refine uA ?_|(refine uK ?_ ?_;focus first|omega|(intros;simp_all<;>omega))|simp (disch:=omega) only [go_sem])
  exact S.done (j3.out rfl (Imp.refl rfl) rfl)
 rw [if_neg (by simp only [c7H,c7u] at hc;omega)]
 (repeat first|refine uA ?_|(refine uK ?_ ?_;focus first|omega|(intros;simp_all<;>omega))|simp (disch:=omega) only [go_sem,Nat.reduceBEq,Nat.reduceAdd,c6U])
 refine S.cond rfl (fun hc=>?_) (fun hc=>?_)
 ·rw [if_pos (by simp only [c7h] at hc;omega)]
  (repeat first|refine uA ?_|(refine uK ?_ ?_;focus first|omega|(intros;simp_all<;>omega))|simp (disch:=omega) only [go_sem])
  exact S.done (j3.out rfl (Imp.refl rfl) rfl)
 rw [if_neg (by simp only [c7u] at hc;omega)]
 (repeat first|refine uI ?_|(refine uK ?_ ?_;focus first|omega|(intros;simp_all<;>omega))|simp (disch:=omega) only [go_sem,Nat.reduceBEq,Nat.reduceAdd])
 refine S.E8 [.box 31 [.sl 12 (arms.map Am.enc),.sl 1 (walls.map fun s=>[vts s]),.sl 12 (parts.map Pt.enc),.sl 14 (slots.map Sl.enc),.sl 13 (gates.map Gt.enc),.v (.bool walk.neg),.v (.string (bs walk.num)),.v (.string (bs walk.den))],.gone,.box 154 [.mp 1]] (by simp [Eng.H6,Eng.U6]) ?_
 (repeat first|refine uA ?_|(refine uK ?_ ?_;focus first|omega|(intros;simp_all<;>omega))|simp (disch:=omega) only [go_sem,Nat.reduceBEq,Nat.reduceAdd]|refine l8.t (h1 _ rfl ht) ?_|refine l8.t (j6.lift (k:=1) rfl (h3 _ rfl ht) rfl rfl rfl) ?_|refine l8.t (j6.lift (k:=1) rfl (h4 _ rfl ht) rfl rfl rfl) ?_|refine l8.t (j6.lift (k:=1) rfl (h5 _ rfl ht) rfl rfl rfl) ?_|(refine uD h2 ?_ ?_ ?_;exact tz hw;exact rfl))
 generalize hL:[e1,e2,e3,e4,e5]=L
 have hl5:L.length=5:=by rw [<- hL];rfl
 have e63:[[C.v (Value.int IntKind.i64 e1)],[C.v (Value.int IntKind.i64 e2)],[C.v (Value.int IntKind.i64 e3)],[C.v (Value.int IntKind.i64 e4)],[C.v (Value.int IntKind.i64 e5)]]=L.map fun e=>[C.v (Value.int IntKind.i64 e)]:=by rw [<- hL];rfl
 simp only [e63]
 refine S.loop (X:=Nat) (fun i=>⟨[(1,.bp 0 0),(63,.sl 1 (L.map fun e=>[.v (.int .i64 e)])),(64,ints 5),(65,ints i)],[.box 31 [.sl 12 (arms.map Am.enc),.sl 1 (walls.map fun s=>[vts s]),.sl 12 (parts.map Pt.enc),.sl 14 (slots.map Sl.enc),.sl 13 (gates.map Gt.enc),.v (.bool walk.neg),.v (.string (bs walk.num)),.v (.string (bs walk.den))]]⟩) (fun i=>i<=5/\I4 id L=I4 id (L.drop i)) (fun i=>5-i) 0 ⟨c6Z _,rfl⟩ (by (repeat first|refine uA ?_|(refine ⟨?_,?_⟩;focus first|rfl|simp [slot])|rfl|simp)) ?_
 rintro i ⟨hi,hg⟩
 simp only [ints] at hi hg ⊢
 (repeat first|refine uA ?_|(refine uK ?_ ?_;focus first|omega|(intros;simp_all<;>omega))|simp (disch:=omega) only [go_sem,Nat.reduceBEq])
 (refine uJ rfl (fun hc=>?_) fun hc=>?_)
 ·have hi':i < L.length:=by omega
  have hgi:=c6T hi'
  generalize L[i]=x at hgi
  have hst:=a1Z (f:=id) hgi
  have hnx:=a2a (f:=id) hgi
  simp only [id] at hst hnx
  (repeat first|refine uA ?_|(refine uK ?_ ?_;focus first|omega|(intros;simp_all<;>omega))|simp (disch:=omega) only [go_sem,Nat.reduceBEq,hgi,c6V,c6U,hl5])
  refine S.cond rfl (fun hc2=>?_) (fun hc2=>?_)
  ·have h0:x ≠ 0:=by simpa using hc2
   rw [hg,hst h0,if_pos h0]
   (repeat first|refine uA ?_|(refine uK ?_ ?_;focus first|omega|(intros;simp_all<;>omega))|simp (disch:=omega) only [go_sem,Nat.reduceBEq])
   exact S.done (j3.out rfl (Imp.refl rfl) rfl)
  ·have hc3:x=0:=by simpa using hc2
   (repeat first|refine uA ?_|(refine uK ?_ ?_;focus first|omega|(intros;simp_all<;>omega))|simp (disch:=omega) only [go_sem,Nat.reduceBEq,ww])
   refine S.next (i+1) ⟨by omega,by rw [hg];exact hnx hc3⟩ (by omega) (by (repeat first|refine uA ?_|(refine ⟨?_,?_⟩;focus first|rfl|simp [slot])|rfl|simp))
 ·rw [hg,a2S (by omega),if_neg (by decide)]
  (repeat first|refine uA ?_|(refine uK ?_ ?_;focus first|omega|(intros;simp_all<;>omega))|simp (disch:=omega) only [go_sem,Nat.reduceBEq,Nat.reduceAdd]|(refine uD h6 ?_ ?_ ?_;exact tz hw;exact rfl)|(refine uD h7 ?_ ?_ ?_;exact tz hw;exact rfl)|(refine uD h8 ?_ ?_ ?_;exact tz hw;exact rfl))
  refine S.cond rfl (fun hc=>?_) (fun hc=>?_)
  ·rw [if_neg (by simp only [c7K,Bool.not_eq_true',c7h] at hc;simp only [c7c,c7h];rintro ⟨⟨g7,g8⟩,g9⟩;rcases hc with (hc|hc)|hc<;>first|(rw [hc] at g7;cases g7;done)|(rw [hc] at g8;cases g8;done)|omega)]
   (repeat first|refine uA ?_|(refine uK ?_ ?_;focus first|omega|(intros;simp_all<;>omega))|simp (disch:=omega) only [go_sem])
   exact S.done (j3.out rfl (Imp.refl rfl) rfl)
  ·rw [if_pos (by simp only [c7H,Bool.not_eq_false',c7u] at hc;simp only [c7c,c7h];obtain ⟨⟨g7,g8⟩,g9⟩:=hc;exact ⟨⟨g7,g8⟩,by omega⟩)]
   (repeat first|refine uA ?_|(refine uK ?_ ?_;focus first|omega|(intros;simp_all<;>omega))|simp (disch:=omega) only [go_sem])
   exact S.done (j3.out rfl (Imp.refl rfl) rfl)
end Go.Proofs.YtgpegbfnlkidjaaGreatDoor
namespace Go.Proofs.YtgpegbfnlkidjaaGreatDoor.Eng
open Go Go.RowKit
mutual
def C.sh (n:Nat):C->C
 | .rv k=>.rv (n+k)
 | .agg cs=>.agg (C.shL n cs)
 | .tup cs=>.tup (C.shL n cs)
 | c=>c
def C.shL (n:Nat):List C->List C
 | []=>[]
 | c::cs=>C.sh n c::C.shL n cs
end
mutual
def C.okS:C->Bool
 | .rv _=>true
 | .agg cs=>C.b3G cs
 | .tup cs=>C.b3G cs
 | c=>c.cl
def C.b3G:List C->Bool
 | []=>true
 | c::cs=>C.okS c && C.b3G cs
end
section
variable {ν ν':List Value} {w:World} {O O':Nat->Prop}
mutual
theorem b9O (hO:∀ b,O' b->O b):∀ {c:C} {y:Value},c.okS=true->Den ν' w O c y->Den (ν++ν') w O' (C.sh ν.length c) y
 | .rv k,y,_,h=>by
  simp only [C.sh,Den] at h ⊢
  exact ⟨by rw [c7r (by omega),show ν.length+k-ν.length=k by omega];exact h.1,h.2⟩
 | .agg cs,y,hc,h=>by
  simp only [C.sh,Den,C.okS] at h hc ⊢
  obtain ⟨vs,h1,h2⟩:=h
  exact ⟨vs,b1L hO hc h1,h2⟩
 | .tup cs,y,hc,h=>by
  simp only [C.sh,Den,C.okS] at h hc ⊢
  obtain ⟨vs,h1,h2⟩:=h
  exact ⟨vs,b1L hO hc h1,h2⟩
 | .v x,y,hc,h=>by simpa only [C.sh,Den] using h
 | .sl sz es,y,hc,h=>by simp only [C.sh];exact (Fz.keep (Keeps.sub hO) (h.fz hc)).den _
 | .nl,y,hc,h=>by simpa only [C.sh,Den] using h
 | .ep cs,y,hc,h=>by simp only [C.sh];exact (Fz.keep (Keeps.sub hO) (h.fz hc)).den _
 | .clo f cs,y,hc,h=>by simp only [C.sh];exact (Fz.keep (Keeps.sub hO) (h.fz hc)).den _
 | .bnd f x,y,hc,h=>by simp only [C.sh];exact (Fz.keep (Keeps.sub hO) (h.fz hc)).den _
 | .any S,y,hc,h=>by simpa only [C.sh,Den] using h
 | .bp _ _,y,hc,h=>by simp only [C.okS,C.cl] at hc;cases hc
 | .rp _ _ _ _,y,hc,h=>by simp only [C.okS,C.cl] at hc;cases hc
 | .mp _,y,hc,h=>by simp only [C.okS,C.cl] at hc;cases hc
 | .wv _ _ _ _,y,hc,h=>by simp only [C.okS,C.cl] at hc;cases hc
 | .g _ _,y,hc,h=>by simp only [C.okS,C.cl] at hc;cases hc
 | .junk,y,hc,h=>by simp only [C.okS,C.cl] at hc;cases hc
theorem b1L (hO:∀ b,O' b->O b):∀ {cs:List C} {vs:List Value},C.b3G cs=true->l7 ν' w O cs vs->l7 (ν++ν') w O' (C.shL ν.length cs) vs
 | [],vs,_,h=>by simpa only [C.shL,l7] using h
 | c::cs,vs,hc,h=>by
  simp only [C.shL,l7,C.b3G,c7c] at h hc ⊢
  obtain ⟨y,ys,e,h1,h2⟩:=h
  exact ⟨y,ys,e,b9O hO hc.1 h1,b1L hO hc.2 h2⟩
end
end
def Res.c2E:Res->Bool
 | .gone=>true
 | r=>r.shut
theorem c0Z {ν ν':List Value} {w:World} {O O':Nat->Prop} {x:Value} {r:Res} (hs:r.c2E=true) (hO:∀ b,O' b->O b) (h:O5 ν w O x r):O5 ν' w O' x r:=by
 cases r with
 | gone=>trivial
 | box t cs=>exact a6f hs hO h
 | row e sz es=>exact a6f rfl hO h
 | map s es=>exact a6f rfl hO h
theorem j6.pre {E:Ctx} {rs rs':List Res} {f:Nat} {args:List C} {s:C} (h:j6 E [] f args s rs' []) (hr:rs'.all Res.c2E=true) (hs:s.okS=true) (ha:C.clL args=true):j6 E rs f args (C.sh rs.length s) (rs++rs') []:=by
  intro av ν w vs hR hav hF hD
  rw [List.all_eq_true] at hr
  let av':Nat->Prop:=OO av rs ν
  have hlt:∀ b,av' b->b < w.heap.size:=fun b hb=>by
    rcases hb with hb|hb
    · exact hR.av b hb
    · exact (hR.low b hb).1
  have ho0:∀ b,¬ owned [] [] b:=fun b ⟨k,r,x,hk,_⟩=>by simp at hk
  have hRG:RG av' E.own0 E.w0.heap.size [] [] w:=⟨rfl,fun k r hk=>by simp at hk,fun k l r r' x x' b _ hk=>by simp at hk,fun b hb=>(ho0 b hb).elim,hlt,hR.n0⟩
  have hOO:∀ b,OO av' [] [] b->OO av rs ν b:=fun b hb=>hb.elim id fun h=>(ho0 b h).elim
  refine (h av' [] w vs hRG (fun b hb=>.inl (hav b hb)) hF ((FzL.keep (Keeps.sub hOO) (hD.fz ha)).den _)).mono ?_
  rintro e w' ⟨y,ν',rfl,h1,h2,h3⟩
  have hlen:(ν++ν').length=(rs++rs').length:=by rw [c7e,c7e,hR.len,h1.len]
  have htk:(ν++ν').take rs.length=ν:=by rw [<- hR.len];simp
  have hown:=fun b=>a7J hlen b
  rw [htk] at hown
  have hnew:∀ b,(∃ k r x,rs'[k]?=some r/\(ν++ν')[rs.length+k]?=some x/\fp r x b)->owned rs' ν' b:=by
    rintro b ⟨k,r,x,g1,g2,g3⟩
    rw [<- hR.len,c7r (by omega),show ν.length+k-ν.length=k by omega] at g2
    exact ⟨k,r,x,g1,g2,g3⟩
  have hge:∀ b,owned rs' ν' b->w.heap.size<=b:=fun b hb=>(h2.own b hb).elim (fun h=>(ho0 b h).elim) id
  have hnu:Z4 [] ν (ν++ν'):=fun k x _ hx=>by rw [c7n (c6Y.1 hx).1];exact hx
  have hM:Mv rs ν w [] (rs++rs') (ν++ν') w':=by
    refine ⟨h2.os,h2.tape,h2.output,h2.size,fun b hb _=>h2.block b hb (ho0 b),fun b hb=>?_,hnu⟩
    rcases (hown b).1 hb with hb|hb
    · exact .inl hb
    · exact .inr (hge b (hnew b hb))
  have hOO':∀ b,OO av (rs++rs') (ν++ν') b->OO av' rs' ν' b:=fun b hb=>by
    rcases hb with hb|hb
    · exact .inl (.inl hb)
    · rcases (hown b).1 hb with hb|hb
      · exact .inl (.inr hb)
      · exact .inr (hnew b hb)
  refine ⟨y,ν++ν',rfl,⟨hlen,fun k r hk=>?_,fun l m q q' z z' b hne g1 g2 g3 g4 g5=>?_,fun b hb=>?_,fun b hb=>c7x (hR.av b hb) h2.size,c6X hR.n0 h2.size⟩,hM,by rw [<- hR.len];exact b9O hOO' hs h3⟩
  · rcases c7p k rs.length with hlt'|hge'
    · rw [c7n hlt'] at hk
      obtain ⟨x,hx,hok⟩:=hR.res k r hk
      have:=hok.mv (hM.keeps (av:=av)) hM.nu (fun b hf=>h2.block b (hR.lt hk hx hf) (ho0 b))
      rw [a3a] at this
      exact ⟨x,hnu k x (fun h=>by cases h) hx,this⟩
    · rw [c7r hge'] at hk
      obtain ⟨x,hx,hok⟩:=h1.res _ r hk
      refine ⟨x,by rw [c7r (by rw [hR.len];exact hge'),hR.len];exact hx,c0Z (hr r (c6W hk)) hOO' hok⟩
  · have old:∀ {l q z},l < rs.length->(rs++rs')[l]?=some q->(ν++ν')[l]?=some z->rs[l]?=some q/\ν[l]?=some z:=fun hl a1 a2=>by
      rw [c7n hl] at a1
      rw [c7n (by rw [hR.len];exact hl)] at a2
      exact ⟨a1,a2⟩
    have new:∀ {l q z},rs.length<=l->(rs++rs')[l]?=some q->(ν++ν')[l]?=some z->rs'[l-rs.length]?=some q/\ν'[l-rs.length]?=some z:=fun hl a1 a2=>by
      rw [c7r hl] at a1
      rw [c7r (by rw [hR.len];exact hl),hR.len] at a2
      exact ⟨a1,a2⟩
    rcases c7p l rs.length with hl1|hl1<;>rcases c7p m rs.length with hm1|hm1
    · obtain ⟨a1,a2⟩:=old hl1 g1 g3
      obtain ⟨a3,a4⟩:=old hm1 g2 g4
      exact hR.dis l m q q' z z' b hne a1 a3 a2 a4 g5
    · obtain ⟨a1,a2⟩:=old hl1 g1 g3
      obtain ⟨a3,a4⟩:=new hm1 g2 g4
      intro hf
      have:=hR.lt a1 a2 g5
      have:=hge b ⟨_,_,_,a3,a4,hf⟩
      omega
    · obtain ⟨a1,a2⟩:=new hl1 g1 g3
      obtain ⟨a3,a4⟩:=old hm1 g2 g4
      intro hf
      have:=hR.lt a3 a4 hf
      have:=hge b ⟨_,_,_,a1,a2,g5⟩
      omega
    · obtain ⟨a1,a2⟩:=new hl1 g1 g3
      obtain ⟨a3,a4⟩:=new hm1 g2 g4
      exact h1.dis _ _ q q' z z' b (by omega) a1 a3 a2 a4 g5
  · rcases (hown b).1 hb with hb|hb
    · obtain ⟨a1,a2,a3⟩:=hR.low b hb
      exact ⟨c7x a1 h2.size,a2,a3⟩
    · obtain ⟨a1,a2,a3⟩:=h1.low b (hnew b hb)
      exact ⟨a1,fun ha=>a2 (.inl ha),a3⟩
end Go.Proofs.YtgpegbfnlkidjaaGreatDoor.Eng
namespace Go.Proofs.YtgpegbfnlkidjaaGreatDoor
open Go Go.RowKit Eng
set_option maxRecDepth 100000
set_option maxHeartbeats 8000000
theorem c1f (es:List (List C)) (hn:es.length<=1073741824):FNew Tryz.prog 29 [.sl 6 es] 59 6 es:=by
 refine FNew.of (eff:=eff) Tryz.func29 (by cbv) (by exact c7j rfl) fun w O=>?_
 simp only [j5,TT,OA,MM]
 (repeat first|refine uA ?_|(apply uK;focus omega)|simp (disch:=omega) only [go_sem,Nat.reduceBEq])
 refine S.split 4 (Sx:=fun y=>∃ b,y=.bool b/\(es ≠ []->b=false)) rfl fun y hy=>?_
 obtain ⟨b,rfl,hb⟩:=hy
 refine S.cond rfl (fun hc=>?_) (fun hc=>?_)
 ·have he:es=[]:=Classical.byContradiction fun h=>by rw [hb h] at hc;cases hc
  subst he
  (repeat first|refine uA ?_|(apply uK;focus omega)|simp (disch:=omega) only [go_sem])
  refine S.weaken (Ent.pack 2 59 6 rfl) ?_
  exact S.done (j3.new rfl rfl rfl)
 ·(repeat first|refine uA ?_|(apply uK;focus omega)|simp (disch:=omega) only [go_sem,Nat.reduceBEq])
  exact S.done (j3.new rfl rfl rfl)
theorem c0l (es:List (List C)) (hn:es.length<=1073741824):FNew Tryz.prog 30 [.sl 1 es] 4 1 es:=by
 refine FNew.of (eff:=eff) Tryz.func30 (by cbv) (by exact c7j rfl) fun w O=>?_
 simp only [j5,TT,OA,MM]
 (repeat first|refine uA ?_|(apply uK;focus omega)|simp (disch:=omega) only [go_sem,Nat.reduceBEq])
 refine S.split 4 (Sx:=fun y=>∃ b,y=.bool b/\(es ≠ []->b=false)) rfl fun y hy=>?_
 obtain ⟨b,rfl,hb⟩:=hy
 refine S.cond rfl (fun hc=>?_) (fun hc=>?_)
 ·have he:es=[]:=Classical.byContradiction fun h=>by rw [hb h] at hc;cases hc
  subst he
  (repeat first|refine uA ?_|(apply uK;focus omega)|simp (disch:=omega) only [go_sem])
  refine S.weaken (Ent.pack 2 4 1 rfl) ?_
  exact S.done (j3.new rfl rfl rfl)
 ·(repeat first|refine uA ?_|(apply uK;focus omega)|simp (disch:=omega) only [go_sem,Nat.reduceBEq])
  exact S.done (j3.new rfl rfl rfl)
theorem b4w (es:List (List C)) (hn:es.length<=1073741824):FNew Tryz.prog 31 [.sl 3 es] 29 3 es:=by
 refine FNew.of (eff:=eff) Tryz.func31 (by cbv) (by exact c7j rfl) fun w O=>?_
 simp only [j5,TT,OA,MM]
 (repeat first|refine uA ?_|(apply uK;focus omega)|simp (disch:=omega) only [go_sem,Nat.reduceBEq])
 refine S.split 4 (Sx:=fun y=>∃ b,y=.bool b/\(es ≠ []->b=false)) rfl fun y hy=>?_
 obtain ⟨b,rfl,hb⟩:=hy
 refine S.cond rfl (fun hc=>?_) (fun hc=>?_)
 ·have he:es=[]:=Classical.byContradiction fun h=>by rw [hb h] at hc;cases hc
  subst he
  (repeat first|refine uA ?_|(apply uK;focus omega)|simp (disch:=omega) only [go_sem])
  refine S.weaken (Ent.pack 2 29 3 rfl) ?_
  exact S.done (j3.new rfl rfl rfl)
 ·(repeat first|refine uA ?_|(apply uK;focus omega)|simp (disch:=omega) only [go_sem,Nat.reduceBEq])
  exact S.done (j3.new rfl rfl rfl)
theorem b7G (es:List (List C)) (hn:es.length<=1073741824):FNew Tryz.prog 28 [.sl 10 es] 66 10 es:=by
 refine FNew.of (eff:=eff) Tryz.func28 (by cbv) (by exact c7j rfl) fun w O=>?_
 simp only [j5,TT,OA,MM]
 (repeat first|refine uA ?_|(apply uK;focus omega)|simp (disch:=omega) only [go_sem,Nat.reduceBEq])
 refine S.split 4 (Sx:=fun y=>∃ b,y=.bool b/\(es ≠ []->b=false)) rfl fun y hy=>?_
 obtain ⟨b,rfl,hb⟩:=hy
 refine S.cond rfl (fun hc=>?_) (fun hc=>?_)
 ·have he:es=[]:=Classical.byContradiction fun h=>by rw [hb h] at hc;cases hc
  subst he
  (repeat first|refine uA ?_|(apply uK;focus omega)|simp (disch:=omega) only [go_sem])
  refine S.weaken (Ent.pack 2 66 10 rfl) ?_
  exact S.done (j3.new rfl rfl rfl)
 ·(repeat first|refine uA ?_|(apply uK;focus omega)|simp (disch:=omega) only [go_sem,Nat.reduceBEq])
  exact S.done (j3.new rfl rfl rfl)
theorem b7f (q:Rat):Nm.ofQ (E5 q)=⟨false,Nm.enc q.num.natAbs,Nm.enc q.den⟩:=by
 unfold E5
 by_cases h:q.num < 0
 ·rw [if_pos h,b0k]
  simp [h]
 ·rw [if_neg h]
  unfold Nm.ofQ
  rw [decide_eq_false h]
theorem b8B (a:Nm.Rt) (ha:Rb 17179869184 a):FZ 49 [rc a] (rq (E5 (Nm.d9 a))):=by
 unfold rq
 rw [b7f]
 exact c0r a ha
theorem c4p {k:Nat} {p:Rat} (h:Rb k (Nm.ofQ p)):Rb k (Nm.ofQ (E5 p)):=by rw [b7f];exact h
theorem c2f (a:Nm.Rt) (ha:Rb 68719476736 a):FZ 123 [rc a] (.v (.bool (!M4 a))):=by
 refine kW Tryz.func123 (by cbv) (by rfl) fun w O hw=>?_
 have h:=a1A a ha
 unfold M4
 generalize decide a.H9=q at *
 simp only [j5,TT,OA,MM,LL]
 simp only [rc,sb] at *
 (repeat first|refine uA ?_|(apply uK;focus omega)|simp (disch:=omega) only [go_sem,Nat.reduceBEq]|(apply uD h;exact tz hw;rfl))
 exact S.done (j3.out rfl (Imp.refl rfl) rfl)
theorem a8x (l:List Nm.Rt) (hl:Rbs 68719476736 l):FZ 59 [rts l] (.v (.bool (l.all M4))):=by
 refine kW Tryz.func59 (by cbv) (by rfl) fun w O hw=>?_
 have h:=c1g 123 (by kernel_rfl) (fun a=>!M4 a) l (by have:=hl.1;omega) (fun a ha=>c2f a (hl.2 a ha))
 have e:l.all M4=!l.any fun a=>!M4 a:=by rw [List.not_any_eq_all_not];simp
 rw [e]
 generalize (l.any fun a=>!M4 a)=q at *
 simp only [j5,TT,OA,MM]
 simp only [rts] at *
 (repeat first|refine uA ?_|(apply uK;focus omega)|simp (disch:=omega) only [go_sem,Nat.reduceBEq]|(apply uD h;exact tz hw;rfl))
 exact S.done (j3.out rfl (Imp.refl rfl) rfl)
theorem c0T (f:Fr) (hf:Fb 17179869184 f):FZ 56 [f.c] (.v (.bool (a1P f))):=by
 refine kW Tryz.func56 (by cbv) (by rfl) fun w O hw=>?_
 obtain ⟨x,y,half,t⟩:=f
 obtain ⟨b1,b2,b3⟩:=hf
 simp only at b1 b2 b3
 have h1:=a8x _ (Rbs.three (by decide) (b1.mono (m:=68719476736) (by decide)) (b2.mono (m:=68719476736) (by decide)) (b3.mono (m:=68719476736) (by decide)))
 rw [b2B] at h1
 have h4:=a0j t b3
 unfold a1P a5v
 simp only
 generalize (M4 x && M4 y && M4 t)=q1 at *
 generalize E9 (Nm.d9 t)=n at *
 simp only [j5,TT,II,OA,OC,MM,LL,FF,MG,LG,VG,FG]
 simp only [Fr.c,Fr.enc,rts,rcs,rc,sb,ints,c7i,c7q] at *
 (repeat first|refine uA ?_|(apply uK;focus first|omega|(intros;simp_all<;>omega))|simp (disch:=omega) only [go_sem,Nat.reduceBEq,Nat.reduceAdd]|(apply uD h4;exact tz hw;rfl)|(apply uE h1;exact tz hw;exact rfl;focus (repeat' first|exact j4.nil|exact Imp.refl rfl|exact Imp.frz rfl rfl rfl|(refine Imp.U3 rfl rfl ?_ ?_;(focus ((try simp only [c7e]);omega));(focus first|rfl|assumption))|refine j4.cons ?_ ?_);done))
 have e:(q1 && !(half && !decide (n=0)))=(q1 && (!half || decide (n=0))):=by cases q1<;>cases half<;>simp
 rw [e]
 exact S.done (j3.out rfl (Imp.refl (by rfl)) rfl)
theorem c3D (f:Fr) (hf:Fb 17179869184 f):FZ 55 [f.c] (.v (.bool (!a1P f))):=by
 refine kW Tryz.func55 (by cbv) (by rfl) fun w O hw=>?_
 have h:=c0T f hf
 generalize a1P f=q at *
 simp only [j5,TT,OA,MM,LL]
 simp only [Fr.c,Fr.enc,sb] at *
 (repeat first|refine uA ?_|(apply uK;focus omega)|simp (disch:=omega) only [go_sem,Nat.reduceBEq]|(apply uD h;exact tz hw;rfl))
 exact S.done (j3.out rfl (Imp.refl rfl) rfl)
theorem c3C (v:Vt) (hv:Vb 68719476736 v):FZ 58 [v.c] (.v (.bool (!a3e v))):=by
 refine kW Tryz.func58 (by cbv) (by rfl) fun w O hw=>?_
 have h:=a8x _ (Rbs.two (by decide) hv.1 hv.2)
 rw [b1p] at h
 unfold a3e
 generalize (M4 v.x && M4 v.y)=q at *
 simp only [j5,TT,OA,MM,LL,FF]
 simp only [Vt.c,Vt.enc,rts,rcs,sb,c7i,c7q] at *
 (repeat first|refine uA ?_|(apply uK;focus first|omega|(intros;simp_all<;>omega))|simp (disch:=omega) only [go_sem,Nat.reduceBEq,Nat.reduceAdd]|(apply uE h;exact tz hw;exact rfl;focus (repeat' first|exact j4.nil|exact Imp.refl rfl|exact Imp.frz rfl rfl rfl|(refine Imp.U3 rfl rfl ?_ ?_;(focus ((try simp only [c7e]);omega));(focus first|rfl|assumption))|refine j4.cons ?_ ?_);done))
 exact S.done (j3.out rfl (Imp.refl rfl) rfl)
theorem b9c {a:Am} {q:List Nm.Rt} (h:a2h a q=0):q.length=a.links.length:=by
 unfold a2h at h
 split at h
 ·rename_i h1;exact absurd h h1
 ·split at h
  ·cases h
  ·rename_i h2;exact Classical.not_not.1 h2
theorem c6d (a:Am) (x:Ast) (parts:Nat) (ha:Ab 1073741824 a) (hx:Asb 1073741824 x) (hp:parts<=1073741824):FZ 53 [a.c,x.c,.v (.int .i64 (parts:Int))] (ints (a1g a x parts)):=by
 refine kW Tryz.func53 (by cbv) (by rfl) fun w O hw=>?_
 have h1:=a8x x.q ⟨by have:=hx.1.1;omega,fun r hr=>(hx.1.2 r hr).mono (by decide)⟩
 have h2:=a8x x.v ⟨by have:=hx.2.1;omega,fun r hr=>(hx.2.2 r hr).mono (by decide)⟩
 have h3:=c5r a x.q ha hx.1
 have hln:=b9c (a:=a) (q:=x.q)
 unfold a1g
 generalize a2h a x.q=e at *
 obtain ⟨q,v,power,holds⟩:=x
 simp only at h1 h2 h3 hln ⊢
 generalize q.all M4=g1 at *
 generalize v.all M4=g2 at *
 obtain ⟨hvn,hvb⟩:=hx.2
 obtain ⟨name,⟨bx,by',half,t⟩,links⟩:=a
 obtain ⟨b0,⟨b1,b2,b3⟩,hn,hb⟩:=ha
 simp only at b0 b1 b2 b3 hn hb hln hvn hvb ⊢
 simp only [j5,TT,II,OA,OB,OC,MM,LL,VV,FF,MG,VG,FG]
 simp only [Am.c,Am.enc,Ast.c,Ast.enc,lks,rts,sb,ints] at *
 (repeat first|refine uA ?_|(refine uK ?_ ?_;focus first|omega|(intros;simp_all<;>omega))|simp (disch:=omega) only [go_sem,Nat.reduceBEq,Nat.reduceAdd]|(refine uD h1 ?_ ?_ ?_;exact tz hw;exact rfl)|(refine uD h2 ?_ ?_ ?_;exact tz hw;exact rfl))
 refine S.cond rfl (fun hc=>?_) (fun hc=>?_)
 ·rw [if_pos (by cases g1<;>cases g2<;>simp_all)]
  (repeat first|refine uA ?_|(refine uK ?_ ?_;focus first|omega|(intros;simp_all<;>omega))|simp (disch:=omega) only [go_sem])
  exact S.done (j3.out rfl (Imp.refl rfl) rfl)
 rw [if_neg (by cases g1<;>cases g2<;>simp_all)]
 (repeat first|refine uA ?_|(refine uK ?_ ?_;focus first|omega|(intros;simp_all<;>omega))|simp (disch:=omega) only [go_sem,Nat.reduceBEq,Nat.reduceAdd]|(refine uD h3 ?_ ?_ ?_;exact tz hw;exact rfl))
 refine S.cond rfl (fun hc=>?_) (fun hc=>?_)
 ·rw [if_pos (by simpa using hc)]
  (repeat first|refine uA ?_|(refine uK ?_ ?_;focus first|omega|(intros;simp_all<;>omega))|simp (disch:=omega) only [go_sem,Nat.reduceBEq])
  exact S.done (j3.out rfl (Imp.refl rfl) rfl)
 rw [if_neg (by simpa using hc)]
 have hln:=hln (by simpa using hc)
 (repeat first|refine uA ?_|(refine uK ?_ ?_;focus first|omega|(intros;simp_all<;>omega))|simp (disch:=omega) only [go_sem,Nat.reduceBEq,Nat.reduceAdd,c6U])
 refine S.cond rfl (fun hc=>?_) (fun hc=>?_)
 ·rw [if_pos (by simp only [c7K,Bool.not_eq_true',c7h,c7u] at hc;omega)]
  (repeat first|refine uA ?_|(refine uK ?_ ?_;focus first|omega|(intros;simp_all<;>omega))|simp (disch:=omega) only [go_sem])
  exact S.done (j3.out rfl (Imp.refl rfl) rfl)
 rw [if_neg (by simp only [c7H,Bool.not_eq_false',c7h,c7u] at hc;omega)]
 have hvl:v.length=links.length:=by simp only [c7H,Bool.not_eq_false',c7h,c7u] at hc;omega
 (repeat first|refine uA ?_|(refine uK ?_ ?_;focus first|omega|(intros;simp_all<;>omega))|simp (disch:=omega) only [go_sem,Nat.reduceBEq,Nat.reduceAdd,c6U])
 refine S.loop (X:=Nat) (fun i=>⟨[(4,.bp 1 0),(46,lks links),(47,ints links.length),(48,ints i)],[.gone,.box 49 [rts q,rts v,.v (.bool power),ints holds]]⟩) (fun i=>i<=links.length/\I4 a1G (links.zip v)=I4 a1G ((links.zip v).drop i)) (fun i=>links.length-i) 0 ⟨c6Z _,rfl⟩ (by (repeat first|refine uA ?_|(refine ⟨?_,?_⟩;focus first|rfl|simp [slot])|rfl|simp)) ?_
 rintro i ⟨hi,hg⟩
 simp only [lks,ints,rts]
 (repeat first|refine uA ?_|(refine uK ?_ ?_;focus first|omega|(intros;simp_all<;>omega))|simp (disch:=omega) only [go_sem,Nat.reduceBEq])
 (refine uJ rfl (fun hc=>?_) fun hc=>?_)
 ·have hi':i < links.length:=by omega
  have hgi:=c6T hi'
  have hgv:=c6T (show i < v.length by omega)
  generalize links[i]=l at hgi
  generalize v[i]'_=r at hgv
  have hz:=N7 hgi hgv
  have hst:=a1Z (f:=a1G) hz
  have hnx:=a2a (f:=a1G) hz
  have bl:=hb l (c6W hgi)
  have br:=(hvb r (c6W hgv)).mono (m:=17179869184) (by decide)
  have o1:=b8B r br
  have o2:=K8 (Nm.ofQ (E5 (Nm.d9 r))) l.speed (c4p (br.fit (by decide))) (bl.2.2.2.1.mono (by decide))
  rw [Nm.p9] at o2
  unfold a1G at hst hnx
  simp only at hst hnx
  generalize Nm.q9 (E5 (Nm.d9 r)) (Nm.d9 l.speed)=n1 at *
  unfold rq at o1
  generalize Nm.ofQ (E5 (Nm.d9 r))=ar at *
  have hvi:(i:Int) < v.length:=by omega
  simp only [rc,sb,ints] at o1 o2
  (repeat first|refine uA ?_|(refine uK ?_ ?_;focus first|omega|(intros;simp_all<;>omega))|simp (disch:=omega) only [go_sem,Nat.reduceBEq,Nat.reduceAdd,hgi,hgv,c6V,c6U,Lk.enc,rcs,vts,sb,c7a]|(refine uD o1 ?_ ?_ ?_;exact tz hw;exact rfl)|(refine uD o2 ?_ ?_ ?_;exact tz hw;exact rfl))
  refine S.cond rfl (fun hc2=>?_) (fun hc2=>?_)
  ·have hp:0 < n1:=by simpa using hc2
   rw [if_pos hp] at hst
   rw [hg,show a1G=fun x:Lk × Nm.Rt=>if 0 < Nm.q9 (E5 (Nm.d9 x.2)) (Nm.d9 x.1.speed) then 1 else 0 from rfl,hst (by decide)]
   (repeat first|refine uA ?_|(refine uK ?_ ?_;focus first|omega|(intros;simp_all<;>omega))|simp (disch:=omega) only [go_sem])
   exact S.done (j3.out rfl (Imp.refl rfl) rfl)
  ·have hp:¬ 0 < n1:=by simpa using hc2
   rw [if_neg hp] at hnx
   (repeat first|refine uA ?_|(refine uK ?_ ?_;focus first|omega|(intros;simp_all<;>omega))|simp (disch:=omega) only [go_sem,Nat.reduceBEq,ww])
   refine S.next (i+1) ⟨by omega,?_⟩ (by omega) (by (repeat first|refine uA ?_|(refine ⟨?_,?_⟩;focus first|rfl|simp [slot])|rfl|simp))
   rw [hg,show a1G=fun x:Lk × Nm.Rt=>if 0 < Nm.q9 (E5 (Nm.d9 x.2)) (Nm.d9 x.1.speed) then 1 else 0 from rfl,hnx rfl]
 ·rw [hg,a2S (by rw [List.length_zip];omega)]
  (repeat first|refine uA ?_|(refine uK ?_ ?_;focus first|omega|(intros;simp_all<;>omega))|simp (disch:=omega) only [go_sem])
  exact S.done (j3.out rfl (Imp.refl rfl) rfl)
set_option maxHeartbeats 16000000
theorem c6j (h:List Int) (n:Int):(a1n (.int .i64 n) (hdE h)).getD (.bool false)=.bool (h.contains n):=by
 rw [c3z];cases h.contains n<;>rfl
theorem b7n {α:Type} (p:α->Bool) (l:List α):l.all p=!l.any fun x=>!p x:=by rw [List.not_any_eq_all_not];simp
theorem b3N (w:Wk) (s:Stt) (hb:Wb 1073741824 w) (hs:Stb 1073741824 s):FZ 24 [w.c,s.c] (ints (P7 w s)):=by
 refine kW b1N b1n (by rfl) fun w' O hw=>?_
 have hwk:=a9z w hb
 obtain ⟨⟨n1,b1⟩,⟨n2,b2⟩,⟨n3,b3⟩,n4⟩:=hs
 have hone:=fun (a:Am) (x:Ast) (ha:a ∈ w.arms) (hx:x ∈ s.arms)=>c6d a x w.parts.length (hb.arms.2 a ha) (b1 x hx) (by have:=hb.parts.1;omega)
 have hfr:=b8H 55 (by kernel_rfl) (fun f=>!a1P f) s.parts (by omega) (fun f hf=>c3D f ⟨(b2 f hf).1.mono (by decide),(b2 f hf).2.1.mono (by decide),(b2 f hf).2.2.mono (by decide)⟩)
 have hvc:=b5g 58 (by kernel_rfl) (fun v=>!a3e v) s.people (by omega) (fun v hv=>c3C v ((b3 v hv).mono (by decide)))
 have m1:=hb.arms.1
 have m2:=hb.parts.1
 have m3:=hb.gates.1
 unfold P7
 rw [b7n a1P,b7n a3e]
 generalize a0c w=e0 at *
 generalize (s.parts.any fun f=>!a1P f)=g1 at *
 generalize (s.people.any fun v=>!a3e v)=g2 at *
 obtain ⟨arms,walls,parts,slots,gates,walk⟩:=w
 obtain ⟨tick,sarms,sparts,people,sgates⟩:=s
 simp only at *
 simp only [a6i,j5,TT,II,OA,OB,OC,MM,LL,VV,FF,MG,VG,FG]
 simp only [Wk.c,Wk.enc,Stt.c,Stt.enc,ams,wls,pts,sls,gts,K7,frs,vts,bls,sb,ints] at hwk hfr hvc ⊢
 (repeat first|refine uA ?_|(refine uK ?_ ?_;focus first|omega|(intros;simp_all<;>omega))|simp (disch:=omega) only [go_sem,Nat.reduceBEq,Nat.reduceAdd]|(refine uD hwk ?_ ?_ ?_;exact tz hw;exact rfl))
 refine S.cond rfl (fun hc=>?_) (fun hc=>?_)
 ·rw [if_pos (by simpa using hc)]
  (repeat first|refine uA ?_|(refine uK ?_ ?_;focus first|omega|(intros;simp_all<;>omega))|simp (disch:=omega) only [go_sem,Nat.reduceBEq])
  exact S.done (j3.out rfl (Imp.refl rfl) rfl)
 rw [if_neg (by simpa using hc)]
 (repeat first|refine uA ?_|(refine uK ?_ ?_;focus first|omega|(intros;simp_all<;>omega))|simp (disch:=omega) only [go_sem,Nat.reduceBEq,Nat.reduceAdd,c6U])
 refine S.cond rfl (fun hc=>?_) (fun hc=>?_)
 ·rw [if_pos (by simp only [c7h] at hc;omega)]
  (repeat first|refine uA ?_|(refine uK ?_ ?_;focus first|omega|(intros;simp_all<;>omega))|simp (disch:=omega) only [go_sem])
  exact S.done (j3.out rfl (Imp.refl rfl) rfl)
 rw [if_neg (by simp only [c7u] at hc;omega)]
 (repeat first|refine uA ?_|(refine uK ?_ ?_;focus first|omega|(intros;simp_all<;>omega))|simp (disch:=omega) only [go_sem,Nat.reduceBEq,Nat.reduceAdd,c6U])
 refine S.cond rfl (fun hc=>?_) (fun hc=>?_)
 ·rw [if_pos (by simp only [c7K,Bool.not_eq_true',c7h,c7u] at hc;omega)]
  (repeat first|refine uA ?_|(refine uK ?_ ?_;focus first|omega|(intros;simp_all<;>omega))|simp (disch:=omega) only [go_sem])
  exact S.done (j3.out rfl (Imp.refl rfl) rfl)
 have hls:sarms.length=arms.length:=by simp only [c7H,Bool.not_eq_false',c7h,c7u] at hc;omega
 rw [if_neg (by simp only [c7H,Bool.not_eq_false',c7h,c7u] at hc;omega)]
 (repeat first|refine uA ?_|(refine uK ?_ ?_;focus first|omega|(intros;simp_all<;>omega))|simp (disch:=omega) only [go_sem,Nat.reduceBEq,Nat.reduceAdd,c6U])
 refine S.loop (X:=Nat × List Int) (fun x=>⟨[(2,.bp 0 0),(3,.bp 1 0),(6,.mp 2),(56,K7 sarms),(57,ints sarms.length),(58,ints x.1)],[.box 31 [ams arms,wls walls,pts parts,sls slots,gts gates,.v (.bool walk.neg),sb walk.num,sb walk.den],.box 37 [ints tick,K7 sarms,frs sparts,vts people,bls sgates],.map false (hdE x.2)]⟩)
  (fun x=>x.1<=sarms.length/\x9 (W9 parts.length) [] (arms.zip sarms)=x9 (W9 parts.length) x.2 ((arms.zip sarms).drop x.1)) (fun x=>sarms.length-x.1) (0,[]) ⟨c6Z _,rfl⟩ (by (repeat first|refine uA ?_|(refine ⟨?_,?_⟩;focus first|rfl|simp [slot])|rfl|simp)) ?_
 rintro ⟨i,h⟩ ⟨hi,hg⟩
 simp only [ams,wls,pts,sls,gts,K7,frs,vts,bls,sb,ints] at hi hg ⊢
 (repeat first|refine uA ?_|(refine uK ?_ ?_;focus first|omega|(intros;simp_all<;>omega))|simp (disch:=omega) only [go_sem,Nat.reduceBEq])
 (refine uJ rfl (fun hc=>?_) fun hc=>?_)
 ·have hgx:=c6T (show i < sarms.length by omega)
  have hga:=c6T (show i < arms.length by omega)
  generalize sarms[i]'_=x at hgx
  generalize arms[i]'_=a at hga
  have hz:=N7 hga hgx
  have hst:=a2Z (f:=W9 parts.length) (s:=h) hz
  have hnx:=a3g (f:=W9 parts.length) (s:=h) hz
  have ho:=hone a x (c6W hga) (c6W hgx)
  have hlk:=c6j h x.holds
  have hpt:=c5v h x.holds
  have hai:(i:Int) < arms.length:=by omega
  have hv:W9 parts.length h (a,x)=if a1g a x parts.length ≠ 0 then (a1g a x parts.length,h) else if (decide (0<=x.holds) && h.contains x.holds)=true then (10,h) else (0,a8N h x.holds):=rfl
  rw [hv] at hst hnx
  clear hv
  generalize a1g a x parts.length=e1 at *
  generalize h.contains x.holds=c1 at *
  simp only [Am.c,Am.enc,Ast.c,Ast.enc,lks,rts,sb,ints] at ho
  (repeat first|refine uA ?_|(refine uK ?_ ?_;focus first|omega|(intros;simp_all<;>omega))|simp (disch:=omega) only [go_sem,Nat.reduceBEq,Nat.reduceAdd,hga,hgx,c6V,c6U,Am.enc,Ast.enc,lks,rts,sb,ints,c7a]|(refine uD ho ?_ ?_ ?_;exact tz hw;exact rfl))
  refine S.cond rfl (fun hc2=>?_) (fun hc2=>?_)
  ·have h0:e1 ≠ 0:=by simpa using hc2
   rw [if_pos h0] at hst
   rw [hg,hst h0,if_pos h0]
   (repeat first|refine uA ?_|(refine uK ?_ ?_;focus first|omega|(intros;simp_all<;>omega))|simp (disch:=omega) only [go_sem,Nat.reduceBEq])
   exact S.done (j3.out rfl (Imp.refl rfl) rfl)
  have h0:e1=0:=by simpa using hc2
  rw [if_neg (by simp [h0])] at hst hnx
  (repeat first|refine uA ?_|(refine uK ?_ ?_;focus first|omega|(intros;simp_all<;>omega))|simp (disch:=omega) only [go_sem,Nat.reduceBEq,Nat.reduceAdd,hlk])
  refine S.cond rfl (fun hc3=>?_) (fun hc3=>?_)
  ·rw [if_pos hc3] at hst
   rw [hg,hst (by simp),if_pos (by simp)]
   (repeat first|refine uA ?_|(refine uK ?_ ?_;focus first|omega|(intros;simp_all<;>omega))|simp (disch:=omega) only [go_sem])
   exact S.done (j3.out rfl (Imp.refl rfl) rfl)
  ·rw [if_neg (by rw [hc3];decide)] at hnx
   (repeat first|refine uA ?_|(refine uK ?_ ?_;focus first|omega|(intros;simp_all<;>omega))|simp (disch:=omega) only [go_sem,Nat.reduceBEq,Nat.reduceAdd,ww,hpt])
   refine S.next (x:=(i,h)) (i+1,a8N h x.holds) ⟨by simp only;omega,by simp only;rw [hg,hnx rfl]⟩ (by simp only;omega) (by (repeat first|refine uA ?_|(refine ⟨?_,?_⟩;focus first|rfl|simp [slot])|rfl|simp))
 ·rw [hg,a4a (by rw [List.length_zip];omega),if_neg (by simp)]
  (repeat first|refine uA ?_|(refine uK ?_ ?_;focus first|omega|(intros;simp_all<;>omega))|simp (disch:=omega) only [go_sem,Nat.reduceBEq,Nat.reduceAdd]|(refine uD hfr ?_ ?_ ?_;exact tz hw;exact rfl)|(refine uD hvc ?_ ?_ ?_;exact tz hw;exact rfl))
  refine S.cond rfl (fun hc=>?_) (fun hc=>?_)
  ·rw [if_neg (by cases g1<;>cases g2<;>simp_all)]
   (repeat first|refine uA ?_|(refine uK ?_ ?_;focus first|omega|(intros;simp_all<;>omega))|simp (disch:=omega) only [go_sem])
   exact S.done (j3.out rfl (Imp.refl rfl) rfl)
  ·rw [if_pos (by cases g1<;>cases g2<;>simp_all)]
   (repeat first|refine uA ?_|(refine uK ?_ ?_;focus first|omega|(intros;simp_all<;>omega))|simp (disch:=omega) only [go_sem])
   exact S.done (j3.out rfl (Imp.refl rfl) rfl)
theorem V6:Rb 8 (Nm.ofQ 0):=⟨Nm.F3 (by decide),Nm.F3 (by decide)⟩
theorem a5F:FZ 48 [.v (.int .i64 0)] (rq 0):=by
 have:=a1l 0 (by decide) (by decide)
 rwa [show ((0:Int):Rat)=0 from rfl] at this
theorem c2P:FZ 83 [] a4r.c:=by
 refine kW Tryz.func83 (by cbv) (by rfl) fun w O hw=>?_
 have h1:=a5F
 have h2:=b3z (Nm.ofQ 0) (V6.mono (by decide))
 rw [Nm.p9] at h2
 unfold tq rq at *
 unfold a4r
 generalize Nm.ofQ 0=r at *
 simp only [j5,TT,II,OA,OB,LL]
 simp only [Fr.c,Fr.enc,rc,tc,sb] at *
 (repeat first|refine uA ?_|(apply uK;focus omega)|simp (disch:=omega) only [go_sem,Nat.reduceBEq]|(apply uD h1;exact tz hw;rfl)|(apply uD h2;exact tz hw;rfl))
 (refine S.done ?_;simp only [p8,r9,go_sem,Nat.reduceBEq,Nat.reduceAdd,Nat.reduceLeDiff];(repeat (refine ⟨?_,?_⟩;focus first|trivial|omega|simp));exact j3.out rfl (Imp.refl rfl) rfl)
open Go Eng
set_option maxHeartbeats 8000000
theorem c3x (a:Am) (q v:List Nm.Rt) (hl:Ab 1073741824 a) (ha:J2 a=0) (hq:q.length=a.links.length) (hv:v.length=a.links.length):FZ 107 [a.c,rts q,rts v] (ints 0):=by
 refine kW Tryz.func107 (by cbv) (by rfl) fun w O hw=>?_
 have h:=b0p a hl
 rw [ha] at h
 have hn:=hl.2.2.1
 obtain ⟨name,⟨x,y,half,t⟩,links⟩:=a
 simp only at hq hv hn
 simp only [j5,TT,II,OA,OC,MM,LL,VV,FF,MG,VG,FG]
 simp only [Am.c,Am.enc,lks,rts,sb,ints] at *
 (repeat first|refine uA ?_|(apply uK;focus omega)|simp (disch:=omega) only [go_sem,Nat.reduceBEq]|(apply uD h;exact tz hw;rfl))
 refine S.cond rfl (fun hc=>by simp at hc) (fun hc=>?_)
 (repeat first|refine uA ?_|(apply uK;focus first|omega|(intros;simp_all<;>omega))|simp (disch:=omega) only [go_sem,Nat.reduceBEq,Nat.reduceAdd,c6U])
 refine S.cond rfl (fun hc=>by simp only [c7K,Bool.not_eq_true',c7u] at hc;omega) (fun hc=>?_)
 (repeat first|refine uA ?_|(apply uK;focus omega)|simp (disch:=omega) only [go_sem])
 exact S.done (j3.out rfl (Imp.refl rfl) rfl)
theorem c3l {α:Type} {l m:List α} {i:Nat} {y:α} (f:α->List C) (hl:l.length=m.length) (hy:l[i]?=some y):((l.take i++m.drop i).map f).set i (f y)=(l.take (i+1)++m.drop (i+1)).map f:=by
 rw [<- List.map_set,b6D hl hy]
theorem take_at {α:Type} {l:List α} {i:Nat} {x:α} (h:l[i]?=some x):l.take (i+1)=l.take i++[x]:=by
 obtain ⟨hi,rfl⟩:=c6Y.1 h
 exact c7L hi
def tB:Nat->Nat
 | 0=>8
 | n+1=>2*(2*(tB n+2097664)+16+8)+16
def xB:Nat->Nat
 | 0=>8
 | n+1=>xB n+2*(8+4*tB n+18)+2+2*(8+4*(2*(tB n+2097664)+16)+18)+2
def Fx (i:Nat) (f:Fr):Prop:=Rb (xB i) f.x/\Rb (xB i) f.y/\Rb (tB i) f.t
theorem b0I {a:Am} (h:J2 a=0):Fx 0 a.base/\∀ l ∈ a.links,Rb 8 l.length:=by
 have hl:=(O8 h).2
 unfold J2 at h
 split at h
 ·cases h
 split at h
 ·cases h
 split at h
 ·cases h
 rename_i h1
 have hs:(l6 a.base.x && l6 a.base.y && l6 a.base.t)=true:=by
  cases hb:(l6 a.base.x && l6 a.base.y && l6 a.base.t) with
  | true=>rfl
  | false=>exact absurd (.inr (.inl hb)) h1
 simp only [c7c] at hs
 refine ⟨⟨(U9 hs.1.1).mono (by decide),(U9 hs.1.2).mono (by decide),(U9 hs.2).mono (by decide)⟩,fun l hm=>?_⟩
 have:=hl l hm
 unfold O7 at this
 split at this
 ·cases this
 rename_i h2
 have hs2:(l6 l.length && l6 l.low && l6 l.high && l6 l.speed && l6 l.brake)=true:=by
  cases hb:(l6 l.length && l6 l.low && l6 l.high && l6 l.speed && l6 l.brake) with
  | true=>rfl
  | false=>exact absurd (.inl hb) h2
 simp only [c7c] at hs2
 exact (U9 hs2.1.1.1.1).mono (by decide)
def c6g:List Nat:=[29,30]
def c4X (f:Nat):Bool:=c6g.contains f
def a3Z:N9:=⟨41,[.cell 2 true 5],.seq (.reg [OA 1 (.box 37 (TT 0)),OA 2 (.alloc 37 [.int .i64 0,.slice none 0 0,.slice none 0 0,.slice none 0 0,.slice none 0 0])]) (.seq (.E8 [.l,.l,.q,.q,.q,.q,.q,.e none false,.l,.l,.e
 none false,.q,.a,.e (some 3) true] [FF 6 0 1,VV 7 6,FF 8 2 1,VV 9 8,OA 10 (.call 28 [TT 9]),FF 11 3 1,VV 12 11,OA 13 (.call 29 [TT 12]),FF 14 4 1,VV 15 14,OA 16 (.call 30 [TT 15]),OA 17 (.build [.int .i64 0,.slice
 none 0 0,.slice none 0 0,.slice none 0 0,.slice none 0 0] [(0,(1,TT 7)),(2,(1,TT 10)),(3,(1,TT 13)),(4,(1,TT 16))]),OA 3 (.alloc 37 [.int .i64 0,.slice none 0 0,.slice none 0 0,.slice none 0 0,.slice none 0
 0]),OB (.store 5 (TT 3) (TT 17))]) (.seq (.seq (.reg [FF 18 1 1,VV 19 18,OA 20 (.len false (TT 19)),OA 21 (.mv (II 0))]) (.block 0 (.loop (.seq (.reg [OA 22 (.bin .lss (TT 21) (TT 20))]) (.seq (.cond (TT 22) .skip (.exit 0))
 (.seq (.block 1 (.seq (.reg [OA 23 (.q8 4 (TT 19) (TT 21)),LL 24 4 23,OA 5 (.alloc 49 [.slice none 0 0,.slice none 0 0,.bool false,.int .i64 0]),OB (.store 4 (TT 5) (TT 24))]) (.seq (.E8 [.q,.q,.q,.q,.q,.q,.q,
 .e none true,.q,.e none true] [FF 25 0 5,VV 26 25,OA 27 (.call 31 [TT 26]),FF 28 1 5,VV 29 28,OA 30 (.call 31 [TT 29]),FF 31 0 5,OB (.store 1 (TT 31) (TT 27)),FF 32 1 5,OB (.store 1 (TT 32) (TT 30))]) (.reg [FF 33 1
 3,VV 34 33,LL 35 4 5,OA 36 (.bsl 49 4 1 [.slice none 0 0,.slice none 0 0,.bool false,.int .i64 0] [(0,TT 35)]),OA 37 (.app 49 4 64 (TT 34) (TT 36)),FF 38 1 3,OB (.store 1 (TT 38) (TT 37))])))) (.reg [OA 39 (.bin .add
 (TT 21) (II 1)),MM 21 39]))))))) (.seq (.reg [LL 40 5 3,OB (.store 5 (TT 2) (TT 40))]) .ret)))⟩
theorem a7E:J5 c4X Tryz.prog Tryz.f11=some a3Z:=by kernel_rfl
theorem a8h:Tryz.prog.funcs[11]?=some Tryz.f11:=Tryz.func11
set_option maxHeartbeats 16000000
theorem c5z {E:Ctx} (hP:E.P=Tryz.prog) (s:Stt) (hs:Stb 1073741824 s) :
  j6 E [] 11 [s.c] (.agg [ints s.tick,K7 s.arms,frs s.parts,.rv 2,.rv 3]) [.gone,.gone,.row 59 6 (s.people.map Vt.enc),.row 4 1 (s.gates.map fun b=>[.v (.bool b)])] []:=by
 obtain ⟨P,eff',N,w0,own0,av0,nu0,pk0⟩:=E
 simp only at hP
 subst hP
 refine j6.of (eff:=c4X) a8h a7E (by exact c7j rfl) fun w own av ν hν=>?_
 have hν0:ν.length<=0:=by rw [hν];exact c7b _
 obtain ⟨⟨n1,b1⟩,⟨n2,b2⟩,⟨n3,b3⟩,n4⟩:=hs
 obtain ⟨tick,arms,parts,people,gates⟩:=s
 simp only at n1 b1 n2 n3 n4 ⊢
 have c1:=b7G (parts.map Fr.enc) (by rw [c6U];exact n2)
 have c2:=c1f (people.map Vt.enc) (by rw [c6U];exact n3)
 have c3:=c0l (gates.map fun b=>[.v (.bool b)]) (by rw [c6U];exact n4)
 simp only [a3Z,j5,TT,II,OA,OB,MM,LL,VV,FF]
 simp only [Stt.c,Stt.enc,K7,frs,vts,bls,ints]
 (repeat first|refine uI ?_|(refine uK ?_ ?_;focus first|omega|(intros;simp_all<;>omega))|simp (disch:=omega) only [go_sem,Nat.reduceBEq,Nat.reduceAdd])
 refine S.E8 [.box 37 [.v (.int .i64 tick),.sl 4 (arms.map Ast.enc),.sl 10 (parts.map Fr.enc),.sl 6 (people.map Vt.enc),.sl 1 (gates.map fun b=>[.v (.bool b)])]] (by simp [Eng.H6,Eng.U6]) ?_
 (repeat first|refine uA ?_|(refine uK ?_ ?_;focus first|omega|(intros;simp_all<;>omega))|simp (disch:=omega) only [go_sem,Nat.reduceBEq,Nat.reduceAdd,c6U]|refine l8.t (FNew.t c2 rfl) ?_|refine l8.t (FNew.t c3 rfl) ?_|(refine uB c1.spec ?_ ?_;exact rfl))
 refine S.loop (X:=Nat) (fun i=>⟨[(2,.bp 1 0),(3,.bp 4 0),(19,K7 arms),(20,ints arms.length),(21,ints i)],[.gone,.box 37 [.v (.int .i64 0),.v (.slice none 0 0),.v (.slice none 0 0),.v (.slice none 0 0),.v (.slice none 0 0)],.row 59 6 (people.map Vt.enc),.row 4 1 (gates.map fun b=>[.v (.bool b)]),.box 37 [ints tick,.rv 5,frs parts,.rv 2,.rv 3],.row 49 4 ((arms.take i).map Ast.enc)]⟩) (fun i=>i<=arms.length) (fun i=>arms.length-i) 0 (c6Z _)
  (Ent.trans (Ent.a2X 4 1 49 4 rfl rfl rfl) (by (repeat first|refine uA ?_|(refine ⟨?_,?_⟩;focus first|rfl|simp [slot])|rfl|simp|exact c6X hν0 (by simp)))) ?_
 intro i hi
 simp only [K7,frs,ints]
 (repeat first|refine uA ?_|(refine uK ?_ ?_;focus first|omega|(intros;simp_all<;>omega))|simp (disch:=omega) only [go_sem,Nat.reduceBEq])
 (refine uJ rfl (fun hc=>?_) fun hc=>?_)
 ·have hi':i < arms.length:=by omega
  have hgi:=c6T hi'
  have hap:arms.take (i+1)=arms.take i++[arms[i]]:=c7L hi'
  generalize arms[i]=x at hgi hap
  obtain ⟨⟨q1,_⟩,⟨q2,_⟩⟩:=b1 x (c6W hgi)
  have e1:=(b4w (x.q.map rcs) (by rw [c6U];exact q1)).spec
  have e2:=(b4w (x.v.map rcs) (by rw [c6U];exact q2)).spec
  have htl:(arms.take i).length=i:=by rw [c7d];omega
  (repeat first|refine uA ?_|(refine uK ?_ ?_;focus first|omega|(intros;simp_all<;>omega))|simp (disch:=omega) only [go_sem,Nat.reduceBEq,Nat.reduceAdd,ww,hgi,c6V,c6U,Ast.enc,rts,ints,htl]|(refine uB e1 ?_ ?_;exact rfl)|(refine uB e2 ?_ ?_;exact rfl))
  refine S.next (i+1) (by omega) (by omega) (by simp only [hap,c7G,c7i,c7q,Ast.enc,rts,ints];exact (by (repeat first|refine uA ?_|(refine ⟨?_,?_⟩;focus first|rfl|simp [slot])|rfl|simp|exact c6X hν0 (by simp))))
 ·have hi':i=arms.length:=by omega
  subst hi'
  rw [c7l]
  (repeat first|refine uA ?_|(refine uK ?_ ?_;focus first|omega|(intros;simp_all<;>omega))|simp (disch:=omega) only [go_sem,Nat.reduceBEq,Nat.reduceAdd])
  (refine S.done ?_;simp only [p8,r9,go_sem,Nat.reduceBEq,Nat.reduceAdd,Nat.reduceLeDiff];(repeat (refine ⟨?_,?_⟩;focus first|trivial|omega|simp));exact j3.K5 (Imp.agg (by (repeat' (first|exact j4.nil|exact Imp.refl rfl|exact Imp.frz rfl rfl rfl|exact Imp.F5|refine j4.cons ?_ ?_)))) (by (repeat first|refine uA ?_|(refine ⟨?_,?_⟩;focus first|rfl|simp [slot])|rfl|simp)) (c6X hν0 (by simp)))
def c4t (v:Vt) (z:Gt):Prop:=Nm.q9 (Nm.d9 v.x) (Nm.d9 z.low.x) < 0 \/ 0 < Nm.q9 (Nm.d9 v.x) (Nm.d9 z.high.x) \/ Nm.q9 (Nm.d9 v.y) (Nm.d9 z.low.y) < 0 \/ 0 < Nm.q9 (Nm.d9 v.y) (Nm.d9 z.high.y)
instance (v:Vt) (z:Gt):Decidable (c4t v z):=by unfold c4t;infer_instance
def wss (u:List (List Nm.Rt)):C:=.sl 1 (u.map fun l=>[rts l])
theorem c6M {α β γ:Type} {f:α × β->γ} {l:List α} {m:List β} {z:γ} (h:z ∈ (l.zip m).map f):∃ a ∈ l,∃ b ∈ m,z=f (a,b):=by
 obtain ⟨⟨a,b⟩,hm,rfl⟩:=List.mem_map.1 h
 exact ⟨a,(List.of_mem_zip hm).1,b,(List.of_mem_zip hm).2,rfl⟩
set_option maxHeartbeats 4000000
theorem a4c (q:Rat):(q < 0/\E5 q=-q) \/ (0<=q/\E5 q=q):=by
 unfold E5
 have h:=@Rat.num_nonneg q
 by_cases hn:q.num < 0
 ·rw [if_pos hn];left;exact ⟨by rw [<- Rat.not_le,<- h];omega,rfl⟩
 ·rw [if_neg hn];right;exact ⟨h.1 (by omega),rfl⟩
theorem b0m {b:Rat} (h:0 < E9 b):0 < b:=by
 rcases a7O b with ⟨h1,_⟩|⟨h1,_⟩|⟨_,h1⟩
 ·omega
 ·omega
 ·exact h1
def c1U (x:Lk × Nm.Rt):Int:=if Nm.q9 (Nm.d9 x.2) (Nm.d9 x.1.low) < 0 \/ 0 < Nm.q9 (Nm.d9 x.2) (Nm.d9 x.1.high) then 17 else 0
theorem c1e {a:Am} {y:Ast} {n:Nat} (ha:J2 a=0) (g1:y.q.all M4=true) (g2:y.v.all M4=true) (hq:y.q.length=a.links.length) (hv:y.v.length=a.links.length) (hh:-1<=y.holds/\y.holds < n) (hl:∀ z ∈ a.links.zip y.q,c1U z=0) (hs:∀ z ∈ a.links.zip y.v,a1G z=0):a1g a y n=0:=by
 unfold a1g
 have hf:a2h a y.q=0:=by
  unfold a2h
  rw [if_neg (by simp [ha]),if_neg (by simp [hq])]
  exact a1O hl
 rw [g1,g2,if_neg (by decide),hf,if_neg (by decide),if_neg (by omega)]
 exact a1O hs
theorem b3e (n:Nat):∀ (A:List Am) (X Y:List Ast) (h:List Int),X.map (·.holds)=Y.map (·.holds)->(∀ z ∈ A.zip Y,a1g z.1 z.2 n=0)->(x9 (W9 n) h (A.zip X)).1=0->(x9 (W9 n) h (A.zip Y)).1=0
  | [],_,_,_,_,_,_=>by simp [x9]
  | a::A,[],[],h,_,_,hx=>hx
  | a::A,[],y::Y,h,e,_,_=>by simp at e
  | a::A,x::X,[],h,e,_,_=>by simp at e
  | a::A,x::X,y::Y,h,e,ho,hx=>by
    simp only [c7i,List.cons.injEq] at e
    simp only [List.zip_cons_cons] at ho hx ⊢
    have h1:=ho (a,y) (by simp)
    unfold x9 at hx ⊢
    by_cases hx0:(W9 n h (a,x)).1=0
    · have e0:a1g a x n=0:=by
        unfold W9 at hx0
        split at hx0
        · exact hx0
        · exact Classical.not_not.1 (by assumption)
      have e2:W9 n h (a,y)=W9 n h (a,x):=by
        unfold W9
        simp only at h1 ⊢
        rw [h1,e0,e.1]
      rw [if_pos hx0] at hx
      rw [e2,if_pos hx0]
      exact b3e n A X Y _ e.2 (fun z hz=>ho z (by simp [hz])) hx
    · rw [if_neg hx0] at hx;exact absurd hx hx0
structure Calm (w:Wk) (s:Stt) (k:Nat):Prop where
 st:P7 w s=0
 people:s.people=[]
 holds:∀ x ∈ s.arms,x.holds=-1
 q:∀ x ∈ s.arms,∀ r ∈ x.q,Rb (100+1000*k) r
 v:∀ x ∈ s.arms,∀ r ∈ x.v,Rb (200+20*k) r
 tick:s.tick=k
 parts:∀ f ∈ s.parts,Fb 1048576 f
theorem c4z {w:Wk} {s:Stt} {k:Nat} (h:Calm w s k) (hk:k<=10):Stb 1048576 s:=by
 have ho:=a2x h.st
 refine ⟨⟨by have:=ho.arms;have:=ho.big;omega,fun x hx=>?_⟩,⟨by have:=ho.parts;have:=ho.big;omega,h.parts⟩,⟨by have:=ho.people;omega,fun v hv=>by rw [h.people] at hv;cases hv⟩,by have:=ho.gates;have:=ho.big;omega⟩
 obtain ⟨i,hi⟩:=List.getElem?_of_mem hx
 have hil:=(c6Y.1 hi).1
 have ga:=c6T (show i < w.arms.length by have:=ho.arms;omega)
 have h1:=b0L (ho.one _ (c6W (N7 ga hi)))
 simp only at h1
 have h2:=(Z0 h1.arm).2
 have h3:=h1.q
 have h4:=h1.v
 exact ⟨⟨by omega,fun r hr=>(h.q x hx r hr).mono (by omega)⟩,by omega,fun r hr=>(h.v x hx r hr).mono (by omega)⟩
theorem a6R {l:Lk} (h:O7 l=0):Rb 3 l.low/\Rb 3 l.high/\Rb 3 l.speed/\Rb 3 l.brake:=by
 unfold O7 at h
 split at h
 ·cases h
 rename_i h2
 have hs2:(l6 l.length && l6 l.low && l6 l.high && l6 l.speed && l6 l.brake)=true:=by
  cases hb:(l6 l.length && l6 l.low && l6 l.high && l6 l.speed && l6 l.brake) with
  | true=>rfl
  | false=>exact absurd (.inl hb) h2
 simp only [c7c] at hs2
 exact ⟨U9 hs2.1.1.1.2,U9 hs2.1.1.2,U9 hs2.1.2,U9 hs2.2⟩
theorem b8l {w:Wk} (hwb:Wb 1048576 w) (hk:a0c w=0) (ha:∀ a ∈ w.arms,J2 a=0) (hs:∀ s ∈ w.slots,okF s.frame=true):Calm w (D8 w) 0:=by
 have hb:=b5t (k:=1048576) (by decide) hwb ha hs
 refine ⟨a6P hk ha hs,rfl,fun x hx=>?_,fun x hx r hr=>?_,fun x hx r hr=>?_,rfl,hb.parts.2⟩
 ·obtain ⟨a,_,rfl⟩:=List.mem_map.1 (show x ∈ w.arms.map R3 from hx)
  rfl
 ·obtain ⟨a,hm,rfl⟩:=List.mem_map.1 (show x ∈ w.arms.map R3 from hx)
  obtain ⟨l,hl,rfl⟩:=List.mem_map.1 (show r ∈ a.links.map a0C from hr)
  have h3:=a6R ((O8 (ha a hm)).2 l hl)
  unfold a0C G9 G7
  repeat' split
  all_goals first|exact (h3.1.fit (by decide)).mono (by decide)|exact (h3.2.1.fit (by decide)).mono (by decide)|exact V6.mono (by decide)
 ·obtain ⟨a,hm,rfl⟩:=List.mem_map.1 (show x ∈ w.arms.map R3 from hx)
  obtain ⟨l,hl,rfl⟩:=List.mem_map.1 (show r ∈ a.links.map (fun _=>Nm.ofQ 0) from hr)
  exact V6.mono (by decide)
def aQ (b v:Rat) (j:Nat):Rat:=if v-(j:Rat)*b<=0 then 0 else v-(j:Rat)*b
def sQ (b v:Rat):Nat->Rat
 | 0=>0
 | j+1=>sQ b v j+aQ b v (j+1)
theorem a4d (j:Nat):((j+1:Nat):Rat)=(j:Rat)+1:=by
 rw [Rat.natCast_add];rfl
theorem b4E (b v:Rat) (j:Nat):0<=aQ b v j:=by
 unfold aQ
 split<;>grind
theorem c5J {b v:Rat} (hv:0<=v):aQ b v 0=v:=by
 unfold aQ
 have h:((0:Nat):Rat)=0:=rfl
 rw [h]
 split<;>grind
theorem c5F {b v:Rat} (hb:0 < b) (j:Nat):aQ b v (j+1)=if aQ b v j<=b then 0 else aQ b v j-b:=by
 unfold aQ
 rw [a4d]
 generalize (j:Rat)=J
 have e:(J+1)*b=J*b+b:=by grind
 rw [e]
 generalize J*b=t
 split<;>split<;>(try split)<;>grind
theorem b5b (b v:Rat):∀ (j k:Nat),j<=k->sQ b v j<=sQ b v k
 | j,0,h=>by
  have:j=0:=by omega
  subst this
  exact Rat.le_refl
 | j,k+1,h=>by
  rcases c7p j (k+1) with h1|h1
  ·have h2:=b5b b v j k (by omega)
   have h3:=b4E b v (k+1)
   rw [sQ]
   grind
  ·have:j=k+1:=by omega
   subst this
   exact Rat.le_refl
theorem c1W (b v:Rat) (j:Nat):0<=sQ b v j:=b5b b v 0 j (c6Z _)
theorem b7t {b v:Rat} (hb:0 < b) {n j:Nat} (h:v<=(n:Rat)*b) (hj:n<=j):aQ b v j=0:=by
 unfold aQ
 have h1:(n:Rat)<=(j:Rat):=by exact_mod_cast hj
 have h2:(n:Rat)*b<=(j:Rat)*b:=Rat.mul_le_mul_of_nonneg_right h1 (by grind)
 rw [if_pos (by grind)]
theorem c2J {b v:Rat} (hb:0 < b) {n:Nat} (h:v<=(n:Rat)*b):∀ j,n<=j->sQ b v j=sQ b v n
 | 0,hj=>by
  have:n=0:=by omega
  subst this
  rfl
 | j+1,hj=>by
  rcases c7p n (j+1) with h1|h1
  ·rw [sQ,c2J hb h j (by omega),b7t hb h hj]
   grind
  ·have:n=j+1:=by omega
   subst this
   rfl
theorem c6f {b v:Rat} (hb:0 < b) {n:Nat} (h:v<=(n:Rat)*b) (j:Nat):sQ b v j<=sQ b v n:=by
 rcases Nat.le_total j n with h1|h1
 ·exact b5b b v j n h1
 ·rw [c2J hb h j h1]
  exact Rat.le_refl
theorem b4X {b v:Rat} (hb:0 < b):∀ (m:Nat),(m:Rat)*b<=v->sQ b v m=(m:Rat)*v-b*((m:Rat)*((m:Rat)+1) / 2)
 | 0,_=>by
  have h:((0:Nat):Rat)=0:=rfl
  rw [h,sQ]
  grind
 | m+1,h=>by
  rw [a4d] at h ⊢
  have h1:(m:Rat)*b<=v:=by
   have e:((m:Rat)+1)*b=(m:Rat)*b+b:=by grind
   grind
  have h2:aQ b v (m+1)=v-((m:Rat)+1)*b:=by
   unfold aQ
   rw [a4d]
   split<;>grind
  rw [sQ,b4X hb m h1,h2]
  generalize (m:Rat)=M
  grind
def a5i (b v:Rat) (n:Nat):Rat:=if n < 2 then 0 else ((n-1:Nat):Rat)*v-b*((n*(n-1) / 2:Nat):Rat)
theorem b8M (n:Nat):((n*(n-1) / 2:Nat):Rat)=((n-1:Nat):Rat)*(((n-1:Nat):Rat)+1) / 2:=by
 cases n with
 | zero=>decide +kernel
 | succ m=>
  have he:2 ∣ (m+1)*m:=by
   rcases Nat.mod_two_eq_zero_or_one m with h|h
   ·exact Nat.dvd_trans (Nat.dvd_of_mod_eq_zero h) (Nat.dvd_mul_left _ _)
   ·exact Nat.dvd_trans (Nat.dvd_of_mod_eq_zero (by omega)) (Nat.dvd_mul_right _ _)
  obtain ⟨k,hk⟩:=he
  have hk2:(m+1)*(m+1-1) / 2=k:=by rw [Nat.add_sub_cancel,hk];omega
  rw [hk2,Nat.add_sub_cancel]
  have hc:((m+1:Nat):Rat)*(m:Rat)=2*(k:Rat):=by
   have:=congrArg (fun n:Nat=>(n:Rat)) hk
   simp only [Rat.natCast_mul] at this
   exact this
  rw [a4d] at hc
  grind
theorem c4m {b v:Rat} (hb:0 < b) {n:Nat} (h1:v<=(n:Rat)*b) (h2:1<=n->((n-1:Nat):Rat)*b<=v):a5i b v n=sQ b v n:=by
 unfold a5i
 split
 ·rename_i hn
  have:n=0 \/ n=1:=by omega
  rcases this with rfl|rfl
  ·rfl
  ·rw [sQ,b7t hb h1 (c7b _)]
   show (0:Rat)=0+0
   grind
 ·rename_i hn
  obtain ⟨m,rfl⟩:∃ m,n=m+1:=⟨n-1,by omega⟩
  have h3:=b4X hb m (h2 (by omega))
  have h4:=b8M (m+1)
  rw [Nat.add_sub_cancel] at h4 ⊢
  rw [h4,sQ,b7t hb h1 (c7b _),h3]
  grind
def sgQ (v:Rat):Rat:=if v < 0 then -1 else 1
theorem c5x (v:Rat):sgQ v*E5 v=v:=by
 unfold sgQ
 rcases a4c v with ⟨h,e⟩|⟨h,e⟩
 ·rw [if_pos h,e];grind
 ·rw [if_neg (by grind),e];grind
theorem abs_nonneg (v:Rat):0<=E5 v:=by
 rcases a4c v with ⟨h,e⟩|⟨h,e⟩<;>rw [e]<;>grind
structure Jnt (T V B:Rat) (j:Nat) (q v:Nm.Rt):Prop where
 v:Nm.d9 v=sgQ V*aQ B (E5 V) j
 q:Nm.d9 q=T+sgQ V*sQ B (E5 V) j
theorem Jnt.start (q u:Nm.Rt) (B:Rat):Jnt (Nm.d9 q+Nm.d9 u) (Nm.d9 u) B 0 (a2m q u) u:=by
 refine ⟨by rw [c5J (abs_nonneg _),c5x],?_⟩
 unfold a2m
 rw [Nm.p9,sQ]
 grind
theorem Jnt.next {T V B:Rat} {j:Nat} {q v b:Nm.Rt} (h:Jnt T V B j q v) (hb:Nm.d9 b=B) (h0:0 < B):Jnt T V B (j+1) (a2m q (b0D b v)) (b0D b v):=by
 have hv:Nm.d9 (b0D b v)=sgQ V*aQ B (E5 V) (j+1):=by
  have h1:=h.v
  have h2:=c5F (v:=E5 V) h0 j
  have h3:=b4E B (E5 V) j
  rw [h2]
  unfold b0D a2m
  rw [hb,h1]
  generalize aQ B (E5 V) j=a at *
  have hs:sgQ V=1 \/ sgQ V=-1:=by unfold sgQ;split<;>simp
  generalize sgQ V=s at *
  have ha:E5 (s*a)=a:=by
   rcases a4c (s*a) with ⟨e1,e2⟩|⟨e1,e2⟩<;>rcases hs with rfl|rfl<;>rw [e2]<;>grind
  rw [ha]
  have hle:Nm.q9 a B<=0 <-> a<=B:=by
   have:=a3t a B
   constructor
   ·intro h
    have:¬ B < a:=fun h4=>by have:=this.2 h4;omega
    grind
   ·intro h
    have:¬ 0 < Nm.q9 a B:=fun h4=>by have:=this.1 h4;grind
    omega
  by_cases hc:a<=B
  ·rw [if_pos (hle.2 hc),if_pos hc,Nm.p9]
   grind
  ·rw [if_neg (fun h=>hc (hle.1 h)),if_neg hc]
   have hsg:=a7O (s*a)
   split
   ·rw [Nm.p9]
    rcases hs with rfl|rfl<;>grind
   ·rw [Nm.p9]
    rcases hs with rfl|rfl<;>grind
 refine ⟨hv,?_⟩
 unfold a2m
 rw [Nm.p9,h.q,hv,sQ]
 grind
theorem Jnt.range {T V B:Rat} {j n:Nat} {q v:Nm.Rt} (h:Jnt T V B j q v) (h0:0 < B) (h1:E5 V<=(n:Rat)*B) (h2:1<=n->((n-1:Nat):Rat)*B<=E5 V) :
  (T<=Nm.d9 q/\Nm.d9 q<=T+sgQ V*a5i B (E5 V) n) \/ (T+sgQ V*a5i B (E5 V) n<=Nm.d9 q/\Nm.d9 q<=T):=by
 rw [h.q,c4m h0 h1 h2]
 have h3:=c1W B (E5 V) j
 have h4:=c6f h0 h1 j
 have hs:sgQ V=1 \/ sgQ V=-1:=by unfold sgQ;split<;>simp
 rcases hs with e|e<;>rw [e]
 ·left;grind
 ·right;grind
def I5 (B V:Rat):Int:=if ((E5 V / B).floor:Rat) < E5 V / B then (E5 V / B).floor+1 else (E5 V / B).floor
theorem a6N {B V:Rat} (hB:0 < B):0<=I5 B V/\E5 V<=(((I5 B V).toNat:Nat):Rat)*B/\(1<=(I5 B V).toNat->(((I5 B V).toNat-1:Nat):Rat)*B<=E5 V):=by
 have hq:E5 V / B*B=E5 V:=Rat.div_mul_cancel (by grind)
 have h0:0<=E5 V / B:=by
  rw [Rat.div_def]
  exact Rat.mul_nonneg (abs_nonneg V) (Rat.le_of_lt (Rat.inv_pos.2 hB))
 unfold I5
 generalize E5 V / B=q at *
 have hf:0<=q.floor:=Rat.le_floor_iff.2 (by simpa using h0)
 have h1:=Rat.floor_le q
 have h2:=Rat.lt_floor_add_one q
 obtain ⟨f,hfe⟩:∃ f:Nat,q.floor=f:=⟨q.floor.toNat,by omega⟩
 rw [hfe] at h1 h2 ⊢
 have e1:(((f:Int)+1:Int):Rat)=(f:Rat)+1:=by rw [Rat.intCast_add];rfl
 have e2:(((f:Nat):Int):Rat)=(f:Rat):=rfl
 rw [e1] at h2
 rw [e2] at h1 ⊢
 rw [<- hq]
 split
 ·rename_i hlt
  refine ⟨by omega,?_,fun _=>?_⟩
  ·rw [show ((f:Int)+1).toNat=f+1 by omega,a4d]
   exact Rat.mul_le_mul_of_nonneg_right (by grind) (by grind)
  ·rw [show ((f:Int)+1).toNat-1=f by omega]
   exact Rat.mul_le_mul_of_nonneg_right h1 (by grind)
 ·rename_i hlt
  refine ⟨by omega,?_,fun _=>?_⟩
  ·rw [c7a]
   exact Rat.mul_le_mul_of_nonneg_right (by grind) (by grind)
  ·rw [c7a]
   have h3:((f-1:Nat):Rat)<=(f:Rat):=by exact_mod_cast Nat.sub_le f 1
   exact Rat.mul_le_mul_of_nonneg_right (by grind) (by grind)
theorem b6y (p q:Rat):G7 p q<=p/\G7 p q<=q:=by
 unfold G7
 have h:=a3t p q
 split
 ·have:¬ q < p:=fun h2=>by have:=h.2 h2;omega
  grind
 ·have:q < p:=h.1 (by omega)
  grind
theorem b6Q (p q:Rat):p<=G9 p q/\q<=G9 p q:=by
 unfold G9
 have h:=a3y p q
 split
 ·have:¬ p < q:=fun h2=>by have:=h.2 h2;omega
  grind
 ·have:p < q:=h.1 (by omega)
  grind
def b8q (q u b:Nm.Rt):Rat:=Nm.d9 q+Nm.d9 u+sgQ (Nm.d9 u)*a5i (Nm.d9 b) (E5 (Nm.d9 u)) (I5 (Nm.d9 b) (Nm.d9 u)).toNat
def loQ (q u b:Nm.Rt):Rat:=G7 (G7 (Nm.d9 q+Nm.d9 u) (b8q q u b)) (Nm.d9 q)
def hiQ (q u b:Nm.Rt):Rat:=G9 (G9 (Nm.d9 q+Nm.d9 u) (b8q q u b)) (Nm.d9 q)
def c6y (q0 u b:Nm.Rt):Nat->Nm.Rt->Nm.Rt->Prop
 | 0,q,v=>q=q0/\Nm.d9 v=0
 | k+1,q,v=>Jnt (Nm.d9 q0+Nm.d9 u) (Nm.d9 u) (Nm.d9 b) k q v \/ (q=q0/\Nm.d9 v=0)
set_option maxHeartbeats 8000000
theorem c4i (n:Nat) (hb:(Nm.enc n).length<=1099511627776):y9 Tryz.prog 153 [sb (Nm.enc n)] (.tup [ints (if n < 9223372036854775808 then n else 0:Nat),ints (if n < 9223372036854775808 then 0 else 2:Nat)]):=by
 refine kS Tryz.func153 (by cbv) (by rfl) fun w O=>?_
 have o1:=a0p (Nm.enc n) (by omega)
 rw [Nm.a6W (Nm.a2A _)] at o1
 have o2:=a1I (Nm.enc n) (by omega)
 rw [Nm.H8] at o2
 have h256:(256:Nat) ^ 8=18446744073709551616:=by decide
 by_cases hl:(Nm.enc n).length<=8
 ·have hn:n < 18446744073709551616:=by rw [<- h256];exact Nm.Y3 hl
  rw [Nat.mod_eq_of_lt hn] at o2
  generalize Nm.enc n=l at *
  have d1:decide ((8:Int) < (l.length:Int))=false:=decide_eq_false (by omega)
  simp only [j5,TT,II,OA,OC,MM,MG]
  simp only [sb,ints] at *
  by_cases h63:n < 9223372036854775808
  ·rw [if_pos h63,if_pos h63]
   have d2:decide ((9223372036854775807:Int) < (n:Int))=false:=decide_eq_false (by omega)
   have w1:IntKind.i64.wrap (n:Int)=(n:Int):=Eng.wrap_i64 (by omega)
   (repeat first|refine uA ?_|(apply uK;focus omega)|simp (disch:=omega) only [go_sem,Nat.reduceBEq,F4,d1,d2]|(apply uB o1;exact rfl)|(apply uB o2;exact rfl))
   refine S.cond rfl (fun hc=>by simp at hc) (fun hc=>?_)
   (repeat first|refine uA ?_|(apply uK;focus omega)|simp (disch:=omega) only [go_sem,Nat.reduceBEq,w1]|(apply uB o2;exact rfl))
   (refine S.done ?_;simp only [p8,go_sem,Nat.reduceBEq];exact j3.out rfl (Imp.tup (by (repeat' (first|exact j4.nil|exact Imp.refl rfl|exact Imp.frz rfl rfl rfl|exact Imp.F5|refine Imp.agg ?_|refine j4.cons ?_ ?_)))) rfl)
  ·rw [if_neg h63,if_neg h63]
   have d2:decide ((9223372036854775807:Int) < (n:Int))=true:=decide_eq_true (by omega)
   (repeat first|refine uA ?_|(apply uK;focus omega)|simp (disch:=omega) only [go_sem,Nat.reduceBEq,F4,d1,d2]|(apply uB o1;exact rfl)|(apply uB o2;exact rfl))
   refine S.cond rfl (fun hc=>?_) (fun hc=>by simp at hc)
   (repeat first|refine uA ?_|(apply uK;focus omega)|simp (disch:=omega) only [go_sem])
   (refine S.done ?_;simp only [p8,go_sem,Nat.reduceBEq];exact j3.out rfl (Imp.tup (by (repeat' (first|exact j4.nil|exact Imp.refl rfl|exact Imp.frz rfl rfl rfl|exact Imp.F5|refine Imp.agg ?_|refine j4.cons ?_ ?_)))) rfl)
 ·have hn:¬ n < 9223372036854775808:=fun h=>hl (Nm.F3 (by omega))
  rw [if_neg hn,if_neg hn]
  generalize Nm.enc n=l at *
  have d1:decide ((8:Int) < (l.length:Int))=true:=decide_eq_true (by omega)
  simp only [j5,TT,II,OA,OC,MM,MG]
  simp only [sb,ints] at *
  (repeat first|refine uF o2 ?_|refine uA ?_|(apply uK;focus omega)|simp (disch:=omega) only [go_sem,Nat.reduceBEq,F4,d1]|(apply uB o1;exact rfl))
  refine S.cond rfl (fun hc=>?_) (fun hc=>by simp at hc)
  (repeat first|refine uA ?_|(apply uK;focus omega)|simp (disch:=omega) only [go_sem])
  (refine S.done ?_;simp only [p8,go_sem,Nat.reduceBEq];exact j3.out rfl (Imp.tup (by (repeat' (first|exact j4.nil|exact Imp.refl rfl|exact Imp.frz rfl rfl rfl|exact Imp.F5|refine Imp.agg ?_|refine j4.cons ?_ ?_)))) rfl)
theorem a7H {p:Rat} (h:0<=p):0<=p.floor:=Rat.le_floor_iff.2 (by simpa using h)
theorem a9a (p:Rat):p.floor=Nm.sgn (decide (p.num < 0)) (if p.num < 0/\p.num.natAbs % p.den ≠ 0 then p.num.natAbs / p.den+1 else p.num.natAbs / p.den):=by
 rw [Rat.floor_def]
 have hd:0 < p.den:=Nat.pos_of_ne_zero p.den_nz
 generalize p.den=d at *
 generalize p.num=n at *
 unfold Nm.sgn
 by_cases hn:n < 0
 ·rw [decide_eq_true hn,if_pos rfl]
  obtain ⟨m,rfl⟩:∃ m:Nat,n=-(m:Int):=⟨n.natAbs,by omega⟩
  rw [Int.natAbs_neg,Int.natAbs_natCast]
  have h1:=Nat.div_add_mod m d
  have h2:=Nat.mod_lt m hd
  have e1:((m:Int))=(d:Int)*((m / d:Nat):Int)+((m % d:Nat):Int):=by rw [<- Int.natCast_mul,<- Int.natCast_add,h1]
  by_cases hz:m % d=0
  ·rw [if_neg (by simp [hz])]
   refine ((Int.ediv_emod_unique (r:=0) (show (0:Int) < d by omega)).2 ⟨?_,by omega,by omega⟩).1
   rw [e1,hz]
   grind
  ·rw [if_pos ⟨hn,hz⟩]
   refine ((Int.ediv_emod_unique (r:=((d-m % d:Nat):Int)) (show (0:Int) < d by omega)).2 ⟨?_,by omega,by omega⟩).1
   have e2:((d-m % d:Nat):Int)=(d:Int)-((m % d:Nat):Int):=by omega
   rw [e2]
   have e3:((m / d+1:Nat):Int)=((m / d:Nat):Int)+1:=by omega
   rw [e3]
   grind
 ·rw [decide_eq_false hn,if_neg (by decide),if_neg (by simp [hn])]
  rw [Int.natCast_ediv]
  congr 1
  omega
theorem b6U (p:Rat) (hb:Rb 1073741824 (Nm.ofQ p)):FZ 152 [rq p] (rq (p.floor:Rat)):=by
 refine kW Tryz.func152 (by cbv) (by rfl) fun w O hw=>?_
 obtain ⟨h1,h2⟩:=hb
 simp only [Nm.ofQ] at h1 h2
 have o1:=b3C (Nm.enc p.num.natAbs) (Nm.enc p.den) (by omega) (by omega) (by rw [Nm.H8];exact p.den_nz)
 simp only [Nm.H8] at o1
 have hle:p.num.natAbs / p.den<=p.num.natAbs:=Nat.div_le_self _ _
 have hl1:=Nm.a2r hle
 have o0:=f_add (Nm.enc (p.num.natAbs / p.den)) [1] (by omega) (by decide)
 rw [Nm.H8,show Nm.val [1]=1 from rfl] at o0
 have hl2:=Nm.a1X (k:=1073741824) (show (Nm.enc (p.num.natAbs / p.den)).length<=1073741824 by omega) (show (Nm.enc 1).length<=1073741824 by rw [Nm.Q5];decide)
 have o2:=a2Y (decide (p.num < 0)) (p.num.natAbs / p.den) 1 (by decide) (by omega) (by rw [Nm.Q5];decide)
 have o3:=a2Y (decide (p.num < 0)) (p.num.natAbs / p.den+1) 1 (by decide) (by omega) (by rw [Nm.Q5];decide)
 rw [Rat.mkRat_one,Nm.Q5] at o2 o3
 have hf:=a9a p
 have hez:(Nm.enc (p.num.natAbs % p.den)=[])=(p.num.natAbs % p.den=0):=a2I _
 generalize p.floor=f at *
 by_cases hn:p.num < 0
 ·by_cases hz:p.num.natAbs % p.den=0
  ·rw [if_neg (by simp [hz])] at hf
   rw [<- hf] at o2
   have e0:decide (p.num < 0)=true:=decide_eq_true hn
   simp only [j5,TT,OA,OB,OC,MM,VV,FF,MG]
   simp only [rq,rc,sb,ints,Nm.ofQ,e0] at *
   (repeat first|refine uA ?_|(apply uK;focus first|omega|(intros;simp_all<;>omega))|simp (disch:=omega) only [go_sem,Nat.reduceBEq,Nat.reduceAdd,a0l,hz]|(apply uB o1;exact rfl))
   refine S.cond rfl (fun hc=>by first|exact absurd (a2I 0 ▸ rfl) hc|(simp [a2I] at hc)) (fun hc=>?_)
   (repeat first|refine uA ?_|(apply uK;focus first|omega|(intros;simp_all<;>omega))|simp (disch:=omega) only [go_sem,Nat.reduceBEq,Nat.reduceAdd]|(apply uD o2;exact tz hw;rfl))
   (refine S.done ?_;simp only [p8,r9,go_sem,Nat.reduceBEq,Nat.reduceAdd,Nat.reduceLeDiff];(repeat (refine ⟨?_,?_⟩;focus first|trivial|omega|simp));exact j3.out rfl (Imp.refl rfl) rfl)
  ·rw [if_pos ⟨hn,hz⟩] at hf
   rw [<- hf] at o3
   have e0:decide (p.num < 0)=true:=decide_eq_true hn
   have e1:decide (p.num.natAbs % p.den=0)=false:=decide_eq_false hz
   simp only [j5,TT,OA,OB,OC,MM,VV,FF,MG]
   simp only [rq,rc,sb,ints,Nm.ofQ,e0] at *
   (repeat first|refine uA ?_|(apply uK;focus first|omega|(intros;simp_all<;>omega))|simp (disch:=omega) only [go_sem,Nat.reduceBEq,Nat.reduceAdd,a0l,hez,e1]|(apply uB o1;exact rfl))
   refine S.cond rfl (fun hc=>?_) (fun hc=>by simp at hc)
   (repeat first|refine uA ?_|(apply uK;focus first|omega|(intros;simp_all<;>omega))|simp (disch:=omega) only [go_sem,Nat.reduceBEq,Nat.reduceAdd]|(apply uB o0;exact rfl)|(apply uD o3;exact tz hw;rfl))
   (refine S.done ?_;simp only [p8,r9,go_sem,Nat.reduceBEq,Nat.reduceAdd,Nat.reduceLeDiff];(repeat (refine ⟨?_,?_⟩;focus first|trivial|omega|simp));exact j3.out rfl (Imp.refl rfl) rfl)
 ·rw [if_neg (by simp [hn])] at hf
  rw [<- hf] at o2
  have e0:decide (p.num < 0)=false:=decide_eq_false hn
  simp only [j5,TT,OA,OB,OC,MM,VV,FF,MG]
  simp only [rq,rc,sb,ints,Nm.ofQ,e0] at *
  (repeat first|refine uA ?_|(apply uK;focus first|omega|(intros;simp_all<;>omega))|simp (disch:=omega) only [go_sem,Nat.reduceBEq,Nat.reduceAdd]|(apply uB o1;exact rfl))
  refine S.cond rfl (fun hc=>by simp at hc) (fun hc=>?_)
  (repeat first|refine uA ?_|(apply uK;focus first|omega|(intros;simp_all<;>omega))|simp (disch:=omega) only [go_sem,Nat.reduceBEq,Nat.reduceAdd]|(apply uD o2;exact tz hw;rfl))
  (refine S.done ?_;simp only [p8,r9,go_sem,Nat.reduceBEq,Nat.reduceAdd,Nat.reduceLeDiff];(repeat (refine ⟨?_,?_⟩;focus first|trivial|omega|simp));exact j3.out rfl (Imp.refl rfl) rfl)
def flI (p:Rat):Int:=if p.floor.natAbs < 9223372036854775808 then p.floor else 0
def flE (p:Rat):Int:=if p.floor.natAbs < 9223372036854775808 then 0 else 2
theorem a9A {k:Nat} {p:Rat} (h:Rb k (Nm.ofQ p)):Rb (k+1) (Nm.ofQ (p.floor:Rat)):=by
 have h0:=a4N h
 have h1:=h.1
 simp only [Nm.ofQ] at h1
 rw [a9a]
 have hle:(Nm.enc (p.num.natAbs / p.den)).length<=k:=c6X (Nm.a2r (Nat.div_le_self _ _)) h1
 have hk:(Nm.enc 1).length<=k:=by rw [Nm.Q5];exact h0
 refine ⟨?_,?_⟩
 ·show (Nm.enc (Rat.num _).natAbs).length<=_
  rw [Rat.num_intCast]
  have e:∀ b n,(Nm.sgn b n).natAbs=n:=fun b n=>by unfold Nm.sgn;split<;>omega
  rw [e]
  split
  ·exact Nm.a1X hle hk
  ·omega
 ·show (Nm.enc (Rat.den _)).length<=_
  rw [Rat.den_intCast]
  omega
theorem a9L (a:Nm.Rt) (hb:Rb 1073741824 a):FZ 111 [rc a] (.tup [ints (flI (Nm.d9 a)),ints (flE (Nm.d9 a))]):=by
 refine kW Tryz.func111 (by cbv) (by rfl) fun w O hw=>?_
 have o1:=V4 a (hb.mono (by decide))
 have hb2:=hb.fit (show 1<=1073741824 by decide)
 have o2:=b6U (Nm.d9 a) hb2
 have hfb:=(a9A hb2).1
 unfold flI flE
 generalize (Nm.d9 a).floor=f at *
 have e1:Nm.ofQ (f:Rat)=⟨decide (f < 0),Nm.enc f.natAbs,Nm.enc 1⟩:=by
  unfold Nm.ofQ
  rw [Rat.num_intCast,Rat.den_intCast]
 rw [e1] at hfb
 simp only at hfb
 have o3:=c4i f.natAbs (by omega)
 unfold rq at *
 rw [e1] at o2
 generalize Nm.ofQ (Nm.d9 a)=z at *
 have e2:(if f.natAbs < 9223372036854775808 then f else 0)=if f < 0 then IntKind.i64.wrap (0-((if f.natAbs < 9223372036854775808 then f.natAbs else 0:Nat):Int)) else ((if f.natAbs < 9223372036854775808 then f.natAbs else 0:Nat):Int):=by
  by_cases h:f.natAbs < 9223372036854775808
  ·rw [if_pos h,if_pos h]
   split
   ·rw [Eng.wrap_i64 (by omega)];omega
   ·omega
  ·rw [if_neg h,if_neg h]
   split
   ·rw [Eng.wrap_i64 (by omega)];rfl
   ·rfl
 have e3:(if f.natAbs < 9223372036854775808 then (0:Int) else 2)=((if f.natAbs < 9223372036854775808 then 0 else 2:Nat):Int):=by split<;>rfl
 rw [e2,e3]
 generalize (if f.natAbs < 9223372036854775808 then f.natAbs else 0)=m at *
 generalize (if f.natAbs < 9223372036854775808 then 0 else 2)=e at *
 simp only [j5,TT,II,OA,OB,MM,LL,VV,FF]
 simp only [rc,sb,ints] at *
 (repeat first|refine uA ?_|(apply uK;focus omega)|simp (disch:=omega) only [go_sem,Nat.reduceBEq]|(apply uB o3;exact rfl)|(apply uD o1;exact tz hw;rfl)|(apply uD o2;exact tz hw;rfl))
 refine S.cond rfl (fun hc=>?_) (fun hc=>?_)
 ·rw [if_pos (by simpa using hc)]
  (repeat first|refine uA ?_|(apply uK;focus omega)|simp (disch:=omega) only [go_sem,Nat.reduceBEq])
  (refine S.done ?_;simp only [p8,go_sem,Nat.reduceBEq,Nat.reduceAdd];exact j3.out rfl (Imp.tup (by (repeat' (first|exact j4.nil|exact Imp.refl rfl|exact Imp.frz rfl rfl rfl|exact Imp.F5|refine Imp.agg ?_|refine j4.cons ?_ ?_)))) rfl)
 ·rw [if_neg (by simpa using hc)]
  (repeat first|refine uA ?_|(apply uK;focus omega)|simp (disch:=omega) only [go_sem,Nat.reduceBEq])
  (refine S.done ?_;simp only [p8,go_sem,Nat.reduceBEq,Nat.reduceAdd];exact j3.out rfl (Imp.tup (by (repeat' (first|exact j4.nil|exact Imp.refl rfl|exact Imp.frz rfl rfl rfl|exact Imp.F5|refine Imp.agg ?_|refine j4.cons ?_ ?_)))) rfl)
theorem c3B (a:Nm.Rt) (h:0<=Nm.d9 a) (hb:Rb 1048576 a) (hf:(Nm.d9 a).floor < 9223372036854775808):FZ 111 [rc a] (.tup [ints (Nm.d9 a).floor,ints 0]):=by
 have h1:=a9L a (hb.mono (by decide))
 have h2:=a7H h
 unfold flI flE at h1
 rw [if_pos (by omega),if_pos (by omega)] at h1
 exact h1
theorem a7C {n:Int} (h:n.natAbs < 18446744073709551616):Rb 8 (Nm.ofQ (n:Rat)):=by
 refine ⟨Nm.F3 ?_,Nm.F3 ?_⟩
 ·rw [Rat.num_intCast,show (256:Nat) ^ 8=18446744073709551616 by decide];exact h
 ·rw [Rat.den_intCast];decide
theorem b1U {k:Nat} {p:Rat} (h:Rb k (Nm.ofQ p)):Rb k (Nm.ofQ (E5 p)):=by
 rcases a4c p with ⟨_,e⟩|⟨_,e⟩<;>rw [e]
 ·exact a1c h
 ·exact h
structure Few (l:Lk) (v:Nm.Rt):Prop where
 hb:Rb 3 l.brake
 hv:Rb 1024 v
 pos:0 < E9 (Nm.d9 l.brake)
 few:I5 (Nm.d9 l.brake) (Nm.d9 v)<=8
theorem b6X (l:Lk) (v:Nm.Rt) (h:Few l v):FZ 45 [l.c,rc v] (.tup [ints (I5 (Nm.d9 l.brake) (Nm.d9 v)),ints 0]):=by
 refine kW Tryz.func45 (by cbv) (by rfl) fun w O hw=>?_
 obtain ⟨hb,hv,h0,hle⟩:=h
 have hB:=b0m h0
 have hne:Nm.d9 l.brake ≠ 0:=by grind
 have ra:=b1U (hv.fit (by decide))
 have rd:=b0G hne ra (hb.fit (by decide))
 have o1:=a0j l.brake (hb.mono (by decide))
 have o2:=b8B v (hv.mono (by decide))
 have o3:=c0R (Nm.ofQ (E5 (Nm.d9 v))) l.brake (ra.mono (by decide)) (hb.mono (by decide))
 rw [Nm.p9] at o3
 unfold a3u a9X at o3
 rw [if_neg hne,if_neg hne] at o3
 have hq0:0<=E5 (Nm.d9 v) / Nm.d9 l.brake:=by
  rw [Rat.div_def]
  exact Rat.mul_nonneg (abs_nonneg _) (Rat.le_of_lt (Rat.inv_pos.2 hB))
 have hT:=(a6N (V:=Nm.d9 v) hB).1
 have hTd:I5 (Nm.d9 l.brake) (Nm.d9 v)=if ((E5 (Nm.d9 v) / Nm.d9 l.brake).floor:Rat) < E5 (Nm.d9 v) / Nm.d9 l.brake then (E5 (Nm.d9 v) / Nm.d9 l.brake).floor+1 else (E5 (Nm.d9 v) / Nm.d9 l.brake).floor:=rfl
 have hf0:=a7H hq0
 generalize E5 (Nm.d9 v) / Nm.d9 l.brake=q at *
 generalize I5 (Nm.d9 l.brake) (Nm.d9 v)=T at *
 have hf8:q.floor<=8:=by split at hTd<;>omega
 have o4:=c3B (Nm.ofQ q) (by rw [Nm.p9];exact hq0) (rd.mono (by decide)) (by rw [Nm.p9];omega)
 rw [Nm.p9] at o4
 have o5:=a1l q.floor (by omega) (by omega)
 have o6:=K8 (Nm.ofQ (q.floor:Rat)) (Nm.ofQ q) ((a7C (by omega)).mono (by decide)) (rd.mono (by decide))
 rw [Nm.p9,Nm.p9] at o6
 have hcn:=a3y (q.floor:Rat) q
 have hTd2:T=if Nm.q9 (q.floor:Rat) q < 0 then q.floor+1 else q.floor:=by
  rw [hTd]
  by_cases hc:(q.floor:Rat) < q
  ·rw [if_pos hc,if_pos (hcn.2 hc)]
  ·rw [if_neg hc,if_neg fun h=>hc (hcn.1 h)]
 clear hcn hTd
 generalize Nm.q9 (q.floor:Rat) q=cc at *
 generalize q.floor=F at *
 unfold rq at *
 generalize Nm.ofQ (E5 (Nm.d9 v))=z1 at *
 generalize Nm.ofQ q=z2 at *
 generalize Nm.ofQ (F:Rat)=z3 at *
 generalize E9 (Nm.d9 l.brake)=sg at *
 simp only [j5,TT,II,OA,OB,OC,MM,LL,FF,MG]
 simp only [Lk.c,Lk.enc,rc,vts,sb,ints] at *
 (repeat first|refine uA ?_|(apply uK;focus first|omega|(intros;simp_all<;>omega))|simp (disch:=omega) only [go_sem,Nat.reduceBEq,Nat.reduceAdd]|(apply uD o1;exact tz hw;rfl))
 refine S.cond rfl (fun hc=>by simp at hc;omega) (fun hc=>?_)
 (repeat first|refine uA ?_|(apply uK;focus first|omega|(intros;simp_all<;>omega))|simp (disch:=omega) only [go_sem,Nat.reduceBEq,Nat.reduceAdd]|(apply uD o2;exact tz hw;rfl)|(apply uD o3;exact tz hw;rfl)|(apply uD o4;exact tz hw;rfl))
 refine S.cond rfl (fun hc=>by simp at hc;omega) (fun hc=>?_)
 (repeat first|refine uA ?_|(apply uK;focus omega)|simp (disch:=omega) only [go_sem,Nat.reduceBEq]|(apply uD o5;exact tz hw;rfl)|(apply uD o6;exact tz hw;rfl))
 refine S.cond rfl (fun hc=>?_) (fun hc=>?_)
 ·rw [if_pos (by simpa using hc)] at hTd2
  subst hTd2
  (repeat first|refine uA ?_|(apply uK;focus omega)|simp (disch:=omega) only [go_sem,Nat.reduceBEq,ww])
  refine S.cond rfl (fun hc=>by simp at hc;omega) (fun hc=>?_)
  (repeat first|refine uA ?_|(apply uK;focus omega)|simp (disch:=omega) only [go_sem,Nat.reduceBEq])
  (refine S.done ?_;simp only [p8,go_sem,Nat.reduceBEq];exact j3.out rfl (Imp.tup (by (repeat' (first|exact j4.nil|exact Imp.refl rfl|exact Imp.frz rfl rfl rfl|exact Imp.F5|refine Imp.agg ?_|refine j4.cons ?_ ?_)))) rfl)
 ·rw [if_neg (by simpa using hc)] at hTd2
  subst hTd2
  (repeat first|refine uA ?_|(apply uK;focus omega)|simp (disch:=omega) only [go_sem,Nat.reduceBEq])
  refine S.cond rfl (fun hc=>by simp at hc;omega) (fun hc=>?_)
  (repeat first|refine uA ?_|(apply uK;focus omega)|simp (disch:=omega) only [go_sem,Nat.reduceBEq])
  (refine S.done ?_;simp only [p8,go_sem,Nat.reduceBEq];exact j3.out rfl (Imp.tup (by (repeat' (first|exact j4.nil|exact Imp.refl rfl|exact Imp.frz rfl rfl rfl|exact Imp.F5|refine Imp.agg ?_|refine j4.cons ?_ ?_)))) rfl)
def a0w (l:Lk) (v:Nm.Rt):Rat:=sgQ (Nm.d9 v)*a5i (Nm.d9 l.brake) (E5 (Nm.d9 v)) (I5 (Nm.d9 l.brake) (Nm.d9 v)).toNat
theorem b4y {l:Lk} {v:Nm.Rt} (h:Few l v):Rb 2048 (Nm.ofQ (a0w l v)):=by
 obtain ⟨hb,hv,h0,hle⟩:=h
 have hs:sgQ (Nm.d9 v)=1 \/ sgQ (Nm.d9 v)=-1:=by unfold sgQ;split<;>simp
 have ra:=b1U (hv.fit (by decide))
 have rb:=hb.fit (by decide)
 have hw:Rb 2048 (Nm.ofQ (a5i (Nm.d9 l.brake) (E5 (Nm.d9 v)) (I5 (Nm.d9 l.brake) (Nm.d9 v)).toNat)):=by
  have hn:(I5 (Nm.d9 l.brake) (Nm.d9 v)).toNat<=8:=by omega
  generalize (I5 (Nm.d9 l.brake) (Nm.d9 v)).toNat=n at *
  have hm:n*(n-1)<=8*8:=Nat.mul_le_mul hn (by omega)
  have i1:Rb 8 (Nm.ofQ ((n-1:Nat):Rat)):=a7C (n:=((n-1:Nat):Int)) (by omega)
  have i2:Rb 8 (Nm.ofQ ((n*(n-1) / 2:Nat):Rat)):=a7C (n:=((n*(n-1) / 2:Nat):Int)) (by omega)
  unfold a5i
  split
  ·exact V6.mono (by decide)
  ·exact (R4 (H7 i1 ra) (H7 rb i2)).mono (by decide)
 unfold a0w
 rcases hs with e|e<;>rw [e]
 ·rw [Rat.one_mul];exact hw
 ·rw [show (-1:Rat)*a5i (Nm.d9 l.brake) (E5 (Nm.d9 v)) (I5 (Nm.d9 l.brake) (Nm.d9 v)).toNat=-a5i (Nm.d9 l.brake) (E5 (Nm.d9 v)) (I5 (Nm.d9 l.brake) (Nm.d9 v)).toNat by grind]
  exact a1c hw
theorem c3t (v:Rat):E9 v < 0 <-> v < 0:=by
 have h:=a7O v
 rcases h with h|h|h<;>constructor<;>intro h2<;>first|omega|grind
theorem c5P (l:Lk) (v:Nm.Rt) (h:Few l v):FZ 108 [l.c,rc v] (.tup [rq (a0w l v),ints 0]):=by
 refine kW Tryz.func108 (by cbv) (by rfl) fun w O hw=>?_
 have o1:=b6X l v h
 obtain ⟨hb,hv,h0,hle⟩:=h
 have hT:=(a6N (V:=Nm.d9 v) (b0m h0)).1
 have ra:=b1U (hv.fit (by decide))
 have rb:=hb.fit (by decide)
 have o2:=a5F
 have o3:=b8B v (hv.mono (by decide))
 have o4:=a0j v (hv.mono (by decide))
 have hsn:=c3t (Nm.d9 v)
 unfold a0w sgQ a5i
 obtain ⟨n,hn⟩:∃ n:Nat,I5 (Nm.d9 l.brake) (Nm.d9 v)=n:=⟨(I5 (Nm.d9 l.brake) (Nm.d9 v)).toNat,by omega⟩
 rw [hn] at hle o1 ⊢
 rw [c7a]
 clear hn
 generalize E5 (Nm.d9 v)=V at *
 generalize hBq:Nm.d9 l.brake=B at *
 by_cases h2:n < 2
 ·rw [if_pos h2,show (if Nm.d9 v < 0 then (-1:Rat) else 1)*0=0 by grind]
  unfold rq at *
  generalize Nm.ofQ 0=z at *
  simp only [j5,TT,II,OA,OB,MM,LL,FF]
  simp only [Lk.c,Lk.enc,rc,vts,sb,ints] at *
  (repeat first|refine uA ?_|(apply uK;focus first|omega|(intros;simp_all<;>omega))|simp (disch:=omega) only [go_sem,Nat.reduceBEq,Nat.reduceAdd]|(apply uD o1;exact tz hw;rfl))
  refine S.cond rfl (fun hc=>by simp at hc) (fun hc=>?_)
  (repeat first|refine uA ?_|(apply uK;focus omega)|simp (disch:=omega) only [go_sem,Nat.reduceBEq])
  refine S.cond rfl (fun hc=>?_) (fun hc=>by simp at hc;omega)
  (repeat first|refine uA ?_|(apply uK;focus omega)|simp (disch:=omega) only [go_sem,Nat.reduceBEq]|(apply uD o2;exact tz hw;rfl))
  (refine S.done ?_;simp only [p8,r9,go_sem,Nat.reduceBEq,Nat.reduceAdd,Nat.reduceLeDiff];(repeat (refine ⟨?_,?_⟩;focus first|trivial|omega|simp));exact j3.out rfl (Imp.tup (by (repeat' (first|exact j4.nil|exact Imp.refl rfl|exact Imp.frz rfl rfl rfl|exact Imp.F5|refine Imp.agg ?_|refine j4.cons ?_ ?_)))) rfl)
 rw [if_neg h2]
 have hm:n*(n-1)<=8*8:=Nat.mul_le_mul (show n<=8 by omega) (by omega)
 have hm0:(n:Int)*((n:Int)-1)=((n*(n-1):Nat):Int):=by
  rw [Int.natCast_mul];congr 1;omega
 have e1:IntKind.i64.wrap ((n:Int)-1)=((n-1:Nat):Int):=by rw [Eng.wrap_i64 (by omega)];omega
 have e2:IntKind.i64.wrap ((n:Int)*((n-1:Nat):Int))=((n*(n-1):Nat):Int):=by
  rw [<- Int.natCast_mul];exact Eng.wrap_i64 (by omega)
 have e3:IntKind.i64.wrap (((n*(n-1):Nat):Int).tdiv 2)=((n*(n-1) / 2:Nat):Int):=by
  rw [show ((n*(n-1):Nat):Int).tdiv 2=((n*(n-1) / 2:Nat):Int) from rfl];exact Eng.wrap_i64 (by omega)
 have i1:Rb 8 (Nm.ofQ ((n-1:Nat):Rat)):=a7C (n:=((n-1:Nat):Int)) (by omega)
 have i2:Rb 8 (Nm.ofQ ((n*(n-1) / 2:Nat):Rat)):=a7C (n:=((n*(n-1) / 2:Nat):Int)) (by omega)
 have o5:=a1l ((n-1:Nat):Int) (by omega) (by omega)
 have o6:=a1l ((n*(n-1) / 2:Nat):Int) (by omega) (by omega)
 have o7:=a0V ((n-1:Nat):Rat) V (i1.mono (by decide)) (ra.mono (by decide))
 have o8:=b5v l.brake (Nm.ofQ ((n*(n-1) / 2:Nat):Rat)) (hb.mono (by decide)) (i2.mono (by decide))
 rw [Nm.p9,hBq] at o8
 have r1:=H7 i1 ra
 have r2:=H7 rb i2
 have o9:=a5M (((n-1:Nat):Rat)*V) (B*((n*(n-1) / 2:Nat):Rat)) (r1.mono (by decide)) (r2.mono (by decide))
 have r3:=R4 r1 r2
 have o10:=a5q (Nm.ofQ (((n-1:Nat):Rat)*V-B*((n*(n-1) / 2:Nat):Rat))) (r3.mono (by decide))
 rw [Nm.p9] at o10
 rw [show (((n-1:Nat):Int):Rat)=((n-1:Nat):Rat) from rfl] at o5
 rw [show (((n*(n-1) / 2:Nat):Int):Rat)=((n*(n-1) / 2:Nat):Rat) from rfl] at o6
 have key:(if Nm.d9 v < 0 then (-1:Rat) else 1)*(((n-1:Nat):Rat)*V-B*((n*(n-1) / 2:Nat):Rat))=if E9 (Nm.d9 v) < 0 then -(((n-1:Nat):Rat)*V-B*((n*(n-1) / 2:Nat):Rat)) else ((n-1:Nat):Rat)*V-B*((n*(n-1) / 2:Nat):Rat):=by
  by_cases hv0:Nm.d9 v < 0
  ·rw [if_pos hv0,if_pos (hsn.2 hv0)];grind
  ·rw [if_neg hv0,if_neg fun h=>hv0 (hsn.1 h)];grind
 rw [key]
 clear key hsn r1 r2 r3 i1 i2 ra rb hm hm0 hv hb h0 hBq
 generalize E9 (Nm.d9 v)=sg at *
 generalize ((n-1:Nat):Rat)*V=x1 at *
 generalize B*((n*(n-1) / 2:Nat):Rat)=x2 at *
 generalize x1-x2=x3 at *
 generalize -x3=x4 at *
 generalize hk1:n-1=k1 at *
 generalize n*k1 / 2=k2 at *
 unfold rq at *
 generalize Nm.ofQ V=y1 at *
 generalize Nm.ofQ (k1:Rat)=y2 at *
 generalize Nm.ofQ (k2:Rat)=y3 at *
 generalize Nm.ofQ x1=y4 at *
 generalize Nm.ofQ x2=y5 at *
 simp only [j5,TT,II,OA,OB,MM,LL,FF]
 simp only [Lk.c,Lk.enc,rc,vts,sb,ints] at *
 (repeat first|refine uA ?_|(apply uK;focus first|omega|(intros;simp_all<;>omega))|simp (disch:=omega) only [go_sem,Nat.reduceBEq,Nat.reduceAdd]|(apply uD o1;exact tz hw;rfl))
 refine S.cond rfl (fun hc=>by simp at hc) (fun hc=>?_)
 (repeat first|refine uA ?_|(apply uK;focus omega)|simp (disch:=omega) only [go_sem,Nat.reduceBEq])
 refine S.cond rfl (fun hc=>by simp at hc;omega) (fun hc=>?_)
 (repeat first|refine uA ?_|(apply uK;focus omega)|simp (disch:=omega) only [go_sem,Nat.reduceBEq,e1,e2,e3]|(apply uD o5;exact tz hw;rfl)|(apply uD o3;exact tz hw;rfl)|(apply uD o7;exact tz hw;rfl)|(apply uD o6;exact tz hw;rfl)|(apply uD o8;exact tz hw;rfl)|(apply uD o9;exact tz hw;rfl)|(apply uD o4;exact tz hw;rfl))
 refine S.cond rfl (fun hc=>?_) (fun hc=>?_)
 ·rw [if_pos (by simpa using hc)]
  generalize Nm.ofQ x3=y6 at *
  generalize Nm.ofQ x4=y7 at *
  (repeat first|refine uA ?_|(apply uK;focus omega)|simp (disch:=omega) only [go_sem,Nat.reduceBEq]|(apply uD o10;exact tz hw;rfl))
  (refine S.done ?_;simp only [p8,r9,go_sem,Nat.reduceBEq,Nat.reduceAdd,Nat.reduceLeDiff];(repeat (refine ⟨?_,?_⟩;focus first|trivial|omega|simp));exact j3.out rfl (Imp.tup (by (repeat' (first|exact j4.nil|exact Imp.refl rfl|exact Imp.frz rfl rfl rfl|exact Imp.F5|refine Imp.agg ?_|refine j4.cons ?_ ?_)))) rfl)
 ·rw [if_neg (by simpa using hc)]
  generalize Nm.ofQ x3=y6 at *
  (repeat first|refine uA ?_|(apply uK;focus omega)|simp (disch:=omega) only [go_sem,Nat.reduceBEq])
  (refine S.done ?_;simp only [p8,r9,go_sem,Nat.reduceBEq,Nat.reduceAdd,Nat.reduceLeDiff];(repeat (refine ⟨?_,?_⟩;focus first|trivial|omega|simp));exact j3.out rfl (Imp.tup (by (repeat' (first|exact j4.nil|exact Imp.refl rfl|exact Imp.frz rfl rfl rfl|exact Imp.F5|refine Imp.agg ?_|refine j4.cons ?_ ?_)))) rfl)
structure Sn where
 lo:Nm.Rt
 hi:Nm.Rt
def Sn.enc (s:Sn):List C:=[.v (.bool s.lo.neg),sb s.lo.num,sb s.lo.den,.v (.bool s.hi.neg),sb s.hi.num,sb s.hi.den]
def Sn.c (s:Sn):C:=.agg s.enc
def snQ (p q:Rat):Sn:=⟨Nm.ofQ p,Nm.ofQ q⟩
structure Sp where
 lo:Rat
 hi:Rat
def Sp.c (s:Sp):C:=(snQ s.lo s.hi).c
def Zb (k:Nat) (s:Sp):Prop:=Rb k (Nm.ofQ s.lo)/\Rb k (Nm.ofQ s.hi)
theorem Zb.mono {k m:Nat} {s:Sp} (h:Zb k s) (hk:k<=m):Zb m s:=⟨h.1.mono hk,h.2.mono hk⟩
def J4 (s:Sp):Sp:=if Nm.q9 s.lo s.hi<=0 then s else ⟨0,0⟩
theorem a9Z {k:Nat} (h:1<=k):Rb k (Nm.ofQ 0):=⟨by show (Nm.enc (Rat.num 0).natAbs).length<=k;rw [show (Rat.num 0).natAbs=0 from rfl,Nm.a0W];exact c6Z _,by show (Nm.enc (Rat.den 0)).length<=k;rw [show Rat.den 0=1 from rfl,Nm.Q5];exact h⟩
theorem K4 {k:Nat} {s:Sp} (h:Zb k s):Zb k (J4 s):=by
 unfold J4
 split
 ·exact h
 ·exact ⟨a9Z (a4N h.1),a9Z (a4N h.1)⟩
theorem b6z {p q:Rat} (h:p<=q):J4 ⟨p,q⟩=⟨p,q⟩:=by
 unfold J4
 rw [if_pos]
 have h1:=a3t p q
 have:¬ 0 < Nm.q9 p q:=fun h2=>by have:=h1.1 h2;grind
 simp only
 omega
theorem a0B (a:Nm.Rt) (h:Rb 1073741824 a):FZ 44 [rc a] (Sp.mk (Nm.d9 a) (Nm.d9 a)).c:=by
 refine kW Tryz.func44 (by cbv) (by rfl) fun w O hw=>?_
 have o1:=a4f a a (h.mono (by decide)) (h.mono (by decide))
 rw [show G7 (Nm.d9 a) (Nm.d9 a)=Nm.d9 a by unfold G7;split<;>rfl] at o1
 unfold Sp.c snQ
 unfold rq at *
 simp only
 generalize Nm.ofQ (Nm.d9 a)=z at *
 simp only [j5,TT,OA,OB,LL]
 simp only [Sn.c,Sn.enc,rc,sb] at *
 (repeat first|refine uA ?_|(refine uK ?_ ?_;focus first|omega|(intros;simp_all<;>omega))|simp (disch:=omega) only [go_sem,Nat.reduceBEq,Nat.reduceAdd]|(refine uD o1 ?_ ?_ ?_;exact tz hw;exact rfl))
 (refine S.done ?_;simp only [p8,r9,go_sem,Nat.reduceBEq,Nat.reduceAdd,Nat.reduceLeDiff];(repeat (refine ⟨?_,?_⟩;focus first|trivial|omega|simp));exact j3.out rfl (Imp.refl rfl) rfl)
theorem c1B (s:Sp) (h:Zb 1073741824 s):FZ 151 [s.c] (.v (.bool (decide (Nm.q9 s.lo s.hi<=0)))):=by
 refine kW Tryz.func151 (by cbv) (by rfl) fun w O hw=>?_
 obtain ⟨p,q⟩:=s
 obtain ⟨hp,hq⟩:=h
 simp only at hp hq
 have o1:=a1A (Nm.ofQ p) (hp.mono (by decide))
 have o2:=a1A (Nm.ofQ q) (hq.mono (by decide))
 rw [decide_eq_true (Nm.a0E _)] at o1 o2
 have o3:=K8 (Nm.ofQ p) (Nm.ofQ q) (hp.mono (by decide)) (hq.mono (by decide))
 rw [Nm.p9,Nm.p9] at o3
 unfold Sp.c snQ
 simp only
 generalize Nm.q9 p q=c at *
 generalize Nm.ofQ p=x at *
 generalize Nm.ofQ q=y at *
 simp only [j5,TT,II,OA,OC,MM,LL,FF,LG,FG]
 simp only [Sn.c,Sn.enc,rc,sb,ints] at *
 (repeat first|refine uA ?_|(refine uK ?_ ?_;focus first|omega|(intros;simp_all<;>omega))|simp (disch:=omega) only [go_sem,Nat.reduceBEq,Nat.reduceAdd]|(refine uD o1 ?_ ?_ ?_;exact tz hw;exact rfl)|(refine uD o2 ?_ ?_ ?_;exact tz hw;exact rfl)|(refine uD o3 ?_ ?_ ?_;exact tz hw;exact rfl))
 exact S.done (j3.out rfl (Imp.refl rfl) rfl)
theorem a0L (s:Sp) (h:Zb 1073741824 s):FZ 109 [s.c] (J4 s).c:=by
 refine kW Tryz.func109 (by cbv) (by rfl) fun w O hw=>?_
 have o1:=c1B s h
 have o2:=a5F
 have o3:=a0B (Nm.ofQ 0) (V6.mono (by decide))
 rw [Nm.p9] at o3
 obtain ⟨p,q⟩:=s
 unfold J4
 simp only at o1 ⊢
 generalize Nm.q9 p q=c at *
 unfold Sp.c snQ at *
 unfold rq at *
 simp only at o1 o3 ⊢
 by_cases hc:c<=0
 ·rw [if_pos hc]
  rw [decide_eq_true hc] at o1
  simp only
  generalize Nm.ofQ p=x at *
  generalize Nm.ofQ q=y at *
  simp only [j5,TT,II,OA,OB,LL]
  simp only [Sn.c,Sn.enc,sb] at o1 ⊢
  (repeat first|refine uA ?_|(refine uK ?_ ?_;focus first|omega|(intros;simp_all<;>omega))|simp (disch:=omega) only [go_sem,Nat.reduceBEq,Nat.reduceAdd]|(refine uD o1 ?_ ?_ ?_;exact tz hw;exact rfl))
  refine S.cond rfl (fun hc=>by simp at hc) (fun hc=>?_)
  (repeat first|refine uA ?_|(refine uK ?_ ?_;focus first|omega|(intros;simp_all<;>omega))|simp (disch:=omega) only [go_sem,Nat.reduceBEq,Nat.reduceAdd])
  (refine S.done ?_;simp only [p8,r9,go_sem,Nat.reduceBEq,Nat.reduceAdd,Nat.reduceLeDiff];(repeat (refine ⟨?_,?_⟩;focus first|trivial|omega|simp));exact j3.out rfl (Imp.refl rfl) rfl)
 ·rw [if_neg hc]
  rw [decide_eq_false hc] at o1
  simp only
  generalize Nm.ofQ 0=z at *
  generalize Nm.ofQ p=x at *
  generalize Nm.ofQ q=y at *
  simp only [j5,TT,II,OA,OB,LL]
  simp only [Sn.c,Sn.enc,rc,sb] at o1 o2 o3 ⊢
  (repeat first|refine uA ?_|(refine uK ?_ ?_;focus first|omega|(intros;simp_all<;>omega))|simp (disch:=omega) only [go_sem,Nat.reduceBEq,Nat.reduceAdd]|(refine uD o1 ?_ ?_ ?_;exact tz hw;exact rfl))
  refine S.cond rfl (fun hc=>?_) (fun hc=>by simp at hc)
  (repeat first|refine uA ?_|(refine uK ?_ ?_;focus first|omega|(intros;simp_all<;>omega))|simp (disch:=omega) only [go_sem,Nat.reduceBEq,Nat.reduceAdd]|(refine uD o2 ?_ ?_ ?_;exact tz hw;exact rfl)|(refine uD o3 ?_ ?_ ?_;exact tz hw;exact rfl))
  (refine S.done ?_;simp only [p8,r9,go_sem,Nat.reduceBEq,Nat.reduceAdd,Nat.reduceLeDiff];(repeat (refine ⟨?_,?_⟩;focus first|trivial|omega|simp));exact j3.out rfl (Imp.refl rfl) rfl)
def U8 (a b:Sp):Sp:=⟨G7 (J4 a).lo (J4 b).lo,G9 (J4 a).hi (J4 b).hi⟩
theorem a3p (a b:Sp) (ha:Zb 1073741824 a) (hb:Zb 1073741824 b):FZ 43 [a.c,b.c] (U8 a b).c:=by
 refine kW Tryz.func43 (by cbv) (by rfl) fun w O hw=>?_
 have o1:=a0L a ha
 have o2:=a0L b hb
 have fa:=K4 ha
 have fb:=K4 hb
 unfold U8
 generalize J4 a=a2 at *
 generalize J4 b=b2 at *
 obtain ⟨p,q⟩:=a2
 obtain ⟨r,s⟩:=b2
 have o3:=a4f (Nm.ofQ p) (Nm.ofQ r) (fa.1.mono (by decide)) (fb.1.mono (by decide))
 have o4:=a3Y (Nm.ofQ q) (Nm.ofQ s) (fa.2.mono (by decide)) (fb.2.mono (by decide))
 rw [Nm.p9,Nm.p9] at o3 o4
 obtain ⟨a1,a2⟩:=a
 obtain ⟨b1,b2⟩:=b
 unfold Sp.c snQ at *
 unfold rq at *
 simp only at o1 o2 o3 o4 ⊢
 generalize Nm.ofQ (G7 p r)=m1 at *
 generalize Nm.ofQ (G9 q s)=m2 at *
 generalize Nm.ofQ p=x at *
 generalize Nm.ofQ q=y at *
 generalize Nm.ofQ r=z at *
 generalize Nm.ofQ s=t at *
 generalize Nm.ofQ a1=n1 at *
 generalize Nm.ofQ a2=n2 at *
 generalize Nm.ofQ b1=n3 at *
 generalize Nm.ofQ b2=n4 at *
 simp only [j5,TT,OA,OB,LL,FF]
 simp only [Sn.c,Sn.enc,rc,sb] at o1 o2 o3 o4 ⊢
 (repeat first|refine uA ?_|(refine uK ?_ ?_;focus first|omega|(intros;simp_all<;>omega))|simp (disch:=omega) only [go_sem,Nat.reduceBEq,Nat.reduceAdd]|(refine uD o1 ?_ ?_ ?_;exact tz hw;exact rfl)|(refine uD o2 ?_ ?_ ?_;exact tz hw;exact rfl)|(refine uD o3 ?_ ?_ ?_;exact tz hw;exact rfl)|(refine uD o4 ?_ ?_ ?_;exact tz hw;exact rfl))
 (refine S.done ?_;simp only [p8,r9,go_sem,Nat.reduceBEq,Nat.reduceAdd,Nat.reduceLeDiff];(repeat (refine ⟨?_,?_⟩;focus first|trivial|omega|simp));exact j3.out rfl (Imp.refl rfl) rfl)
theorem b8T (p q r s:Rat) (h1:p<=q) (h2:r<=s) (hp:Rb 1048576 (Nm.ofQ p)) (hq:Rb 1048576 (Nm.ofQ q)) (hr:Rb 1048576 (Nm.ofQ r)) (hs:Rb 1048576 (Nm.ofQ s)):FZ 43 [(snQ p q).c,(snQ r s).c] (snQ (G7 p r) (G9 q s)).c:=by
 have h:=a3p ⟨p,q⟩ ⟨r,s⟩ ⟨hp.mono (by decide),hq.mono (by decide)⟩ ⟨hr.mono (by decide),hs.mono (by decide)⟩
 unfold U8 at h
 rw [b6z h1,b6z h2] at h
 exact h
def b3D (l:Lk) (t v:Nm.Rt):Sn:=snQ (G7 (Nm.d9 t) (Nm.d9 t+a0w l v)) (G9 (Nm.d9 t) (Nm.d9 t+a0w l v))
def a4T (L:List Lk) (t v:List Nm.Rt):List Sn:=(L.zip (t.zip v)).map fun z=>b3D z.1 z.2.1 z.2.2
theorem b2i {L:List Lk} {t v:List Nm.Rt} {i:Nat} {l:Lk} {x y:Nm.Rt} (h1:L[i]?=some l) (h2:t[i]?=some x) (h3:v[i]?=some y):(a4T L t v)[i]?=some (b3D l x y):=by
 unfold a4T
 rw [c7f,N7 h1 (N7 h2 h3)]
 rfl
theorem b3h {L:List Lk} {t v:List Nm.Rt} (h1:t.length=L.length) (h2:v.length=L.length):(a4T L t v).length=L.length:=by
 unfold a4T;simp only [c6U,List.length_zip];omega
theorem c2S {E:Ctx} (hP:E.P=Tryz.prog) (ht0:Tz E) (a:Am) (t v:List Nm.Rt) (hl:Ab 1073741824 a) (ha:J2 a=0) (hq:t.length=a.links.length) (hv:v.length=a.links.length) (htb:∀ r ∈ t,Rb 4096 r) (hf:∀ (i:Nat) (l:Lk) (x:Nm.Rt),a.links[i]?=some l->v[i]?=some x->Few l x) :
  j6 E [] 42 [a.c,rts t,rts v] (.tup [.rv 1,ints 0]) [.gone,.row 108 6 ((a4T a.links t v).map Sn.enc)] []:=by
 obtain ⟨P,eff',N,w0,own0,av0,nu0,pk0⟩:=E
 simp only at hP
 subst hP
 refine j6.ofT (eff:=eff) ht0 Tryz.func42 (by cbv) (by exact c7j rfl) fun w' own av ν hν ht=>?_
 have hν0:ν.length<=0:=by rw [hν];exact c7b _
 have hfit:=c3x a t v hl ha hq hv
 have hn:=hl.2.2.1
 have hsl:=b3h hq hv
 have hsg:=@b2i a.links t v
 have hz:=a5F
 generalize a4T a.links t v=SL at *
 obtain ⟨name,⟨bx,by',half,tu⟩,links⟩:=a
 simp only at hq hv hn hf hsl hsg ⊢
 simp only [j5,TT,II,OA,OB,MM,LL,VV,FF]
 simp only [Am.c,Am.enc,lks,rts,sb,ints] at hfit ⊢
 (repeat first|refine uA ?_|(refine uK ?_ ?_;focus first|omega|(intros;simp_all<;>omega))|simp (disch:=omega) only [go_sem,Nat.reduceBEq,Nat.reduceAdd]|(refine uD hfit ?_ ?_ ?_;exact ht;exact rfl))
 refine S.cond rfl (fun hc=>by simp at hc) (fun hc=>?_)
 (repeat first|refine uA ?_|(refine uK ?_ ?_;focus first|omega|(intros;simp_all<;>omega))|simp (disch:=omega) only [go_sem,Nat.reduceBEq,Nat.reduceAdd,c6U])
 refine S.loop (X:=Nat) (fun i=>⟨[(1,rts t),(2,rts v),(9,.rv 1),(24,lks links),(25,ints links.length),(26,ints i)],[.gone,.row 108 6 ((SL.take i).map Sn.enc)]⟩) (fun i=>i<=links.length) (fun i=>links.length-i) 0 (c6Z _)
  (Ent.trans (Ent.pack 9 108 6 rfl) (by (repeat first|refine uA ?_|(refine ⟨?_,?_⟩;focus first|rfl|simp [slot])|rfl|simp|exact c6X hν0 (by simp)))) ?_
 intro i hi
 simp only [lks,rts,ints]
 (repeat first|refine uA ?_|(refine uK ?_ ?_;focus first|omega|(intros;simp_all<;>omega))|simp (disch:=omega) only [go_sem,Nat.reduceBEq])
 (refine uJ rfl (fun hc=>?_) fun hc=>?_)
 ·have hi':i < links.length:=by omega
  have hgl:=c6T hi'
  have hgt:=c6T (show i < t.length by omega)
  have hgv:=c6T (show i < v.length by omega)
  generalize links[i]=l at *
  generalize t[i]'_=x at *
  generalize v[i]'_=y at *
  have hgs:=hsg hgl hgt hgv
  have hap:=take_at hgs
  have htl:(SL.take i).length=i:=by rw [c7d];omega
  have hF:=hf i l y hgl hgv
  have rx:=htb x (c6W hgt)
  have rw':=b4y hF
  have r0:=rx.fit (by decide)
  have o1:=c5P l y hF
  have o2:=a5c x (Nm.ofQ 0) (rx.mono (by decide)) (V6.mono (by decide))
  rw [Nm.p9,Rat.add_zero] at o2
  have o3:=a3L (Nm.d9 x) (a0w l y) (r0.mono (by decide)) (rw'.mono (by decide))
  have r1:=Q9 r0 rw'
  have o4:=a4f (Nm.ofQ (Nm.d9 x)) (Nm.ofQ (Nm.d9 x+a0w l y)) (r0.mono (by decide)) (r1.mono (by decide))
  have o5:=a3Y (Nm.ofQ (Nm.d9 x)) (Nm.ofQ (Nm.d9 x+a0w l y)) (r0.mono (by decide)) (r1.mono (by decide))
  rw [Nm.p9,Nm.p9] at o4 o5
  unfold b3D snQ at hap
  unfold rq at o1 o2 o3 o4 o5 hz
  generalize Nm.ofQ (G7 (Nm.d9 x) (Nm.d9 x+a0w l y))=m1 at *
  generalize Nm.ofQ (G9 (Nm.d9 x) (Nm.d9 x+a0w l y))=m2 at *
  generalize Nm.ofQ (Nm.d9 x+a0w l y)=z1 at *
  generalize Nm.ofQ (Nm.d9 x)=z2 at *
  generalize Nm.ofQ (a0w l y)=z3 at *
  generalize Nm.ofQ 0=z0 at *
  clear hsg hf htb hgs hF rx rw' r0 r1
  simp only [Lk.c,Lk.enc,vts,rc,sb,ints] at o1 o2 o3 o4 o5 hz
  (repeat first|refine uA ?_|(refine uK ?_ ?_;focus first|omega|(intros;simp_all<;>omega))|simp (disch:=omega) only [go_sem,Nat.reduceBEq,Nat.reduceAdd,hgl,hgv,c6V,c6U,Lk.enc,rcs,vts,sb,c7a]|(refine uD o1 ?_ ?_ ?_;exact ht;exact rfl))
  refine S.cond rfl (fun hc=>by simp at hc) (fun hc=>?_)
  (repeat first|refine uA ?_|(refine uK ?_ ?_;focus first|omega|(intros;simp_all<;>omega))|simp (disch:=omega) only [go_sem,Nat.reduceBEq,Nat.reduceAdd,ww,hgt,c6V,c6U,htl,rcs,sb,c7a]|(refine uD hz ?_ ?_ ?_;exact ht;exact rfl)|(refine uD o2 ?_ ?_ ?_;exact ht;exact rfl)|(refine uD o3 ?_ ?_ ?_;exact ht;exact rfl)|(refine uD o4 ?_ ?_ ?_;exact ht;exact rfl)|(refine uD o5 ?_ ?_ ?_;exact ht;exact rfl))
  refine S.next (i+1) (by omega) (by omega) (by simp only [hap,c7G,c7i,c7q,Sn.enc,sb];exact (by (repeat first|refine uA ?_|(refine ⟨?_,?_⟩;focus first|rfl|simp [slot])|rfl|simp|exact c6X hν0 (by simp))))
 ·have hi':i=links.length:=by omega
  subst hi'
  rw [c7o (by omega)]
  (repeat first|refine uA ?_|(refine uK ?_ ?_;focus first|omega|(intros;simp_all<;>omega))|simp (disch:=omega) only [go_sem,Nat.reduceBEq])
  (refine S.done ?_;simp only [p8,go_sem,Nat.reduceBEq];(repeat (refine ⟨?_,?_⟩;focus first|trivial|omega|simp));exact j3.K5 (Imp.tup (by (repeat' (first|exact j4.nil|exact Imp.refl rfl|exact Imp.frz rfl rfl rfl|exact Imp.F5|refine Imp.agg ?_|refine j4.cons ?_ ?_)))) (by (repeat first|refine uA ?_|(refine ⟨?_,?_⟩;focus first|rfl|simp [slot])|rfl|simp)) (c6X hν0 (by simp)))
def Y1 (a b:Sp):Sp:=⟨(J4 a).lo+(J4 b).lo,(J4 a).hi+(J4 b).hi⟩
theorem a2D {k m:Nat} {a b:Sp} (ha:Zb k a) (hb:Zb m b):Zb (k+m+1) (Y1 a b):=⟨Q9 (K4 ha).1 (K4 hb).1,Q9 (K4 ha).2 (K4 hb).2⟩
theorem a4I (a b:Sp) (ha:Zb 1073741824 a) (hb:Zb 1073741824 b):FZ 162 [a.c,b.c] (Y1 a b).c:=by
 refine kW Tryz.func162 (by cbv) (by rfl) fun w O hw=>?_
 have o1:=a0L a ha
 have o2:=a0L b hb
 have fa:=K4 ha
 have fb:=K4 hb
 unfold Y1
 generalize J4 a=a2 at *
 generalize J4 b=b2 at *
 obtain ⟨p,q⟩:=a2
 obtain ⟨r,s⟩:=b2
 have o3:=a3L p r (fa.1.mono (by decide)) (fb.1.mono (by decide))
 have o4:=a3L q s (fa.2.mono (by decide)) (fb.2.mono (by decide))
 obtain ⟨a1,a2⟩:=a
 obtain ⟨b1,b2⟩:=b
 unfold Sp.c snQ at *
 unfold rq at *
 simp only at o1 o2 o3 o4 ⊢
 generalize Nm.ofQ (p+r)=m1 at *
 generalize Nm.ofQ (q+s)=m2 at *
 generalize Nm.ofQ p=x at *
 generalize Nm.ofQ q=y at *
 generalize Nm.ofQ r=z at *
 generalize Nm.ofQ s=t at *
 generalize Nm.ofQ a1=n1 at *
 generalize Nm.ofQ a2=n2 at *
 generalize Nm.ofQ b1=n3 at *
 generalize Nm.ofQ b2=n4 at *
 simp only [j5,TT,OA,OB,LL,FF]
 simp only [Sn.c,Sn.enc,rc,sb] at o1 o2 o3 o4 ⊢
 (repeat first|refine uA ?_|(apply uK;focus first|omega|(intros;simp_all<;>omega))|simp (disch:=omega) only [go_sem,Nat.reduceBEq,Nat.reduceAdd]|(apply uD o1;exact tz hw;rfl)|(apply uD o2;exact tz hw;rfl)|(apply uD o3;exact tz hw;rfl)|(apply uD o4;exact tz hw;rfl))
 (refine S.done ?_;simp only [p8,r9,go_sem,Nat.reduceBEq,Nat.reduceAdd,Nat.reduceLeDiff];(repeat (refine ⟨?_,?_⟩;focus first|trivial|omega|simp));exact j3.out rfl (Imp.refl rfl) rfl)
def a3O (a b:Sp):Sp:=⟨(J4 a).lo-(J4 b).hi,(J4 a).hi-(J4 b).lo⟩
theorem a8D {k m:Nat} {a b:Sp} (ha:Zb k a) (hb:Zb m b):Zb (k+m+1) (a3O a b):=⟨R4 (K4 ha).1 (K4 hb).2,R4 (K4 ha).2 (K4 hb).1⟩
theorem b6H (a b:Sp) (ha:Zb 1073741824 a) (hb:Zb 1073741824 b):FZ 160 [a.c,b.c] (a3O a b).c:=by
 refine kW Tryz.func160 (by cbv) (by rfl) fun w O hw=>?_
 have o1:=a0L a ha
 have o2:=a0L b hb
 have fa:=K4 ha
 have fb:=K4 hb
 unfold a3O
 generalize J4 a=a2 at *
 generalize J4 b=b2 at *
 obtain ⟨p,q⟩:=a2
 obtain ⟨r,s⟩:=b2
 have o3:=a5M p s (fa.1.mono (by decide)) (fb.2.mono (by decide))
 have o4:=a5M q r (fa.2.mono (by decide)) (fb.1.mono (by decide))
 obtain ⟨a1,a2⟩:=a
 obtain ⟨b1,b2⟩:=b
 unfold Sp.c snQ at *
 unfold rq at *
 simp only at o1 o2 o3 o4 ⊢
 generalize Nm.ofQ (p-s)=m1 at *
 generalize Nm.ofQ (q-r)=m2 at *
 generalize Nm.ofQ p=x at *
 generalize Nm.ofQ q=y at *
 generalize Nm.ofQ r=z at *
 generalize Nm.ofQ s=t at *
 generalize Nm.ofQ a1=n1 at *
 generalize Nm.ofQ a2=n2 at *
 generalize Nm.ofQ b1=n3 at *
 generalize Nm.ofQ b2=n4 at *
 simp only [j5,TT,OA,OB,LL,FF]
 simp only [Sn.c,Sn.enc,rc,sb] at o1 o2 o3 o4 ⊢
 (repeat first|refine uA ?_|(apply uK;focus first|omega|(intros;simp_all<;>omega))|simp (disch:=omega) only [go_sem,Nat.reduceBEq,Nat.reduceAdd]|(apply uD o1;exact tz hw;rfl)|(apply uD o2;exact tz hw;rfl)|(apply uD o3;exact tz hw;rfl)|(apply uD o4;exact tz hw;rfl))
 (refine S.done ?_;simp only [p8,r9,go_sem,Nat.reduceBEq,Nat.reduceAdd,Nat.reduceLeDiff];(repeat (refine ⟨?_,?_⟩;focus first|trivial|omega|simp));exact j3.out rfl (Imp.refl rfl) rfl)
theorem a9v {k:Nat} {p q:Rat} (hp:Rb k (Nm.ofQ p)) (hq:Rb k (Nm.ofQ q)):Rb k (Nm.ofQ (G7 p q)):=by unfold G7;split;exact hp;exact hq
theorem a2p {k:Nat} {p q:Rat} (hp:Rb k (Nm.ofQ p)) (hq:Rb k (Nm.ofQ q)):Rb k (Nm.ofQ (G9 p q)):=by unfold G9;split;exact hp;exact hq
def arF (q:Rat) (l:List Rat):Sp:=l.foldl (fun s a=>⟨G7 s.lo a,G9 s.hi a⟩) ⟨q,q⟩
theorem b8J {k:Nat}:∀ (l:List Rat) (s:Sp),Zb k s->(∀ a ∈ l,Rb k (Nm.ofQ a))->Zb k (l.foldl (fun s a=>⟨G7 s.lo a,G9 s.hi a⟩) s)
 | [],s,h,_=>h
 | a::l,s,h,hl=>b8J l _ ⟨a9v h.1 (hl a (by simp)),a2p h.2 (hl a (by simp))⟩ fun b hb=>hl b (by simp [hb])
def arI (q:Rat) (l:List Rat) (i:Nat):Sp:=arF q (l.take i)
theorem c6i {k:Nat} {q:Rat} {l:List Rat} (hq:Rb k (Nm.ofQ q)) (hl:∀ a ∈ l,Rb k (Nm.ofQ a)) (i:Nat):Zb k (arI q l i):=b8J _ _ ⟨hq,hq⟩ fun a ha=>hl a (List.mem_of_mem_take ha)
theorem c1J {q:Rat} {l:List Rat} {i:Nat} {a:Rat} (h:l[i]?=some a):arI q l (i+1)=⟨G7 (arI q l i).lo a,G9 (arI q l i).hi a⟩:=by
 unfold arI arF
 rw [take_at h,List.foldl_append]
 rfl
theorem b4I (q:Rat) (l:List Rat) (hq:Rb 1073741824 (Nm.ofQ q)) (hl:∀ a ∈ l,Rb 1073741824 (Nm.ofQ a)) (hn:l.length<=1000):FZ 184 [.sl 3 (rcs (Nm.ofQ q)::l.map fun a=>rcs (Nm.ofQ a))] (arF q l).c:=by
 refine kW Tryz.func184 (by cbv) (by rfl) fun w O hw=>?_
 have o1:=a0B (Nm.ofQ q) hq
 rw [Nm.p9] at o1
 have hE:arI q l l.length=arF q l:=by unfold arI;rw [c7l]
 have hB:=c6i hq hl
 have hS:=@c1J q l
 have h0:arI q l 0=⟨q,q⟩:=rfl
 rw [<- hE]
 clear hE
 generalize arI q l=F at *
 simp only [j5,TT,II,OA,OB,MM,LL,FF]
 simp only [Sp.c,snQ,Sn.c,Sn.enc,rc,rcs,sb] at o1 ⊢
 (repeat first|refine uA ?_|(apply uK;focus omega)|simp (disch:=omega) only [go_sem,Nat.reduceBEq,c7m,c6U,List.getElem?_cons_zero,Int.toNat_zero,Nat.add_sub_cancel,c7l]|(apply uD o1;exact tz hw;rfl))
 refine S.loop (X:=Nat) (fun i=>⟨[(2,.bp 0 0),(3,.bp 1 0),(11,.sl 3 (l.map fun a=>rcs (Nm.ofQ a))),(12,ints l.length),(13,ints i)],[.box 108 [.v (.bool false),sb [],sb [],.v (.bool false),sb [],sb []],.box 108 (snQ (F i).lo (F i).hi).enc]⟩) (fun i=>i<=l.length) (fun i=>l.length-i) 0 (c6Z _) (by rw [h0];exact (by (repeat first|refine uA ?_|(refine ⟨?_,?_⟩;focus first|rfl|simp [slot])|rfl|simp))) ?_
 intro i hi
 simp only [rcs,sb,ints,snQ,Sn.enc]
 (repeat first|refine uA ?_|(apply uK;focus omega)|simp (disch:=omega) only [go_sem,Nat.reduceBEq])
 (refine uJ rfl (fun hc=>?_) fun hc=>?_)
 ·have hi':i < l.length:=by omega
  have hg:=c6T hi'
  generalize l[i]=a at *
  have hs:=hS hg
  have ra:=hl a (c6W hg)
  have rF:=hB i
  have o2:=a4f (Nm.ofQ (F i).lo) (Nm.ofQ a) (rF.1.mono (by decide)) (ra.mono (by decide))
  have o3:=a3Y (Nm.ofQ (F i).hi) (Nm.ofQ a) (rF.2.mono (by decide)) (ra.mono (by decide))
  rw [Nm.p9,Nm.p9] at o2 o3
  clear hB hS h0 o1 rF ra
  unfold rq at o2 o3
  simp only [rc,sb] at o2 o3
  (repeat first|refine uA ?_|(apply uK;focus first|omega|(intros;simp_all<;>omega))|simp (disch:=omega) only [go_sem,Nat.reduceBEq,Nat.reduceAdd,ww,hg,c6V,c6U,c7a]|(apply uD o2;exact tz hw;rfl)|(apply uD o3;exact tz hw;rfl))
  refine S.next (i+1) (by omega) (by omega) (by rw [hs];exact (by (repeat first|refine uA ?_|(refine ⟨?_,?_⟩;focus first|rfl|simp [slot])|rfl|simp)))
 ·have hi':i=l.length:=by omega
  subst hi'
  (repeat first|refine uA ?_|(apply uK;focus omega)|simp (disch:=omega) only [go_sem,Nat.reduceBEq])
  (refine S.done ?_;simp only [p8,r9,go_sem,Nat.reduceBEq,Nat.reduceAdd,Nat.reduceLeDiff];(repeat (refine ⟨?_,?_⟩;focus first|trivial|omega|simp));exact j3.out rfl (Imp.refl rfl) rfl)
def J6 (a b:Sp):Sp:=arF ((J4 a).lo*(J4 b).lo) [(J4 a).lo*(J4 b).hi,(J4 a).hi*(J4 b).lo,(J4 a).hi*(J4 b).hi]
theorem O4 {k m:Nat} {a b:Sp} (ha:Zb k a) (hb:Zb m b):Zb (k+m) (J6 a b):=by
 have fa:=K4 ha
 have fb:=K4 hb
 refine b8J _ _ ⟨H7 fa.1 fb.1,H7 fa.1 fb.1⟩ fun x hx=>?_
 simp only [List.mem_cons,List.not_mem_nil,or_false] at hx
 rcases hx with rfl|rfl|rfl
 ·exact H7 fa.1 fb.2
 ·exact H7 fa.2 fb.1
 ·exact H7 fa.2 fb.2
theorem a1d (a b:Sp) (ha:Zb 268435456 a) (hb:Zb 268435456 b):FZ 161 [a.c,b.c] (J6 a b).c:=by
 refine kW Tryz.func161 (by cbv) (by rfl) fun w O hw=>?_
 have o1:=a0L a (ha.mono (by decide))
 have o2:=a0L b (hb.mono (by decide))
 have fa:=K4 ha
 have fb:=K4 hb
 unfold J6
 generalize J4 a=a2 at *
 generalize J4 b=b2 at *
 obtain ⟨p,q⟩:=a2
 obtain ⟨r,s⟩:=b2
 try simp only at fa fb
 have o3:=a0V p r (fa.1.mono (by decide)) (fb.1.mono (by decide))
 have o4:=a0V p s (fa.1.mono (by decide)) (fb.2.mono (by decide))
 have o5:=a0V q r (fa.2.mono (by decide)) (fb.1.mono (by decide))
 have o6:=a0V q s (fa.2.mono (by decide)) (fb.2.mono (by decide))
 have o7:=b4I (p*r) [p*s,q*r,q*s] ((H7 fa.1 fb.1).mono (by decide)) (fun x hx=>by
  simp only [List.mem_cons,List.not_mem_nil,or_false] at hx
  rcases hx with rfl|rfl|rfl
  ·exact (H7 fa.1 fb.2).mono (by decide)
  ·exact (H7 fa.2 fb.1).mono (by decide)
  ·exact (H7 fa.2 fb.2).mono (by decide)) (by simp)
 simp only
 generalize arF (p*r) [p*s,q*r,q*s]=R at *
 obtain ⟨a1,a2⟩:=a
 obtain ⟨b1,b2⟩:=b
 obtain ⟨r1,r2⟩:=R
 unfold Sp.c snQ at *
 unfold rq at *
 simp only [c7i,c7q] at o1 o2 o7 ⊢
 generalize Nm.ofQ (p*r)=m1 at *
 generalize Nm.ofQ (p*s)=m2 at *
 generalize Nm.ofQ (q*r)=m3 at *
 generalize Nm.ofQ (q*s)=m4 at *
 generalize Nm.ofQ p=x at *
 generalize Nm.ofQ q=y at *
 generalize Nm.ofQ r=z at *
 generalize Nm.ofQ s=t at *
 generalize Nm.ofQ a1=n1 at *
 generalize Nm.ofQ a2=n2 at *
 generalize Nm.ofQ b1=n3 at *
 generalize Nm.ofQ b2=n4 at *
 generalize Nm.ofQ r1=n5 at *
 generalize Nm.ofQ r2=n6 at *
 simp only [j5,TT,OA,OB,LL,FF]
 simp only [Sn.c,Sn.enc,rc,rcs,sb] at o1 o2 o3 o4 o5 o6 o7 ⊢
 (repeat first|refine uA ?_|(apply uK;focus first|omega|(intros;simp_all<;>omega))|simp (disch:=omega) only [go_sem,Nat.reduceBEq,Nat.reduceAdd]|(apply uD o1;exact tz hw;rfl)|(apply uD o2;exact tz hw;rfl)|(apply uD o3;exact tz hw;rfl)|(apply uD o4;exact tz hw;rfl)|(apply uD o5;exact tz hw;rfl)|(apply uD o6;exact tz hw;rfl)|(apply uE o7;exact tz hw;exact rfl;focus (repeat' first|exact j4.nil|exact Imp.refl rfl|exact Imp.frz rfl rfl rfl|(refine Imp.U3 rfl rfl ?_ ?_;(focus ((try simp only [c7e]);omega));(focus first|rfl|assumption))|refine j4.cons ?_ ?_);done))
 (refine S.done ?_;simp only [p8,r9,go_sem,Nat.reduceBEq,Nat.reduceAdd,Nat.reduceLeDiff];(repeat (refine ⟨?_,?_⟩;focus first|trivial|omega|simp));exact j3.out rfl (Imp.refl rfl) rfl)
def a5s (s:Sp) (a:Rat):Bool:=decide (Nm.q9 (J4 s).lo a<=0) && decide (Nm.q9 a (J4 s).hi<=0)
theorem b6A (s:Sp) (a:Nm.Rt) (hs:Zb 1073741824 s) (ha:Rb 1073741824 a):FZ 181 [s.c,rc a] (.v (.bool (a5s s (Nm.d9 a)))):=by
 refine kW Tryz.func181 (by cbv) (by rfl) fun w O hw=>?_
 have o1:=a0L s hs
 have fs:=K4 hs
 unfold a5s
 generalize J4 s=s2 at *
 obtain ⟨p,q⟩:=s2
 try simp only at fs
 have o2:=K8 (Nm.ofQ p) a (fs.1.mono (by decide)) (ha.mono (by decide))
 have o3:=K8 a (Nm.ofQ q) (ha.mono (by decide)) (fs.2.mono (by decide))
 rw [Nm.p9] at o2 o3
 obtain ⟨s1,s2⟩:=s
 unfold Sp.c snQ at *
 simp only at o1 ⊢
 generalize Nm.q9 p (Nm.d9 a)=c1 at *
 generalize Nm.q9 (Nm.d9 a) q=c2 at *
 generalize Nm.ofQ p=x at *
 generalize Nm.ofQ q=y at *
 generalize Nm.ofQ s1=n1 at *
 generalize Nm.ofQ s2=n2 at *
 simp only [j5,TT,II,OA,OB,OC,MM,LL,FF,LG,FG]
 simp only [Sn.c,Sn.enc,rc,sb,ints] at o1 o2 o3 ⊢
 (repeat first|refine uA ?_|(apply uK;focus first|omega|(intros;simp_all<;>omega))|simp (disch:=omega) only [go_sem,Nat.reduceBEq,Nat.reduceAdd]|(apply uD o1;exact tz hw;rfl)|(apply uD o2;exact tz hw;rfl)|(apply uD o3;exact tz hw;rfl))
 exact S.done (j3.out rfl (Imp.refl rfl) rfl)
def sqI (s:Sp):Sp:=arF ((J4 s).lo*(J4 s).lo) [(J4 s).hi*(J4 s).hi]
def a5S (s:Sp):Sp:=if a5s (J4 s) 0=true then ⟨0,(sqI s).hi⟩ else sqI s
theorem c2x {k:Nat} {s:Sp} (h:Zb k s):Zb (k+k) (sqI s):=by
 have fa:=K4 h
 refine b8J _ _ ⟨H7 fa.1 fa.1,H7 fa.1 fa.1⟩ fun x hx=>?_
 rw [List.mem_singleton] at hx
 subst hx
 exact H7 fa.2 fa.2
theorem b5r {k:Nat} {s:Sp} (h:Zb k s):Zb (k+k) (a5S s):=by
 have:=c2x h
 unfold a5S
 split
 ·exact ⟨a9Z (a4N this.1),this.2⟩
 ·exact this
theorem c4F (s:Sp) (hs:Zb 268435456 s):FZ 179 [s.c] (a5S s).c:=by
 refine kW Tryz.func179 (by cbv) (by rfl) fun w O hw=>?_
 have o1:=a0L s (hs.mono (by decide))
 have fs:=K4 hs
 have hsq:=c2x hs
 have o4:=a5F
 have o5:=b6A (J4 s) (Nm.ofQ 0) (fs.mono (by decide)) (V6.mono (by decide))
 rw [Nm.p9] at o5
 unfold a5S
 unfold sqI at *
 generalize hfs:J4 s=s2 at *
 obtain ⟨p,q⟩:=s2
 try simp only at fs hsq ⊢
 have o2:=a0V p p (fs.1.mono (by decide)) (fs.1.mono (by decide))
 have o3:=a0V q q (fs.2.mono (by decide)) (fs.2.mono (by decide))
 have o7:=b4I (p*p) [q*q] ((H7 fs.1 fs.1).mono (by decide)) (fun x hx=>by
  rw [List.mem_singleton] at hx
  subst hx
  exact (H7 fs.2 fs.2).mono (by decide)) (by simp)
 generalize arF (p*p) [q*q]=R at *
 generalize a5s ⟨p,q⟩ 0=b at *
 obtain ⟨s1,s2⟩:=s
 obtain ⟨r1,r2⟩:=R
 unfold Sp.c snQ at *
 unfold rq at *
 simp only [c7i,c7q] at o1 o5 o7 ⊢
 generalize Nm.ofQ (p*p)=m1 at *
 generalize Nm.ofQ (q*q)=m2 at *
 have hz:∀ b:Bool,(if b=true then (⟨0,r2⟩:Sp) else ⟨r1,r2⟩)=⟨if b=true then 0 else r1,r2⟩:=fun b=>by cases b<;>rfl
 rw [hz]
 simp only
 cases b
 ·simp only [c7C,if_false]
  generalize Nm.ofQ 0=z0 at *
  generalize Nm.ofQ p=x at *
  generalize Nm.ofQ q=y at *
  generalize Nm.ofQ s1=n1 at *
  generalize Nm.ofQ s2=n2 at *
  generalize Nm.ofQ r1=n5 at *
  generalize Nm.ofQ r2=n6 at *
  simp only [j5,TT,II,OA,OB,LL,FF]
  simp only [Sn.c,Sn.enc,rc,rcs,sb] at o1 o2 o3 o4 o5 o7 ⊢
  (repeat first|refine uA ?_|(refine uK ?_ ?_;focus first|omega|(intros;simp_all<;>omega))|simp (disch:=omega) only [go_sem,Nat.reduceBEq,Nat.reduceAdd]|(refine uD o1 ?_ ?_ ?_;exact tz hw;exact rfl)|(refine uD o2 ?_ ?_ ?_;exact tz hw;exact rfl)|(refine uD o3 ?_ ?_ ?_;exact tz hw;exact rfl)|(refine uD o4 ?_ ?_ ?_;exact tz hw;exact rfl)|(refine uD o5 ?_ ?_ ?_;exact tz hw;exact rfl)|(refine uE o7 ?_ ?_ ?_ ?_;exact tz hw;exact rfl;focus (repeat' first|exact j4.nil|exact Imp.refl rfl|exact Imp.frz rfl rfl rfl|(refine Imp.U3 rfl rfl ?_ ?_;(focus ((try simp only [c7e]);omega));(focus first|rfl|assumption))|refine j4.cons ?_ ?_);done))
  refine S.cond rfl (fun hc=>by simp at hc) (fun hc=>?_)
  (repeat first|refine uA ?_|(refine uK ?_ ?_;focus first|omega|(intros;simp_all<;>omega))|simp (disch:=omega) only [go_sem,Nat.reduceBEq,Nat.reduceAdd])
  (refine S.done ?_;simp only [p8,r9,go_sem,Nat.reduceBEq,Nat.reduceAdd,Nat.reduceLeDiff];(repeat (refine ⟨?_,?_⟩;focus first|trivial|omega|simp));exact j3.out rfl (Imp.refl rfl) rfl)
 ·simp only [if_true]
  generalize Nm.ofQ 0=z0 at *
  generalize Nm.ofQ p=x at *
  generalize Nm.ofQ q=y at *
  generalize Nm.ofQ s1=n1 at *
  generalize Nm.ofQ s2=n2 at *
  generalize Nm.ofQ r1=n5 at *
  generalize Nm.ofQ r2=n6 at *
  simp only [j5,TT,II,OA,OB,LL,FF]
  simp only [Sn.c,Sn.enc,rc,rcs,sb] at o1 o2 o3 o4 o5 o7 ⊢
  (repeat first|refine uA ?_|(refine uK ?_ ?_;focus first|omega|(intros;simp_all<;>omega))|simp (disch:=omega) only [go_sem,Nat.reduceBEq,Nat.reduceAdd]|(refine uD o1 ?_ ?_ ?_;exact tz hw;exact rfl)|(refine uD o2 ?_ ?_ ?_;exact tz hw;exact rfl)|(refine uD o3 ?_ ?_ ?_;exact tz hw;exact rfl)|(refine uD o4 ?_ ?_ ?_;exact tz hw;exact rfl)|(refine uD o5 ?_ ?_ ?_;exact tz hw;exact rfl)|(refine uE o7 ?_ ?_ ?_ ?_;exact tz hw;exact rfl;focus (repeat' first|exact j4.nil|exact Imp.refl rfl|exact Imp.frz rfl rfl rfl|(refine Imp.U3 rfl rfl ?_ ?_;(focus ((try simp only [c7e]);omega));(focus first|rfl|assumption))|refine j4.cons ?_ ?_);done))
  refine S.cond rfl (fun hc=>?_) (fun hc=>by simp at hc)
  (repeat first|refine uA ?_|(refine uK ?_ ?_;focus first|omega|(intros;simp_all<;>omega))|simp (disch:=omega) only [go_sem,Nat.reduceBEq,Nat.reduceAdd]|(refine uD o4 ?_ ?_ ?_;exact tz hw;exact rfl))
  (refine S.done ?_;simp only [p8,r9,go_sem,Nat.reduceBEq,Nat.reduceAdd,Nat.reduceLeDiff];(repeat (refine ⟨?_,?_⟩;focus first|trivial|omega|simp));exact j3.out rfl (Imp.refl rfl) rfl)
def a3Q (p:Rat):Rat:=mkRat (p*1000000).floor 1000000
theorem b1Y:(Nm.enc 1000000).length<=3:=Nm.F3 (by decide)
theorem c0u:Nm.ofQ (1000000:Rat)=⟨false,Nm.enc 1000000,Nm.enc 1⟩:=by
 unfold Nm.ofQ
 rw [show (1000000:Rat)=((1000000:Int):Rat) from rfl,Rat.num_intCast,Rat.den_intCast]
 rfl
theorem b4N:Rb 3 (Nm.ofQ (1000000:Rat)):=by
 rw [c0u]
 exact ⟨b1Y,by show (Nm.enc 1).length<=3;rw [Nm.Q5];decide⟩
theorem b6B (f:Int):Nm.sgn (decide (f < 0)) f.natAbs=f:=by
 unfold Nm.sgn
 by_cases h:f < 0
 ·rw [decide_eq_true h,if_pos rfl];omega
 ·rw [decide_eq_false h,if_neg (by decide)];omega
theorem a3z (f:Int):Nm.ofQ (f:Rat)=⟨decide (f < 0),Nm.enc f.natAbs,Nm.enc 1⟩:=by
 unfold Nm.ofQ
 rw [Rat.num_intCast,Rat.den_intCast]
theorem b4F {k:Nat} {p:Rat} (h:Rb k (Nm.ofQ p)):Rb (k+4) (Nm.ofQ (a3Q p)):=by
 have h2:=(a9A (H7 h b4N)).1
 rw [a3z] at h2
 unfold a3Q
 rw [<- b6B (p*1000000).floor]
 have h3:=b1Y
 exact a8G (k:=k+4) (by decide) (by simp only at h2;omega) (by omega) (by omega) (c7b _)
theorem c0M (p:Rat) (hp:Rb 536870912 (Nm.ofQ p)):FZ 207 [rq p,.v (.int .i64 1000000)] (rq (a3Q p)):=by
 refine kW Tryz.func207 (by cbv) (by rfl) fun w O hw=>?_
 have o1:=b5w 1000000 (by decide)
 rw [show (1000000:Int).toNat=1000000 from rfl] at o1
 have o2:=a0V p 1000000 (hp.mono (by decide)) (b4N.mono (by decide))
 have h1:=H7 hp b4N
 have o3:=b6U (p*1000000) (h1.mono (by decide))
 have h2:=(a9A h1).1
 unfold a3Q
 generalize p*1000000=x at *
 generalize x.floor=f at *
 have h3:=b1Y
 rw [a3z] at h2
 have o4:=a2Y (decide (f < 0)) f.natAbs 1000000 (by decide) (by simp only at h2;omega) (by omega)
 rw [b6B] at o4
 unfold rq at *
 rw [c0u] at o2
 rw [a3z] at o3
 rw [Nm.Q5] at o2 o3
 clear h1 h2 h3 hp
 generalize Nm.enc 1000000=e at *
 generalize decide (f < 0)=s at *
 generalize Nm.enc f.natAbs=n at *
 generalize Nm.ofQ (mkRat f 1000000)=r at *
 generalize Nm.ofQ p=m1 at *
 generalize Nm.ofQ x=m2 at *
 simp only [j5,TT,II,OA,OB,MM,LL,VV,FF]
 simp only [rc,sb,ints] at *
 (repeat first|refine uA ?_|(apply uK;focus first|omega|(intros;simp_all<;>omega))|simp (disch:=omega) only [go_sem,Nat.reduceBEq,Nat.reduceAdd]|(apply uB o1;exact rfl)|(apply uD o2;exact tz hw;rfl)|(apply uD o3;exact tz hw;rfl)|(apply uD o4;exact tz hw;rfl))
 (refine S.done ?_;simp only [p8,r9,go_sem,Nat.reduceBEq,Nat.reduceAdd,Nat.reduceLeDiff];(repeat (refine ⟨?_,?_⟩;focus first|trivial|omega|simp));exact j3.out rfl (Imp.refl rfl) rfl)
def upQ (p:Rat):Rat:=- a3Q (- p)
theorem c6F {k:Nat} {p:Rat} (h:Rb k (Nm.ofQ p)):Rb (k+4) (Nm.ofQ (upQ p)):=a1c (b4F (a1c h))
theorem c6N (p:Rat) (hp:Rb 268435456 (Nm.ofQ p)):FZ 208 [rq p,.v (.int .i64 1000000)] (rq (upQ p)):=by
 refine kW Tryz.func208 (by cbv) (by rfl) fun w O hw=>?_
 have o1:=a5q (Nm.ofQ p) (hp.mono (by decide))
 have h1:=a1c hp
 have o2:=c0M (-p) (h1.mono (by decide))
 have o3:=a5q (Nm.ofQ (a3Q (-p))) ((b4F h1).mono (by decide))
 rw [Nm.p9] at o1 o3
 unfold upQ
 unfold rq at *
 generalize Nm.ofQ (- a3Q (-p))=m1 at *
 generalize Nm.ofQ (a3Q (-p))=m2 at *
 generalize Nm.ofQ (-p)=m3 at *
 generalize Nm.ofQ p=m4 at *
 simp only [j5,TT,OA,OB,MM,LL]
 simp only [rc,sb] at *
 (repeat first|refine uA ?_|(apply uK;focus first|omega|(intros;simp_all<;>omega))|simp (disch:=omega) only [go_sem,Nat.reduceBEq,Nat.reduceAdd]|(apply uD o1;exact tz hw;rfl)|(apply uD o2;exact tz hw;rfl)|(apply uD o3;exact tz hw;rfl))
 (refine S.done ?_;simp only [p8,r9,go_sem,Nat.reduceBEq,Nat.reduceAdd,Nat.reduceLeDiff];(repeat (refine ⟨?_,?_⟩;focus first|trivial|omega|simp));exact j3.out rfl (Imp.refl rfl) rfl)
def b1K (s:Sp):Sp:=⟨a3Q (J4 s).lo,upQ (J4 s).hi⟩
theorem b4Y {k:Nat} {s:Sp} (h:Zb k s):Zb (k+4) (b1K s):=⟨b4F (K4 h).1,c6F (K4 h).2⟩
theorem c3H (s:Sp) (hs:Zb 268435456 s):FZ 182 [s.c,.v (.int .i64 1000000)] (b1K s).c:=by
 refine kW Tryz.func182 (by cbv) (by rfl) fun w O hw=>?_
 have o1:=a0L s (hs.mono (by decide))
 have fs:=K4 hs
 unfold b1K
 generalize J4 s=t at *
 obtain ⟨p,q⟩:=t
 have o2:=c0M p (fs.1.mono (by decide))
 have o3:=c6N q (fs.2.mono (by decide))
 obtain ⟨s1,s2⟩:=s
 unfold Sp.c snQ at *
 unfold rq at *
 simp only at o1 ⊢
 generalize Nm.ofQ (a3Q p)=m1 at *
 generalize Nm.ofQ (upQ q)=m2 at *
 generalize Nm.ofQ p=m3 at *
 generalize Nm.ofQ q=m4 at *
 generalize Nm.ofQ s1=m5 at *
 generalize Nm.ofQ s2=m6 at *
 simp only [j5,TT,OA,OB,MM,LL,FF]
 simp only [Sn.c,Sn.enc,rc,sb] at o1 o2 o3 ⊢
 (repeat first|refine uA ?_|(apply uK;focus first|omega|(intros;simp_all<;>omega))|simp (disch:=omega) only [go_sem,Nat.reduceBEq,Nat.reduceAdd]|(apply uD o1;exact tz hw;rfl)|(apply uD o2;exact tz hw;rfl)|(apply uD o3;exact tz hw;rfl))
 (refine S.done ?_;simp only [p8,r9,go_sem,Nat.reduceBEq,Nat.reduceAdd,Nat.reduceLeDiff];(repeat (refine ⟨?_,?_⟩;focus first|trivial|omega|simp));exact j3.out rfl (Imp.refl rfl) rfl)
def c2l:Sp:=⟨-1,1⟩
theorem b1P:Rb 8 (Nm.ofQ (-1)):=a1c S9
theorem c4v:FZ 183 [] c2l.c:=by
 refine kW Tryz.func183 (by cbv) (by rfl) fun w O hw=>?_
 have o1:=a1l 1 (by decide) (by decide)
 have o2:=a1l (-1) (by decide) (by decide)
 rw [show ((1:Int):Rat)=1 from rfl] at o1
 rw [show ((-1:Int):Rat)=-1 from rfl] at o2
 unfold Sp.c snQ c2l
 unfold rq at *
 simp only
 generalize Nm.ofQ (-1)=m1 at *
 generalize Nm.ofQ 1=m2 at *
 simp only [j5,TT,II,OA,OB]
 simp only [Sn.c,Sn.enc,rc,sb,ints] at o1 o2 ⊢
 (repeat first|refine uA ?_|(apply uK;focus omega)|simp (disch:=omega) only [go_sem,Nat.reduceBEq]|(apply uD o1;exact tz hw;rfl)|(apply uD o2;exact tz hw;rfl))
 (refine S.done ?_;simp only [p8,r9,go_sem,Nat.reduceBEq,Nat.reduceAdd,Nat.reduceLeDiff];(repeat (refine ⟨?_,?_⟩;focus first|trivial|omega|simp));exact j3.out rfl (Imp.refl rfl) rfl)
def a3o (s:Sp):Sp:=⟨G9 (b1K s).lo (-1),G7 (b1K s).hi 1⟩
theorem b0o {k:Nat} {s:Sp} (h:Zb k s):Zb (k+12) (a3o s):=⟨a2p ((b4Y h).1.mono (by omega)) (b1P.mono (by omega)),a9v ((b4Y h).2.mono (by omega)) (S9.mono (by omega))⟩
theorem c2n (s:Sp) (hs:Zb 268435456 s):FZ 159 [s.c] (a3o s).c:=by
 refine kW Tryz.func159 (by cbv) (by rfl) fun w O hw=>?_
 have o1:=c3H s hs
 have fs:=b4Y hs
 have o2:=c4v
 unfold a3o
 generalize b1K s=t at *
 obtain ⟨p,q⟩:=t
 have o3:=a3Y (Nm.ofQ p) (Nm.ofQ (-1)) (fs.1.mono (by decide)) (b1P.mono (by decide))
 have o4:=a4f (Nm.ofQ q) (Nm.ofQ 1) (fs.2.mono (by decide)) (S9.mono (by decide))
 rw [Nm.p9,Nm.p9] at o3 o4
 obtain ⟨s1,s2⟩:=s
 unfold c2l at o2
 unfold Sp.c snQ at *
 unfold rq at *
 simp only at o1 o2 ⊢
 generalize Nm.ofQ (G9 p (-1))=m1 at *
 generalize Nm.ofQ (G7 q 1)=m2 at *
 generalize Nm.ofQ p=m3 at *
 generalize Nm.ofQ q=m4 at *
 generalize Nm.ofQ s1=m5 at *
 generalize Nm.ofQ s2=m6 at *
 generalize Nm.ofQ (-1)=m7 at *
 generalize Nm.ofQ 1=m8 at *
 simp only [j5,TT,II,OA,OB,LL,FF]
 simp only [Sn.c,Sn.enc,rc,sb] at o1 o2 o3 o4 ⊢
 (repeat first|refine uA ?_|(apply uK;focus first|omega|(intros;simp_all<;>omega))|simp (disch:=omega) only [go_sem,Nat.reduceBEq,Nat.reduceAdd]|(apply uD o1;exact tz hw;rfl)|(apply uD o2;exact tz hw;rfl)|(apply uD o3;exact tz hw;rfl)|(apply uD o4;exact tz hw;rfl))
 (refine S.done ?_;simp only [p8,r9,go_sem,Nat.reduceBEq,Nat.reduceAdd,Nat.reduceLeDiff];(repeat (refine ⟨?_,?_⟩;focus first|trivial|omega|simp));exact j3.out rfl (Imp.refl rfl) rfl)
def a9B (a:Rat):Rat:=(1-a) / (1+a)
theorem one_add {a:Rat} (h:0<=a):1+a ≠ 0:=by
 intro e
 have h1:(0:Rat) < 1:=by decide
 grind
theorem b8R {k:Nat} {a:Rat} (h0:0<=a) (h:Rb k (Nm.ofQ a)):Rb (k+k+18) (Nm.ofQ (a9B a)):=(b0G (one_add h0) (R4 S9 h) (Q9 S9 h)).mono (by omega)
theorem b9d (a:Rat) (h0:0<=a) (h:Rb 1073741824 (Nm.ofQ a)):FZ 180 [rq a] (rq (a9B a)):=by
 refine kW Tryz.func180 (by cbv) (by rfl) fun w O hw=>?_
 have o1:=a1l 1 (by decide) (by decide)
 rw [show ((1:Int):Rat)=1 from rfl] at o1
 have o2:=a5M 1 a (S9.mono (by decide)) (h.mono (by decide))
 have o3:=a3L 1 a (S9.mono (by decide)) (h.mono (by decide))
 have o4:=b8K (1-a) (1+a) ((R4 S9 h).mono (by decide)) ((Q9 S9 h).mono (by decide))
 rw [show a3u (1-a) (1+a)=Nm.ofQ ((1-a) / (1+a)) by unfold a3u;rw [if_neg (one_add h0)]] at o4
 unfold a9B
 unfold rq at *
 generalize Nm.ofQ ((1-a) / (1+a))=m1 at *
 generalize Nm.ofQ (1-a)=m2 at *
 generalize Nm.ofQ (1+a)=m3 at *
 generalize Nm.ofQ a=m4 at *
 generalize Nm.ofQ 1=m5 at *
 simp only [j5,TT,II,OA,OB,MM,LL]
 simp only [rc,sb,ints] at *
 (repeat first|refine uA ?_|(apply uK;focus omega)|simp (disch:=omega) only [go_sem,Nat.reduceBEq]|(apply uD o1;exact tz hw;rfl)|(apply uD o2;exact tz hw;rfl)|(apply uD o3;exact tz hw;rfl)|(apply uD o4;exact tz hw;rfl))
 (refine S.done ?_;simp only [p8,r9,go_sem,Nat.reduceBEq,Nat.reduceAdd,Nat.reduceLeDiff];(repeat (refine ⟨?_,?_⟩;focus first|trivial|omega|simp));exact j3.out rfl (Imp.refl rfl) rfl)
theorem c0G:∀ (l:List Rat) (s:Sp),0<=s.lo->0<=s.hi->(∀ a ∈ l,0<=a)->0<=(l.foldl (fun s a=>(⟨G7 s.lo a,G9 s.hi a⟩:Sp)) s).lo/\0<=(l.foldl (fun s a=>(⟨G7 s.lo a,G9 s.hi a⟩:Sp)) s).hi
 | [],s,h1,h2,_=>⟨h1,h2⟩
 | a::l,s,h1,h2,hl=>c0G l _ (by simp only [G7];split;exact h1;exact hl a (by simp)) (by simp only [G9];split;exact h2;exact hl a (by simp)) fun b hb=>hl b (by simp [hb])
theorem c3A (s:Sp):0<=(sqI s).lo/\0<=(sqI s).hi:=c0G _ _ (sq_nonneg _) (sq_nonneg _) fun a ha=>by
 rw [List.mem_singleton] at ha
 rw [ha]
 exact sq_nonneg _
theorem a9J (s:Sp):0<=(a5S s).lo/\0<=(a5S s).hi:=by
 have h:=c3A s
 unfold a5S
 split
 ·exact ⟨Rat.le_refl,h.2⟩
 ·exact h
def a9N (s:Sp):Sp:=⟨a9B (a5S s).hi,a9B (a5S s).lo⟩
theorem c0Q {k:Nat} {s:Sp} (h:Zb k s):Zb (4*k+18) (a9N s):=⟨(b8R (a9J s).2 (b5r h).2).mono (by omega),(b8R (a9J s).1 (b5r h).1).mono (by omega)⟩
theorem c5C (s:Sp) (hs:Zb 268435456 s):FZ 157 [s.c] (a9N s).c:=by
 refine kW Tryz.func157 (by cbv) (by rfl) fun w O hw=>?_
 have o1:=c4F s hs
 have fs:=b5r hs
 have hp:=a9J s
 unfold a9N
 generalize a5S s=t at *
 obtain ⟨p,q⟩:=t
 have o2:=b9d q hp.2 (fs.2.mono (by decide))
 have o3:=b9d p hp.1 (fs.1.mono (by decide))
 obtain ⟨s1,s2⟩:=s
 unfold Sp.c snQ at *
 unfold rq at *
 simp only at o1 ⊢
 generalize Nm.ofQ (a9B p)=m1 at *
 generalize Nm.ofQ (a9B q)=m2 at *
 generalize Nm.ofQ p=m3 at *
 generalize Nm.ofQ q=m4 at *
 generalize Nm.ofQ s1=m5 at *
 generalize Nm.ofQ s2=m6 at *
 simp only [j5,TT,OA,OB,MM,LL,FF]
 simp only [Sn.c,Sn.enc,rc,sb] at o1 o2 o3 ⊢
 (repeat first|refine uA ?_|(apply uK;focus omega)|simp (disch:=omega) only [go_sem,Nat.reduceBEq]|(apply uD o1;exact tz hw;rfl))
 refine ⟨rfl,?_⟩
 (repeat first|refine uA ?_|(apply uK;focus first|omega|(intros;simp_all<;>omega))|simp (disch:=omega) only [go_sem,Nat.reduceBEq,Nat.reduceAdd]|(apply uD o2;exact tz hw;rfl))
 refine ⟨rfl,?_⟩
 (repeat first|refine uA ?_|(apply uK;focus omega)|simp (disch:=omega) only [go_sem,Nat.reduceBEq]|(apply uD o3;exact tz hw;rfl))
 (refine S.done ?_;simp only [p8,r9,go_sem,Nat.reduceBEq,Nat.reduceAdd,Nat.reduceLeDiff];(repeat (refine ⟨?_,?_⟩;focus first|trivial|omega|simp));exact j3.out rfl (Imp.refl rfl) rfl)
structure Lq where
 x:Sp
 y:Sp
 c:Sp
 s:Sp
def Sp.enc (s:Sp):List C:=(snQ s.lo s.hi).enc
def Lq.enc (l:Lq):List C:=l.x.enc++l.y.enc++l.c.enc++l.s.enc
def Zl (k:Nat) (l:Lq):Prop:=Zb k l.x/\Zb k l.y/\Zb k l.c/\Zb k l.s
def ptS (a:Nm.Rt):Sp:=⟨Nm.d9 a,Nm.d9 a⟩
theorem a3P {k:Nat} {a:Nm.Rt} (h:Rb k a) (hk:1<=k):Zb k (ptS a):=⟨h.fit hk,h.fit hk⟩
def atX (l:Lq) (v:Vt):Sp:=Y1 l.x (a3O (J6 (ptS v.x) l.c) (J6 (ptS v.y) l.s))
def atY (l:Lq) (v:Vt):Sp:=Y1 l.y (Y1 (J6 (ptS v.x) l.s) (J6 (ptS v.y) l.c))
theorem b9L (l:Lq) (v:Vt) (hl:Zl 67108864 l) (h1:Rb 16777216 v.x) (h2:Rb 16777216 v.y):FZ 113 [.agg l.enc,.agg v.enc] (.tup [(atX l v).c,(atY l v).c]):=by
 refine kW Tryz.func113 (by cbv) (by rfl) fun w O hw=>?_
 obtain ⟨lx,ly,lc,ls⟩:=l
 obtain ⟨v1,v2⟩:=v
 obtain ⟨b1,b2,b3,b4⟩:=hl
 simp only at b1 b2 b3 b4 h1 h2
 have o1:=a0B v1 (h1.mono (by decide))
 have o2:=a0B v2 (h2.mono (by decide))
 have p1:=a3P h1 (by decide)
 have p2:=a3P h2 (by decide)
 have o3:=a1d (ptS v1) lc (p1.mono (by decide)) (b3.mono (by decide))
 have o4:=a1d (ptS v2) ls (p2.mono (by decide)) (b4.mono (by decide))
 have m3:=O4 p1 b3
 have m4:=O4 p2 b4
 have o5:=b6H _ _ (m3.mono (by decide)) (m4.mono (by decide))
 have m5:=a8D m3 m4
 have o6:=a4I lx _ (b1.mono (by decide)) (m5.mono (by decide))
 have o7:=a1d (ptS v1) ls (p1.mono (by decide)) (b4.mono (by decide))
 have o8:=a1d (ptS v2) lc (p2.mono (by decide)) (b3.mono (by decide))
 have m7:=O4 p1 b4
 have m8:=O4 p2 b3
 have o9:=a4I _ _ (m7.mono (by decide)) (m8.mono (by decide))
 have m9:=a2D m7 m8
 have oa:=a4I ly _ (b2.mono (by decide)) (m9.mono (by decide))
 clear m3 m4 m5 m7 m8 m9 b1 b2 b3 b4 h1 h2 p1 p2
 unfold atX atY
 simp only
 rw [show Sp.mk (Nm.d9 v1) (Nm.d9 v1)=ptS v1 from rfl] at o1
 rw [show Sp.mk (Nm.d9 v2) (Nm.d9 v2)=ptS v2 from rfl] at o2
 simp only [j5,TT,OA,OB,LL,FF]
 generalize J6 (ptS v1) lc=s1 at *
 generalize J6 (ptS v2) ls=s2 at *
 generalize a3O s1 s2=s3 at *
 generalize J6 (ptS v1) ls=s4 at *
 generalize J6 (ptS v2) lc=s5 at *
 generalize Y1 s4 s5=s6 at *
 generalize ptS v1=s7 at *
 generalize ptS v2=s8 at *
 generalize Y1 lx s3=s9 at *
 generalize Y1 ly s6=s10 at *
 simp only [Vt.enc,Lq.enc,Sp.enc,Sp.c,Sn.c,Sn.enc,snQ,rc,sb,List.cons_append,List.nil_append] at o1 o2 o3 o4 o5 o6 o7 o8 o9 oa ⊢
 (repeat first|refine uA ?_|(apply uK;focus first|omega|(intros;simp_all<;>omega))|simp (disch:=omega) only [go_sem,Nat.reduceBEq,Nat.reduceAdd]|(apply uD o1;exact tz hw;rfl)|(apply uD o2;exact tz hw;rfl)|(apply uD o3;exact tz hw;rfl)|(apply uD o4;exact tz hw;rfl)|(apply uD o5;exact tz hw;rfl)|(apply uD o6;exact tz hw;rfl)|(apply uD o7;exact tz hw;rfl)|(apply uD o8;exact tz hw;rfl)|(apply uD o9;exact tz hw;rfl)|(apply uD oa;exact tz hw;rfl))
 (refine S.done ?_;simp only [p8,r9,go_sem,Nat.reduceBEq,Nat.reduceAdd,Nat.reduceLeDiff];(repeat (refine ⟨?_,?_⟩;focus first|trivial|omega|simp));exact j3.out rfl (Imp.tup (by (repeat' (first|exact j4.nil|exact Imp.refl rfl|exact Imp.frz rfl rfl rfl|exact Imp.F5|refine Imp.agg ?_|refine j4.cons ?_ ?_)))) rfl)
theorem a3B {k:Nat} {a b:Sp} (ha:Zb k a) (hb:Zb k b):Zb k (U8 a b):=⟨a9v (K4 ha).1 (K4 hb).1,a2p (K4 ha).2 (K4 hb).2⟩
def ptQ (q:Rat):Sp:=⟨q,q⟩
def a4P (u s:Sp) (l:List Int):Sp:=l.foldl (fun s (n:Int)=>if a5s u (n:Rat)=true then U8 s (ptQ n) else s) s
def b7V (u:Sp):Sp:=U8 (ptQ (Y9 u.lo)) (ptQ (Y9 u.hi))
def a9T (t:Sp):Sp:=a4P (U8 t t) (b7V (U8 t t)) [-1,1]
theorem a3R {k:Nat} {q:Rat} (h:Rb k (Nm.ofQ q)):Rb (4*k+18) (Nm.ofQ (Y9 q)):=(b0G (b0l q) (Q9 h h) (Q9 S9 (H7 h h))).mono (by omega)
theorem c0k {k:Nat} {u:Sp} (h:Zb k u):Zb (4*k+18) (b7V u):=a3B ⟨a3R h.1,a3R h.1⟩ ⟨a3R h.2,a3R h.2⟩
theorem b7c {k:Nat} {n:Int} (hk:8<=k) (h:n=-1 \/ n=1):Rb k (Nm.ofQ (n:Rat)):=by
 rcases h with rfl|rfl
 ·exact b1P.mono hk
 ·exact S9.mono hk
theorem b4e {k:Nat} {u:Sp} (hk:8<=k):∀ (l:List Int) (s:Sp),Zb k s->(∀ n ∈ l,n=-1 \/ n=1)->Zb k (a4P u s l)
 | [],s,h,_=>h
 | n::l,s,h,hl=>by
  refine b4e hk l _ ?_ fun m hm=>hl m (by simp [hm])
  have:=b7c hk (hl n (by simp))
  show Zb k (if a5s u (n:Rat)=true then U8 s (ptQ n) else s)
  split
  ·exact a3B h ⟨this,this⟩
  ·exact h
theorem b9f {k:Nat} {t:Sp} (h:Zb k t):Zb (4*k+18) (a9T t):=b4e (by omega) _ _ (c0k (a3B h h)) (by simp)
theorem b9R (u s:Sp) {l:List Int} {i:Nat} {n:Int} (h:l[i]?=some n):a4P u s (l.take (i+1))=if a5s u (n:Rat)=true then U8 (a4P u s (l.take i)) (ptQ n) else a4P u s (l.take i):=by
 unfold a4P
 rw [take_at h,List.foldl_append]
 rfl
theorem c5t (t:Sp) (hs:Zb 16777216 t):FZ 158 [t.c] (a9T t).c:=by
 refine kW Tryz.func158 (by cbv) (by rfl) fun w O hw=>?_
 have o1:=a3p t t (hs.mono (by decide)) (hs.mono (by decide))
 have b1:=a3B hs hs
 unfold a9T
 generalize U8 t t=u at *
 have o2:=b3z (Nm.ofQ u.lo) (b1.1.mono (by decide))
 have o3:=b3z (Nm.ofQ u.hi) (b1.2.mono (by decide))
 have o4:=b4r false (Nm.ofQ u.lo) (b1.1.mono (by decide))
 have o5:=b4r false (Nm.ofQ u.hi) (b1.2.mono (by decide))
 simp only [J8,c7C,if_false] at o4 o5
 rw [Nm.p9] at o2 o3 o4 o5
 have c1:=a3R b1.1
 have c2:=a3R b1.2
 have o6:=a0B (Nm.ofQ (Y9 u.lo)) (c1.mono (by decide))
 have o7:=a0B (Nm.ofQ (Y9 u.hi)) (c2.mono (by decide))
 rw [Nm.p9] at o6 o7
 have o8:=a3p (ptQ (Y9 u.lo)) (ptQ (Y9 u.hi)) ⟨c1.mono (by decide),c1.mono (by decide)⟩ ⟨c2.mono (by decide),c2.mono (by decide)⟩
 rw [show U8 (ptQ (Y9 u.lo)) (ptQ (Y9 u.hi))=b7V u from rfl] at o8
 have d0:=c0k b1
 generalize b7V u=s at *
 unfold ptQ at o8
 generalize Y9 u.lo=x1 at *
 generalize Y9 u.hi=x2 at *
 have hI:a4P u s []=s:=rfl
 obtain ⟨L,hL,hn,hm⟩:∃ L:List Int,L=[-1,1]/\L.length=2/\∀ n ∈ L,n=-1 \/ n=1:=⟨_,rfl,rfl,by simp⟩
 rw [<- hL]
 simp only [j5,TT,II,OA,OB,MM,LL,VV,FF]
 simp only [Sp.c,Sn.c,Sn.enc,snQ,rq,tq,rc,tc,sb] at o1 o2 o3 o4 o5 o6 o7 o8 ⊢
 (repeat first|refine uA ?_|(refine uK ?_ ?_;focus first|omega|(intros;simp_all<;>omega))|simp (disch:=omega) only [go_sem,Nat.reduceBEq,Nat.reduceAdd]|(refine uD o1 ?_ ?_ ?_;exact tz hw;exact rfl)|(refine uD o2 ?_ ?_ ?_;exact tz hw;exact rfl)|(refine uD o3 ?_ ?_ ?_;exact tz hw;exact rfl)|(refine uD o4 ?_ ?_ ?_;exact tz hw;exact rfl)|(refine uD o5 ?_ ?_ ?_;exact tz hw;exact rfl)|(refine uD o6 ?_ ?_ ?_;exact tz hw;exact rfl)|(refine uD o7 ?_ ?_ ?_;exact tz hw;exact rfl)|(refine uD o8 ?_ ?_ ?_;exact tz hw;exact rfl))
 refine S.loop (X:=Nat) (fun i=>⟨[(1,.bp 0 0),(2,.bp 1 0),(3,.bp 2 0),(21,.rv 3),(22,ints L.length),(23,ints i)],[.box 108 u.enc,.box 108 [.v (.bool false),sb [],sb [],.v (.bool false),sb [],sb []],.box 108 (a4P u s (L.take i)).enc,.row 3 1 (L.map fun n=>[ints n])]⟩) (fun i=>i<=L.length) (fun i=>L.length-i) 0 (c6Z _) (by simp only [List.take_zero,hI,hL,Sp.enc,snQ,Sn.enc,sb];exact (by (repeat first|refine uA ?_|(refine ⟨?_,?_⟩;focus first|rfl|simp [slot])|rfl|simp))) ?_
 intro i hi
 clear o1 o2 o3 o4 o5 o6 o7 o8 hI hL
 simp only [Sp.enc,Sn.enc,snQ,sb,ints]
 (repeat first|refine uA ?_|(refine uK ?_ ?_;focus first|omega|(intros;simp_all<;>omega))|simp (disch:=omega) only [go_sem,Nat.reduceBEq])
 (refine uJ rfl (fun hc=>?_) fun hc=>?_)
 ·have hi':i < L.length:=by omega
  have hg:=c6T hi'
  generalize L[i]=n at *
  have hsu:=b9R u s hg
  have hu:=hm n (c6W hg)
  have ru:=b7c (k:=16777216) (by decide) hu
  have o1:=a1l n (by omega) (by omega)
  have o2:=b6A u (Nm.ofQ (n:Rat)) (b1.mono (by decide)) (ru.mono (by decide))
  have o3:=a0B (Nm.ofQ (n:Rat)) (ru.mono (by decide))
  have dI:Zb 67108882 (a4P u s (L.take i)):=b4e (by decide) _ _ (d0.mono (by decide)) fun m h=>hm m (List.mem_of_mem_take h)
  have o4:=a3p (a4P u s (L.take i)) (ptQ n) (dI.mono (by decide)) ⟨ru.mono (by decide),ru.mono (by decide)⟩
  rw [Nm.p9] at o2 o3
  generalize a4P u s (L.take i)=v at *
  unfold ptQ at o4 hsu
  generalize a5s u (n:Rat)=b at *
  clear ru dI d0 b1 c1 c2 hu hm
  generalize (n:Rat)=q at *
  generalize U8 v ⟨q,q⟩=v3 at *
  simp only [Sp.c,Sn.c,Sn.enc,snQ,rq,rc,sb,ints] at o1 o2 o3 o4
  (repeat first|refine uA ?_|(refine uK ?_ ?_;focus first|omega|(intros;simp_all<;>omega))|simp (disch:=omega) only [go_sem,Nat.reduceBEq,Nat.reduceAdd,hg,c6V,c6U,c7a]|(refine uD o1 ?_ ?_ ?_;exact tz hw;exact rfl)|(refine uD o2 ?_ ?_ ?_;exact tz hw;exact rfl))
  refine S.cond rfl (fun hc=>?_) (fun hc=>?_)
  ·rw [if_pos (by simpa using hc)] at hsu
   (repeat first|refine uA ?_|(refine uK ?_ ?_;focus first|omega|(intros;simp_all<;>omega))|simp (disch:=omega) only [go_sem,Nat.reduceBEq,Nat.reduceAdd,ww]|(refine uD o3 ?_ ?_ ?_;exact tz hw;exact rfl)|(refine uD o4 ?_ ?_ ?_;exact tz hw;exact rfl))
   refine S.next (i+1) (by omega) (by omega) (by rw [hsu];exact (by (repeat first|refine uA ?_|(refine ⟨?_,?_⟩;focus first|rfl|simp [slot])|rfl|simp)))
  ·rw [if_neg (by simpa using hc)] at hsu
   (repeat first|refine uA ?_|(refine uK ?_ ?_;focus first|omega|(intros;simp_all<;>omega))|simp (disch:=omega) only [go_sem,Nat.reduceBEq,ww])
   refine S.next (i+1) (by omega) (by omega) (by rw [hsu];exact (by (repeat first|refine uA ?_|(refine ⟨?_,?_⟩;focus first|rfl|simp [slot])|rfl|simp)))
 ·have hi':i=L.length:=by omega
  subst hi'
  rw [c7l]
  (repeat first|refine uA ?_|(refine uK ?_ ?_;focus first|omega|(intros;simp_all<;>omega))|simp (disch:=omega) only [go_sem,Nat.reduceBEq,Nat.reduceAdd])
  (refine S.done ?_;simp only [p8,r9,go_sem,Nat.reduceBEq,Nat.reduceAdd,Nat.reduceLeDiff];(repeat (refine ⟨?_,?_⟩;focus first|trivial|omega|simp));exact j3.out rfl (Imp.refl rfl) rfl)
def a6C:N9:=⟨112,[.tmp 4,.tmp 5],.seq (.reg [OA 2 (.box 69 (TT 0)),OA 4 (.mv (.const (.slice none 0 0))),OA 5 (.mv (II 0))]) (.seq (.seq (.reg [LL 16 12 2,MM 17 1,OA 18 (.len false (TT 17)),OA 19 (.call 154 [TT 16,TT 18]),MM 6 19])
 (.seq (.reg [MM 20 6,OA 21 (.bin .neq (TT 20) (II 0))]) (.cond (TT 21) (.seq (.reg [MM 22 6,OA 4 (.mv (.const (.slice none 0 0))),MM 5 22]) .ret) .skip))) (.seq (.reg [FF 23 1 2,LL 24 10 23,OA 7 (.alloc 66 [.bool false,
 .string ⟨#[]⟩,.string ⟨#[]⟩,.bool false,.string ⟨#[]⟩,.string ⟨#[]⟩,.bool false,.bool false,.string ⟨#[]⟩,.string ⟨#[]⟩]),OB (.store 10 (TT 7) (TT 24))]) (.seq (.E8 [.q,.q,.q,.q,.q,.q,.q,.q,.q,.q,.q,.q,.q,
 .q,.q,.q,.q,.a,.e (some 8) true] [FF 25 0 7,FF 26 0 25,LL 27 3 26,OA 28 (.call 44 [TT 27]),FF 29 0 7,FF 30 3 29,LL 31 3 30,OA 32 (.call 44 [TT 31]),FF 33 6 7,LL 34 4 33,OA 35 (.call 155 [TT 34]),OA 36 (.call 44
 [TT 35]),FF 37 6 7,LL 38 4 37,OA 39 (.call 156 [TT 38]),OA 40 (.call 44 [TT 39]),OA 41 (.build [.bool false,.string ⟨#[]⟩,.string ⟨#[]⟩,.bool false,.string ⟨#[]⟩,.string ⟨#[]⟩,.bool false,.string ⟨#[]⟩,.string
 ⟨#[]⟩,.bool false,.string ⟨#[]⟩,.string ⟨#[]⟩,.bool false,.string ⟨#[]⟩,.string ⟨#[]⟩,.bool false,.string ⟨#[]⟩,.string ⟨#[]⟩,.bool false,.string ⟨#[]⟩,.string ⟨#[]⟩,.bool false,.string ⟨#[]⟩,.string ⟨#[]⟩] [(0,
 (6,TT 28)),(6,(6,TT 32)),(12,(6,TT 36)),(18,(6,TT 40))]),OA 8 (.alloc 190 [.bool false,.string ⟨#[]⟩,.string ⟨#[]⟩,.bool false,.string ⟨#[]⟩,.string ⟨#[]⟩,.bool false,.string ⟨#[]⟩,.string ⟨#[]⟩,.bool false,
 .string ⟨#[]⟩,.string ⟨#[]⟩,.bool false,.string ⟨#[]⟩,.string ⟨#[]⟩,.bool false,.string ⟨#[]⟩,.string ⟨#[]⟩,.bool false,.string ⟨#[]⟩,.string ⟨#[]⟩,.bool false,.string ⟨#[]⟩,.string ⟨#[]⟩]),OB (.store 24 (TT 8) (TT
 41))]) (.seq (.reg [OA 9 (.mv (.const (.slice none 0 0)))]) (.seq (.seq (.reg [FF 42 11 2,VV 43 42,OA 44 (.len false (TT 43)),OA 45 (.mv (II 0))]) (.block 0 (.loop (.seq (.reg [OA 46 (.bin .lss (TT 45) (TT 44))]) (.seq (.cond
 (TT 46) .skip (.exit 0)) (.seq (.block 1 (.seq (.reg [MM 47 45,OA 48 (.q8 16 (TT 43) (TT 45)),LL 49 16 48,OA 11 (.alloc 74 [.bool false,.string ⟨#[]⟩,.string ⟨#[]⟩,.bool false,.string ⟨#[]⟩,.string ⟨#[]⟩,.bool false,
 .string ⟨#[]⟩,.string ⟨#[]⟩,.bool false,.string ⟨#[]⟩,.string ⟨#[]⟩,.bool false,.string ⟨#[]⟩,.string ⟨#[]⟩,.slice none 0 0]),MM 10 47,OB (.store 16 (TT 11) (TT 49))]) (.seq (.E8 [.q,.q,.q,.q,.q,.q,.q,.q,.q,
 .q,.a,.a,.e (some 12) true,.e (some 13) true] [MM 50 1,MM 51 10,OA 52 (.q8 6 (TT 50) (TT 51)),LL 53 6 52,OA 54 (.call 157 [TT 53]),MM 55 1,MM 56 10,OA 57 (.q8 6 (TT 55) (TT 56)),LL 58 6 57,OA 59 (.call 158 [TT
 58]),OA 12 (.alloc 108 [.bool false,.string ⟨#[]⟩,.string ⟨#[]⟩,.bool false,.string ⟨#[]⟩,.string ⟨#[]⟩]),OA 13 (.alloc 108 [.bool false,.string ⟨#[]⟩,.string ⟨#[]⟩,.bool false,.string ⟨#[]⟩,.string ⟨#[]⟩]),OB
 (.store 6 (TT 12) (TT 54)),OB (.store 6 (TT 13) (TT 59))]) (.seq (.reg [LL 60 24 8,OA 14 (.alloc 190 [.bool false,.string ⟨#[]⟩,.string ⟨#[]⟩,.bool false,.string ⟨#[]⟩,.string ⟨#[]⟩,.bool false,.string ⟨#[]⟩,.string
 ⟨#[]⟩,.bool false,.string ⟨#[]⟩,.string ⟨#[]⟩,.bool false,.string ⟨#[]⟩,.string ⟨#[]⟩,.bool false,.string ⟨#[]⟩,.string ⟨#[]⟩,.bool false,.string ⟨#[]⟩,.string ⟨#[]⟩,.bool false,.string ⟨#[]⟩,.string ⟨#[]⟩]),OB
 (.store 24 (TT 14) (TT 60))]) (.seq (.E8 [.q,.q,.q,.q,.q,.q,.q,.q,.q,.q,.q,.e none true] [FF 61 12 8,LL 62 6 61,LL 63 6 12,OA 64 (.call 161 [TT 62,TT 63]),FF 65 18 8,LL 66 6 65,LL 67 6 13,OA 68 (.call 161
 [TT 66,TT 67]),OA 69 (.call 160 [TT 64,TT 68]),OA 70 (.call 159 [TT 69]),FF 71 12 14,OB (.store 6 (TT 71) (TT 70))]) (.seq (.E8 [.q,.q,.q,.q,.q,.q,.q,.q,.q,.q,.q,.e none true] [FF 72 18 8,LL 73 6 72,LL 74 6
 12,OA 75 (.call 161 [TT 73,TT 74]),FF 76 12 8,LL 77 6 76,LL 78 6 13,OA 79 (.call 161 [TT 77,TT 78]),OA 80 (.call 162 [TT 75,TT 79]),OA 81 (.call 159 [TT 80]),FF 82 18 14,OB (.store 6 (TT 82) (TT 81))]) (.seq (.reg
 [MM 83 9,LL 84 24 14,OA 85 (.bsl 190 24 1 [.bool false,.string ⟨#[]⟩,.string ⟨#[]⟩,.bool false,.string ⟨#[]⟩,.string ⟨#[]⟩,.bool false,.string ⟨#[]⟩,.string ⟨#[]⟩,.bool false,.string ⟨#[]⟩,.string ⟨#[]⟩,.bool
 false,.string ⟨#[]⟩,.string ⟨#[]⟩,.bool false,.string ⟨#[]⟩,.string ⟨#[]⟩,.bool false,.string ⟨#[]⟩,.string ⟨#[]⟩,.bool false,.string ⟨#[]⟩,.string ⟨#[]⟩] [(0,TT 84)]),OA 86 (.app 190 24 320 (TT 83) (TT 85)),MM 9
 86]) (.seq (.reg [FF 87 0 11,LL 88 3 87,OA 89 (.call 44 [TT 88]),OA 15 (.alloc 108 [.bool false,.string ⟨#[]⟩,.string ⟨#[]⟩,.bool false,.string ⟨#[]⟩,.string ⟨#[]⟩]),OB (.store 6 (TT 15) (TT 89))]) (.seq (.E8 [.q,.q,
 .q,.q,.q,.q,.q,.q,.e none true] [FF 90 0 14,LL 91 6 90,LL 92 6 15,FF 93 12 14,LL 94 6 93,OA 95 (.call 161 [TT 92,TT 94]),OA 96 (.call 162 [TT 91,TT 95]),FF 97 0 14,OB (.store 6 (TT 97) (TT 96))]) (.seq (.E8
 [.q,.q,.q,.q,.q,.q,.q,.q,.e none true] [FF 98 6 14,LL 99 6 98,LL 100 6 15,FF 101 18 14,LL 102 6 101,OA 103 (.call 161 [TT 100,TT 102]),OA 104 (.call 162 [TT 99,TT 103]),FF 105 6 14,OB (.store 6 (TT 105) (TT
 104))]) (.reg [LL 106 24 14,OB (.store 24 (TT 8) (TT 106))]))))))))))) (.reg [OA 107 (.bin .add (TT 45) (II 1)),MM 45 107]))))))) (.seq (.reg [MM 108 9,LL 109 24 8,OA 110 (.bsl 190 24 1 [.bool false,.string ⟨#[]⟩,.string
 ⟨#[]⟩,.bool false,.string ⟨#[]⟩,.string ⟨#[]⟩,.bool false,.string ⟨#[]⟩,.string ⟨#[]⟩,.bool false,.string ⟨#[]⟩,.string ⟨#[]⟩,.bool false,.string ⟨#[]⟩,.string ⟨#[]⟩,.bool false,.string ⟨#[]⟩,.string ⟨#[]⟩,.bool
 false,.string ⟨#[]⟩,.string ⟨#[]⟩,.bool false,.string ⟨#[]⟩,.string ⟨#[]⟩] [(0,TT 109)]),OA 111 (.app 190 24 320 (TT 108) (TT 110)),MM 4 111,OA 5 (.mv (II 0))]) .ret))))))⟩
theorem b1O:J5 eff Tryz.prog Tryz.f112=some a6C:=by kernel_rfl
theorem b1E:Tryz.prog.funcs[112]?=some Tryz.f112:=Tryz.func112
def a5I (n:Lq) (t:Sp):Lq:=⟨n.x,n.y,a3o (a3O (J6 n.c (a9N t)) (J6 n.s (a9T t))),a3o (Y1 (J6 n.s (a9N t)) (J6 n.c (a9T t)))⟩
def b7X (f:Lq) (l:Lk):Lq:=⟨Y1 f.x (J6 (ptS l.length) f.c),Y1 f.y (J6 (ptS l.length) f.s),f.c,f.s⟩
def X4:Lq->List (Lk × Sp)->List Lq
 | n,[]=>[n]
 | n,(l,t)::r=>a5I n t::X4 (b7X (a5I n t) l) r
def a3b (b:Fr):Lq:=⟨ptS b.x,ptS b.y,ptQ (a2q b.half (J8 b.half b.t)),ptQ (Y9 (J8 b.half b.t))⟩
def SB (i:Nat):Nat:=262144*6 ^ i
theorem c2G {i:Nat} (h:i < 3):SB i<=9437184/\262144<=SB i/\SB (i+1)=6*SB i:=by
 unfold SB
 match i,h with
 | 0,_=>decide
 | 1,_=>decide
 | 2,_=>decide
theorem b7I {i:Nat} (h:i<=3):SB i<=56623104:=by
 unfold SB
 match i,h with
 | 0,_=>decide
 | 1,_=>decide
 | 2,_=>decide
 | 3,_=>decide
theorem Zl.mono {k m:Nat} {l:Lq} (h:Zl k l) (hm:k<=m):Zl m l:=⟨h.1.mono hm,h.2.1.mono hm,h.2.2.1.mono hm,h.2.2.2.mono hm⟩
theorem c6A {m c:Nat} (h:2*c+30<=m):m+c+(m+c)+1+12<=3*m:=by omega
theorem c2o {i:Nat} {n:Lq} {t:Sp} {l:Lk} (hi:i < 3) (hn:Zl (SB i) n) (ht:Zb 16384 t) (hl:Rb 8 l.length):Zl (SB (i+1)) (a5I n t)/\Zl (SB (i+1)) (b7X (a5I n t) l):=by
 obtain ⟨h1,h2,h3⟩:=c2G hi
 rw [h3]
 generalize SB i=m at *
 obtain ⟨bx,by',bc,bs'⟩:=hn
 have c1:Zb 65554 (a9N t):=(c0Q ht).mono (by decide)
 have s1:Zb 65554 (a9T t):=(b9f ht).mono (by decide)
 have k1:m+65554+(m+65554)+1+12<=3*m:=c6A (c6X (by decide) h2)
 have k2:3*m<=6*m:=c7y _ (by decide)
 have c2:=(b0o (a8D (O4 bc c1) (O4 bs' s1))).mono k1
 have s2:=(b0o (a2D (O4 bs' c1) (O4 bc s1))).mono k1
 have p:=a3P hl (by decide)
 have k3:m<=6*m:=by omega
 have k4:m+(8+3*m)+1<=6*m:=by omega
 exact ⟨⟨bx.mono k3,by'.mono k3,c2.mono k2,s2.mono k2⟩,⟨(a2D bx (O4 p c2)).mono k4,(a2D by' (O4 p s2)).mono k4,c2.mono k2,s2.mono k2⟩⟩
theorem c6K {L:List Lk} {q:List Sp} {i:Nat} {l:Lk} {t:Sp} (h1:L[i]?=some l) (h2:q[i]?=some t):(L.zip q)[i]?=some (l,t):=by
 rw [List.getElem?_zip_eq_some]
 exact ⟨h1,h2⟩
theorem c1v (a:Am) (q:List Sp) (hl:Ab 1073741824 a) (ha:J2 a=0) (hql:q.length=a.links.length) (hq:∀ r ∈ q,Zb 16384 r):FZ 112 [a.c,.sl 6 (q.map Sp.enc)] (.tup [.sl 24 ((X4 (a3b a.base) (a.links.zip q)).map Lq.enc),ints 0]):=by
 refine kW b1E b1O (by rfl) fun w O hw=>?_
 have h:=b9W a q.length hl
 rw [c4Z ha (by omega)] at h
 obtain ⟨fb,lb⟩:=b0I ha
 have hn3:=(Z0 ha).2
 have hn:=hl.2.2.1
 obtain ⟨name,base,links⟩:=a
 simp only at hql fb lb hn3 hn ⊢
 have q2:=b7I (show 0<=3 by omega)
 have hcs:=c5w base.half base.t (fb.2.2.mono (by decide))
 have hs:=b4r base.half base.t (fb.2.2.mono (by decide))
 have rT:=b1W (h:=base.half) (fb.2.2.mono (show tB 0<=64 by decide)) (by decide)
 have rC:Rb 262144 (Nm.ofQ (a2q base.half (J8 base.half base.t))):=(c0K _ rT).mono (by decide)
 have rS:Rb 262144 (Nm.ofQ (Y9 (J8 base.half base.t))):=(a3R rT).mono (by decide)
 have x1:=fb.1.mono (show xB 0<=64 by decide)
 have x2:=fb.2.1.mono (show xB 0<=64 by decide)
 have h0:Zl (SB 0) (a3b base):=⟨(a3P x1 (by decide)).mono (by decide),(a3P x2 (by decide)).mono (by decide),⟨rC,rC⟩,⟨rS,rS⟩⟩
 have g1:=a0B base.x (x1.mono (by decide))
 have g2:=a0B base.y (x2.mono (by decide))
 have g3:=a0B (Nm.ofQ (a2q base.half (J8 base.half base.t))) (rC.mono (by decide))
 have g4:=a0B (Nm.ofQ (Y9 (J8 base.half base.t))) (rS.mono (by decide))
 rw [Nm.p9] at g3 g4
 have hB:a3b base=⟨⟨Nm.d9 base.x,Nm.d9 base.x⟩,⟨Nm.d9 base.y,Nm.d9 base.y⟩,⟨a2q base.half (J8 base.half base.t),a2q base.half (J8 base.half base.t)⟩,⟨Y9 (J8 base.half base.t),Y9 (J8 base.half base.t)⟩⟩:=rfl
 clear rT rC rS x1 x2
 generalize a2q base.half (J8 base.half base.t)=co at *
 generalize Y9 (J8 base.half base.t)=si at *
 generalize Nm.d9 base.x=u1 at *
 generalize Nm.d9 base.y=u2 at *
 generalize a3b base=N0 at *
 simp only [a6C,j5,TT,II,OA,OB,MM,LL,VV,FF]
 simp only [Am.c,Am.enc,lks,rq,rc,tc,Sp.c,Sn.c,Sn.enc,snQ,sb,ints] at h hcs hs g1 g2 g3 g4 ⊢
 (repeat first|refine uA ?_|(refine uK ?_ ?_;focus first|omega|(intros;simp_all<;>omega))|simp (disch:=omega) only [go_sem,Nat.reduceBEq,Nat.reduceAdd,c6U]|(refine uD h ?_ ?_ ?_;exact tz hw;exact rfl))
 refine S.cond rfl (fun hc=>by simp at hc) (fun hc=>?_)
 (repeat first|refine uA ?_|(refine uK ?_ ?_;focus first|omega|(intros;simp_all<;>omega))|simp (disch:=omega) only [go_sem,Nat.reduceBEq,Nat.reduceAdd,c6U]|(refine uD g1 ?_ ?_ ?_;exact tz hw;exact rfl)|(refine uD g2 ?_ ?_ ?_;exact tz hw;exact rfl)|(refine uD hcs ?_ ?_ ?_;exact tz hw;exact rfl)|(refine uD g3 ?_ ?_ ?_;exact tz hw;exact rfl)|(refine uD hs ?_ ?_ ?_;exact tz hw;exact rfl)|(refine uD g4 ?_ ?_ ?_;exact tz hw;exact rfl))
 refine S.loop (X:=Nat × Lq × List Lq) (fun x=>⟨[(1,.sl 6 (q.map Sp.enc)),(8,.bp 2 0),(9,.rv 3),(43,lks links),(44,ints links.length),(45,ints x.1)],[.gone,.gone,.box 190 x.2.1.enc,.row 190 24 (x.2.2.map Lq.enc)]⟩)
  (fun x=>x.1<=links.length/\x.2.2.length=x.1/\X4 N0 (links.zip q)=x.2.2++X4 x.2.1 ((links.zip q).drop x.1)/\Zl (SB x.1) x.2.1) (fun x=>links.length-x.1) (0,N0,[]) ⟨c6Z _,rfl,rfl,h0⟩ (Ent.trans (Ent.pack 9 190 24 rfl) (by simp only [hB,Lq.enc,Sp.enc,Sn.enc,snQ,sb,List.cons_append,List.nil_append];exact (by (repeat first|refine uA ?_|(refine ⟨?_,?_⟩;focus first|rfl|simp [slot])|rfl|simp)))) ?_
 rintro ⟨i,n,outs⟩ ⟨hi,ho,hg,hF⟩
 clear h hcs hs g1 g2 g3 g4 hB h0
 simp only at hi ho hg hF
 simp only [lks,sb,ints,Lq.enc,Sp.enc,Sn.enc,snQ,List.cons_append,List.nil_append]
 (repeat first|refine uA ?_|(refine uK ?_ ?_;focus first|omega|(intros;simp_all<;>omega))|simp (disch:=omega) only [go_sem,Nat.reduceBEq])
 (refine uJ rfl (fun hc=>?_) fun hc=>?_)
 ·have hi':i < links.length:=by omega
  have hgl:=c6T hi'
  have hgq:=c6T (show i < q.length by omega)
  generalize links[i]=l at hgl
  generalize q[i]'_=t at hgq
  have ht:=hq t (c6W hgq)
  have hlb:=lb l (c6W hgl)
  have hF':=(c2o (l:=l) (show i < 3 by omega) hF ht hlb).2
  have hn':=hF.mono (c2G (show i < 3 by omega)).1
  rw [drop_at (c6K hgl hgq),X4] at hg
  have c1:=c5C t (ht.mono (by decide))
  have s1:=c5t t (ht.mono (by decide))
  have bc:=c0Q ht
  have bs':=b9f ht
  generalize hCS:a9N t=ct at *
  generalize hSS:a9T t=st at *
  obtain ⟨nx,ny,nc,ns⟩:=n
  obtain ⟨b1,b2,b3,b4⟩:=hn'
  simp only at b1 b2 b3 b4
  have m1:=a1d nc ct (b3.mono (by decide)) (bc.mono (by decide))
  have m2:=a1d ns st (b4.mono (by decide)) (bs'.mono (by decide))
  have v1:=O4 b3 bc
  have v2:=O4 b4 bs'
  have m3:=b6H _ _ (v1.mono (by decide)) (v2.mono (by decide))
  have v3:=a8D v1 v2
  have m4:=c2n _ (v3.mono (by decide))
  have v4:=b0o v3
  have m5:=a1d ns ct (b4.mono (by decide)) (bc.mono (by decide))
  have m6:=a1d nc st (b3.mono (by decide)) (bs'.mono (by decide))
  have v5:=O4 b4 bc
  have v6:=O4 b3 bs'
  have m7:=a4I _ _ (v5.mono (by decide)) (v6.mono (by decide))
  have v7:=a2D v5 v6
  have m8:=c2n _ (v7.mono (by decide))
  have v8:=b0o v7
  have p1:=a3P hlb (by decide)
  have o1:=a0B l.length (hlb.mono (by decide))
  rw [show Sp.mk (Nm.d9 l.length) (Nm.d9 l.length)=ptS l.length from rfl] at o1
  have m9:=a1d (ptS l.length) _ (p1.mono (by decide)) (v4.mono (by decide))
  have ma:=a1d (ptS l.length) _ (p1.mono (by decide)) (v8.mono (by decide))
  have v9:=O4 p1 v4
  have va:=O4 p1 v8
  have mb:=a4I nx _ (b1.mono (by decide)) (v9.mono (by decide))
  have mc:=a4I ny _ (b2.mono (by decide)) (va.mono (by decide))
  have e1:a5I ⟨nx,ny,nc,ns⟩ t=⟨nx,ny,a3o (a3O (J6 nc ct) (J6 ns st)),a3o (Y1 (J6 ns ct) (J6 nc st))⟩:=by rw [<- hCS,<- hSS];rfl
  have e2:b7X (a5I ⟨nx,ny,nc,ns⟩ t) l=⟨Y1 nx (J6 (ptS l.length) (a3o (a3O (J6 nc ct) (J6 ns st)))),Y1 ny (J6 (ptS l.length) (a3o (Y1 (J6 ns ct) (J6 nc st)))),a3o (a3O (J6 nc ct) (J6 ns st)),a3o (Y1 (J6 ns ct) (J6 nc st))⟩:=by rw [e1];rfl
  generalize b7X (a5I ⟨nx,ny,nc,ns⟩ t) l=now' at *
  generalize a5I ⟨nx,ny,nc,ns⟩ t=next' at *
  clear v1 v2 v3 v4 v5 v6 v7 v8 v9 va b1 b2 b3 b4 bc bs' hCS hSS p1 hF
  generalize J6 nc ct=w1 at *
  generalize J6 ns st=w2 at *
  generalize J6 ns ct=w3 at *
  generalize J6 nc st=w4 at *
  generalize a3O w1 w2=w5 at *
  generalize Y1 w3 w4=w6 at *
  generalize a3o w5=w7 at *
  generalize a3o w6=w8 at *
  generalize ptS l.length=w9 at *
  generalize J6 w9 w7=wa at *
  generalize J6 w9 w8=wb at *
  generalize Y1 nx wa=wc at *
  generalize Y1 ny wb=wd at *
  subst e1 e2
  have hqi:(i:Int) < q.length:=by omega
  simp only [Sp.c,Sn.c,Sn.enc,snQ,rc,sb] at c1 s1 m1 m2 m3 m4 m5 m6 m7 m8 o1 m9 ma mb mc
  (repeat first|refine uA ?_|(refine uK ?_ ?_;focus first|omega|(intros;simp_all<;>omega))|simp (disch:=omega) only [go_sem,Nat.reduceBEq,Nat.reduceAdd,ww,hgl,hgq,c6V,c6U,Lk.enc,Sp.enc,Sn.enc,snQ,vts,sb,ho,c7a]|(refine uD c1 ?_ ?_ ?_;exact tz hw;exact rfl)|(refine uD s1 ?_ ?_ ?_;exact tz hw;exact rfl)|(refine uD m1 ?_ ?_ ?_;exact tz hw;exact rfl)|(refine uD m2 ?_ ?_ ?_;exact tz hw;exact rfl)|(refine uD m3 ?_ ?_ ?_;exact tz hw;exact rfl)|(refine uD m4 ?_ ?_ ?_;exact tz hw;exact rfl)|(refine uD m5 ?_ ?_ ?_;exact tz hw;exact rfl)|(refine uD m6 ?_ ?_ ?_;exact tz hw;exact rfl)|(refine uD m7 ?_ ?_ ?_;exact tz hw;exact rfl)|(refine uD m8 ?_ ?_ ?_;exact tz hw;exact rfl)|(refine uD o1 ?_ ?_ ?_;exact tz hw;exact rfl)|(refine uD m9 ?_ ?_ ?_;exact tz hw;exact rfl)|(refine uD ma ?_ ?_ ?_;exact tz hw;exact rfl)|(refine uD mb ?_ ?_ ?_;exact tz hw;exact rfl)|(refine uD mc ?_ ?_ ?_;exact tz hw;exact rfl))
  refine S.next (x:=(i,⟨nx,ny,nc,ns⟩,outs)) (i+1,⟨wc,wd,w7,w8⟩,outs++[⟨nx,ny,w7,w8⟩]) ⟨by simp only;omega,by simp only [c7e,ho];rfl,by simp only;rw [hg,c7A];rfl,hF'⟩ (by simp only;omega) (by simp only [c7G,c7i,c7q,Lq.enc,Sp.enc,Sn.enc,snQ,sb,List.cons_append,List.nil_append];exact (by (repeat first|refine uA ?_|(refine ⟨?_,?_⟩;focus first|rfl|simp [slot])|rfl|simp)))
 ·rw [List.drop_eq_nil_of_le (by rw [List.length_zip];omega),X4] at hg
  rw [hg]
  (repeat first|refine uA ?_|(refine uK ?_ ?_;focus first|omega|(intros;simp_all<;>omega))|simp (disch:=omega) only [go_sem,Nat.reduceBEq,Nat.reduceAdd,c6U])
  simp only [c7G,c7i,c7q,Lq.enc,Sp.enc,Sn.enc,snQ,sb,List.cons_append,List.nil_append]
  (refine S.done ?_;simp only [p8,go_sem,Nat.reduceBEq];(repeat (refine ⟨?_,?_⟩;focus first|trivial|omega|simp));exact j3.out rfl (Imp.tup (by (repeat' (first|exact j4.nil|exact Imp.refl rfl|exact Imp.frz rfl rfl rfl|exact Imp.F5|refine Imp.agg ?_|refine j4.cons ?_ ?_)))) rfl)
def a9m:N9:=⟨18,[.cell 2 true 12],.seq (.reg [OA 1 (.box 190 (TT 0)),OA 2 (.alloc 82 [.bool false,.string ⟨#[]⟩,.string ⟨#[]⟩,.bool false,.string ⟨#[]⟩,.string ⟨#[]⟩,.bool false,.string ⟨#[]⟩,.string ⟨#[]⟩,.bool false,.string
 ⟨#[]⟩,.string ⟨#[]⟩])]) (.seq (.reg [FF 3 0 1,FF 4 0 3,LL 5 3 4,FF 6 6 1,FF 7 0 6,LL 8 3 7,OA 9 (.build [.bool false,.string ⟨#[]⟩,.string ⟨#[]⟩,.bool false,.string ⟨#[]⟩,.string ⟨#[]⟩] [(0,(3,TT 5)),(3,(3,TT
 8))]),FF 10 0 1,FF 11 3 10,LL 12 3 11,FF 13 6 1,FF 14 3 13,LL 15 3 14,OA 16 (.build [.bool false,.string ⟨#[]⟩,.string ⟨#[]⟩,.bool false,.string ⟨#[]⟩,.string ⟨#[]⟩] [(0,(3,TT 12)),(3,(3,TT 15))]),OA 17 (.build
 [.bool false,.string ⟨#[]⟩,.string ⟨#[]⟩,.bool false,.string ⟨#[]⟩,.string ⟨#[]⟩,.bool false,.string ⟨#[]⟩,.string ⟨#[]⟩,.bool false,.string ⟨#[]⟩,.string ⟨#[]⟩] [(0,(6,TT 9)),(6,(6,TT 16))]),OB (.store 12 (TT
 2) (TT 17))]) .ret)⟩
theorem b6c:J5 eff Tryz.prog Tryz.f114=some a9m:=by kernel_rfl
theorem b6a:Tryz.prog.funcs[114]?=some Tryz.f114:=Tryz.func114
structure Bq where
 lx:Rat
 ly:Rat
 hx:Rat
 hy:Rat
def Bq.enc (b:Bq):List C:=[.v (.bool (Nm.ofQ b.lx).neg),sb (Nm.ofQ b.lx).num,sb (Nm.ofQ b.lx).den,.v (.bool (Nm.ofQ b.ly).neg),sb (Nm.ofQ b.ly).num,sb (Nm.ofQ b.ly).den,.v (.bool (Nm.ofQ b.hx).neg),sb (Nm.ofQ b.hx).num,sb (Nm.ofQ b.hx).den,.v (.bool (Nm.ofQ b.hy).neg),sb (Nm.ofQ b.hy).num,sb (Nm.ofQ b.hy).den]
theorem a7c:∀ (Z:List (Lk × Sp)) (n:Lq),(X4 n Z).length=Z.length+1
 | [],_=>rfl
 | (l,t)::r,n=>by rw [X4,c7m,a7c r,c7m]
def a6y:N9:=⟨79,[.tmp 4,.tmp 5],.seq (.reg [OA 2 (.box 69 (TT 0)),OA 4 (.mv (.const (.slice none 0 0))),OA 5 (.mv (II 0))]) (.seq (.reg [LL 18 12 2,MM 19 1,OA 20 (.call 112 [TT 18,TT 19]),MM 17 20,OA 21 (.ext (TT 17) 0),OA 22 (.ext
 (TT 17) 1),MM 6 21,MM 7 22]) (.seq (.seq (.reg [MM 23 7,OA 24 (.bin .neq (TT 23) (II 0))]) (.cond (TT 24) (.seq (.reg [MM 25 7,OA 4 (.mv (.const (.slice none 0 0))),MM 5 25]) .ret) .skip)) (.seq (.reg [OA 8 (.mv (.const
 (.slice none 0 0)))]) (.seq (.seq (.reg [FF 26 11 2,VV 27 26,OA 28 (.len false (TT 27)),OA 29 (.mv (II 0))]) (.block 0 (.loop (.seq (.reg [OA 30 (.bin .lss (TT 29) (TT 28))]) (.seq (.cond (TT 30) .skip (.exit 0)) (.seq
 (.block 1 (.seq (.reg [MM 31 29,OA 32 (.q8 16 (TT 27) (TT 29)),LL 33 16 32,OA 10 (.alloc 74 [.bool false,.string ⟨#[]⟩,.string ⟨#[]⟩,.bool false,.string ⟨#[]⟩,.string ⟨#[]⟩,.bool false,.string ⟨#[]⟩,.string ⟨#[]⟩,
 .bool false,.string ⟨#[]⟩,.string ⟨#[]⟩,.bool false,.string ⟨#[]⟩,.string ⟨#[]⟩,.slice none 0 0]),MM 9 31,OB (.store 16 (TT 10) (TT 33))]) (.seq (.E8 [.q,.q,.q,.q,.q,.q,.q,.q,.q,.q,.q,.l,.a,.a,.e (some
 11) false,.e (some 12) true] [MM 35 6,MM 36 9,OA 37 (.q8 24 (TT 35) (TT 36)),LL 38 24 37,FF 39 15 10,VV 40 39,OA 41 (.q8 6 (TT 40) (II 0)),LL 42 6 41,OA 43 (.call 113 [TT 38,TT 42]),MM 34 43,OA 44 (.ext (TT 34)
 0),OA 45 (.ext (TT 34) 1),OA 11 (.alloc 108 [.bool false,.string ⟨#[]⟩,.string ⟨#[]⟩,.bool false,.string ⟨#[]⟩,.string ⟨#[]⟩]),OA 12 (.alloc 108 [.bool false,.string ⟨#[]⟩,.string ⟨#[]⟩,.bool false,.string ⟨#[]⟩,
 .string ⟨#[]⟩]),OB (.store 6 (TT 11) (TT 44)),OB (.store 6 (TT 12) (TT 45))]) (.seq (.seq (.reg [FF 46 15 10,VV 47 46,OA 48 (.a2u 6 (TT 47) (some (II 1)) none),OA 49 (.len false (TT 48)),OA 50 (.mv (II 0))]) (.block 2
 (.loop (.seq (.reg [OA 51 (.bin .lss (TT 50) (TT 49))]) (.seq (.cond (TT 51) .skip (.exit 2)) (.seq (.block 3 (.seq (.reg [OA 52 (.q8 6 (TT 48) (TT 50)),LL 53 6 52,OA 14 (.alloc 59 [.bool false,.string ⟨#[]⟩,.string
 ⟨#[]⟩,.bool false,.string ⟨#[]⟩,.string ⟨#[]⟩]),OB (.store 6 (TT 14) (TT 53))]) (.seq (.E8 [.q,.q,.q,.q,.q,.q,.q,.q,.l,.a,.a,.e (some 15) false,.e (some 16) true] [MM 55 6,MM 56 9,OA 57 (.q8 24 (TT 55) (TT
 56)),LL 58 24 57,LL 59 6 14,OA 60 (.call 113 [TT 58,TT 59]),MM 54 60,OA 61 (.ext (TT 54) 0),OA 62 (.ext (TT 54) 1),OA 15 (.alloc 108 [.bool false,.string ⟨#[]⟩,.string ⟨#[]⟩,.bool false,.string ⟨#[]⟩,.string
 ⟨#[]⟩]),OA 16 (.alloc 108 [.bool false,.string ⟨#[]⟩,.string ⟨#[]⟩,.bool false,.string ⟨#[]⟩,.string ⟨#[]⟩]),OB (.store 6 (TT 15) (TT 61)),OB (.store 6 (TT 16) (TT 62))]) (.E8 [.q,.q,.q,.q,.q,.q,.e none true,.e
 none true] [LL 63 6 11,LL 64 6 15,OA 65 (.call 43 [TT 63,TT 64]),LL 66 6 12,LL 67 6 16,OA 68 (.call 43 [TT 66,TT 67]),OB (.store 6 (TT 11) (TT 65)),OB (.store 6 (TT 12) (TT 68))])))) (.reg [OA 69 (.bin .add (TT 50) (II
 1)),MM 50 69]))))))) (.reg [MM 70 8,LL 71 6 11,LL 72 6 12,OA 73 (.build [.bool false,.string ⟨#[]⟩,.string ⟨#[]⟩,.bool false,.string ⟨#[]⟩,.string ⟨#[]⟩,.bool false,.string ⟨#[]⟩,.string ⟨#[]⟩,.bool false,.string
 ⟨#[]⟩,.string ⟨#[]⟩,.bool false,.string ⟨#[]⟩,.string ⟨#[]⟩,.bool false,.string ⟨#[]⟩,.string ⟨#[]⟩,.bool false,.string ⟨#[]⟩,.string ⟨#[]⟩,.bool false,.string ⟨#[]⟩,.string ⟨#[]⟩] [(0,(6,TT 71)),(6,(6,TT
 72))]),OA 74 (.call 114 [TT 73]),OA 75 (.bsl 82 12 1 [.bool false,.string ⟨#[]⟩,.string ⟨#[]⟩,.bool false,.string ⟨#[]⟩,.string ⟨#[]⟩,.bool false,.string ⟨#[]⟩,.string ⟨#[]⟩,.bool false,.string ⟨#[]⟩,.string ⟨#[]⟩]
 [(0,TT 74)]),OA 76 (.app 82 12 160 (TT 70) (TT 75)),MM 8 76]))))) (.reg [OA 77 (.bin .add (TT 29) (II 1)),MM 29 77]))))))) (.seq (.reg [MM 78 8,MM 4 78,OA 5 (.mv (II 0))]) .ret)))))⟩
theorem b1I:J5 eff Tryz.prog Tryz.f46=some a6y:=by kernel_rfl
theorem b1m:Tryz.prog.funcs[46]?=some Tryz.f46:=Tryz.func46
theorem c4M (x y:Sp):FZ 114 [.agg (x.enc++y.enc++[.v (.bool false),sb [],sb [],.v (.bool false),sb [],sb [],.v (.bool false),sb [],sb [],.v (.bool false),sb [],sb []])] (.agg (Bq.mk x.lo y.lo x.hi y.hi).enc):=by
 refine kW b6a b6c (by rfl) fun w O hw=>?_
 obtain ⟨x1,x2⟩:=x
 obtain ⟨y1,y2⟩:=y
 simp only [a9m,j5,TT,OA,OB,LL,FF]
 simp only [Bq.enc,Sp.enc,Sn.enc,snQ,sb,List.cons_append,List.nil_append]
 (repeat first|refine uA ?_|(refine uK ?_ ?_;focus first|omega|(intros;simp_all<;>omega))|simp (disch:=omega) only [go_sem,Nat.reduceBEq,Nat.reduceAdd])
 (refine S.done ?_;simp only [p8,r9,go_sem,Nat.reduceBEq,Nat.reduceAdd,Nat.reduceLeDiff];(repeat (refine ⟨?_,?_⟩;focus first|trivial|omega|simp));exact j3.out rfl (Imp.refl rfl) rfl)
theorem b0M {l:Lk} (h:O7 l=0):3<=l.shape.length/\l.shape.length<=8/\∀ v ∈ l.shape,Rb 8 v.x/\Rb 8 v.y:=by
 unfold O7 at h
 split at h
 ·cases h
 split at h
 ·cases h
 split at h
 ·rename_i h1;exact absurd h h1
 ·rename_i h1
  have h1:L6 l.shape 8=0:=Classical.not_not.1 h1
  unfold L6 at h1
  split at h1
  ·cases h1
  split at h1
  ·cases h1
  split at h
  ·rename_i h4
   refine ⟨by omega,by omega,fun v hv=>?_⟩
   have:=List.all_eq_true.1 h4 v hv
   simp only [c7c] at this
   exact ⟨(U9 this.1).mono (by decide),(U9 this.2).mono (by decide)⟩
  ·cases h
def ptI (f:Lq) (s:Sp × Sp) (r:List Vt):Sp × Sp:=r.foldl (fun s v=>(U8 s.1 (atX f v),U8 s.2 (atY f v))) s
def shB (f:Lq) (l:Lk):Bq:=match l.shape with
 | []=>⟨0,0,0,0⟩
 | v::r=>⟨(ptI f (atX f v,atY f v) r).1.lo,(ptI f (atX f v,atY f v) r).2.lo,(ptI f (atX f v,atY f v) r).1.hi,(ptI f (atX f v,atY f v) r).2.hi⟩
def a2G (T:List Lq) (L:List Lk):List Bq:=(L.zip T).map fun z=>shB z.2 z.1
theorem b8d {f:Lq} {v:Vt} (hf:Zl 56623104 f) (h1:Rb 8 v.x) (h2:Rb 8 v.y):Zb 173015040 (atX f v)/\Zb 173015040 (atY f v):=by
 have p1:=a3P h1 (by decide)
 have p2:=a3P h2 (by decide)
 exact ⟨(a2D hf.1 (a8D (O4 p1 hf.2.2.1) (O4 p2 hf.2.2.2))).mono (by decide),(a2D hf.2.1 (a2D (O4 p1 hf.2.2.2) (O4 p2 hf.2.2.1))).mono (by decide)⟩
theorem b8m {f:Lq} (hf:Zl 56623104 f):∀ (r:List Vt) (s:Sp × Sp),Zb 173015040 s.1/\Zb 173015040 s.2->(∀ v ∈ r,Rb 8 v.x/\Rb 8 v.y)->Zb 173015040 (ptI f s r).1/\Zb 173015040 (ptI f s r).2
 | [],_,h,_=>h
 | v::r,s,h,hr=>by
  have hv:=hr v (by simp)
  have ha:=b8d hf hv.1 hv.2
  exact b8m hf r _ ⟨a3B h.1 ha.1,a3B h.2 ha.2⟩ fun u hu=>hr u (by simp [hu])
theorem c1Q (f:Lq) (s:Sp × Sp) {r:List Vt} {i:Nat} {v:Vt} (h:r[i]?=some v):ptI f s (r.take (i+1))=(U8 (ptI f s (r.take i)).1 (atX f v),U8 (ptI f s (r.take i)).2 (atY f v)):=by
 unfold ptI
 rw [take_at h,List.foldl_append]
 rfl
theorem a9t:∀ (Z:List (Lk × Sp)) (i:Nat) (n:Lq),i+Z.length<=3->Zl (SB i) n->(∀ z ∈ Z,Rb 8 z.1.length/\Zb 16384 z.2)->∀ f ∈ X4 n Z,Zl 56623104 f
 | [],i,n,hi,hn,_,f,hf=>by
  rw [X4,List.mem_singleton] at hf
  rw [hf]
  exact hn.mono (b7I (by simpa using hi))
 | (l,t)::r,i,n,hi,hn,hz,f,hf=>by
  rw [c7m] at hi
  have h1:=hz (l,t) (by simp)
  have h2:=c2o (l:=l) (show i < 3 by omega) hn h1.2 h1.1
  rw [X4,List.mem_cons] at hf
  rcases hf with rfl|hf
  ·exact h2.1.mono (b7I (by omega))
  ·exact a9t r (i+1) _ (by omega) h2.2 (fun z hzz=>hz z (by simp [hzz])) f hf
theorem b6I {a:Am} (ha:J2 a=0):Zl (SB 0) (a3b a.base):=by
 obtain ⟨fb,_⟩:=b0I ha
 have rT:=b1W (h:=a.base.half) (fb.2.2.mono (show tB 0<=64 by decide)) (by decide)
 have rC:Rb 262144 (Nm.ofQ (a2q a.base.half (J8 a.base.half a.base.t))):=(c0K _ rT).mono (by decide)
 have rS:Rb 262144 (Nm.ofQ (Y9 (J8 a.base.half a.base.t))):=(a3R rT).mono (by decide)
 exact ⟨(a3P (fb.1.mono (show xB 0<=64 by decide)) (by decide)).mono (by decide),(a3P (fb.2.1.mono (show xB 0<=64 by decide)) (by decide)).mono (by decide),⟨rC,rC⟩,⟨rS,rS⟩⟩
theorem c0i {E:Ctx} (hP:E.P=Tryz.prog) (ht0:Tz E) (a:Am) (q:List Sp) (hl:Ab 1073741824 a) (ha:J2 a=0) (hql:q.length=a.links.length) (hq:∀ r ∈ q,Zb 16384 r):j6 E [] 46 [a.c,.sl 6 (q.map Sp.enc)] (.tup [.rv 1,ints 0]) [.gone,.row 82 12 ((a2G (X4 (a3b a.base) (a.links.zip q)) a.links).map Bq.enc)] []:=by
 obtain ⟨P,eff',N,w0,own0,av0,nu0,pk0⟩:=E
 simp only at hP
 subst hP
 refine j6.ofT (eff:=eff) ht0 b1m b1I (by exact c7j rfl) fun w' own av ν hν ht=>?_
 have hν0:ν.length<=0:=by rw [hν];exact c7b _
 have h:=c1v a q hl ha hql hq
 have hn:(X4 (a3b a.base) (a.links.zip q)).length=a.links.length+1:=by rw [a7c,List.length_zip];omega
 have hb:=a9t (a.links.zip q) 0 (a3b a.base) (by rw [List.length_zip];have:=(Z0 ha).2;omega) (b6I ha) (fun z hz=>⟨(b0I ha).2 _ (List.of_mem_zip hz).1,hq _ (List.of_mem_zip hz).2⟩)
 have hls:=fun l hm=>b0M ((O8 ha).2 l hm)
 have hn3:=(Z0 ha).2
 generalize X4 (a3b a.base) (a.links.zip q)=T at *
 have hRl:(a2G T a.links).length=a.links.length:=by unfold a2G;rw [c6U,List.length_zip];omega
 have hRg:∀ {i:Nat} {l:Lk} {f:Lq},a.links[i]?=some l->T[i]?=some f->(a2G T a.links)[i]?=some (shB f l):=fun h1 h2=>by
  unfold a2G
  rw [c7f,N7 h1 h2]
  rfl
 generalize a2G T a.links=R at *
 obtain ⟨name,base,links⟩:=a
 simp only at hn hn3 hRl hRg hls
 simp only [a6y,j5,TT,II,OA,OB,MM,LL,VV,FF]
 simp only [Am.c,Am.enc,lks,sb,ints] at h ⊢
 (repeat first|refine uA ?_|(refine uK ?_ ?_;focus first|omega|(intros;simp_all<;>omega))|simp (disch:=omega) only [go_sem,Nat.reduceBEq,Nat.reduceAdd]|(refine uD h ?_ ?_ ?_;exact ht;exact rfl))
 refine S.cond rfl (fun hc=>by simp at hc) (fun hc=>?_)
 (repeat first|refine uA ?_|(refine uK ?_ ?_;focus first|omega|(intros;simp_all<;>omega))|simp (disch:=omega) only [go_sem,Nat.reduceBEq,Nat.reduceAdd,c6U])
 refine S.loop (X:=Nat) (fun i=>⟨[(6,.sl 24 (T.map Lq.enc)),(8,.rv 1),(27,lks links),(28,ints links.length),(29,ints i)],[.gone,.row 82 12 ((R.take i).map Bq.enc)]⟩) (fun i=>i<=links.length) (fun i=>links.length-i) 0 (c6Z _) (Ent.trans (Ent.pack 8 82 12 rfl) (by (repeat first|refine uA ?_|(refine ⟨?_,?_⟩;focus first|rfl|simp [slot])|rfl|simp|exact c6X hν0 (by simp)))) ?_
 intro i hi
 clear h
 simp only [lks,ints]
 (repeat first|refine uA ?_|(refine uK ?_ ?_;focus first|omega|(intros;simp_all<;>omega))|simp (disch:=omega) only [go_sem,Nat.reduceBEq])
 (refine uJ rfl (fun hc=>?_) fun hc=>?_)
 ·have hi':i < links.length:=by omega
  have hgl:=c6T hi'
  have hgf:=c6T (show i < T.length by omega)
  generalize links[i]=l at *
  generalize T[i]'_=f at *
  have hap:=take_at (hRg hgl hgf)
  have htl:(R.take i).length=i:=by rw [c7d];omega
  have bf:=hb f (c6W hgf)
  obtain ⟨s1,s2,s3⟩:=hls l (c6W hgl)
  unfold shB at hap
  obtain ⟨len,low,high,spd,brk,shp⟩:=l
  cases shp with
  | nil=>simp at s1
  | cons v r=>
  simp only [c7m] at s1 s2 s3 hap
  have hv:=s3 v (by simp)
  have hr:=fun u hu=>s3 u (List.mem_cons_of_mem v hu)
  have o1:=b9L f v (bf.mono (by decide)) (hv.1.mono (by decide)) (hv.2.mono (by decide))
  have b1:=b8d bf hv.1 hv.2
  have hat:=fun u hu=>b9L f u (bf.mono (by decide)) ((hr u hu).1.mono (by decide)) ((hr u hu).2.mono (by decide))
  have hab:=fun u hu=>b8d bf (hr u hu).1 (hr u hu).2
  have hpb:=fun j=>b8m bf (r.take j) (atX f v,atY f v) b1 (fun u hu=>hr u (List.mem_of_mem_take hu))
  have hps:=fun j u=>c1Q f (atX f v,atY f v) (r:=r) (i:=j) (v:=u)
  have hp0:ptI f (atX f v,atY f v) (r.take 0)=(atX f v,atY f v):=rfl
  have hpe:ptI f (atX f v,atY f v) r=ptI f (atX f v,atY f v) (r.take r.length):=by rw [c7l]
  rw [hpe] at hap
  generalize hP:(fun j=>ptI f (atX f v,atY f v) (r.take j))=P
  have hPj:∀ j,ptI f (atX f v,atY f v) (r.take j)=P j:=fun j=>by rw [<- hP]
  simp only [hPj] at hpb hps hp0 hap
  clear hP hPj hpe hls hRg b1 hv hr bf s3
  simp only [Vt.enc,Lq.enc,Sp.enc,Sp.c,Sn.c,Sn.enc,snQ,sb,List.cons_append,List.nil_append] at o1
  (repeat first|refine uA ?_|(refine uK ?_ ?_;focus first|omega|(intros;simp_all<;>omega))|simp (disch:=omega) only [go_sem,Nat.reduceBEq,Nat.reduceAdd,hgl,hgf,c6V,c6U,Lk.enc,Lq.enc,Sp.enc,Sn.enc,snQ,vts,Vt.enc,sb,c7i,c7m,List.getElem?_cons_zero,List.cons_append,List.nil_append,Nat.add_sub_cancel,c7l,c7a,Int.toNat_zero]|(refine uD o1 ?_ ?_ ?_;exact ht;exact rfl))
  refine S.loop (X:=Nat) (fun j=>⟨[(6,.sl 24 (T.map Lq.enc)),(8,.rv 1),(9,ints i),(11,.bp 3 0),(12,.bp 4 0),(27,lks links),(28,ints links.length),(29,ints i),(48,vts r),(49,ints r.length),(50,ints j)],[.gone,.row 82 12 ((R.take i).map Bq.enc),.gone,.box 108 (P j).1.enc,.box 108 (P j).2.enc]⟩) (fun j=>j<=r.length) (fun j=>r.length-j) 0 (c6Z _) (by rw [hp0];simp only [Sp.enc,Sn.enc,snQ,sb];exact (by (repeat first|refine uA ?_|(refine ⟨?_,?_⟩;focus first|rfl|simp [slot])|rfl|simp|exact c6X hν0 (by simp)))) ?_
  intro j hj
  clear o1 hp0
  simp only [lks,vts,ints,Sp.enc,Sn.enc,snQ,sb]
  (repeat first|refine uA ?_|(refine uK ?_ ?_;focus first|omega|(intros;simp_all<;>omega))|simp (disch:=omega) only [go_sem,Nat.reduceBEq])
  (refine uJ rfl (fun hc=>?_) fun hc=>?_)
  ·have hj':j < r.length:=by omega
   have hgu:=c6T hj'
   generalize r[j]=u at *
   have hu:=c6W hgu
   have k1:=hat u hu
   have k2:=a3p (P j).1 (atX f u) ((hpb j).1.mono (by decide)) ((hab u hu).1.mono (by decide))
   have k3:=a3p (P j).2 (atY f u) ((hpb j).2.mono (by decide)) ((hab u hu).2.mono (by decide))
   have hs:=hps j u hgu
   clear hat hab hpb hps
   generalize U8 (P j).1 (atX f u)=y1 at *
   generalize U8 (P j).2 (atY f u)=y2 at *
   generalize atX f u=y3 at *
   generalize atY f u=y4 at *
   simp only [Vt.enc,Lq.enc,Sp.enc,Sp.c,Sn.c,Sn.enc,snQ,sb,List.cons_append,List.nil_append] at k1 k2 k3
   (repeat first|refine uA ?_|(refine uK ?_ ?_;focus first|omega|(intros;simp_all<;>omega))|simp (disch:=omega) only [go_sem,Nat.reduceBEq,Nat.reduceAdd,ww,hgu,hgf,c6V,c6U,Lq.enc,Sp.enc,Sn.enc,snQ,Vt.enc,sb,c7i,c7m,List.getElem?_cons_zero,List.cons_append,List.nil_append,c7a]|(refine uD k1 ?_ ?_ ?_;exact ht;exact rfl)|(refine uD k2 ?_ ?_ ?_;exact ht;exact rfl)|(refine uD k3 ?_ ?_ ?_;exact ht;exact rfl))
   refine S.next (j+1) (by omega) (by omega) (by rw [hs];simp only [Sp.enc];exact (by (repeat first|refine uA ?_|(refine ⟨?_,?_⟩;focus first|rfl|simp [slot])|rfl|simp|exact c6X hν0 (by simp))))
  ·have hj':j=r.length:=by omega
   subst hj'
   have k:=c4M (P r.length).1 (P r.length).2
   generalize P r.length=p at *
   simp only [Bq.enc,Sp.enc,Sn.enc,snQ,sb,List.cons_append,List.nil_append] at k
   (repeat first|refine uA ?_|(refine uK ?_ ?_;focus first|omega|(intros;simp_all<;>omega))|simp (disch:=omega) only [go_sem,Nat.reduceBEq,Nat.reduceAdd,ww,htl,c6U,c7i,c7m,List.getElem?_cons_zero,List.cons_append,List.nil_append]|(refine uD k ?_ ?_ ?_;exact ht;exact rfl))
   refine S.next (i+1) (by omega) (by omega) (by simp only [hap,c7G,c7i,c7q,Bq.enc,sb];exact (by (repeat first|refine uA ?_|(refine ⟨?_,?_⟩;focus first|rfl|simp [slot])|rfl|simp|exact c6X hν0 (by simp))))
 ·have hi':i=links.length:=by omega
  subst hi'
  rw [c7o (by omega)]
  (repeat first|refine uA ?_|(refine uK ?_ ?_;focus first|omega|(intros;simp_all<;>omega))|simp (disch:=omega) only [go_sem,Nat.reduceBEq])
  (refine S.done ?_;simp only [p8,go_sem,Nat.reduceBEq];(repeat (refine ⟨?_,?_⟩;focus first|trivial|omega|simp));exact j3.K5 (Imp.tup (by (repeat' (first|exact j4.nil|exact Imp.refl rfl|exact Imp.frz rfl rfl rfl|exact Imp.F5|refine Imp.agg ?_|refine j4.cons ?_ ?_)))) (by (repeat first|refine uA ?_|(refine ⟨?_,?_⟩;focus first|rfl|simp [slot])|rfl|simp)) (c6X hν0 (by simp)))
def a7q:N9:=⟨28,[.cell 4 true 12],.seq (.reg [OA 2 (.box 82 (TT 0)),OA 3 (.box 29 (TT 1)),OA 4 (.alloc 82 [.bool false,.string ⟨#[]⟩,.string ⟨#[]⟩,.bool false,.string ⟨#[]⟩,.string ⟨#[]⟩,.bool false,.string ⟨#[]⟩,.string ⟨#[]⟩,
 .bool false,.string ⟨#[]⟩,.string ⟨#[]⟩])]) (.seq (.E8 [.q,.q,.q,.q,.q,.q,.q,.q,.q,.q,.q,.q,.q,.q,.q,.q,.q,.q,.q,.q,.q,.q,.q,.e none true] [FF 5 0 2,FF 6 0 5,LL 7 3 6,LL 8 3 3,OA 9 (.call 15 [TT 7,
 TT 8]),FF 10 0 2,FF 11 3 10,LL 12 3 11,LL 13 3 3,OA 14 (.call 15 [TT 12,TT 13]),OA 15 (.build [.bool false,.string ⟨#[]⟩,.string ⟨#[]⟩,.bool false,.string ⟨#[]⟩,.string ⟨#[]⟩] [(0,(3,TT 9)),(3,(3,TT 14))]),FF
 16 6 2,FF 17 0 16,LL 18 3 17,LL 19 3 3,OA 20 (.call 38 [TT 18,TT 19]),FF 21 6 2,FF 22 3 21,LL 23 3 22,LL 24 3 3,OA 25 (.call 38 [TT 23,TT 24]),OA 26 (.build [.bool false,.string ⟨#[]⟩,.string ⟨#[]⟩,.bool false,
 .string ⟨#[]⟩,.string ⟨#[]⟩] [(0,(3,TT 20)),(3,(3,TT 25))]),OA 27 (.build [.bool false,.string ⟨#[]⟩,.string ⟨#[]⟩,.bool false,.string ⟨#[]⟩,.string ⟨#[]⟩,.bool false,.string ⟨#[]⟩,.string ⟨#[]⟩,.bool false,
 .string ⟨#[]⟩,.string ⟨#[]⟩] [(0,(6,TT 15)),(6,(6,TT 26))]),OB (.store 12 (TT 4) (TT 27))]) .ret)⟩
theorem b3n:J5 eff Tryz.prog Tryz.f50=some a7q:=by kernel_rfl
theorem b3s:Tryz.prog.funcs[50]?=some Tryz.f50:=Tryz.func50
def Bb (k:Nat) (b:Bq):Prop:=Rb k (Nm.ofQ b.lx)/\Rb k (Nm.ofQ b.ly)/\Rb k (Nm.ofQ b.hx)/\Rb k (Nm.ofQ b.hy)
def a8E (b:Bq) (r:Rat):Bq:=⟨b.lx-r,b.ly-r,b.hx+r,b.hy+r⟩
theorem b6R {k m:Nat} {b:Bq} {r:Rat} (h:Bb k b) (hr:Rb m (Nm.ofQ r)):Bb (k+m+1) (a8E b r):=⟨R4 h.1 hr,R4 h.2.1 hr,Q9 h.2.2.1 hr,Q9 h.2.2.2 hr⟩
def b0c (b:Bq) (r:Rat):Bq:=a8E b (G9 r 0)
theorem c3h (b:Bq) (r:Rat) (hb:Bb 1073741824 b) (hr:Rb 1073741824 (Nm.ofQ r)):FZ 134 [.agg b.enc,rq r] (.agg (b0c b r).enc):=by
 refine kW Tryz.func134 (by cbv) (by rfl) fun w O hw=>?_
 obtain ⟨lx,ly,hx,hy⟩:=b
 obtain ⟨b1,b2,b3,b4⟩:=hb
 simp only at b1 b2 b3 b4
 have o0:=a5F
 have o5:=a3Y (Nm.ofQ r) (Nm.ofQ 0) (hr.mono (by decide)) (V6.mono (by decide))
 rw [Nm.p9,Nm.p9] at o5
 have hm:Rb 1073741824 (Nm.ofQ (G9 r 0)):=a2p hr (V6.mono (by decide))
 unfold b0c a8E
 simp only
 generalize G9 r 0=r' at *
 have o1:=a5M lx r' (b1.mono (by decide)) (hm.mono (by decide))
 have o2:=a5M ly r' (b2.mono (by decide)) (hm.mono (by decide))
 have o3:=a3L hx r' (b3.mono (by decide)) (hm.mono (by decide))
 have o4:=a3L hy r' (b4.mono (by decide)) (hm.mono (by decide))
 generalize lx-r'=x1 at *
 generalize ly-r'=x2 at *
 generalize hx+r'=x3 at *
 generalize hy+r'=x4 at *
 generalize (0:Rat)=z at *
 simp only [j5,TT,II,OA,OB,LL,FF]
 simp only [Bq.enc,rq,rc,sb] at o0 o1 o2 o3 o4 o5 ⊢
 (repeat first|refine uA ?_|(apply uK;focus first|omega|(intros;simp_all<;>omega))|simp (disch:=omega) only [go_sem,Nat.reduceBEq,Nat.reduceAdd]|(apply uD o0;exact tz hw;rfl)|(apply uD o5;exact tz hw;rfl)|(apply uD o1;exact tz hw;rfl)|(apply uD o2;exact tz hw;rfl)|(apply uD o3;exact tz hw;rfl)|(apply uD o4;exact tz hw;rfl))
 (refine S.done ?_;simp only [p8,r9,go_sem,Nat.reduceBEq,Nat.reduceAdd,Nat.reduceLeDiff];(repeat (refine ⟨?_,?_⟩;focus first|trivial|omega|simp));exact j3.out rfl (Imp.refl rfl) rfl)
def a8f (walk:Rat) (n:Int):Rat:=G9 walk 0*(n:Rat)
theorem c6p (p:Nm.Rt) (n:Int) (hp:Rb 1073741824 p) (h0:0<=n) (h1:n<=1000000):FZ 135 [rc p,ints n] (rq (a8f (Nm.d9 p) n)):=by
 refine kW Tryz.func135 (by cbv) (by rfl) fun w O hw=>?_
 have o0:=a5F
 have o1:=a3Y p (Nm.ofQ 0) (hp.mono (by decide)) (V6.mono (by decide))
 rw [Nm.p9] at o1
 have hm:Rb 1073741824 (Nm.ofQ (G9 (Nm.d9 p) 0)):=a2p (hp.fit (by decide)) (V6.mono (by decide))
 have o2:=a1l n (by omega) (by omega)
 have hn:Rb 8 (Nm.ofQ (n:Rat)):=by
  rw [a3z]
  exact ⟨Nm.F3 (by omega),by show (Nm.enc 1).length<=8;rw [Nm.Q5];decide⟩
 have o3:=a0V (G9 (Nm.d9 p) 0) (n:Rat) (hm.mono (by decide)) (hn.mono (by decide))
 unfold a8f
 generalize G9 (Nm.d9 p) 0*(n:Rat)=x1 at *
 generalize G9 (Nm.d9 p) 0=x2 at *
 have hmx:(if n < 0 then 0 else n)=n:=if_neg (by omega)
 generalize (n:Rat)=x3 at *
 generalize (0:Rat)=z at *
 simp only [j5,TT,II,OA,OB,MM,LL]
 simp only [rq,rc,sb,ints] at o0 o1 o2 o3 ⊢
 (repeat first|refine uA ?_|(apply uK;focus first|omega|(intros;simp_all<;>omega))|simp (disch:=omega) only [go_sem,Nat.reduceBEq,Nat.reduceAdd,hmx]|(apply uD o0;exact tz hw;rfl)|(apply uD o1;exact tz hw;rfl)|(apply uD o2;exact tz hw;rfl)|(apply uD o3;exact tz hw;rfl))
 (refine S.done ?_;simp only [p8,r9,go_sem,Nat.reduceBEq,Nat.reduceAdd,Nat.reduceLeDiff];(repeat (refine ⟨?_,?_⟩;focus first|trivial|omega|simp));exact j3.out rfl (Imp.refl rfl) rfl)
def a6w (b:Bq):Bool:=decide (Nm.q9 b.lx b.hx<=0) && decide (Nm.q9 b.ly b.hy<=0)
theorem b6w (b:Bq) (hb:Bb 4294967296 b):FZ 133 [.agg b.enc] (.v (.bool (a6w b))):=by
 refine kW Tryz.func133 (by cbv) (by rfl) fun w O hw=>?_
 obtain ⟨lx,ly,hx,hy⟩:=b
 obtain ⟨b1,b2,b3,b4⟩:=hb
 simp only at b1 b2 b3 b4
 have o1:=K8 (Nm.ofQ lx) (Nm.ofQ hx) (b1.mono (by decide)) (b3.mono (by decide))
 have o2:=K8 (Nm.ofQ ly) (Nm.ofQ hy) (b2.mono (by decide)) (b4.mono (by decide))
 rw [Nm.p9,Nm.p9] at o1 o2
 unfold a6w
 simp only
 generalize Nm.q9 lx hx=c1 at *
 generalize Nm.q9 ly hy=c2 at *
 simp only [j5,TT,II,OA,OC,MM,LL,FF,LG,FG]
 simp only [Bq.enc,rc,sb,ints] at o1 o2 ⊢
 (repeat first|refine uA ?_|(apply uK;focus first|omega|(intros;simp_all<;>omega))|simp (disch:=omega) only [go_sem,Nat.reduceBEq,Nat.reduceAdd]|(apply uD o1;exact tz hw;rfl)|(apply uD o2;exact tz hw;rfl))
 exact S.done (j3.out rfl (Imp.refl rfl) rfl)
def a7a (a b:Bq):Bool:=a6w a && a6w b && decide (Nm.q9 a.lx b.hx<=0) && decide (Nm.q9 b.lx a.hx<=0) && decide (Nm.q9 a.ly b.hy<=0) && decide (Nm.q9 b.ly a.hy<=0)
theorem b9J (a b:Bq) (ha:Bb 4294967296 a) (hb:Bb 4294967296 b):FZ 74 [.agg a.enc,.agg b.enc] (.v (.bool (a7a a b))):=by
 refine kW Tryz.func74 (by cbv) (by rfl) fun w O hw=>?_
 have v1:=b6w a ha
 have v2:=b6w b hb
 unfold a7a
 generalize a6w a=u1 at *
 generalize a6w b=u2 at *
 obtain ⟨lx,ly,hx,hy⟩:=a
 obtain ⟨kx,ky,gx,gy⟩:=b
 obtain ⟨a1,a2,a3,a4⟩:=ha
 obtain ⟨b1,b2,b3,b4⟩:=hb
 simp only at a1 a2 a3 a4 b1 b2 b3 b4
 have o1:=K8 (Nm.ofQ lx) (Nm.ofQ gx) (a1.mono (by decide)) (b3.mono (by decide))
 have o2:=K8 (Nm.ofQ kx) (Nm.ofQ hx) (b1.mono (by decide)) (a3.mono (by decide))
 have o3:=K8 (Nm.ofQ ly) (Nm.ofQ gy) (a2.mono (by decide)) (b4.mono (by decide))
 have o4:=K8 (Nm.ofQ ky) (Nm.ofQ hy) (b2.mono (by decide)) (a4.mono (by decide))
 rw [Nm.p9,Nm.p9] at o1 o2 o3 o4
 simp only
 generalize Nm.q9 lx gx=c1 at *
 generalize Nm.q9 kx hx=c2 at *
 generalize Nm.q9 ly gy=c3 at *
 generalize Nm.q9 ky hy=c4 at *
 simp only [j5,TT,II,OA,OC,MM,LL,LG,FG]
 simp only [Bq.enc,rc,sb,ints] at v1 v2 o1 o2 o3 o4 ⊢
 (repeat first|refine uA ?_|(apply uK;focus first|omega|(intros;simp_all<;>omega))|simp (disch:=omega) only [go_sem,Nat.reduceBEq,Nat.reduceAdd]|(apply uD v1;exact tz hw;rfl)|(apply uD v2;exact tz hw;rfl)|(apply uD o1;exact tz hw;rfl)|(apply uD o2;exact tz hw;rfl)|(apply uD o3;exact tz hw;rfl)|(apply uD o4;exact tz hw;rfl))
 exact S.done (j3.out rfl (Imp.refl rfl) rfl)
def Z7 (b:Bq):List Vt:=if 0<=Nm.q9 b.lx b.hx \/ 0<=Nm.q9 b.ly b.hy then [] else [⟨Nm.ofQ b.lx,Nm.ofQ b.ly⟩,⟨Nm.ofQ b.hx,Nm.ofQ b.ly⟩,⟨Nm.ofQ b.hx,Nm.ofQ b.hy⟩,⟨Nm.ofQ b.lx,Nm.ofQ b.hy⟩]
theorem c1n (b:Bq) (hb:Bb 4294967296 b):FZ 67 [.agg b.enc] (vts (Z7 b)):=by
 refine kW Tryz.func67 (by cbv) (by rfl) fun w O hw=>?_
 obtain ⟨lx,ly,hx,hy⟩:=b
 obtain ⟨b1,b2,b3,b4⟩:=hb
 simp only at b1 b2 b3 b4
 have o1:=K8 (Nm.ofQ lx) (Nm.ofQ hx) (b1.mono (by decide)) (b3.mono (by decide))
 have o2:=K8 (Nm.ofQ ly) (Nm.ofQ hy) (b2.mono (by decide)) (b4.mono (by decide))
 rw [Nm.p9,Nm.p9] at o1 o2
 unfold Z7
 simp only
 generalize Nm.q9 lx hx=c1 at *
 generalize Nm.q9 ly hy=c2 at *
 simp only [j5,TT,II,OA,OC,MM,LL,FF,LG,FG]
 simp only [Bq.enc,rc,sb,ints] at o1 o2 ⊢
 (repeat first|refine uA ?_|(apply uK;focus first|omega|(intros;simp_all<;>omega))|simp (disch:=omega) only [go_sem,Nat.reduceBEq,Nat.reduceAdd]|(apply uD o1;exact tz hw;rfl)|(apply uD o2;exact tz hw;rfl))
 refine S.cond rfl (fun hc=>?_) (fun hc=>?_)
 ·rw [if_pos (by first|simpa using hc|(simp at hc;omega)|(simp only [c7K,c7h] at hc;omega)|(revert hc;by_cases 0<=c1<;>by_cases 0<=c2<;>simp_all))]
  (repeat first|refine uA ?_|(apply uK;focus omega)|simp (disch:=omega) only [go_sem])
  exact S.done (j3.out rfl Imp.F5 rfl)
 ·rw [if_neg (by first|simpa using hc|(simp at hc;omega)|(simp only [c7K,c7h] at hc;omega)|(revert hc;by_cases 0<=c1<;>by_cases 0<=c2<;>simp_all))]
  (repeat first|refine uA ?_|(apply uK;focus first|omega|(intros;simp_all<;>omega))|simp (disch:=omega) only [go_sem,Nat.reduceBEq,Nat.reduceAdd])
  simp only [vts,c7i,c7q,Vt.enc,sb]
  exact S.done (j3.out rfl (Imp.frz rfl rfl rfl) rfl)
def b2a (a:Nm.Rt):Nm.Rt:=⟨false,Nm.enc (Nm.d9 a).num.natAbs,Nm.enc (Nm.d9 a).den⟩
theorem c4N {k:Nat} {a:Nm.Rt} (h:Rb k a) (hk:1<=k):Rb k (b2a a):=h.fit hk
def c2h (z:Lk × Nm.Rt × Nm.Rt):Bool:=decide z.2.2.H9 && !decide (0 < Nm.q9 (Nm.d9 (b2a z.2.2)) (Nm.d9 z.1.speed)) && !decide (Nm.q9 (Nm.d9 z.2.1+Nm.d9 z.2.2) (Nm.d9 z.1.low) < 0) && !decide (0 < Nm.q9 (Nm.d9 z.2.1+Nm.d9 z.2.2) (Nm.d9 z.1.high))
def a0D (Z:List (Lk × Nm.Rt × Nm.Rt)):Bool:=Z.all c2h
theorem b9Q (a:Am) (q u:List Nm.Rt) (hl:Ab 1073741824 a) (hq:q.length=a.links.length) (hu:u.length=a.links.length) (hqb:∀ r ∈ q,Rb 1073741824 r) (hub:∀ r ∈ u,Rb 1073741824 r):FZ 65 [a.c,rts q,rts u] (.v (.bool (a0D (a.links.zip (q.zip u))))):=by
  refine kW Tryz.func65 (by cbv) (by rfl) fun w O hw=>?_
  have hn:=hl.2.2.1
  have hlk:=hl.2.2.2
  obtain ⟨name,⟨bx,by',half,tu⟩,links⟩:=a
  simp only at hq hu hn hlk ⊢
  have hz0:a0D (links.zip (q.zip u))=a0D ((links.zip (q.zip u)).drop 0):=rfl
  generalize hB:a0D (links.zip (q.zip u))=B at *
  simp only [j5,TT,II,OA,OB,OC,MM,LL,VV,FF,MG,LG,FG]
  simp only [Am.c,Am.enc,lks,rts,sb]
  (repeat first|refine uA ?_|(refine uK ?_ ?_;focus first|omega|(intros;simp_all<;>omega))|simp (disch:=omega) only [go_sem,Nat.reduceBEq,Nat.reduceAdd,c6U])
  refine S.cond rfl (fun hc=>by simp at hc;omega) (fun hc=>?_)
  (repeat first|refine uA ?_|(refine uK ?_ ?_;focus first|omega|(intros;simp_all<;>omega))|simp (disch:=omega) only [go_sem,Nat.reduceBEq,Nat.reduceAdd,c6U])
  refine S.loop (X:=Nat) (fun i=>⟨[(1,rts q),(2,rts u),(17,lks links),(18,ints links.length),(19,ints i)],[]⟩) (fun i=>i<=links.length/\B=a0D ((links.zip (q.zip u)).drop i)) (fun i=>links.length-i) 0 ⟨c6Z _,hz0⟩ (by (repeat first|refine uA ?_|(refine ⟨?_,?_⟩;focus first|rfl|simp [slot])|rfl|simp)) ?_
  rintro i ⟨hi,hb⟩
  simp only [lks,rts,ints]
  (repeat first|refine uA ?_|(refine uK ?_ ?_;focus first|omega|(intros;simp_all<;>omega))|simp (disch:=omega) only [go_sem,Nat.reduceBEq])
  (refine uJ rfl (fun hc=>?_) fun hc=>?_)
  · have hi':i < links.length:=by omega
    have hgl:=c6T hi'
    have hgq:=c6T (show i < q.length by omega)
    have hgu:=c6T (show i < u.length by omega)
    generalize links[i]=l at *
    generalize q[i]'_=x at *
    generalize u[i]'_=y at *
    have rl:=hlk l (c6W hgl)
    have rx:=hqb x (c6W hgq)
    have ry:=hub y (c6W hgu)
    have o1:=a5c x y (rx.mono (by decide)) (ry.mono (by decide))
    have r1:=Q9 (rx.fit (by decide)) (ry.fit (by decide))
    have o2:=a1A y (ry.mono (by decide))
    have o3:=c0r y (ry.mono (by decide))
    have o4:=K8 (b2a y) l.speed ((c4N ry (by decide)).mono (by decide)) (rl.2.2.2.1.mono (by decide))
    have o5:=K8 (Nm.ofQ (Nm.d9 x+Nm.d9 y)) l.low (r1.mono (by decide)) (rl.2.1.mono (by decide))
    have o6:=K8 (Nm.ofQ (Nm.d9 x+Nm.d9 y)) l.high (r1.mono (by decide)) (rl.2.2.1.mono (by decide))
    rw [Nm.p9] at o5 o6
    rw [show (⟨false,Nm.enc (Nm.d9 y).num.natAbs,Nm.enc (Nm.d9 y).den⟩:Nm.Rt)=b2a y from rfl] at o3
    rw [drop_at (N7 hgl (N7 hgq hgu))] at hb
    unfold a0D at hb
    rw [List.all_cons] at hb
    generalize hko:c2h (l,x,y)=ok at hb
    unfold c2h at hko
    simp only at hko
    have hqi:(i:Int) < q.length:=by omega
    have hui:(i:Int) < u.length:=by omega
    clear rl rx ry r1 hlk hqb hub hB hz0
    generalize Nm.q9 (Nm.d9 (b2a y)) (Nm.d9 l.speed)=c1 at *
    generalize Nm.q9 (Nm.d9 x+Nm.d9 y) (Nm.d9 l.low)=c2 at *
    generalize Nm.q9 (Nm.d9 x+Nm.d9 y) (Nm.d9 l.high)=c3 at *
    generalize Nm.d9 x+Nm.d9 y=s at *
    generalize decide y.H9=g at *
    generalize b2a y=ya at *
    simp only [rq,rc,sb,ints] at o1 o2 o3 o4 o5 o6
    (repeat first|refine uA ?_|(refine uK ?_ ?_;focus first|omega|(intros;simp_all<;>omega))|simp (disch:=omega) only [go_sem,Nat.reduceBEq,Nat.reduceAdd,hgl,hgq,hgu,c6V,c6U,Lk.enc,rcs,vts,sb,c7a]|(refine uD o1 ?_ ?_ ?_;exact tz hw;exact rfl)|(refine uD o2 ?_ ?_ ?_;exact tz hw;exact rfl)|(refine uD o3 ?_ ?_ ?_;exact tz hw;exact rfl)|(refine uD o4 ?_ ?_ ?_;exact tz hw;exact rfl)|(refine uD o5 ?_ ?_ ?_;exact tz hw;exact rfl)|(refine uD o6 ?_ ?_ ?_;exact tz hw;exact rfl))
    refine S.cond rfl (fun hc=>?_) (fun hc=>?_)
    · have hB0:B=false:=by
        rw [hb,<- hko]
        revert hc
        cases g<;>by_cases h1:0 < c1<;>by_cases h2:c2 < 0<;>by_cases h3:0 < c3<;>simp [h1,h2,h3]
      rw [hB0]
      (repeat first|refine uA ?_|(refine uK ?_ ?_;focus first|omega|(intros;simp_all<;>omega))|simp (disch:=omega) only [go_sem])
      exact S.done (j3.out rfl (Imp.refl rfl) rfl)
    · have hB1:B=a0D ((links.zip (q.zip u)).drop (i+1)):=by
        rw [hb,<- hko]
        revert hc
        unfold a0D
        cases g<;>by_cases h1:0 < c1<;>by_cases h2:c2 < 0<;>by_cases h3:0 < c3<;>simp [h1,h2,h3]
      (repeat first|refine uA ?_|(refine uK ?_ ?_;focus first|omega|(intros;simp_all<;>omega))|simp (disch:=omega) only [go_sem,Nat.reduceBEq,ww])
      refine S.next (x:=i) (i+1) ⟨by omega,hB1⟩ (by omega) (by (repeat first|refine uA ?_|(refine ⟨?_,?_⟩;focus first|rfl|simp [slot])|rfl|simp))
  · have hi':i=links.length:=by omega
    subst hi'
    rw [List.drop_eq_nil_of_le (by rw [List.length_zip];omega)] at hb
    rw [hb]
    (repeat first|refine uA ?_|(refine uK ?_ ?_;focus first|omega|(intros;simp_all<;>omega))|simp (disch:=omega) only [go_sem])
    exact S.done (j3.out rfl (Imp.refl rfl) rfl)
def a0Z (px py:Rat) (walk:Nm.Rt) (n:Int):Bq:=b0c ⟨px,py,px,py⟩ (a8f (Nm.d9 walk) n)
theorem c2q {p:Nm.Rt} {n:Int} (hp:Rb 1048576 p) (h0:0<=n) (h1:n<=1000000):Rb 1048584 (Nm.ofQ (a8f (Nm.d9 p) n)):=by
 have hm:Rb 1048576 (Nm.ofQ (G9 (Nm.d9 p) 0)):=a2p (hp.fit (by decide)) (V6.mono (by decide))
 have hn:Rb 8 (Nm.ofQ (n:Rat)):=by
  rw [a3z]
  exact ⟨Nm.F3 (by omega),by show (Nm.enc 1).length<=8;rw [Nm.Q5];decide⟩
 exact H7 hm hn
theorem c3F (px py:Rat) (walk:Nm.Rt) (n:Int) (h1:Rb 1048576 (Nm.ofQ px)) (h2:Rb 1048576 (Nm.ofQ py)) (hw':Rb 1048576 walk) (n0:0<=n) (n1:n<=1000000):FZ 76 [.agg (Vt.mk (Nm.ofQ px) (Nm.ofQ py)).enc,rc walk,ints n] (.agg (a0Z px py walk n).enc):=by
 refine kW Tryz.func76 (by cbv) (by rfl) fun w O hw=>?_
 have o1:=c6p walk n (hw'.mono (by decide)) n0 n1
 have o2:=c3h ⟨px,py,px,py⟩ (a8f (Nm.d9 walk) n) ⟨h1.mono (by decide),h2.mono (by decide),h1.mono (by decide),h2.mono (by decide)⟩ ((c2q hw' n0 n1).mono (by decide))
 unfold a0Z
 generalize b0c ⟨px,py,px,py⟩ (a8f (Nm.d9 walk) n)=b at *
 generalize a8f (Nm.d9 walk) n=f at *
 obtain ⟨b1,b2,b3,b4⟩:=b
 simp only [j5,TT,OA,OB,MM,LL]
 simp only [Bq.enc,Vt.enc,rq,rc,sb,ints] at o1 o2 ⊢
 (repeat first|refine uA ?_|(apply uK;focus first|omega|(intros;simp_all<;>omega))|simp (disch:=omega) only [go_sem,Nat.reduceBEq,Nat.reduceAdd]|(apply uD o1;exact tz hw;rfl)|(apply uD o2;exact tz hw;rfl))
 (refine S.done ?_;simp only [p8,r9,go_sem,Nat.reduceBEq,Nat.reduceAdd,Nat.reduceLeDiff];(repeat (refine ⟨?_,?_⟩;focus first|trivial|omega|simp));exact j3.out rfl (Imp.refl rfl) rfl)
abbrev Cl:=Int × Int
def b3R (a b:Int):Int:=if a < b then -1 else if b < a then 1 else 0
def a1f (a b:Cl):Int:=if b3R a.2 b.2=0 then b3R a.1 b.1 else b3R a.2 b.2
def ltC (a b:Cl):Bool:=decide (a1f a b < 0)
theorem c3a {a b:Cl}:a1f a b < 0 <-> a.2 < b.2 \/ (a.2=b.2/\a.1 < b.1):=by
 obtain ⟨a1,a2⟩:=a
 obtain ⟨b1,b2⟩:=b
 simp only [a1f,b3R]
 split<;>(try split)<;>(try split)<;>(try split)<;>omega
theorem b6E {a b:Cl}:a1f a b=0 <-> a=b:=by
 obtain ⟨a1,a2⟩:=a
 obtain ⟨b1,b2⟩:=b
 rw [Prod.mk.injEq]
 simp only [a1f,b3R]
 split<;>(try split)<;>(try split)<;>(try split)<;>omega
theorem b1q {a b:Cl}:ltC a b=true <-> a.2 < b.2 \/ (a.2=b.2/\a.1 < b.1):=by
 unfold ltC;rw [decide_eq_true_iff,c3a]
theorem a8J {a b:Cl}:ltC a b=false <-> ¬ (a.2 < b.2 \/ (a.2=b.2/\a.1 < b.1)):=by
 rw [<- b1q,Bool.not_eq_true]
theorem a7k (a:Cl):ltC a a=false:=by rw [a8J];omega
theorem a5u {a b c:Cl} (h:ltC a b=true) (k:ltC b c=true):ltC a c=true:=by rw [b1q] at *;omega
theorem b0f {a b c:Cl} (h:ltC a b=false) (k:ltC b c=false):ltC a c=false:=by rw [a8J] at *;omega
theorem b3j {a b:Cl} (h:ltC a b=false) (k:ltC b a=false):a=b:=by
 rw [a8J] at *
 exact Prod.ext (by omega) (by omega)
theorem c4Q {a b c:Cl} (h:ltC b a=false) (k:ltC b c=true):ltC a c=true:=by rw [a8J] at h;rw [b1q] at *;omega
def Up (l:List Cl):Prop:=l.Pairwise fun a b=>ltC a b=true
theorem Up.sub {l m:List Cl} (h:Up l) (s:m.Sublist l):Up m:=h.sublist s
theorem Up.get {l:List Cl} (h:Up l) {i j:Nat} {x y:Cl} (hij:i < j) (hi:l[i]?=some x) (hj:l[j]?=some y):ltC x y=true:=by
 obtain ⟨a,rfl⟩:=c6Y.1 hi
 obtain ⟨b,rfl⟩:=c6Y.1 hj
 exact List.pairwise_iff_getElem.1 h i j a b hij
def dd (l:List Cl):Nat->List Cl
 | 0=>[]
 | r+1=>if 0 < r/\l[r-1]?=l[r]? then dd l r else dd l r++(l[r]?).toList
theorem b4M {l:List Cl} {r:Nat} {x y:Cl} (hr:0 < r) (hx:l[r]?=some x) (hy:l[r-1]?=some y) (h:x=y):dd l (r+1)=dd l r:=by
 show (if 0 < r/\l[r-1]?=l[r]? then dd l r else dd l r++(l[r]?).toList)=_
 rw [if_pos ⟨hr,by rw [hx,hy,h]⟩]
theorem b9e {l:List Cl} {r:Nat} {x y:Cl} (hx:l[r]?=some x) (hy:l[r-1]?=some y) (h:x ≠ y):dd l (r+1)=dd l r++[x]:=by
 show (if 0 < r/\l[r-1]?=l[r]? then dd l r else dd l r++(l[r]?).toList)=_
 rw [if_neg (fun k=>h (by have:=k.2;rw [hx,hy] at this;injection this with this;exact this.symm)),hx]
 rfl
theorem c4r {l:List Cl} {x:Cl} (hx:l[0]?=some x):dd l 1=[x]:=by
 show (if 0 < 0/\l[0-1]?=l[0]? then dd l 0 else dd l 0++(l[0]?).toList)=_
 rw [if_neg (fun k=>absurd k.1 (Nat.lt_irrefl _)),hx]
 rfl
theorem b4x {l:List Cl}:∀ r:Nat,r<=l.length->(∀ j,0 < j->j < r->l[j]? ≠ l[j-1]?)->dd l r=l.take r
 | 0,_,_=>by simp [dd]
 | r+1,hr,h=>by
  have ih:=b4x r (by omega) fun j h0 h1=>h j h0 (by omega)
  have hx:=c6T (show r < l.length by omega)
  generalize l[r]'_=x at hx
  show (if 0 < r/\l[r-1]?=l[r]? then dd l r else dd l r++(l[r]?).toList)=_
  rw [if_neg (fun k=>h r k.1 (by omega) k.2.symm),ih,List.take_add_one]
theorem a6u {l:List Cl} (hs:l.Pairwise fun a b=>ltC b a=false):∀ r:Nat,r<=l.length->Up (dd l r)/\(∀ x,x ∈ dd l r <-> x ∈ l.take r)/\(dd l r).length<=r
 | 0,_=>⟨List.Pairwise.nil,by simp [dd],c7b _⟩
 | r+1,hr=>by
  obtain ⟨h1,h2,h3⟩:=a6u hs r (by omega)
  have hx:=c6T (show r < l.length by omega)
  generalize l[r]'_=x at hx
  have ht:l.take (r+1)=l.take r++[x]:=by rw [List.take_add_one,hx];rfl
  rw [ht]
  rcases c7s r with h0|h0
  ·subst h0
   rw [c4r hx]
   exact ⟨List.pairwise_singleton _ _,by simp,by simp⟩
  ·have hy:=c6T (show r-1 < l.length by omega)
   generalize l[r-1]'_=y at hy
   have hyt:y ∈ l.take r:=c6W (i:=r-1) (by rw [List.getElem?_take,if_pos (by omega)];exact hy)
   by_cases hxy:x=y
   ·rw [b4M h0 hx hy hxy]
    subst hxy
    refine ⟨h1,fun z=>?_,by omega⟩
    rw [h2,List.mem_append,List.mem_singleton]
    exact ⟨.inl,fun h=>h.elim id fun e=>e ▸ hyt⟩
   ·rw [b9e hx hy hxy]
    have pw:=List.pairwise_iff_getElem.1 hs
    have get:∀ {i j:Nat} {a b:Cl},i < j->l[i]?=some a->l[j]?=some b->ltC b a=false:=fun {i j a b} hij hi hj=>by
     obtain ⟨p,rfl⟩:=c6Y.1 hi
     obtain ⟨q,rfl⟩:=c6Y.1 hj
     exact pw i j p q hij
    have hyx:ltC y x=true:=by
     have h:=get (show r-1 < r by omega) hy hx
     cases hc:ltC y x with
     | true=>rfl
     | false=>exact absurd (b3j h hc) hxy
    refine ⟨List.pairwise_append.2 ⟨h1,List.pairwise_singleton _ _,fun z hz w hw=>?_⟩,fun z=>?_,by rw [c7e];simp;omega⟩
    ·rw [List.mem_singleton] at hw
     subst hw
     rw [h2] at hz
     obtain ⟨j,hj⟩:=List.mem_iff_getElem?.1 hz
     rw [List.getElem?_take] at hj
     split at hj
     ·rcases c7p j (r-1) with h|h
      ·exact c4Q (get h hj hy) hyx
      ·have:j=r-1:=by omega
       subst this
       rw [hy] at hj
       injection hj with hj
       rw [<- hj]
       exact hyx
     ·cases hj
    ·rw [List.mem_append,List.mem_append,h2]
def leC (a b:Cl):Bool:=!ltC b a
def M5 (l:List Cl):List Cl:=dd (l.mergeSort leC) (l.mergeSort leC).length
theorem a6K (l:List Cl):(l.mergeSort leC).Pairwise fun a b=>ltC b a=false:=by
 have h:=List.pairwise_mergeSort (le:=leC) (fun a b c h1 h2=>by
  unfold leC at *
  rw [Bool.not_eq_true'] at *
  exact b0f h2 h1) (fun a b=>by
  unfold leC
  cases h:ltC b a with
  | false=>rfl
  | true=>
   cases k:ltC a b with
   | false=>rfl
   | true=>exact absurd (a5u h k) (by rw [a7k];decide)) l
 exact h.imp fun {a b} k=>by unfold leC at k;rwa [Bool.not_eq_true'] at k
theorem a9Q (l:List Cl):Up (M5 l):=(a6u (a6K l) _ (c7b _)).1
theorem b9k {l:List Cl} {x:Cl}:x ∈ M5 l <-> x ∈ l:=by
 unfold M5
 rw [(a6u (a6K l) _ (c7b _)).2.1,c7l,List.mem_mergeSort]
theorem a4i (l:List Cl):(M5 l).length<=l.length:=by
 have:=(a6u (a6K l) _ (c7b _)).2.2
 rw [List.length_mergeSort] at this
 unfold M5
 rwa [List.length_mergeSort]
def a3d (a b:List Cl):List Cl:=M5 (a++b)
def a1h (l:List Cl) (c:Cl):Bool:=l.contains c
def a2F (a b:List Cl):Bool:=a.all fun c=>a1h (M5 b) c
def a2M (a b:List Cl):List Cl:=(M5 a).filter fun c=>a1h (M5 b) c
theorem b8F {l:List Cl} (hu:Up l) {t:Cl} {i:Nat} (h1:∀ k x,k < i->l[k]?=some x->ltC x t=true) (h2:∀ k x,i<=k->l[k]?=some x->ltC x t=false) :
  a1h l t=match l[i]? with|some x=>decide (a1f x t=0)|none=>false:=by
 unfold a1h
 have mem:l.contains t=true->l[i]?=some t:=fun h=>by
  obtain ⟨m,hm⟩:=List.mem_iff_getElem?.1 (List.contains_iff_mem.1 h)
  rcases Nat.lt_trichotomy m i with k|k|k
  ·have:=h1 m t k hm
   rw [a7k] at this
   cases this
  ·rw [<- k];exact hm
  ·have hi:=c6T (show i < l.length by have:=(c6Y.1 hm).1;omega)
   have a:=hu.get k hi hm
   rw [h2 i _ (c7b _) hi] at a
   cases a
 cases h:l.contains t with
 | true=>rw [mem h];simp [b6E]
 | false=>
  cases hi:l[i]? with
  | none=>rfl
  | some x=>
   simp only
   refine (decide_eq_false fun e=>?_).symm
   rw [b6E] at e
   subst e
   rw [List.contains_iff_mem.2 (c6W hi)] at h
   cases h
end Go.Proofs.YtgpegbfnlkidjaaGreatDoor
namespace Go.Proofs
open Go.Shelf
def Tryz.a4l:Go.Shelf.Ren:=⟨fun|6=>117|15=>164|14=>163|28=>193|29=>194|20=>185|21=>186|22=>187|23=>188|24=>189|25=>190|26=>191|27=>192|46=>209|47=>210|48=>211|49=>212|50=>213|57=>218|n=>n,fun|22=>43|24=>53|25=>127|3=>3|39=>223|0=>0|53=>222|55=>218|4=>4|46=>248|45=>247|50=>200|5=>5|9=>9|66=>265|70=>269|76=>274|77=>168|n=>n,fun|n=>n⟩
theorem Tryz.b2M:Go.Proofs.SlLaysF0.n6 Tryz.prog Tryz.a4l:={
 mixed:=by kernel_rfl
 f6:=⟨Tryz.f117.name,by decide,Tryz.func117.trans (congrArg some (by kernel_rfl))⟩
 f14:=⟨Tryz.f163.name,by decide,Tryz.func163.trans (congrArg some (by kernel_rfl))⟩
 f15:=Tryz.func164.trans (congrArg some (by kernel_rfl))
 f20:=⟨Tryz.f185.name,by decide,Tryz.func185.trans (congrArg some (by kernel_rfl))⟩
 f21:=⟨Tryz.f186.name,by decide,Tryz.func186.trans (congrArg some (by kernel_rfl))⟩
 f22:=⟨Tryz.f187.name,by decide,Tryz.func187.trans (congrArg some (by kernel_rfl))⟩
 f23:=⟨Tryz.f188.name,by decide,Tryz.func188.trans (congrArg some (by kernel_rfl))⟩
 f24:=⟨Tryz.f189.name,by decide,Tryz.func189.trans (congrArg some (by kernel_rfl))⟩
 f25:=⟨Tryz.f190.name,by decide,Tryz.func190.trans (congrArg some (by kernel_rfl))⟩
 f26:=⟨Tryz.f191.name,by decide,Tryz.func191.trans (congrArg some (by kernel_rfl))⟩
 f27:=⟨Tryz.f192.name,by decide,Tryz.func192.trans (congrArg some (by kernel_rfl))⟩
 f28:=Tryz.func193.trans (congrArg some (by kernel_rfl))
 f29:=Tryz.func194.trans (congrArg some (by kernel_rfl))
 f46:=⟨Tryz.f209.name,by decide,Tryz.func209.trans (congrArg some (by kernel_rfl))⟩
 f47:=Tryz.func210.trans (congrArg some (by kernel_rfl))
 f48:=Tryz.func211.trans (congrArg some (by kernel_rfl))
 f49:=⟨Tryz.f212.name,by decide,Tryz.func212.trans (congrArg some (by kernel_rfl))⟩
 f50:=⟨Tryz.f213.name,by decide,Tryz.func213.trans (congrArg some (by kernel_rfl))⟩
 f57:=⟨Tryz.f218.name,by decide,Tryz.func218.trans (congrArg some (by kernel_rfl))⟩
 t0:=Tryz.underlying0
 a0:=Tryz.isAgg0
 z0:=Tryz.sizeOf0
 v0:=Tryz.zeroValue0
 t3:=Tryz.underlying3
 a3:=Tryz.isAgg3
 z3:=Tryz.sizeOf3
 v3:=Tryz.zeroValue3
 t4:=Tryz.underlying4
 a4:=Tryz.isAgg4
 z4:=Tryz.sizeOf4
 v4:=Tryz.zeroValue4
 t5:=Tryz.underlying5
 a5:=Tryz.isAgg5
 z5:=Tryz.sizeOf5
 v5:=Tryz.zeroValue5
 t9:=Tryz.underlying9
 a9:=Tryz.isAgg9
 z9:=Tryz.sizeOf9
 v9:=Tryz.zeroValue9
 t22:=Tryz.underlying43
 a22:=Tryz.isAgg43
 z22:=Tryz.sizeOf43
 v22:=Tryz.zeroValue43
 t25:=Tryz.underlying127
 a25:=Tryz.isAgg127
 z25:=Tryz.sizeOf127
 v25:=Tryz.zeroValue127
 t39:=Tryz.underlying223
 a39:=Tryz.isAgg223
 z39:=Tryz.sizeOf223
 v39:=Tryz.zeroValue223
 t45:=Tryz.underlying247
 a45:=Tryz.isAgg247
 z45:=Tryz.sizeOf247
 v45:=Tryz.zeroValue247
 t46:=Tryz.underlying248
 a46:=Tryz.isAgg248
 z46:=Tryz.sizeOf248
 v46:=Tryz.zeroValue248
 t50:=Tryz.underlying200
 a50:=Tryz.isAgg200
 z50:=Tryz.sizeOf200
 v50:=Tryz.zeroValue200
 t53:=Tryz.underlying222
 a53:=Tryz.isAgg222
 z53:=Tryz.sizeOf222
 v53:=Tryz.zeroValue222
 t55:=Tryz.underlying218
 a55:=Tryz.isAgg218
 z55:=Tryz.sizeOf218
 v55:=Tryz.zeroValue218
 t66:=Tryz.underlying265
 a66:=Tryz.isAgg265
 z66:=Tryz.sizeOf265
 v66:=Tryz.zeroValue265
 t70:=Tryz.underlying269
 a70:=Tryz.isAgg269
 z70:=Tryz.sizeOf269
 v70:=Tryz.zeroValue269
 t76:=Tryz.underlying274
 a76:=Tryz.isAgg274
 z76:=Tryz.sizeOf274
 v76:=Tryz.zeroValue274
 t77:=Tryz.underlying168
 a77:=Tryz.isAgg168
 z77:=Tryz.sizeOf168
 v77:=Tryz.zeroValue168 }
def Tryz.b6j:Go.Shelf.Ren:=⟨fun|122=>124|215=>166|n=>n,fun|3=>3|4=>4|n=>n,fun|n=>n⟩
theorem Tryz.c3O:Go.Proofs.Lays.n122 Tryz.prog Tryz.b6j:={
 mixed:=by kernel_rfl
 f122:=Tryz.func124.trans (congrArg some (by kernel_rfl))
 f215:=Tryz.func166.trans (congrArg some (by kernel_rfl))
 t3:=Tryz.underlying3
 a3:=Tryz.isAgg3
 z3:=Tryz.sizeOf3
 v3:=Tryz.zeroValue3
 t4:=Tryz.underlying4
 a4:=Tryz.isAgg4
 z4:=Tryz.sizeOf4
 v4:=Tryz.zeroValue4 }
open Go.RowKit in
theorem Tryz.cmp_Compare_int (x y:Int) (w:World) :
  Calls Tryz.prog 124 #[.int .i64 x,.int .i64 y] w fun e w'=>e=.returned (.int .i64 (Lib.compareInt x y))/\w'=w:=Any.cmp_Compare_int Tryz.c3O x y w
end Go.Proofs
namespace Go.Proofs.YtgpegbfnlkidjaaGreatDoor
open Go Go.RowKit Go.Lib Go.Sort Eng
set_option maxRecDepth 100000
set_option maxHeartbeats 4000000
def ce (p:Cl):List C:=[.v (.int .i64 p.1),.v (.int .i64 p.2)]
def cls (l:List Cl):C:=.sl 2 (l.map ce)
def cv (p:Cl):List Value:=[.int .i64 p.1,.int .i64 p.2]
theorem c5f {l:List Cl}:∀ q ∈ l.map ce,q.length=2:=fun q hq=>by
 obtain ⟨p,_,rfl⟩:=List.mem_map.1 hq
 rfl
theorem b3I {l:List Cl}:∀ q ∈ l.map cv,q.length=2:=fun q hq=>by
 obtain ⟨p,_,rfl⟩:=List.mem_map.1 hq
 rfl
theorem b8o:∀ l:List Cl,(l.map ce).flatten=((l.map cv).flatten).map C.v
 | []=>rfl
 | p::l=>by
  rw [c7i,List.flatten_cons,b8o l,c7i,List.flatten_cons,c7G]
  rfl
theorem c2t {w:World} {O:Nat->Prop}:∀ (xs vs:List Value),FzL w O (xs.map C.v) vs->vs=xs
 | [],vs,h=>by simpa only [c7q,FzL] using h
 | x::xs,vs,h=>by
  simp only [c7i,FzL,Fz] at h
  obtain ⟨y,ys,rfl,rfl,h⟩:=h
  rw [c2t xs ys h]
theorem flat_get {α:Type} {es:List (List α)} {sz k i:Nat} {q:List α} (hl:∀ q ∈ es,q.length=sz) (hq:es[k]?=some q) (hi:i < sz):es.flatten[k*sz+i]?=q[i]?:=by
 rw [<- a2n hl hq,List.getElem?_take,if_pos hi,c7I]
theorem b6x (l:List Cl):(flatK cv 2 l.toArray).toList=(l.map cv).flatten:=by
 apply List.ext_getElem?
 intro j
 have hlen:(l.map cv).flatten.length=l.length*2:=by rw [P5 (sz:=2) b3I,c6U]
 rcases c7p j (l.length*2) with h|h
 ·have hk:j / 2 < l.length:=by omega
  have e1:(l.map cv)[j / 2]?=some (cv l[j / 2]):=by rw [c7f,c6T hk];rfl
  have e2:=flat_get (i:=j % 2) b3I e1 (by omega)
  rw [show j / 2*2+j % 2=j by omega] at e2
  rw [e2]
  simp only [flatK,Array.getElem?_toList,Array.getElem?_map,Array.getElem?_range,List.size_toArray]
  rw [if_pos h,c6V,getElem!_pos l.toArray (j / 2) (by simpa using hk)]
  have e3:(cv l[j / 2])[j % 2]?=some ((cv l[j / 2])[j % 2]!):=by
   rcases (show j % 2=0 \/ j % 2=1 by omega) with h|h<;>rw [h]<;>rfl
  rw [e3]
  rfl
 ·rw [c7v (by simpa using h),c7v (by omega)]
theorem b6J (x1 x2 y1 y2:Int) (W:World):Calls Tryz.prog 61 #[.agg #[.int .i64 x1,.int .i64 x2],.agg #[.int .i64 y1,.int .i64 y2]] W fun e w'=>e=.returned (.int .i64 (a1f (x1,x2) (y1,y2)))/\∃ q os',w'=grow (W.drewN q) os':=by
 have he:a1f (x1,x2) (y1,y2)=if Lib.compareInt x2 y2=0 then Lib.compareInt x1 y1 else Lib.compareInt x2 y2:=rfl
 rw [he]
 have h:=fun a b W'=>Tryz.cmp_Compare_int a b W'
 clear he
 generalize Lib.compareInt=cf at *
 go_enter Tryz.func61,Tryz.ntmps61
 go_wp2_with (go_at_call 124;refine (h _ _ _).mono ?_;rintro e w' ⟨rfl,rfl⟩)
 all_goals (go_ret;exact ⟨by simp_all,0,_,by rw [alloc_eq_grow,alloc_eq_grow,grow_grow];rfl⟩)
theorem b7m (a b:Cl):y9 Tryz.prog 61 [.agg (ce a),.agg (ce b)] (ints (a1f a b)):=by
 intro O w vs hO hA
 simp only [FzL,ce,Fz] at hA
 obtain ⟨y,ys,rfl,⟨us,⟨z,zs,rfl,rfl,z2,zs2,rfl,rfl,rfl⟩,rfl⟩,y2,ys2,rfl,⟨us,⟨z,zs,rfl,rfl,z2,zs2,rfl,rfl,rfl⟩,rfl⟩,rfl⟩:=hA
 refine (b6J a.1 a.2 b.1 b.2 w).mono ?_
 rintro e w' ⟨rfl,q,os,rfl⟩
 refine ⟨_,rfl,⟨rfl,rfl,rfl,?_,fun k hk=>?_⟩,by simp only [ints,Fz]⟩
 ·show w.heap.size<=(w.heap++os).size
  simp
 ·show (w.heap++os)[k]?=w.heap[k]?
  rw [Array.getElem?_append_left hk]
theorem c4R {E:Ctx} (hP:E.P=Tryz.prog) (es:List Cl) (hn:es.length < 4611686018427387904) :
    j6 E [.row 53 2 (es.map ce)] 117 [.rv 0,.v (.func (.func 61) #[] #[])] (.v (.tuple #[])) [.row 53 2 ((es.mergeSort leC).map ce)] []:=by
  obtain ⟨P,eff',N,w0,own0,av0,nu0,pk0⟩:=E
  simp only at hP
  subst hP
  intro av ν w vs hR hav hF hD
  simp only [l7,Den] at hD
  obtain ⟨x,ys,rfl,⟨hx,_⟩,y2,ys2,rfl,rfl,rfl⟩:=hD
  obtain ⟨hl,vs,hFz,hone,hrow⟩:=hR.get (k:=0) rfl hx
  have hν:ν=[x]:=by
    have hlen:=hR.len
    match ν,hlen,hx with
    | [z],_,h=>simp at h;rw [h]
  subst hν
  have hvs:vs=(es.map cv).flatten:=c2t _ _ (by rw [<- b8o];exact hFz)
  rw [c6U] at hrow
  have fin:∀ w',RG av own0 w0.heap.size [x] ([Res.row 53 2 (es.map ce)].set 0 (.row 53 2 ((es.mergeSort leC).map ce))) w'/\Mv [Res.row 53 2 (es.map ce)] [x] w [] ([Res.row 53 2 (es.map ce)].set 0 (.row 53 2 ((es.mergeSort leC).map ce))) [x] w' ->
      ∃ ν',RG av own0 w0.heap.size ν' [.row 53 2 ((es.mergeSort leC).map ce)] w'/\Mv [.row 53 2 (es.map ce)] [x] w [] [.row 53 2 ((es.mergeSort leC).map ce)] ν' w'/\Den ν' w' (OO av [.row 53 2 ((es.mergeSort leC).map ce)] ν') (.v (.tuple #[])) (.tuple #[]):=
    fun w' h=>⟨[x],h.1,h.2,by simp only [Den]⟩
  rcases hrow.2 with ⟨h0,A,rfl⟩|⟨g,cap,cur,rfl,hc0,hg,hnc,hcm,hcs,htake⟩
  · have he:es=[]:=c7w h0
    subst he
    have h:=AnyF.slices_SortFunc_none (P:=Tryz.prog) (ρ:=Tryz.a4l) { Tryz.b2M with } A 0 (.func (.func 61) #[] #[]) w
    refine h.mono ?_
    rintro e w' ⟨rfl,rfl⟩
    refine (fin _ ?_).elim fun ν' h=>⟨_,ν',rfl,h⟩
    rw [show ([]:List Cl).mergeSort leC=[] by simp,set_self rfl]
    exact ⟨hR,Mv.of_below (Below.refl _ _)⟩
  · have hgl:g < w.heap.size:=(Array.getElem?_eq_some_iff.1 hg).1
    have hcz:es.length*2<=cur.size:=by rw [hcs];exact c7y _ hnc
    have hH:HoldsK cv 2 w g 0 es.toArray:=by
      intro j hj
      rw [size_flatK,List.size_toArray] at hj
      have e1:(flatK cv 2 es.toArray)[j]! = cur[j]'(by omega):=by
        have h1:(flatK cv 2 es.toArray).toList[j]?=cur.toList[j]?:=by
          rw [b6x,<- hvs,<- htake,List.getElem?_take,if_pos hj]
        rw [Array.getElem?_toList,Array.getElem?_toList,Array.getElem?_eq_getElem (show j < cur.size by omega),Array.getElem?_eq_getElem (show j < (flatK cv 2 es.toArray).size by rw [size_flatK,List.size_toArray];exact hj)] at h1
        injection h1 with h1
        rw [getElem!_pos _ _ (by rw [size_flatK,List.size_toArray];exact hj),h1]
      rw [e1]
      have hj2:j < cur.size:=by omega
      constructor
      · simp [World.cell?,hg,hj2]
      · simp [World.frozen?,hg]
    have hcmp:CmpLays Tryz.prog 61 #[] cv 2 a1f g 0 es.toArray.size w:=fun _ _ _ _ a b=>b6J a.1 a.2 b.1 b.2 _
    have eg:∀ args w,(callFunc 61 args).run Tryz.prog w=.ok (.enter 61 args) w:=enters_of Tryz.func61 (by kernel_rfl) rfl
    have hswo:SWO (ltOf a1f):=⟨a7k,fun _ _ _ h k=>a5u h k,fun _ _ _ h k=>b0f h k⟩
    have h:=AnyQ.slices_SortFunc_total (P:=Tryz.prog) (ρ:=Tryz.a4l) Tryz.b2M 2 Tryz.isAgg53 Tryz.sizeOf53 cv (fun _=>rfl) (fun a v hv=>by simp [cv] at hv;rcases hv with rfl|rfl<;>rfl) a1f hswo 61 #[] g 0 cap es.toArray w eg hcmp hH hgl (by simpa using hn) (fun _ _ h k=>b3j h k)
    have hsz:es.toArray.size=es.length:=by simp
    rw [hsz] at h
    refine Calls.mono h ?_
    rintro e w' ⟨rfl,n,os,rfl⟩
    refine (fin _ ?_).elim fun ν' h=>⟨_,ν',rfl,h⟩
    have hms:(List.mergeSort es.toArray.toList fun x y=>!(ltOf a1f) y x)=es.mergeSort leC:=rfl
    rw [hms]
    generalize hM:es.mergeSort leC=M
    have hml:M.length=es.length:=by rw [<- hM,List.length_mergeSort]
    have hheap:∀ k,k < w.heap.size->(sortWorldK cv 2 w g 0 n M.toArray os).heap[k]?=if g=k then some (.cells (putCells id 0 (flatK cv 2 M.toArray) cur) 53 (0,0)) else w.heap[k]?:=fun k hk=>by
      show ((w.heap.modify g (onCells (putCells id 0 (flatK cv 2 M.toArray))))++os)[k]?=_
      rw [Array.getElem?_append_left (by simpa using hk),Array.getElem?_modify]
      split
      · rename_i e
        subst e
        rw [hg]
        rfl
      · rfl
    refine hR.upd (r':=.row 53 2 (M.map ce)) rfl rfl ⟨rfl,rfl,rfl,?_,fun b hb hn=>?_⟩ (fun b hb=>hb) fun hkp=>?_
    · show w.heap.size<=((w.heap.modify g _)++os).size
      simp
    · rw [hheap b hb,if_neg fun e=>hn (by simp only [fp,C9];rw [if_neg (by omega),e])]
    · refine ⟨c5f,(M.map cv).flatten,by rw [b8o];exact FzL.vs _,fun u hu=>?_,?_⟩
      · obtain ⟨q,hq,hu⟩:=List.mem_flatten.1 hu
        obtain ⟨p,_,rfl⟩:=List.mem_map.1 hq
        simp [cv] at hu
        rcases hu with rfl|rfl<;>rfl
      · rw [c6U,hml]
        refine ⟨by rw [P5 (sz:=2) b3I,c6U,hml],.inr ⟨g,cap,_,rfl,hc0,by rw [hheap g hgl,if_pos rfl],hnc,hcm,by simpa [putCells] using hcs,?_⟩⟩
        rw [<- b6x]
        apply List.ext_getElem?
        intro j
        rw [List.getElem?_take]
        split
        · rename_i hj
          have hj':j < (flatK cv 2 M.toArray).size:=by rw [size_flatK,List.size_toArray,hml];exact hj
          have hj2:j < cur.size:=by omega
          simp only [Array.getElem?_toList,putCells,Array.getElem?_mapIdx]
          rw [Array.getElem?_eq_getElem hj2,c6V,if_pos ⟨c6Z _,by omega⟩,Array.getElem?_eq_getElem hj',Nat.sub_zero,getElem!_pos (flatK cv 2 M.toArray) j hj']
          rfl
        · rename_i hj
          rw [c7v]
          rw [Array.length_toList,size_flatK,List.size_toArray,hml]
          omega
open Go Eng
open Go Go.RowKit Eng
set_option maxHeartbeats 8000000
theorem j6.vg {E:Ctx} {rs rs2 rs':List Res} {f:Nat} {args args':List C} {s:C} {pk:List Nat} (h:j6 E rs2 f args' s rs' pk) (hi:j4 rs rs2 args args') (hrs:D7 rs rs2 rs2 rs) (hlen:rs2.length=rs.length):j6 E rs f args s rs' pk:=by
 intro av ν w vs hR hav hF hD
 have hk:=a1t hrs
 have hD':=hi.den hR (Cut.of hR hk) hD
 have et:ν.take rs2.length=ν:=by rw [hlen,<- hR.len];exact c7l
 rw [et] at hD'
 have hR2:=hR.weak hrs
 rw [et] at hR2
 refine (h av ν w vs hR2 hav hF hD').mono ?_
 rintro e w' ⟨y,ν',rfl,h1,h2,h3⟩
 exact ⟨y,ν',rfl,h1,⟨h2.os,h2.tape,h2.output,h2.size,fun b hb hn=>h2.block b hb (fun ho=>hn (a2R hk ho)),fun b hb=>(h2.own b hb).imp (a2R hk) id,h2.nu⟩,h3⟩
theorem c2V (n:Nat) (hn:n<=1000000000):FNew Tryz.prog 23 [.v (.slice none 0 0),ints n] 53 2 []:=by
 refine FNew.of (eff:=eff) Tryz.func23 (by cbv) (by exact c7j rfl) fun w O=>?_
 simp only [j5,TT,II,OA,OB,MM,ints]
 (repeat first|refine uA ?_|(apply uK;focus first|omega|(intros;simp_all<;>omega))|simp (disch:=omega) only [go_sem,Nat.reduceBEq,Nat.reduceAdd])
 (refine uJ rfl (fun hc=>?_) fun hc=>?_)
 ·omega
 (repeat first|refine uA ?_|(apply uK;focus omega)|simp (disch:=omega) only [go_sem,Nat.reduceBEq,ww])
 (refine uJ rfl (fun hc=>?_) fun hc=>?_)
 ·(repeat first|refine uA ?_|(apply uK;focus omega)|simp (disch:=omega) only [go_sem,Nat.reduceBEq])
  refine S.weaken (Ent.shrink 4 0 rfl rfl (c6Z _) ⟨.inr (c6Z _),trivial⟩) ?_
  exact S.done (j3.new rfl rfl rfl)
 ·(repeat first|refine uA ?_|(apply uK;focus omega)|simp (disch:=omega) only [go_sem,Nat.reduceBEq])
  refine S.weaken (Ent.pack 4 53 2 rfl) ?_
  exact S.done (j3.new rfl rfl rfl)
def U5 (ls:List (List Cl)):C:=.sl 1 (ls.map fun l=>[cls l])
theorem b2n {ls:List (List Cl)} {i:Nat} {l:List Cl} (h:ls[i]?=some l):(ls.take (i+1)).flatten=(ls.take i).flatten++l:=by
 rw [List.take_add_one,h,List.flatten_append]
 simp
def a2l (ls:List (List Cl)) (i:Nat):Nat:=((ls.take i).flatten).length
theorem b9r (ls:List (List Cl)):a2l ls 0=0:=by simp [a2l]
theorem b9H {ls:List (List Cl)} {i:Nat} {l:List Cl} (h:ls[i]?=some l):a2l ls (i+1)=a2l ls i+l.length:=by unfold a2l;rw [b2n h,c7e]
theorem c1k (ls:List (List Cl)) (hl:ls.length<=1000) (hn:∀ i,a2l ls i<=1000000000):FNew Tryz.prog 9 [U5 ls] 53 2 (ls.flatten.map ce):=by
 refine FNew.of (eff:=eff) Tryz.func9 (by cbv) (by exact c7j rfl) fun w O=>?_
 have hg:=c2V ls.flatten.length (by have:=hn ls.length;unfold a2l at this;rwa [c7l] at this)
 simp only [j5,TT,II,OA,OB,MM,VV,U5]
 (repeat first|refine uA ?_|(apply uK;focus omega)|simp (disch:=omega) only [go_sem,Nat.reduceBEq,c6U])
 refine S.loop (X:=Nat) (fun i=>⟨[(0,U5 ls),(3,ints (a2l ls i:Nat)),(9,U5 ls),(10,ints ls.length),(11,ints i)],[]⟩) (fun i=>i<=ls.length) (fun i=>ls.length-i) 0 (c6Z _) (by simp only [b9r];exact (by (repeat first|refine uA ?_|(refine ⟨?_,?_⟩;focus first|rfl|simp [slot])|rfl|simp))) ?_
 ·intro i hi
  simp only [U5,ints]
  (repeat first|refine uA ?_|(apply uK;focus omega)|simp (disch:=omega) only [go_sem,Nat.reduceBEq])
  (refine uJ rfl (fun hc=>?_) fun hc=>?_)
  ·have hi':i < ls.length:=by omega
   have hgl:=c6T hi'
   generalize ls[i]=l at hgl
   have hs:=b9H hgl
   have h1:=hn (i+1)
   generalize e1:a2l ls (i+1)=n1 at *
   generalize a2l ls i=n0 at *
   have hsi:(n0:Int)+(l.length:Int)=(n1:Int):=by omega
   (repeat first|refine uA ?_|(apply uK;focus omega)|simp (disch:=omega) only [go_sem,Nat.reduceBEq,ww,c6U,c7f,hgl,c6V,c7a,cls,hsi])
   (refine uJ rfl (fun hc=>?_) fun hc=>?_)
   ·omega
   (repeat first|refine uA ?_|(apply uK;focus omega)|simp (disch:=omega) only [go_sem,Nat.reduceBEq,ww])
   refine S.next (i+1) (by omega) (by omega) (by simp only [e1];exact (by (repeat first|refine uA ?_|(refine ⟨?_,?_⟩;focus first|rfl|simp [slot])|rfl|simp)))
  ·have hi':i=ls.length:=by omega
   subst hi'
   rw [show a2l ls ls.length=ls.flatten.length by unfold a2l;rw [c7l]]
   generalize hm:ls.flatten.length=m at hg
   (repeat first|refine uA ?_|(apply uK;focus omega)|simp (disch:=omega) only [go_sem,Nat.reduceBEq,c6U]|refine l8.t (FNew.t hg rfl) ?_)
   refine S.loop (X:=Nat) (fun i=>⟨[(6,.rv 0),(25,U5 ls),(26,ints ls.length),(27,ints i)],[.row 53 2 (((ls.take i).flatten).map ce)]⟩) (fun i=>i<=ls.length) (fun i=>ls.length-i) 0 (c6Z _) (by simp only [List.take_zero,List.flatten_nil,c7q];exact (by (repeat first|refine uA ?_|(refine ⟨?_,?_⟩;focus first|rfl|simp [slot])|rfl|simp))) ?_
   intro i hi
   clear hg
   simp only [U5,ints]
   (repeat first|refine uA ?_|(apply uK;focus omega)|simp (disch:=omega) only [go_sem,Nat.reduceBEq])
   (refine uJ rfl (fun hc=>?_) fun hc=>?_)
   ·have hi':i < ls.length:=by omega
    have hgl:=c6T hi'
    generalize ls[i]=l at hgl
    have hs:=b2n hgl
    have h1:=hn (i+1)
    have h0:=hn i
    unfold a2l at h1 h0
    rw [hs,c7e] at h1
    generalize e1:(ls.take (i+1)).flatten=n1 at *
    generalize (ls.take i).flatten=n0 at *
    (repeat first|refine uA ?_|(apply uK;focus first|omega|(intros;simp_all<;>omega))|simp (disch:=omega) only [go_sem,Nat.reduceBEq,ww,c6U,c7f,hgl,c6V,c7a,cls])
    refine S.next (i+1) (by omega) (by omega) (by simp only [e1,hs,c7G];exact (by (repeat first|refine uA ?_|(refine ⟨?_,?_⟩;focus first|rfl|simp [slot])|rfl|simp)))
   ·have hi':i=ls.length:=by omega
    subst hi'
    rw [c7l]
    (repeat first|refine uA ?_|(apply uK;focus omega)|simp (disch:=omega) only [go_sem,Nat.reduceBEq])
    exact S.done (j3.new rfl rfl rfl)
theorem c0t {E:Ctx} (hP:E.P=Tryz.prog) (l:List Cl) (hn:l.length<=1000000000) :
    j6 E [.row 53 2 (l.map ce)] 118 [.rv 0] (.wv 0 2 0 (dd l l.length).length) [.row 53 2 ((dd l l.length++List.replicate (l.length-(dd l l.length).length) (0,0)).map ce)] []:=by
  obtain ⟨P,eff',N,w0,own0,av0,nu0,pk0⟩:=E
  simp only at hP
  subst hP
  refine j6.of (eff:=eff) Tryz.func118 (by cbv) (by exact c7j rfl) fun w own av ν hν=>?_
  have hν0:ν.length<=1:=by rw [hν];exact c7b _
  have hall:(∀ j,0 < j->j < l.length->l[j]? ≠ l[j-1]?)->dd l l.length=l:=fun h=>by rw [b4x l.length (c7b _) h,c7l]
  have same:(∀ j,0 < j->j < l.length->l[j]? ≠ l[j-1]?)->(dd l l.length).length=l.length/\(dd l l.length++List.replicate (l.length-(dd l l.length).length) (0,0)).map ce=l.map ce:=fun h=>by
    rw [hall h]
    simp
  clear hall
  simp only [j5,TT,II,OA,OB,MM,LL]
  (repeat first|refine uA ?_|(apply uK;focus omega)|simp (disch:=omega) only [go_sem,Nat.reduceBEq,c6U])
  (refine uJ rfl (fun hc=>?_) fun hc=>?_)
  · obtain ⟨h1,h2⟩:=same fun j h0 h1=>by omega
    rw [h2,h1]
    (repeat first|refine uA ?_|(apply uK;focus omega)|simp (disch:=omega) only [go_sem,Nat.reduceBEq])
    exact S.done (j3.K5 (Imp.win rfl (by rw [c6U]) Nat.zero_lt_one) (by (repeat first|refine uA ?_|rfl|simp [slot])) hν0)
  (repeat first|refine uA ?_|(apply uK;focus omega)|simp (disch:=omega) only [go_sem])
  refine S.loop (X:=Nat) (fun k=>⟨[(0,.rv 0),(3,ints k)],[.row 53 2 (l.map ce)]⟩) (fun k=>(1<=k/\k<=l.length)/\∀ j,0 < j->j < k->l[j]? ≠ l[j-1]?) (fun k=>l.length-k) 1 ⟨⟨c7b _,by omega⟩,fun j h0 h1=>by omega⟩ (by (repeat first|refine uA ?_|(refine ⟨?_,?_⟩;focus first|rfl|simp [slot])|rfl|simp|exact c6X hν0 (by simp))) ?_
  rintro k ⟨⟨hk1,hk2⟩,hm⟩
  simp only [ints]
  (repeat first|refine uA ?_|(apply uK;focus omega)|simp (disch:=omega) only [go_sem,Nat.reduceBEq,c6U])
  (refine uJ rfl (fun hc=>?_) fun hc=>?_)
  · have hk:k < l.length:=by omega
    have hgx:=c6T hk
    have hgy:=c6T (show k-1 < l.length by omega)
    generalize l[k]'_=x at hgx
    generalize l[k-1]'_=y at hgy
    have hkn:((k:Int)-1).toNat=k-1:=by omega
    (repeat first|refine uA ?_|(apply uK;focus omega)|simp (disch:=omega) only [go_sem,Nat.reduceBEq,ww,c6U,c7f,hgx,hgy,hkn,c6V,c7a,ce])
    refine S.cond rfl (fun hc=>?_) (fun hc=>?_)
    · have hxy:x=y:=by
        simp only [c7c,c7h] at hc
        exact Prod.ext hc.1 (by first|exact hc.2.1|exact hc.2)
      have hd0:dd l (k+1)=l.take k:=by rw [b4M (by omega) hgx hgy hxy,b4x k (by omega) hm]
      clear same hm
      (repeat first|refine uA ?_|(apply uK;focus omega)|simp (disch:=omega) only [go_sem,Nat.reduceBEq,c6U,c7a])
      refine S.loop (X:=Nat × List Cl) (fun p=>⟨[(0,.rv 0),(3,ints ((dd l (k+p.1)).length:Nat)),(4,.wv 0 2 k (l.length-k)),(5,ints p.1)],[.row 53 2 (p.2.map ce)]⟩)
        (fun p=>(1<=p.1/\k+p.1<=l.length)/\p.2.length=l.length/\p.2.take (dd l (k+p.1)).length=dd l (k+p.1)/\(dd l (k+p.1)).length+1<=k+p.1/\∀ j,k+p.1-1<=j->p.2[j]?=l[j]?) (fun p=>l.length-p.1) (1,l)
        ⟨⟨c7b _,by simp only;omega⟩,rfl,by simp only [hd0,c7d];rw [Nat.min_eq_left (by omega)],by simp only [hd0,c7d];omega,fun _ _=>rfl⟩ (by simp only [hd0,c7d,Nat.min_eq_left hk2];exact (by (repeat first|refine uA ?_|(refine ⟨?_,?_⟩;focus first|rfl|simp [slot])|rfl|simp|exact c6X hν0 (by simp)))) ?_
      rintro ⟨r,es⟩ ⟨⟨hr1,hr2⟩,hel,het,hew,hej⟩
      simp only at hr1 hr2 hel het hew hej
      simp only [ints]
      (repeat first|refine uA ?_|(apply uK;focus omega)|simp (disch:=omega) only [go_sem,Nat.reduceBEq])
      (refine uJ rfl (fun hc=>?_) fun hc=>?_)
      · have hr:k+r < l.length:=by omega
        have gx:=c6T hr
        have gy:=c6T (show k+r-1 < l.length by omega)
        generalize l[k+r]'_=u at gx
        generalize l[k+r-1]'_=v at gy
        have ex:=(hej (k+r) (by omega)).trans gx
        have ey:=(hej (k+r-1) (c7b _)).trans gy
        have hrn:((r:Int)-1).toNat=r-1:=by omega
        have hkr:k+(r-1)=k+r-1:=by omega
        (repeat first|refine uA ?_|(apply uK;focus omega)|simp (disch:=omega) only [go_sem,Nat.reduceBEq,ww,c6U,c7f,hel,ex,ey,hrn,hkr,c6V,c7a,ce])
        refine S.cond rfl (fun hc=>?_) (fun hc=>?_)
        · have huv:u ≠ v:=fun e=>by
            subst e
            simp at hc
          have hdn:=b9e gx gy huv
          rw [show k+r+1=k+(r+1) by omega] at hdn
          have hdl:(dd l (k+(r+1))).length=(dd l (k+r)).length+1:=by rw [hdn,c7e];rfl
          generalize hm:(dd l (k+r)).length=m at *
          have hmg:=c6T (show m < es.length by omega)
          generalize es[m]'_=z at hmg
          have hset:(es.map ce).set m [C.v (.int .i64 u.1),C.v (.int .i64 u.2)]=(es.set m u).map ce:=by rw [List.map_set];rfl
          have hnt:(es.set m u).take (m+1)=dd l (k+(r+1)):=by
            rw [hdn,List.take_add_one,List.getElem?_set_self (by omega),List.take_set_of_le (c7b _),het]
            rfl
          have hnj:∀ j,k+(r+1)-1<=j->(es.set m u)[j]?=l[j]?:=fun j hj=>by
            rw [List.getElem?_set_ne (by omega)]
            exact hej j (by omega)
          have hnl:(es.set m u).length=l.length:=by rw [c7J,hel]
          generalize es.set m u=es' at *
          (repeat first|refine uA ?_|(apply uK;focus omega)|simp (disch:=omega) only [go_sem,Nat.reduceBEq,ww,c6U,c7f,hel,ex,hmg,c6V,c7a,ce,List.take_zero,List.drop_zero,List.drop_succ_cons,List.nil_append,List.append_nil,hset])
          refine S.next (m:=fun p:Nat × List Cl=>l.length-p.1) (x:=(r,es)) (r+1,es') ⟨⟨by simp only;omega,by simp only;omega⟩,hnl,by simp only [hdl];exact hnt,by simp only [hdl];omega,hnj⟩ (by simp only;omega) (by simp only [hdl];exact (by (repeat first|refine uA ?_|(refine ⟨?_,?_⟩;focus first|rfl|simp [slot])|rfl|simp|exact c6X hν0 (by simp))))
        · have huv:u=v:=by
            simp at hc
            exact Prod.ext hc.1 hc.2
          have hdn:=b4M (by omega) gx gy huv
          rw [show k+r+1=k+(r+1) by omega] at hdn
          (repeat first|refine uA ?_|(apply uK;focus omega)|simp (disch:=omega) only [go_sem,Nat.reduceBEq,ww])
          refine S.next (m:=fun p:Nat × List Cl=>l.length-p.1) (x:=(r,es)) (r+1,es) ⟨⟨by simp only;omega,by simp only;omega⟩,hel,by simp only [hdn];exact het,by simp only [hdn];omega,fun j hj=>hej j (by omega)⟩ (by simp only;omega) (by simp only [hdn];exact (by (repeat first|refine uA ?_|(refine ⟨?_,?_⟩;focus first|rfl|simp [slot])|rfl|simp|exact c6X hν0 (by simp))))
      · have hrr:k+r=l.length:=by omega
        rw [hrr] at het hew ⊢
        clear hej hd0
        generalize hm:(dd l l.length).length=m at *
        generalize dd l l.length=d at *
        have hz:(es.map ce).take m++List.replicate (l.length-m) [C.v (.int .i64 0),.v (.int .i64 0)]=(d++List.replicate (l.length-m) (0,0)).map ce:=by
          rw [c7G,List.map_replicate,<- List.map_take,het]
          rfl
        generalize (d++List.replicate (l.length-m) (0,0)).map ce=R at *
        have hRl:R.length=l.length:=by rw [<- hz];simp;omega
        have hz2:=hz
        rw [<- List.map_take] at hz2
        (repeat first|refine uA ?_|(apply uK;focus omega)|simp (disch:=omega) only [go_sem,Nat.reduceBEq,c6U,hel,c7a,hz2,hRl])
        exact S.done (j3.K5 (Imp.refl rfl) (D7.cons (RI.row _ _ _ _ (by first|exact hz|exact hz2|rfl)) D7.nil) hν0)
    · have hxy:x ≠ y:=fun e=>by
        subst e
        simp at hc
      (repeat first|refine uA ?_|(apply uK;focus omega)|simp (disch:=omega) only [go_sem,Nat.reduceBEq,ww])
      refine S.next (k+1) ⟨⟨by omega,by omega⟩,fun j h0 h1=>?_⟩ (by omega) (by (repeat first|refine uA ?_|(refine ⟨?_,?_⟩;focus first|rfl|simp [slot])|rfl|simp|exact c6X hν0 (by simp)))
      rcases c7p j k with h|h
      · exact hm j h0 h
      · have:j=k:=by omega
        subst this
        rw [hgx,hgy]
        exact fun e=>hxy (Option.some.inj e)
  · have hk:k=l.length:=by omega
    subst hk
    obtain ⟨h1,h2⟩:=same hm
    rw [h2,h1]
    (repeat first|refine uA ?_|(apply uK;focus omega)|simp (disch:=omega) only [go_sem,Nat.reduceBEq])
    exact S.done (j3.K5 (Imp.win rfl (by rw [c6U]) Nat.zero_lt_one) (by (repeat first|refine uA ?_|rfl|simp [slot])) hν0)
end Go.Proofs.YtgpegbfnlkidjaaGreatDoor
