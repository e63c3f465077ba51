/- A part of the proof: lemmas only, with the conditions that each names. -/
import Derived.Test.YtgpegbfnlkidjaaGreatDoorProg
import Derived.KernelRfl
import Derived.Shelf.Strings.SlTrimAscii
import Derived.Test.YtgpegbfnlkidjaaGreatDoorNk5
set_option linter.all false
namespace Go.Proofs.YtgpegbfnlkidjaaGreatDoor
open Go Go.RowKit Eng
set_option maxRecDepth 100000
set_option maxHeartbeats 8000000
theorem c3L {ls:List (List Cl)} {i:Nat}:a2l ls i<=ls.flatten.length:=by
 unfold a2l
 have h:ls.flatten=(ls.take i).flatten++(ls.drop i).flatten:=by rw [<- List.flatten_append,List.take_append_drop]
 rw [h,c7e]
 omega
theorem a6M (ls:List (List Cl)) (hl:ls.length<=1000) (hn:ls.flatten.length<=1000000000):FNew Tryz.prog 52 [U5 ls] 53 2 ((M5 ls.flatten).map ce):=by
 refine FNew.of (eff:=eff) Tryz.func52 (by cbv) (by exact c7j rfl) fun w O=>?_
 have h1:=c1k ls hl (fun i=>c6X c3L hn)
 have h2:=fun (E:Ctx) (hP:E.P=Tryz.prog)=>c4R (E:=E) hP ls.flatten (by omega)
 have h3:=fun (E:Ctx) (hP:E.P=Tryz.prog)=>c0t (E:=E) hP (ls.flatten.mergeSort leC) (by rw [List.length_mergeSort];exact hn)
 have hd:=(a6u (a6K ls.flatten) _ (c7b _)).2.2
 have hs:M5 ls.flatten=dd (ls.flatten.mergeSort leC) (ls.flatten.mergeSort leC).length:=rfl
 rw [hs]
 generalize dd (ls.flatten.mergeSort leC) (ls.flatten.mergeSort leC).length=d at *
 generalize hm:(ls.flatten.mergeSort leC).length-d.length=m at *
 generalize ls.flatten.mergeSort leC=M at *
 generalize ls.flatten=F at *
 simp only [j5,TT,OA,MM,U5] at h1 ⊢
 (repeat first|refine uA ?_|(apply uK;focus omega)|simp (disch:=omega) only [go_sem,Nat.reduceBEq]|refine l8.t (FNew.t h1 rfl) ?_|refine l8.t (h2 _ rfl) ?_|refine l8.t (h3 _ rfl) ?_)
 refine S.weaken (Ent.shrink 2 0 rfl rfl (by simp) ⟨.inr (c6Z _),trivial⟩) ?_
 exact S.done (j3.new rfl rfl (by simp [a0A,Res.D5]))
theorem c5q (a b:List Cl) (ha:a.length<=100000000) (hb:b.length<=100000000):y9 Tryz.prog 22 [cls a,cls b] (cls (a3d a b)):=by
 refine kS Tryz.func22 (by cbv) (by rfl) fun w O=>?_
 have h:=(a6M [a,b] (by show 2<=1000;decide) (by simp;omega)).spec
 rw [show [a,b].flatten=a++b by simp] at h
 unfold a3d
 generalize M5 (a++b)=r at *
 simp only [j5,TT,OA,MM,cls]
 simp only [U5,c7i,c7q,cls] at h
 (repeat first|refine uA ?_|(apply uK;focus first|omega|(intros;simp_all<;>omega))|simp (disch:=omega) only [go_sem,Nat.reduceBEq,Nat.reduceAdd])
 refine l8.b3w [.sl 1 [[cls a],[cls b]]] [.gone] h (j4.cons (Imp.frz rfl rfl rfl) j4.nil) rfl (D7.cons (RI.gone _) D7.nil) rfl ?_
 (repeat first|refine uA ?_|(apply uK;focus omega)|simp (disch:=omega) only [go_sem,Nat.reduceBEq])
 exact S.done (j3.out rfl (Imp.refl rfl) rfl)
open Go Eng
theorem Imp.c4A {rs rs':List Res} {c:C}:Imp rs rs' c (.any fun _=>True):=fun _ _ _ _ _ _ _ _ _=>by simp only [Den]
theorem c0J (l:List Cl) (t:Cl) (hu:Up l) (hn:l.length<=1000000000):y9 Tryz.prog 126 [cls l,.agg (ce t),.v (.func (.func 61) #[] #[])] (.tup [.any fun _=>True,.v (.bool (a1h l t))]):=by
 refine kS Tryz.func126 (by cbv) (by rfl) fun w O=>?_
 have ho:=fun a=>b7m a t
 have hcal:callable Tryz.prog 61=true:=by kernel_rfl
 simp only [j5,TT,II,OA,OC,MM,LL,MG,LG,cls,ce] at ho ⊢
 (repeat first|refine uA ?_|(refine uK ?_ ?_;focus first|omega|(intros;simp_all<;>omega))|simp (disch:=omega) only [go_sem,Nat.reduceBEq,Nat.reduceAdd,c6U])
 refine S.loop (X:=Nat × Nat) (fun p=>⟨[(0,cls l),(2,.v (.func (.func 61) #[] #[])),(4,.bp 0 0),(8,ints l.length),(9,ints p.1),(10,ints p.2)],[.box 53 (ce t)]⟩)
  (fun p=>(p.1<=p.2/\p.2<=l.length)/\(∀ k x,k < p.1->l[k]?=some x->ltC x t=true)/\(∀ k x,p.2<=k->l[k]?=some x->ltC x t=false)) (fun p=>p.2-p.1) (0,l.length)
  ⟨⟨c6Z _,c7b _⟩,fun _ _ h=>absurd h (Nat.not_lt_zero _),fun k x h hx=>by have:=(c6Y.1 hx).1;simp only at h;omega⟩ (by (repeat first|refine uA ?_|(refine ⟨?_,?_⟩;focus first|rfl|simp [slot])|rfl|simp)) ?_
 rintro ⟨i,j⟩ ⟨⟨h1,h2⟩,h3,h4⟩
 simp only at h1 h2 h3 h4
 simp only [cls,ce,ints]
 (repeat first|refine uA ?_|(refine uK ?_ ?_;focus first|omega|(intros;simp_all<;>omega))|simp (disch:=omega) only [go_sem,Nat.reduceBEq])
 (refine uJ rfl (fun hc=>?_) fun hc=>?_)
 ·obtain ⟨h,hh⟩:∃ h:Nat,h=(i+j) / 2:=⟨_,rfl⟩
  have hlt:h < l.length:=by omega
  have hg:=c6T hlt
  generalize l[h]=x at hg
  have hsh:((i:Int)+(j:Int)).fdiv (2 ^ 1)=(h:Int):=by
   rw [Int.fdiv_eq_ediv_of_nonneg _ (by decide)]
   omega
  have hox:=ho x
  have hlx:ltC x t=decide (a1f x t < 0):=rfl
  generalize a1f x t=c at hox hlx
  (repeat first|refine uA ?_|(refine uK ?_ ?_;focus first|omega|(intros;simp_all<;>omega))|simp (disch:=omega) only [go_sem,Nat.reduceBEq,Nat.reduceAdd,ww,hsh,hg,hcal,c6U,c7f,c6V,c7a,ce]|(refine uB hox ?_ ?_;exact rfl))
  refine S.cond rfl (fun hc2=>?_) (fun hc2=>?_)
  ·rw [hc2] at hlx
   (repeat first|refine uA ?_|(refine uK ?_ ?_;focus first|omega|(intros;simp_all<;>omega))|simp (disch:=omega) only [go_sem,Nat.reduceBEq,ww])
   refine S.next (m:=fun p:Nat × Nat=>p.2-p.1) (x:=(i,j)) (h+1,j) ⟨⟨by simp only;omega,h2⟩,fun k y hk hy=>?_,h4⟩ (by simp only;omega) (by (repeat first|refine uA ?_|(refine ⟨?_,?_⟩;focus first|rfl|simp [slot])|rfl|simp))
   rcases c7p k h with hk'|hk'
   ·exact a5u (hu.get hk' hy hg) hlx
   ·have:k=h:=by simp only at hk;omega
    subst this
    rw [hg] at hy
    injection hy with hy
    rw [<- hy]
    exact hlx
  ·rw [hc2] at hlx
   (repeat first|refine uA ?_|(refine uK ?_ ?_;focus first|omega|(intros;simp_all<;>omega))|simp (disch:=omega) only [go_sem,Nat.reduceBEq])
   refine S.next (m:=fun p:Nat × Nat=>p.2-p.1) (x:=(i,j)) (i,h) ⟨⟨by simp only;omega,by simp only;omega⟩,h3,fun k y hk hy=>?_⟩ (by simp only;omega) (by (repeat first|refine uA ?_|(refine ⟨?_,?_⟩;focus first|rfl|simp [slot])|rfl|simp))
   rcases c7p h k with hk'|hk'
   ·cases hy2:ltC y t with
    | false=>rfl
    | true=>rw [a5u (hu.get hk' hg hy) hy2] at hlx;cases hlx
   ·have:k=h:=by simp only at hk;omega
    subst this
    rw [hg] at hy
    injection hy with hy
    rw [<- hy]
    exact hlx
 ·have hij:j=i:=by omega
  subst hij
  have hf:=b8F hu h3 h4
  rw [hf]
  clear h3 h4 hf
  rcases c7p j l.length with hlt|hge
  ·have hg:=c6T hlt
   generalize l[j]=x at hg
   have hox:=ho x
   rw [hg]
   simp only
   generalize a1f x t=c at hox
   have hjl:decide ((j:Int) < (l.length:Int))=true:=decide_eq_true (by omega)
   (repeat first|refine uA ?_|(refine uK ?_ ?_;focus first|omega|(intros;simp_all<;>omega))|simp (disch:=omega) only [go_sem,Nat.reduceBEq,Nat.reduceAdd,hg,hcal,c6U,c7f,c6V,c7a,ce,hjl]|(refine uB hox ?_ ?_;exact rfl))
   refine S.done ?_
   simp only [p8,go_sem,Nat.reduceBEq]
   exact j3.out rfl (Imp.tup (j4.cons Imp.c4A (j4.cons (Imp.eq (by simp) rfl) j4.nil))) rfl
  ·rw [c7v hge]
   have hgn:l[j]?=none:=c7v hge
   have hjl:decide ((j:Int) < (l.length:Int))=false:=decide_eq_false (by omega)
   (repeat first|refine uA ?_|(refine uK ?_ ?_;focus first|omega|(intros;simp_all<;>omega))|simp (disch:=omega) only [go_sem,Nat.reduceBEq,Nat.reduceAdd,c6U,hjl,hgn,c7f,Option.map_none,hcal,c7a])
   refine a0s.mk (r:=.v (.int .i64 0)) (fun hp=>by cases hp) ?_
   (repeat first|refine uA ?_|(refine uK ?_ ?_;focus first|omega|(intros;simp_all<;>omega))|simp (disch:=omega) only [go_sem,Nat.reduceBEq])
   refine S.done ?_
   simp only [p8,go_sem,Nat.reduceBEq]
   exact j3.out rfl (Imp.tup (j4.cons Imp.c4A (j4.cons (Imp.eq (by simp) rfl) j4.nil))) rfl
theorem c2r (l:List Cl) (t:Cl) (hu:Up l) (hn:l.length<=1000000000):y9 Tryz.prog 64 [cls l,.agg (ce t)] (.v (.bool (a1h l t))):=by
 refine kS Tryz.func64 (by cbv) (by rfl) fun w O=>?_
 have h:=c0J l t hu hn
 generalize a1h l t=b at *
 simp only [j5,TT,OA,MM,LL,cls,ce] at h ⊢
 (repeat first|refine uA ?_|(apply uK;focus first|omega|(intros;simp_all<;>omega))|simp (disch:=omega) only [go_sem,Nat.reduceBEq,Nat.reduceAdd]|(apply uB h;exact rfl))
 exact S.done (j3.out rfl (Imp.refl rfl) rfl)
theorem b9o (l:List Cl) (t:Cl) (hu:Up l) (hn:l.length<=1000000000):y9 Tryz.prog 128 [.agg (ce t),.ep [cls l]] (.v (.bool (!a1h l t))):=by
 refine kS Tryz.func128 (by cbv) (by rfl) fun w O=>?_
 have h:=c2r l t hu hn
 generalize a1h l t=b at *
 simp only [j5,TT,OA,MM,LL,VV,cls,ce] at h ⊢
 (repeat first|refine uA ?_|(apply uK;focus first|omega|(intros;simp_all<;>omega))|simp (disch:=omega) only [go_sem,Nat.reduceBEq,Nat.reduceAdd]|(apply uB h;exact rfl))
 exact S.done (j3.out rfl (Imp.refl rfl) rfl)
theorem c4a (l:List Cl) (t:Cl) (hu:Up l) (hn:l.length<=1000000000):y9 Tryz.prog 63 [.agg (ce t),.ep [cls l]] (.v (.bool (!a1h l t))):=by
 refine kS Tryz.func63 (by cbv) (by rfl) fun w O=>?_
 have h:=c2r l t hu hn
 generalize a1h l t=b at *
 simp only [j5,TT,OA,MM,LL,VV,cls,ce] at h ⊢
 (repeat first|refine uA ?_|(apply uK;focus first|omega|(intros;simp_all<;>omega))|simp (disch:=omega) only [go_sem,Nat.reduceBEq,Nat.reduceAdd]|(apply uB h;exact rfl))
 exact S.done (j3.out rfl (Imp.refl rfl) rfl)
theorem b9T (g:Nat) (hcal:callable Tryz.prog g=true) (X:C) (p:Cl->Bool) (l:List Cl) (hn:l.length<=1000000000) (hX:C.cl X=true) (hg:∀ x:Cl,y9 Tryz.prog g [.agg (ce x),.ep [X]] (.v (.bool (p x)))) :
  y9 Tryz.prog 125 [cls l,.clo g [.ep [X]]] (ints (a0K p l)):=by
 refine kS Tryz.func125 (by cbv) (by rfl) fun w O=>?_
 simp only [j5,TT,II,OA,MM,LL,cls,ints]
 (repeat first|refine uA ?_|(apply uK;focus omega)|simp (disch:=omega) only [go_sem,Nat.reduceBEq,c6U])
 refine S.loop (X:=Nat) (fun i=>⟨[(0,cls l),(1,.clo g [.ep [X]]),(7,ints l.length),(8,ints i)],[]⟩) (fun i=>i<=l.length/\∀ j,j < i->∀ x,l[j]?=some x->p x=false) (fun i=>l.length-i) 0 ⟨c6Z _,fun _ h=>absurd h (Nat.not_lt_zero _)⟩ (by (repeat first|refine uA ?_|(refine ⟨?_,?_⟩;focus first|rfl|simp [slot])|rfl|simp)) ?_
 rintro i ⟨hi,hm⟩
 simp only [cls,ints]
 (repeat first|refine uA ?_|(apply uK;focus omega)|simp (disch:=omega) only [go_sem,Nat.reduceBEq])
 (refine uJ rfl (fun hc=>?_) fun hc=>?_)
 ·have hi':i < l.length:=by omega
  have hgi:=c6T hi'
  generalize l[i]=x at hgi
  have hs:=hg x
  simp only [ce] at hs
  generalize hpx:p x=b at hs
  (repeat first|refine uA ?_|(apply uK;focus omega)|simp (disch:=omega) only [go_sem,Nat.reduceBEq,hgi,c6V,c6U,c7f,ce,c7a,hcal]|(apply uB hs;exact rfl))
  refine S.cond rfl (fun hc2=>?_) (fun hc2=>?_)
  ·rw [a1B (p:=p) hgi (hpx.trans hc2) hm]
   (repeat first|refine uA ?_|(apply uK;focus omega)|simp (disch:=omega) only [go_sem,Nat.reduceBEq])
   exact S.done (j3.out rfl (Imp.refl rfl) rfl)
  ·(repeat first|refine uA ?_|(apply uK;focus omega)|simp (disch:=omega) only [go_sem,Nat.reduceBEq,ww])
   refine S.next (i+1) ⟨by omega,fun j hj y hy=>?_⟩ (by omega) (by (repeat first|refine uA ?_|(refine ⟨?_,?_⟩;focus first|rfl|simp [slot])|rfl|simp))
   rcases c7p j i with h1|h1
   ·exact hm j h1 y hy
   ·have:j=i:=by omega
    subst this
    rw [hgi] at hy
    cases hy
    exact hpx.trans hc2
 ·have hi':i=l.length:=by omega
  subst hi'
  rw [a0M hm]
  (repeat first|refine uA ?_|(apply uK;focus omega)|simp (disch:=omega) only [go_sem])
  exact S.done (j3.out rfl (Imp.refl rfl) rfl)
theorem c3m (g:Nat) (hcal:callable Tryz.prog g=true) (X:C) (p:Cl->Bool) (l:List Cl) (hn:l.length<=1000000000) (hX:C.cl X=true) (hg:∀ x:Cl,y9 Tryz.prog g [.agg (ce x),.ep [X]] (.v (.bool (p x)))) :
  y9 Tryz.prog 127 [cls l,.clo g [.ep [X]]] (.v (.bool (l.any p))):=by
 refine kS Tryz.func127 (by cbv) (by rfl) fun w O=>?_
 have h:=b9T g hcal X p l hn hX hg
 rw [<- a2y]
 generalize a0K p l=n at *
 simp only [j5,TT,II,OA,MM]
 simp only [cls,ints] at *
 (repeat first|refine uA ?_|(apply uK;focus first|omega|(intros;simp_all<;>omega))|simp (disch:=omega) only [go_sem,Nat.reduceBEq,Nat.reduceAdd]|(apply uB h;exact rfl))
 exact S.done (j3.out rfl (Imp.refl rfl) rfl)
theorem c1R (a b:List Cl) (ha:a.length<=100000000) (hb:b.length<=100000000):y9 Tryz.prog 66 [cls a,cls b] (.v (.bool (a2F a b))):=by
 refine kS Tryz.func66 (by cbv) (by rfl) fun w O=>?_
 have h:=(a6M [b] (by show 1<=1000;decide) (by simp;omega)).spec
 rw [show [b].flatten=b by simp] at h
 have hB:=a4i b
 have hu:=a9Q b
 have h2:=c3m 128 (by kernel_rfl) (cls (M5 b)) (fun t=>!a1h (M5 b) t) a (by omega) rfl (fun x=>b9o (M5 b) x hu (by omega))
 have he:a2F a b=!(a.any fun t=>!a1h (M5 b) t):=by unfold a2F;rw [List.not_any_eq_all_not];simp
 rw [he]
 generalize (a.any fun t=>!a1h (M5 b) t)=r at *
 generalize M5 b=B at *
 simp only [j5,TT,OA,OB,MM,VV,cls]
 simp only [U5,c7i,c7q,cls] at h h2
 (repeat first|refine uA ?_|(apply uK;focus first|omega|(intros;simp_all<;>omega))|simp (disch:=omega) only [go_sem,Nat.reduceBEq,Nat.reduceAdd])
 refine l8.b3w [.sl 1 [[cls b]]] [.box 43 [cls b],.gone] h (j4.cons (Imp.frz rfl rfl rfl) j4.nil) rfl (D7.cons (RI.box _ _ _ (j4.refl rfl)) (D7.cons (RI.gone _) D7.nil)) rfl ?_
 (repeat first|refine uA ?_|(apply uK;focus omega)|simp (disch:=omega) only [go_sem,Nat.reduceBEq]|(apply uC h2;exact rfl;focus (repeat' first|exact j4.nil|exact Imp.refl rfl|exact Imp.F5|exact Imp.fbx rfl rfl (j4.refl rfl) rfl rfl|refine Imp.clo ?_|exact Imp.frz rfl rfl rfl|(refine Imp.U3 rfl rfl ?_ ?_;(focus ((try simp only [c7e]);omega));(focus first|rfl|assumption))|refine Imp.agg ?_|refine j4.cons ?_ ?_);done))
 exact S.done (j3.out rfl (Imp.refl rfl) rfl)
theorem b3k {α:Type} (p:α->Bool):∀ l:List α,(∀ (j:Nat) (x:α),j < l.length->l[j]?=some x->p x=false) \/ ∃ (i:Nat) (x:α),l[i]?=some x/\p x=true/\∀ j,j < i->∀ x,l[j]?=some x->p x=false
 | []=>.inl fun j x h=>by simp at h
 | a::l=>by
  cases ha:p a with
  | true=>exact .inr ⟨0,a,rfl,ha,fun j h=>absurd h (Nat.not_lt_zero _)⟩
  | false=>
   rcases b3k p l with h|⟨i,x,hx,hp,h⟩
   ·refine .inl fun j x hj hx=>?_
    cases j with
    | zero=>simp at hx;subst hx;exact ha
    | succ j=>exact h j x (by simpa using hj) (by simpa using hx)
   ·refine .inr ⟨i+1,x,by simpa using hx,hp,fun j hj y hy=>?_⟩
    cases j with
    | zero=>simp at hy;subst hy;exact ha
    | succ j=>exact h j (by omega) y (by simpa using hy)
theorem b3Q {p:Cl->Bool} {l:List Cl} (i:Nat) (h:∀ j,j < i->∀ x,l[j]?=some x->p x=false):(l.take i).filter (fun x=>!p x)=l.take i:=by
 rw [List.filter_eq_self]
 intro x hx
 obtain ⟨j,hj⟩:=List.mem_iff_getElem?.1 hx
 rw [List.getElem?_take] at hj
 split at hj
 ·rw [h j (by assumption) x hj];rfl
 ·cases hj
theorem b2J {p:Cl->Bool} {l:List Cl} {i:Nat} {x:Cl} (h:l[i]?=some x):(l.take (i+1)).filter (fun x=>!p x)=(l.take i).filter (fun x=>!p x)++(if p x=true then [] else [x]):=by
 rw [List.take_add_one,h,List.filter_append]
 cases hp:p x<;>simp [hp]
theorem c1x {E:Ctx} (hP:E.P=Tryz.prog) (g:Nat) (hcal:callable Tryz.prog g=true) (B:List Cl) (p:Cl->Bool) (l:List Cl) (hn:l.length<=1000000000) (hg:∀ x:Cl,y9 Tryz.prog g [.agg (ce x),.ep [cls B]] (.v (.bool (p x)))) :
  j6 E [.gone,.gone,.gone,.row 53 2 (l.map ce)] 62 [.rv 3,.clo g [.ep [cls B]]] (.wv 3 2 0 (l.filter fun x=>!p x).length) [.gone,.gone,.gone,.row 53 2 (((l.filter fun x=>!p x)++List.replicate (l.length-(l.filter fun x=>!p x).length) (0,0)).map ce)] []:=by
 obtain ⟨P,eff',N,w0,own0,av0,nu0,pk0⟩:=E
 simp only at hP
 subst hP
 refine j6.of (eff:=eff) Tryz.func62 (by cbv) (by exact c7j rfl) fun w own av ν hν=>?_
 have hν0:ν.length<=4:=by rw [hν];exact c7b _
 have hI:=b9T g hcal (cls B) p l hn rfl hg
 simp only [j5,TT,II,OA,OB,MM,LL]
 rcases b3k p l with hnone|⟨i,x0,hx0,hp0,hfirst⟩
 ·rw [a0M (fun j hj x hx=>hnone j x hj hx)] at hI
  have hF:l.filter (fun x=>!p x)=l:=by
   have:=b3Q (p:=p) (l:=l) l.length (fun j hj x hx=>hnone j x hj hx)
   rwa [c7l] at this
  rw [hF]
  simp only [cls,ints,Nat.sub_self,List.replicate_zero,List.append_nil] at hI ⊢
  (repeat first|refine uA ?_|(apply uK;focus first|omega|(intros;simp_all<;>omega))|simp (disch:=omega) only [go_sem,Nat.reduceBEq,Nat.reduceAdd]|(apply uC hI;exact rfl;focus (repeat' first|exact j4.nil|exact Imp.refl rfl|exact Imp.F5|exact Imp.fbx rfl rfl (j4.refl rfl) rfl rfl|refine Imp.clo ?_|exact Imp.frz rfl rfl rfl|(refine Imp.U3 rfl rfl ?_ ?_;(focus ((try simp only [c7e]);omega));(focus first|rfl|assumption))|refine Imp.agg ?_|refine j4.cons ?_ ?_);done))
  (refine uJ rfl (fun hc=>?_) fun hc=>?_)
  ·(repeat first|refine uA ?_|(apply uK;focus omega)|simp (disch:=omega) only [go_sem,Nat.reduceBEq])
   exact S.done (j3.K5 (Imp.win rfl (by rw [c6U]) (by show 3 < 4;decide)) (by (repeat first|refine uA ?_|rfl|simp [slot])) hν0)
  ·first|omega|exact (hc rfl).elim|(simp at hc;done)
 ·rw [a1B (p:=p) hx0 hp0 hfirst] at hI
  have hil:=(c6Y.1 hx0).1
  simp only [cls,ints] at hI ⊢
  (repeat first|refine uA ?_|(apply uK;focus first|omega|(intros;simp_all<;>omega))|simp (disch:=omega) only [go_sem,Nat.reduceBEq,Nat.reduceAdd]|(apply uC hI;exact rfl;focus (repeat' first|exact j4.nil|exact Imp.refl rfl|exact Imp.F5|exact Imp.fbx rfl rfl (j4.refl rfl) rfl rfl|refine Imp.clo ?_|exact Imp.frz rfl rfl rfl|(refine Imp.U3 rfl rfl ?_ ?_;(focus ((try simp only [c7e]);omega));(focus first|rfl|assumption))|refine Imp.agg ?_|refine j4.cons ?_ ?_);done))
  (refine uJ rfl (fun hc=>?_) fun hc=>?_)
  ·omega
  have hs0:(l.take (i+1)).filter (fun x=>!p x)=l.take i:=by rw [b2J hx0,if_pos hp0,List.append_nil,b3Q i hfirst]
  (repeat first|refine uA ?_|(apply uK;focus omega)|simp (disch:=omega) only [go_sem,Nat.reduceBEq,ww])
  refine S.loop (X:=Nat × List Cl) (fun q=>⟨[(0,.rv 3),(1,.clo g [.ep [cls B]]),(5,ints (((l.take q.1).filter fun x=>!p x).length:Nat)),(6,ints q.1)],[.gone,.gone,.gone,.row 53 2 (q.2.map ce)]⟩)
   (fun q=>(1<=q.1/\q.1<=l.length)/\q.2.length=l.length/\q.2.take ((l.take q.1).filter fun x=>!p x).length=(l.take q.1).filter (fun x=>!p x)/\((l.take q.1).filter fun x=>!p x).length+1<=q.1/\∀ j,q.1<=j->q.2[j]?=l[j]?) (fun q=>l.length-q.1) (i+1,l)
   ⟨⟨by simp only;omega,hil⟩,rfl,by simp only [hs0,c7d];rw [Nat.min_eq_left (by omega)],by simp only [hs0,c7d];omega,fun _ _=>rfl⟩ (by simp only [hs0,c7d,Nat.min_eq_left (Nat.le_of_lt hil),cls];exact (by (repeat first|refine uA ?_|(refine ⟨?_,?_⟩;focus first|rfl|simp [slot])|rfl|simp|exact c6X hν0 (by simp)))) ?_
  clear hI hs0 hfirst hx0
  rintro ⟨r,es⟩ ⟨⟨hr1,hr2⟩,hel,het,hew,hej⟩
  simp only at hr1 hr2 hel het hew hej
  simp only [ints,cls]
  (repeat first|refine uA ?_|(apply uK;focus omega)|simp (disch:=omega) only [go_sem,Nat.reduceBEq,c6U])
  (refine uJ rfl (fun hc=>?_) fun hc=>?_)
  ·have hr:r < l.length:=by omega
   have gx:=c6T hr
   generalize l[r]=u at gx
   have ex:=(hej r (c7b _)).trans gx
   have hfs:=b2J (p:=p) gx
   have hgu:=hg u
   simp only [cls,ce] at hgu
   generalize p u=b at *
   (repeat first|refine uA ?_|(apply uK;focus omega)|simp (disch:=omega) only [go_sem,Nat.reduceBEq,c6U,c7f,hel,ex,c6V,c7a,ce,hcal]|(apply uB hgu;exact rfl))
   refine S.cond rfl (fun hc=>?_) (fun hc=>?_)
   ·have hb:b=false:=by simpa using hc
    rw [hb,if_neg (by decide)] at hfs
    have hdl:((l.take (r+1)).filter fun x=>!p x).length=((l.take r).filter fun x=>!p x).length+1:=by rw [hfs,c7e];rfl
    generalize hm:((l.take r).filter fun x=>!p x).length=m at *
    have hmg:=c6T (show m < es.length by omega)
    generalize es[m]'_=z at hmg
    have hset:(es.map ce).set m [C.v (.int .i64 u.1),C.v (.int .i64 u.2)]=(es.set m u).map ce:=by rw [List.map_set];rfl
    have hnt:(es.set m u).take (m+1)=(l.take (r+1)).filter fun x=>!p x:=by
     rw [hfs,List.take_add_one,List.getElem?_set_self (by omega),List.take_set_of_le (c7b _),het]
     rfl
    have hnj:∀ j,r+1<=j->(es.set m u)[j]?=l[j]?:=fun j hj=>by
     rw [List.getElem?_set_ne (by omega)]
     exact hej j (by omega)
    have hnl:(es.set m u).length=l.length:=by rw [c7J,hel]
    generalize es.set m u=es' at *
    (repeat first|refine uA ?_|(apply uK;focus omega)|simp (disch:=omega) only [go_sem,Nat.reduceBEq,ww,c6U,c7f,hel,hmg,c6V,c7a,ce,List.take_zero,List.drop_zero,List.drop_succ_cons,List.nil_append,List.append_nil,hset])
    refine S.next (m:=fun q:Nat × List Cl=>l.length-q.1) (x:=(r,es)) (r+1,es') ⟨⟨by simp only;omega,hr⟩,hnl,by simp only [hdl];exact hnt,by simp only [hdl];omega,hnj⟩ (by simp only;omega) (by simp only [hdl];exact (by (repeat first|refine uA ?_|(refine ⟨?_,?_⟩;focus first|rfl|simp [slot])|rfl|simp|exact c6X hν0 (by simp))))
   ·have hb:b=true:=by simpa using hc
    rw [hb,if_pos rfl,List.append_nil] at hfs
    (repeat first|refine uA ?_|(apply uK;focus omega)|simp (disch:=omega) only [go_sem,Nat.reduceBEq,ww])
    refine S.next (m:=fun q:Nat × List Cl=>l.length-q.1) (x:=(r,es)) (r+1,es) ⟨⟨by simp only;omega,hr⟩,hel,by simp only [hfs];exact het,by simp only [hfs];omega,fun j hj=>hej j (by omega)⟩ (by simp only;omega) (by simp only [hfs];exact (by (repeat first|refine uA ?_|(refine ⟨?_,?_⟩;focus first|rfl|simp [slot])|rfl|simp|exact c6X hν0 (by simp))))
  ·have hrr:r=l.length:=by omega
   subst hrr
   rw [c7l] at het hew ⊢
   clear hej hil hp0
   generalize hm:(l.filter fun x=>!p x).length=m at *
   generalize (l.filter fun x=>!p x)=d at *
   have hz:(es.map ce).take m++List.replicate (l.length-m) [C.v (.int .i64 0),.v (.int .i64 0)]=(d++List.replicate (l.length-m) (0,0)).map ce:=by
    rw [c7G,List.map_replicate,<- List.map_take,het]
    rfl
   generalize (d++List.replicate (l.length-m) (0,0)).map ce=R at *
   have hRl:R.length=l.length:=by rw [<- hz];simp;omega
   have hz2:=hz
   rw [<- List.map_take] at hz2
   (repeat first|refine uA ?_|(apply uK;focus omega)|simp (disch:=omega) only [go_sem,Nat.reduceBEq,c6U,hel,c7a,hz2,hRl])
   exact S.done (j3.K5 (Imp.refl rfl) (D7.cons (RI.gone _) (D7.cons (RI.gone _) (D7.cons (RI.gone _) (D7.cons (RI.row _ _ _ _ (by first|exact hz|exact hz2|rfl)) D7.nil)))) hν0)
theorem c4U (a b:List Cl) (ha:a.length<=100000000) (hb:b.length<=100000000):y9 Tryz.prog 26 [cls a,cls b] (cls (a2M a b)):=by
 refine kS Tryz.func26 (by cbv) (by rfl) fun w O=>?_
 have h:=(a6M [b] (by show 1<=1000;decide) (by simp;omega)).spec
 have h':=a6M [a] (by show 1<=1000;decide) (by simp;omega)
 rw [show [b].flatten=b by simp] at h
 rw [show [a].flatten=a by simp] at h'
 have hB:=a4i b
 have hA:=a4i a
 have hu:=a9Q b
 have h2:=fun (E:Ctx) (hP:E.P=Tryz.prog)=>c1x (E:=E) hP 63 (by kernel_rfl) (M5 b) (fun t=>!a1h (M5 b) t) (M5 a) (by omega) (fun x=>c4a (M5 b) x hu (by omega))
 have he:a2M a b=(M5 a).filter fun t=>!(!a1h (M5 b) t):=by unfold a2M;simp
 rw [he]
 have hf:=List.length_filter_le (fun t=>!(!a1h (M5 b) t)) (M5 a)
 generalize ((M5 a).filter fun t=>!(!a1h (M5 b) t))=F at *
 generalize hm:(M5 a).length-F.length=m at *
 generalize M5 b=B at *
 generalize M5 a=A at *
 simp only [j5,TT,OA,OB,MM,VV,cls]
 simp only [U5,c7i,c7q,cls] at h h' h2
 (repeat first|refine uA ?_|(apply uK;focus first|omega|(intros;simp_all<;>omega))|simp (disch:=omega) only [go_sem,Nat.reduceBEq,Nat.reduceAdd])
 refine l8.b3w [.sl 1 [[cls b]]] [.box 43 [cls b],.gone] h (j4.cons (Imp.frz rfl rfl rfl) j4.nil) rfl (D7.cons (RI.box _ _ _ (j4.refl rfl)) (D7.cons (RI.gone _) D7.nil)) rfl ?_
 (repeat first|refine uA ?_|(apply uK;focus omega)|simp (disch:=omega) only [go_sem,Nat.reduceBEq])
 refine l8.t (j6.vg (rs2:=[.box 43 [cls B],.gone,.gone]) (FNew.t h' rfl) (j4.cons (Imp.frz rfl rfl rfl) j4.nil) (D7.cons (RI.box _ _ _ (j4.refl rfl)) (D7.cons (RI.gone _) (D7.cons (RI.gone _) D7.nil))) rfl) ?_
 (repeat first|refine uA ?_|(apply uK;focus omega)|simp (disch:=omega) only [go_sem,Nat.reduceBEq])
 refine l8.t (j6.vg (h2 _ rfl) (j4.cons (Imp.refl rfl) (j4.cons (Imp.clo (j4.cons (Imp.fbx rfl rfl (j4.refl rfl) rfl rfl) j4.nil)) j4.nil)) (D7.cons (RI.gone _) (D7.cons (RI.gone _) (D7.cons (RI.gone _) (D7.cons (RI.row _ _ _ _ rfl) D7.nil)))) rfl) ?_
 (repeat first|refine uA ?_|(apply uK;focus omega)|simp (disch:=omega) only [go_sem,Nat.reduceBEq])
 exact S.done (j3.out rfl (Imp.U3 rfl rfl (by simp) (by simp)) rfl)
open Go
def onB (n:Int):Bool:=decide (-64<=n) && decide (n < 64)
theorem a8P {n:Int}:onB n=true <-> -64<=n/\n < 64:=by unfold onB;rw [c7c,decide_eq_true_iff,decide_eq_true_iff]
def M8 (lo:Rat):Int:=-flI (-lo)-1
def a0Y (lo hi:Rat):Bool:=decide (flE hi=0) && decide (flE (-lo)=0) && onB (M8 lo) && onB (flI hi)
def ofE (b:Bq):Int:=if 0 < Nm.q9 b.lx b.hx \/ 0 < Nm.q9 b.ly b.hy then 1 else if (a0Y b.lx b.hx && a0Y b.ly b.hy)=false then 17 else if 400 < (flI b.hx-M8 b.lx+1)*(flI b.hy-M8 b.ly+1) then 2 else 0
def a3l (x0 y:Int) (n:Nat):List Cl:=(List.range n).map fun k:Nat=>(x0+(k:Int),y)
def a5k (x0 y0:Int) (m n:Nat):List Cl:=(List.range n).flatMap fun k:Nat=>a3l x0 (y0+(k:Int)) m
theorem b9a (x0 y:Int) (n:Nat):a3l x0 y (n+1)=a3l x0 y n++[(x0+(n:Int),y)]:=by simp [a3l,List.range_succ]
theorem b2w (x0 y0:Int) (m n:Nat):a5k x0 y0 m (n+1)=a5k x0 y0 m n++a3l x0 (y0+(n:Int)) m:=by simp [a5k,List.range_succ]
theorem b3V (x0 y:Int) (n:Nat):(a3l x0 y n).length=n:=by simp [a3l]
theorem a9q (x0 y0:Int) (m:Nat):∀ n,(a5k x0 y0 m n).length=n*m
 | 0=>by simp [a5k]
 | n+1=>by rw [b2w,c7e,a9q x0 y0 m n,b3V,Nat.succ_mul]
def wid (a b:Int):Nat:=(b+1-a).toNat
def ofC (b:Bq):List Cl:=if ofE b=0 then a5k (M8 b.lx) (M8 b.ly) (wid (M8 b.lx) (flI b.hx)) (wid (M8 b.ly) (flI b.hy)) else []
theorem b5A {b:Bq} (h:ofE b=0):(onB (M8 b.lx)=true/\onB (flI b.hx)=true)/\(onB (M8 b.ly)=true/\onB (flI b.hy)=true):=by
 unfold ofE at h
 split at h
 ·cases h
 ·split at h
  ·cases h
  ·rename_i _ h2
   rw [Bool.not_eq_false,c7c] at h2
   unfold a0Y at h2
   simp only [c7c] at h2
   exact ⟨⟨h2.1.1.2,h2.1.2⟩,⟨h2.2.1.2,h2.2.2⟩⟩
theorem c4W {b:Bq} {c:Cl} (h:c ∈ ofC b):onB c.1=true/\onB c.2=true:=by
 unfold ofC at h
 split at h
 ·rename_i h0
  obtain ⟨⟨a1,a2⟩,a3,a4⟩:=b5A h0
  obtain ⟨k,hk,hc⟩:=List.mem_flatMap.1 h
  obtain ⟨j,hj,rfl⟩:=List.mem_map.1 hc
  rw [List.mem_range] at hk hj
  rw [a8P] at *
  unfold wid at hk hj
  simp only
  rw [a8P]
  omega
 ·cases h
theorem b1M (b:Bq):(ofC b).length<=16384:=by
 unfold ofC
 split
 ·rename_i h0
  obtain ⟨⟨a1,a2⟩,a3,a4⟩:=b5A h0
  rw [a9q]
  rw [a8P] at *
  have h1:wid (M8 b.lx) (flI b.hx)<=128:=by unfold wid;omega
  have h2:wid (M8 b.ly) (flI b.hy)<=128:=by unfold wid;omega
  exact c6X (Nat.mul_le_mul h2 h1) (by decide)
 ·exact c6Z _
def L9 (bs:List Bq):List Cl:=bs.foldl (fun o b=>a3d o (ofC b)) []
theorem b6n (bs:List Bq) (b:Bq):L9 (bs++[b])=a3d (L9 bs) (ofC b):=by unfold L9;rw [List.foldl_append];rfl
theorem a4v:∀ (bs:List Bq) (o:List Cl),Up o->Up (bs.foldl (fun o b=>a3d o (ofC b)) o)/\(∀ x,x ∈ bs.foldl (fun o b=>a3d o (ofC b)) o <-> x ∈ o \/ ∃ b ∈ bs,x ∈ ofC b)/\(bs.foldl (fun o b=>a3d o (ofC b)) o).length<=o.length+16384*bs.length
 | [],o,h=>⟨h,fun x=>by simp,by simp⟩
 | b::r,o,h=>by
  obtain ⟨h1,h2,h3⟩:=a4v r (a3d o (ofC b)) (a9Q _)
  refine ⟨h1,fun x=>?_,?_⟩
  ·rw [List.foldl_cons,h2]
   unfold a3d
   rw [b9k,List.mem_append]
   constructor
   ·rintro ((h|h)|⟨c,hc,hx⟩)
    ·exact .inl h
    ·exact .inr ⟨b,List.mem_cons_self,h⟩
    ·exact .inr ⟨c,List.mem_cons_of_mem _ hc,hx⟩
   ·rintro (h|⟨c,hc,hx⟩)
    ·exact .inl (.inl h)
    ·rcases List.mem_cons.1 hc with rfl|hc
     ·exact .inl (.inr hx)
     ·exact .inr ⟨c,hc,hx⟩
  ·have k1:=a4i (o++ofC b)
   have k2:=b1M b
   rw [c7e] at k1
   rw [List.foldl_cons,c7m]
   unfold a3d at h3 ⊢
   omega
theorem b9I (bs:List Bq):Up (L9 bs):=(a4v bs [] List.Pairwise.nil).1
theorem b7u {bs:List Bq} {x:Cl}:x ∈ L9 bs <-> ∃ b ∈ bs,x ∈ ofC b:=by
 unfold L9
 rw [(a4v bs [] List.Pairwise.nil).2.1]
 simp
theorem b7p (bs:List Bq):(L9 bs).length<=16384*bs.length:=by
 have:=(a4v bs [] List.Pairwise.nil).2.2
 simpa [L9] using this
def a5X (bs:List Bq):Int:=match bs.find? fun b=>!decide (ofE b=0) with
 | some b=>ofE b
 | none=>0
def cellsE (bs:List Bq):Int:=if a5X bs=0 then if 400 < (L9 bs).length then 2 else 0 else a5X bs
theorem c0H {bs:List Bq} (h:a5X bs=0):∀ b ∈ bs,ofE b=0:=by
 unfold a5X at h
 intro b hb
 split at h
 ·rename_i c hc
  have:=List.find?_some hc
  simp [h] at this
 ·rename_i hc
  have:=List.find?_eq_none.1 hc b hb
  simpa using this
theorem c1M {bs:List Bq} {i:Nat} {b:Bq} (hb:bs[i]?=some b) (h:ofE b ≠ 0) (hm:∀ j,j < i->∀ c,bs[j]?=some c->ofE c=0):a5X bs=ofE b:=by
 have:bs.find? (fun b=>!decide (ofE b=0))=some b:=by
  obtain ⟨hi,he⟩:=c6Y.1 hb
  rw [List.find?_eq_some_iff_getElem]
  refine ⟨by simpa using h,i,hi,he,fun j hj=>?_⟩
  have:=hm j hj _ (c6T (by omega))
  simp [this]
 unfold a5X
 rw [this]
theorem b9i {bs:List Bq} (hm:∀ j,j < bs.length->∀ c,bs[j]?=some c->ofE c=0):a5X bs=0:=by
 have:bs.find? (fun b=>!decide (ofE b=0))=none:=List.find?_eq_none.2 fun b hb=>by
  obtain ⟨j,hj⟩:=List.mem_iff_getElem?.1 hb
  simp [hm j (c6Y.1 hj).1 b hj]
 unfold a5X
 rw [this]
theorem b6t {bs:List Bq} (h:cellsE bs=0):(∀ b ∈ bs,ofE b=0)/\(L9 bs).length<=400:=by
 unfold cellsE at h
 split at h
 ·rename_i h0
  split at h
  ·cases h
  ·exact ⟨c0H h0,by omega⟩
 ·contradiction
def a8F (l:List Cl):Prop:=l.length<=400/\(∀ c ∈ l,onB c.1=true/\onB c.2=true)/\Up l
theorem b5O {bs:List Bq} (h:cellsE bs=0):a8F (L9 bs):=
 ⟨(b6t h).2,fun c hc=>by obtain ⟨b,_,hb⟩:=b7u.1 hc;exact c4W hb,b9I bs⟩
def a1r (ls:List (List Cl)):Bool:=(List.range ls.length).any fun i=>(ls.take i).any fun m=>decide (0 < (a2M (ls.getD i []) m).length)
theorem b7q (n:Int):y9 Tryz.prog 60 [ints n] (.v (.bool (onB n))):=by
 refine kS Tryz.func60 (by cbv) (by rfl) fun w O=>?_
 unfold onB
 simp only [j5,TT,II,OA,OC,MM,MG,ints]
 (repeat first|refine uA ?_|(apply uK;focus omega)|simp (disch:=omega) only [go_sem,Nat.reduceBEq])
 exact S.done (j3.out rfl (Imp.refl rfl) rfl)
theorem c2C (p:Rat):-9223372036854775807<=flI p/\flI p<=9223372036854775807:=by
 unfold flI
 split<;>omega
theorem b6T (lo hi:Rat) (hl:Rb 1000000000 (Nm.ofQ lo)) (hh:Rb 1000000000 (Nm.ofQ hi)):FZ 51 [rq lo,rq hi] (.tup [ints (M8 lo),ints (flI hi),.v (.bool (a0Y lo hi))]):=by
 refine kW Tryz.func51 (by cbv) (by rfl) fun w O hw=>?_
 have o1:=a9L (Nm.ofQ hi) (hh.mono (by decide))
 have o2:=a5q (Nm.ofQ lo) (hl.mono (by decide))
 have r2:=a1c hl
 have o3:=a9L (Nm.ofQ (-lo)) (r2.mono (by decide))
 rw [Nm.p9] at o1 o2 o3
 have b1:=c2C hi
 have b2:=c2C (-lo)
 have hs:M8 lo=-flI (-lo)-1:=rfl
 have hB:a0Y lo hi=(decide (flE hi=0) && decide (flE (-lo)=0) && onB (M8 lo) && onB (flI hi)):=rfl
 rw [hB]
 generalize M8 lo=x at *
 generalize flE hi=e1 at *
 generalize flE (-lo)=e2 at *
 generalize flI hi=y at *
 generalize flI (-lo)=z at *
 have o4:=b7q x
 have o5:=b7q y
 have hx:-z-1=x:=hs.symm
 have hx2:0-z-1=x:=by omega
 generalize onB x=u1 at *
 generalize onB y=u2 at *
 simp only [j5,TT,II,OA,OC,MM,LL,MG]
 simp only [rq,rc,sb,ints] at o1 o2 o3 o4 o5 ⊢
 (repeat first|refine uA ?_|(apply uK;focus first|omega|(intros;simp_all<;>omega))|simp (disch:=omega) only [go_sem,Nat.reduceBEq,Nat.reduceAdd,ww,hx2]|(apply uB o4;exact rfl)|(apply uB o5;exact rfl)|(apply uD o1;exact tz hw;rfl)|(apply uD o2;exact tz hw;rfl)|(apply uD o3;exact tz hw;rfl))
 refine S.done ?_
 simp only [p8,go_sem,Nat.reduceBEq]
 (repeat (refine ⟨?_,?_⟩;focus first|trivial|omega|simp))
 exact j3.out rfl (Imp.tup (j4.cons (Imp.refl rfl) (j4.cons (Imp.refl rfl) (j4.cons (Imp.eq (by simp) rfl) j4.nil)))) rfl
theorem c1c (l:List Cl) (h:a8F l):y9 Tryz.prog 25 [cls l] (ints 0):=by
 refine kS Tryz.func25 (by cbv) (by rfl) fun w O=>?_
 obtain ⟨hn,hon,hu⟩:=h
 simp only [j5,cls,ints]
 (repeat first|refine uA ?_|(apply uK;focus omega)|simp (disch:=omega) only [go_sem,Nat.reduceBEq,c6U])
 (refine uJ rfl (fun hc=>?_) fun hc=>?_)
 ·omega
 (repeat first|refine uA ?_|(apply uK;focus omega)|simp (disch:=omega) only [go_sem,Nat.reduceBEq,c6U])
 refine S.loop (X:=Nat) (fun i=>⟨[(0,cls l),(8,cls l),(9,ints l.length),(10,ints i)],[]⟩) (fun i=>i<=l.length) (fun i=>l.length-i) 0 (c6Z _) (by (repeat first|refine uA ?_|(refine ⟨?_,?_⟩;focus first|rfl|simp [slot])|rfl|simp)) ?_
 intro i hi
 simp only [cls,ints]
 (repeat first|refine uA ?_|(apply uK;focus omega)|simp (disch:=omega) only [go_sem,Nat.reduceBEq])
 (refine uJ rfl (fun hc=>?_) fun hc=>?_)
 ·have hi':i < l.length:=by omega
  have hg:=c6T hi'
  generalize l[i]=x at hg
  obtain ⟨x1,x2⟩:=hon x (c6W hg)
  have o1:=b7q x.1
  have o2:=b7q x.2
  rw [x1] at o1
  rw [x2] at o2
  simp only [ints] at o1 o2
  (repeat first|refine uA ?_|(apply uK;focus first|omega|(intros;simp_all<;>omega))|simp (disch:=omega) only [go_sem,Nat.reduceBEq,Nat.reduceAdd,c6U,c7f,hg,c6V,c7a,ce]|(apply uB o1;exact rfl)|(apply uB o2;exact rfl))
  refine S.cond rfl (fun hc=>by simp at hc) (fun hc=>?_)
  rcases c7s i with h0|h0
  ·subst h0
   have hjl:decide ((0:Int) < ((0:Nat):Int))=false:=by decide
   have hjm:(((0:Nat):Int)-1).toNat=0:=by decide
   (repeat first|refine uA ?_|(apply uK;focus omega)|simp (disch:=omega) only [go_sem,Nat.reduceBEq,ww,c6U,hjl,hjm,hg,c7f,c6V,ce])
   refine a0s.mk (r:=.v (.int .i64 0)) (fun hp=>by cases hp) ?_
   (repeat first|refine uA ?_|(apply uK;focus omega)|simp (disch:=omega) only [go_sem,Nat.reduceBEq])
   refine S.cond rfl (fun hc=>by simp at hc) (fun hc=>?_)
   (repeat first|refine uA ?_|(apply uK;focus omega)|simp (disch:=omega) only [go_sem,Nat.reduceBEq,ww])
   refine S.next (x:=0) 1 (by omega) (by omega) (by (repeat first|refine uA ?_|(refine ⟨?_,?_⟩;focus first|rfl|simp [slot])|rfl|simp))
  ·have hgy:=c6T (show i-1 < l.length by omega)
   generalize l[i-1]'_=y at hgy
   have hlt:=hu.get (show i-1 < i by omega) hgy hg
   have o3:=b7m y x
   have h4:a1f y x < 0:=by simpa [ltC] using hlt
   have hjl:decide ((0:Int) < (i:Int))=true:=decide_eq_true (by omega)
   have hjm:((i:Int)-1).toNat=i-1:=by omega
   generalize a1f y x=c at *
   simp only [ce,ints] at o3
   (repeat first|refine uA ?_|(apply uK;focus omega)|simp (disch:=omega) only [go_sem,Nat.reduceBEq,ww,c6U,hjl,hjm,hgy,c7f,c6V,ce]|(apply uB o3;exact rfl))
   refine S.cond rfl (fun hc=>?_) (fun hc=>?_)
   ·simp at hc
    omega
   (repeat first|refine uA ?_|(apply uK;focus omega)|simp (disch:=omega) only [go_sem,Nat.reduceBEq,ww])
   refine S.next (i+1) (by omega) (by omega) (by (repeat first|refine uA ?_|(refine ⟨?_,?_⟩;focus first|rfl|simp [slot])|rfl|simp))
 ·have hi':i=l.length:=by omega
  subst hi'
  (repeat first|refine uA ?_|(apply uK;focus omega)|simp (disch:=omega) only [go_sem])
  exact S.done (j3.out rfl (Imp.refl rfl) rfl)
theorem c4s (b:Bq) (hb:Bb 1000000000 b):FZ 21 [.agg b.enc] (.tup [cls (ofC b),ints (ofE b)]):=by
  refine kW Tryz.func21 (by cbv) (by rfl) fun w O hw=>?_
  have hon:=@b5A b
  have hE:ofE b=if 0 < Nm.q9 b.lx b.hx \/ 0 < Nm.q9 b.ly b.hy then 1 else if (a0Y b.lx b.hx && a0Y b.ly b.hy)=false then 17 else if 400 < (flI b.hx-M8 b.lx+1)*(flI b.hy-M8 b.ly+1) then 2 else 0:=rfl
  have hC:ofC b=if ofE b=0 then a5k (M8 b.lx) (M8 b.ly) (wid (M8 b.lx) (flI b.hx)) (wid (M8 b.ly) (flI b.hy)) else []:=rfl
  have hS:(a0Y b.lx b.hx && a0Y b.ly b.hy)=true->(onB (M8 b.lx)=true/\onB (flI b.hx)=true)/\(onB (M8 b.ly)=true/\onB (flI b.hy)=true):=fun h2=>by
    unfold a0Y at h2
    simp only [c7c] at h2
    exact ⟨⟨h2.1.1.2,h2.1.2⟩,⟨h2.2.1.2,h2.2.2⟩⟩
  rw [hC]
  clear hon hC
  obtain ⟨lx,ly,hx,hy⟩:=b
  obtain ⟨b1,b2,b3,b4⟩:=hb
  simp only at b1 b2 b3 b4 hE hS ⊢
  have o1:=K8 (Nm.ofQ lx) (Nm.ofQ hx) (b1.mono (by decide)) (b3.mono (by decide))
  have o2:=K8 (Nm.ofQ ly) (Nm.ofQ hy) (b2.mono (by decide)) (b4.mono (by decide))
  rw [Nm.p9,Nm.p9] at o1 o2
  have o3:=b6T lx hx b1 b3
  have o4:=b6T ly hy b2 b4
  generalize ofE ⟨lx,ly,hx,hy⟩=E at *
  generalize Nm.q9 lx hx=c1 at *
  generalize Nm.q9 ly hy=c2 at *
  generalize a0Y lx hx=s1 at *
  generalize a0Y ly hy=s2 at *
  generalize M8 lx=x0 at *
  generalize M8 ly=y0 at *
  generalize flI hx=x1 at *
  generalize flI hy=y1 at *
  clear b1 b2 b3 b4
  simp only [j5,TT,II,OA,OC,MM,LL,FF,MG,LG,FG]
  simp only [Bq.enc,rq,rc,sb,ints,cls] at o1 o2 o3 o4 ⊢
  (repeat first|refine uA ?_|(refine uK ?_ ?_;focus first|omega|(intros;simp_all<;>omega))|simp (disch:=omega) only [go_sem,Nat.reduceBEq,Nat.reduceAdd]|(refine uD o1 ?_ ?_ ?_;exact tz hw;exact rfl)|(refine uD o2 ?_ ?_ ?_;exact tz hw;exact rfl))
  refine S.cond rfl (fun hc=>?_) (fun hc=>?_)
  · have h1:0 < c1 \/ 0 < c2:=by
      revert hc
      by_cases k1:0 < c1<;>by_cases k2:0 < c2<;>simp [k1,k2]
    rw [if_pos h1] at hE
    subst hE
    rw [if_neg (by decide)]
    (repeat first|refine uA ?_|(refine uK ?_ ?_;focus first|omega|(intros;simp_all<;>omega))|simp (disch:=omega) only [go_sem])
    (refine S.done ?_;simp only [p8,go_sem,Nat.reduceBEq];(repeat (refine ⟨?_,?_⟩;focus first|trivial|omega|simp));exact j3.out rfl (Imp.tup (by (repeat' (first|exact j4.nil|exact Imp.refl rfl|exact Imp.frz rfl rfl rfl|exact Imp.F5|refine Imp.agg ?_|refine j4.cons ?_ ?_)))) rfl)
  have h1:¬ (0 < c1 \/ 0 < c2):=by
    revert hc
    by_cases k1:0 < c1<;>by_cases k2:0 < c2<;>simp [k1,k2]
  rw [if_neg h1] at hE
  (repeat first|refine uA ?_|(refine uK ?_ ?_;focus first|omega|(intros;simp_all<;>omega))|simp (disch:=omega) only [go_sem,Nat.reduceBEq,Nat.reduceAdd]|(refine uD o3 ?_ ?_ ?_;exact tz hw;exact rfl)|(refine uD o4 ?_ ?_ ?_;exact tz hw;exact rfl))
  refine S.cond rfl (fun hc=>?_) (fun hc=>?_)
  · have h2:(s1 && s2)=false:=by
      revert hc
      cases s1<;>cases s2<;>simp
    rw [if_pos h2] at hE
    subst hE
    rw [if_neg (by decide)]
    (repeat first|refine uA ?_|(refine uK ?_ ?_;focus first|omega|(intros;simp_all<;>omega))|simp (disch:=omega) only [go_sem])
    (refine S.done ?_;simp only [p8,go_sem,Nat.reduceBEq];(repeat (refine ⟨?_,?_⟩;focus first|trivial|omega|simp));exact j3.out rfl (Imp.tup (by (repeat' (first|exact j4.nil|exact Imp.refl rfl|exact Imp.frz rfl rfl rfl|exact Imp.F5|refine Imp.agg ?_|refine j4.cons ?_ ?_)))) rfl)
  have h2:(s1 && s2)=true:=by
    revert hc
    cases s1<;>cases s2<;>simp
  obtain ⟨⟨e1,e2⟩,e3,e4⟩:=hS h2
  rw [if_neg (by rw [h2];decide)] at hE
  rw [a8P] at e1 e2 e3 e4
  obtain ⟨A,hA⟩:∃ A,A=x1-x0+1:=⟨_,rfl⟩
  obtain ⟨B,hB⟩:∃ B,B=y1-y0+1:=⟨_,rfl⟩
  rw [<- hA,<- hB] at hE
  have hP:-65536<=A*B/\A*B<=65536:=by
    have a1:-128<=A/\A<=128:=by omega
    have a2:-128<=B/\B<=128:=by omega
    have hq:=Int.natAbs_mul A B
    have:=Nat.mul_le_mul (show A.natAbs<=128 by omega) (show B.natAbs<=128 by omega)
    omega
  have hA':x1-x0+1=A:=hA.symm
  have hB':y1-y0+1=B:=hB.symm
  generalize hAB:A*B=AB at hE hP
  (repeat first|refine uA ?_|(refine uK ?_ ?_;focus first|omega|(intros;simp_all<;>omega))|simp (disch:=omega) only [go_sem,Nat.reduceBEq,ww,hA',hB',hAB])
  refine S.cond rfl (fun hc=>?_) (fun hc=>?_)
  · rw [if_pos (by simpa using hc)] at hE
    subst hE
    rw [if_neg (by decide)]
    (repeat first|refine uA ?_|(refine uK ?_ ?_;focus first|omega|(intros;simp_all<;>omega))|simp (disch:=omega) only [go_sem])
    (refine S.done ?_;simp only [p8,go_sem,Nat.reduceBEq];(repeat (refine ⟨?_,?_⟩;focus first|trivial|omega|simp));exact j3.out rfl (Imp.tup (by (repeat' (first|exact j4.nil|exact Imp.refl rfl|exact Imp.frz rfl rfl rfl|exact Imp.F5|refine Imp.agg ?_|refine j4.cons ?_ ?_)))) rfl)
  rw [if_neg (by simpa using hc)] at hE
  subst hE
  rw [if_pos rfl]
  obtain ⟨m,hm⟩:∃ m,m=wid x0 x1:=⟨_,rfl⟩
  obtain ⟨n,hn⟩:∃ n,n=wid y0 y1:=⟨_,rfl⟩
  have hm':m=(x1+1-x0).toNat:=hm
  have hn':n=(y1+1-y0).toNat:=hn
  rw [<- hm,<- hn]
  have hlen:∀ i j,i<=n->j<=m->(a5k x0 y0 m i).length+j<=20000:=fun i j hi hj=>by
    rw [a9q]
    have:=Nat.mul_le_mul (show i<=128 by omega) (show m<=128 by omega)
    omega
  clear o1 o2 o3 o4 hP hAB hA' hB' hA hB hm hn
  (repeat first|refine uA ?_|(refine uK ?_ ?_;focus first|omega|(intros;simp_all<;>omega))|simp (disch:=omega) only [go_sem,Nat.reduceBEq])
  refine S.loop (X:=Nat) (fun i=>⟨[(4,ints x0),(5,ints x1),(8,ints y1),(10,.rv 1),(11,ints (y0+(i:Int)))],[.gone,.row 53 2 ((a5k x0 y0 m i).map ce)]⟩) (fun i=>i<=n) (fun i=>n-i) 0 (c6Z _) (Ent.trans (Ent.pack 10 53 2 rfl) (by simp only [ints,Int.natCast_zero,Int.add_zero,show a5k x0 y0 m 0=[] from rfl,c7q];exact (by (repeat first|refine uA ?_|(refine ⟨?_,?_⟩;focus first|rfl|simp [slot])|rfl|simp)))) ?_
  intro i hi
  simp only [ints]
  (repeat first|refine uA ?_|(refine uK ?_ ?_;focus first|omega|(intros;simp_all<;>omega))|simp (disch:=omega) only [go_sem,Nat.reduceBEq])
  (refine uJ rfl (fun hc=>?_) fun hc=>?_)
  · have hi':i < n:=by omega
    have hl0:=hlen i
    have hsu:=b2w x0 y0 m i
    generalize a5k x0 y0 m i=T at *
    obtain ⟨y,hy⟩:∃ y,y=y0+(i:Int):=⟨_,rfl⟩
    have hyn:y0+((i+1:Nat):Int)=y+1:=by omega
    rw [<- hy] at hsu ⊢
    (repeat first|refine uA ?_|(refine uK ?_ ?_;focus first|omega|(intros;simp_all<;>omega))|simp (disch:=omega) only [go_sem,Nat.reduceBEq])
    refine S.loop (X:=Nat) (fun j=>⟨[(4,ints x0),(5,ints x1),(8,ints y1),(10,.rv 1),(11,ints y),(12,ints (x0+(j:Int)))],[.gone,.row 53 2 ((T++a3l x0 y j).map ce)]⟩) (fun j=>j<=m) (fun j=>m-j) 0 (c6Z _) (by simp only [ints,Int.natCast_zero,Int.add_zero,show a3l x0 y 0=[] from rfl,List.append_nil];exact (by (repeat first|refine uA ?_|(refine ⟨?_,?_⟩;focus first|rfl|simp [slot])|rfl|simp))) ?_
    intro j hj
    simp only [ints]
    (repeat first|refine uA ?_|(refine uK ?_ ?_;focus first|omega|(intros;simp_all<;>omega))|simp (disch:=omega) only [go_sem,Nat.reduceBEq])
    (refine uJ rfl (fun hc=>?_) fun hc=>?_)
    · have hj':j < m:=by omega
      have hl1:=hl0 j (by omega) hj
      have hrs:=b9a x0 y j
      have hrl:=b3V x0 y j
      have hxn:x0+((j+1:Nat):Int)=x0+(j:Int)+1:=by omega
      obtain ⟨x,hx⟩:∃ x,x=x0+(j:Int):=⟨_,rfl⟩
      rw [<- hx] at hrs hxn ⊢
      have hap:(T++a3l x0 y (j+1)).map ce=(T++a3l x0 y j).map ce++[[C.v (.int .i64 x),.v (.int .i64 y)]]:=by
        rw [hrs,<- c7A,c7G (l₂:=[(x,y)])]
        rfl
      have hTl:((T++a3l x0 y j).map ce).length<=20000:=by rw [c6U,c7e,hrl];exact hl1
      generalize (T++a3l x0 y j).map ce=R at *
      (repeat first|refine uA ?_|(refine uK ?_ ?_;focus first|omega|(intros;simp_all<;>omega))|simp (disch:=omega) only [go_sem,Nat.reduceBEq,Nat.reduceAdd,ww])
      refine S.next (j+1) (by omega) (by omega) (by simp only [hxn,hap];exact (by (repeat first|refine uA ?_|(refine ⟨?_,?_⟩;focus first|rfl|simp [slot])|rfl|simp)))
    · have hj':j=m:=by omega
      subst hj'
      rw [<- hsu]
      (repeat first|refine uA ?_|(refine uK ?_ ?_;focus first|omega|(intros;simp_all<;>omega))|simp (disch:=omega) only [go_sem,Nat.reduceBEq,ww])
      refine S.next (i+1) (by omega) (by omega) (by simp only [hyn];exact (by (repeat first|refine uA ?_|(refine ⟨?_,?_⟩;focus first|rfl|simp [slot])|rfl|simp)))
  · have hi':i=n:=by omega
    subst hi'
    (repeat first|refine uA ?_|(refine uK ?_ ?_;focus first|omega|(intros;simp_all<;>omega))|simp (disch:=omega) only [go_sem,Nat.reduceBEq])
    (refine S.done ?_;simp only [p8,go_sem,Nat.reduceBEq];(repeat (refine ⟨?_,?_⟩;focus first|trivial|omega|simp));exact j3.out rfl (Imp.tup (by (repeat' (first|exact j4.nil|exact Imp.refl rfl|exact Imp.frz rfl rfl rfl|exact Imp.F5|refine Imp.agg ?_|refine j4.cons ?_ ?_)))) rfl)
set_option maxRecDepth 10000
theorem c0L (x n:Int) (h:1<=n):x % n=(if x.tmod n < 0 then x.tmod n+n else x.tmod n)/\-n < x.tmod n/\x.tmod n < n:=by
 have hq:x=n*(x.tdiv n)+x.tmod n:=(Int.mul_tdiv_add_tmod x n).symm
 have he:x % n=x.tmod n % n:=by
  conv=>lhs;rw [hq]
  exact Int.mul_add_emod_self_left ..
 have h2:=Int.tmod_lt_of_pos x (show 0 < n by omega)
 have h3:-n < x.tmod n:=by
  have:=Int.tmod_lt_of_pos (-x) (show 0 < n by omega)
  rw [Int.neg_tmod] at this
  omega
 refine ⟨?_,h3,h2⟩
 rw [he]
 split
 ·rename_i hc
  have:x.tmod n % n=(x.tmod n+n) % n:=by simp
  rw [this]
  exact Int.emod_eq_of_lt (by omega) (by omega)
 ·exact Int.emod_eq_of_lt (by omega) (by omega)
theorem a9R (x n:Int) (h:1<=n/\n<=4611686018427387904):y9 Tryz.prog 8 [ints x,ints n] (ints (x % n)):=by
 refine kS Tryz.func8 (by cbv) (by rfl) fun w O=>?_
 simp only [j5,TT,II,OA,MM,ints]
 have hn:¬ n=0:=by omega
 obtain ⟨he,hlt⟩:=c0L x n (by omega)
 (repeat first|refine uA ?_|(apply uK;focus first|omega|(intros;simp_all<;>omega))|simp (disch:=omega) only [go_sem,Nat.reduceBEq,Nat.reduceAdd])
 (refine uJ rfl (fun hc=>?_) fun hc=>?_)
 ·rw [he,if_pos hc]
  (repeat first|refine uA ?_|(apply uK;focus omega)|simp (disch:=omega) only [go_sem,Nat.reduceBEq,ww])
  exact S.done (j3.out rfl (Imp.refl rfl) rfl)
 ·rw [he,if_neg hc]
  (repeat first|refine uA ?_|(apply uK;focus omega)|simp (disch:=omega) only [go_sem,Nat.reduceBEq])
  exact S.done (j3.out rfl (Imp.refl rfl) rfl)
def u6 (l:List Int):C:=.sl 1 (l.map fun n=>[.v (.int .i64 n)])
theorem G8 {E:Ctx} (hP:E.P=Tryz.prog) (l:List Int) (n:Int) (h:1<=n/\n<=4611686018427387904) :
  j6 E [.box 95 [u6 l]] 33 [.bp 0 0,ints n] (ints (nx l n)) [.box 95 [u6 (l.drop 1)]] []:=by
 obtain ⟨P,eff',N,w0,own0,av0,nu0,pk0⟩:=E
 simp only at hP
 subst hP
 refine j6.of (eff:=eff) Tryz.func33 (by cbv) (by exact c7j rfl) fun w own av ν hν=>?_
 have hν0:ν.length<=1:=by rw [hν];exact c7b _
 have hn1:decide (n < 1)=false:=decide_eq_false (by omega)
 cases l with
 | nil=>
  have e:nx [] n=0:=by unfold nx;rw [List.headD_nil,Int.zero_emod]
  rw [e]
  simp only [j5,TT,II,OA,OB,OC,MM,VV,FF,MG,u6,ints,List.drop_nil,c7q]
  (repeat first|refine uA ?_|(refine uK ?_ ?_;focus first|omega|(intros;simp_all<;>omega))|simp (disch:=omega) only [go_sem,Nat.reduceBEq,Nat.reduceAdd,hn1,List.length_nil])
  refine S.cond rfl (fun hc=>?_) (fun hc=>by simp at hc)
  (repeat first|refine uA ?_|(refine uK ?_ ?_;focus first|omega|(intros;simp_all<;>omega))|simp (disch:=omega) only [go_sem])
  (refine S.done ?_;simp only [p8,go_sem,Nat.reduceBEq];(repeat (refine ⟨?_,?_⟩;focus first|trivial|omega|simp));exact j3.K5 (Imp.refl rfl) (by (repeat first|refine uA ?_|(refine ⟨?_,?_⟩;focus first|rfl|simp [slot])|rfl|simp)) (c6X hν0 (by simp)))
 | cons x r=>
  have e:nx (x::r) n=x % n:=by unfold nx;rw [List.headD_cons]
  rw [e]
  have hb:=a9R x n h
  have h0:decide (((r.length:Int)+1)=0)=false:=decide_eq_false (by omega)
  simp only [j5,TT,II,OA,OB,OC,MM,VV,FF,MG,u6,ints,c7i,List.drop_succ_cons,List.drop_zero] at *
  (repeat first|refine uA ?_|(refine uK ?_ ?_;focus first|omega|(intros;simp_all<;>omega))|simp (disch:=omega) only [go_sem,Nat.reduceBEq,Nat.reduceAdd,hn1,c7m,c6U]|(refine uB hb ?_ ?_;exact rfl))
  refine S.cond rfl (fun hc=>by simp at hc;omega) (fun hc=>?_)
  (repeat first|refine uA ?_|(refine uK ?_ ?_;focus first|omega|(intros;simp_all<;>omega))|simp (disch:=omega) only [go_sem,Nat.reduceBEq,Nat.reduceAdd,c7m,c6U,List.getElem?_cons_zero,List.drop_succ_cons,Nat.add_sub_cancel,c7l]|(refine uB hb ?_ ?_;exact rfl))
  (refine S.done ?_;simp only [p8,go_sem,Nat.reduceBEq];(repeat (refine ⟨?_,?_⟩;focus first|trivial|omega|simp));exact j3.K5 (Imp.refl rfl) (by (repeat first|refine uA ?_|(refine ⟨?_,?_⟩;focus first|rfl|simp [slot])|rfl|simp)) (c6X hν0 (by simp)))
set_option maxRecDepth 100000
set_option maxHeartbeats 4000000
def nuI (a:Nm.Rt):Int:=Nm.sgn a.neg (Nm.val a.num)
def deI (a:Nm.Rt):Int:=max (Nm.val a.den:Int) 1
def a3K (x:Lk) (k:Int):Nm.Rt:=Q (8*nuI x.low*deI x.high+(nuI x.high*deI x.low-nuI x.low*deI x.high)*k) (8*deI x.low*deI x.high)
def O6:List Lk->List Int->List Nm.Rt
 | [],_=>[]
 | x::r,l=>a3K x (nx l 9)::O6 r (l.drop 1)
theorem a1E:∀ (L:List Lk) (l:List Int),(O6 L l).length=L.length
 | [],_=>rfl
 | x::r,l=>by rw [O6,c7m,c7m,a1E r]
theorem b0y:∀ (L:List Lk) (l:List Int) (i:Nat) (x:Lk),L[i]?=some x->O6 (L.take (i+1)) l=O6 (L.take i) l++[a3K x (nx (l.drop i) 9)]
 | [],_,i,x,h=>by simp at h
 | y::r,l,0,x,h=>by
  simp only [List.getElem?_cons_zero,Option.some.injEq] at h
  subst h
  simp [O6]
 | y::r,l,i+1,x,h=>by
  rw [List.getElem?_cons_succ] at h
  have:=b0y r (l.drop 1) i x h
  rw [List.take_succ_cons,O6,this,List.take_succ_cons,O6,List.cons_append,List.drop_drop]
  rw [show 1+i=i+1 by omega]
theorem b0Y {a d A D:Int} (h:-A<=a/\a<=A) (hd:0<=d/\d<=D) (hA:0<=A):-(A*D)<=a*d/\a*d<=A*D:=by
 have h1:=Int.mul_le_mul_of_nonneg_right h.2 hd.1
 have h2:=Int.mul_le_mul_of_nonneg_right h.1 hd.1
 have h3:=Int.mul_le_mul_of_nonneg_left hd.2 hA
 rw [Int.neg_mul] at h2
 omega
theorem b1t {a:Nm.Rt} (h:l6 a=true):(-1000000<=nuI a/\nuI a<=1000000)/\1<=deI a/\deI a<=1000:=by
 unfold l6 at h
 simp only [c7c,c7h] at h
 obtain ⟨⟨_,h1⟩,h2⟩:=h
 unfold nuI deI Nm.sgn
 split<;>omega
structure c2K (x:Lk) (k:Int):Prop where
 n1:-1000000<=nuI x.low/\nuI x.low<=1000000
 n2:-1000000<=nuI x.high/\nuI x.high<=1000000
 d1:1<=deI x.low/\deI x.low<=1000
 d2:1<=deI x.high/\deI x.high<=1000
 p1:-1000000000<=nuI x.low*deI x.high/\nuI x.low*deI x.high<=1000000000
 p2:-1000000000<=nuI x.high*deI x.low/\nuI x.high*deI x.low<=1000000000
 p3:-16000000000<=(nuI x.high*deI x.low-nuI x.low*deI x.high)*k/\(nuI x.high*deI x.low-nuI x.low*deI x.high)*k<=16000000000
 p4:1<=deI x.low*deI x.high/\deI x.low*deI x.high<=1000000
 p5:8*nuI x.low*deI x.high=8*(nuI x.low*deI x.high)
 p6:8*deI x.low*deI x.high=8*(deI x.low*deI x.high)
theorem b1y {x:Lk} {k:Int} (h1:l6 x.low=true) (h2:l6 x.high=true) (hk:0<=k/\k<=8):c2K x k:=by
 obtain ⟨n1,d1⟩:=b1t h1
 obtain ⟨n2,d2⟩:=b1t h2
 have p1:=b0Y (A:=1000000) (D:=1000) n1 (d:=deI x.high) (by omega) (by decide)
 have p2:=b0Y (A:=1000000) (D:=1000) n2 (d:=deI x.low) (by omega) (by decide)
 have p3:=b0Y (A:=2000000000) (D:=8) (a:=nuI x.high*deI x.low-nuI x.low*deI x.high) (d:=k) (by omega) hk (by decide)
 have p4:=b0Y (A:=1000) (D:=1000) (a:=deI x.low) (d:=deI x.high) (by omega) (by omega) (by decide)
 have p5:0 < deI x.low*deI x.high:=Int.mul_pos (by omega) (by omega)
 exact ⟨n1,n2,d1,d2,by omega,by omega,by omega,by omega,Int.mul_assoc _ _ _,Int.mul_assoc _ _ _⟩
theorem c6t {n d:Int} (hn:-1099511627776<=n/\n<=1099511627776) (hd:1<=d/\d<=1099511627776):Rb 8 (Q n d):=by
 obtain ⟨g,hg,⟨k,h1,h2⟩,h3⟩:=a9F n d hd.1
 have hk:k.natAbs<=1099511627776:=by
  have:n.natAbs=g*k.natAbs:=by rw [h1,Int.natAbs_mul];simp
  have:k.natAbs<=g*k.natAbs:=Nat.le_mul_of_pos_left _ hg
  omega
 have e:(256:Nat) ^ 8=18446744073709551616:=by decide
 refine ⟨Nm.F3 ?_,Nm.F3 ?_⟩
 ·show (mkRat n d.toNat).num.natAbs < 256 ^ 8
  rw [h2,e];omega
 ·show (mkRat n d.toNat).den < 256 ^ 8
  rw [e];omega
theorem c4d {x:Lk} {k:Int} (h:c2K x k):Rb 8 (a3K x k):=by
 obtain ⟨n1,n2,d1,d2,p1,p2,p3,p4,p5,p6⟩:=h
 exact c6t (by omega) (by omega)
theorem nx9 (l:List Int):0<=nx l 9/\nx l 9<=8:=by
 have:=l9 l (n:=9) (by decide)
 have:=A8 l (n:=9) (by decide)
 omega
theorem b1X {l:Lk} (h:O7 l=0):l6 l.low=true/\l6 l.high=true:=by
 unfold O7 at h
 split at h
 ·cases h
 rename_i h2
 have hs2:(l6 l.length && l6 l.low && l6 l.high && l6 l.speed && l6 l.brake)=true:=by
  cases hb:(l6 l.length && l6 l.low && l6 l.high && l6 l.speed && l6 l.brake) with
  | true=>rfl
  | false=>exact absurd (.inl hb) h2
 simp only [c7c] at hs2
 exact ⟨hs2.1.1.1.2,hs2.1.1.2⟩
theorem a5g:∀ (L:List Lk) (l:List Int),(∀ x ∈ L,O7 x=0)->∀ r ∈ O6 L l,Rb 8 r
 | [],_,_,r,hr=>by cases hr
 | x::L,l,h,r,hr=>by
  rw [O6] at hr
  rcases List.mem_cons.1 hr with rfl|hr
  ·obtain ⟨s1,s2⟩:=b1X (h x (by simp))
   exact c4d (b1y s1 s2 (nx9 l))
  ·exact a5g L _ (fun y hy=>h y (by simp [hy])) r hr
theorem a4V (l:List UInt8) (b:UInt8):Nm.val (l++[b])=256*Nm.val l+b.toNat:=by
 unfold Nm.val
 rw [List.foldl_append]
 rfl
theorem b4s {l:List UInt8} (h:l.length<=3) (i:Nat):Nm.val (l.take i) < 16777216:=by
 have h1:=Nm.Y7 (l.take i)
 have h2:(l.take i).length<=3:=by rw [c7d];omega
 have h3:(256:Nat) ^ (l.take i).length<=256 ^ 3:=c7z (by decide) h2
 have e:(256:Nat) ^ 3=16777216:=by decide
 omega
def a4y (x:Lk) (c q:Nm.Rt):Nm.Rt:=Nm.ofQ (G9 (-(Nm.d9 x.speed)) (G7 (Nm.d9 x.speed) (Nm.d9 c-Nm.d9 q)))
def a2L (L:List Lk) (c q:List Nm.Rt):List Nm.Rt:=(L.zip (c.zip q)).map fun z=>a4y z.1 z.2.1 z.2.2
def a2U (z:List (Am × Ast)) (to:List Int) (i:Nat):List Nm.Rt:=match z[i]? with
 | some (a,x)=>a2L a.links (O6 a.links (to.drop (3*i))) x.q
 | none=>[]
def a1U (z:List (Am × Ast)) (to:List Int) (n:Nat):List (List Nm.Rt):=(List.range n).map (a2U z to)
theorem b8A (z:List (Am × Ast)) (to:List Int) (n:Nat):a1U z to (n+1)=a1U z to n++[a2U z to n]:=by
 unfold a1U
 rw [List.range_succ,c7G]
 rfl
theorem b2O (z:List (Am × Ast)) (to:List Int) (n:Nat):(a1U z to n).length=n:=by unfold a1U;simp
theorem b9F {L:List Lk} {c q:List Nm.Rt} {i:Nat} {l:Lk} {x y:Nm.Rt} (h1:L[i]?=some l) (h2:c[i]?=some x) (h3:q[i]?=some y):(a2L L c q)[i]?=some (a4y l x y):=by
 unfold a2L
 rw [c7f,N7 h1 (N7 h2 h3)]
 rfl
theorem b2Z {L:List Lk} {c q:List Nm.Rt} (h1:c.length=L.length) (h2:q.length=L.length):(a2L L c q).length=L.length:=by
 unfold a2L;simp only [c6U,List.length_zip];omega
theorem b5E {α:Type} (l:List α) (n:Nat):l.drop (min l.length n)=l.drop n:=by
 rcases Nat.le_total l.length n with h|h
 ·rw [Nat.min_eq_left h,List.drop_eq_nil_of_le h,List.drop_eq_nil_of_le (c7b _)]
 ·rw [Nat.min_eq_right h]
theorem c1w {x:Lk} {c q:Nm.Rt} {k:Nat} (hs:Rb 3 x.speed) (hc:Rb 8 c) (hq:Rb k q) (hk:8<=k):Rb (k+9) (a4y x c q):=by
 have h1:Rb (k+9) (Nm.ofQ (Nm.d9 c-Nm.d9 q)):=(R4 (hc.fit (by decide)) (hq.fit (by omega))).mono (by omega)
 have h2:Rb (k+9) (Nm.ofQ (Nm.d9 x.speed)):=(hs.fit (by decide)).mono (by omega)
 have h3:Rb (k+9) (Nm.ofQ (-(Nm.d9 x.speed))):=(b4m hs (by decide)).mono (by omega)
 unfold a4y G9 G7
 repeat' split
 all_goals assumption
structure b8v (w:Wk) (s:Stt) (k:Nat):Prop where
 st:P7 w s=0
 q:∀ x ∈ s.arms,∀ r ∈ x.q,Rb (100+1000*k) r
theorem Calm.c4P {w:Wk} {s:Stt} {k:Nat} (h:Calm w s k):b8v w s k:=⟨h.st,h.q⟩
theorem c1y {w:Wk} {s:Stt} {to:List Int} {k i:Nat} (h:b8v w s k) {r:Nm.Rt} (hr:r ∈ a2U (w.arms.zip s.arms) to i):Rb (109+1000*k) r:=by
 unfold a2U at hr
 split at hr
 ·rename_i a x hz
  have hm:=c6W hz
  have ho:=b0L ((a2x h.st).one _ hm)
  simp only at ho
  have hl:=(O8 ho.arm).2
  obtain ⟨z,hz2,rfl⟩:=List.mem_map.1 hr
  obtain ⟨z1,z2,z3⟩:=z
  have m1:=(List.of_mem_zip hz2).1
  have m2:=(List.of_mem_zip (List.of_mem_zip hz2).2).1
  have m3:=(List.of_mem_zip (List.of_mem_zip hz2).2).2
  exact (c1w (a6R (hl z1 m1)).2.2.1 (a5g _ _ hl z2 m2) (h.q x (List.of_mem_zip hm).2 z3 m3) (by omega)).mono (by omega)
 ·cases hr
theorem b9v {w:Wk} {s:Stt} {to:List Int} {k i:Nat} (h:b8v w s k) {a:Am} (ha:w.arms[i]?=some a):(a2U (w.arms.zip s.arms) to i).length=a.links.length:=by
 have hok:=a2x h.st
 have hil:=(c6Y.1 ha).1
 have hx:=c6T (show i < s.arms.length by have:=hok.arms;omega)
 have hz:=N7 ha hx
 have ho:=b0L (hok.one _ (c6W hz))
 simp only at ho
 unfold a2U
 rw [hz]
 exact b2Z (a1E _ _) ho.q
structure c4k (y b:Ast) (j:Nat) (v:Nm.Rt):Prop where
 ex:∃ bv q bq,b.v[j]?=some bv/\y.q[j]?=some q/\b.q[j]?=some bq/\¬ 0 < Nm.q9 (E5 (Nm.d9 v)) (E5 (Nm.d9 bv))/\(E9 (Nm.d9 bv)=0->q=bq)/\Rb 1048576 bv/\Rb 1048576 v
structure c6S (y b:Ast):Prop where
 power:y.power=false
 vlen:y.v.length=b.v.length
 qlen:y.q.length=y.v.length
 small:y.v.length<=3
 joint:∀ j v,y.v[j]?=some v->c4k y b j v
theorem b5Y {w:Wk} {s:Stt} (h:P7 w s=0):s.parts.all a1P=true:=by
 unfold P7 at h
 split at h
 ·rename_i h1;exact absurd h h1
 split at h
 ·cases h
 split at h
 ·cases h
 split at h
 ·rename_i h1;exact absurd h h1
 split at h
 ·rename_i h2
  simp only [c7c] at h2
  exact h2.1
 ·cases h
structure c6R (w:Wk) (s:Stt) (to:List Int):Prop where
 step:c5V w s (a1U (w.arms.zip s.arms) to w.arms.length) (List.replicate w.arms.length true) []=0
 next:Calm w (c6h w s (a1U (w.arms.zip s.arms) to w.arms.length) (List.replicate w.arms.length true) []) 1
set_option maxRecDepth 10000
set_option maxHeartbeats 8000000
instance :DecidableEq Nm.Rt:=fun ⟨a,b,c⟩ ⟨d,e,f⟩=>decidable_of_iff (a=d/\b=e/\c=f) ⟨fun ⟨h1,h2,h3⟩=>by rw [h1,h2,h3],fun h=>by injection h with h1 h2 h3;exact ⟨h1,h2,h3⟩⟩
instance :DecidableEq Vt:=fun ⟨a,b⟩ ⟨d,e⟩=>decidable_of_iff (a=d/\b=e) ⟨fun ⟨h1,h2⟩=>by rw [h1,h2],fun h=>by injection h with h1 h2;exact ⟨h1,h2⟩⟩
instance :DecidableEq Fr:=fun ⟨a,b,c,g⟩ ⟨d,e,f,h⟩=>decidable_of_iff (a=d/\b=e/\c=f/\g=h) ⟨fun ⟨h1,h2,h3,h4⟩=>by rw [h1,h2,h3,h4],fun h=>by injection h with h1 h2 h3 h4;exact ⟨h1,h2,h3,h4⟩⟩
instance :DecidableEq Ast:=fun ⟨a,b,c,g⟩ ⟨d,e,f,h⟩=>decidable_of_iff (a=d/\b=e/\c=f/\g=h) ⟨fun ⟨h1,h2,h3,h4⟩=>by rw [h1,h2,h3,h4],fun h=>by injection h with h1 h2 h3 h4;exact ⟨h1,h2,h3,h4⟩⟩
instance :DecidableEq Stt:=fun ⟨a,b,c,g,i⟩ ⟨d,e,f,h,j⟩=>decidable_of_iff (a=d/\b=e/\c=f/\g=h/\i=j) ⟨fun ⟨h1,h2,h3,h4,h5⟩=>by rw [h1,h2,h3,h4,h5],fun h=>by injection h with h1 h2 h3 h4 h5;exact ⟨h1,h2,h3,h4,h5⟩⟩
set_option maxHeartbeats 4000000
end Go.Proofs.YtgpegbfnlkidjaaGreatDoor
namespace Go.Proofs.YtgpegbfnlkidjaaGreatDoor.Eng
open Go Go.RowKit
theorem j6.quiet {P:Program} {f:Nat} {args:List C} {s s':C} {rs':List Res} (h:∀ E:Ctx,E.P=P->j6 E [] f args s rs' []) (hi:Imp rs' [] s s') (hc:s'.cl=true):y9 P f args s':=by
 intro O w vs hO hA
 have ho0:∀ b,¬ owned [] [] b:=fun b ⟨k,r,x,hk,_⟩=>by simp at hk
 have hRG:RG O (fun _=>False) w.heap.size [] [] w:=⟨rfl,fun k r hk=>by simp at hk,fun k l r r' x x' b _ hk=>by simp at hk,fun b hb=>(ho0 b hb).elim,hO,c7b _⟩
 have hsub:∀ b,OO O [] [] b->O b:=fun b hb=>hb.elim id fun h=>(ho0 b h).elim
 refine (h ⟨P,fun _=>false,0,w,fun _=>False,O,[],[]⟩ rfl O [] w vs hRG (fun b hb=>hb) ⟨rfl,rfl,rfl,c7b _,fun _ _ _=>rfl⟩ ((FzL.keep (Keeps.sub hsub) hA).den [])).mono ?_
 rintro e w' ⟨y,ν',rfl,h1,h2,h3⟩
 have hC:Cut O rs' [] ν':=Cut.of h1 (by simp [R7])
 have h4:=hi O (fun _=>False) w.heap.size ν' w' y h1 hC h3
 exact ⟨y,rfl,⟨h2.os,h2.tape,h2.output,h2.size,fun b hb=>h2.block b hb (ho0 b)⟩,Fz.keep (Keeps.sub fun b hb=>.inl hb) (Den.fz hc h4)⟩
end Go.Proofs.YtgpegbfnlkidjaaGreatDoor.Eng
namespace Go.Proofs.YtgpegbfnlkidjaaGreatDoor
open Go Go.RowKit Eng
set_option maxRecDepth 10000
set_option maxHeartbeats 16000000
open Go Eng
set_option maxRecDepth 100000
def dX (t f g:Fr):Rat:=Nm.d9 t.x-c4L f ⟨g.x,g.y⟩
def dY (t f g:Fr):Rat:=Nm.d9 t.y-c5d f ⟨g.x,g.y⟩
def c4K (t f g:Fr):Prop:=0 < Nm.q9 (E5 (dX t f g)) (1 / 8) \/ 0 < Nm.q9 (E5 (dY t f g)) (1 / 8)
instance (t f g:Fr):Decidable (c4K t f g):=by unfold c4K;infer_instance
set_option maxHeartbeats 4000000
theorem b3l {a:Nm.Rt} (h:l6 a=true):Nm.d9 a=(nuI a:Rat) / (deI a:Rat)/\(0:Rat) < (deI a:Rat):=by
 unfold l6 at h
 simp only [c7c,c7h] at h
 obtain ⟨⟨⟨_,hg⟩,_⟩,_⟩:=h
 have hv:Nm.val a.den ≠ 0:=fun e=>hg.1 ((Nm.val_zero hg.2.1).1 e)
 have hd:deI a=(Nm.val a.den:Int):=by unfold deI;omega
 have hp:(0:Rat) < ((Nm.val a.den:Int):Rat):=by
  have:(0:Int) < (Nm.val a.den:Int):=by omega
  exact_mod_cast this
 rw [hd]
 refine ⟨?_,hp⟩
 unfold Nm.d9
 rw [if_pos hg]
 unfold Nm.toQ
 rw [Rat.mkRat_eq_div]
 rfl
theorem c2Y {x:Lk} {k:Int} (h1:l6 x.low=true) (h2:l6 x.high=true) (hk:0<=k/\k<=8):Nm.d9 (a3K x k)=Nm.d9 x.low+(Nm.d9 x.high-Nm.d9 x.low)*(k:Rat) / 8:=by
 obtain ⟨e1,p1⟩:=b3l h1
 obtain ⟨e2,p2⟩:=b3l h2
 have hb:=b1y h1 h2 hk
 have b4:=hb.p4
 have b6:=hb.p6
 unfold a3K
 rw [a2P,Rat.mkRat_eq_div,e1,e2]
 have hD:(((8*deI x.low*deI x.high).toNat:Int):Rat)=8*(deI x.low:Rat)*(deI x.high:Rat):=by
  rw [show (((8*deI x.low*deI x.high).toNat:Nat):Int)=8*deI x.low*deI x.high by omega]
  simp only [Rat.intCast_mul]
  rfl
 rw [show (((8*deI x.low*deI x.high).toNat:Nat):Rat)=(((8*deI x.low*deI x.high).toNat:Int):Rat) from rfl,hD]
 simp only [Rat.intCast_add,Rat.intCast_mul,Rat.intCast_sub]
 generalize (nuI x.low:Rat)=n at *
 generalize (nuI x.high:Rat)=m at *
 generalize (deI x.low:Rat)=d at *
 generalize (deI x.high:Rat)=e at *
 generalize (k:Rat)=K at *
 have d0:d ≠ 0:=by grind
 have e0:e ≠ 0:=by grind
 have hn:n / d*d=n:=Rat.div_mul_cancel d0
 have hm:m / e*e=m:=Rat.div_mul_cancel e0
 generalize n / d=L at *
 generalize m / e=H at *
 have hde:(8*d*e) ≠ 0:=by
  have:=Rat.mul_pos p1 p2
  grind
 have key:(8:Int)*n*e+(m*d-n*e)*K=(L+(H-L)*K / 8)*(8*d*e):=by
  rw [<- hn,<- hm]
  grind
 rw [key]
 exact Rat.mul_div_cancel hde
theorem c2b {x:Lk} (hl:O7 x=0) {k:Int} (hk:0<=k/\k<=8):c1U (x,a3K x k)=0:=by
 obtain ⟨h1,h2⟩:=b1X hl
 have h3:=(a4B hl).2.1
 rw [a3y] at h3
 unfold c1U
 rw [if_neg]
 rw [a3y,a3t]
 simp only
 rw [c2Y h1 h2 hk]
 have k0:(0:Rat)<=(k:Rat):=by exact_mod_cast hk.1
 have k8:(k:Rat)<=8:=by exact_mod_cast hk.2
 generalize Nm.d9 x.low=L at *
 generalize Nm.d9 x.high=H at *
 generalize (k:Rat)=K at *
 have m1:0<=(H-L)*K:=Rat.mul_nonneg (by grind) k0
 have m2:0<=(H-L)*(8-K):=Rat.mul_nonneg (by grind) (by grind)
 grind
theorem b3d:∀ (L:List Lk) (l:List Int) (z:Lk × Nm.Rt),z ∈ L.zip (O6 L l)->∃ l',z.1 ∈ L/\z.2=a3K z.1 (nx l' 9)
 | [],_,z,h=>by simp at h
 | x::r,l,z,h=>by
  rw [O6,List.zip_cons_cons] at h
  rcases List.mem_cons.1 h with rfl|h
  ·exact ⟨l,by simp,rfl⟩
  ·obtain ⟨l',h1,h2⟩:=b3d r _ z h
   exact ⟨l',by simp [h1],h2⟩
theorem b0T:∀ (L:List Lk) (l:List Int),(O6 L l).all M4=true
 | [],_=>rfl
 | x::r,l=>by
  rw [O6,List.all_cons,b0T r]
  have:M4 (a3K x (nx l 9))=true:=decide_eq_true (Nm.a0E _)
  rw [this];rfl
def a7f (a:Am) (l:List Int) (h:Int):Ast:=⟨O6 a.links l,a.links.map fun _=>Nm.ofQ 0,false,h⟩
theorem c1I {a:Am} {l:List Int} {h:Int} {n:Nat} (ha:J2 a=0) (hh:-1<=h/\h < n):a1g a (a7f a l h) n=0:=by
 have hl:=(O8 ha).2
 refine c1e ha (b0T _ _) ?_ (a1E _ _) (by simp [a7f]) hh (fun z hz=>?_) fun z hz=>?_
 ·rw [List.all_eq_true]
  intro r hr
  obtain ⟨_,_,rfl⟩:=List.mem_map.1 (show r ∈ a.links.map (fun _=>Nm.ofQ 0) from hr)
  exact decide_eq_true (Nm.a0E _)
 ·obtain ⟨l',h1,h2⟩:=b3d _ _ z hz
  obtain ⟨z1,z2⟩:=z
  simp only at h1 h2
  rw [h2]
  exact c2b (hl z1 h1) (nx9 l')
 ·obtain ⟨h1,h2⟩:=a6r (show z ∈ a.links.zip (a.links.map fun _=>Nm.ofQ 0) from hz)
  obtain ⟨z1,z2⟩:=z
  simp only at h1 h2
  rw [h2]
  exact a9k (hl z1 h1)
def c2w (w:Wk) (to:List Int) (i:Nat):Ast:=match w.arms[i]? with
 | some a=>a7f a (to.drop (3*i)) (-1)
 | none=>⟨[],[],false,-1⟩
set_option maxHeartbeats 16000000
theorem c3g {E:Ctx} (hP:E.P=Tryz.prog) (ht0:Tz E) (w:Wk) (hwb:Wb 1073741824 w) (h:a0c w=0) :
  j6 E [] 35 [w.c] (.tup [.agg [ints 0,.rv 3,.rv 4,.v (.slice none 0 0),.rv 5],ints 0]) [.gone,.gone,.gone,.row 49 4 ((D8 w).arms.map Ast.enc),.row 66 10 ((D8 w).parts.map Fr.enc),.row 4 1 ((D8 w).gates.map fun b=>[.v (.bool b)])] []:=by
 obtain ⟨P,eff',N,w0,own0,av0,nu0,pk0⟩:=E
 simp only at hP
 subst hP
 refine j6.ofT (eff:=eff) ht0 b1o b2c (by exact c7j rfl) fun w' own av ν hν ht=>?_
 have hν0:ν.length<=0:=by rw [hν];exact c7b _
 have hck:=a9z w hwb
 rw [h] at hck
 obtain ⟨n1,b1⟩:=hwb.arms
 have n3:=hwb.parts.1
 have n4:=hwb.slots.1
 have n5:=hwb.gates.1
 have hz:=a5F
 have hfz:=c2P
 have hpe:∀ i,a8b w i=if h:i < w.slots.length then (w.slots[i]).frame else a4r:=fun _=>rfl
 unfold D8
 generalize hfp:a8b w=fP at *
 obtain ⟨arms,walls,parts,slots,gates,walk⟩:=w
 simp only at n1 b1 n3 n4 n5 hpe ⊢
 simp only [a6n,j5,TT,II,OA,OB,MM,LL,VV,FF]
 simp only [Wk.c,Wk.enc,ams,wls,pts,sls,gts,vts,sb,ints] at hck ⊢
 (repeat first|refine uA ?_|(refine uK ?_ ?_;focus first|omega|(intros;simp_all<;>omega))|simp (disch:=omega) only [go_sem,Nat.reduceBEq,Nat.reduceAdd]|(refine uD hck ?_ ?_ ?_;exact ht;exact rfl))
 refine S.cond rfl (fun hc=>by simp at hc) (fun hc=>?_)
 (repeat first|refine uA ?_|(refine uK ?_ ?_;focus first|omega|(intros;simp_all<;>omega))|simp (disch:=omega) only [go_sem,Nat.reduceBEq,Nat.reduceAdd,c6U])
 refine S.loop (X:=Nat) (fun i=>⟨[(1,.bp 0 0),(2,.bp 1 0),(5,.bp 2 0),(20,ams arms),(21,ints arms.length),(22,ints i)],[.box 31 [ams arms,wls walls,pts parts,sls slots,gts gates,.v (.bool walk.neg),sb walk.num,sb walk.den],.box 37 [.v (.int .i64 0),.v (.slice none 0 0),.v (.slice none 0 0),.v (.slice none 0 0),.v (.slice none 0 0)],.box 37 [.v (.int .i64 0),.rv 3,.rv 4,.v (.slice none 0 0),.v (.slice none 0 0)],.row 49 4 (((arms.take i).map R3).map Ast.enc),.row 66 10 []]⟩) (fun i=>i<=arms.length) (fun i=>arms.length-i) 0 (c6Z _)
  (Ent.trans (Ent.a2X 2 1 49 4 rfl rfl rfl) (Ent.trans (Ent.a2X 2 2 66 10 rfl rfl rfl) (by (repeat first|refine uA ?_|(refine ⟨?_,?_⟩;focus first|rfl|simp [slot])|rfl|simp|exact c6X hν0 (by simp))))) ?_
 intro i hi
 simp only [ams,wls,pts,sls,gts,vts,sb,ints]
 (repeat first|refine uA ?_|(refine uK ?_ ?_;focus first|omega|(intros;simp_all<;>omega))|simp (disch:=omega) only [go_sem,Nat.reduceBEq])
 (refine uJ rfl (fun hc=>?_) fun hc=>?_)
 ·have hi':i < arms.length:=by omega
  have hgi:=c6T hi'
  have hap:arms.take (i+1)=arms.take i++[arms[i]]:=c7L hi'
  have htl:(arms.take i).length=i:=by rw [c7d];omega
  generalize arms[i]=a at hgi hap
  obtain ⟨b0,_,nl,bl⟩:=b1 a (c6W hgi)
  (repeat first|refine uA ?_|(refine uK ?_ ?_;focus first|omega|(intros;simp_all<;>omega))|simp (disch:=omega) only [go_sem,Nat.reduceBEq,Nat.reduceAdd,hgi,c6V,c6U,Am.enc,lks,sb])
  refine S.loop (X:=Nat) (fun k=>⟨[(1,.bp 0 0),(2,.bp 1 0),(5,.bp 2 0),(8,.bp 6 0),(20,ams arms),(21,ints arms.length),(22,ints i),(28,lks a.links),(29,ints a.links.length),(30,ints k)],[.box 31 [ams arms,wls walls,pts parts,sls slots,gts gates,.v (.bool walk.neg),sb walk.num,sb walk.den],.box 37 [.v (.int .i64 0),.v (.slice none 0 0),.v (.slice none 0 0),.v (.slice none 0 0),.v (.slice none 0 0)],.box 37 [.v (.int .i64 0),.rv 3,.rv 4,.v (.slice none 0 0),.v (.slice none 0 0)],.row 49 4 (((arms.take i).map R3).map Ast.enc),.row 66 10 [],.gone,.box 49 [.rv 7,.rv 8,.v (.bool false),.v (.int .i64 (-1))],.row 29 3 (((a.links.take k).map a0C).map rcs),.row 29 3 (((a.links.take k).map fun _=>Nm.ofQ 0).map rcs)]⟩) (fun k=>k<=a.links.length) (fun k=>a.links.length-k) 0 (c6Z _)
   (Ent.trans (Ent.a2X 6 0 29 3 rfl rfl rfl) (Ent.trans (Ent.a2X 6 1 29 3 rfl rfl rfl) (by (repeat first|refine uA ?_|(refine ⟨?_,?_⟩;focus first|rfl|simp [slot])|rfl|simp|exact c6X hν0 (by simp))))) ?_
  intro k hk
  simp only [ams,wls,pts,sls,gts,lks,vts,sb,ints]
  (repeat first|refine uA ?_|(refine uK ?_ ?_;focus first|omega|(intros;simp_all<;>omega))|simp (disch:=omega) only [go_sem,Nat.reduceBEq])
  (refine uJ rfl (fun hc=>?_) fun hc=>?_)
  ·have hk':k < a.links.length:=by omega
   have hgk:=c6T hk'
   have hak:a.links.take (k+1)=a.links.take k++[a.links[k]]:=c7L hk'
   have htk:(a.links.take k).length=k:=by rw [c7d];omega
   generalize a.links[k]=l at hgk hak
   obtain ⟨_,l2,l3,_⟩:=bl l (c6W hgk)
   have z1:=V6
   have z2:=l3.fit (by decide)
   have o1:=a4f l.high (Nm.ofQ 0) (l3.mono (by decide)) (V6.mono (by decide))
   rw [Nm.p9] at o1
   have z3:Rb 1073741824 (Nm.ofQ (G7 (Nm.d9 l.high) 0)):=by unfold G7;split;exact z2;exact z1.mono (by decide)
   have o2:=a3Y l.low (Nm.ofQ (G7 (Nm.d9 l.high) 0)) (l2.mono (by decide)) (z3.mono (by decide))
   rw [Nm.p9] at o2
   have hq:a0C l=Nm.ofQ (G9 (Nm.d9 l.low) (G7 (Nm.d9 l.high) 0)):=rfl
   unfold rq at o1 o2 hz
   generalize Nm.ofQ (G9 (Nm.d9 l.low) (G7 (Nm.d9 l.high) 0))=r2 at *
   generalize Nm.ofQ (G7 (Nm.d9 l.high) 0)=r1 at *
   generalize Nm.ofQ 0=r0 at *
   simp only [rc,sb] at o1 o2 hz
   (repeat first|refine uA ?_|(refine uK ?_ ?_;focus first|omega|(intros;simp_all<;>omega))|simp (disch:=omega) only [go_sem,Nat.reduceBEq,Nat.reduceAdd,ww,hgk,c6V,c6U,htk,Lk.enc,vts,sb]|(refine uD hz ?_ ?_ ?_;exact ht;exact rfl)|(refine uD o1 ?_ ?_ ?_;exact ht;exact rfl)|(refine uD o2 ?_ ?_ ?_;exact ht;exact rfl))
   refine S.next (k+1) (by omega) (by omega) (by simp only [hak,hq,c7G,c7i,c7q,rcs,sb];exact (by (repeat first|refine uA ?_|(refine ⟨?_,?_⟩;focus first|rfl|simp [slot])|rfl|simp|exact c6X hν0 (by simp))))
  ·have hk':k=a.links.length:=by omega
   subst hk'
   rw [c7l]
   refine S.exit rfl ?_
   refine S.weaken (st':=⟨[(1,.bp 0 0),(2,.bp 1 0),(5,.bp 2 0),(8,.bp 6 0),(20,ams arms),(21,ints arms.length),(22,ints i)],[.box 31 [ams arms,wls walls,pts parts,sls slots,gts gates,.v (.bool walk.neg),sb walk.num,sb walk.den],.box 37 [.v (.int .i64 0),.v (.slice none 0 0),.v (.slice none 0 0),.v (.slice none 0 0),.v (.slice none 0 0)],.box 37 [.v (.int .i64 0),.rv 3,.rv 4,.v (.slice none 0 0),.v (.slice none 0 0)],.row 49 4 (((arms.take i).map R3).map Ast.enc),.row 66 10 [],.gone,.box 49 (R3 a).enc]⟩) (Ent.mk _ _ (by (repeat' (first|exact P6.nil|exact Imp.junk|exact Imp.refl rfl|exact Imp.eq (by simp [slot];done) rfl|refine P6.cons ?_ ?_))) (by (repeat' (first|exact D7.nil|exact RI.gone _|exact RI.row _ _ _ _ rfl|exact RI.map _ _ _ rfl|exact RI.box _ _ _ (j4.refl rfl)|(refine RI.box _ _ _ ?_;(repeat' (first|exact j4.nil|exact Imp.refl rfl|exact Imp.frz rfl rfl rfl|exact Imp.F5|refine j4.cons ?_ ?_)))|refine D7.cons ?_ ?_))) (c6X hν0 (by simp))) ?_
   simp only [ams,wls,pts,sls,gts,vts,sb,ints,Ast.enc,rts]
   (repeat first|refine uA ?_|(refine uK ?_ ?_;focus first|omega|(intros;simp_all<;>omega))|simp (disch:=omega) only [go_sem,Nat.reduceBEq,Nat.reduceAdd,ww,c6U,htl])
   refine S.next (i+1) (by omega) (by omega) (by simp only [hap,c7G,c7i,c7q,Ast.enc,rts,ints];exact (by (repeat first|refine uA ?_|(refine ⟨?_,?_⟩;focus first|rfl|simp [slot])|rfl|simp|exact c6X hν0 (by simp))))
 ·have hi':i=arms.length:=by omega
  subst hi'
  rw [c7l]
  (repeat first|refine uA ?_|(refine uK ?_ ?_;focus first|omega|(intros;simp_all<;>omega))|simp (disch:=omega) only [go_sem,Nat.reduceBEq,Nat.reduceAdd,c6U])
  refine S.loop (X:=Nat) (fun i=>⟨[(1,.bp 0 0),(2,.bp 1 0),(5,.bp 2 0),(62,ints parts.length),(63,ints i)],[.box 31 [ams arms,wls walls,pts parts,sls slots,gts gates,.v (.bool walk.neg),sb walk.num,sb walk.den],.box 37 [.v (.int .i64 0),.v (.slice none 0 0),.v (.slice none 0 0),.v (.slice none 0 0),.v (.slice none 0 0)],.box 37 [.v (.int .i64 0),.rv 3,.rv 4,.v (.slice none 0 0),.v (.slice none 0 0)],.row 49 4 ((arms.map R3).map Ast.enc),.row 66 10 (((List.range i).map fP).map Fr.enc)]⟩) (fun i=>i<=parts.length) (fun i=>parts.length-i) 0 (c6Z _) (by (repeat first|refine uA ?_|(refine ⟨?_,?_⟩;focus first|rfl|simp [slot])|rfl|simp|exact c6X hν0 (by simp))) ?_
  intro i hi
  simp only [ams,wls,pts,sls,gts,vts,sb,ints]
  (repeat first|refine uA ?_|(refine uK ?_ ?_;focus first|omega|(intros;simp_all<;>omega))|simp (disch:=omega) only [go_sem,Nat.reduceBEq])
  (refine uJ rfl (fun hc=>?_) fun hc=>?_)
  ·have hrl:((List.range i).map fP).length=i:=by simp
   simp only [a4r,Fr.c,Fr.enc,sb] at hfz
   (repeat first|refine uA ?_|(refine uK ?_ ?_;focus first|omega|(intros;simp_all<;>omega))|simp (disch:=omega) only [go_sem,Nat.reduceBEq,Nat.reduceAdd]|(refine uD hfz ?_ ?_ ?_;exact ht;exact rfl))
   refine S.join (Y:=Fr) (fun f=>⟨[(1,.bp 0 0),(2,.bp 1 0),(5,.bp 2 0),(12,.bp 5 0),(62,ints parts.length),(63,ints i)],[.box 31 [ams arms,wls walls,pts parts,sls slots,gts gates,.v (.bool walk.neg),sb walk.num,sb walk.den],.box 37 [.v (.int .i64 0),.v (.slice none 0 0),.v (.slice none 0 0),.v (.slice none 0 0),.v (.slice none 0 0)],.box 37 [.v (.int .i64 0),.rv 3,.rv 4,.v (.slice none 0 0),.v (.slice none 0 0)],.row 49 4 ((arms.map R3).map Ast.enc),.row 66 10 (((List.range i).map fP).map Fr.enc),.box 66 f.enc]⟩) (fun f=>f=fP i) ?_ ?_
   ·refine S.cond rfl (fun hc=>?_) (fun hc=>?_)
    ·have hsi:i < slots.length:=by simp at hc;omega
     have hgs:=c6T hsi
     have hf:fP i=(slots[i]).frame:=by rw [hpe i,dif_pos hsi]
     generalize slots[i]=s at hgs hf
     (repeat first|refine uA ?_|(refine uK ?_ ?_;focus first|omega|(intros;simp_all<;>omega))|simp (disch:=omega) only [go_sem,Nat.reduceBEq,Nat.reduceAdd,hgs,c6V,c6U,Sl.enc,sb,c7a])
     exact S.met s.frame hf.symm (by simp only [ams,wls,pts,sls,gts,vts,sb,Fr.enc];exact (by (repeat first|refine uA ?_|(refine ⟨?_,?_⟩;focus first|rfl|simp [slot])|rfl|simp|exact c6X hν0 (by simp))))
    ·have hf:fP i=a4r:=by rw [hpe i,dif_neg (by simp at hc;omega)]
     (repeat first|refine uA ?_|(refine uK ?_ ?_;focus first|omega|(intros;simp_all<;>omega))|simp (disch:=omega) only [go_sem])
     exact S.met a4r hf.symm (by simp only [ams,wls,pts,sls,gts,vts,sb,Fr.enc,a4r];exact (by (repeat first|refine uA ?_|(refine ⟨?_,?_⟩;focus first|rfl|simp [slot])|rfl|simp|exact c6X hν0 (by simp))))
   rintro f hf
   simp only [ams,wls,pts,sls,gts,vts,sb,ints,Fr.enc]
   (repeat first|refine uA ?_|(refine uK ?_ ?_;focus first|omega|(intros;simp_all<;>omega))|simp (disch:=omega) only [go_sem,Nat.reduceBEq,Nat.reduceAdd,ww,c6U,hrl])
   refine S.next (i+1) (by omega) (by omega) (by simp only [List.range_succ,c7G,c7i,c7q,<- hf,Fr.enc,sb];exact (by (repeat first|refine uA ?_|(refine ⟨?_,?_⟩;focus first|rfl|simp [slot])|rfl|simp|exact c6X hν0 (by simp))))
  ·have hi':i=parts.length:=by omega
   subst hi'
   simp only [List.map_replicate]
   (repeat first|refine uA ?_|(refine uK ?_ ?_;focus first|omega|(intros;simp_all<;>omega))|simp (disch:=omega) only [go_sem,Nat.reduceBEq,Nat.reduceAdd,c6U,c7a])
   (refine S.done ?_;simp only [p8,r9,go_sem,Nat.reduceBEq,Nat.reduceAdd,Nat.reduceLeDiff];(repeat (refine ⟨?_,?_⟩;focus first|trivial|omega|simp));exact j3.K5 (Imp.tup (by (repeat' (first|exact j4.nil|exact Imp.refl rfl|exact Imp.frz rfl rfl rfl|exact Imp.F5|refine Imp.agg ?_|refine j4.cons ?_ ?_)))) (by (repeat first|refine uA ?_|(refine ⟨?_,?_⟩;focus first|rfl|simp [slot])|rfl|simp)) (c6X hν0 (by simp)))
set_option maxRecDepth 10000
set_option maxHeartbeats 8000000
def a7Q (l:List UInt8) (i:Nat) (out:List UInt8):Prop:=
 out.length=l.length/\∀ k,k < l.length->out[k]?=if k < i \/ l.length-i<=k then l[l.length-1-k]? else l[k]?
theorem b5M (l:List UInt8):a7Q l 0 l:=⟨rfl,fun k hk=>by rw [if_neg (by omega)]⟩
theorem b6h {l out:List UInt8} {i:Nat} {x y:UInt8} (h:a7Q l i out) (hi:i+1 < l.length-i) (hx:out[i]?=some x) (hy:out[l.length-1-i]?=some y):a7Q l (i+1) ((out.set i y).set (l.length-1-i) x):=by
 obtain ⟨h1,h2⟩:=h
 have e1:=h2 i (by omega)
 have e2:=h2 (l.length-1-i) (by omega)
 rw [if_neg (by omega),hx] at e1
 rw [if_neg (by omega),hy] at e2
 refine ⟨by simp [h1],fun k hk=>?_⟩
 by_cases k1:k=l.length-1-i
 ·subst k1
  rw [List.getElem?_set_self (by simp;omega),if_pos (by omega),e1]
  congr 1
  omega
 ·rw [List.getElem?_set_ne (fun e=>k1 e.symm)]
  by_cases k2:k=i
  ·subst k2
   rw [List.getElem?_set_self (by omega),if_pos (by omega),e2]
  ·rw [List.getElem?_set_ne (fun e=>k2 e.symm),h2 k hk]
   by_cases k3:k < i \/ l.length-i<=k
   ·rw [if_pos k3,if_pos (by omega)]
   ·rw [if_neg k3,if_neg (by omega)]
theorem b7Y {l out:List UInt8} {i:Nat} (h:a7Q l i out) (hi:l.length-i<=i+1):out=l.reverse:=by
 obtain ⟨h1,h2⟩:=h
 apply List.ext_getElem?
 intro k
 rcases c7p k l.length with hk|hk
 ·rw [h2 k hk,List.getElem?_reverse hk]
  by_cases k3:k < i \/ l.length-i<=k
  ·rw [if_pos k3]
  ·rw [if_neg k3,show l.length-1-k=k by omega]
 ·rw [c7v (by omega),c7v (by simp;omega)]
theorem c6o {E:Ctx} (hP:E.P=Tryz.prog) (l:List UInt8) (hl:l.length<=1099511627776):j6 E [.row 5 1 (l.map F9)] 170 [.rv 0] (.tup []) [.row 5 1 (l.reverse.map F9)] []:=by
 obtain ⟨P,eff',N,w0,own0,av0,nu0,pk0⟩:=E
 simp only at hP
 subst hP
 refine j6.of (eff:=eff) Tryz.func170 (by cbv) (by exact c7j rfl) fun w own av ν hν=>?_
 have hν0:ν.length<=1:=by rw [hν];exact c7b _
 simp only [j5,TT,II,OA,OB,MM,VV]
 (repeat first|refine uA ?_|(apply uK;focus omega)|simp (disch:=omega) only [go_sem,Nat.reduceBEq,ww,c6U])
 refine S.loop (X:=Nat × List UInt8) (fun x=>⟨[(0,.rv 0),(2,ints x.1),(3,ints ((l.length:Int)-1-(x.1:Int)))],[.row 5 1 (x.2.map F9)]⟩) (fun x=>x.1<=l.length/\a7Q l x.1 x.2) (fun x=>l.length-x.1) (0,l) ⟨c6Z _,b5M l⟩ (by simp only [Int.natCast_zero,Int.sub_zero];exact (by (repeat first|refine uA ?_|(refine ⟨?_,?_⟩;focus first|rfl|simp [slot])|rfl|simp|exact c6X hν0 (by simp)))) ?_
 rintro ⟨i,out⟩ ⟨hi,hinv⟩
 simp only [ints] at hi hinv ⊢
 have hol:=hinv.1
 (repeat first|refine uA ?_|(apply uK;focus omega)|simp (disch:=omega) only [go_sem,Nat.reduceBEq])
 (refine uJ rfl (fun hc=>?_) fun hc=>?_)
 ·have gi:out[i]?=some (out[i]'(by omega)):=c6T (by omega)
  have gj:out[l.length-1-i]?=some (out[l.length-1-i]'(by omega)):=c6T (by omega)
  have hst:=b6h hinv (by omega) gi gj
  have hsk:l.length-1-i ≠ i:=by omega
  generalize out[i]'_=xi at *
  generalize out[l.length-1-i]'_=xj at *
  have gj2:(out.set i xj)[l.length-1-i]?=some xj:=by rw [List.getElem?_set_ne (Ne.symm hsk)];exact gj
  have n0:((l.length:Int)-1-(i:Int)).toNat=l.length-1-i:=by omega
  have e1:(out.map F9).set i [.v (.int .u8 ((xj.toNat:Nat):Int))]=(out.set i xj).map F9:=a7P out i xj
  have e2:((out.set i xj).map F9).set (l.length-1-i) [.v (.int .u8 ((xi.toNat:Nat):Int))]=((out.set i xj).set (l.length-1-i) xi).map F9:=a7P _ _ _
  have hr:(l.length:Int)-1-((i+1:Nat):Int)=(l.length:Int)-1-(i:Int)-1:=by omega
  (repeat first|refine uA ?_|(apply uK;focus omega)|simp (disch:=omega) only [go_sem,Nat.reduceBEq,ww,c6U,gi,gj,gj2,n0,e1,e2,F9,c6V,c7a,c7J])
  refine S.next (x:=(i,out)) (i+1,_) ⟨by simp only;omega,hst⟩ (by simp only;omega) (by simp only [hr];exact (by (repeat first|refine uA ?_|(refine ⟨?_,?_⟩;focus first|rfl|simp [slot])|rfl|simp|exact c6X hν0 (by simp))))
 ·have:=b7Y hinv (by omega)
  subst this
  (repeat first|refine uA ?_|(apply uK;focus omega)|simp (disch:=omega) only [go_sem,Nat.reduceBEq,ww])
  exact S.end_ (j3.own rfl)
theorem b4C (n:Nat) (hn:n < 4611686018427387904):y9 Tryz.prog 136 [.v (.int .i64 (n:Int))] (sb (Nm.enc n)):=by
  refine kS Tryz.func136 (by cbv) (by rfl) fun w O=>?_
  have h8:(Nm.enc n).length<=8:=Nm.F3 (by omega)
  simp only [j5,TT,II,OA,MM,sb]
  (repeat first|refine uA ?_|(apply uK;focus omega)|simp (disch:=omega) only [go_sem])
  refine S.loop (X:=Nat × List UInt8) (fun x=>⟨[(0,ints x.1),(3,.rv 0)],[.row 5 1 (x.2.map F9)]⟩) (fun x=>x.1<=n/\Nm.enc x.1++x.2.reverse=Nm.enc n) (fun x=>x.1) (n,[]) ⟨c7b _,by simp⟩ (Ent.trans (Ent.pack 3 5 1 rfl) (by (repeat first|refine uA ?_|(refine ⟨?_,?_⟩;focus first|rfl|simp [slot])|rfl|simp))) ?_
  rintro ⟨m,out⟩ ⟨hm,hinv⟩
  simp only [ints] at hm hinv ⊢
  have hol:out.length<=8:=by
    have:=congrArg List.length hinv
    simp only [c7e,List.length_reverse] at this
    omega
  (repeat first|refine uA ?_|(apply uK;focus omega)|simp (disch:=omega) only [go_sem,Nat.reduceBEq])
  (refine uJ rfl (fun hc=>?_) fun hc=>?_)
  · have he:Nm.enc m=Nm.enc (m / 256)++[UInt8.ofNat (m % 256)]:=by
      conv=>lhs;unfold Nm.enc
      rw [if_neg (by omega)]
    have hb:(UInt8.ofNat (m % 256)).toNat=m % 256:=by simp
    have h1:IntKind.u8.wrap (Int.tmod (m:Int) 256)=(((UInt8.ofNat (m % 256)).toNat:Nat):Int):=by
      rw [hb,show Int.tmod (m:Int) 256=((m % 256:Nat):Int) from rfl,a2c]
      omega
    have h2:Int.tdiv (m:Int) 256=((m / 256:Nat):Int):=rfl
    have hap:Nm.enc (m / 256)++(out++[UInt8.ofNat (m % 256)]).reverse=Nm.enc n:=by
      rw [List.reverse_append,<- hinv,he]
      simp
    generalize UInt8.ofNat (m % 256)=b at *
    (repeat first|refine uA ?_|(apply uK;focus first|omega|(intros;simp_all<;>omega))|simp (disch:=omega) only [go_sem,Nat.reduceBEq,Nat.reduceAdd,ww,c6U,h1,h2])
    refine S.next (x:=(m,out)) (m / 256,out++[b]) ⟨by simp only;omega,hap⟩ (by simp only;omega) (by simp only [c7G,c7i,c7q,F9];exact (by (repeat first|refine uA ?_|(refine ⟨?_,?_⟩;focus first|rfl|simp [slot])|rfl|simp)))
  · have h0:m=0:=by omega
    subst h0
    rw [Nm.a0W,List.nil_append] at hinv
    have hr:=fun (E:Ctx) (hP:E.P=Tryz.prog)=>c6o hP out (by omega)
    rw [hinv] at hr
    (repeat first|refine uA ?_|(apply uK;focus omega)|simp (disch:=omega) only [go_sem,Nat.reduceBEq,a0t,a6G]|refine l8.t (j6.lift (k:=0) rfl (hr _ rfl) rfl rfl rfl) ?_)
    exact S.done (j3.out rfl (Imp.refl rfl) rfl)
theorem c1H (a b:Nat) (h:0 < b):Nat.gcd b (a % b)=Nat.gcd a b:=by
 rw [Nat.gcd_comm b,<- Nat.gcd_rec,Nat.gcd_comm]
theorem a1j (n d:Int) (hn:-1099511627776<=n/\n<=1099511627776) (hd:1<=d/\d<=1099511627776):y9 Tryz.prog 78 [ints n,ints d] (rc (Q n d)):=by
 refine kS Tryz.func78 (by cbv) (by rfl) fun w O=>?_
 obtain ⟨m,rfl⟩:∃ m:Nat,d=m:=⟨d.toNat,by omega⟩
 have hq:Q n m=Nm.ofQ (mkRat (Nm.sgn (decide (n < 0)) n.natAbs) m):=by
  unfold Q
  have:Nm.sgn (decide (n < 0)) n.natAbs=n:=by unfold Nm.sgn;by_cases h:n < 0<;>simp [h]<;>omega
  rw [this,c7a]
 rw [hq,<- Nm.b1z _ (by omega)]
 have hmx:(if n < -n then -n else n)=((n.natAbs:Nat):Int):=by split<;>omega
 have hwn:IntKind.i64.wrap (0-n)=-n:=by rw [Eng.wrap_i64 (by omega)];omega
 have hgp:0 < Nat.gcd n.natAbs m:=Nat.gcd_pos_of_pos_right _ (by omega)
 simp only [j5,TT,II,OA,OB,MM,ints]
 (repeat first|refine uA ?_|(apply uK;focus first|omega|(intros;simp_all<;>omega))|simp (disch:=omega) only [go_sem,Nat.reduceBEq,Nat.reduceAdd,hwn,hmx])
 refine S.loop (X:=Nat × Nat) (fun x=>⟨[(0,ints n),(1,ints m),(4,.bp 0 0),(5,ints x.1),(6,ints x.2)],[.box 29 [.v (.bool false),.v (.string ⟨#[]⟩),.v (.string ⟨#[]⟩)]]⟩) (fun x=>Nat.gcd x.1 x.2=Nat.gcd n.natAbs m/\x.1<=1099511627776/\x.2<=1099511627776) (fun x=>x.2) (n.natAbs,m) ⟨rfl,by omega,by omega⟩ (by (repeat first|refine uA ?_|(refine ⟨?_,?_⟩;focus first|rfl|simp [slot])|rfl|simp)) ?_
 rintro ⟨a,b⟩ ⟨hg,ha,hb⟩
 simp only [ints] at hg ha hb ⊢
 (repeat first|refine uA ?_|(apply uK;focus omega)|simp (disch:=omega) only [go_sem,Nat.reduceBEq])
 (refine uJ rfl (fun hc=>?_) fun hc=>?_)
 ·have h1:Int.tmod (a:Int) (b:Int)=((a % b:Nat):Int):=rfl
  have hlt:a % b < b:=Nat.mod_lt _ (by omega)
  have hb0:¬ ((b:Int)=0):=by omega
  (repeat first|refine uA ?_|(apply uK;focus omega)|simp (disch:=omega) only [go_sem,Nat.reduceBEq,h1])
  refine S.next (x:=(a,b)) (b,a % b) ⟨by simp only;rw [c1H a b (by omega)];exact hg,by simp only;omega,by simp only;omega⟩ (by simp only;omega) (by (repeat first|refine uA ?_|(refine ⟨?_,?_⟩;focus first|rfl|simp [slot])|rfl|simp))
 ·have hb0:b=0:=by omega
  subst hb0
  rw [Nat.gcd_zero_right] at hg
  subst hg
  have ha0:¬ (((Nat.gcd n.natAbs m:Nat):Int)=0):=by omega
  generalize hgg:Nat.gcd n.natAbs m=g at *
  have hdvn:g ∣ n.natAbs:=by rw [<- hgg];exact Nat.gcd_dvd_left ..
  have e2:Int.tdiv (m:Int) (g:Int)=((m / g:Nat):Int):=rfl
  obtain ⟨k,hk⟩:=hdvn
  have hkq:n.natAbs / g=k:=by rw [hk];exact Nat.mul_div_cancel_left _ hgp
  have e1:Int.tdiv n (g:Int)=Nm.sgn (decide (n < 0)) k:=by
   have h3:(n:Int)=(g:Int)*Nm.sgn (decide (n < 0)) k:=by
    have h4:((n.natAbs:Nat):Int)=(g:Int)*(k:Int):=by rw [hk];simp
    unfold Nm.sgn
    by_cases h:n < 0
    ·simp only [h,decide_true,if_true,Int.mul_neg];omega
    ·simp only [h,decide_false,c7C,if_false];omega
   rw [show Int.tdiv n (g:Int)=Int.tdiv ((g:Int)*Nm.sgn (decide (n < 0)) k) (g:Int) from congrArg (fun z=>Int.tdiv z (g:Int)) h3]
   exact Int.mul_tdiv_cancel_left _ (by omega)
  have hkb:k<=1099511627776:=by
   have:k<=g*k:=Nat.le_mul_of_pos_left k hgp
   omega
  have hmb:m / g<=m:=Nat.div_le_self _ _
  have hs:-1099511627776<=Nm.sgn (decide (n < 0)) k/\Nm.sgn (decide (n < 0)) k<=1099511627776:=by unfold Nm.sgn;split<;>omega
  have hneg:decide (Nm.sgn (decide (n < 0)) k < 0)=(decide (n < 0) && !decide (k=0)):=by
   unfold Nm.sgn
   by_cases h:n < 0
   ·by_cases h0:k=0
    ·subst h0;simp [h]
    ·simp [h,h0];try omega
   ·simp [h];try omega
  have hab:(if Nm.sgn (decide (n < 0)) k < -(Nm.sgn (decide (n < 0)) k) then -(Nm.sgn (decide (n < 0)) k) else Nm.sgn (decide (n < 0)) k)=((k:Nat):Int):=by unfold Nm.sgn;split<;>split<;>omega
  have hws:IntKind.i64.wrap (0-Nm.sgn (decide (n < 0)) k)=-(Nm.sgn (decide (n < 0)) k):=by rw [Eng.wrap_i64 (by omega)];omega
  have hwm:IntKind.i64.wrap ((m / g:Nat):Int)=((m / g:Nat):Int):=by
   generalize m / g=z at *
   exact Eng.wrap_i64 (by omega)
  have d1:=b4C k (by omega)
  have d2:=b4C (m / g) (by omega)
  have hres:(if n.natAbs=0 then Nm.a3I else ⟨decide (n < 0),Nm.enc (n.natAbs / g),Nm.enc (m / g)⟩:Nm.Rt)=⟨decide (n < 0) && !decide (k=0),Nm.enc k,Nm.enc (m / g)⟩:=by
   rw [hkq]
   by_cases h0:n.natAbs=0
   ·have hn0:n=0:=by omega
    subst hn0
    have hk0:k=0:=by
     rcases c7s k with h|h
     ·exact h
     ·have:=Nat.mul_pos hgp h;omega
    have hgm:g=m:=by rw [<- hgg];simp
    subst hk0
    have h1:m / g=1:=by rw [hgm];exact Nat.div_self (by omega)
    rw [h1,Nm.Q5,Nm.a0W]
    rfl
   ·have hk0:k ≠ 0:=by intro h;subst h;omega
    rw [if_neg h0]
    simp [hk0]
  rw [hres]
  rw [<- hneg]
  simp only [rc,sb] at d1 d2 ⊢
  generalize Nm.sgn (decide (n < 0)) k=s at *
  (repeat first|refine uA ?_|(apply uK;focus omega)|simp (disch:=omega) only [go_sem,Nat.reduceBEq,ww,e1,e2,hws,hab,hwm]|(apply uB d1;exact rfl)|(apply uB d2;exact rfl))
  (refine S.done ?_;simp only [p8,r9,go_sem,Nat.reduceBEq,Nat.reduceAdd,Nat.reduceLeDiff];(repeat (refine ⟨?_,?_⟩;focus first|trivial|omega|simp));exact j3.out rfl (Imp.refl rfl) rfl)
theorem V8 (x y:Int) (hx:-1000000<=x/\x<=1000000) (hy:-1000000<=y/\y<=1000000):y9 Tryz.prog 82 [ints x,ints y] (atV x y).c:=by
 refine kS Tryz.func82 (by cbv) (by rfl) fun w O=>?_
 have h1:=a1j x 4 (by omega) (by omega)
 have h2:=a1j y 4 (by omega) (by omega)
 unfold atV
 generalize Q x 4=qx at *
 generalize Q y 4=qy at *
 simp only [j5,TT,II,OA,OB,MM]
 simp only [rc,sb,ints,Vt.c,Vt.enc] at *
 (repeat first|refine uA ?_|(apply uK;focus first|omega|(intros;simp_all<;>omega))|simp (disch:=omega) only [go_sem,Nat.reduceBEq,Nat.reduceAdd]|(apply uB h1;exact rfl)|(apply uB h2;exact rfl))
 (refine S.done ?_;simp only [p8,r9,go_sem,Nat.reduceBEq,Nat.reduceAdd,Nat.reduceLeDiff];(repeat (refine ⟨?_,?_⟩;focus first|trivial|omega|simp));exact j3.out rfl (Imp.refl rfl) rfl)
theorem b9N (x y u v:Int) (hx:-100000<=x/\x<=100000) (hy:-100000<=y/\y<=100000) (hu:-100000<=u/\u<=100000) (hv:-100000<=v/\v<=100000):y9 Tryz.prog 80 [ints x,ints y,ints u,ints v] (vts (a5x x y u v)):=by
 refine kS Tryz.func80 (by cbv) (by rfl) fun w O=>?_
 have h1:=V8 x y (by omega) (by omega)
 have h2:=V8 u y (by omega) (by omega)
 have h3:=V8 u v (by omega) (by omega)
 have h4:=V8 x v (by omega) (by omega)
 unfold a5x
 generalize atV x y=p1 at *
 generalize atV u y=p2 at *
 generalize atV u v=p3 at *
 generalize atV x v=p4 at *
 simp only [j5,TT,OA,MM]
 simp only [vts,Vt.c,Vt.enc,sb,ints] at *
 (repeat first|refine uA ?_|(apply uK;focus first|omega|(intros;simp_all<;>omega))|simp (disch:=omega) only [go_sem,Nat.reduceBEq,Nat.reduceAdd]|(apply uB h1;exact rfl)|(apply uB h2;exact rfl)|(apply uB h3;exact rfl)|(apply uB h4;exact rfl))
 exact S.done (j3.out rfl (Imp.frz rfl rfl rfl) rfl)
theorem c2c (l:List Int):a1K l=if nx (l.drop 2) 4=1 then (a1S (1+nx l 6) (1+nx (l.drop 1) 6) 1 (nx (l.drop 3) (2*(1+nx l 6)+1)),l.drop 4) else (a1S (1+nx l 6) (1+nx (l.drop 1) 6) (nx (l.drop 2) 4) 0,l.drop 3):=by
 unfold a1K
 by_cases h:nx (l.drop 2) 4=1
 ·simp only [h,if_true]
 ·simp only [if_neg h]
theorem c5L {E:Ctx} (hP:E.P=Tryz.prog) (l:List Int) :
  j6 E [.box 95 [u6 l]] 81 [.bp 0 0] (vts (a1K l).1) [.box 95 [u6 (a1K l).2]] []:=by
 obtain ⟨P,eff',N,w0,own0,av0,nu0,pk0⟩:=E
 simp only at hP
 subst hP
 refine j6.of (eff:=eff) Tryz.func81 (by cbv) (by exact c7j rfl) fun w own av ν hν=>?_
 have hν0:ν.length<=1:=by rw [hν];exact c7b _
 have n1:=fun (E:Ctx) (hP:E.P=Tryz.prog)=>G8 hP l 6 (by decide)
 have n2:=fun (E:Ctx) (hP:E.P=Tryz.prog)=>G8 hP (l.drop 1) 6 (by decide)
 have n3:=fun (E:Ctx) (hP:E.P=Tryz.prog)=>G8 hP (l.drop 2) 4 (by decide)
 have b1:=l9 l (n:=6) (by decide)
 have b2:=A8 l (n:=6) (by decide)
 have b3:=l9 (l.drop 1) (n:=6) (by decide)
 have b4:=A8 (l.drop 1) (n:=6) (by decide)
 have b5:=l9 (l.drop 2) (n:=4) (by decide)
 have b6:=A8 (l.drop 2) (n:=4) (by decide)
 rw [c2c]
 generalize hw:nx l 6=w' at *
 generalize hh:nx (l.drop 1) 6=h' at *
 have n4:=fun (E:Ctx) (hP:E.P=Tryz.prog)=>G8 hP (l.drop 3) (2*(1+w')+1) (by omega)
 have b7:=l9 (l.drop 3) (n:=2*(1+w')+1) (by omega)
 have b8:=A8 (l.drop 3) (n:=2*(1+w')+1) (by omega)
 generalize hk:nx (l.drop 2) 4=k at *
 generalize hs:nx (l.drop 3) (2*(1+w')+1)=s at *
 rw [List.drop_drop] at n2 n3 n4
 generalize hu1:1+w'=u at *
 generalize hv1:1+h'=v at *
 have ru:IntKind.i64.wrap (0-u)=-u:=by rw [Eng.wrap_i64 (by omega)];omega
 have rv:IntKind.i64.wrap (0-v)=-v:=by rw [Eng.wrap_i64 (by omega)];omega
 simp only [j5,TT,II,OA,MM]
 simp only [u6,ints] at n1 n2 n3 n4 ⊢
 (repeat first|refine uA ?_|(apply uK;focus omega)|simp (disch:=omega) only [go_sem,Nat.reduceBEq,ww,hu1,hv1]|refine l8.t (j6.lift (k:=0) rfl (n1 _ rfl) rfl rfl rfl) ?_|refine l8.t (j6.lift (k:=0) rfl (n2 _ rfl) rfl rfl rfl) ?_)
 (repeat first|refine uA ?_|(apply uK;focus omega)|simp (disch:=omega) only [go_sem,Nat.reduceBEq]|refine l8.t (j6.lift (k:=0) rfl (n3 _ rfl) rfl rfl rfl) ?_)
 by_cases k0:k=0
 ·subst k0
  rw [if_neg (by decide),show a1S u v 0 0=[atV (-u) (-v),atV u (-v),atV u v,atV (-u) v] from rfl]
  have h1:=V8 (-u) (-v) (by omega) (by omega)
  have h2:=V8 (u) (-v) (by omega) (by omega)
  have h3:=V8 (u) (v) (by omega) (by omega)
  have h4:=V8 (-u) (v) (by omega) (by omega)
  generalize hq1:atV (-u) (-v)=p1 at *
  generalize hq2:atV (u) (-v)=p2 at *
  generalize hq3:atV (u) (v)=p3 at *
  generalize hq4:atV (-u) (v)=p4 at *
  simp only [vts,Vt.c,Vt.enc,sb,ints] at h1 h2 h3 h4 ⊢
  refine S.cond rfl (fun hc=>?_) (fun hc=>by simp at hc)
  (repeat first|refine uA ?_|(apply uK;focus omega)|simp (disch:=omega) only [go_sem,Nat.reduceBEq,ru,rv]|(apply uB h1;exact rfl)|(apply uB h2;exact rfl)|(apply uB h3;exact rfl)|(apply uB h4;exact rfl))
  (refine S.done ?_;simp only [p8,go_sem,Nat.reduceBEq,Nat.reduceAdd];(repeat (refine ⟨?_,?_⟩;focus first|trivial|omega|simp));exact j3.K5 (Imp.frz rfl rfl rfl) (by (repeat first|refine uA ?_|(refine ⟨?_,?_⟩;focus first|rfl|simp [slot])|rfl|simp)) (c6X hν0 (by simp)))
 refine S.cond rfl (fun hc=>by simp at hc;exact absurd hc k0) (fun hc=>?_)
 (repeat first|refine uA ?_|(apply uK;focus omega)|simp (disch:=omega) only [go_sem,Nat.reduceBEq])
 by_cases k1:k=1
 ·subst k1
  rw [if_pos rfl,show a1S u v 1 s=[atV (-u) (-v),atV u (-v),atV (s-u) v] from rfl]
  have h1:=V8 (-u) (-v) (by omega) (by omega)
  have h2:=V8 (u) (-v) (by omega) (by omega)
  have h3:=V8 (s-u) (v) (by omega) (by omega)
  generalize hq1:atV (-u) (-v)=p1 at *
  generalize hq2:atV (u) (-v)=p2 at *
  generalize hq3:atV (s-u) (v)=p3 at *
  simp only [vts,Vt.c,Vt.enc,sb,ints] at h1 h2 h3 ⊢
  refine S.cond rfl (fun hc=>?_) (fun hc=>by simp at hc)
  (repeat first|refine uA ?_|(apply uK;focus omega)|simp (disch:=omega) only [go_sem,Nat.reduceBEq,ww,ru,rv]|refine l8.t (j6.lift (k:=0) rfl (n4 _ rfl) rfl rfl rfl) ?_|(apply uB h1;exact rfl)|(apply uB h2;exact rfl)|(apply uB h3;exact rfl))
  (refine S.done ?_;simp only [p8,go_sem,Nat.reduceBEq,Nat.reduceAdd];(repeat (refine ⟨?_,?_⟩;focus first|trivial|omega|simp));exact j3.K5 (Imp.frz rfl rfl rfl) (by (repeat first|refine uA ?_|(refine ⟨?_,?_⟩;focus first|rfl|simp [slot])|rfl|simp)) (c6X hν0 (by simp)))
 rw [if_neg k1]
 refine S.cond rfl (fun hc=>by simp at hc;exact absurd hc k1) (fun hc=>?_)
 (repeat first|refine uA ?_|(apply uK;focus omega)|simp (disch:=omega) only [go_sem,Nat.reduceBEq])
 by_cases k2:k=2
 ·subst k2
  rw [show a1S u v 2 0=[atV (-u-1) (-v-1),atV u (-v-1),atV (u+1) (-v),atV (u+1) v,atV (-u-1) v] from rfl]
  have h1:=V8 (-u-1) (-v-1) (by omega) (by omega)
  have h2:=V8 (u) (-v-1) (by omega) (by omega)
  have h3:=V8 (u+1) (-v) (by omega) (by omega)
  have h4:=V8 (u+1) (v) (by omega) (by omega)
  have h5:=V8 (-u-1) (v) (by omega) (by omega)
  generalize hq1:atV (-u-1) (-v-1)=p1 at *
  generalize hq2:atV (u) (-v-1)=p2 at *
  generalize hq3:atV (u+1) (-v)=p3 at *
  generalize hq4:atV (u+1) (v)=p4 at *
  generalize hq5:atV (-u-1) (v)=p5 at *
  simp only [vts,Vt.c,Vt.enc,sb,ints] at h1 h2 h3 h4 h5 ⊢
  refine S.cond rfl (fun hc=>?_) (fun hc=>by simp at hc)
  (repeat first|refine uA ?_|(apply uK;focus omega)|simp (disch:=omega) only [go_sem,Nat.reduceBEq,ww,ru,rv]|(apply uB h1;exact rfl)|(apply uB h2;exact rfl)|(apply uB h3;exact rfl)|(apply uB h4;exact rfl)|(apply uB h5;exact rfl))
  (refine S.done ?_;simp only [p8,go_sem,Nat.reduceBEq,Nat.reduceAdd];(repeat (refine ⟨?_,?_⟩;focus first|trivial|omega|simp));exact j3.K5 (Imp.frz rfl rfl rfl) (by (repeat first|refine uA ?_|(refine ⟨?_,?_⟩;focus first|rfl|simp [slot])|rfl|simp)) (c6X hν0 (by simp)))
 ·rw [show a1S u v k 0=[atV (-u) 0,atV 0 (-v),atV u 0,atV 0 v] by unfold a1S;rw [if_neg k0,if_neg k1,if_neg k2]]
  have h1:=V8 (-u) (0) (by omega) (by omega)
  have h2:=V8 (0) (-v) (by omega) (by omega)
  have h3:=V8 (u) (0) (by omega) (by omega)
  have h4:=V8 (0) (v) (by omega) (by omega)
  generalize hq1:atV (-u) (0)=p1 at *
  generalize hq2:atV (0) (-v)=p2 at *
  generalize hq3:atV (u) (0)=p3 at *
  generalize hq4:atV (0) (v)=p4 at *
  simp only [vts,Vt.c,Vt.enc,sb,ints] at h1 h2 h3 h4 ⊢
  refine S.cond rfl (fun hc=>by simp at hc;exact absurd hc k2) (fun hc=>?_)
  (repeat first|refine uA ?_|(apply uK;focus omega)|simp (disch:=omega) only [go_sem,Nat.reduceBEq,ru,rv]|(apply uB h1;exact rfl)|(apply uB h2;exact rfl)|(apply uB h3;exact rfl)|(apply uB h4;exact rfl))
  (refine S.done ?_;simp only [p8,go_sem,Nat.reduceBEq,Nat.reduceAdd];(repeat (refine ⟨?_,?_⟩;focus first|trivial|omega|simp));exact j3.K5 (Imp.frz rfl rfl rfl) (by (repeat first|refine uA ?_|(refine ⟨?_,?_⟩;focus first|rfl|simp [slot])|rfl|simp)) (c6X hν0 (by simp)))
set_option maxRecDepth 100000
set_option maxHeartbeats 16000000
theorem c1X (n:Nat) (h:n<=3):([[C.v (.string ⟨#[111,110,101]⟩)],[C.v (.string ⟨#[116,119,111]⟩)],[C.v (.string ⟨#[116,104,114,101,101]⟩)],[C.v (.string ⟨#[102,111,117,114]⟩)]]:List (List C))[n]?=some [C.v (.string (bs (a5o n)))]:=by
 match n,h with
 | 0,_=>rfl
 | 1,_=>rfl
 | 2,_=>rfl
 | 3,_=>rfl
theorem c3N (k:Int) (h0:0<=k) (h1:k < 4):([[C.v (.int .i64 0)],[C.v (.int .i64 1)],[C.v (.int .i64 (-1))],[C.v (.int .i64 1)]]:List (List C))[k.toNat]?=some [C.v (.int .i64 (a3G k))]:=by
 have:k=0 \/ k=1 \/ k=2 \/ k=3:=by omega
 rcases this with rfl|rfl|rfl|rfl<;>rfl
theorem c0y (k:Int):-1<=a3G k/\a3G k<=1:=by unfold a3G;split;omega;split<;>omega
theorem c5R {E:Ctx} (hP:E.P=Tryz.prog) (l:List Int) (n:Nat) (hn:n<=3) :
  j6 E [.box 95 [u6 l]] 79 [.bp 0 0,.v (.int .i64 (n:Int))] (b1C l n).c [.box 95 [u6 (b2b l)]] []:=by
 obtain ⟨P,eff',N,w0,own0,av0,nu0,pk0⟩:=E
 simp only at hP
 subst hP
 refine j6.of (eff:=eff) b0v b0z (by exact c7j rfl) fun w own av ν hν=>?_
 have hν0:ν.length<=1:=by rw [hν];exact c7b _
 have hnm:=c1X n hn
 have h1:=V8 (40*(n:Int)) 0 (by omega) (by omega)
 have k1:=fun (E:Ctx) (hP:E.P=Tryz.prog)=>G8 hP l 4 (by decide)
 have k2:=fun (E:Ctx) (hP:E.P=Tryz.prog)=>G8 hP (l.drop 1) 3 (by decide)
 have k3:=fun (E:Ctx) (hP:E.P=Tryz.prog)=>G8 hP (l.drop 2) 3 (by decide)
 have a1:=l9 l (n:=4) (by decide)
 have a2:=A8 l (n:=4) (by decide)
 have a3:=l9 (l.drop 1) (n:=3) (by decide)
 have a4:=A8 (l.drop 1) (n:=3) (by decide)
 have a5:=l9 (l.drop 2) (n:=3) (by decide)
 have a6:=A8 (l.drop 2) (n:=3) (by decide)
 have htn:=c3N (nx l 4) a1 a2
 have htr:=c0y (nx l 4)
 have h2:=a1j (a3G (nx l 4)) (1+nx (l.drop 1) 3) (by omega) (by omega)
 rw [List.drop_drop] at k2 k3
 have hc:((a4z l:Nat):Int)=1+nx (l.drop 2) 3:=by unfold a4z;omega
 have hc3:a4z l<=3:=by omega
 have hR:b2b l=(l.drop 3).drop (6*a4z l):=by unfold b2b;rw [List.drop_drop]
 unfold b1C
 rw [hR]
 generalize a4z l=c at *
 generalize l.drop 3=l0 at *
 unfold atV at h1
 generalize Q (40*(n:Int)) 4=q1 at *
 generalize Q 0 4=q2 at *
 generalize a3G (nx l 4)=tn at *
 generalize Q tn (1+nx (l.drop 1) 3)=q3 at *
 generalize nx l 4=x1 at *
 generalize nx (l.drop 1) 3=x2 at *
 generalize nx (l.drop 2) 3=x3 at *
 generalize a5o n=nm at *
 simp only [a5L,j5,TT,II,OA,OB,MM,LL,VV,FF]
 simp only [Am.c,Am.enc,Vt.c,Vt.enc,rc,u6,sb,ints,lks] at h1 h2 k1 k2 k3 ⊢
 (repeat first|refine uA ?_|(refine uK ?_ ?_;focus first|omega|trivial|(intros;simp_all<;>omega))|simp (disch:=omega) only [go_sem,Nat.reduceBEq,Nat.reduceAdd,Nat.reduceLeDiff,ww,hnm,htn,c7a]|refine l8.t (j6.lift (k:=0) rfl (k1 _ rfl) rfl rfl rfl) ?_|refine l8.t (j6.lift (k:=0) rfl (k2 _ rfl) rfl rfl rfl) ?_|(refine uB h1 ?_ ?_;exact rfl)|(refine uB h2 ?_ ?_;exact rfl))
 (repeat first|refine uA ?_|(refine uK ?_ ?_;focus first|omega|trivial|(intros;simp_all<;>omega))|simp (disch:=omega) only [go_sem,Nat.reduceBEq,ww]|refine l8.t (j6.lift (k:=0) rfl (k3 _ rfl) rfl rfl rfl) ?_)
 rw [<- hc]
 refine S.loop (X:=Nat × List Lk × List Int) (fun x=>⟨[(0,.bp 0 0),(4,.bp 1 0),(5,.bp 3 0),(30,ints c),(31,ints x.1)],[.box 95 [u6 x.2.2],.box 69 [.v (.string ⟨#[]⟩),.v (.bool false),.v (.string ⟨#[]⟩),.v (.string ⟨#[]⟩),.v (.bool false),.v (.string ⟨#[]⟩),.v (.string ⟨#[]⟩),.v (.bool false),.v (.bool false),.v (.string ⟨#[]⟩),.v (.string ⟨#[]⟩),.v (.slice none 0 0)],.gone,.box 69 [.v (.string (bs nm)),.v (.bool q1.neg),.v (.string (bs q1.num)),.v (.string (bs q1.den)),.v (.bool q2.neg),.v (.string (bs q2.num)),.v (.string (bs q2.den)),.v (.bool false),.v (.bool q3.neg),.v (.string (bs q3.num)),.v (.string (bs q3.den)),.rv 4],.row 74 16 (x.2.1.map Lk.enc)]⟩)
  (fun x=>x.1<=c/\x.2.1.length=x.1/\x.2.1++a1z (c-x.1) x.2.2=a1z c l0/\x.2.2.drop (6*(c-x.1))=l0.drop (6*c)) (fun x=>c-x.1) (0,[],l0) ⟨c6Z _,rfl,rfl,rfl⟩ (Ent.trans (Ent.a2X 3 11 74 16 rfl rfl rfl) (by (repeat first|refine uA ?_|(refine ⟨?_,?_⟩;focus first|rfl|trivial|(simp [slot];done))|rfl|trivial|simp|exact c6X hν0 (by simp)))) ?_
 rintro ⟨i,ls,m⟩ ⟨hi,hls,hL,hM⟩
 simp only [ints,u6] at hi hls hL hM ⊢
 (repeat first|refine uA ?_|(refine uK ?_ ?_;focus first|omega|trivial|(intros;simp_all<;>omega))|simp (disch:=omega) only [go_sem,Nat.reduceBEq])
 (refine uJ rfl (fun hc=>?_) fun hc=>?_)
 ·have hi':c-i=(c-i-1)+1:=by omega
  have n0:=fun (E:Ctx) (hP:E.P=Tryz.prog)=>G8 hP (m.drop 0) 4 (by decide)
  have a0:=l9 (m.drop 0) (n:=4) (by decide)
  have b0:=A8 (m.drop 0) (n:=4) (by decide)
  have n1:=fun (E:Ctx) (hP:E.P=Tryz.prog)=>G8 hP (m.drop 1) 6 (by decide)
  have a1:=l9 (m.drop 1) (n:=6) (by decide)
  have b1:=A8 (m.drop 1) (n:=6) (by decide)
  have n2:=fun (E:Ctx) (hP:E.P=Tryz.prog)=>G8 hP (m.drop 2) 6 (by decide)
  have a2:=l9 (m.drop 2) (n:=6) (by decide)
  have b2:=A8 (m.drop 2) (n:=6) (by decide)
  have n3:=fun (E:Ctx) (hP:E.P=Tryz.prog)=>G8 hP (m.drop 3) 8 (by decide)
  have a3:=l9 (m.drop 3) (n:=8) (by decide)
  have b3:=A8 (m.drop 3) (n:=8) (by decide)
  have n4:=fun (E:Ctx) (hP:E.P=Tryz.prog)=>G8 hP (m.drop 4) 20 (by decide)
  have a4:=l9 (m.drop 4) (n:=20) (by decide)
  have b4:=A8 (m.drop 4) (n:=20) (by decide)
  have n5:=fun (E:Ctx) (hP:E.P=Tryz.prog)=>G8 hP (m.drop 5) 3 (by decide)
  have a5:=l9 (m.drop 5) (n:=3) (by decide)
  have b5:=A8 (m.drop 5) (n:=3) (by decide)
  rw [hi',a1z] at hL
  have hM2:(m.drop 6).drop (6*(c-(i+1)))=l0.drop (6*c):=by rw [List.drop_drop,<- hM];congr 1;omega
  rw [show c-i-1=c-(i+1) by omega] at hL
  simp only [List.drop_drop,List.drop_zero] at n0 n1 n2 n3 n4 n5 a0 b0
  unfold b3B a5y at hL
  have o1:=a1j (4+2*nx m 4) 4 (by omega) (by omega)
  have o2:=a1j (-1-nx (m.drop 1) 6) 3 (by omega) (by omega)
  have o3:=a1j (1+nx (m.drop 2) 6) 3 (by omega) (by omega)
  have o4:=a1j 1 (4+nx (m.drop 3) 8) (by omega) (by omega)
  have o5:=a1j 1 (10+nx (m.drop 4) 20) (by omega) (by omega)
  have o6:=b9N (-1) (-1) (4+2*nx m 4+1) 1 (by omega) (by omega) (by omega) (by omega)
  have o7:=V8 (-1) (-1) (by omega) (by omega)
  have o8:=V8 (4+2*nx m 4+1) 0 (by omega) (by omega)
  have o9:=V8 (-1) 1 (by omega) (by omega)
  generalize Q (4+2*nx m 4) 4=p1 at *
  generalize Q (-1-nx (m.drop 1) 6) 3=p2 at *
  generalize Q (1+nx (m.drop 2) 6) 3=p3 at *
  generalize Q 1 (4+nx (m.drop 3) 8)=p4 at *
  generalize Q 1 (10+nx (m.drop 4) 20)=p5 at *
  generalize a5x (-1) (-1) (4+2*nx m 4+1) 1=r6 at *
  generalize atV (-1) (-1)=v7 at *
  generalize atV (4+2*nx m 4+1) 0=v8 at *
  generalize atV (-1) 1=v9 at *
  generalize nx m 4=y0 at *
  generalize nx (m.drop 1) 6=y1 at *
  generalize nx (m.drop 2) 6=y2 at *
  generalize nx (m.drop 3) 8=y3 at *
  generalize nx (m.drop 4) 20=y4 at *
  generalize nx (m.drop 5) 3=y5 at *
  simp only [u6,ints,rc,sb,vts,Vt.c,Vt.enc] at n0 n1 n2 n3 n4 n5 o1 o2 o3 o4 o5 o6 o7 o8 o9
  (repeat first|refine uA ?_|(refine uK ?_ ?_;focus first|omega|trivial|(intros;simp_all<;>omega))|simp (disch:=omega) only [go_sem,Nat.reduceBEq,Nat.reduceAdd,Nat.reduceLeDiff,ww]|refine l8.t (j6.lift (k:=0) rfl (n0 _ rfl) rfl rfl rfl) ?_|refine l8.t (j6.lift (k:=0) rfl (n1 _ rfl) rfl rfl rfl) ?_|refine l8.t (j6.lift (k:=0) rfl (n2 _ rfl) rfl rfl rfl) ?_|refine l8.t (j6.lift (k:=0) rfl (n3 _ rfl) rfl rfl rfl) ?_|refine l8.t (j6.lift (k:=0) rfl (n4 _ rfl) rfl rfl rfl) ?_|refine l8.t (j6.lift (k:=0) rfl (n5 _ rfl) rfl rfl rfl) ?_|(refine uB o1 ?_ ?_;exact rfl)|(refine uB o2 ?_ ?_;exact rfl)|(refine uB o3 ?_ ?_;exact rfl)|(refine uB o4 ?_ ?_;exact rfl)|(refine uB o5 ?_ ?_;exact rfl)|(refine uB o6 ?_ ?_;exact rfl))
  refine S.join (Y:=List Vt) (fun sh=>⟨[(0,.bp 0 0),(4,.bp 1 0),(5,.bp 3 0),(7,.bp 5 0),(30,ints c),(31,ints i)],[.box 95 [u6 (m.drop 6)],.box 69 [.v (.string ⟨#[]⟩),.v (.bool false),.v (.string ⟨#[]⟩),.v (.string ⟨#[]⟩),.v (.bool false),.v (.string ⟨#[]⟩),.v (.string ⟨#[]⟩),.v (.bool false),.v (.bool false),.v (.string ⟨#[]⟩),.v (.string ⟨#[]⟩),.v (.slice none 0 0)],.gone,.box 69 [.v (.string (bs nm)),.v (.bool q1.neg),.v (.string (bs q1.num)),.v (.string (bs q1.den)),.v (.bool q2.neg),.v (.string (bs q2.num)),.v (.string (bs q2.den)),.v (.bool false),.v (.bool q3.neg),.v (.string (bs q3.num)),.v (.string (bs q3.den)),.rv 4],.row 74 16 (ls.map Lk.enc),.box 74 (Lk.enc ⟨p1,p2,p3,p4,p5,sh⟩)]⟩) (fun sh=>sh=if y5=2 then [v7,v8,v9] else r6) ?_ ?_
  ·refine S.cond rfl (fun hc=>?_) (fun hc=>?_)
   ·(repeat first|refine uA ?_|(refine uK ?_ ?_;focus first|omega|trivial|(intros;simp_all<;>omega))|simp (disch:=omega) only [go_sem,Nat.reduceBEq,Nat.reduceAdd,Nat.reduceLeDiff,ww]|(refine uB o7 ?_ ?_;exact rfl)|(refine uB o8 ?_ ?_;exact rfl)|(refine uB o9 ?_ ?_;exact rfl))
    exact S.met [v7,v8,v9] (by simp at hc;rw [if_pos hc]) (Ent.mk _ _ (by (repeat' (first|exact P6.nil|exact Imp.junk|exact Imp.refl rfl|exact Imp.eq (by simp [slot];done) rfl|refine P6.cons ?_ ?_))) (by (repeat' (first|exact D7.nil|exact RI.gone _|exact RI.row _ _ _ _ rfl|exact RI.map _ _ _ rfl|exact RI.box _ _ _ (j4.refl rfl)|(refine RI.box _ _ _ ?_;(repeat' (first|exact j4.nil|exact Imp.refl rfl|exact Imp.frz rfl rfl rfl|exact Imp.F5|refine j4.cons ?_ ?_)))|refine D7.cons ?_ ?_))) (c6X hν0 (by simp)))
   ·(repeat first|refine uA ?_|(refine uK ?_ ?_;focus first|omega|trivial|(intros;simp_all<;>omega))|simp (disch:=omega) only [go_sem])
    exact S.met r6 (by simp at hc;rw [if_neg hc]) (by (repeat first|refine uA ?_|(refine ⟨?_,?_⟩;focus first|rfl|trivial|(simp [slot];done))|rfl|trivial|simp|exact c6X hν0 (by simp)))
  rintro sh hsh
  rw [<- hsh] at hL
  simp only [u6,ints,Lk.enc,vts]
  (repeat first|refine uA ?_|(refine uK ?_ ?_;focus first|omega|trivial|(intros;simp_all<;>omega))|simp (disch:=omega) only [go_sem,Nat.reduceBEq,Nat.reduceAdd,Nat.reduceLeDiff,ww,c6U,hls])
  refine S.next (x:=(i,ls,m)) (i+1,ls++[⟨p1,p2,p3,p4,p5,sh⟩],m.drop 6) ⟨by simp only;omega,by simp [hls],by simp only;rw [c7A];exact hL,by simp only;exact hM2⟩ (by simp only;omega) (by simp only [c7G,c7i,c7q];exact (by (repeat first|refine uA ?_|(refine ⟨?_,?_⟩;focus first|rfl|trivial|(simp [slot];done))|rfl|trivial|simp|exact c6X hν0 (by simp))))
 ·have hi':i=c:=by omega
  subst hi'
  rw [Nat.sub_self,a1z,List.append_nil] at hL
  rw [Nat.sub_self,Nat.mul_zero,List.drop_zero] at hM
  subst hL
  subst hM
  (repeat first|refine uA ?_|(refine uK ?_ ?_;focus first|omega|trivial|(intros;simp_all<;>omega))|simp (disch:=omega) only [go_sem,Nat.reduceBEq,Nat.reduceAdd,Nat.reduceLeDiff])
  (refine S.done ?_;simp only [p8,r9,go_sem,Nat.reduceBEq,Nat.reduceAdd,Nat.reduceLeDiff];(repeat (refine ⟨?_,?_⟩;focus first|trivial|omega|simp));exact j3.K5 (Imp.agg (by (repeat' (first|exact j4.nil|exact Imp.refl rfl|exact Imp.frz rfl rfl rfl|exact Imp.F5|refine j4.cons ?_ ?_)))) (by (repeat first|refine uA ?_|(refine ⟨?_,?_⟩;focus first|rfl|trivial|(simp [slot];done))|rfl|trivial|simp)) (c6X hν0 (by simp)))
set_option maxHeartbeats 32000000
def a1q:List C:=[.v (.slice none 0 0),.v (.slice none 0 0),.v (.slice none 0 0),.v (.slice none 0 0),.v (.slice none 0 0),.v (.bool false),.v (.string ⟨#[]⟩),.v (.string ⟨#[]⟩)]
def rsM (m:List Int) (a:List Am) (w:List (List Vt)) (p:List Pt) (s:List Sl) (g:List Gt):List Res:=
 [.box 31 a1q,.box 95 [u6 m],.box 31 [.rv 3,.rv 4,.rv 5,.rv 6,.rv 7,.v (.bool false),.v (.string ⟨#[]⟩),.v (.string ⟨#[]⟩)],.row 69 12 (a.map Am.enc),.row 34 1 (w.map fun s=>[vts s]),.row 115 12 (p.map Pt.enc),.row 151 14 (s.map Sl.enc),.row 143 13 (g.map Gt.enc)]
theorem b9V (n:Nat) (h:n < 2):([[C.v (.string ⟨#[98,111,108,116]⟩)],[C.v (.string ⟨#[110,117,116]⟩)]]:List (List C))[n]?=some [C.v (.string (bs (a4u n)))]:=by
 match n,h with
 | 0,_=>rfl
 | 1,_=>rfl
theorem b9u (n:Nat) (h:n < 3):([[C.v (.string ⟨#[104,101,114,101]⟩)],[C.v (.string ⟨#[116,104,101,114,101]⟩)],[C.v (.string ⟨#[98,101,121,111,110,100]⟩)]]:List (List C))[n]?=some [C.v (.string (bs (a5O n)))]:=by
 match n,h with
 | 0,_=>rfl
 | 1,_=>rfl
 | 2,_=>rfl
theorem c4c (l:List Int):y9 Tryz.prog 34 [u6 l] (u7 l).c:=by
 refine kS a8T a8V (by rfl) fun w O=>?_
 have k0:=fun (E:Ctx) (hP:E.P=Tryz.prog)=>G8 hP l 2 (by decide)
 have c0:=l9 l (n:=2) (by decide)
 have d0:=A8 l (n:=2) (by decide)
 have hc1:((nA l:Nat):Int)=1+nx l 2:=by unfold nA;omega
 have z2:=l9 (l1 l) (n:=3) (by decide)
 have z3:=l9 (l2 l) (n:=3) (by decide)
 have z4:=l9 (l3 l) (n:=2) (by decide)
 have z5:=l9 (l4 l) (n:=2) (by decide)
 have z6:=l9 (l5 l) (n:=4) (by decide)
 have y6:=A8 (l5 l) (n:=4) (by decide)
 have hc2:((nW l:Nat):Int)=nx (l1 l) 3:=by unfold nW;omega
 have hc3:((nP l:Nat):Int)=nx (l2 l) 3:=by unfold nP;omega
 have hc4:((nS l:Nat):Int)=(nP l:Int)+nx (l3 l) 2:=by unfold nS;omega
 have hc5:((nG l:Nat):Int)=nx (l4 l) 2:=by unfold nG;omega
 obtain ⟨cc1,cc2,cc3,cc4,cc5⟩:=counts l
 have q1:l1 l=a6O (nA l) (l.drop 1):=rfl
 have q2:l2 l=(l1 l).drop (1+5*nW l):=rfl
 have q3:l3 l=a4X (nP l) ((l2 l).drop 1):=rfl
 have q4:l4 l=(l3 l).drop (1+4*nS l):=rfl
 have q5:l5 l=(l4 l).drop (1+4*nG l):=rfl
 unfold u7
 generalize nA l=cA at *
 generalize nW l=cW at *
 generalize nP l=cP at *
 generalize nS l=cS at *
 generalize nG l=cG at *
 generalize l5 l=L5 at *
 generalize l4 l=L4 at *
 generalize l3 l=L3 at *
 generalize l2 l=L2 at *
 generalize l1 l=L1 at *
 generalize l.drop 1=s0 at *
 generalize nx l 2=x0 at *
 have k1:=fun (E:Ctx) (hP:E.P=Tryz.prog)=>G8 hP L1 3 (by decide)
 have k2:=fun (E:Ctx) (hP:E.P=Tryz.prog)=>G8 hP L2 3 (by decide)
 have k3:=fun (E:Ctx) (hP:E.P=Tryz.prog)=>G8 hP L3 2 (by decide)
 have k4:=fun (E:Ctx) (hP:E.P=Tryz.prog)=>G8 hP L4 2 (by decide)
 have k5:=fun (E:Ctx) (hP:E.P=Tryz.prog)=>G8 hP L5 4 (by decide)
 simp only [u6,ints] at k1 k2 k3 k4 k5
 simp only [a4q,j5,TT,II,OA,OB,MM,LL,VV,FF]
 simp only [u6,ints] at k0 ⊢
 (repeat first|refine uA ?_|(apply uK;focus omega)|simp (disch:=omega) only [go_sem,Nat.reduceBEq,ww]|refine l8.t (j6.lift (k:=1) rfl (k0 _ rfl) rfl rfl rfl) ?_)
 rw [<- hc1]
 refine S.loop (X:=Nat × List Am × List Int) (fun x=>⟨[(2,.bp 0 0),(3,.bp 1 0),(4,.bp 2 0),(17,ints cA),(18,ints x.1)],rsM x.2.2 x.2.1 [] [] [] []⟩)
  (fun x=>x.1<=cA/\x.2.1.length=x.1/\x.2.1++a1m (cA-x.1) x.1 x.2.2=a1m cA 0 s0/\a6O (cA-x.1) x.2.2=a6O cA s0) (fun x=>cA-x.1) (0,[],s0) ⟨c6Z _,rfl,rfl,rfl⟩
  (Ent.trans (Ent.a2X 2 0 69 12 rfl rfl rfl) (Ent.trans (Ent.a2X 2 1 34 1 rfl rfl rfl) (Ent.trans (Ent.a2X 2 2 115 12 rfl rfl rfl) (Ent.trans (Ent.a2X 2 3 151 14 rfl rfl rfl) (Ent.trans (Ent.a2X 2 4 143 13 rfl rfl rfl) (by simp only [rsM,u6,a1q];exact (by (repeat first|refine uA ?_|(refine ⟨?_,?_⟩;focus first|rfl|simp [slot])|rfl|simp)))))))) ?_
 rintro ⟨i,am,ma⟩ ⟨hi,hl,hL,hM⟩
 simp only [rsM,a1q,u6,ints] at hi hl hL hM ⊢
 (repeat first|refine uA ?_|(apply uK;focus omega)|simp (disch:=omega) only [go_sem,Nat.reduceBEq])
 (refine uJ rfl (fun hc=>?_) fun hc=>?_)
 ·have hi':i < cA:=by omega
  rw [show cA-i=(cA-(i+1))+1 by omega,a1m] at hL
  rw [show cA-i=(cA-(i+1))+1 by omega,a6O] at hM
  have ha:=fun (E:Ctx) (hP:E.P=Tryz.prog)=>c5R hP ma i (by omega)
  generalize b1C ma i=A at *
  generalize b2b ma=m' at *
  simp only [u6,Am.c,Am.enc,lks,sb] at ha
  (repeat first|refine uI ?_|(apply uK;focus omega)|simp (disch:=omega) only [go_sem,Nat.reduceBEq])
  refine S.E8 [.gone,.gone,.box 31 [.rv 3,.rv 4,.rv 5,.rv 6,.rv 7,.v (.bool false),.v (.string ⟨#[]⟩),.v (.string ⟨#[]⟩)]] (by simp [Eng.H6,Eng.U6]) ?_
  (repeat first|refine uA ?_|(apply uK;focus first|omega|(intros;simp_all<;>omega))|simp (disch:=omega) only [go_sem,Nat.reduceBEq,Nat.reduceAdd,ww,c6U,hl]|refine l8.t (j6.lift (k:=1) rfl (ha _ rfl) rfl rfl rfl) ?_)
  refine S.next (x:=(i,am,ma)) (i+1,am++[A],m') ⟨by simp only;omega,by simp [hl],by simp only;rw [c7A];exact hL,by simp only;exact hM⟩ (by simp only;omega) (by simp only [c7G,c7i,c7q];exact (by (repeat first|refine uA ?_|(refine ⟨?_,?_⟩;focus first|rfl|simp [slot])|rfl|simp)))
 have hi':i=cA:=by omega
 subst hi'
 rw [Nat.sub_self,a1m,List.append_nil] at hL
 rw [Nat.sub_self,a6O] at hM
 have hm:ma=L1:=by rw [q1];exact hM
 subst hm
 rw [<- hL]
 (repeat first|refine uA ?_|(apply uK;focus omega)|simp (disch:=omega) only [go_sem,Nat.reduceBEq]|refine l8.t (j6.lift (k:=1) rfl (k1 _ rfl) rfl rfl rfl) ?_)
 rw [<- hc2]
 refine S.loop (X:=Nat × List (List Vt) × List Int) (fun x=>⟨[(2,.bp 0 0),(3,.bp 1 0),(4,.bp 2 0),(31,ints cW),(32,ints x.1)],rsM x.2.2 am x.2.1 [] [] []⟩)
  (fun x=>x.1<=cW/\x.2.1.length=x.1/\x.2.1++a2e (cW-x.1) x.2.2=a2e cW (ma.drop 1)/\x.2.2.drop (5*(cW-x.1))=(ma.drop 1).drop (5*cW)) (fun x=>cW-x.1) (0,[],ma.drop 1) ⟨c6Z _,rfl,rfl,rfl⟩ (by simp only [rsM,u6,a1q];exact (by (repeat first|refine uA ?_|(refine ⟨?_,?_⟩;focus first|rfl|simp [slot])|rfl|simp))) ?_
 rintro ⟨i,ws,mw⟩ ⟨hi,hl,hL,hM⟩
 simp only [rsM,a1q,u6,ints] at hi hl hL hM ⊢
 (repeat first|refine uA ?_|(apply uK;focus omega)|simp (disch:=omega) only [go_sem,Nat.reduceBEq])
 (refine uJ rfl (fun hc=>?_) fun hc=>?_)
 ·have hi':i < cW:=by omega
  rw [show cW-i=(cW-(i+1))+1 by omega,a2e] at hL
  have hM2:(mw.drop 5).drop (5*(cW-(i+1)))=(ma.drop 1).drop (5*cW):=by rw [<- hM,List.drop_drop];congr 1;omega
  have n0:=fun (E:Ctx) (hP:E.P=Tryz.prog)=>G8 hP mw 80 (by decide)
  have a0:=l9 mw (n:=80) (by decide)
  have b0:=A8 mw (n:=80) (by decide)
  have n1:=fun (E:Ctx) (hP:E.P=Tryz.prog)=>G8 hP (mw.drop 1) 30 (by decide)
  have a1:=l9 (mw.drop 1) (n:=30) (by decide)
  have b1:=A8 (mw.drop 1) (n:=30) (by decide)
  have n2:=fun (E:Ctx) (hP:E.P=Tryz.prog)=>G8 hP (mw.drop 2) 2 (by decide)
  have a2:=l9 (mw.drop 2) (n:=2) (by decide)
  have b2:=A8 (mw.drop 2) (n:=2) (by decide)
  have n3:=fun (E:Ctx) (hP:E.P=Tryz.prog)=>G8 hP (mw.drop 3) 20 (by decide)
  have a3:=l9 (mw.drop 3) (n:=20) (by decide)
  have b3:=A8 (mw.drop 3) (n:=20) (by decide)
  have n4:=fun (E:Ctx) (hP:E.P=Tryz.prog)=>G8 hP (mw.drop 4) 5 (by decide)
  have a4:=l9 (mw.drop 4) (n:=5) (by decide)
  have b4:=A8 (mw.drop 4) (n:=5) (by decide)
  simp only [List.drop_drop,u6,ints] at n0 n1 n2 n3 n4
  have hwy:-1000<=a1k mw/\a1k mw<=1000:=by unfold a1k;split<;>omega
  have o1:=b9N (nx mw 80-30) (a1k mw) (nx mw 80-30+1+nx (mw.drop 3) 20) (a1k mw+1+nx (mw.drop 4) 5) (by omega) (by omega) (by omega) (by omega)
  unfold b3A at hL
  generalize a5x (nx mw 80-30) (a1k mw) (nx mw 80-30+1+nx (mw.drop 3) 20) (a1k mw+1+nx (mw.drop 4) 5)=R at *
  have hwe:a1k mw=if nx (mw.drop 2) 2=1 then -(12+nx (mw.drop 1) 30)-6 else 12+nx (mw.drop 1) 30:=rfl
  generalize a1k mw=Y at *
  generalize nx mw 80=x1 at *
  generalize nx (mw.drop 1) 30=x2 at *
  generalize nx (mw.drop 2) 2=x3 at *
  generalize nx (mw.drop 3) 20=x4 at *
  generalize nx (mw.drop 4) 5=x5 at *
  simp only [ints,vts] at o1
  (repeat first|refine uA ?_|(apply uK;focus omega)|simp (disch:=omega) only [go_sem,Nat.reduceBEq,ww]|refine l8.t (j6.lift (k:=1) rfl (n0 _ rfl) rfl rfl rfl) ?_|refine l8.t (j6.lift (k:=1) rfl (n1 _ rfl) rfl rfl rfl) ?_|refine l8.t (j6.lift (k:=1) rfl (n2 _ rfl) rfl rfl rfl) ?_)
  refine S.join (Y:=Int) (fun y=>⟨[(2,.bp 0 0),(3,.bp 1 0),(4,.bp 2 0),(6,ints (x1-30)),(7,ints y),(31,ints cW),(32,ints i)],rsM (mw.drop 3) am ws [] [] []⟩) (fun y=>y=Y) ?_ ?_
  ·refine S.cond rfl (fun hc=>?_) (fun hc=>?_)
   ·have hn2:IntKind.i64.wrap (0-(12+x2))=-(12+x2):=by rw [Eng.wrap_i64 (by omega)];omega
    (repeat first|refine uA ?_|(apply uK;focus omega)|simp (disch:=omega) only [go_sem,Nat.reduceBEq,ww,hn2])
    exact S.met (-(12+x2)-6) (by simp at hc;rw [hwe,if_pos hc]) (by simp only [rsM,u6,a1q];exact (by (repeat first|refine uA ?_|(refine ⟨?_,?_⟩;focus first|rfl|simp [slot])|rfl|simp)))
   ·(repeat first|refine uA ?_|(apply uK;focus omega)|simp (disch:=omega) only [go_sem])
    exact S.met (12+x2) (by simp at hc;rw [hwe,if_neg hc]) (by simp only [rsM,u6,a1q];exact (by (repeat first|refine uA ?_|(refine ⟨?_,?_⟩;focus first|rfl|simp [slot])|rfl|simp)))
  rintro y rfl
  simp only [rsM,a1q,u6,ints]
  (repeat first|refine uI ?_|(apply uK;focus omega)|simp (disch:=omega) only [go_sem])
  refine S.E8 [.gone,.gone,.box 31 [.rv 3,.rv 4,.rv 5,.rv 6,.rv 7,.v (.bool false),.v (.string ⟨#[]⟩),.v (.string ⟨#[]⟩)]] (by simp [Eng.H6,Eng.U6]) ?_
  (repeat first|refine uA ?_|(apply uK;focus first|omega|(intros;simp_all<;>omega))|simp (disch:=omega) only [go_sem,Nat.reduceBEq,Nat.reduceAdd,ww,c6U,hl]|refine l8.t (j6.lift (k:=1) rfl (n3 _ rfl) rfl rfl rfl) ?_|refine l8.t (j6.lift (k:=1) rfl (n4 _ rfl) rfl rfl rfl) ?_|(apply uB o1;exact rfl))
  refine S.next (x:=(i,ws,mw)) (i+1,ws++[R],mw.drop 5) ⟨by simp only;omega,by simp [hl],by simp only;rw [c7A];exact hL,by simp only;exact hM2⟩ (by simp only;omega) (by simp only [c7G,c7i,c7q];exact (by (repeat first|refine uA ?_|(refine ⟨?_,?_⟩;focus first|rfl|simp [slot])|rfl|simp)))
 have hi':i=cW:=by omega
 subst hi'
 rw [Nat.sub_self,a2e,List.append_nil] at hL
 rw [Nat.sub_self,Nat.mul_zero,List.drop_zero,List.drop_drop] at hM
 have hm:mw=L2:=by rw [q2];exact hM
 subst hm
 rw [<- hL]
 (repeat first|refine uA ?_|(apply uK;focus omega)|simp (disch:=omega) only [go_sem,Nat.reduceBEq]|refine l8.t (j6.lift (k:=1) rfl (k2 _ rfl) rfl rfl rfl) ?_)
 rw [<- hc3]
 refine S.loop (X:=Nat × List Pt × List Int) (fun x=>⟨[(2,.bp 0 0),(3,.bp 1 0),(4,.bp 2 0),(66,ints cP),(67,ints x.1)],rsM x.2.2 am ws x.2.1 [] []⟩)
  (fun x=>x.1<=cP/\x.2.1.length=x.1/\x.2.1++a0G (cP-x.1) x.1 x.2.2=a0G cP 0 (mw.drop 1)/\a4X (cP-x.1) x.2.2=a4X cP (mw.drop 1)) (fun x=>cP-x.1) (0,[],mw.drop 1) ⟨c6Z _,rfl,rfl,rfl⟩ (by simp only [rsM,u6,a1q];exact (by (repeat first|refine uA ?_|(refine ⟨?_,?_⟩;focus first|rfl|simp [slot])|rfl|simp))) ?_
 rintro ⟨i,ps,mp⟩ ⟨hi,hl,hL,hM⟩
 simp only [rsM,a1q,u6,ints] at hi hl hL hM ⊢
 (repeat first|refine uA ?_|(apply uK;focus omega)|simp (disch:=omega) only [go_sem,Nat.reduceBEq])
 (refine uJ rfl (fun hc=>?_) fun hc=>?_)
 ·have hi':i < cP:=by omega
  rw [show cP-i=(cP-(i+1))+1 by omega,a0G] at hL
  rw [show cP-i=(cP-(i+1))+1 by omega,a4X] at hM
  have hp:=fun (E:Ctx) (hP:E.P=Tryz.prog)=>c5L hP mp
  have hnm:=b9V i (by omega)
  have o1:=V8 0 0 (by decide) (by decide)
  have o2:=a1j 0 1 (by decide) (by decide)
  unfold c2I at hL
  unfold atV at o1
  generalize (a1K mp).1=sh at *
  generalize (a1K mp).2=m' at *
  generalize Q 0 4=qa at *
  generalize Q 0 1=qb at *
  generalize a4u i=nm at *
  simp only [u6,vts,Vt.c,Vt.enc,rc,sb,ints] at hp o1 o2
  (repeat first|refine uI ?_|(apply uK;focus omega)|simp (disch:=omega) only [go_sem,Nat.reduceBEq])
  refine S.E8 [.gone,.gone,.box 31 [.rv 3,.rv 4,.rv 5,.rv 6,.rv 7,.v (.bool false),.v (.string ⟨#[]⟩),.v (.string ⟨#[]⟩)]] (by simp [Eng.H6,Eng.U6]) ?_
  (repeat first|refine uA ?_|(apply uK;focus first|omega|(intros;simp_all<;>omega))|simp (disch:=omega) only [go_sem,Nat.reduceBEq,Nat.reduceAdd,ww,c6U,hl,hnm,c7a]|refine l8.t (j6.lift (k:=1) rfl (hp _ rfl) rfl rfl rfl) ?_|(apply uB o1;exact rfl)|(apply uB o2;exact rfl))
  refine S.next (x:=(i,ps,mp)) (i+1,ps++[⟨nm,sh,⟨qa,qa,false,qb⟩⟩],m') ⟨by simp only;omega,by simp [hl],by simp only;rw [c7A];exact hL,by simp only;exact hM⟩ (by simp only;omega) (by simp only [c7G,c7i,c7q];exact (by (repeat first|refine uA ?_|(refine ⟨?_,?_⟩;focus first|rfl|simp [slot])|rfl|simp)))
 have hi':i=cP:=by omega
 subst hi'
 rw [Nat.sub_self,a0G,List.append_nil] at hL
 rw [Nat.sub_self,a4X] at hM
 have hm:mp=L3:=by rw [q3];exact hM
 subst hm
 rw [<- hL]
 (repeat first|refine uI ?_|(apply uK;focus omega)|simp (disch:=omega) only [go_sem,Nat.reduceBEq,ww])
 refine S.E8 [.gone,.gone,.box 31 [.rv 3,.rv 4,.rv 5,.rv 6,.rv 7,.v (.bool false),.v (.string ⟨#[]⟩),.v (.string ⟨#[]⟩)],.gone,.gone,.row 115 12 (ps.map Pt.enc)] (by simp [Eng.H6,Eng.U6]) ?_
 (repeat first|refine uA ?_|(apply uK;focus omega)|simp (disch:=omega) only [go_sem,Nat.reduceBEq,ww,c6U,hl]|refine l8.t (j6.lift (k:=1) rfl (k3 _ rfl) rfl rfl rfl) ?_)
 rw [<- hc4]
 refine S.loop (X:=Nat × List Sl × List Int) (fun x=>⟨[(2,.bp 0 0),(3,.bp 1 0),(4,.bp 2 0),(92,ints cS),(93,ints x.1)],rsM x.2.2 am ws ps x.2.1 []⟩)
  (fun x=>x.1<=cS/\x.2.1.length=x.1/\x.2.1++a0H (cS-x.1) x.1 x.2.2=a0H cS 0 (mp.drop 1)/\x.2.2.drop (4*(cS-x.1))=(mp.drop 1).drop (4*cS)) (fun x=>cS-x.1) (0,[],mp.drop 1) ⟨c6Z _,rfl,rfl,rfl⟩ (by simp only [rsM,u6,a1q];exact (by (repeat first|refine uA ?_|(refine ⟨?_,?_⟩;focus first|rfl|simp [slot])|rfl|simp))) ?_
 rintro ⟨i,ss,ms⟩ ⟨hi,hl,hL,hM⟩
 simp only [rsM,a1q,u6,ints] at hi hl hL hM ⊢
 (repeat first|refine uA ?_|(apply uK;focus omega)|simp (disch:=omega) only [go_sem,Nat.reduceBEq])
 (refine uJ rfl (fun hc=>?_) fun hc=>?_)
 ·have hi':i < cS:=by omega
  rw [show cS-i=(cS-(i+1))+1 by omega,a0H] at hL
  have hM2:(ms.drop 4).drop (4*(cS-(i+1)))=(mp.drop 1).drop (4*cS):=by rw [<- hM,List.drop_drop];congr 1;omega
  have n0:=fun (E:Ctx) (hP:E.P=Tryz.prog)=>G8 hP ms 40 (by decide)
  have a0:=l9 ms (n:=40) (by decide)
  have b0:=A8 ms (n:=40) (by decide)
  have n1:=fun (E:Ctx) (hP:E.P=Tryz.prog)=>G8 hP (ms.drop 1) 24 (by decide)
  have a1:=l9 (ms.drop 1) (n:=24) (by decide)
  have b1:=A8 (ms.drop 1) (n:=24) (by decide)
  have n2:=fun (E:Ctx) (hP:E.P=Tryz.prog)=>G8 hP (ms.drop 2) 5 (by decide)
  have a2:=l9 (ms.drop 2) (n:=5) (by decide)
  have b2:=A8 (ms.drop 2) (n:=5) (by decide)
  have n3:=fun (E:Ctx) (hP:E.P=Tryz.prog)=>G8 hP (ms.drop 3) 20 (by decide)
  have a3:=l9 (ms.drop 3) (n:=20) (by decide)
  have b3:=A8 (ms.drop 3) (n:=20) (by decide)
  simp only [List.drop_drop,u6,ints] at n0 n1 n2 n3
  have hnm:=b9u i (by omega)
  have o1:=V8 (nx ms 40-20) (nx (ms.drop 1) 24-12) (by omega) (by omega)
  have o2:=a1j (nx (ms.drop 2) 5-2) 2 (by omega) (by decide)
  have o3:=a1j 1 (8+nx (ms.drop 3) 20) (by decide) (by omega)
  unfold b8r at hL
  unfold atV at o1
  generalize Q (nx ms 40-20) 4=qa at *
  generalize Q (nx (ms.drop 1) 24-12) 4=qb at *
  generalize Q (nx (ms.drop 2) 5-2) 2=qc at *
  generalize Q 1 (8+nx (ms.drop 3) 20)=qd at *
  generalize a5O i=nm at *
  generalize nx ms 40=x1 at *
  generalize nx (ms.drop 1) 24=x2 at *
  generalize nx (ms.drop 2) 5=x3 at *
  generalize nx (ms.drop 3) 20=x4 at *
  simp only [Vt.c,Vt.enc,rc,sb,ints] at o1 o2 o3
  (repeat first|refine uI ?_|(apply uK;focus omega)|simp (disch:=omega) only [go_sem,Nat.reduceBEq])
  refine S.E8 [.gone,.gone,.box 31 [.rv 3,.rv 4,.rv 5,.rv 6,.rv 7,.v (.bool false),.v (.string ⟨#[]⟩),.v (.string ⟨#[]⟩)]] (by simp [Eng.H6,Eng.U6]) ?_
  (repeat first|refine uA ?_|(apply uK;focus first|omega|(intros;simp_all<;>omega))|simp (disch:=omega) only [go_sem,Nat.reduceBEq,Nat.reduceAdd,ww,c6U,hl,hnm,c7a]|refine l8.t (j6.lift (k:=1) rfl (n0 _ rfl) rfl rfl rfl) ?_|refine l8.t (j6.lift (k:=1) rfl (n1 _ rfl) rfl rfl rfl) ?_|refine l8.t (j6.lift (k:=1) rfl (n2 _ rfl) rfl rfl rfl) ?_|refine l8.t (j6.lift (k:=1) rfl (n3 _ rfl) rfl rfl rfl) ?_|(apply uB o1;exact rfl)|(apply uB o2;exact rfl)|(apply uB o3;exact rfl))
  refine S.next (x:=(i,ss,ms)) (i+1,ss++[⟨nm,⟨qa,qb,false,qc⟩,qd⟩],ms.drop 4) ⟨by simp only;omega,by simp [hl],by simp only;rw [c7A];exact hL,by simp only;exact hM2⟩ (by simp only;omega) (by simp only [c7G,c7i,c7q];exact (by (repeat first|refine uA ?_|(refine ⟨?_,?_⟩;focus first|rfl|simp [slot])|rfl|simp)))
 have hi':i=cS:=by omega
 subst hi'
 rw [Nat.sub_self,a0H,List.append_nil] at hL
 rw [Nat.sub_self,Nat.mul_zero,List.drop_zero,List.drop_drop] at hM
 have hm:ms=L4:=by rw [q4];exact hM
 subst hm
 rw [<- hL]
 (repeat first|refine uA ?_|(apply uK;focus omega)|simp (disch:=omega) only [go_sem,Nat.reduceBEq]|refine l8.t (j6.lift (k:=1) rfl (k4 _ rfl) rfl rfl rfl) ?_)
 rw [<- hc5]
 refine S.loop (X:=Nat × List Gt × List Int) (fun x=>⟨[(2,.bp 0 0),(3,.bp 1 0),(4,.bp 2 0),(125,ints cG),(126,ints x.1)],rsM x.2.2 am ws ps ss x.2.1⟩)
  (fun x=>x.1<=cG/\x.2.1.length=x.1/\x.2.1++a0I (cG-x.1) x.2.2=a0I cG (ms.drop 1)/\x.2.2.drop (4*(cG-x.1))=(ms.drop 1).drop (4*cG)) (fun x=>cG-x.1) (0,[],ms.drop 1) ⟨c6Z _,rfl,rfl,rfl⟩ (by simp only [rsM,u6,a1q];exact (by (repeat first|refine uA ?_|(refine ⟨?_,?_⟩;focus first|rfl|simp [slot])|rfl|simp))) ?_
 rintro ⟨i,gs,mg⟩ ⟨hi,hl,hL,hM⟩
 simp only [rsM,a1q,u6,ints] at hi hl hL hM ⊢
 (repeat first|refine uA ?_|(apply uK;focus omega)|simp (disch:=omega) only [go_sem,Nat.reduceBEq])
 (refine uJ rfl (fun hc=>?_) fun hc=>?_)
 ·have hi':i < cG:=by omega
  rw [show cG-i=(cG-(i+1))+1 by omega,a0I] at hL
  have hM2:(mg.drop 4).drop (4*(cG-(i+1)))=(ms.drop 1).drop (4*cG):=by rw [<- hM,List.drop_drop];congr 1;omega
  have n0:=fun (E:Ctx) (hP:E.P=Tryz.prog)=>G8 hP mg 60 (by decide)
  have a0:=l9 mg (n:=60) (by decide)
  have b0:=A8 mg (n:=60) (by decide)
  have n1:=fun (E:Ctx) (hP:E.P=Tryz.prog)=>G8 hP (mg.drop 1) 60 (by decide)
  have a1:=l9 (mg.drop 1) (n:=60) (by decide)
  have b1:=A8 (mg.drop 1) (n:=60) (by decide)
  have n2:=fun (E:Ctx) (hP:E.P=Tryz.prog)=>G8 hP (mg.drop 2) 12 (by decide)
  have a2:=l9 (mg.drop 2) (n:=12) (by decide)
  have b2:=A8 (mg.drop 2) (n:=12) (by decide)
  have n3:=fun (E:Ctx) (hP:E.P=Tryz.prog)=>G8 hP (mg.drop 3) 12 (by decide)
  have a3:=l9 (mg.drop 3) (n:=12) (by decide)
  have b3:=A8 (mg.drop 3) (n:=12) (by decide)
  simp only [List.drop_drop,u6,ints] at n0 n1 n2 n3
  have o1:=V8 (nx mg 60-30) (nx (mg.drop 1) 60-30) (by omega) (by omega)
  have o2:=V8 (nx mg 60-30+nx (mg.drop 2) 12) (nx (mg.drop 1) 60-30+nx (mg.drop 3) 12) (by omega) (by omega)
  unfold b8s at hL
  generalize atV (nx mg 60-30) (nx (mg.drop 1) 60-30)=va at *
  generalize atV (nx mg 60-30+nx (mg.drop 2) 12) (nx (mg.drop 1) 60-30+nx (mg.drop 3) 12)=vb at *
  generalize nx mg 60=x1 at *
  generalize nx (mg.drop 1) 60=x2 at *
  generalize nx (mg.drop 2) 12=x3 at *
  generalize nx (mg.drop 3) 12=x4 at *
  simp only [Vt.c,Vt.enc,sb,ints] at o1 o2
  (repeat first|refine uI ?_|(apply uK;focus omega)|simp (disch:=omega) only [go_sem,Nat.reduceBEq,ww]|refine l8.t (j6.lift (k:=1) rfl (n0 _ rfl) rfl rfl rfl) ?_|refine l8.t (j6.lift (k:=1) rfl (n1 _ rfl) rfl rfl rfl) ?_)
  refine S.E8 [.gone,.gone,.box 31 [.rv 3,.rv 4,.rv 5,.rv 6,.rv 7,.v (.bool false),.v (.string ⟨#[]⟩),.v (.string ⟨#[]⟩)]] (by simp [Eng.H6,Eng.U6]) ?_
  (repeat first|refine uA ?_|(apply uK;focus first|omega|(intros;simp_all<;>omega))|simp (disch:=omega) only [go_sem,Nat.reduceBEq,Nat.reduceAdd,ww,c6U,hl]|refine l8.t (j6.lift (k:=1) rfl (n2 _ rfl) rfl rfl rfl) ?_|refine l8.t (j6.lift (k:=1) rfl (n3 _ rfl) rfl rfl rfl) ?_|(apply uB o1;exact rfl)|(apply uB o2;exact rfl))
  refine S.next (x:=(i,gs,mg)) (i+1,gs++[⟨[100,111,111,114],va,vb⟩],mg.drop 4) ⟨by simp only;omega,by simp [hl],by simp only;rw [c7A];exact hL,by simp only;exact hM2⟩ (by simp only;omega) (by simp only [c7G,c7i,c7q];exact (by (repeat first|refine uA ?_|(refine ⟨?_,?_⟩;focus first|rfl|simp [slot])|rfl|simp)))
 have hi':i=cG:=by omega
 subst hi'
 rw [Nat.sub_self,a0I,List.append_nil] at hL
 rw [Nat.sub_self,Nat.mul_zero,List.drop_zero,List.drop_drop] at hM
 have hm:mg=L5:=by rw [q5];exact hM
 subst hm
 rw [<- hL]
 have o1:=a1j (nx mg 4) 8 (by omega) (by decide)
 generalize Q (nx mg 4) 8=qw at *
 generalize nx mg 4=x6 at *
 simp only [Wk.c,Wk.enc,ams,wls,pts,sls,gts,rc,sb,ints] at o1 ⊢
 (repeat first|refine uA ?_|(apply uK;focus omega)|simp (disch:=omega) only [go_sem,Nat.reduceBEq]|refine l8.t (j6.lift (k:=1) rfl (k5 _ rfl) rfl rfl rfl) ?_|(apply uB o1;exact rfl))
 (refine S.done ?_;simp only [p8,r9,go_sem,Nat.reduceBEq,Nat.reduceAdd,Nat.reduceLeDiff];(repeat (refine ⟨?_,?_⟩;focus first|trivial|omega|simp));exact j3.out rfl (Imp.agg (by (repeat' (first|exact j4.nil|exact Imp.refl rfl|exact Imp.frz rfl rfl rfl|exact Imp.F5|refine j4.cons ?_ ?_)))) rfl)
def b7M:Wk:=⟨[],[],[],[],[],⟨false,[],[]⟩⟩
theorem a7X {w:World} {O:Nat->Prop} {sz:Nat}:Fz w O (.sl sz []) (.slice none 0 0):=by
 simp only [Fz]
 exact ⟨none,0,rfl,c7b _,c6Z _,fun h=>absurd h (by simp)⟩
theorem c1Z:FZ 36 [.agg [.v (.slice none 0 0),.v (.slice none 0 0),.v (.slice none 0 0),.v (.slice none 0 0),.v (.slice none 0 0),.v (.bool false),.v (.string ⟨#[]⟩),.v (.string ⟨#[]⟩)]] (ints 4):=by
 have h:=a9z b7M ⟨⟨c6Z _,fun x hx=>(by cases hx)⟩,⟨c6Z _,fun x hx=>(by cases hx)⟩,⟨c6Z _,fun x hx=>(by cases hx)⟩,⟨c6Z _,fun x hx=>(by cases hx)⟩,⟨c6Z _,fun x hx=>(by cases hx)⟩,⟨c6Z _,c6Z _⟩⟩
 have he:a0c b7M=4:=rfl
 rw [he] at h
 intro O w vs hw hO hA
 refine h O w vs hw hO ?_
 simp only [FzL,Fz] at hA
 obtain ⟨y,ys,rfl,⟨us,⟨y1,r1,rfl,rfl,y2,r2,rfl,rfl,y3,r3,rfl,rfl,y4,r4,rfl,rfl,y5,r5,rfl,rfl,y6,r6,rfl,rfl,y7,r7,rfl,rfl,y8,r8,rfl,rfl,rfl⟩,rfl⟩,rfl⟩:=hA
 refine ⟨_,_,rfl,?_,rfl⟩
 simp only [Wk.c,Wk.enc,b7M,Fz]
 exact ⟨_,⟨_,_,rfl,a7X,_,_,rfl,a7X,_,_,rfl,a7X,_,_,rfl,a7X,_,_,rfl,a7X,_,_,rfl,by simp only [Fz],_,_,rfl,by simp only [sb,Fz];rfl,_,_,rfl,by simp only [sb,Fz];rfl,rfl⟩,rfl⟩
set_option maxHeartbeats 16000000
theorem c3u {E:Ctx} (hP:E.P=Tryz.prog) (ht0:Tz E) (l:List Int) :
  j6 E [] 13 [u6 l] (.tup [(u7 l).c,.agg [ints 0,.rv 6,.rv 7,.v (.slice none 0 0),.rv 8],.v (.bool true)]) [.gone,.gone,.gone,.gone,.gone,.gone,.row 49 4 ((D8 (u7 l)).arms.map Ast.enc),.row 66 10 ((D8 (u7 l)).parts.map Fr.enc),.row 4 1 ((D8 (u7 l)).gates.map fun b=>[.v (.bool b)]),.gone] []:=by
 obtain ⟨P,eff',N,w0,own0,av0,nu0,pk0⟩:=E
 simp only at hP
 subst hP
 refine j6.ofT (eff:=eff) ht0 a8m a8n (by exact c7j rfl) fun w' own av ν hν ht=>?_
 have hν0:ν.length<=0:=by rw [hν];exact c7b _
 have hk:=a7j l
 obtain ⟨ha,hs⟩:=a3N l
 have hb:=b8X l
 have h1:=c4c l
 have h2:=fun (E:Ctx) (hP:E.P=Tryz.prog) (ht:Tz E)=>c3g hP ht (u7 l) hb hk
 have h3:=b3N (u7 l) (D8 (u7 l)) hb (c0f hb ha hs)
 rw [a6P hk ha hs] at h3
 have h4:=c1Z
 have e1:(D8 (u7 l)).arms.length=(u7 l).arms.length:=by simp [D8]
 have e2:(D8 (u7 l)).parts.length=(u7 l).parts.length:=by simp [D8]
 have e3:(D8 (u7 l)).people=[]:=rfl
 have e4:(D8 (u7 l)).tick=0:=rfl
 generalize D8 (u7 l)=s at *
 generalize u7 l=w at *
 obtain ⟨arms,walls,parts,slots,gates,walk⟩:=w
 obtain ⟨tick,sarms,sparts,people,sgates⟩:=s
 simp only at e1 e2 e3 e4
 subst e3 e4
 have d1:decide ((sarms.length:Int)=(arms.length:Int))=true:=decide_eq_true (by omega)
 have d2:decide ((sparts.length:Int)=(parts.length:Int))=true:=decide_eq_true (by omega)
 simp only [a4b,j5,TT,II,OA,OB,OC,MM,LL,LG,VG,FG]
 simp only [Wk.c,Wk.enc,Stt.c,Stt.enc,ams,wls,pts,sls,gts,K7,frs,vts,bls,sb,ints,u6,c7q] at h1 h2 h3 h4 ⊢
 (repeat first|refine uI ?_|(refine uK ?_ ?_;focus first|omega|(intros;simp_all<;>omega))|simp (disch:=omega) only [go_sem,Nat.reduceBEq,Nat.reduceAdd,C.sh,C.shL,c7m,List.length_nil]|refine l8.t (j6.pre (h2 _ rfl ht) rfl rfl rfl) ?_|(refine uB h1 ?_ ?_;exact rfl))
 refine S.E8 [.gone,.gone,.gone,.gone,.gone,.gone,.gone,.gone,.gone,.box 37 [.v (.int .i64 0),.rv 6,.rv 7,.v (.slice none 0 0),.rv 8]] (by simp [Eng.H6,Eng.U6]) ?_
 (repeat first|refine uA ?_|(refine uK ?_ ?_;focus first|omega|(intros;simp_all<;>omega))|simp (disch:=omega) only [go_sem,Nat.reduceBEq,Nat.reduceAdd,c6U,e1,e2,decide_true,Bool.and_self]|(refine uD h4 ?_ ?_ ?_;exact ht;exact rfl)|(refine uE h3 ?_ ?_ ?_ ?_;exact ht;exact rfl;focus (repeat' first|exact j4.nil|exact Imp.refl rfl|exact Imp.F5|exact Imp.fbx rfl rfl (j4.refl rfl) rfl rfl|refine Imp.clo ?_|exact Imp.frz rfl rfl rfl|(refine Imp.U3 rfl rfl ?_ ?_;(focus ((try simp only [c7e,H6,c6U,e1,e2,d1,d2,decide_true,Bool.and_self]);omega));(focus first|rfl|assumption))|refine Imp.agg ?_|refine j4.cons ?_ ?_);done))
 (refine S.done ?_;simp only [p8,r9,go_sem,Nat.reduceBEq,Nat.reduceAdd,Nat.reduceLeDiff];(repeat (refine ⟨?_,?_⟩;focus first|trivial|omega|simp));exact j3.K5 (Imp.tup (by (repeat' (first|exact j4.nil|exact Imp.refl rfl|exact Imp.frz rfl rfl rfl|exact Imp.F5|refine Imp.agg ?_|refine j4.cons ?_ ?_)))) (by (repeat first|refine uA ?_|(refine ⟨?_,?_⟩;focus first|rfl|simp [slot])|rfl|simp)) (c6X hν0 (by simp)))
theorem b0P {n:Int} (h:-9223372036854775808<=n/\n<=9223372036854775807):IntKind.i64.wrap n=n:=by
 rw [show IntKind.i64.wrap n=if n % 18446744073709551616 >= 9223372036854775808 then n % 18446744073709551616-18446744073709551616 else n % 18446744073709551616 by simp [IntKind.wrap,IntKind.signed,IntKind.bits]]
 split<;>omega
theorem b1i (a:Nm.Rt) (h:l6 a=true):y9 Tryz.prog 98 [rc a] (.tup [ints (nuI a),ints (deI a)]):=by
 refine kS Tryz.func98 (by cbv) (by rfl) fun w O=>?_
 have hI:=b1t h
 have hn:a.num.length<=3:=(U9 h).1
 have hd:a.den.length<=3:=(U9 h).2
 unfold nuI deI Nm.sgn at *
 obtain ⟨neg,num,den⟩:=a
 simp only at hI hn hd ⊢
 simp only [j5,TT,II,OA,MM,VV,FF]
 simp only [rc,sb,ints]
 (repeat first|refine uA ?_|(apply uK;focus omega)|simp (disch:=omega) only [go_sem,Nat.reduceBEq,F4])
 refine S.loop (X:=Nat) (fun i=>⟨[(1,.bp 0 0),(4,ints (Nm.val (num.take i))),(5,ints 0),(12,.sl 1 (num.map F9)),(13,ints num.length),(14,ints i)],[.box 29 [.v (.bool neg),sb num,sb den]]⟩) (fun i=>i<=num.length) (fun i=>num.length-i) 0 (c6Z _) (by (repeat first|refine uA ?_|(refine ⟨?_,?_⟩;focus first|rfl|simp [slot])|rfl|simp)) ?_
 intro i hi
 simp only [sb,ints] at hi ⊢
 have hb:=b4s hn i
 (repeat first|refine uA ?_|(apply uK;focus omega)|simp (disch:=omega) only [go_sem,Nat.reduceBEq])
 (refine uJ rfl (fun hc=>?_) fun hc=>?_)
 ·have hi':i < num.length:=by omega
  have hgi:=c6T hi'
  have hap:num.take (i+1)=num.take i++[num[i]]:=c7L hi'
  have hv:=a4V (num.take i) num[i]
  rw [<- hap] at hv
  generalize num[i]=c at hgi hv
  have hc8:=UInt8.toNat_lt c
  have w1:IntKind.i64.wrap (c.toNat:Int)=(c.toNat:Int):=b0P (by omega)
  have w2:IntKind.i64.wrap (256*(Nm.val (num.take i):Int)+(c.toNat:Int))=256*(Nm.val (num.take i):Int)+(c.toNat:Int):=b0P (by omega)
  (repeat first|refine uA ?_|(apply uK;focus omega)|simp (disch:=omega) only [go_sem,Nat.reduceBEq,ww,hgi,c6V,c6U,F9,c7a,w1,w2])
  refine S.next (i+1) (by omega) (by omega) (by rw [hv];exact (by (repeat first|refine uA ?_|(refine ⟨?_,?_⟩;focus first|rfl|simp [slot])|rfl|simp)))
 have hi':i=num.length:=by omega
 subst hi'
 rw [c7l]
 (repeat first|refine uA ?_|(apply uK;focus omega)|simp (disch:=omega) only [go_sem,Nat.reduceBEq,F4])
 refine S.loop (X:=Nat) (fun i=>⟨[(1,.bp 0 0),(4,ints (Nm.val num)),(5,ints (Nm.val (den.take i))),(26,.sl 1 (den.map F9)),(27,ints den.length),(28,ints i)],[.box 29 [.v (.bool neg),sb num,sb den]]⟩) (fun i=>i<=den.length) (fun i=>den.length-i) 0 (c6Z _) (by (repeat first|refine uA ?_|(refine ⟨?_,?_⟩;focus first|rfl|simp [slot])|rfl|simp)) ?_
 intro i hi
 simp only [sb,ints] at hi ⊢
 have hb:=b4s hd i
 (repeat first|refine uA ?_|(apply uK;focus omega)|simp (disch:=omega) only [go_sem,Nat.reduceBEq])
 (refine uJ rfl (fun hc=>?_) fun hc=>?_)
 ·have hi':i < den.length:=by omega
  have hgi:=c6T hi'
  have hap:den.take (i+1)=den.take i++[den[i]]:=c7L hi'
  have hv:=a4V (den.take i) den[i]
  rw [<- hap] at hv
  generalize den[i]=c at hgi hv
  have hc8:=UInt8.toNat_lt c
  have w1:IntKind.i64.wrap (c.toNat:Int)=(c.toNat:Int):=b0P (by omega)
  have w2:IntKind.i64.wrap (256*(Nm.val (den.take i):Int)+(c.toNat:Int))=256*(Nm.val (den.take i):Int)+(c.toNat:Int):=b0P (by omega)
  (repeat first|refine uA ?_|(apply uK;focus omega)|simp (disch:=omega) only [go_sem,Nat.reduceBEq,ww,hgi,c6V,c6U,F9,c7a,w1,w2])
  refine S.next (i+1) (by omega) (by omega) (by rw [hv];exact (by (repeat first|refine uA ?_|(refine ⟨?_,?_⟩;focus first|rfl|simp [slot])|rfl|simp)))
 have hi':i=den.length:=by omega
 subst hi'
 rw [c7l]
 (repeat first|refine uA ?_|(apply uK;focus omega)|simp (disch:=omega) only [go_sem,Nat.reduceBEq])
 refine S.cond rfl (fun hc=>?_) (fun hc=>?_)
 ·subst hc
  rw [if_pos rfl] at hI ⊢
  rw [show -(Nm.val num:Int)=0-(Nm.val num:Int) by omega,show max (Nm.val den:Int) 1=if (Nm.val den:Int) < 1 then 1 else (Nm.val den:Int) by split<;>omega]
  (repeat first|refine uA ?_|(apply uK;focus omega)|simp (disch:=omega) only [go_sem,Nat.reduceBEq,ww])
  (refine S.done ?_;simp only [p8,go_sem,Nat.reduceBEq,Nat.reduceAdd];exact j3.out rfl (Imp.tup (by (repeat' (first|exact j4.nil|exact Imp.refl rfl|exact Imp.frz rfl rfl rfl|exact Imp.F5|refine Imp.agg ?_|refine j4.cons ?_ ?_)))) rfl)
 ·subst hc
  rw [if_neg (by decide)] at hI ⊢
  rw [show max (Nm.val den:Int) 1=if (Nm.val den:Int) < 1 then 1 else (Nm.val den:Int) by split<;>omega]
  (repeat first|refine uA ?_|(apply uK;focus omega)|simp (disch:=omega) only [go_sem,Nat.reduceBEq])
  (refine S.done ?_;simp only [p8,go_sem,Nat.reduceBEq,Nat.reduceAdd];exact j3.out rfl (Imp.tup (by (repeat' (first|exact j4.nil|exact Imp.refl rfl|exact Imp.frz rfl rfl rfl|exact Imp.F5|refine Imp.agg ?_|refine j4.cons ?_ ?_)))) rfl)
def a5h:N9:=⟨58,[.tmp 4],.seq (.reg [OA 2 (.box 69 (TT 0)),OA 4 (.mv (.const (.slice none 0 0)))]) (.seq (.reg [OA 5 (.mv (.const (.slice none 0 0)))]) (.seq (.seq (.reg [FF 13 11 2,VV 14 13,OA 15 (.len false (TT 14)),OA 16 (.mv (II
 0))]) (.block 0 (.loop (.seq (.reg [OA 17 (.bin .lss (TT 16) (TT 15))]) (.seq (.cond (TT 17) .skip (.exit 0)) (.seq (.block 1 (.seq (.reg [OA 18 (.q8 16 (TT 14) (TT 16)),LL 19 16 18,OA 7 (.alloc 74 [.bool false,.string
 ⟨#[]⟩,.string ⟨#[]⟩,.bool false,.string ⟨#[]⟩,.string ⟨#[]⟩,.bool false,.string ⟨#[]⟩,.string ⟨#[]⟩,.bool false,.string ⟨#[]⟩,.string ⟨#[]⟩,.bool false,.string ⟨#[]⟩,.string ⟨#[]⟩,.slice none 0 0]),OB (.store 16
 (TT 7) (TT 19))]) (.seq (.reg [FF 21 3 7,LL 22 3 21,OA 23 (.call 98 [TT 22]),MM 20 23,OA 24 (.ext (TT 20) 0),OA 25 (.ext (TT 20) 1),MM 8 24,MM 9 25]) (.seq (.reg [FF 27 6 7,LL 28 3 27,OA 29 (.call 98 [TT 28]),MM 26 29,
 OA 30 (.ext (TT 26) 0),OA 31 (.ext (TT 26) 1),MM 10 30,MM 11 31]) (.seq (.reg [MM 32 1,OA 33 (.call 33 [TT 32,II 9]),MM 12 33]) (.reg [MM 34 5,MM 35 8,OA 36 (.bin .mul (II 8) (TT 35)),MM 37 11,OA 38 (.bin .mul (TT 36)
 (TT 37)),MM 39 10,MM 40 9,OA 41 (.bin .mul (TT 39) (TT 40)),MM 42 8,MM 43 11,OA 44 (.bin .mul (TT 42) (TT 43)),OA 45 (.bin .sub (TT 41) (TT 44)),MM 46 12,OA 47 (.bin .mul (TT 45) (TT 46)),OA 48 (.bin .add (TT 38) (TT
 47)),MM 49 9,OA 50 (.bin .mul (II 8) (TT 49)),MM 51 11,OA 52 (.bin .mul (TT 50) (TT 51)),OA 53 (.call 78 [TT 48,TT 52]),OA 54 (.bsl 29 3 1 [.bool false,.string ⟨#[]⟩,.string ⟨#[]⟩] [(0,TT 53)]),OA 55 (.app 29 3 40 (TT
 34) (TT 54)),MM 5 55])))))) (.reg [OA 56 (.bin .add (TT 16) (II 1)),MM 16 56]))))))) (.seq (.reg [MM 57 5,MM 4 57]) .ret)))⟩
theorem a9I:J5 eff Tryz.prog Tryz.f37=some a5h:=by kernel_rfl
theorem a9O:Tryz.prog.funcs[37]?=some Tryz.f37:=Tryz.func37
theorem c4G {E:Ctx} (hP:E.P=Tryz.prog) (a:Am) (l:List Int) (ha:J2 a=0) :
  j6 E [.box 95 [u6 l]] 37 [a.c,.bp 0 0] (rts (O6 a.links l)) [.box 95 [u6 (l.drop a.links.length)]] []:=by
 obtain ⟨P,eff',N,w0,own0,av0,nu0,pk0⟩:=E
 simp only at hP
 subst hP
 refine j6.of (eff:=eff) a9O a9I (by exact c7j rfl) fun w own av ν hν=>?_
 have hν0:ν.length<=1:=by rw [hν];exact c7b _
 have hl:=(O8 ha).2
 have h3:=(Z0 ha).2
 obtain ⟨name,base,links⟩:=a
 simp only at hl h3 ⊢
 simp only [a5h,j5,TT,II,OA,OB,MM,LL,VV,FF]
 simp only [Am.c,Am.enc,lks,rts,u6,sb]
 (repeat first|refine uA ?_|(apply uK;focus omega)|simp (disch:=omega) only [go_sem,Nat.reduceBEq,c6U])
 refine S.loop (X:=Nat) (fun i=>⟨[(1,.bp 0 0),(5,.rv 2),(14,lks links),(15,ints links.length),(16,ints i)],[.box 95 [u6 (l.drop i)],.gone,.row 29 3 ((O6 (links.take i) l).map rcs)]⟩) (fun i=>i<=links.length) (fun i=>links.length-i) 0 (c6Z _)
  (Ent.trans (Ent.pack 5 29 3 rfl) (by (repeat first|refine uA ?_|(refine ⟨?_,?_⟩;focus first|rfl|simp [slot])|rfl|simp|exact c6X hν0 (by simp)))) ?_
 intro i hi
 simp only [lks,u6,ints]
 (repeat first|refine uA ?_|(apply uK;focus omega)|simp (disch:=omega) only [go_sem,Nat.reduceBEq])
 (refine uJ rfl (fun hc=>?_) fun hc=>?_)
 ·have hi':i < links.length:=by omega
  have hgi:=c6T hi'
  have hsn:=b0y links l i _ hgi
  have hln:(O6 (links.take i) l).length=i:=by rw [a1E,c7d];omega
  have hx:=hl _ (c6W hgi)
  generalize links[i]=x at hgi hsn hx
  obtain ⟨s1,s2⟩:=b1X hx
  have k:=fun (E:Ctx) (hP:E.P=Tryz.prog)=>G8 hP (l.drop i) 9 (by decide)
  have f1:=b1i x.low s1
  have f2:=b1i x.high s2
  have hb:=b1y s1 s2 (nx9 (l.drop i))
  have hk:=nx9 (l.drop i)
  have hcr:a3K x (nx (l.drop i) 9)=Q (8*nuI x.low*deI x.high+(nuI x.high*deI x.low-nuI x.low*deI x.high)*nx (l.drop i) 9) (8*deI x.low*deI x.high):=rfl
  obtain ⟨b1,b2,b3,b4,b5,b6,b7,b8,b9,b10⟩:=hb
  have o:=a1j (8*nuI x.low*deI x.high+(nuI x.high*deI x.low-nuI x.low*deI x.high)*nx (l.drop i) 9) (8*deI x.low*deI x.high) (by omega) (by omega)
  rw [<- hcr] at o
  rw [List.drop_drop] at k
  generalize a3K x (nx (l.drop i) 9)=r at *
  generalize nx (l.drop i) 9=y at *
  generalize nuI x.low=m1 at *
  generalize nuI x.high=m2 at *
  generalize deI x.low=d1 at *
  generalize deI x.high=d2 at *
  simp only [rc,u6,sb,ints] at k f1 f2 o
  (repeat first|refine uA ?_|(apply uK;focus first|omega|(intros;simp_all<;>omega))|simp (disch:=omega) only [go_sem,Nat.reduceBEq,Nat.reduceAdd,ww,hgi,c6V,c6U,hln,Lk.enc,vts,sb,c7a]|refine l8.t (j6.lift (k:=0) rfl (k _ rfl) rfl rfl rfl) ?_|(apply uB f1;exact rfl)|(apply uB f2;exact rfl)|(apply uB o;exact rfl))
  refine S.next (i+1) (by omega) (by omega) (by simp only [hsn,c7G,c7i,c7q,rcs,sb];exact (by (repeat first|refine uA ?_|(refine ⟨?_,?_⟩;focus first|rfl|simp [slot])|rfl|simp|exact c6X hν0 (by simp))))
 have hi':i=links.length:=by omega
 subst hi'
 rw [c7l]
 (repeat first|refine uA ?_|(apply uK;focus omega)|simp (disch:=omega) only [go_sem,Nat.reduceBEq])
 (refine S.done ?_;simp only [p8,go_sem,Nat.reduceBEq];(repeat (refine ⟨?_,?_⟩;focus first|trivial|omega|simp));exact j3.K5 (Imp.frz rfl rfl rfl) (by (repeat first|refine uA ?_|(refine ⟨?_,?_⟩;focus first|rfl|simp [slot])|rfl|simp)) (c6X hν0 (by simp)))
theorem b8S (a:Am) (l:List Int) (ha:J2 a=0):y9 Tryz.prog 14 [a.c,u6 l] (rts (O6 a.links l)):=by
 refine kS Tryz.func14 (by cbv) (by rfl) fun w O=>?_
 have k:=fun (E:Ctx) (hP:E.P=Tryz.prog)=>c4G hP a l ha
 generalize O6 a.links l=r at *
 obtain ⟨name,base,links⟩:=a
 simp only [j5,TT,OA,MM,LL]
 simp only [Am.c,Am.enc,lks,rts,u6,sb] at k ⊢
 (repeat first|refine uA ?_|(apply uK;focus first|omega|(intros;simp_all<;>omega))|simp (disch:=omega) only [go_sem,Nat.reduceBEq,Nat.reduceAdd]|refine l8.t (j6.lift (k:=1) rfl (k _ rfl) rfl rfl rfl) ?_)
 exact S.done (j3.out rfl (Imp.refl rfl) rfl)
def a3T:N9:=⟨47,[.cell 4 true 8,.cell 5 true 5,.tmp 6],.seq (.reg [OA 4 (.alloc 31 [.slice none 0 0,.slice none 0 0,.slice none 0 0,.slice none 0 0,.slice none 0 0,.bool false,.string ⟨#[]⟩,.string ⟨#[]⟩]),OA 5 (.alloc 37 [.int
 .i64 0,.slice none 0 0,.slice none 0 0,.slice none 0 0,.slice none 0 0]),OA 6 (.mv (.const (.bool false)))]) (.seq (.reg [MM 13 0,OA 14 (.call 13 [TT 13]),MM 12 14,OA 15 (.ext (TT 12) 0),OA 16 (.ext (TT 12) 1),OA 17
 (.ext (TT 12) 2),OA 7 (.alloc 31 [.slice none 0 0,.slice none 0 0,.slice none 0 0,.slice none 0 0,.slice none 0 0,.bool false,.string ⟨#[]⟩,.string ⟨#[]⟩]),OA 8 (.alloc 37 [.int .i64 0,.slice none 0 0,.slice none 0 0,
 .slice none 0 0,.slice none 0 0]),OB (.store 8 (TT 7) (TT 15)),OB (.store 5 (TT 8) (TT 16)),MM 9 17]) (.seq (.seq (.reg [MM 18 9,OA 19 (.un .not (TT 18))]) (.cond (TT 19) (.seq (.E8 [.q,.l,.e none false,.e none true,
 .q] [LL 20 8 7,LL 21 5 8,OB (.store 8 (TT 4) (TT 20)),OB (.store 5 (TT 5) (TT 21)),OA 6 (.mv (.const (.bool false)))]) .ret) .skip)) (.seq (.seq (.reg [FF 22 0 7,VV 23 22,OA 24 (.len false (TT 23)),OA 25 (.mv (II 0))])
 (.block 0 (.loop (.seq (.reg [OA 26 (.bin .lss (TT 25) (TT 24))]) (.seq (.cond (TT 26) .skip (.exit 0)) (.seq (.block 1 (.seq (.reg [MM 27 25,OA 28 (.q8 12 (TT 23) (TT 25)),LL 29 12 28,OA 11 (.alloc 69 [.string ⟨#[]⟩,
 .bool false,.string ⟨#[]⟩,.string ⟨#[]⟩,.bool false,.string ⟨#[]⟩,.string ⟨#[]⟩,.bool false,.bool false,.string ⟨#[]⟩,.string ⟨#[]⟩,.slice none 0 0]),MM 10 27,OB (.store 12 (TT 11) (TT 29))]) (.E8 [.q,.q,.q,.q,
 .q,.q,.q,.q,.q,.q,.q,.q,.q,.q,.e none true] [FF 30 1 8,VV 31 30,MM 32 10,LL 33 12 11,MM 34 1,MM 35 1,OA 36 (.len false (TT 35)),MM 37 10,OA 38 (.bin .mul (II 3) (TT 37)),OA 39 (.min (TT 36) (TT 38)),OA 40
 (.a2u 1 (TT 34) (some (TT 39)) none),OA 41 (.call 14 [TT 33,TT 40]),OA 42 (.q8 4 (TT 31) (TT 32)),FF 43 0 42,OB (.store 1 (TT 43) (TT 41))]))) (.reg [OA 44 (.bin .add (TT 25) (II 1)),MM 25 44]))))))) (.seq (.E8 [.q,
 .l,.e none false,.e none true,.q] [LL 45 8 7,LL 46 5 8,OB (.store 8 (TT 4) (TT 45)),OB (.store 5 (TT 5) (TT 46)),OA 6 (.mv (.const (.bool true)))]) .ret))))⟩
theorem a8p:J5 eff Tryz.prog Tryz.f5=some a3T:=by kernel_rfl
theorem a7B:Tryz.prog.funcs[5]?=some Tryz.f5:=Tryz.func5
theorem j6.b3w {E:Ctx} {rs rs2 rs':List Res} {f:Nat} {args args':List C} {s:C} {pk:List Nat} (h:j6 E rs2 f args' s rs' pk) (hi:j4 rs rs2 args args') (hrs:D7 rs rs2 rs2 rs) (hlen:rs2.length=rs.length):j6 E rs f args s rs' pk:=by
 intro av ν w vs hR hav hF hD
 have hk:=a1t hrs
 have hD':=hi.den hR (Cut.of hR hk) hD
 have et:ν.take rs2.length=ν:=by rw [hlen,<- hR.len];exact c7l
 rw [et] at hD'
 have hR2:=hR.weak hrs
 rw [et] at hR2
 refine (h av ν w vs hR2 hav hF hD').mono ?_
 rintro e w' ⟨y,ν',rfl,h1,h2,h3⟩
 exact ⟨y,ν',rfl,h1,⟨h2.os,h2.tape,h2.output,h2.size,fun b hb hn=>h2.block b hb (fun ho=>hn (a2R hk ho)),fun b hb=>(h2.own b hb).imp (a2R hk) id,h2.nu⟩,h3⟩
def Y6 (w:Wk) (to:List Int):List Ast:=(List.range w.arms.length).map (c2w w to)
theorem a3V {w:Wk} {to:List Int} {i:Nat} {a:Am} (h:w.arms[i]?=some a):(Y6 w to)[i]?=some (a7f a (to.drop (3*i)) (-1)):=by
 have hi:=(c6Y.1 h).1
 unfold Y6
 rw [c7f,List.getElem?_range hi,c6V]
 unfold c2w
 rw [h]
theorem a5A (w:Wk) (to:List Int):(Y6 w to).length=w.arms.length:=by unfold Y6;simp
theorem b3O {α:Type} {l m:List α} {i:Nat} {y:α} (hl:l.length=m.length) (hy:m[i]?=some y):(l.take i++m.drop i)[i]?=some y:=by
 have hi:=(c6Y.1 hy).1
 have h1:(l.take i).length=i:=by rw [c7d];omega
 rw [c7r (by omega),h1,Nat.sub_self,c7I,Nat.add_zero,hy]
theorem c3c {E:Ctx} (hP:E.P=Tryz.prog) (ht0:Tz E) (l to:List Int) (hn:to.length<=1048576) :
  j6 E [] 5 [u6 l,u6 to] (.tup [(u7 l).c,.agg [ints 0,.rv 8,.rv 9,.v (.slice none 0 0),.rv 10],.v (.bool true)]) [.gone,.gone,.gone,.gone,.gone,.gone,.gone,.gone,.row 49 4 ((Y6 (u7 l) to).map Ast.enc),.row 66 10 ((D8 (u7 l)).parts.map Fr.enc),.row 4 1 ((D8 (u7 l)).gates.map fun b=>[.v (.bool b)]),.gone,.gone,.gone] []:=by
 obtain ⟨P,eff',N,w0,own0,av0,nu0,pk0⟩:=E
 simp only at hP
 subst hP
 refine j6.ofT (eff:=eff) ht0 a7B a8p (by exact c7j rfl) fun w' own av ν hν ht=>?_
 have hν0:ν.length<=0:=by rw [hν];exact c7b _
 have hbg:=fun (E:Ctx) (hP:E.P=Tryz.prog) (ht:Tz E)=>c3u hP ht l
 obtain ⟨ha,hs⟩:=a3N l
 have hbig:(u7 l).arms.length<=4:=(a2x (a6P (a7j l) ha hs)).big.2.1
 have hpg:=fun (i:Nat) (a:Am) (h:(u7 l).arms[i]?=some a)=>a3V (to:=to) h
 have hpl:=a5A (u7 l) to
 have hfa:(D8 (u7 l)).arms=(u7 l).arms.map R3:=rfl
 generalize Y6 (u7 l) to=L at *
 generalize D8 (u7 l)=s at *
 generalize u7 l=w at *
 obtain ⟨arms,walls,parts,slots,gates,walk⟩:=w
 obtain ⟨tick,sarms,sparts,people,sgates⟩:=s
 simp only at hfa hbig hpg hpl ha
 have hsl:sarms.length=arms.length:=by rw [hfa,c6U]
 simp only [a3T,j5,TT,II,OA,OB,MM,LL,VV,FF]
 simp only [Wk.c,Wk.enc,ams,wls,pts,sls,gts,sb,ints,u6] at hbg ⊢
 (repeat first|refine uA ?_|(refine uK ?_ ?_;focus first|omega|(intros;simp_all<;>omega))|simp (disch:=omega) only [go_sem,Nat.reduceBEq,Nat.reduceAdd,C.sh,C.shL,c7m,List.length_nil]|refine l8.t (j6.pre (hbg _ rfl ht) rfl rfl rfl) ?_)
 refine S.cond rfl (fun hc=>by simp at hc) (fun hc=>?_)
 (repeat first|refine uA ?_|(refine uK ?_ ?_;focus first|omega|(intros;simp_all<;>omega))|simp (disch:=omega) only [go_sem,Nat.reduceBEq,Nat.reduceAdd,c6U])
 refine S.loop (X:=Nat) (fun i=>⟨[(1,u6 to),(4,.bp 0 0),(5,.bp 1 0),(7,.bp 12 0),(8,.bp 13 0),(23,ams arms),(24,ints arms.length),(25,ints i)],[.box 31 [.v (.slice none 0 0),.v (.slice none 0 0),.v (.slice none 0 0),.v (.slice none 0 0),.v (.slice none 0 0),.v (.bool false),.v (.string ⟨#[]⟩),.v (.string ⟨#[]⟩)],.box 37 [.v (.int .i64 0),.v (.slice none 0 0),.v (.slice none 0 0),.v (.slice none 0 0),.v (.slice none 0 0)],.gone,.gone,.gone,.gone,.gone,.gone,.row 49 4 ((L.take i++sarms.drop i).map Ast.enc),.row 66 10 (sparts.map Fr.enc),.row 4 1 (sgates.map fun b=>[.v (.bool b)]),.gone,.box 31 [ams arms,wls walls,pts parts,sls slots,gts gates,.v (.bool walk.neg),sb walk.num,sb walk.den],.box 37 [.v (.int .i64 0),.rv 8,.rv 9,.v (.slice none 0 0),.rv 10]]⟩) (fun i=>i<=arms.length) (fun i=>arms.length-i) 0 (c6Z _) (by (repeat first|refine uA ?_|(refine ⟨?_,?_⟩;focus first|rfl|simp [slot])|rfl|simp|exact c6X hν0 (by simp))) ?_
 intro i hi
 simp only [ams,wls,pts,sls,gts,u6,sb,ints]
 (repeat first|refine uA ?_|(refine uK ?_ ?_;focus first|omega|(intros;simp_all<;>omega))|simp (disch:=omega) only [go_sem,Nat.reduceBEq])
 (refine uJ rfl (fun hc=>?_) fun hc=>?_)
 ·have hi':i < arms.length:=by omega
  have hga:=c6T hi'
  have hpi:=hpg i _ hga
  have hm1:sarms[i]?=some (R3 arms[i]):=by rw [hfa,c7f,hga];rfl
  have haa:=ha _ (c6W hga)
  generalize arms[i]=a at *
  have hms:=b6D (l:=L) (m:=sarms) (by omega) hpi
  have hmg:=b3O (l:=L) (m:=sarms) (by omega) hm1
  have hml:=b7h (l:=L) (m:=sarms) (i:=i) (by omega) (by omega)
  have hC:=b8S a (to.drop (3*i)) haa
  have hpe:a7f a (to.drop (3*i)) (-1)=⟨O6 a.links (to.drop (3*i)),a.links.map fun _=>Nm.ofQ 0,false,-1⟩:=rfl
  have hfe:R3 a=⟨a.links.map a0C,a.links.map fun _=>Nm.ofQ 0,false,-1⟩:=rfl
  rw [hpe] at hms
  rw [hfe] at hmg
  have hmn:(if 3*(i:Int) < (to.length:Int) then 3*(i:Int) else (to.length:Int))=((min to.length (3*i):Nat):Int):=by split<;>omega
  have hdm:(to.drop (min to.length (3*i))).take (to.length-min to.length (3*i))=to.drop (3*i):=by
   rw [b5E,c7o (by rw [c7E];omega)]
  have hmll:min to.length (3*i)<=to.length:=Nat.min_le_left _ _
  have hse:((L.take i++sarms.drop i).map Ast.enc).set i [rts (O6 a.links (to.drop (3*i))),rts (a.links.map fun _=>Nm.ofQ 0),.v (.bool false),.v (.int .i64 (-1))]=(L.take (i+1)++sarms.drop (i+1)).map Ast.enc:=by rw [<- hms,List.map_set];rfl
  clear hms hpe hfe hpi hm1
  generalize O6 a.links (to.drop (3*i))=c at *
  generalize min to.length (3*i)=mm at *
  generalize to.drop (3*i)=td at *
  generalize hM2:L.take (i+1)++sarms.drop (i+1)=M2 at *
  generalize L.take i++sarms.drop i=M1 at *
  simp only [Am.c,Am.enc,lks,rts,u6,sb] at hC hse
  (repeat first|refine uA ?_|(refine uK ?_ ?_;focus first|omega|(intros;simp_all<;>omega))|simp (disch:=omega) only [go_sem,Nat.reduceBEq,Nat.reduceAdd,ww,hga,hmg,hse,hml,c6V,c6U,Am.enc,Ast.enc,lks,rts,sb,ints,hmn,hdm,c7a]|(refine uB hC ?_ ?_;exact rfl))
  refine S.next (i+1) (by omega) (by omega) (by simp only [hM2];exact (by (repeat first|refine uA ?_|(refine ⟨?_,?_⟩;focus first|rfl|simp [slot])|rfl|simp|exact c6X hν0 (by simp))))
 have hi':i=arms.length:=by omega
 subst hi'
 have hme:=mid_end (l:=L) (m:=sarms) (by omega)
 rw [hsl] at hme
 rw [hme]
 (repeat first|refine uI ?_|(refine uK ?_ ?_;focus first|omega|(intros;simp_all<;>omega))|simp (disch:=omega) only [go_sem,Nat.reduceBEq,Nat.reduceAdd,ww])
 refine S.E8 [.gone,.gone,.gone,.gone,.gone,.gone,.gone,.gone,.gone,.gone,.gone,.gone,.gone,.box 37 [.v (.int .i64 0),.rv 8,.rv 9,.v (.slice none 0 0),.rv 10]] (by simp [Eng.H6,Eng.U6]) ?_
 (repeat first|refine uA ?_|(refine uK ?_ ?_;focus first|omega|(intros;simp_all<;>omega))|simp (disch:=omega) only [go_sem,Nat.reduceBEq,Nat.reduceAdd])
 (refine S.done ?_;simp only [p8,r9,go_sem,Nat.reduceBEq,Nat.reduceAdd,Nat.reduceLeDiff];(repeat (refine ⟨?_,?_⟩;focus first|trivial|omega|simp));exact j3.K5 (Imp.tup (by (repeat' (first|exact j4.nil|exact Imp.refl rfl|exact Imp.frz rfl rfl rfl|exact Imp.F5|refine Imp.agg ?_|refine j4.cons ?_ ?_)))) (by (repeat first|refine uA ?_|(refine ⟨?_,?_⟩;focus first|rfl|simp [slot])|rfl|simp)) (c6X hν0 (by simp)))
set_option maxHeartbeats 4000000
theorem a8e {w:Wk} {to:List Int} {x:Ast} (h:x ∈ Y6 w to):∃ a l,a ∈ w.arms/\x=a7f a l (-1):=by
 obtain ⟨i,hi⟩:=List.getElem?_of_mem h
 have hl:=(c6Y.1 hi).1
 rw [a5A] at hl
 have ga:=c6T hl
 rw [a3V ga] at hi
 injection hi with hi
 exact ⟨_,_,c6W ga,hi.symm⟩
theorem c1b {w:Wk} (to:List Int) (hk:a0c w=0) (ha:∀ a ∈ w.arms,J2 a=0) (hs:∀ s ∈ w.slots,okF s.frame=true):P7 w ⟨0,Y6 w to,(D8 w).parts,[],(D8 w).gates⟩=0:=by
 have h:=a6P hk ha hs
 have hl:=a5A w to
 have hfl:(D8 w).arms.length=w.arms.length:=by simp [D8]
 have he:(x9 (W9 w.parts.length) [] (w.arms.zip (D8 w).arms)).1=0:=by
  unfold P7 at h
  split at h
  ·rename_i h1;exact absurd h h1
  split at h
  ·cases h
  split at h
  ·cases h
  split at h
  ·rename_i h1;exact absurd h h1
  ·rename_i h1;exact Classical.not_not.1 h1
 have hm:(D8 w).arms.map (·.holds)=(Y6 w to).map (·.holds):=by
  refine List.ext_getElem? fun i=>?_
  rw [c7f,c7f]
  rcases c7p i w.arms.length with hi|hi
  ·have ga:=c6T hi
   have gf:(D8 w).arms[i]?=some (R3 w.arms[i]):=by
    show (w.arms.map R3)[i]?=_
    rw [c7f,ga]
    rfl
   rw [a3V ga,gf]
   rfl
  ·rw [c7v (by omega),c7v (by omega)]
 have he2:=b3e _ w.arms (D8 w).arms (Y6 w to) [] hm (fun z hz=>by
  obtain ⟨i,hi⟩:=List.getElem?_of_mem hz
  rw [List.getElem?_zip_eq_some] at hi
  obtain ⟨i1,i2⟩:=hi
  rw [a3V i1] at i2
  injection i2 with i2
  rw [<- i2]
  exact c1I (ha _ (c6W i1)) ⟨by decide,by omega⟩) he
 have hok:=a2x h
 have hpg:=b5Y h
 have e3:=hok.parts
 have e4:=hok.gates
 unfold P7
 rw [hk,if_neg (by decide)]
 simp only [List.length_nil,List.all_nil,Bool.and_true]
 rw [if_neg (by omega),if_neg (by omega),he2,if_neg (by decide),hpg]
 rfl
theorem b0g {w:Wk} (to:List Int) (hwb:Wb 1048576 w) (hk:a0c w=0) (ha:∀ a ∈ w.arms,J2 a=0) (hs:∀ s ∈ w.slots,okF s.frame=true):Calm w ⟨0,Y6 w to,(D8 w).parts,[],(D8 w).gates⟩ 0:=by
 refine ⟨c1b to hk ha hs,rfl,fun x hx=>?_,fun x hx r hr=>?_,fun x hx r hr=>?_,rfl,(b8l hwb hk ha hs).parts⟩
 ·obtain ⟨a,l,_,rfl⟩:=a8e hx
  rfl
 ·obtain ⟨a,l,hm,rfl⟩:=a8e hx
  exact (a5g _ _ ((O8 (ha a hm)).2) r hr).mono (by decide)
 ·obtain ⟨a,l,hm,rfl⟩:=a8e hx
  obtain ⟨_,_,rfl⟩:=List.mem_map.1 (show r ∈ a.links.map (fun _=>Nm.ofQ 0) from hr)
  exact V6.mono (by decide)
structure Run (a:Am) (q0 u:List Nm.Rt) (j:Nat) (y:Ast):Prop where
 q:y.q.length=a.links.length
 v:y.v.length=a.links.length
 pos:∀ (i:Nat) (l:Lk) (b c q v:Nm.Rt),a.links[i]?=some l->q0[i]?=some b->u[i]?=some c->y.q[i]?=some q->y.v[i]?=some v->c6y b c l.brake j q v
def Q7 (z:List (Lk × Nm.Rt)):Int:=z.foldl (fun m z=>max m (I5 (Nm.d9 z.1.brake) (Nm.d9 z.2))) 0
theorem b4T {α:Type} {f:α->Int}:∀ (l:List α) (m:Int),m<=l.foldl (fun m z=>max m (f z)) m/\∀ z ∈ l,f z<=l.foldl (fun m z=>max m (f z)) m
 | [],m=>⟨Int.le_refl _,fun z hz=>by cases hz⟩
 | x::l,m=>by
  obtain ⟨h1,h2⟩:=b4T (f:=f) l (max m (f x))
  rw [List.foldl_cons]
  refine ⟨by omega,fun z hz=>?_⟩
  rcases List.mem_cons.1 hz with rfl|hz
  ·omega
  ·exact h2 z hz
theorem a7r (z:List (Lk × Nm.Rt)):0<=Q7 z:=(b4T (f:=fun z:Lk × Nm.Rt=>I5 (Nm.d9 z.1.brake) (Nm.d9 z.2)) z 0).1
def a6k:N9:=⟨106,[.tmp 6,.tmp 7,.tmp 8],.seq (.reg [OA 3 (.box 69 (TT 0)),OA 6 (.mv (.const (.slice none 0 0))),OA 7 (.mv (II 0)),OA 8 (.mv (II 0))]) (.seq (.seq (.reg [LL 18 12 3,OA 19 (.call 41 [TT 18]),MM 9 19]) (.seq (.reg [MM 20
 9,OA 21 (.bin .neq (TT 20) (II 0))]) (.cond (TT 21) (.seq (.reg [MM 22 9,OA 6 (.mv (.const (.slice none 0 0))),OA 7 (.mv (II 0)),MM 8 22]) .ret) .skip))) (.seq (.seq (.reg [MM 23 1,OA 24 (.len false (TT 23)),FF 25 11 3,VV
 26 25,OA 27 (.len false (TT 26)),OA 28 (.bin .neq (TT 24) (TT 27)),MM 29 28,MG 30 2 29 false,OC 31 (.len false (TT 30)) 29 false,FG 32 11 3 29 false,VG 33 32 29 false,OC 34 (.len false (TT 33)) 29 false,OC 35 (.bin .neq
 (TT 31) (TT 34)) 29 false,OA 36 (.pick (TT 29) (.const (.bool true)) (TT 35))]) (.cond (TT 36) (.seq (.reg [OA 6 (.mv (.const (.slice none 0 0))),OA 7 (.mv (II 0)),OA 8 (.mv (II 1))]) .ret) .skip)) (.seq (.reg [OA 10 (.mv
 (.const (.slice none 0 0)))]) (.seq (.seq (.reg [MM 37 1,OA 38 (.len false (TT 37)),OA 39 (.mv (II 0))]) (.block 0 (.loop (.seq (.reg [OA 40 (.bin .lss (TT 39) (TT 38))]) (.seq (.cond (TT 40) .skip (.exit 0)) (.seq (.block 1
 (.seq (.reg [MM 41 39,MM 11 41]) (.E8 [.q,.q,.q,.q,.q,.q,.q,.q,.q,.q,.q,.e none true,.q] [MM 42 10,MM 43 1,MM 44 11,OA 45 (.q8 3 (TT 43) (TT 44)),LL 46 3 45,MM 47 2,MM 48 11,OA 49 (.q8 3 (TT 47) (TT
 48)),LL 50 3 49,OA 51 (.call 38 [TT 46,TT 50]),OA 52 (.bsl 29 3 1 [.bool false,.string ⟨#[]⟩,.string ⟨#[]⟩] [(0,TT 51)]),OA 53 (.app 29 3 40 (TT 42) (TT 52)),MM 10 53]))) (.reg [OA 54 (.bin .add (TT 39) (II 1)),MM 39
 54]))))))) (.seq (.reg [LL 56 12 3,MM 57 10,MM 58 2,OA 59 (.call 42 [TT 56,TT 57,TT 58]),MM 55 59,OA 60 (.ext (TT 55) 0),OA 61 (.ext (TT 55) 1),MM 12 60,MM 13 61]) (.seq (.seq (.reg [MM 62 13,OA 63 (.bin .neq (TT 62)
 (II 0))]) (.cond (TT 63) (.seq (.reg [MM 64 13,OA 6 (.mv (.const (.slice none 0 0))),OA 7 (.mv (II 0)),MM 8 64]) .ret) .skip)) (.seq (.reg [OA 14 (.mv (II 0))]) (.seq (.seq (.reg [MM 65 12,OA 66 (.len false (TT 65)),OA 67
 (.mv (II 0))]) (.block 2 (.loop (.seq (.reg [OA 68 (.bin .lss (TT 67) (TT 66))]) (.seq (.cond (TT 68) .skip (.exit 2)) (.seq (.block 3 (.seq (.reg [MM 69 67,MM 15 69]) (.seq (.E8 [.q,.q,.q,.q,.q,.q,.q,.q,.q,.q,.q,
 .q,.q,.e none true] [MM 70 12,MM 71 15,MM 72 12,MM 73 15,OA 74 (.q8 6 (TT 72) (TT 73)),LL 75 6 74,MM 76 1,MM 77 15,OA 78 (.q8 3 (TT 76) (TT 77)),LL 79 3 78,OA 80 (.call 44 [TT 79]),OA 81 (.call 43 [TT 75,TT
 80]),OA 82 (.q8 6 (TT 70) (TT 71)),OB (.store 6 (TT 82) (TT 81))]) (.seq (.E8 [.q,.q,.q,.q,.q,.q,.q,.q,.q,.q,.q,.q,.q,.q,.q] [FF 84 11 3,VV 85 84,MM 86 15,OA 87 (.q8 16 (TT 85) (TT 86)),LL 88 16 87,
 MM 89 2,MM 90 15,OA 91 (.q8 3 (TT 89) (TT 90)),LL 92 3 91,OA 93 (.call 45 [TT 88,TT 92]),MM 83 93,OA 94 (.ext (TT 83) 0),OA 95 (.ext (TT 83) 1),MM 16 94,MM 17 95]) (.seq (.seq (.reg [MM 96 17,OA 97 (.bin .neq (TT
 96) (II 0))]) (.cond (TT 97) (.seq (.reg [MM 98 17,OA 6 (.mv (.const (.slice none 0 0))),OA 7 (.mv (II 0)),MM 8 98]) .ret) .skip)) (.reg [MM 99 14,MM 100 16,OA 101 (.max (TT 99) (TT 100)),MM 14 101])))))) (.reg [OA 102
 (.bin .add (TT 67) (II 1)),MM 67 102]))))))) (.seq (.reg [MM 103 12,MM 104 14,OA 105 (.bin .add (TT 104) (II 1)),MM 6 103,MM 7 105,OA 8 (.mv (II 0))]) .ret)))))))))⟩
theorem b1v:J5 eff Tryz.prog Tryz.f19=some a6k:=by kernel_rfl
theorem b1Q:Tryz.prog.funcs[19]?=some Tryz.f19:=Tryz.func19
set_option maxHeartbeats 8000000
def b5q (l:Lk) (q u:Nm.Rt):Sn:=snQ (loQ q u l.brake) (hiQ q u l.brake)
def a3W (L:List Lk) (q u:List Nm.Rt):List Sn:=(L.zip (q.zip u)).map fun z=>b5q z.1 z.2.1 z.2.2
theorem c0d {L:List Lk} {t v:List Nm.Rt} {i:Nat} {l:Lk} {x y:Nm.Rt} (h1:L[i]?=some l) (h2:t[i]?=some x) (h3:v[i]?=some y):(a3W L t v)[i]?=some (b5q l x y):=by
 unfold a3W
 rw [c7f,N7 h1 (N7 h2 h3)]
 rfl
theorem c0A {L:List Lk} {t v:List Nm.Rt} (h1:t.length=L.length) (h2:v.length=L.length):(a3W L t v).length=L.length:=by
 unfold a3W;simp only [c6U,List.length_zip];omega
def toL (q u:List Nm.Rt):List Nm.Rt:=(q.zip u).map fun z=>a2m z.1 z.2
theorem c4e {q u:List Nm.Rt} {i:Nat} {x y:Nm.Rt} (h2:q[i]?=some x) (h3:u[i]?=some y):(toL q u)[i]?=some (a2m x y):=by
 unfold toL
 rw [c7f,N7 h2 h3]
 rfl
theorem c4J {q u:List Nm.Rt} (h:u.length=q.length):(toL q u).length=q.length:=by
 unfold toL;simp only [c6U,List.length_zip];omega
theorem b5Q {z:List (Lk × Nm.Rt)} {i:Nat} {x:Lk × Nm.Rt} (h:z[i]?=some x):Q7 (z.take (i+1))=if Q7 (z.take i) < I5 (Nm.d9 x.1.brake) (Nm.d9 x.2) then I5 (Nm.d9 x.1.brake) (Nm.d9 x.2) else Q7 (z.take i):=by
 unfold Q7
 rw [take_at h,List.foldl_append,List.foldl_cons,List.foldl_nil]
 generalize List.foldl _ _ _=m
 generalize I5 _ _=k
 split<;>omega
theorem c3Q (p q:Rat):G7 p q<=G9 p q:=by
 have h1:=(b6y p q).1
 have h2:=(b6Q p q).1
 grind
theorem b1x {k:Nat} {p q:Rat} (hp:Rb k (Nm.ofQ p)) (hq:Rb k (Nm.ofQ q)):Rb k (Nm.ofQ (G7 p q)):=by unfold G7;split;exact hp;exact hq
theorem b1V {k:Nat} {p q:Rat} (hp:Rb k (Nm.ofQ p)) (hq:Rb k (Nm.ofQ q)):Rb k (Nm.ofQ (G9 p q)):=by unfold G9;split;exact hp;exact hq
theorem b6F (a:Am) (q u:List Nm.Rt) (hl:Ab 1073741824 a) (ha:J2 a=0) (hq:q.length=a.links.length) (hv:u.length=a.links.length) (hqb:∀ r ∈ q,Rb 1024 r) (hf:∀ (i:Nat) (l:Lk) (x:Nm.Rt),a.links[i]?=some l->u[i]?=some x->Few l x) :
  FZ 19 [a.c,rts q,rts u] (.tup [.sl 6 ((a3W a.links q u).map Sn.enc),ints (Q7 (a.links.zip u)+1),ints 0]):=by
 refine kW b1Q b1v (by rfl) fun w O hw=>?_
 have hck:=b0p a hl
 rw [ha] at hck
 have hn:=hl.2.2.1
 have htl:=c4J (q:=q) (u:=u) (by omega)
 have htg:=@c4e q u
 have hsp:=fun (E:Ctx) (hP:E.P=Tryz.prog) (ht:Tz E)=>c2S hP ht a (toL q u) u hl ha (by omega) hv (fun r hr=>by
  obtain ⟨x,hx,y,hy,rfl⟩:=c6M hr
  obtain ⟨i,hi⟩:=List.getElem?_of_mem hy
  have hil:=(c6Y.1 hi).1
  exact (Q9 ((hqb x hx).fit (by decide)) ((hf i _ y (c6T (show i < a.links.length by omega)) hi).hv.fit (by decide))).mono (by decide)) hf
 have hsl:=b3h (L:=a.links) (t:=toL q u) (v:=u) (by omega) hv
 have hsg:=@b2i a.links (toL q u) u
 have hrl:=c0A (L:=a.links) hq hv
 have hrg:=@c0d a.links q u
 have htk:=@b5Q (a.links.zip u)
 have hzl:(a.links.zip u).length=a.links.length:=by rw [List.length_zip];omega
 have hT8:∀ i,0<=Q7 ((a.links.zip u).take i)/\Q7 ((a.links.zip u).take i)<=8:=fun i=>by
  refine ⟨a7r _,?_⟩
  have key:∀ (z:List (Lk × Nm.Rt)) (m:Int),m<=8->(∀ x ∈ z,I5 (Nm.d9 x.1.brake) (Nm.d9 x.2)<=8)->z.foldl (fun m z=>max m (I5 (Nm.d9 z.1.brake) (Nm.d9 z.2))) m<=8:=by
   intro z
   induction z with
   | nil=>intro m hm _;exact hm
   | cons x z ih=>
    intro m hm hx
    rw [List.foldl_cons]
    have:=hx x (by simp)
    exact ih _ (by omega) fun y hy=>hx y (by simp [hy])
  refine key _ 0 (by decide) fun x hx=>?_
  obtain ⟨j,hj⟩:=List.getElem?_of_mem (List.mem_of_mem_take hx)
  rw [List.getElem?_zip_eq_some] at hj
  exact (hf j _ _ hj.1 hj.2).few
 have hzg:=fun (i:Nat) (l:Lk) (x:Nm.Rt) (h1:a.links[i]?=some l) (h2:u[i]?=some x)=>N7 h1 h2
 have ht0:Q7 ((a.links.zip u).take 0)=0:=rfl
 have hte:(a.links.zip u).take a.links.length=a.links.zip u:=c7o (by omega)
 generalize a4T a.links (toL q u) u=SL at *
 generalize toL q u=T at *
 generalize a3W a.links q u=RL at *
 generalize a.links.zip u=Z at *
 obtain ⟨name,⟨bx,by',half,tu⟩,links⟩:=a
 simp only at hq hv hn hf hsl hsg hrl hrg hzl hte hzg hsp ⊢
 simp only [a6k,j5,TT,II,OA,OB,OC,MM,LL,VV,FF,MG,VG,FG]
 simp only [Am.c,Am.enc,lks,rts,sb,ints] at hck hsp ⊢
 (repeat first|refine uA ?_|(apply uK;focus omega)|simp (disch:=omega) only [go_sem,Nat.reduceBEq]|(apply uD hck;exact tz hw;rfl))
 refine S.cond rfl (fun hc=>by simp at hc) (fun hc=>?_)
 (repeat first|refine uA ?_|(apply uK;focus first|omega|(intros;simp_all<;>omega))|simp (disch:=omega) only [go_sem,Nat.reduceBEq,Nat.reduceAdd,c6U])
 refine S.cond rfl (fun hc=>by simp [hq,hv] at hc) (fun hc=>?_)
 (repeat first|refine uA ?_|(apply uK;focus omega)|simp (disch:=omega) only [go_sem,Nat.reduceBEq,c6U])
 refine S.loop (X:=Nat) (fun i=>⟨[(1,rts q),(2,rts u),(3,.bp 0 0),(10,.rv 1),(38,ints q.length),(39,ints i)],[.box 69 [sb name,.v (.bool bx.neg),sb bx.num,sb bx.den,.v (.bool by'.neg),sb by'.num,sb by'.den,.v (.bool half),.v (.bool tu.neg),sb tu.num,sb tu.den,lks links],.row 29 3 ((T.take i).map rcs)]⟩) (fun i=>i<=q.length) (fun i=>q.length-i) 0 (c6Z _)
  (Ent.trans (Ent.pack 10 29 3 rfl) (by (repeat first|refine uA ?_|(refine ⟨?_,?_⟩;focus first|rfl|simp [slot])|rfl|simp))) ?_
 intro i hi
 simp only [lks,rts,sb,ints]
 (repeat first|refine uA ?_|(apply uK;focus omega)|simp (disch:=omega) only [go_sem,Nat.reduceBEq])
 (refine uJ rfl (fun hc=>?_) fun hc=>?_)
 ·have hi':i < q.length:=by omega
  have hgl:=c6T (show i < links.length by omega)
  have hgq:=c6T hi'
  have hgu:=c6T (show i < u.length by omega)
  generalize q[i]'_=x at *
  generalize u[i]'_=y at *
  have hap:=take_at (htg hgq hgu)
  have htl:(T.take i).length=i:=by rw [c7d];omega
  have o1:=a5c x y ((hqb x (c6W hgq)).mono (by decide)) ((hf i _ y hgl hgu).hv.mono (by decide))
  unfold a2m at hap
  unfold rq at o1
  generalize Nm.ofQ (Nm.d9 x+Nm.d9 y)=z at *
  clear hsg hf hqb hrg htg htk hsp hgl hzg
  simp only [rc,sb] at o1
  (repeat first|refine uA ?_|(apply uK;focus first|omega|(intros;simp_all<;>omega))|simp (disch:=omega) only [go_sem,Nat.reduceBEq,Nat.reduceAdd,ww,hgq,hgu,c6V,c6U,htl,rcs,sb,c7a]|(apply uD o1;exact tz hw;rfl))
  refine S.next (i+1) (by omega) (by omega) (by simp only [hap,c7G,c7i,c7q,rcs,sb];exact (by (repeat first|refine uA ?_|(refine ⟨?_,?_⟩;focus first|rfl|simp [slot])|rfl|simp)))
 have hi':i=q.length:=by omega
 subst hi'
 rw [c7o (by omega)]
 refine S.exit rfl ?_
 refine S.weaken (st':=⟨[(1,rts q),(2,rts u),(3,.bp 0 0),(10,.sl 3 (T.map rcs))],[.box 69 [sb name,.v (.bool bx.neg),sb bx.num,sb bx.den,.v (.bool by'.neg),sb by'.num,sb by'.den,.v (.bool half),.v (.bool tu.neg),sb tu.num,sb tu.den,lks links]]⟩) (Ent.mk _ _ (by (repeat' (first|exact P6.nil|exact Imp.junk|exact Imp.refl rfl|exact Imp.frz rfl rfl rfl|exact Imp.eq (by simp [slot];done) rfl|refine P6.cons ?_ ?_))) (by (repeat' (first|exact D7.nil|exact RI.gone _|exact RI.row _ _ _ _ rfl|exact RI.map _ _ _ rfl|exact RI.box _ _ _ (j4.refl rfl)|(refine RI.box _ _ _ ?_;(repeat' (first|exact j4.nil|exact Imp.refl rfl|exact Imp.frz rfl rfl rfl|exact Imp.F5|refine j4.cons ?_ ?_)))|refine D7.cons ?_ ?_))) (c6Z _)) ?_
 simp only [lks,rts,sb]
 (repeat first|refine uA ?_|(apply uK;focus omega)|simp (disch:=omega) only [go_sem,Nat.reduceBEq,C.sh,C.shL,c7m,List.length_nil]|refine l8.t (j6.pre (hsp _ rfl (tz hw)) rfl rfl rfl) ?_)
 refine S.cond rfl (fun hc=>by simp at hc) (fun hc=>?_)
 (repeat first|refine uA ?_|(apply uK;focus omega)|simp (disch:=omega) only [go_sem,Nat.reduceBEq,c6U])
 refine S.loop (X:=Nat) (fun i=>⟨[(1,rts q),(2,rts u),(3,.bp 0 0),(12,.rv 2),(14,ints (Q7 (Z.take i))),(66,ints SL.length),(67,ints i)],[.box 69 [sb name,.v (.bool bx.neg),sb bx.num,sb bx.den,.v (.bool by'.neg),sb by'.num,sb by'.den,.v (.bool half),.v (.bool tu.neg),sb tu.num,sb tu.den,lks links],.gone,.row 108 6 ((RL.take i++SL.drop i).map Sn.enc)]⟩) (fun i=>i<=SL.length) (fun i=>SL.length-i) 0 (c6Z _) (by rw [ht0];exact (by (repeat first|refine uA ?_|(refine ⟨?_,?_⟩;focus first|rfl|simp [slot])|rfl|simp))) ?_
 intro i hi
 simp only [lks,rts,sb,ints]
 have hti:=hT8 i
 (repeat first|refine uA ?_|(apply uK;focus omega)|simp (disch:=omega) only [go_sem,Nat.reduceBEq])
 (refine uJ rfl (fun hc=>?_) fun hc=>?_)
 ·have hi':i < SL.length:=by omega
  have hgl:=c6T (show i < links.length by omega)
  have hgq:=c6T (show i < q.length by omega)
  have hgu:=c6T (show i < u.length by omega)
  generalize links[i]'_=l at *
  generalize q[i]'_=x at *
  generalize u[i]'_=y at *
  have hgs:=hsg hgl (htg hgq hgu) hgu
  have hgr:=hrg hgl hgq hgu
  have hF:=hf i l y hgl hgu
  have hsn:=htk (hzg i l y hgl hgu)
  have r1:=(hqb x (c6W hgq)).fit (by decide)
  have r2:=hF.hv.fit (by decide)
  have r3:=Q9 r1 r2
  have r4:=Q9 r3 (b4y hF)
  have e1:Nm.d9 (a2m x y)=Nm.d9 x+Nm.d9 y:=by unfold a2m;rw [Nm.p9]
  have e2:b8q x y l.brake=Nm.d9 x+Nm.d9 y+a0w l y:=rfl
  unfold b3D at hgs
  unfold b5q loQ hiQ at hgr
  rw [e1] at hgs
  rw [e2] at hgr
  have o1:FZ 44 [rc x] (snQ (Nm.d9 x) (Nm.d9 x)).c:=a0B x ((hqb x (c6W hgq)).mono (by decide))
  have o2:=b8T (G7 (Nm.d9 x+Nm.d9 y) (Nm.d9 x+Nm.d9 y+a0w l y)) (G9 (Nm.d9 x+Nm.d9 y) (Nm.d9 x+Nm.d9 y+a0w l y)) (Nm.d9 x) (Nm.d9 x) (c3Q _ _) Rat.le_refl ((b1x (r3.mono (by decide)) r4).mono (by decide)) ((b1V (r3.mono (by decide)) r4).mono (by decide)) (r1.mono (by decide)) (r1.mono (by decide))
  have o3:=b6X l y hF
  have m1:=b3O (l:=RL) (m:=SL) (by omega) hgs
  have s1:=c3l Sn.enc (by omega) hgr (m:=SL)
  have hml:=b7h (l:=RL) (m:=SL) (i:=i) (by omega) (by omega)
  have hb8:=hF.few
  have hb0:=(a6N (V:=Nm.d9 y) (b0m hF.pos)).1
  simp only at hsn
  clear r1 r2 r3 r4 e1 e2 hgs hgr hF hsg hf hqb hrg htg htk hsp hzg
  generalize I5 (Nm.d9 l.brake) (Nm.d9 y)=tk at *
  unfold snQ at *
  generalize Nm.ofQ (G7 (G7 (Nm.d9 x+Nm.d9 y) (Nm.d9 x+Nm.d9 y+a0w l y)) (Nm.d9 x))=n1 at *
  generalize Nm.ofQ (G9 (G9 (Nm.d9 x+Nm.d9 y) (Nm.d9 x+Nm.d9 y+a0w l y)) (Nm.d9 x))=n2 at *
  generalize Nm.ofQ (G7 (Nm.d9 x+Nm.d9 y) (Nm.d9 x+Nm.d9 y+a0w l y))=n3 at *
  generalize Nm.ofQ (G9 (Nm.d9 x+Nm.d9 y) (Nm.d9 x+Nm.d9 y+a0w l y))=n4 at *
  generalize Nm.ofQ (Nm.d9 x)=n5 at *
  generalize Q7 (Z.take i)=t0 at *
  generalize hM1:RL.take (i+1)++SL.drop (i+1)=M1 at *
  generalize RL.take i++SL.drop i=M0 at *
  simp only [Lk.c,Lk.enc,Sn.c,Sn.enc,vts,rc,sb,ints] at o1 o2 o3 s1
  (repeat first|refine uA ?_|(apply uK;focus omega)|simp (disch:=omega) only [go_sem,Nat.reduceBEq,hgl,hgq,hgu,m1,s1,hml,c6V,c6U,Lk.enc,Sn.enc,rcs,vts,sb,c7a]|(apply uD o1;exact tz hw;rfl)|(apply uD o2;exact tz hw;rfl)|(apply uD o3;exact tz hw;rfl))
  refine S.cond rfl (fun hc=>by simp at hc) (fun hc=>?_)
  (repeat first|refine uA ?_|(apply uK;focus omega)|simp (disch:=omega) only [go_sem,Nat.reduceBEq,ww])
  refine S.next (i+1) (by omega) (by omega) (by simp only [hM1,hsn];exact (by (repeat first|refine uA ?_|(refine ⟨?_,?_⟩;focus first|rfl|simp [slot])|rfl|simp)))
 ·have hi':i=SL.length:=by omega
  subst hi'
  rw [hsl,hte] at hti
  rw [hsl,hte,<- hrl,c7l,List.drop_eq_nil_of_le (by omega),List.append_nil]
  generalize Q7 Z=tz at *
  (repeat first|refine uA ?_|(apply uK;focus omega)|simp (disch:=omega) only [go_sem,Nat.reduceBEq,ww])
  (refine S.done ?_;simp only [p8,go_sem,Nat.reduceBEq];exact j3.out rfl (Imp.tup (by (repeat' (first|exact j4.nil|exact Imp.refl rfl|exact Imp.frz rfl rfl rfl|exact Imp.F5|refine Imp.agg ?_|refine j4.cons ?_ ?_)))) rfl)
def a6s:N9:=⟨119,[.tmp 8,.tmp 9],.seq (.reg [OA 4 (.box 31 (TT 0)),OA 8 (.mv (.const (.slice none 0 0))),OA 9 (.mv (II 0))]) (.seq (.seq (.reg [MM 18 1,OA 19 (.bin .lss (TT 18) (II 0)),MM 20 19,MG 21 1 20 false,FG 22 0 4 20 false,VG
 23 22 20 false,OC 24 (.len false (TT 23)) 20 false,OC 25 (.bin .geq (TT 21) (TT 24)) 20 false,OA 26 (.pick (TT 20) (.const (.bool true)) (TT 25)),MM 27 26,MG 28 2 27 false,OC 29 (.bin .lss (TT 28) (II (-1))) 27 false,OA
 30 (.pick (TT 27) (.const (.bool true)) (TT 29)),MM 31 30,MG 32 2 31 false,FG 33 2 4 31 false,VG 34 33 31 false,OC 35 (.len false (TT 34)) 31 false,OC 36 (.bin .geq (TT 32) (TT 35)) 31 false,OA 37 (.pick (TT 31) (.const
 (.bool true)) (TT 36))]) (.cond (TT 37) (.seq (.reg [OA 8 (.mv (.const (.slice none 0 0))),OA 9 (.mv (II 1))]) .ret) .skip)) (.seq (.reg [FF 39 0 4,VV 40 39,MM 41 1,OA 42 (.q8 12 (TT 40) (TT 41)),LL 43 12 42,MM 44 3,OA
 45 (.call 46 [TT 43,TT 44]),MM 38 45,OA 46 (.ext (TT 38) 0),OA 47 (.ext (TT 38) 1),MM 10 46,MM 11 47]) (.seq (.seq (.reg [MM 48 11,OA 49 (.bin .neq (TT 48) (II 0)),MM 50 49,MG 51 2 50 false,OC 52 (.bin .lss (TT 51) (II
 0)) 50 false,OA 53 (.pick (TT 50) (.const (.bool true)) (TT 52))]) (.cond (TT 53) (.seq (.reg [MM 54 10,MM 55 11,MM 8 54,MM 9 55]) .ret) .skip)) (.seq (.reg [FF 57 0 4,VV 58 57,MM 59 1,OA 60 (.q8 12 (TT 58) (TT 59)),
 LL 61 12 60,MM 62 3,OA 63 (.call 47 [TT 61,TT 62]),MM 56 63,OA 64 (.ext (TT 56) 0),OA 65 (.ext (TT 56) 1),MM 12 64,MM 11 65]) (.seq (.seq (.reg [MM 66 11,OA 67 (.bin .neq (TT 66) (II 0)),MM 68 67,MG 69 12 68 false,OC
 70 (.len false (TT 69)) 68 false,OC 71 (.bin .eql (TT 70) (II 0)) 68 false,OA 72 (.pick (TT 68) (.const (.bool true)) (TT 71))]) (.cond (TT 72) (.seq (.reg [MM 73 11,OA 8 (.mv (.const (.slice none 0 0))),MM 9 73]) .ret)
 .skip)) (.seq (.reg [FF 74 2 4,VV 75 74,MM 76 2,OA 77 (.q8 12 (TT 75) (TT 76)),LL 78 12 77,OA 13 (.alloc 115 [.string ⟨#[]⟩,.slice none 0 0,.bool false,.string ⟨#[]⟩,.string ⟨#[]⟩,.bool false,.string ⟨#[]⟩,.string
 ⟨#[]⟩,.bool false,.bool false,.string ⟨#[]⟩,.string ⟨#[]⟩]),OB (.store 12 (TT 13) (TT 78))]) (.seq (.reg [OA 79 (.call 48 [II 0]),OA 14 (.alloc 29 [.bool false,.string ⟨#[]⟩,.string ⟨#[]⟩]),OB (.store 3 (TT 14) (TT
 79))]) (.seq (.seq (.reg [FF 80 1 13,VV 81 80,OA 82 (.len false (TT 81)),OA 83 (.mv (II 0))]) (.block 0 (.loop (.seq (.reg [OA 84 (.bin .lss (TT 83) (TT 82))]) (.seq (.cond (TT 84) .skip (.exit 0)) (.seq (.block 1 (.seq (.reg
 [OA 85 (.q8 6 (TT 81) (TT 83)),LL 86 6 85,OA 16 (.alloc 59 [.bool false,.string ⟨#[]⟩,.string ⟨#[]⟩,.bool false,.string ⟨#[]⟩,.string ⟨#[]⟩]),OB (.store 6 (TT 16) (TT 86))]) (.seq (.E8 [.q,.q,.q,.q,.q,.q,.q,
 .q,.q,.q,.q,.q,.q,.q,.q,.q,.q,.a,.e (some 17) true] [FF 87 0 16,LL 88 3 87,FF 89 2 13,FF 90 0 89,FF 91 0 90,LL 92 3 91,OA 93 (.call 15 [TT 88,TT 92]),OA 94 (.call 49 [TT 93]),FF 95 3 16,LL 96 3 95,FF 97 2
 13,FF 98 0 97,FF 99 3 98,LL 100 3 99,OA 101 (.call 15 [TT 96,TT 100]),OA 102 (.call 49 [TT 101]),OA 103 (.call 38 [TT 94,TT 102]),OA 17 (.alloc 29 [.bool false,.string ⟨#[]⟩,.string ⟨#[]⟩]),OB (.store 3 (TT 17) (TT
 103))]) (.reg [LL 104 3 14,LL 105 3 17,OA 106 (.call 16 [TT 104,TT 105]),OB (.store 3 (TT 14) (TT 106))])))) (.reg [OA 107 (.bin .add (TT 83) (II 1)),MM 83 107]))))))) (.seq (.E8 [.q,.q,.q,.q,.q,.q,.q,.q,.q,.q,
 .e none true,.q,.q] [MM 108 10,MM 109 12,MM 110 12,OA 111 (.len false (TT 110)),OA 112 (.bin .sub (TT 111) (II 1)),OA 113 (.q8 12 (TT 109) (TT 112)),LL 114 12 113,LL 115 3 14,OA 116 (.call 50 [TT 114,TT 115]),OA
 117 (.bsl 82 12 1 [.bool false,.string ⟨#[]⟩,.string ⟨#[]⟩,.bool false,.string ⟨#[]⟩,.string ⟨#[]⟩,.bool false,.string ⟨#[]⟩,.string ⟨#[]⟩,.bool false,.string ⟨#[]⟩,.string ⟨#[]⟩] [(0,TT 116)]),OA 118 (.app 82 12
 160 (TT 108) (TT 117)),MM 8 118,OA 9 (.mv (II 0))]) .ret)))))))))⟩
theorem b1D:J5 eff Tryz.prog Tryz.f20=some a6s:=by kernel_rfl
theorem b1H:Tryz.prog.funcs[20]?=some Tryz.f20:=Tryz.func20
def I9 (L:List Lk) (q u:List Nm.Rt):List Sp:=(L.zip (q.zip u)).map fun z=>⟨loQ z.2.1 z.2.2 z.1.brake,hiQ z.2.1 z.2.2 z.1.brake⟩
theorem b2U (L:List Lk) (q u:List Nm.Rt):(a3W L q u).map Sn.enc=(I9 L q u).map Sp.enc:=by
 unfold a3W I9
 rw [List.map_map,List.map_map]
 rfl
theorem b1c {L:List Lk} {t v:List Nm.Rt} (h1:t.length=L.length) (h2:v.length=L.length):(I9 L t v).length=L.length:=by
 unfold I9;simp only [c6U,List.length_zip];omega
theorem b5l {L:List Lk} {q u:List Nm.Rt} (hq:∀ r ∈ q,Rb 1024 r) (hf:∀ (i:Nat) (l:Lk) (x:Nm.Rt),L[i]?=some l->u[i]?=some x->Few l x):∀ s ∈ I9 L q u,Zb 16384 s:=fun s hs=>by
 obtain ⟨i,hi⟩:=List.mem_iff_getElem?.1 hs
 unfold I9 at hi
 rw [c7f] at hi
 cases hz:(L.zip (q.zip u))[i]? with
 | none=>rw [hz] at hi;cases hi
 | some z=>
  rw [hz] at hi
  injection hi with hi
  subst hi
  obtain ⟨l,x,y⟩:=z
  rw [List.getElem?_zip_eq_some] at hz
  obtain ⟨h1,h2⟩:=hz
  rw [List.getElem?_zip_eq_some] at h2
  have hF:=hf i l y h1 h2.2
  have r0:=hq x (c6W h2.1)
  have r1:=r0.fit (by decide)
  have r2:=hF.hv.fit (by decide)
  have r3:=Q9 r1 r2
  have r4:=Q9 r3 (b4y hF)
  change Zb 16384 ⟨loQ x y l.brake,hiQ x y l.brake⟩
  unfold loQ hiQ
  rw [show b8q x y l.brake=Nm.d9 x+Nm.d9 y+a0w l y from rfl]
  exact ⟨b1x (b1x (r3.mono (by decide)) (r4.mono (by decide))) (r1.mono (by decide)),b1V (b1V (r3.mono (by decide)) (r4.mono (by decide))) (r1.mono (by decide))⟩
def Y8 (a:Am) (q:List Sp):List Bq:=a2G (X4 (a3b a.base) (a.links.zip q)) a.links
theorem b4L {a:Am} {q:List Sp} (h:q.length=a.links.length):(Y8 a q).length=a.links.length:=by
 unfold Y8 a2G
 rw [c6U,List.length_zip,a7c,List.length_zip]
 omega
theorem c0o {a:Am} {q:List Sp} (ha:J2 a=0) (hql:q.length=a.links.length) (hq:∀ r ∈ q,Zb 16384 r):∀ b ∈ Y8 a q,Bb 173015040 b:=fun b hb=>by
 have hT:=a9t (a.links.zip q) 0 (a3b a.base) (by rw [List.length_zip];have:=(Z0 ha).2;omega) (b6I ha) (fun z hz=>⟨(b0I ha).2 _ (List.of_mem_zip hz).1,hq _ (List.of_mem_zip hz).2⟩)
 obtain ⟨z,hz,rfl⟩:=List.mem_map.1 hb
 have hl:=(List.of_mem_zip hz).1
 have hf:=hT _ (List.of_mem_zip hz).2
 obtain ⟨s1,s2,s3⟩:=b0M ((O8 ha).2 _ hl)
 unfold shB
 split
 ·rename_i he
  rw [he] at s1
  simp at s1
 ·rename_i v r he
  have hp:=b8m hf r (atX z.2 v,atY z.2 v) (b8d hf (s3 v (by rw [he];simp)).1 (s3 v (by rw [he];simp)).2) (fun u hu=>s3 u (by rw [he];exact List.mem_cons_of_mem v hu))
  exact ⟨hp.1.1,hp.2.1,hp.1.2,hp.2.2⟩
theorem b3F (w:Wk) (n:Nat) (a:Am) (q:List Sp) (hw1:w.arms.length<=1000) (hw2:w.parts.length<=1000) (ga:w.arms[n]?=some a) (hl:Ab 1073741824 a) (ha:J2 a=0) (hql:q.length=a.links.length) (hq:∀ r ∈ q,Zb 16384 r) :
  FZ 20 [w.c,ints n,ints (-1),.sl 6 (q.map Sp.enc)] (.tup [.sl 12 ((Y8 a q).map Bq.enc),ints 0]):=by
 refine kW b1H b1D (by rfl) fun w' O hw=>?_
 have h:=fun (E:Ctx) (hP:E.P=Tryz.prog) (ht:Tz E)=>c0i hP ht a q hl ha hql hq
 have hn:=(c6Y.1 ga).1
 change ∀ E:Ctx,E.P=Tryz.prog->Tz E->j6 E [] 46 [a.c,.sl 6 (q.map Sp.enc)] (.tup [.rv 1,ints 0]) [.gone,.row 82 12 ((Y8 a q).map Bq.enc)] [] at h
 generalize Y8 a q=R at *
 obtain ⟨arms,walls,parts,slots,gates,walk⟩:=w
 obtain ⟨name,⟨bx,by',half,tu⟩,links⟩:=a
 simp only at ga hn hw1 hw2
 have e1:decide ((n:Int) < 0)=false:=decide_eq_false (by omega)
 have e2:decide ((arms.length:Int)<=(n:Int))=false:=decide_eq_false (by omega)
 have e3:decide ((parts.length:Int)<=-1)=false:=decide_eq_false (by omega)
 simp only [a6s,j5,TT,II,OA,OB,OC,MM,LL,VV,FF,MG,VG,FG]
 simp only [Wk.c,Wk.enc,Am.c,Am.enc,ams,wls,pts,sls,gts,lks,sb,ints] at h ⊢
 (repeat first|refine uA ?_|(apply uK;focus first|omega|(intros;simp_all<;>omega))|simp (disch:=omega) only [go_sem,Nat.reduceBEq,Nat.reduceAdd,c6U,e1,e2,e3])
 refine S.cond rfl (fun hc=>by simp at hc) (fun hc=>?_)
 (repeat first|refine uA ?_|(apply uK;focus first|omega|(intros;simp_all<;>omega))|simp (disch:=omega) only [go_sem,Nat.reduceBEq,Nat.reduceAdd,C.sh,C.shL,c7m,List.length_nil,c6U,c7f,ga,c6V,c7a,Am.enc,lks,sb]|refine l8.t (j6.pre (h _ rfl ⟨hw,id⟩) rfl rfl rfl) ?_)
 refine S.cond rfl (fun hc=>?_) (fun hc=>by simp at hc)
 (repeat first|refine uA ?_|(apply uK;focus omega)|simp (disch:=omega) only [go_sem,Nat.reduceBEq])
 (refine S.done ?_;simp only [p8,go_sem,Nat.reduceBEq];exact j3.out rfl (Imp.tup (by (repeat' (first|exact j4.nil|exact Imp.refl rfl|exact Imp.frz rfl rfl rfl|exact Imp.F5|refine Imp.agg ?_|refine j4.cons ?_ ?_)))) rfl)
def a7L:N9:=⟨99,[.tmp 8,.tmp 9],.seq (.reg [OA 4 (.box 31 (TT 0)),OA 6 (.box 49 (TT 2)),OA 8 (.mv (.const (.slice none 0 0))),OA 9 (.mv (II 0))]) (.seq (.seq (.E8 [.q,.q,.q,.q,.q,.q,.q,.q,.q,.q,.q,.q,.q,.q,.q,.q,.q,
 .q,.q,.q,.q,.q,.q,.q,.q,.q,.q,.q,.q,.q] [MM 19 1,OA 20 (.bin .lss (TT 19) (II 0)),MM 21 20,MG 22 1 21 false,FG 23 0 4 21 false,VG 24 23 21 false,OC 25 (.len false (TT 24)) 21 false,OC 26 (.bin .geq (TT 22) (TT
 25)) 21 false,OA 27 (.pick (TT 21) (.const (.bool true)) (TT 26)),MM 28 27,FG 29 0 6 28 false,VG 30 29 28 false,OC 31 (.len false (TT 30)) 28 false,FG 32 0 4 28 false,VG 33 32 28 false,MG 34 1 28 false,OC 35 (.q8 12
 (TT 33) (TT 34)) 28 false,FG 36 11 35 28 false,VG 37 36 28 false,OC 38 (.len false (TT 37)) 28 false,OC 39 (.bin .neq (TT 31) (TT 38)) 28 false,OA 40 (.pick (TT 28) (.const (.bool true)) (TT 39)),MM 41 40,MG 42 3 41
 false,OC 43 (.len false (TT 42)) 41 false,FG 44 0 6 41 false,VG 45 44 41 false,OC 46 (.len false (TT 45)) 41 false,OC 47 (.bin .neq (TT 43) (TT 46)) 41 false,OA 48 (.pick (TT 41) (.const (.bool true)) (TT 47))]) (.cond (TT
 48) (.seq (.reg [OA 8 (.mv (.const (.slice none 0 0))),OA 9 (.mv (II 1))]) .ret) .skip)) (.seq (.E8 [.q,.q,.q,.q,.q,.q,.q,.q,.q,.q,.q,.q,.q,.q,.q,.q] [FF 50 0 4,VV 51 50,MM 52 1,OA 53 (.q8 12 (TT 51) (TT
 52)),LL 54 12 53,FF 55 0 6,VV 56 55,MM 57 3,OA 58 (.call 19 [TT 54,TT 56,TT 57]),MM 49 58,OA 59 (.ext (TT 49) 0),OA 60 (.ext (TT 49) 1),OA 61 (.ext (TT 49) 2),MM 10 59,MM 11 60,MM 12 61]) (.seq (.seq (.reg [MM 62
 12,OA 63 (.bin .neq (TT 62) (II 0))]) (.cond (TT 63) (.seq (.reg [MM 64 12,OA 8 (.mv (.const (.slice none 0 0))),MM 9 64]) .ret) .skip)) (.seq (.reg [LL 66 8 4,MM 67 1,FF 68 3 6,VV 69 68,MM 70 10,OA 71 (.call 20 [TT 66,
 TT 67,TT 69,TT 70]),MM 65 71,OA 72 (.ext (TT 65) 0),OA 73 (.ext (TT 65) 1),MM 13 72,MM 12 73]) (.seq (.seq (.reg [MM 74 12,OA 75 (.bin .neq (TT 74) (II 0))]) (.cond (TT 75) (.seq (.reg [MM 76 12,OA 8 (.mv (.const
 (.slice none 0 0))),MM 9 76]) .ret) .skip)) (.seq (.reg [OA 14 (.mv (.const (.slice none 0 0)))]) (.seq (.seq (.reg [MM 77 13,OA 78 (.len false (TT 77)),OA 79 (.mv (II 0))]) (.block 0 (.loop (.seq (.reg [OA 80 (.bin .lss (TT
 79) (TT 78))]) (.seq (.cond (TT 80) .skip (.exit 0)) (.seq (.block 1 (.seq (.reg [OA 81 (.q8 12 (TT 77) (TT 79)),LL 82 12 81,OA 16 (.alloc 82 [.bool false,.string ⟨#[]⟩,.string ⟨#[]⟩,.bool false,.string ⟨#[]⟩,.string
 ⟨#[]⟩,.bool false,.string ⟨#[]⟩,.string ⟨#[]⟩,.bool false,.string ⟨#[]⟩,.string ⟨#[]⟩]),OB (.store 12 (TT 16) (TT 82))]) (.seq (.reg [LL 84 12 16,OA 85 (.call 21 [TT 84]),MM 83 85,OA 86 (.ext (TT 83) 0),OA 87 (.ext
 (TT 83) 1),MM 17 86,MM 18 87]) (.seq (.seq (.reg [MM 88 18,OA 89 (.bin .neq (TT 88) (II 0))]) (.cond (TT 89) (.seq (.reg [MM 90 18,OA 8 (.mv (.const (.slice none 0 0))),MM 9 90]) .ret) .skip)) (.reg [MM 91 14,MM 92 17,OA
 93 (.call 22 [TT 91,TT 92]),MM 14 93]))))) (.reg [OA 94 (.bin .add (TT 79) (II 1)),MM 79 94]))))))) (.seq (.seq (.reg [MM 95 14,OA 96 (.len false (TT 95)),OA 97 (.bin .gtr (TT 96) (II 400))]) (.cond (TT 97) (.seq (.reg [OA
 8 (.mv (.const (.slice none 0 0))),OA 9 (.mv (II 2))]) .ret) .skip)) (.seq (.reg [MM 98 14,MM 8 98,OA 9 (.mv (II 0))]) .ret)))))))))⟩
theorem b3J:J5 eff Tryz.prog Tryz.f7=some a7L:=by kernel_rfl
theorem b4g:Tryz.prog.funcs[7]?=some Tryz.f7:=Tryz.func7
def a6v (bs:List Bq):List Cl:=if cellsE bs=0 then L9 bs else []
theorem c3S (w:Wk) (n:Nat) (a:Am) (x:Ast) (u:List Nm.Rt) (hw1:w.arms.length<=1000) (hw2:w.parts.length<=1000) (ga:w.arms[n]?=some a) (hl:Ab 1073741824 a) (ha:J2 a=0) (hh:x.holds=-1)
  (hxl:x.q.length=a.links.length) (hul:u.length=a.links.length) (hqb:∀ r ∈ x.q,Rb 1024 r) (hf:∀ (i:Nat) (l:Lk) (y:Nm.Rt),a.links[i]?=some l->u[i]?=some y->Few l y) :
  FZ 7 [w.c,ints n,x.c,rts u] (.tup [cls (a6v (Y8 a (I9 a.links x.q u))),ints (cellsE (Y8 a (I9 a.links x.q u)))]):=by
 refine kW b4g b3J (by rfl) fun w' O hw=>?_
 have hn:=(c6Y.1 ga).1
 have h1:=b6F a x.q u hl ha hxl hul hqb hf
 rw [b2U] at h1
 have hql:=b1c (L:=a.links) hxl hul
 have hqz:=b5l hqb hf
 have h2:=b3F w n a (I9 a.links x.q u) hw1 hw2 ga hl ha hql hqz
 have hbl:=b4L hql
 have hbb:=c0o ha hql hqz
 have hl3:=(Z0 ha).2
 have hR:a6v (Y8 a (I9 a.links x.q u))=if cellsE (Y8 a (I9 a.links x.q u))=0 then L9 (Y8 a (I9 a.links x.q u)) else []:=rfl
 have hE:cellsE (Y8 a (I9 a.links x.q u))=if a5X (Y8 a (I9 a.links x.q u))=0 then if 400 < (L9 (Y8 a (I9 a.links x.q u))).length then 2 else 0 else a5X (Y8 a (I9 a.links x.q u)):=rfl
 rw [hR]
 generalize Y8 a (I9 a.links x.q u)=bs at *
 generalize I9 a.links x.q u=Q at *
 generalize cellsE bs=E at *
 obtain ⟨tk,htk⟩:∃ t,t=Q7 (a.links.zip u)+1:=⟨_,rfl⟩
 rw [<- htk] at h1
 clear hqz hql hf hqb hR htk
 obtain ⟨arms,walls,parts,slots,gates,walk⟩:=w
 obtain ⟨q,v,mov,holds⟩:=x
 obtain ⟨name,⟨bx,by',half,tu⟩,links⟩:=a
 simp only at ga hn hw1 hw2 hh hxl hul hl3 hbl h1 h2
 subst hh
 have e1:decide ((n:Int) < 0)=false:=decide_eq_false (by omega)
 have e2:decide ((arms.length:Int)<=(n:Int))=false:=decide_eq_false (by omega)
 simp only [a7L,j5,TT,II,OA,OB,OC,MM,LL,VV,FF,MG,VG,FG]
 simp only [Wk.c,Wk.enc,Am.c,Am.enc,Ast.c,Ast.enc,ams,wls,pts,sls,gts,lks,rts,sb,ints] at h1 h2 ⊢
 (repeat first|refine uA ?_|(refine uK ?_ ?_;focus first|omega|(intros;simp_all<;>omega))|simp (disch:=omega) only [go_sem,Nat.reduceBEq,Nat.reduceAdd,c6U,c7f,ga,c6V,c7a,Am.enc,lks,sb,e1,e2,hxl,hul])
 refine S.cond rfl (fun hc=>by simp at hc) (fun hc=>?_)
 (repeat first|refine uA ?_|(refine uK ?_ ?_;focus first|omega|(intros;simp_all<;>omega))|simp (disch:=omega) only [go_sem,Nat.reduceBEq,Nat.reduceAdd,c6U,c7f,ga,c6V,c7a,Am.enc,lks,sb]|(refine uD h1 ?_ ?_ ?_;exact tz hw;exact rfl))
 refine S.cond rfl (fun hc=>by simp at hc) (fun hc=>?_)
 (repeat first|refine uA ?_|(refine uK ?_ ?_;focus first|omega|(intros;simp_all<;>omega))|simp (disch:=omega) only [go_sem,Nat.reduceBEq,Nat.reduceAdd]|(refine uD h2 ?_ ?_ ?_;exact tz hw;exact rfl))
 refine S.cond rfl (fun hc=>by simp at hc) (fun hc=>?_)
 clear h1 h2
 (repeat first|refine uA ?_|(refine uK ?_ ?_;focus first|omega|(intros;simp_all<;>omega))|simp (disch:=omega) only [go_sem,Nat.reduceBEq,c6U])
 refine S.loop (X:=Nat) (fun i=>⟨[(14,cls (L9 (bs.take i))),(77,.sl 12 (bs.map Bq.enc)),(78,ints bs.length),(79,ints i)],[]⟩) (fun i=>i<=bs.length/\∀ j,j < i->∀ c,bs[j]?=some c->ofE c=0) (fun i=>bs.length-i) 0 ⟨c6Z _,fun _ h=>absurd h (Nat.not_lt_zero _)⟩ (by simp only [List.take_zero,show L9 []=[] from rfl,cls,c7q];exact Ent.mk _ _ (by repeat' (first|exact P6.nil|exact Imp.refl rfl|exact Imp.F5|refine P6.cons ?_ ?_)) (by repeat' (first|exact D7.nil|refine D7.cons (RI.gone _) ?_)) (c6Z _)) ?_
 rintro i ⟨hi,hm⟩
 simp only [cls,ints]
 (repeat first|refine uA ?_|(refine uK ?_ ?_;focus first|omega|(intros;simp_all<;>omega))|simp (disch:=omega) only [go_sem,Nat.reduceBEq])
 (refine uJ rfl (fun hc=>?_) fun hc=>?_)
 ·have hi':i < bs.length:=by omega
  have hg:=c6T hi'
  generalize bs[i]=b at hg
  have hb:=hbb b (c6W hg)
  have o1:=c4s b ⟨hb.1.mono (by decide),hb.2.1.mono (by decide),hb.2.2.1.mono (by decide),hb.2.2.2.mono (by decide)⟩
  have hs:L9 (bs.take (i+1))=a3d (L9 (bs.take i)) (ofC b):=by rw [List.take_add_one,hg];exact b6n _ _
  have hcl:=b7p (bs.take i)
  rw [c7d] at hcl
  have o2:=c5q (L9 (bs.take i)) (ofC b) (by omega) (c6X (b1M b) (by decide))
  rw [<- hs] at o2
  have hbad:=fun h:ofE b ≠ 0=>c1M hg h hm
  have hmn:ofE b=0->∀ j,j < i+1->∀ c,bs[j]?=some c->ofE c=0:=fun h j hj c hcj=>by
   rcases c7p j i with h1|h1
   ·exact hm j h1 c hcj
   ·have:j=i:=by omega
    subst this
    rw [hg] at hcj
    cases hcj
    exact h
  clear hs
  generalize hT1:L9 (bs.take (i+1))=T1 at *
  generalize L9 (bs.take i)=T at *
  generalize ofC b=D at *
  generalize ofE b=e at *
  simp only [Bq.enc,cls,sb,ints] at o1 o2
  (repeat first|refine uA ?_|(refine uK ?_ ?_;focus first|omega|(intros;simp_all<;>omega))|simp (disch:=omega) only [go_sem,Nat.reduceBEq,Nat.reduceAdd,hg,c6U,c7f,c6V,c7a,Bq.enc,sb]|(refine uD o1 ?_ ?_ ?_;exact tz hw;exact rfl))
  (refine uJ rfl (fun hc=>?_) fun hc=>?_)
  ·have hbd:=hbad hc
   rw [hbd,if_neg hc] at hE
   rw [hE,if_neg hc]
   (repeat first|refine uA ?_|(refine uK ?_ ?_;focus first|omega|(intros;simp_all<;>omega))|simp (disch:=omega) only [go_sem,Nat.reduceBEq])
   (refine S.done ?_;simp only [p8,go_sem,Nat.reduceBEq];(repeat (refine ⟨?_,?_⟩;focus first|trivial|omega|simp));exact j3.out rfl (Imp.tup (by (repeat' (first|exact j4.nil|exact Imp.refl rfl|exact Imp.frz rfl rfl rfl|exact Imp.F5|refine Imp.agg ?_|refine j4.cons ?_ ?_)))) rfl)
  ·have hc0:e=0:=by omega
   (repeat first|refine uA ?_|(refine uK ?_ ?_;focus first|omega|(intros;simp_all<;>omega))|simp (disch:=omega) only [go_sem,Nat.reduceBEq,ww]|(refine uB o2 ?_ ?_;exact rfl))
   refine S.next (x:=i) (i+1) ⟨by omega,hmn hc0⟩ (by omega) (by simp only [hT1];exact (by (repeat first|refine uA ?_|(refine ⟨?_,?_⟩;focus first|rfl|simp [slot])|rfl|simp)))
 ·have hi':i=bs.length:=by omega
  subst hi'
  rw [b9i hm,if_pos rfl] at hE
  rw [c7l]
  generalize L9 bs=T at *
  (repeat first|refine uA ?_|(refine uK ?_ ?_;focus first|omega|(intros;simp_all<;>omega))|simp (disch:=omega) only [go_sem,Nat.reduceBEq,c6U])
  (refine uJ rfl (fun hc=>?_) fun hc=>?_)
  ·rw [if_pos (by omega)] at hE
   rw [hE,if_neg (by decide)]
   (repeat first|refine uA ?_|(refine uK ?_ ?_;focus first|omega|(intros;simp_all<;>omega))|simp (disch:=omega) only [go_sem])
   (refine S.done ?_;simp only [p8,go_sem,Nat.reduceBEq];(repeat (refine ⟨?_,?_⟩;focus first|trivial|omega|simp));exact j3.out rfl (Imp.tup (by (repeat' (first|exact j4.nil|exact Imp.refl rfl|exact Imp.frz rfl rfl rfl|exact Imp.F5|refine Imp.agg ?_|refine j4.cons ?_ ?_)))) rfl)
  ·rw [if_neg (by omega)] at hE
   rw [hE,if_pos rfl]
   (repeat first|refine uA ?_|(refine uK ?_ ?_;focus first|omega|(intros;simp_all<;>omega))|simp (disch:=omega) only [go_sem,Nat.reduceBEq])
   (refine S.done ?_;simp only [p8,go_sem,Nat.reduceBEq];(repeat (refine ⟨?_,?_⟩;focus first|trivial|omega|simp));exact j3.out rfl (Imp.tup (by (repeat' (first|exact j4.nil|exact Imp.refl rfl|exact Imp.frz rfl rfl rfl|exact Imp.F5|refine Imp.agg ?_|refine j4.cons ?_ ?_)))) rfl)
def a5H:N9:=⟨57,[.cell 4 true 6,.tmp 5],.seq (.reg [OA 4 (.alloc 59 [.bool false,.string ⟨#[]⟩,.string ⟨#[]⟩,.bool false,.string ⟨#[]⟩,.string ⟨#[]⟩]),OA 5 (.mv (.const (.bool false)))]) (.seq (.seq (.reg [MM 13 0,OA 14 (.len false
 (TT 13)),OA 15 (.mv (II 0))]) (.block 0 (.loop (.seq (.reg [OA 16 (.bin .lss (TT 15) (TT 14))]) (.seq (.cond (TT 16) .skip (.exit 0)) (.seq (.block 1 (.seq (.reg [MM 17 15,OA 18 (.q8 6 (TT 13) (TT 15)),LL 19 6 18,OA 7
 (.alloc 59 [.bool false,.string ⟨#[]⟩,.string ⟨#[]⟩,.bool false,.string ⟨#[]⟩,.string ⟨#[]⟩]),MM 6 17,OB (.store 6 (TT 7) (TT 19))]) (.seq (.E8 [.q,.q,.q,.q,.q,.q,.q,.q,.q,.q,.a,.e (some 8) true] [MM 20 0,MM
 21 6,OA 22 (.bin .add (TT 21) (II 1)),MM 23 0,OA 24 (.len false (TT 23)),OA 25 (.bin .rem (TT 22) (TT 24)),OA 26 (.q8 6 (TT 20) (TT 25)),LL 27 6 26,LL 28 6 7,OA 29 (.call 168 [TT 27,TT 28]),OA 8 (.alloc 59 [.bool
 false,.string ⟨#[]⟩,.string ⟨#[]⟩,.bool false,.string ⟨#[]⟩,.string ⟨#[]⟩]),OB (.store 6 (TT 8) (TT 29))]) (.seq (.E8 [.q,.q,.q,.q,.q,.q,.a,.e (some 9) true] [FF 30 3 8,LL 31 3 30,FF 32 0 8,LL 33 3 32,OA 34
 (.call 17 [TT 33]),OA 35 (.build [.bool false,.string ⟨#[]⟩,.string ⟨#[]⟩,.bool false,.string ⟨#[]⟩,.string ⟨#[]⟩] [(0,(3,TT 31)),(3,(3,TT 34))]),OA 9 (.alloc 59 [.bool false,.string ⟨#[]⟩,.string ⟨#[]⟩,.bool
 false,.string ⟨#[]⟩,.string ⟨#[]⟩]),OB (.store 6 (TT 9) (TT 35))]) (.seq (.reg [OA 10 (.mv (.const (.bool true)))]) (.seq (.seq (.reg [MM 36 1,OA 37 (.len false (TT 36)),OA 38 (.mv (II 0))]) (.block 2 (.loop (.seq (.reg [OA
 39 (.bin .lss (TT 38) (TT 37))]) (.seq (.cond (TT 39) .skip (.exit 2)) (.seq (.block 3 (.seq (.reg [OA 40 (.q8 6 (TT 36) (TT 38)),LL 41 6 40,OA 12 (.alloc 59 [.bool false,.string ⟨#[]⟩,.string ⟨#[]⟩,.bool false,.string
 ⟨#[]⟩,.string ⟨#[]⟩]),OB (.store 6 (TT 12) (TT 41))]) (.E8 [.q,.q,.q,.q,.q,.q,.q,.q,.q,.q,.q] [MM 42 10,MM 43 42,LG 44 6 9 43 true,LG 45 6 12 43 true,LG 46 6 7 43 true,OC 47 (.call 168 [TT 45,TT 46]) 43 true,
 OC 48 (.call 169 [TT 44,TT 47]) 43 true,OC 49 (.call 97 [TT 48]) 43 true,OC 50 (.bin .gtr (TT 49) (II 0)) 43 true,OA 51 (.pick (TT 43) (TT 50) (.const (.bool false))),MM 10 51]))) (.reg [OA 52 (.bin .add (TT 38) (II 1)),MM
 38 52]))))))) (.seq (.reg [MM 53 10]) (.cond (TT 53) (.seq (.reg [LL 54 6 9,OB (.store 6 (TT 4) (TT 54)),OA 5 (.mv (.const (.bool true)))]) .ret) .skip)))))))) (.reg [OA 55 (.bin .add (TT 15) (II 1)),MM 15 55]))))))) (.seq
 (.reg [OA 56 (.build [.bool false,.string ⟨#[]⟩,.string ⟨#[]⟩,.bool false,.string ⟨#[]⟩,.string ⟨#[]⟩] []),OB (.store 6 (TT 4) (TT 56)),OA 5 (.mv (.const (.bool false)))]) .ret))⟩
theorem b0W:J5 eff Tryz.prog Tryz.f131=some a5H:=by kernel_rfl
theorem b0x:Tryz.prog.funcs[131]?=some Tryz.f131:=Tryz.func131
theorem c5k (a b c d:Rat) (ha:Rb 1000000000 (Nm.ofQ a)) (hb:Rb 1000000000 (Nm.ofQ b)) (hc:Rb 1000000000 (Nm.ofQ c)) (hd:Rb 1000000000 (Nm.ofQ d)) :
  FZ 169 [vq a b,vq c d] (rq (a*c+b*d)):=by
 refine kW Tryz.func169 (by cbv) (by rfl) fun w O hw=>?_
 have h1:=a0V a c (ha.mono (by decide)) (hc.mono (by decide))
 have h2:=a0V b d (hb.mono (by decide)) (hd.mono (by decide))
 have h3:=a3L (a*c) (b*d) ((H7 ha hc).mono (by decide)) ((H7 hb hd).mono (by decide))
 unfold vq rq at *
 generalize Nm.ofQ (a*c+b*d)=r3 at *
 generalize Nm.ofQ (a*c)=r1 at *
 generalize Nm.ofQ (b*d)=r2 at *
 simp only [j5,TT,OA,OB,LL,FF]
 simp only [rc,vc,sb] at *
 (repeat first|refine uA ?_|(apply uK;focus first|omega|(intros;simp_all<;>omega))|simp (disch:=omega) only [go_sem,Nat.reduceBEq,Nat.reduceAdd]|(apply uD h1;exact tz hw;rfl)|(apply uD h2;exact tz hw;rfl)|(apply uD h3;exact tz hw;rfl))
 (refine S.done ?_;simp only [p8,r9,go_sem,Nat.reduceBEq,Nat.reduceAdd,Nat.reduceLeDiff];(repeat (refine ⟨?_,?_⟩;focus first|trivial|omega|simp));exact j3.out rfl (Imp.refl rfl) rfl)
theorem b5s (l:List Vt) (hl:Vbs 1073741824 l):FZ 167 [vts l] (ints (L6 l 64)):=by
 refine kW Tryz.func167 (by cbv) (by rfl) fun w O hw=>?_
 have h:FZ 171 [vts l,ints 64] (ints (L6 l 64)):=b4o l 64 hl (by decide)
 generalize L6 l 64=e at *
 simp only [j5,TT,II,OA,MM]
 simp only [vts,ints] at *
 (repeat first|refine uA ?_|(apply uK;focus omega)|simp (disch:=omega) only [go_sem,Nat.reduceBEq]|(apply uD h;exact tz hw;rfl))
 exact S.done (j3.out rfl (Imp.refl rfl) rfl)
def a6L (a b:List Vt):Int:=if L6 a 64=0 then L6 b 64 else L6 a 64
theorem c5b (a b:List Vt) (ha:Vbs 1073741824 a) (hb:Vbs 1073741824 b):FZ 130 [vts a,vts b] (ints (a6L a b)):=by
 refine kW Tryz.func130 (by cbv) (by rfl) fun w O hw=>?_
 have h1:=b5s a ha
 have h2:=b5s b hb
 unfold a6L
 generalize L6 a 64=e1 at *
 generalize L6 b 64=e2 at *
 simp only [j5,TT,II,OA,MM]
 simp only [vts,ints] at *
 (repeat first|refine uA ?_|(apply uK;focus omega)|simp (disch:=omega) only [go_sem,Nat.reduceBEq]|(apply uD h1;exact tz hw;rfl))
 (refine uJ rfl (fun hc=>?_) fun hc=>?_)
 ·rw [if_neg (by omega)]
  (repeat first|refine uA ?_|(apply uK;focus omega)|simp (disch:=omega) only [go_sem,Nat.reduceBEq])
  exact S.done (j3.out rfl (Imp.refl rfl) rfl)
 ·rw [if_pos (by omega)]
  (repeat first|refine uA ?_|(apply uK;focus first|omega|(intros;simp_all<;>omega))|simp (disch:=omega) only [go_sem,Nat.reduceBEq,Nat.reduceAdd]|(apply uD h2;exact tz hw;rfl))
  exact S.done (j3.out rfl (Imp.refl rfl) rfl)
def b8p (x y q:Vt):Int:=E9 ((Nm.d9 y.y-Nm.d9 x.y)*(Nm.d9 q.x-Nm.d9 x.x)+(-(Nm.d9 y.x-Nm.d9 x.x))*(Nm.d9 q.y-Nm.d9 x.y))
def a0F (a b:List Vt) (i:Nat):Bool:=b.all fun q=>decide (0 < b8p (a.getD i Vt.zero) (a.getD ((i+1) % a.length) Vt.zero) q)
def a2H (a b:List Vt):Bool:=(List.range a.length).any (a0F a b)
theorem b8n {a b:List Vt} {i:Nat} (hi:i < a.length) (h:a0F a b i=true):a2H a b=true:=List.any_eq_true.2 ⟨i,List.mem_range.2 hi,h⟩
theorem b5T {a b:List Vt} (h:∀ j,j < a.length->a0F a b j=false):a2H a b=false:=by
 unfold a2H
 rw [List.any_eq_false]
 intro j hj
 rw [h j (List.mem_range.1 hj)]
 decide
def b7N (x y:Vt):Vt:=⟨Nm.ofQ (Nm.d9 y.y-Nm.d9 x.y),Nm.ofQ (-(Nm.d9 y.x-Nm.d9 x.x))⟩
def a3v (a b:List Vt):Vt:=match (List.range a.length).find? (a0F a b) with
 | some i=>b7N (a.getD i Vt.zero) (a.getD ((i+1) % a.length) Vt.zero)
 | none=>Vt.zero
theorem b6r {a b:List Vt} {i:Nat} {x y:Vt} (hx:a[i]?=some x) (hy:a[(i+1) % a.length]?=some y) (h:a0F a b i=true) (hm:∀ j,j < i->a0F a b j=false):a3v a b=b7N x y:=by
 have hi:=(c6Y.1 hx).1
 have:(List.range a.length).find? (a0F a b)=some i:=by
  rw [List.find?_eq_some_iff_getElem]
  exact ⟨h,i,by simpa using hi,by simp,fun j hj=>by simp [hm j hj]⟩
 unfold a3v
 rw [this]
 simp only
 rw [c7g,c7g,hx,hy]
 rfl
theorem b4n {a b:List Vt} (hm:∀ j,j < a.length->a0F a b j=false):a3v a b=Vt.zero:=by
 have:(List.range a.length).find? (a0F a b)=none:=List.find?_eq_none.2 fun j hj=>by simp [hm j (List.mem_range.1 hj)]
 unfold a3v
 rw [this]
theorem b5u (a b:List Vt) (ha:Vbs 268435456 a) (hb:Vbs 268435456 b):FZ 131 [vts a,vts b] (.tup [(a3v a b).c,.v (.bool (a2H a b))]):=by
 refine kW b0x b0W (by rfl) fun w O hw=>?_
 obtain ⟨an,ab⟩:=ha
 obtain ⟨bn,bb⟩:=hb
 simp only [a5H,j5,TT,II,OA,OB,OC,MM,LL,FF,LG]
 simp only [vts]
 (repeat first|refine uA ?_|(apply uK;focus omega)|simp (disch:=omega) only [go_sem,Nat.reduceBEq,c6U])
 refine S.loop (X:=Nat) (fun i=>⟨[(0,vts a),(1,vts b),(4,.bp 0 0),(13,vts a),(14,ints a.length),(15,ints i)],[.box 59 [.v (.bool false),sb [],sb [],.v (.bool false),sb [],sb []]]⟩) (fun i=>i<=a.length/\∀ j,j < i->a0F a b j=false) (fun i=>a.length-i) 0 ⟨c6Z _,fun _ h=>absurd h (Nat.not_lt_zero _)⟩ (by (repeat first|refine uA ?_|(refine ⟨?_,?_⟩;focus first|rfl|simp [slot])|rfl|simp)) ?_
 rintro i ⟨hi,hm⟩
 simp only [vts,ints,sb]
 (repeat first|refine uA ?_|(apply uK;focus omega)|simp (disch:=omega) only [go_sem,Nat.reduceBEq])
 (refine uJ rfl (fun hc=>?_) fun hc=>?_)
 ·have hi':i < a.length:=by omega
  have hylt:(i+1) % a.length < a.length:=Nat.mod_lt _ (by omega)
  have gx:=c6T hi'
  have gy:=c6T hylt
  generalize a[i]=x at gx
  generalize a[(i+1) % a.length]=y at gy
  have haw:a0F a b i=b.all fun q=>decide (0 < b8p x y q):=by
   unfold a0F
   rw [c7g,c7g,gx,gy]
   rfl
  have hV:=fun h=>b6r (b:=b) gx gy h hm
  unfold b7N at hV
  have hx:=ab x (c6W gx)
  have hy:=ab y (c6W gy)
  have o1:=b0w y.x y.y x.x x.y (hy.1.mono (by decide)) (hy.2.mono (by decide)) (hx.1.mono (by decide)) (hx.2.mono (by decide))
  have g1:=R4 (hy.1.fit (by decide)) (hx.1.fit (by decide))
  have g2:=R4 (hy.2.fit (by decide)) (hx.2.fit (by decide))
  have o2:=a5q (Nm.ofQ (Nm.d9 y.x-Nm.d9 x.x)) (g1.mono (by decide))
  have g3:=a1c g1
  rw [Nm.p9] at o2
  unfold b8p at haw
  generalize Nm.d9 y.y-Nm.d9 x.y=n1 at *
  generalize Nm.d9 y.x-Nm.d9 x.x=m1 at *
  generalize -m1=n2 at *
  simp only [vq,rq,rc,vc,sb] at o1 o2
  (repeat first|refine uA ?_|(apply uK;focus first|omega|(intros;simp_all<;>omega))|simp (disch:=omega) only [go_sem,Nat.reduceBEq,Nat.reduceAdd,ww,gx,gy,c6V,tmod_one,c6U,c7f,Vt.enc,sb,c7a]|(apply uD o1;exact tz hw;rfl)|(apply uD o2;exact tz hw;rfl))
  refine S.loop (X:=Nat) (fun j=>⟨[(0,vts a),(1,vts b),(4,.bp 0 0),(7,.bp 1 0),(9,.bp 3 0),(10,.v (.bool ((b.take j).all fun q=>decide (0 < E9 (n1*(Nm.d9 q.x-Nm.d9 x.x)+n2*(Nm.d9 q.y-Nm.d9 x.y)))))),(13,vts a),(14,ints a.length),(15,ints i),(36,vts b),(37,ints b.length),(38,ints j)],[.box 59 [.v (.bool false),sb [],sb [],.v (.bool false),sb [],sb []],.box 59 x.enc,.gone,.box 59 (Vt.mk (Nm.ofQ n1) (Nm.ofQ n2)).enc]⟩) (fun j=>j<=b.length) (fun j=>b.length-j) 0 (c6Z _) (by simp only [List.take_zero,List.all_nil,Vt.enc,sb];exact (by (repeat first|refine uA ?_|(refine ⟨?_,?_⟩;focus first|rfl|simp [slot])|rfl|simp))) ?_
  intro j hj
  clear o1 o2
  simp only [vts,ints,Vt.enc,sb]
  (repeat first|refine uA ?_|(apply uK;focus omega)|simp (disch:=omega) only [go_sem,Nat.reduceBEq])
  (refine uJ rfl (fun hc=>?_) fun hc=>?_)
  ·have hj':j < b.length:=by omega
   have gq:=c6T hj'
   generalize b[j]=q at gq
   have hq:=bb q (c6W gq)
   have o1:=b0w q.x q.y x.x x.y (hq.1.mono (by decide)) (hq.2.mono (by decide)) (hx.1.mono (by decide)) (hx.2.mono (by decide))
   have k1:=R4 (hq.1.fit (by decide)) (hx.1.fit (by decide))
   have k2:=R4 (hq.2.fit (by decide)) (hx.2.fit (by decide))
   have hts:(b.take (j+1)).all (fun q=>decide (0 < E9 (n1*(Nm.d9 q.x-Nm.d9 x.x)+n2*(Nm.d9 q.y-Nm.d9 x.y))))=((b.take j).all (fun q=>decide (0 < E9 (n1*(Nm.d9 q.x-Nm.d9 x.x)+n2*(Nm.d9 q.y-Nm.d9 x.y)))) && decide (0 < E9 (n1*(Nm.d9 q.x-Nm.d9 x.x)+n2*(Nm.d9 q.y-Nm.d9 x.y)))):=by
    rw [List.take_add_one,gq,List.all_append]
    simp
   generalize hB1:(b.take (j+1)).all (fun q=>decide (0 < E9 (n1*(Nm.d9 q.x-Nm.d9 x.x)+n2*(Nm.d9 q.y-Nm.d9 x.y))))=B1 at *
   generalize (b.take j).all (fun q=>decide (0 < E9 (n1*(Nm.d9 q.x-Nm.d9 x.x)+n2*(Nm.d9 q.y-Nm.d9 x.y))))=B0 at *
   generalize Nm.d9 q.x-Nm.d9 x.x=d1 at *
   generalize Nm.d9 q.y-Nm.d9 x.y=d2 at *
   have o2:=c5k n1 n2 d1 d2 (g2.mono (by decide)) (g3.mono (by decide)) (k1.mono (by decide)) (k2.mono (by decide))
   have k3:=Q9 (H7 g2 k1) (H7 g3 k2)
   have o3:=a0j (Nm.ofQ (n1*d1+n2*d2)) (k3.mono (by decide))
   rw [Nm.p9] at o3
   generalize E9 (n1*d1+n2*d2)=c at *
   generalize n1*d1+n2*d2=d at *
   clear k1 k2 k3 hq
   simp only [vq,rq,rc,vc,sb,ints] at o1 o2 o3
   (repeat first|refine uA ?_|(apply uK;focus omega)|simp (disch:=omega) only [go_sem,Nat.reduceBEq,ww,gq,c6V,c6U,c7f,Vt.enc,sb,c7a]|(apply uD o1;exact tz hw;rfl)|(apply uD o2;exact tz hw;rfl)|(apply uD o3;exact tz hw;rfl))
   refine S.next (j+1) (by omega) (by omega) (by simp only [hB1,hts];exact (by (repeat first|refine uA ?_|(refine ⟨?_,?_⟩;focus first|rfl|simp [slot])|rfl|simp)))
  ·have hj':j=b.length:=by omega
   subst hj'
   rw [c7l]
   rw [<- haw]
   generalize hA:a0F a b i=A at *
   clear haw
   (repeat first|refine uA ?_|(apply uK;focus omega)|simp (disch:=omega) only [go_sem,Nat.reduceBEq])
   refine S.cond rfl (fun hc=>?_) (fun hc=>?_)
   ·rw [b8n hi' (hA.trans hc),hV hc]
    simp only [Vt.c,Vt.enc,sb]
    (repeat first|refine uA ?_|(apply uK;focus omega)|simp (disch:=omega) only [go_sem,Nat.reduceBEq])
    (refine S.done ?_;simp only [p8,r9,go_sem,Nat.reduceBEq,Nat.reduceAdd,Nat.reduceLeDiff];(repeat (refine ⟨?_,?_⟩;focus first|trivial|omega|simp));exact j3.out rfl (Imp.tup (by (repeat' (first|exact j4.nil|exact Imp.refl rfl|exact Imp.frz rfl rfl rfl|exact Imp.F5|refine Imp.agg ?_|refine j4.cons ?_ ?_)))) rfl)
   ·have hcf:=hA.trans hc
    (repeat first|refine uA ?_|(apply uK;focus omega)|simp (disch:=omega) only [go_sem,Nat.reduceBEq,ww])
    refine S.next (x:=i) (i+1) ⟨by omega,fun k hk=>?_⟩ (by omega) (by (repeat first|refine uA ?_|(refine ⟨?_,?_⟩;focus first|rfl|simp [slot])|rfl|simp))
    rcases c7p k i with h|h
    ·exact hm k h
    ·have:k=i:=by omega
     subst this
     exact hcf
 ·have hi':i=a.length:=by omega
  subst hi'
  rw [b5T hm,b4n hm]
  simp only [Vt.c,Vt.enc,Vt.zero,sb]
  (repeat first|refine uA ?_|(apply uK;focus omega)|simp (disch:=omega) only [go_sem,Nat.reduceBEq])
  (refine S.done ?_;simp only [p8,r9,go_sem,Nat.reduceBEq,Nat.reduceAdd,Nat.reduceLeDiff];(repeat (refine ⟨?_,?_⟩;focus first|trivial|omega|simp));exact j3.out rfl (Imp.tup (by (repeat' (first|exact j4.nil|exact Imp.refl rfl|exact Imp.frz rfl rfl rfl|exact Imp.F5|refine Imp.agg ?_|refine j4.cons ?_ ?_)))) rfl)
def b1e (a b:List Vt):Bool:=decide (a6L a b=0) && (!a2H a b && !a2H b a)
theorem c1P (a b:List Vt) (ha:Vbs 268435456 a) (hb:Vbs 268435456 b):FZ 70 [vts a,vts b] (.tup [.v (.bool (b1e a b)),ints (a6L a b)]):=by
 refine kW Tryz.func70 (by cbv) (by rfl) fun w O hw=>?_
 have h1:=c5b a b ⟨c6X ha.1 (by decide),fun v hv=>(ha.2 v hv).mono (by decide)⟩ ⟨c6X hb.1 (by decide),fun v hv=>(hb.2 v hv).mono (by decide)⟩
 have h2:=b5u a b ha hb
 have h3:=b5u b a hb ha
 unfold b1e
 generalize a6L a b=e at *
 generalize a2H a b=u1 at *
 generalize a2H b a=u2 at *
 generalize a3v a b=v1 at *
 generalize a3v b a=v2 at *
 simp only [j5,TT,II,OA,OB,OC,MM,MG]
 simp only [vts,ints,Vt.c,Vt.enc,sb] at *
 (repeat first|refine uA ?_|(apply uK;focus first|omega|(intros;simp_all<;>omega))|simp (disch:=omega) only [go_sem,Nat.reduceBEq,Nat.reduceAdd]|(apply uD h1;exact tz hw;rfl))
 (refine uJ rfl (fun hc=>?_) fun hc=>?_)
 ·rw [decide_eq_false (by omega),Bool.false_and]
  (repeat first|refine uA ?_|(apply uK;focus omega)|simp (disch:=omega) only [go_sem,Nat.reduceBEq])
  (refine S.done ?_;simp only [p8,go_sem,Nat.reduceBEq];exact j3.out rfl (Imp.tup (by (repeat' (first|exact j4.nil|exact Imp.refl rfl|exact Imp.frz rfl rfl rfl|exact Imp.F5|refine Imp.agg ?_|refine j4.cons ?_ ?_)))) rfl)
 ·have he:e=0:=by omega
  subst he
  (repeat first|refine uA ?_|(apply uK;focus omega)|simp (disch:=omega) only [go_sem,Nat.reduceBEq]|(apply uD h2;exact tz hw;rfl)|(apply uD h3;exact tz hw;rfl))
  refine S.done ?_
  simp only [p8,go_sem,Nat.reduceBEq,Nat.reduceAdd]
  (repeat (refine ⟨?_,?_⟩;focus first|trivial|omega|simp))
  exact j3.out rfl (Imp.tup (j4.cons (Imp.eq (by cases u1<;>cases u2<;>rfl) rfl) (j4.cons (Imp.refl rfl) j4.nil))) rfl
theorem c5s (g:Nat) (hcal:callable Tryz.prog g=true) (c1:List C) (p:List Vt->Bool) (l:List (List Vt)) (hn:l.length<=1000000000) (hg:∀ x ∈ l,FZ g [vts x,.ep c1] (.v (.bool (p x)))) :
  FZ 129 [wls l,.clo g [.ep c1]] (ints (a0K p l)):=by
 refine kW Tryz.func129 (by cbv) (by rfl) fun w O hw=>?_
 simp only [j5,TT,II,OA,MM,VV,wls,ints]
 (repeat first|refine uA ?_|(apply uK;focus omega)|simp (disch:=omega) only [go_sem,Nat.reduceBEq,c6U])
 refine S.loop (X:=Nat) (fun i=>⟨[(0,wls l),(1,.clo g [.ep c1]),(7,ints l.length),(8,ints i)],[]⟩) (fun i=>i<=l.length/\∀ j,j < i->∀ x,l[j]?=some x->p x=false) (fun i=>l.length-i) 0 ⟨c6Z _,fun _ h=>absurd h (Nat.not_lt_zero _)⟩ (by (repeat first|refine uA ?_|(refine ⟨?_,?_⟩;focus first|rfl|simp [slot])|rfl|simp)) ?_
 rintro i ⟨hi,hm⟩
 simp only [wls,ints]
 (repeat first|refine uA ?_|(apply uK;focus omega)|simp (disch:=omega) only [go_sem,Nat.reduceBEq])
 (refine uJ rfl (fun hc=>?_) fun hc=>?_)
 ·have hi':i < l.length:=by omega
  have hgi:=c6T hi'
  generalize l[i]=x at hgi
  have hs:=hg x (c6W hgi)
  simp only [vts] at hs
  generalize hpx:p x=b at hs
  (repeat first|refine uA ?_|(apply uK;focus omega)|simp (disch:=omega) only [go_sem,Nat.reduceBEq,hgi,c6V,c6U,c7f,vts,c7a,hcal]|(apply uD hs;exact tz hw;rfl))
  refine S.cond rfl (fun hc2=>?_) (fun hc2=>?_)
  ·rw [a1B (p:=p) hgi (hpx.trans hc2) hm]
   (repeat first|refine uA ?_|(apply uK;focus omega)|simp (disch:=omega) only [go_sem,Nat.reduceBEq])
   exact S.done (j3.out rfl (Imp.refl rfl) rfl)
  ·(repeat first|refine uA ?_|(apply uK;focus omega)|simp (disch:=omega) only [go_sem,Nat.reduceBEq,ww])
   refine S.next (i+1) ⟨by omega,fun j hj y hy=>?_⟩ (by omega) (by (repeat first|refine uA ?_|(refine ⟨?_,?_⟩;focus first|rfl|simp [slot])|rfl|simp))
   rcases c7p j i with h1|h1
   ·exact hm j h1 y hy
   ·have:j=i:=by omega
    subst this
    rw [hgi] at hy
    cases hy
    exact hpx.trans hc2
 ·have hi':i=l.length:=by omega
  subst hi'
  rw [a0M hm]
  (repeat first|refine uA ?_|(apply uK;focus omega)|simp (disch:=omega) only [go_sem])
  exact S.done (j3.out rfl (Imp.refl rfl) rfl)
theorem c4l (g:Nat) (hcal:callable Tryz.prog g=true) (c1:List C) (p:List Vt->Bool) (l:List (List Vt)) (hn:l.length<=1000000000) (hg:∀ x ∈ l,FZ g [vts x,.ep c1] (.v (.bool (p x)))) :
  FZ 68 [wls l,.clo g [.ep c1]] (.v (.bool (l.any p))):=by
 refine kW Tryz.func68 (by cbv) (by rfl) fun w O hw=>?_
 have h:=c5s g hcal c1 p l hn hg
 rw [<- a2y]
 generalize a0K p l=n at *
 simp only [j5,TT,II,OA,MM]
 simp only [wls,ints] at *
 (repeat first|refine uA ?_|(apply uK;focus first|omega|(intros;simp_all<;>omega))|simp (disch:=omega) only [go_sem,Nat.reduceBEq,Nat.reduceAdd]|(apply uD h;exact tz hw;rfl))
 exact S.done (j3.out rfl (Imp.refl rfl) rfl)
def bqs (l:List Bq):C:=.sl 12 (l.map Bq.enc)
theorem c4D (g:Nat) (hcal:callable Tryz.prog g=true) (c1:List C) (p:Bq->Bool) (l:List (Bq)) (hn:l.length<=1000000000) (hg:∀ x ∈ l,FZ g [.agg x.enc,.ep c1] (.v (.bool (p x)))) :
  FZ 132 [bqs l,.clo g [.ep c1]] (ints (a0K p l)):=by
 refine kW Tryz.func132 (by cbv) (by rfl) fun w O hw=>?_
 simp only [j5,TT,II,OA,MM,LL,bqs,ints]
 (repeat first|refine uA ?_|(apply uK;focus omega)|simp (disch:=omega) only [go_sem,Nat.reduceBEq,c6U])
 refine S.loop (X:=Nat) (fun i=>⟨[(0,bqs l),(1,.clo g [.ep c1]),(7,ints l.length),(8,ints i)],[]⟩) (fun i=>i<=l.length/\∀ j,j < i->∀ x,l[j]?=some x->p x=false) (fun i=>l.length-i) 0 ⟨c6Z _,fun _ h=>absurd h (Nat.not_lt_zero _)⟩ (by (repeat first|refine uA ?_|(refine ⟨?_,?_⟩;focus first|rfl|simp [slot])|rfl|simp)) ?_
 rintro i ⟨hi,hm⟩
 simp only [bqs,ints]
 (repeat first|refine uA ?_|(apply uK;focus omega)|simp (disch:=omega) only [go_sem,Nat.reduceBEq])
 (refine uJ rfl (fun hc=>?_) fun hc=>?_)
 ·have hi':i < l.length:=by omega
  have hgi:=c6T hi'
  generalize l[i]=x at hgi
  have hs:=hg x (c6W hgi)
  simp only [Bq.enc,sb] at hs
  generalize hpx:p x=b at hs
  (repeat first|refine uA ?_|(apply uK;focus omega)|simp (disch:=omega) only [go_sem,Nat.reduceBEq,hgi,c6V,c6U,c7f,Bq.enc,sb,c7a,hcal]|(apply uD hs;exact tz hw;rfl))
  refine S.cond rfl (fun hc2=>?_) (fun hc2=>?_)
  ·rw [a1B (p:=p) hgi (hpx.trans hc2) hm]
   (repeat first|refine uA ?_|(apply uK;focus omega)|simp (disch:=omega) only [go_sem,Nat.reduceBEq])
   exact S.done (j3.out rfl (Imp.refl rfl) rfl)
  ·(repeat first|refine uA ?_|(apply uK;focus omega)|simp (disch:=omega) only [go_sem,Nat.reduceBEq,ww])
   refine S.next (i+1) ⟨by omega,fun j hj y hy=>?_⟩ (by omega) (by (repeat first|refine uA ?_|(refine ⟨?_,?_⟩;focus first|rfl|simp [slot])|rfl|simp))
   rcases c7p j i with h1|h1
   ·exact hm j h1 y hy
   ·have:j=i:=by omega
    subst this
    rw [hgi] at hy
    cases hy
    exact hpx.trans hc2
 ·have hi':i=l.length:=by omega
  subst hi'
  rw [a0M hm]
  (repeat first|refine uA ?_|(apply uK;focus omega)|simp (disch:=omega) only [go_sem])
  exact S.done (j3.out rfl (Imp.refl rfl) rfl)
theorem c5c (g:Nat) (hcal:callable Tryz.prog g=true) (c1:List C) (p:Bq->Bool) (l:List (Bq)) (hn:l.length<=1000000000) (hg:∀ x ∈ l,FZ g [.agg x.enc,.ep c1] (.v (.bool (p x)))) :
  FZ 72 [bqs l,.clo g [.ep c1]] (.v (.bool (l.any p))):=by
 refine kW Tryz.func72 (by cbv) (by rfl) fun w O hw=>?_
 have h:=c4D g hcal c1 p l hn hg
 rw [<- a2y]
 generalize a0K p l=n at *
 simp only [j5,TT,II,OA,MM]
 simp only [bqs,ints] at *
 (repeat first|refine uA ?_|(apply uK;focus first|omega|(intros;simp_all<;>omega))|simp (disch:=omega) only [go_sem,Nat.reduceBEq,Nat.reduceAdd]|(apply uD h;exact tz hw;rfl))
 exact S.done (j3.out rfl (Imp.refl rfl) rfl)
theorem c4g (g:Nat) (hcal:callable Tryz.prog g=true) (c1 c2 c3:List C) (p:Vt->Bool) (l:List (Vt)) (hn:l.length<=1000000000) (hg:∀ x ∈ l,FZ g [x.c,.ep c1,.ep c2,.ep c3] (.v (.bool (p x)))) :
  FZ 121 [vts l,.clo g [.ep c1,.ep c2,.ep c3]] (ints (a0K p l)):=by
 refine kW Y0 Y2 (by rfl) fun w O hw=>?_
 simp only [Q0,j5,TT,II,OA,MM,LL,vts,ints]
 (repeat first|refine uA ?_|(apply uK;focus omega)|simp (disch:=omega) only [go_sem,Nat.reduceBEq,c6U])
 refine S.loop (X:=Nat) (fun i=>⟨[(0,vts l),(1,.clo g [.ep c1,.ep c2,.ep c3]),(7,ints l.length),(8,ints i)],[]⟩) (fun i=>i<=l.length/\∀ j,j < i->∀ x,l[j]?=some x->p x=false) (fun i=>l.length-i) 0 ⟨c6Z _,fun _ h=>absurd h (Nat.not_lt_zero _)⟩ (by (repeat first|refine uA ?_|(refine ⟨?_,?_⟩;focus first|rfl|simp [slot])|rfl|simp)) ?_
 rintro i ⟨hi,hm⟩
 simp only [vts,ints]
 (repeat first|refine uA ?_|(apply uK;focus omega)|simp (disch:=omega) only [go_sem,Nat.reduceBEq])
 (refine uJ rfl (fun hc=>?_) fun hc=>?_)
 ·have hi':i < l.length:=by omega
  have hgi:=c6T hi'
  generalize l[i]=x at hgi
  have hs:=hg x (c6W hgi)
  simp only [Vt.c,Vt.enc,sb] at hs
  generalize hpx:p x=b at hs
  (repeat first|refine uA ?_|(apply uK;focus omega)|simp (disch:=omega) only [go_sem,Nat.reduceBEq,hgi,c6V,c6U,c7f,Vt.enc,sb,c7a,hcal]|(apply uD hs;exact tz hw;rfl))
  refine S.cond rfl (fun hc2=>?_) (fun hc2=>?_)
  ·rw [a1B (p:=p) hgi (hpx.trans hc2) hm]
   (repeat first|refine uA ?_|(apply uK;focus omega)|simp (disch:=omega) only [go_sem,Nat.reduceBEq])
   exact S.done (j3.out rfl (Imp.refl rfl) rfl)
  ·(repeat first|refine uA ?_|(apply uK;focus omega)|simp (disch:=omega) only [go_sem,Nat.reduceBEq,ww])
   refine S.next (i+1) ⟨by omega,fun j hj y hy=>?_⟩ (by omega) (by (repeat first|refine uA ?_|(refine ⟨?_,?_⟩;focus first|rfl|simp [slot])|rfl|simp))
   rcases c7p j i with h1|h1
   ·exact hm j h1 y hy
   ·have:j=i:=by omega
    subst this
    rw [hgi] at hy
    cases hy
    exact hpx.trans hc2
 ·have hi':i=l.length:=by omega
  subst hi'
  rw [a0M hm]
  (repeat first|refine uA ?_|(apply uK;focus omega)|simp (disch:=omega) only [go_sem])
  exact S.done (j3.out rfl (Imp.refl rfl) rfl)
theorem c4S (g:Nat) (hcal:callable Tryz.prog g=true) (c1 c2 c3:List C) (p:Vt->Bool) (l:List (Vt)) (hn:l.length<=1000000000) (hg:∀ x ∈ l,FZ g [x.c,.ep c1,.ep c2,.ep c3] (.v (.bool (p x)))) :
  FZ 57 [vts l,.clo g [.ep c1,.ep c2,.ep c3]] (.v (.bool (l.any p))):=by
 refine kW X3 X0 (by rfl) fun w O hw=>?_
 have h:=c4g g hcal c1 c2 c3 p l hn hg
 rw [<- a2y]
 generalize a0K p l=n at *
 simp only [O0,j5,TT,II,OA,MM]
 simp only [vts,ints] at *
 (repeat first|refine uA ?_|(apply uK;focus first|omega|(intros;simp_all<;>omega))|simp (disch:=omega) only [go_sem,Nat.reduceBEq,Nat.reduceAdd]|(apply uD h;exact tz hw;rfl))
 exact S.done (j3.out rfl (Imp.refl rfl) rfl)
def a8s (p l:List Vt):Bool:=b1e p l || !decide (a6L p l=0)
theorem c1s (p l:List Vt) (hp:Vbs 268435456 p) (hl:Vbs 268435456 l):FZ 69 [vts l,.ep [vts p]] (.v (.bool (a8s p l))):=by
 refine kW Tryz.func69 (by cbv) (by rfl) fun w O hw=>?_
 have h:=c1P p l hp hl
 unfold a8s
 generalize b1e p l=b at *
 generalize a6L p l=e at *
 simp only [j5,TT,II,OA,OC,MM,VV,MG]
 simp only [vts,ints] at *
 (repeat first|refine uA ?_|(apply uK;focus first|omega|(intros;simp_all<;>omega))|simp (disch:=omega) only [go_sem,Nat.reduceBEq,Nat.reduceAdd]|(apply uD h;exact tz hw;rfl))
 refine S.done ?_
 simp only [p8,go_sem,Nat.reduceBEq]
 (repeat (refine ⟨?_,?_⟩;focus first|trivial|omega|simp))
 exact j3.out rfl (Imp.eq (by cases b<;>simp [a9G]) rfl) rfl
theorem b9Y (b c:Bq) (hb:Bb 4294967296 b) (hc:Bb 4294967296 c):FZ 73 [.agg c.enc,.ep b.enc] (.v (.bool (a7a b c))):=by
 refine kW Tryz.func73 (by cbv) (by rfl) fun w O hw=>?_
 have h:=b9J b c hb hc
 generalize a7a b c=r at *
 simp only [j5,TT,OA,MM,LL]
 simp only [Bq.enc,sb] at *
 (repeat first|refine uA ?_|(apply uK;focus first|omega|(intros;simp_all<;>omega))|simp (disch:=omega) only [go_sem,Nat.reduceBEq,Nat.reduceAdd]|(apply uD h;exact tz hw;rfl))
 exact S.done (j3.out rfl (Imp.refl rfl) rfl)
def a0S (bs:List Bq) (b:Bq):Bool:=bs.any fun c=>a7a b c
theorem b4G (bs:List Bq) (b:Bq) (hn:bs.length<=1000) (hb:Bb 4294967296 b) (hbs:∀ c ∈ bs,Bb 4294967296 c):FZ 71 [.agg b.enc,.ep [bqs bs]] (.v (.bool (a0S bs b))):=by
 refine kW Tryz.func71 (by cbv) (by rfl) fun w O hw=>?_
 have h:=c5c 73 (by kernel_rfl) b.enc (fun c=>a7a b c) bs (by omega) (fun c hc=>b9Y b c hb (hbs c hc))
 unfold a0S
 generalize (bs.any fun c=>a7a b c)=r at *
 simp only [j5,TT,OA,MM,VV]
 simp only [bqs,Bq.enc,sb] at *
 (repeat first|refine uA ?_|(apply uK;focus first|omega|(intros;simp_all<;>omega))|simp (disch:=omega) only [go_sem,Nat.reduceBEq,Nat.reduceAdd]|(apply uE h;exact tz hw;exact rfl;focus (repeat' first|exact j4.nil|exact Imp.refl rfl|exact Imp.F5|exact Imp.fbx rfl rfl (j4.refl rfl) rfl rfl|refine Imp.clo ?_|exact Imp.frz rfl rfl rfl|(refine Imp.U3 rfl rfl ?_ ?_;(focus ((try simp only [c7e]);omega));(focus first|rfl|assumption))|refine Imp.agg ?_|refine j4.cons ?_ ?_);done))
 exact S.done (j3.out rfl (Imp.refl rfl) rfl)
def pvt (p:Rat × Rat):Vt:=⟨Nm.ofQ p.1,Nm.ofQ p.2⟩
theorem c0X (wc:Wk) (bs:List Bq) (p:Rat × Rat) (t:Int) (hn:bs.length<=1000) (hbs:∀ c ∈ bs,Bb 4294967296 c) (hw1:Rb 1048576 wc.walk) (hp:Vb 1048576 (pvt p)) (t0:0<=t) (t1:t<=1000000) :
  FZ 75 [(pvt p).c,.ep [.clo 71 [.ep [bqs bs]]],.ep wc.enc,.ep [ints t]] (.v (.bool (a0S bs (a0Z p.1 p.2 wc.walk t)))):=by
 refine kW Tryz.func75 (by cbv) (by rfl) fun w O hw=>?_
 have o1:=c3F p.1 p.2 wc.walk t hp.1 hp.2 hw1 t0 t1
 have hr:Bb 4294967296 (a0Z p.1 p.2 wc.walk t):=by
  have:=b6R (b:=⟨p.1,p.2,p.1,p.2⟩) (r:=G9 (a8f (Nm.d9 wc.walk) t) 0) ⟨hp.1,hp.2,hp.1,hp.2⟩ (a2p (c2q hw1 t0 t1) (V6.mono (by decide)))
  exact ⟨this.1.mono (by decide),this.2.1.mono (by decide),this.2.2.1.mono (by decide),this.2.2.2.mono (by decide)⟩
 have o2:=b4G bs _ hn hr hbs
 have hcal:callable Tryz.prog 71=true:=by kernel_rfl
 generalize a0S bs (a0Z p.1 p.2 wc.walk t)=r at *
 generalize a0Z p.1 p.2 wc.walk t=R at *
 obtain ⟨arms,walls,parts,slots,gates,walk⟩:=wc
 simp only [j5,TT,OA,MM,LL,VV,FF]
 simp only [bqs,Bq.enc,Wk.enc,Vt.c,Vt.enc,pvt,rc,sb,ints] at *
 (repeat first|refine uA ?_|(apply uK;focus first|omega|(intros;simp_all<;>omega))|simp (disch:=omega) only [go_sem,Nat.reduceBEq,Nat.reduceAdd,hcal]|(apply uD o1;exact tz hw;rfl)|(apply uD o2;exact tz hw;rfl))
 exact S.done (j3.out rfl (Imp.refl rfl) rfl)
theorem c3W (lx ly hx hy:Nm.Rt) (r:Rat) (b1:Rb 1073741824 lx) (b2:Rb 1073741824 ly) (b3:Rb 1073741824 hx) (b4:Rb 1073741824 hy) (hr:Rb 1073741824 (Nm.ofQ r)):FZ 50 [.agg [.v (.bool lx.neg),sb lx.num,sb lx.den,.v (.bool ly.neg),sb ly.num,sb ly.den,.v (.bool hx.neg),sb hx.num,sb hx.den,.v (.bool hy.neg),sb hy.num,sb hy.den],rq r] (.agg (a8E ⟨Nm.d9 lx,Nm.d9 ly,Nm.d9 hx,Nm.d9 hy⟩ r).enc):=by
 refine kW b3s b3n (by rfl) fun w O hw=>?_
 have o1:=a6x lx (Nm.ofQ r) (b1.mono (by decide)) (hr.mono (by decide))
 have o2:=a6x ly (Nm.ofQ r) (b2.mono (by decide)) (hr.mono (by decide))
 have o3:=a5c hx (Nm.ofQ r) (b3.mono (by decide)) (hr.mono (by decide))
 have o4:=a5c hy (Nm.ofQ r) (b4.mono (by decide)) (hr.mono (by decide))
 rw [Nm.p9] at o1 o2 o3 o4
 unfold a8E
 simp only
 generalize Nm.d9 lx-r=x1 at *
 generalize Nm.d9 ly-r=x2 at *
 generalize Nm.d9 hx+r=x3 at *
 generalize Nm.d9 hy+r=x4 at *
 simp only [a7q,j5,TT,OA,OB,LL,FF]
 simp only [Bq.enc,rq,rc,sb] at o1 o2 o3 o4 ⊢
 (repeat first|refine uA ?_|(apply uK;focus first|omega|(intros;simp_all<;>omega))|simp (disch:=omega) only [go_sem,Nat.reduceBEq,Nat.reduceAdd]|(apply uD o1;exact tz hw;rfl)|(apply uD o2;exact tz hw;rfl)|(apply uD o3;exact tz hw;rfl)|(apply uD o4;exact tz hw;rfl))
 (refine S.done ?_;simp only [p8,r9,go_sem,Nat.reduceBEq,Nat.reduceAdd,Nat.reduceLeDiff];(repeat (refine ⟨?_,?_⟩;focus first|trivial|omega|simp));exact j3.out rfl (Imp.refl rfl) rfl)
def a6m:N9:=⟨160,[.tmp 10],.seq (.reg [OA 5 (.box 31 (TT 0)),OA 6 (.box 37 (TT 1)),OA 10 (.mv (II 0))]) (.seq (.E8 [.q,.q,.q,.q,.q,.l,.l,.l,.l,.l,.a,.a,.e (some 11) false,.e (some 12) true] [FF 29 0 5,VV 30 29,MM 31 2,OA
 32 (.q8 12 (TT 30) (TT 31)),LL 33 12 32,FF 34 1 6,VV 35 34,MM 36 2,OA 37 (.q8 4 (TT 35) (TT 36)),LL 38 4 37,OA 11 (.alloc 69 [.string ⟨#[]⟩,.bool false,.string ⟨#[]⟩,.string ⟨#[]⟩,.bool false,.string ⟨#[]⟩,
 .string ⟨#[]⟩,.bool false,.bool false,.string ⟨#[]⟩,.string ⟨#[]⟩,.slice none 0 0]),OA 12 (.alloc 49 [.slice none 0 0,.slice none 0 0,.bool false,.int .i64 0]),OB (.store 12 (TT 11) (TT 33)),OB (.store 4 (TT 12) (TT
 38))]) (.seq (.seq (.reg [LL 39 12 11,FF 40 0 12,VV 41 40,MM 42 4,OA 43 (.call 65 [TT 39,TT 41,TT 42]),OA 44 (.un .not (TT 43))]) (.cond (TT 44) (.seq (.reg [OA 10 (.mv (II 1))]) .ret) .skip)) (.seq (.reg [LL 46 12 11,FF
 47 0 12,VV 48 47,MM 49 4,OA 50 (.call 19 [TT 46,TT 48,TT 49]),MM 45 50,OA 51 (.ext (TT 45) 0),OA 52 (.ext (TT 45) 1),OA 53 (.ext (TT 45) 2),OA 14 (.alloc 3 [.int .i64 0]),MM 13 51,OB (.store 1 (TT 14) (TT 52)),MM 15
 53]) (.seq (.seq (.reg [MM 54 15,OA 55 (.bin .neq (TT 54) (II 0))]) (.cond (TT 55) (.seq (.reg [OA 10 (.mv (II 2))]) .ret) .skip)) (.seq (.seq (.reg [FF 56 11 11,VV 57 56,OA 58 (.len false (TT 57)),OA 59 (.mv (II 0))])
 (.block 0 (.loop (.seq (.reg [OA 60 (.bin .lss (TT 59) (TT 58))]) (.seq (.cond (TT 60) .skip (.exit 0)) (.seq (.block 1 (.seq (.reg [MM 61 59,OA 62 (.q8 16 (TT 57) (TT 59)),LL 63 16 62,OA 17 (.alloc 74 [.bool false,
 .string ⟨#[]⟩,.string ⟨#[]⟩,.bool false,.string ⟨#[]⟩,.string ⟨#[]⟩,.bool false,.string ⟨#[]⟩,.string ⟨#[]⟩,.bool false,.string ⟨#[]⟩,.string ⟨#[]⟩,.bool false,.string ⟨#[]⟩,.string ⟨#[]⟩,.slice none 0 0]),MM 16
 61,OB (.store 16 (TT 17) (TT 63))]) (.seq (.E8 [.q,.q,.q,.q,.q,.q,.q,.q,.q,.q,.q,.q,.q,.q,.q,.q,.q,.q,.q,.q] [MM 64 13,MM 65 16,OA 66 (.q8 6 (TT 64) (TT 65)),FF 67 0 66,LL 68 3 67,FF 69 3 17,LL 70
 3 69,OA 71 (.call 39 [TT 68,TT 70]),OA 72 (.bin .lss (TT 71) (II 0)),MM 73 72,MG 74 13 73 false,MG 75 16 73 false,OC 76 (.q8 6 (TT 74) (TT 75)) 73 false,FG 77 3 76 73 false,LG 78 3 77 73 false,FG 79 6 17 73 false,
 LG 80 3 79 73 false,OC 81 (.call 39 [TT 78,TT 80]) 73 false,OC 82 (.bin .gtr (TT 81) (II 0)) 73 false,OA 83 (.pick (TT 73) (.const (.bool true)) (TT 82))]) (.cond (TT 83) (.seq (.reg [OA 10 (.mv (II 2))]) .ret) .skip))))
 (.reg [OA 84 (.bin .add (TT 59) (II 1)),MM 59 84]))))))) (.seq (.reg [LL 86 8 5,MM 87 2,FF 88 3 12,VV 89 88,MM 90 13,OA 91 (.call 20 [TT 86,TT 87,TT 89,TT 90]),MM 85 91,OA 92 (.ext (TT 85) 0),OA 93 (.ext (TT 85) 1),
 OA 18 (.alloc 78 [.slice none 0 0]),OB (.store 1 (TT 18) (TT 92)),MM 15 93]) (.seq (.seq (.reg [MM 94 15,OA 95 (.bin .neq (TT 94) (II 0))]) (.cond (TT 95) (.seq (.reg [OA 10 (.mv (II 2))]) .ret) .skip)) (.seq (.seq (.reg [VV
 96 18,OA 97 (.len false (TT 96)),OA 98 (.mv (II 0))]) (.block 2 (.loop (.seq (.reg [OA 99 (.bin .lss (TT 98) (TT 97))]) (.seq (.cond (TT 99) .skip (.exit 2)) (.seq (.block 3 (.seq (.reg [OA 100 (.q8 12 (TT 96) (TT 98)),LL
 101 12 100,OA 20 (.alloc 82 [.bool false,.string ⟨#[]⟩,.string ⟨#[]⟩,.bool false,.string ⟨#[]⟩,.string ⟨#[]⟩,.bool false,.string ⟨#[]⟩,.string ⟨#[]⟩,.bool false,.string ⟨#[]⟩,.string ⟨#[]⟩]),OB (.store 12 (TT 20)
 (TT 101))]) (.seq (.reg [LL 103 12 20,OA 104 (.call 21 [TT 103]),MM 102 104,OA 105 (.ext (TT 102) 0),OA 106 (.ext (TT 102) 1),MM 21 105,MM 22 106]) (.seq (.reg [MM 107 22,OA 108 (.bin .neq (TT 107) (II 0)),MM 109 108,MG
 110 21 109 false,MG 111 3 109 false,OC 112 (.call 66 [TT 110,TT 111]) 109 false,OC 113 (.un .not (TT 112)) 109 false,OA 114 (.pick (TT 109) (.const (.bool true)) (TT 113))]) (.cond (TT 114) (.seq (.reg [OA 10 (.mv (II 3))])
 .ret) .skip))))) (.reg [OA 115 (.bin .add (TT 98) (II 1)),MM 98 115]))))))) (.seq (.seq (.reg [VV 116 18,OA 117 (.len false (TT 116)),OA 118 (.mv (II 0))]) (.block 4 (.loop (.seq (.reg [OA 119 (.bin .lss (TT 118) (TT 117))])
 (.seq (.cond (TT 119) .skip (.exit 4)) (.seq (.block 5 (.seq (.reg [OA 120 (.q8 12 (TT 116) (TT 118)),LL 121 12 120,OA 24 (.alloc 82 [.bool false,.string ⟨#[]⟩,.string ⟨#[]⟩,.bool false,.string ⟨#[]⟩,.string ⟨#[]⟩,
 .bool false,.string ⟨#[]⟩,.string ⟨#[]⟩,.bool false,.string ⟨#[]⟩,.string ⟨#[]⟩]),OB (.store 12 (TT 24) (TT 121))]) (.seq (.reg [LL 122 12 24,OA 123 (.call 67 [TT 122]),OA 25 (.alloc 34 [.slice none 0 0]),OB (.store 1
 (TT 25) (TT 123))]) (.seq (.reg [FF 124 1 5,VV 125 124,OA 126 (.clo 69 [TT 25]),OA 127 (.call 68 [TT 125,TT 126])]) (.cond (TT 127) (.seq (.reg [OA 10 (.mv (II 4))]) .ret) .skip))))) (.reg [OA 128 (.bin .add (TT 118) (II
 1)),MM 118 128]))))))) (.seq (.reg [OA 129 (.clo 71 [TT 18]),OA 26 (.alloc 140 [.nilFunc]),OB (.store 1 (TT 26) (TT 129))]) (.seq (.seq (.reg [FF 130 3 6,VV 131 130,OA 132 (.clo 75 [TT 26,TT 5,TT 14]),OA 133 (.call 57
 [TT 131,TT 132])]) (.cond (TT 133) (.seq (.reg [OA 10 (.mv (II 5))]) .ret) .skip)) (.seq (.seq (.reg [FF 134 4 5,VV 135 134,OA 136 (.len false (TT 135)),OA 137 (.mv (II 0))]) (.block 6 (.loop (.seq (.reg [OA 138 (.bin .lss
 (TT 137) (TT 136))]) (.seq (.cond (TT 138) .skip (.exit 6)) (.seq (.block 7 (.seq (.reg [MM 139 137,OA 140 (.q8 13 (TT 135) (TT 137)),LL 141 13 140,OA 28 (.alloc 143 [.string ⟨#[]⟩,.bool false,.string ⟨#[]⟩,.string
 ⟨#[]⟩,.bool false,.string ⟨#[]⟩,.string ⟨#[]⟩,.bool false,.string ⟨#[]⟩,.string ⟨#[]⟩,.bool false,.string ⟨#[]⟩,.string ⟨#[]⟩]),MM 27 139,OB (.store 13 (TT 28) (TT 141))]) (.seq (.E8 [.q,.q,.q,.q,.q,.q,.q,.q,
 .q,.q,.q,.q,.q,.q,.q,.q,.q] [FF 142 4 6,VV 143 142,MM 144 27,OA 145 (.q8 1 (TT 143) (TT 144)),VV 146 145,MM 147 146,VG 148 26 147 true,FG 149 1 28 147 true,LG 150 12 149 147 true,FG 151 5 5 147 true,LG 152 3
 151 147 true,VG 153 14 147 true,OC 154 (.call 48 [TT 153]) 147 true,OC 155 (.call 77 [TT 152,TT 154]) 147 true,OC 156 (.call 50 [TT 150,TT 155]) 147 true,OC 157 (.X6 (TT 148) [TT 156]) 147 true,OA 158 (.pick (TT 147)
 (TT 157) (.const (.bool false)))]) (.cond (TT 158) (.seq (.reg [OA 10 (.mv (II 6))]) .ret) .skip)))) (.reg [OA 159 (.bin .add (TT 137) (II 1)),MM 137 159]))))))) (.seq (.reg [OA 10 (.mv (II 0))]) .ret)))))))))))))⟩
theorem b2g:J5 eff Tryz.prog Tryz.f27=some a6m:=by kernel_rfl
theorem b1T:Tryz.prog.funcs[27]?=some Tryz.f27:=Tryz.func27
set_option maxHeartbeats 32000000
def a8t (L:List Lk) (Q:List Sp):Bool:=(L.zip Q).any fun z=>decide (Nm.q9 z.2.lo (Nm.d9 z.1.low) < 0) || decide (0 < Nm.q9 z.2.hi (Nm.d9 z.1.high))
def a8j (bs:List Bq) (lease:List Cl):Bool:=bs.any fun b=>!decide (ofE b=0) || !a2F (ofC b) lease
def b0d (bs:List Bq) (W:List (List Vt)):Bool:=bs.any fun b=>W.any fun l=>a8s (Z7 b) l
theorem a6t {α:Type} {l:List α} {i:Nat} {x:α} {p:α->Bool} (h:l[i]?=some x) (hp:p x=true):l.any p=true:=List.any_eq_true.2 ⟨x,c6W h,hp⟩
theorem a4U {α:Type} {l:List α} {p:α->Bool} (h:∀ (j:Nat) x,j < l.length->l[j]?=some x->p x=false):l.any p=false:=by
 rw [List.any_eq_false]
 intro x hx
 obtain ⟨j,hj⟩:=List.mem_iff_getElem?.1 hx
 rw [h j x (c6Y.1 hj).1 hj]
 decide
theorem a2z {α:Type} {l:List α} {i:Nat} {x:α} {p:α->Bool} (hg:l[i]?=some x) (hx:p x=false) (h:∀ (j:Nat) x,j < i->l[j]?=some x->p x=false):∀ (j:Nat) x,j < i+1->l[j]?=some x->p x=false:=fun j y hj hy=>by
 rcases c7p j i with h1|h1
 ·exact h j y h1 hy
 ·have:j=i:=by omega
  subst this
  rw [hg] at hy
  cases hy
  exact hx
def a6E:N9:=⟨98,[.tmp 8,.tmp 9,.tmp 10],.seq (.reg [OA 4 (.box 31 (TT 0)),OA 5 (.box 37 (TT 1)),OA 8 (.mv (.const (.slice none 0 0))),OA 9 (.mv (.const (.slice none 0 0))),OA 10 (.mv (II 0))]) (.seq (.seq (.reg [LL 21 8 4,LL 22 5 5,
 OA 23 (.call 24 [TT 21,TT 22]),MM 11 23]) (.seq (.reg [MM 24 11,OA 25 (.bin .neq (TT 24) (II 0))]) (.cond (TT 25) (.seq (.reg [MM 26 11,OA 8 (.mv (.const (.slice none 0 0))),OA 9 (.mv (.const (.slice none 0 0))),MM 10 26])
 .ret) .skip))) (.seq (.seq (.reg [MM 27 2,OA 28 (.len false (TT 27)),FF 29 0 4,VV 30 29,OA 31 (.len false (TT 30)),OA 32 (.bin .neq (TT 28) (TT 31)),MM 33 32,MG 34 3 33 false,OC 35 (.len false (TT 34)) 33 false,FG 36 0
 4 33 false,VG 37 36 33 false,OC 38 (.len false (TT 37)) 33 false,OC 39 (.bin .neq (TT 35) (TT 38)) 33 false,OA 40 (.pick (TT 33) (.const (.bool true)) (TT 39))]) (.cond (TT 40) (.seq (.reg [OA 8 (.mv (.const (.slice none 0
 0))),OA 9 (.mv (.const (.slice none 0 0))),OA 10 (.mv (II 1))]) .ret) .skip)) (.seq (.seq (.reg [MM 41 2,OA 42 (.len false (TT 41)),OA 43 (.mv (II 0))]) (.block 0 (.loop (.seq (.reg [OA 44 (.bin .lss (TT 43) (TT 42))]) (.seq
 (.cond (TT 44) .skip (.exit 0)) (.seq (.block 1 (.seq (.reg [MM 45 43,OA 46 (.q8 1 (TT 41) (TT 43)),VV 47 46,MM 12 45,MM 13 47]) (.seq (.seq (.reg [MM 48 13,OA 49 (.call 25 [TT 48]),MM 14 49]) (.seq (.reg [MM 50 14,OA
 51 (.bin .neq (TT 50) (II 0))]) (.cond (TT 51) (.seq (.reg [MM 52 14,OA 8 (.mv (.const (.slice none 0 0))),OA 9 (.mv (.const (.slice none 0 0))),MM 10 52]) .ret) .skip))) (.seq (.reg [MM 53 2,MM 54 12,OA 55 (.a2u 1 (TT 53)
 none (some (TT 54))),OA 56 (.len false (TT 55)),OA 57 (.mv (II 0))]) (.block 2 (.loop (.seq (.reg [OA 58 (.bin .lss (TT 57) (TT 56))]) (.seq (.cond (TT 58) .skip (.exit 2)) (.seq (.block 3 (.seq (.reg [OA 59 (.q8 1 (TT 55)
 (TT 57)),VV 60 59,MM 16 60]) (.seq (.reg [MM 61 13,MM 62 16,OA 63 (.call 26 [TT 61,TT 62]),OA 64 (.len false (TT 63)),OA 65 (.bin .gtr (TT 64) (II 0))]) (.cond (TT 65) (.seq (.reg [OA 8 (.mv (.const (.slice none 0 0))),
 OA 9 (.mv (.const (.slice none 0 0))),OA 10 (.mv (II 10))]) .ret) .skip)))) (.reg [OA 66 (.bin .add (TT 57) (II 1)),MM 57 66])))))))))) (.reg [OA 67 (.bin .add (TT 43) (II 1)),MM 43 67]))))))) (.seq (.reg [OA 17 (.mv (.const
 (.slice none 0 0)))]) (.seq (.reg [OA 18 (.mv (.const (.slice none 0 0)))]) (.seq (.seq (.reg [FF 68 0 4,VV 69 68,OA 70 (.len false (TT 69)),OA 71 (.mv (II 0))]) (.block 4 (.loop (.seq (.reg [OA 72 (.bin .lss (TT 71) (TT
 70))]) (.seq (.cond (TT 72) .skip (.exit 4)) (.seq (.block 5 (.seq (.reg [MM 73 71,MM 19 73]) (.seq (.E8 [.q,.q,.q,.q,.q,.q,.q,.q,.q,.q,.q,.q,.q] [LL 74 8 4,LL 75 5 5,MM 76 19,MM 77 2,MM 78 19,OA 79 (.q8 1
 (TT 77) (TT 78)),VV 80 79,MM 81 3,MM 82 19,OA 83 (.q8 1 (TT 81) (TT 82)),VV 84 83,OA 85 (.call 27 [TT 74,TT 75,TT 76,TT 80,TT 84]),MM 20 85]) (.reg [MM 86 17,MM 87 20,OA 88 (.bin .eql (TT 87) (II 0)),OA 89 (.bsl
 4 1 1 [.bool false] [(0,TT 88)]),OA 90 (.app 4 1 1 (TT 86) (TT 89)),MM 91 18,MM 92 20,OA 93 (.bsl 3 1 1 [.int .i64 0] [(0,TT 92)]),OA 94 (.app 3 1 8 (TT 91) (TT 93)),MM 17 90,MM 18 94])))) (.reg [OA 95 (.bin .add (TT
 71) (II 1)),MM 71 95]))))))) (.seq (.reg [MM 96 17,MM 97 18,MM 8 96,MM 9 97,OA 10 (.mv (II 0))]) .ret)))))))⟩
theorem b2h:J5 eff Tryz.prog Tryz.f10=some a6E:=by kernel_rfl
theorem b1A:Tryz.prog.funcs[10]?=some Tryz.f10:=Tryz.func10
set_option maxHeartbeats 16000000
def a2f (ls:List (List Cl)) (i:Nat) (m:List Cl):Bool:=decide (0 < (a2M (ls.getD i []) m).length)
theorem b9B {ls:List (List Cl)} {i:Nat} (hi:i < ls.length) (h:(ls.take i).any (a2f ls i)=true):a1r ls=true:=List.any_eq_true.2 ⟨i,List.mem_range.2 hi,h⟩
theorem b8a {ls:List (List Cl)} (h:∀ i,i < ls.length->(ls.take i).any (a2f ls i)=false):a1r ls=false:=by
 unfold a1r
 rw [List.any_eq_false]
 intro i hi
 have:=h i (List.mem_range.1 hi)
 unfold a2f at this
 rw [this]
 decide
def powC (R:List Int):C:=.sl 1 (R.map fun r=>[.v (.bool (decide (r=0)))])
theorem c3K (w:Wk) (s:Stt) (ls:List (List Cl)) (us:List (List Nm.Rt)) (R:List Int) (hwb:Wb 1073741824 w) (hsb:Stb 1073741824 s) (hst:P7 w s=0) (hl:ls.length=w.arms.length) (hu:us.length=w.arms.length) (hR:R.length=w.arms.length) (hn:w.arms.length<=1000)
  (hg:∀ l ∈ ls,a8F l) (hj:∀ (n:Nat) (l:List Cl) (u:List Nm.Rt) (r:Int),ls[n]?=some l->us[n]?=some u->R[n]?=some r->FZ 27 [w.c,s.c,ints n,cls l,rts u] (ints r)) :
  FZ 10 [w.c,s.c,U5 ls,wss us] (.tup [powC (if a1r ls=true then [] else R),u6 (if a1r ls=true then [] else R),ints (if a1r ls=true then 10 else 0)]):=by
 refine kW b1A b2h (by rfl) fun w' O hw=>?_
 have h0:=b3N w s hwb hsb
 rw [hst] at h0
 have hit:=fun (i:Nat) (hi:i < ls.length) (h:(ls.take i).any (a2f ls i)=true)=>b9B hi h
 have miss:=fun (h:∀ i,i < ls.length->(ls.take i).any (a2f ls i)=false)=>b8a h
 generalize a1r ls=K at *
 clear hwb hsb hst
 simp only [a6E,j5,TT,II,OA,OC,MM,LL,VV,FF,MG,VG,FG]
 simp only [Wk.c,Wk.enc,Stt.c,Stt.enc,ams,wls,pts,sls,gts,K7,frs,bls,vts,U5,cls,wss,rts,powC,u6,sb,ints] at h0 hj ⊢
 (repeat first|refine uA ?_|(refine uK ?_ ?_;focus first|omega|(intros;simp_all<;>omega))|simp (disch:=omega) only [go_sem,Nat.reduceBEq,Nat.reduceAdd]|(refine uD h0 ?_ ?_ ?_;exact tz hw;exact rfl))
 refine S.cond rfl (fun hc=>by simp at hc) (fun hc=>?_)
 clear h0
 (repeat first|refine uA ?_|(refine uK ?_ ?_;focus first|omega|(intros;simp_all<;>omega))|simp (disch:=omega) only [go_sem,Nat.reduceBEq,Nat.reduceAdd,c6U,hl,hu])
 refine S.cond rfl (fun hc=>by simp at hc) (fun hc=>?_)
 (repeat first|refine uA ?_|(refine uK ?_ ?_;focus first|omega|(intros;simp_all<;>omega))|simp (disch:=omega) only [go_sem,Nat.reduceBEq,c6U])
 refine S.loop (X:=Nat) (fun i=>⟨[(2,U5 ls),(3,wss us),(4,.bp 0 0),(5,.bp 1 0),(41,U5 ls),(42,ints ls.length),(43,ints i)],[.box 31 w.enc,.box 37 s.enc]⟩)
  (fun i=>i<=ls.length/\∀ k,k < i->(ls.take k).any (a2f ls k)=false) (fun i=>ls.length-i) 0 ⟨c6Z _,fun _ h=>absurd h (Nat.not_lt_zero _)⟩ (by simp only [Wk.enc,Stt.enc,ams,wls,pts,sls,gts,K7,frs,bls,vts,U5,cls,wss,rts,sb,ints];exact (by (repeat first|refine uA ?_|(refine ⟨?_,?_⟩;focus first|rfl|simp [slot])|rfl|simp))) ?_
 rintro i ⟨hi,hm⟩
 simp only [Wk.enc,Stt.enc,ams,wls,pts,sls,gts,K7,frs,bls,vts,U5,cls,wss,rts,sb,ints]
 (repeat first|refine uA ?_|(refine uK ?_ ?_;focus first|omega|(intros;simp_all<;>omega))|simp (disch:=omega) only [go_sem,Nat.reduceBEq])
 (refine uJ rfl (fun hc=>?_) fun hc=>?_)
 ·have hi':i < ls.length:=by omega
  have hgl:=c6T hi'
  generalize ls[i]=l at hgl
  have gl:=hg l (c6W hgl)
  have o1:=c1c l gl
  have hgd:ls.getD i []=l:=by rw [c7g,hgl];rfl
  have hti:=hit i hi'
  have htl:(ls.take i).length=i:=by rw [c7d];omega
  have htm:∀ m ∈ ls.take i,a8F m:=fun m hm=>hg m (List.mem_of_mem_take hm)
  unfold a2f at hti
  rw [hgd] at hti
  have hmi:a2f ls i=fun m=>decide (0 < (a2M l m).length):=by unfold a2f;rw [hgd]
  generalize hT:ls.take i=T at *
  have hTe:List.take i (ls.map fun l=>[C.sl 2 (l.map ce)])=T.map fun l=>[C.sl 2 (l.map ce)]:=by rw [<- List.map_take,hT]
  simp only [cls,ints] at o1
  (repeat first|refine uA ?_|(refine uK ?_ ?_;focus first|omega|(intros;simp_all<;>omega))|simp (disch:=omega) only [go_sem,Nat.reduceBEq,c6U,c7f,hgl,c6V,c7a]|(refine uB o1 ?_ ?_;exact rfl))
  refine S.cond rfl (fun hc=>by simp at hc) (fun hc=>?_)
  (repeat first|refine uA ?_|(refine uK ?_ ?_;focus first|omega|(intros;simp_all<;>omega))|simp (disch:=omega) only [go_sem,Nat.reduceBEq,c6U,c7a,List.drop_zero,Nat.sub_zero,hTe,htl,Int.toNat_zero])
  refine S.loop (X:=Nat) (fun j=>⟨[(2,U5 ls),(3,wss us),(4,.bp 0 0),(5,.bp 1 0),(12,ints i),(13,cls l),(41,U5 ls),(42,ints ls.length),(43,ints i),(55,U5 T),(56,ints i),(57,ints j)],[.box 31 w.enc,.box 37 s.enc]⟩)
   (fun j=>j<=i/\∀ (k:Nat) (m:List Cl),k < j->T[k]?=some m->decide (0 < (a2M l m).length)=false) (fun j=>i-j) 0 ⟨c6Z _,fun _ _ h=>absurd h (Nat.not_lt_zero _)⟩ (by simp only [Wk.enc,Stt.enc,ams,wls,pts,sls,gts,K7,frs,bls,vts,U5,cls,wss,rts,sb,ints];exact (by (repeat first|refine uA ?_|(refine ⟨?_,?_⟩;focus first|rfl|simp [slot])|rfl|simp))) ?_
  rintro j ⟨hj',hk⟩
  clear o1
  simp only [Wk.enc,Stt.enc,ams,wls,pts,sls,gts,K7,frs,bls,vts,U5,cls,wss,rts,sb,ints]
  (repeat first|refine uA ?_|(refine uK ?_ ?_;focus first|omega|(intros;simp_all<;>omega))|simp (disch:=omega) only [go_sem,Nat.reduceBEq])
  (refine uJ rfl (fun hc=>?_) fun hc=>?_)
  ·have hgm:=c6T (show j < T.length by omega)
   generalize T[j]'_=m at hgm
   have gm:=htm m (c6W hgm)
   have o2:=c4U l m (c6X gl.1 (by decide)) (c6X gm.1 (by decide))
   have hml:(a2M l m).length<=400:=c6X (List.length_filter_le _ _) (c6X (a4i l) gl.1)
   have hit2:=fun hp=>a6t (p:=fun m=>decide (0 < (a2M l m).length)) hgm hp
   have nxt:=fun hp=>a2z (p:=fun m=>decide (0 < (a2M l m).length)) hgm hp hk
   generalize a2M l m=M at *
   simp only [cls] at o2
   (repeat first|refine uA ?_|(refine uK ?_ ?_;focus first|omega|(intros;simp_all<;>omega))|simp (disch:=omega) only [go_sem,Nat.reduceBEq,c6U,c7f,hgm,c6V,c7a]|(refine uB o2 ?_ ?_;exact rfl))
   (refine uJ rfl (fun hc=>?_) fun hc=>?_)
   ·have hK:=hti (hit2 (decide_eq_true (by omega)))
    subst hK
    simp only [if_true,c7q]
    (repeat first|refine uA ?_|(refine uK ?_ ?_;focus first|omega|(intros;simp_all<;>omega))|simp (disch:=omega) only [go_sem])
    (refine S.done ?_;simp only [p8,go_sem,Nat.reduceBEq];(repeat (refine ⟨?_,?_⟩;focus first|trivial|omega|simp));exact j3.out rfl (Imp.tup (by (repeat' (first|exact j4.nil|exact Imp.refl rfl|exact Imp.frz rfl rfl rfl|exact Imp.F5|refine Imp.agg ?_|refine j4.cons ?_ ?_)))) rfl)
   ·have hp:=nxt (decide_eq_false (by omega))
    (repeat first|refine uA ?_|(refine uK ?_ ?_;focus first|omega|(intros;simp_all<;>omega))|simp (disch:=omega) only [go_sem,Nat.reduceBEq,ww])
    refine S.next (x:=j) (j+1) ⟨by omega,hp⟩ (by omega) (by (repeat first|refine uA ?_|(refine ⟨?_,?_⟩;focus first|rfl|simp [slot])|rfl|simp))
  ·have hje:j=i:=by omega
   subst hje
   have hno:(ls.take j).any (a2f ls j)=false:=by
    rw [hmi,hT]
    exact a4U fun k m hkl hkm=>hk k m (by omega) hkm
   (repeat first|refine uA ?_|(refine uK ?_ ?_;focus first|omega|(intros;simp_all<;>omega))|simp (disch:=omega) only [go_sem,Nat.reduceBEq,ww])
   refine S.next (x:=j) (j+1) ⟨by omega,fun k hk2=>?_⟩ (by omega) (by (repeat first|refine uA ?_|(refine ⟨?_,?_⟩;focus first|rfl|simp [slot])|rfl|simp))
   rcases c7p k j with h|h
   ·exact hm k h
   ·have:k=j:=by omega
    subst this
    exact hno
 have hi':i=ls.length:=by omega
 subst hi'
 have hK:=miss fun k hk=>hm k hk
 subst hK
 simp only [c7C,if_false]
 clear hm hit miss hi
 (repeat first|refine uA ?_|(refine uK ?_ ?_;focus first|omega|(intros;simp_all<;>omega))|simp (disch:=omega) only [go_sem,Nat.reduceBEq,Nat.reduceAdd,c6U])
 refine S.loop (X:=Nat) (fun i=>⟨[(2,U5 ls),(3,wss us),(4,.bp 0 0),(5,.bp 1 0),(17,.rv 2),(18,.rv 3),(69,ams w.arms),(70,ints w.arms.length),(71,ints i)],[.box 31 w.enc,.box 37 s.enc,.row 4 1 ((R.take i).map fun r=>[.v (.bool (decide (r=0)))]),.row 3 1 ((R.take i).map fun r=>[ints r])]⟩)
  (fun i=>i<=w.arms.length) (fun i=>w.arms.length-i) 0 (c6Z _) (Ent.trans (Ent.pack 17 4 1 rfl) (Ent.trans (Ent.pack 18 3 1 rfl) (by simp only [Wk.enc,Stt.enc,ams,wls,pts,sls,gts,K7,frs,bls,vts,U5,cls,wss,rts,sb,ints,List.take_zero,c7q];exact (by (repeat first|refine uA ?_|(refine ⟨?_,?_⟩;focus first|rfl|simp [slot])|rfl|simp))))) ?_
 intro i hi
 simp only [Wk.enc,Stt.enc,ams,wls,pts,sls,gts,K7,frs,bls,vts,U5,cls,wss,rts,sb,ints]
 (repeat first|refine uA ?_|(refine uK ?_ ?_;focus first|omega|(intros;simp_all<;>omega))|simp (disch:=omega) only [go_sem,Nat.reduceBEq])
 (refine uJ rfl (fun hc=>?_) fun hc=>?_)
 ·have hi':i < w.arms.length:=by omega
  have hgl:=c6T (show i < ls.length by omega)
  have hgu:=c6T (show i < us.length by omega)
  have hgr:=c6T (show i < R.length by omega)
  generalize ls[i]'_=l at hgl
  generalize us[i]'_=u at hgu
  generalize R[i]'_=r at hgr
  have o1:=hj i l u r hgl hgu hgr
  have hil:(i:Int) < ls.length:=by omega
  have hiu:(i:Int) < us.length:=by omega
  have htl:(R.take i).length=i:=by rw [c7d];omega
  have hap:=take_at hgr
  clear hj
  (repeat first|refine uA ?_|(refine uK ?_ ?_;focus first|omega|(intros;simp_all<;>omega))|simp (disch:=omega) only [go_sem,Nat.reduceBEq,Nat.reduceAdd,ww,c6U,c7f,hgl,hgu,c6V,c7a,hil,hiu,htl]|(refine uD o1 ?_ ?_ ?_;exact tz hw;exact rfl))
  refine S.next (i+1) (by omega) (by omega) (by simp only [hap,c7G,c7i,c7q];exact (by (repeat first|refine uA ?_|(refine ⟨?_,?_⟩;focus first|rfl|simp [slot])|rfl|simp)))
 ·have hi':i=w.arms.length:=by omega
  subst hi'
  rw [c7o (by omega)]
  (repeat first|refine uA ?_|(refine uK ?_ ?_;focus first|omega|(intros;simp_all<;>omega))|simp (disch:=omega) only [go_sem,Nat.reduceBEq])
  (refine S.done ?_;simp only [p8,go_sem,Nat.reduceBEq];(repeat (refine ⟨?_,?_⟩;focus first|trivial|omega|simp));exact j3.out rfl (Imp.tup (by (repeat' (first|exact j4.nil|exact Imp.refl rfl|exact Imp.frz rfl rfl rfl|exact Imp.F5|refine Imp.agg ?_|refine j4.cons ?_ ?_)))) rfl)
end Go.Proofs.YtgpegbfnlkidjaaGreatDoor
