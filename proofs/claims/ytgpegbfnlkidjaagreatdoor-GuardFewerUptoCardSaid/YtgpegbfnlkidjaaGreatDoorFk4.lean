/- A part of the proof: lemmas only, with the conditions that each names. -/
import Derived.Test.YtgpegbfnlkidjaaGreatDoorProg
import Derived.KernelRfl
import Derived.Test.YtgpegbfnlkidjaaGreatDoorFk3
set_option linter.all false
namespace Go.Proofs.YtgpegbfnlkidjaaGreatDoor
open Go Go.RowKit Eng
set_option maxRecDepth 10000
set_option maxHeartbeats 4000000
theorem c5H (i:Nat) (h:i<=70368744177664):IntKind.i64.wrap ((i:Int).tdiv 64)=((i / 64:Nat):Int):=by
 have:(i:Int).tdiv 64=((i / 64:Nat):Int):=rfl
 rw [this,Eng.wrap_i64 (by omega)]
theorem c3P (i:Nat):(i:Int).tmod 64=((i % 64:Nat):Int):=rfl
theorem b4N (o n:Nat) (ho:o < 18446744073709551616):bits .or .u64 (o:Int) (((n % 18446744073709551616:Nat)):Int)=((o ||| n % 18446744073709551616:Nat):Int):=b0j _ _ ho (Nat.mod_lt _ (by decide))
theorem b3e (x r:Nat) (hr:r<=64):IntKind.u64.wrap ((x:Int)*2 ^ min r 64)=((x*2 ^ r % 18446744073709551616:Nat):Int):=by
 rw [show min r 64=r by omega,<- a5b];congr 1
theorem a8r {E:Ctx} (hP:E.P=Tryz.prog) (s:Bool) (u o:List Nat) (lo n by' z:Nat) (hl:u.length<=274877906944) (hn:lo+n<=u.length) (hb:by'<=70368744177664)
  (hu:Nm.M7 u) (hz:z ≠ 0) (hX:Nm.wv 18446744073709551616 ((u.drop lo).take n)=z*2 ^ by') :
  by' / 64 < n/\z < 18446744073709551616 ^ (n-by' / 64)/\j6 E (rw2 s u o) 198 [.wv (kx s) 1 lo n,ints by'] (.wv (kx s) 1 (lo+by' / 64) (Nm.G7 (Nm.dig 18446744073709551616 (n-by' / 64) z)).length) (rw2 s (put u (lo+by' / 64) (Nm.dig 18446744073709551616 (n-by' / 64) z)) o) []:=by
 have hul:((u.drop lo).take n).length=n:=by rw [c7s,c7S];omega
 have hua:Nm.M7 ((u.drop lo).take n):=(hu.drop lo).take _
 have e2:2 ^ by'=18446744073709551616 ^ (by' / 64)*2 ^ (by' % 64):=by
  rw [show (18446744073709551616:Nat)=2 ^ 64 by decide,<- Nat.pow_mul,<- Nat.pow_add];congr 1;omega
 have hjn:by' / 64 < n:=by
  rcases c7D (by' / 64) n with h|h
  ·exact h
  ·exfalso
   have h1:=Nm.L9 18446744073709551616 hua
   have h2:18446744073709551616 ^ n<=18446744073709551616 ^ (by' / 64):=c7N (by decide) h
   have h3:18446744073709551616 ^ (by' / 64)<=2 ^ by':=by rw [e2];exact Nat.le_mul_of_pos_right _ (Nat.pow_pos (by decide))
   have h4:2 ^ by'<=z*2 ^ by':=Nat.le_mul_of_pos_left _ (by omega)
   rw [hul] at h1
   omega
 have hdr:((u.drop lo).take n).drop (by' / 64)=(u.drop (lo+by' / 64)).take (n-by' / 64):=by
  rw [List.drop_take,List.drop_drop]
 have hW1:Nm.wv 18446744073709551616 ((u.drop (lo+by' / 64)).take (n-by' / 64))=z*2 ^ (by' % 64):=by
  rw [<- hdr,Nm.b7q hua (by omega),hX,e2,<- c7O,Nat.mul_comm z,c7O,Nat.mul_comm (18446744073709551616 ^ _) (z*_),Nat.mul_div_cancel _ (Nat.pow_pos (by decide))]
 have hb64:by' % 64 < 64:=Nat.mod_lt _ (by decide)
 have hjb:by' / 64<=1099511627776:=by omega
 clear hdr hX e2
 have hq1:=c5H by' hb
 have hq2:=c3P by'
 generalize by' / 64=j at *
 generalize by' % 64=b at *
 generalize hp:n-j=p at *
 generalize hl1:lo+j=l1 at *
 have hlp:l1+p<=u.length:=by omega
 have hp0:0 < p:=by omega
 have hpn:n-j=p:=hp
 have hua1:Nm.M7 ((u.drop l1).take p):=(hu.drop l1).take _
 have hps:put u l1 ((u.drop l1).take p)=u:=a5j hlp
 have hrl:((u.drop l1).take p).length=p:=by rw [c7s,c7S];omega
 generalize (u.drop l1).take p=r0 at *
 have hzl:z < 18446744073709551616 ^ p:=by
  have h1:=Nm.L9 18446744073709551616 hua1
  rw [hrl,hW1] at h1
  exact Nat.lt_of_le_of_lt (Nat.le_mul_of_pos_right _ (Nat.pow_pos (by decide))) h1
 refine ⟨hjn,hzl,?_⟩
 clear hul hua
 obtain ⟨P,eff',N,w0,own0,av0,nu0,pk0⟩:=E
 simp only at hP
 subst hP
 cases s
 all_goals
  refine j6.of (eff:=eff) Tryz.func198 (by cbv) (by exact c7z rfl) fun w own av ν hν=>?_
  simp only [j5,TT,II,OA,OB,MM,VV,rw2,kx,ints]
  have hν0:ν.length<=2:=by rw [hν];exact c7p _
  (repeat first|refine uA ?_|(apply uK;focus omega)|simp only [go_sem,Nat.reduceBEq,Nat.reduceAdd,hq1,hq2,hl1,hpn]|simp (disch:=omega) only [ww,hq1,hq2,F7,hl1,hpn])
  (refine uJ rfl (fun hc=>?_) fun hc=>?_)
 ·(repeat first|refine uA ?_|(apply uK;focus omega)|simp (disch:=omega) only [go_sem,Nat.reduceBEq])
  refine S.loop (X:=Nat × List Nat) (fun s=>⟨[(0,.wv 1 1 l1 p),(1,ints b),(15,ints p),(16,ints s.1)],[.row 218 1 (ls o),.row 218 1 (ls (put u l1 s.2))]⟩) (fun s=>s.1<=p/\Nm.a1Q r0 (2 ^ b) s.1 s.2) (fun s=>p-s.1) (0,r0) ⟨c7n _,Nm.a5K hua1⟩ (by simp only [hps];exact Ent.mk _ _ (by (repeat first|refine uA ?_|(refine ⟨?_,?_⟩;focus first|rfl|trivial|(simp [slot];done))|rfl|trivial|simp)) (by (repeat first|refine uA ?_|(refine ⟨?_,?_⟩;focus first|rfl|trivial|(simp [slot];done))|rfl|trivial|simp)) hν0) ?_
  rintro ⟨i,out⟩ ⟨hi,hri⟩
  simp only [ints] at hi hri ⊢
  have hol:=hri.1
  have hpl:(put u l1 out).length=u.length:=a0h (by omega)
  (repeat first|refine uA ?_|(apply uK;focus omega)|simp (disch:=omega) only [go_sem,Nat.reduceBEq])
  (refine uJ rfl (fun hc=>?_) fun hc=>?_)
  ·have hi':i < p:=by omega
   have hir:i < r0.length:=by omega
   have hgr:r0[i]?=some (r0[i]'hir):=c7h hir
   have hgo:(put u l1 out)[l1+i]?=some (r0[i]'hir):=by
    rw [V3 (by omega) (by omega),Nm.a0x hri.2.2.1,hgr]
   have hr32':=hua1 _ (c7x hir)
   have hk:=fun t ht=>Nm.a5x (t:=t) hri hb64 hir hua1 ht
   have hset:∀ a,(put u l1 out).set (l1+i) a=put u l1 (out.set i a):=fun a=>a0j (by omega) (by omega)
   generalize r0[i]'hir=ri at *
   have hsh:Int.fdiv (ri:Int) (2 ^ min b 64)=((ri / 2 ^ b:Nat):Int):=by
    rw [show min b 64=b by omega,<- a2w];congr 1
   have hrb:ri / 2 ^ b < 18446744073709551616:=Nat.lt_of_le_of_lt (Nat.div_le_self _ _) hr32'
   generalize ri / 2 ^ b=rs at *
   (repeat first|refine uA ?_|(apply uK;focus omega)|simp only [go_sem,Nat.reduceBEq,Nat.reduceAdd,Nat.reduceLeDiff,F7,N8,hgo,hpl,c7j,lm,a1E,hsh,hset]|simp (disch:=omega) only [ww])
   (refine uJ rfl (fun hc=>?_) fun hc=>?_)
   ·have hi1:i+1 < r0.length:=by omega
    have hpl1:(put u l1 (out.set i rs)).length=u.length:=a0h (by rw [c7W];omega)
    have hg1:(put u l1 (out.set i rs))[l1+i]?=some rs:=by
     rw [<- hset,List.getElem?_set_self (by omega)]
    have hg3:r0[i+1]?=some (r0[i+1]'hi1):=c7h hi1
    have hg2:(put u l1 (out.set i rs))[l1+(i+1)]?=some (r0[i+1]'hi1):=by
     have:=V3 (us:=u) (out:=out) (k:=l1) (i:=i+1) (by omega) (by omega)
     rw [<- hset,List.getElem?_set_ne (by omega),this]
     have h3:=congrArg (fun l=>l[1]?) hri.2.2.1
     simp only [c7U] at h3
     rw [h3,hg3]
    have hn32:=hua1 _ (c7x hi1)
    have hgd:r0.getD (i+1) 0=r0[i+1]'hi1:=Nm.getD_lt hi1
    rw [hgd] at hk
    generalize r0[i+1]'hi1=rn at *
    have hshl:=b3e rn (64-b) (by omega)
    have hrr:((64:Int)-(b:Int)).toNat=64-b:=by omega
    have horl:=b4N rs (rn*2 ^ (64-b)) hrb
    have hk:=hk _ rfl
    rw [if_pos (by omega)] at hk
    generalize rn*2 ^ (64-b)=sh at *
    generalize hto:rs ||| sh % 18446744073709551616=to at *
    have hset2:(put u l1 (out.set i rs)).set (l1+i) to=put u l1 (out.set i to):=by
     have:=a0j (us:=u) (out:=out.set i rs) (k:=l1) (i:=i) (v:=to) (by rw [c7W];omega) (by rw [c7W];omega)
     rwa [List.set_set] at this
    have hi1n:((i:Int)+1).toNat=i+1:=by omega
    (repeat first|refine uA ?_|(apply uK;focus omega)|simp only [go_sem,Nat.reduceBEq,Nat.reduceAdd,Nat.reduceLeDiff,F7,N8,hg1,hpl1,c7j,lm]|simp (disch:=omega) only [ww,hg2,c7j,lm,hrr,hi1n,hshl,horl,a1E,hset2])
    refine S.next (x:=(i,out)) (i+1,_) ⟨hi',hk.1⟩ (by simp only;omega) (Ent.mk _ _ (by (repeat first|refine uA ?_|(refine ⟨?_,?_⟩;focus first|rfl|trivial|(simp [slot];done))|rfl|trivial|simp)) (by (repeat first|refine uA ?_|(refine ⟨?_,?_⟩;focus first|rfl|trivial|(simp [slot];done))|rfl|trivial|simp)) hν0)
   ·have hk:=hk _ rfl
    rw [if_neg (by omega)] at hk
    (repeat first|refine uA ?_|(apply uK;focus omega)|simp (disch:=omega) only [go_sem,Nat.reduceBEq,ww])
    refine S.next (x:=(i,out)) (i+1,_) ⟨hi',hk.1⟩ (by simp only;omega) (Ent.mk _ _ (by (repeat first|refine uA ?_|(refine ⟨?_,?_⟩;focus first|rfl|trivial|(simp [slot];done))|rfl|trivial|simp)) (by (repeat first|refine uA ?_|(refine ⟨?_,?_⟩;focus first|rfl|trivial|(simp [slot];done))|rfl|trivial|simp)) hν0)
  ·have hi':i=p:=by omega
   subst hi'
   rw [<- hrl] at hri
   have he:=Nm.a6e hri (by omega) hW1
   have hd:out=Nm.dig 18446744073709551616 i z:=Nm.Y4 (by decide) hri.2.1 (by omega) he
   rw [<- hd]
   have hcut:=fun (E:Ctx) (hP:E.P=Tryz.prog)=>a8x (E:=E) hP (match 1 with|0=>true|_=>false) (put u l1 out) o l1 i (by omega) (by omega) (by omega)
   rw [a2C (by omega) (by omega)] at hcut
   (repeat first|refine uA ?_|(apply uK;focus omega)|simp (disch:=omega) only [go_sem,Nat.reduceBEq]|refine l9.t (hcut _ rfl) ?_)
   exact S.done (j3.own rfl)
 ·have hb0:b=0:=by omega
  subst hb0
  rw [Nat.pow_zero,Nat.mul_one] at hW1
  have hd:r0=Nm.dig 18446744073709551616 p z:=Nm.Y4 (by decide) hua1 hrl hW1
  have hcut:=fun (E:Ctx) (hP:E.P=Tryz.prog)=>a8x (E:=E) hP (match 1 with|0=>true|_=>false) u o l1 p (by omega) (by omega) (by omega)
  have hw:(u.drop l1).take p=r0:=by rw [<- hps];exact a2C hrl.symm (by omega)
  rw [hw] at hcut
  rw [<- hd,hps]
  (repeat first|refine uA ?_|(apply uK;focus omega)|simp (disch:=omega) only [go_sem,Nat.reduceBEq]|refine l9.t (hcut _ rfl) ?_)
  exact S.done (j3.own rfl)
 ·(repeat first|refine uA ?_|(apply uK;focus omega)|simp (disch:=omega) only [go_sem,Nat.reduceBEq])
  refine S.loop (X:=Nat × List Nat) (fun s=>⟨[(0,.wv 0 1 l1 p),(1,ints b),(15,ints p),(16,ints s.1)],[.row 218 1 (ls (put u l1 s.2)),.row 218 1 (ls o)]⟩) (fun s=>s.1<=p/\Nm.a1Q r0 (2 ^ b) s.1 s.2) (fun s=>p-s.1) (0,r0) ⟨c7n _,Nm.a5K hua1⟩ (by simp only [hps];exact Ent.mk _ _ (by (repeat first|refine uA ?_|(refine ⟨?_,?_⟩;focus first|rfl|trivial|(simp [slot];done))|rfl|trivial|simp)) (by (repeat first|refine uA ?_|(refine ⟨?_,?_⟩;focus first|rfl|trivial|(simp [slot];done))|rfl|trivial|simp)) hν0) ?_
  rintro ⟨i,out⟩ ⟨hi,hri⟩
  simp only [ints] at hi hri ⊢
  have hol:=hri.1
  have hpl:(put u l1 out).length=u.length:=a0h (by omega)
  (repeat first|refine uA ?_|(apply uK;focus omega)|simp (disch:=omega) only [go_sem,Nat.reduceBEq])
  (refine uJ rfl (fun hc=>?_) fun hc=>?_)
  ·have hi':i < p:=by omega
   have hir:i < r0.length:=by omega
   have hgr:r0[i]?=some (r0[i]'hir):=c7h hir
   have hgo:(put u l1 out)[l1+i]?=some (r0[i]'hir):=by
    rw [V3 (by omega) (by omega),Nm.a0x hri.2.2.1,hgr]
   have hr32':=hua1 _ (c7x hir)
   have hk:=fun t ht=>Nm.a5x (t:=t) hri hb64 hir hua1 ht
   have hset:∀ a,(put u l1 out).set (l1+i) a=put u l1 (out.set i a):=fun a=>a0j (by omega) (by omega)
   generalize r0[i]'hir=ri at *
   have hsh:Int.fdiv (ri:Int) (2 ^ min b 64)=((ri / 2 ^ b:Nat):Int):=by
    rw [show min b 64=b by omega,<- a2w];congr 1
   have hrb:ri / 2 ^ b < 18446744073709551616:=Nat.lt_of_le_of_lt (Nat.div_le_self _ _) hr32'
   generalize ri / 2 ^ b=rs at *
   (repeat first|refine uA ?_|(apply uK;focus omega)|simp only [go_sem,Nat.reduceBEq,Nat.reduceAdd,Nat.reduceLeDiff,F7,N8,hgo,hpl,c7j,lm,a1E,hsh,hset]|simp (disch:=omega) only [ww])
   (refine uJ rfl (fun hc=>?_) fun hc=>?_)
   ·have hi1:i+1 < r0.length:=by omega
    have hpl1:(put u l1 (out.set i rs)).length=u.length:=a0h (by rw [c7W];omega)
    have hg1:(put u l1 (out.set i rs))[l1+i]?=some rs:=by
     rw [<- hset,List.getElem?_set_self (by omega)]
    have hg3:r0[i+1]?=some (r0[i+1]'hi1):=c7h hi1
    have hg2:(put u l1 (out.set i rs))[l1+(i+1)]?=some (r0[i+1]'hi1):=by
     have:=V3 (us:=u) (out:=out) (k:=l1) (i:=i+1) (by omega) (by omega)
     rw [<- hset,List.getElem?_set_ne (by omega),this]
     have h3:=congrArg (fun l=>l[1]?) hri.2.2.1
     simp only [c7U] at h3
     rw [h3,hg3]
    have hn32:=hua1 _ (c7x hi1)
    have hgd:r0.getD (i+1) 0=r0[i+1]'hi1:=Nm.getD_lt hi1
    rw [hgd] at hk
    generalize r0[i+1]'hi1=rn at *
    have hshl:=b3e rn (64-b) (by omega)
    have hrr:((64:Int)-(b:Int)).toNat=64-b:=by omega
    have horl:=b4N rs (rn*2 ^ (64-b)) hrb
    have hk:=hk _ rfl
    rw [if_pos (by omega)] at hk
    generalize rn*2 ^ (64-b)=sh at *
    generalize hto:rs ||| sh % 18446744073709551616=to at *
    have hset2:(put u l1 (out.set i rs)).set (l1+i) to=put u l1 (out.set i to):=by
     have:=a0j (us:=u) (out:=out.set i rs) (k:=l1) (i:=i) (v:=to) (by rw [c7W];omega) (by rw [c7W];omega)
     rwa [List.set_set] at this
    have hi1n:((i:Int)+1).toNat=i+1:=by omega
    (repeat first|refine uA ?_|(apply uK;focus omega)|simp only [go_sem,Nat.reduceBEq,Nat.reduceAdd,Nat.reduceLeDiff,F7,N8,hg1,hpl1,c7j,lm]|simp (disch:=omega) only [ww,hg2,c7j,lm,hrr,hi1n,hshl,horl,a1E,hset2])
    refine S.next (x:=(i,out)) (i+1,_) ⟨hi',hk.1⟩ (by simp only;omega) (Ent.mk _ _ (by (repeat first|refine uA ?_|(refine ⟨?_,?_⟩;focus first|rfl|trivial|(simp [slot];done))|rfl|trivial|simp)) (by (repeat first|refine uA ?_|(refine ⟨?_,?_⟩;focus first|rfl|trivial|(simp [slot];done))|rfl|trivial|simp)) hν0)
   ·have hk:=hk _ rfl
    rw [if_neg (by omega)] at hk
    (repeat first|refine uA ?_|(apply uK;focus omega)|simp (disch:=omega) only [go_sem,Nat.reduceBEq,ww])
    refine S.next (x:=(i,out)) (i+1,_) ⟨hi',hk.1⟩ (by simp only;omega) (Ent.mk _ _ (by (repeat first|refine uA ?_|(refine ⟨?_,?_⟩;focus first|rfl|trivial|(simp [slot];done))|rfl|trivial|simp)) (by (repeat first|refine uA ?_|(refine ⟨?_,?_⟩;focus first|rfl|trivial|(simp [slot];done))|rfl|trivial|simp)) hν0)
  ·have hi':i=p:=by omega
   subst hi'
   rw [<- hrl] at hri
   have he:=Nm.a6e hri (by omega) hW1
   have hd:out=Nm.dig 18446744073709551616 i z:=Nm.Y4 (by decide) hri.2.1 (by omega) he
   rw [<- hd]
   have hcut:=fun (E:Ctx) (hP:E.P=Tryz.prog)=>a8x (E:=E) hP (match 0 with|0=>true|_=>false) (put u l1 out) o l1 i (by omega) (by omega) (by omega)
   rw [a2C (by omega) (by omega)] at hcut
   (repeat first|refine uA ?_|(apply uK;focus omega)|simp (disch:=omega) only [go_sem,Nat.reduceBEq]|refine l9.t (hcut _ rfl) ?_)
   exact S.done (j3.own rfl)
 ·have hb0:b=0:=by omega
  subst hb0
  rw [Nat.pow_zero,Nat.mul_one] at hW1
  have hd:r0=Nm.dig 18446744073709551616 p z:=Nm.Y4 (by decide) hua1 hrl hW1
  have hcut:=fun (E:Ctx) (hP:E.P=Tryz.prog)=>a8x (E:=E) hP (match 0 with|0=>true|_=>false) u o l1 p (by omega) (by omega) (by omega)
  have hw:(u.drop l1).take p=r0:=by rw [<- hps];exact a2C hrl.symm (by omega)
  rw [hw] at hcut
  rw [<- hd,hps]
  (repeat first|refine uA ?_|(apply uK;focus omega)|simp (disch:=omega) only [go_sem,Nat.reduceBEq]|refine l9.t (hcut _ rfl) ?_)
  exact S.done (j3.own rfl)
structure Win (u:List Nat) (lo n v:Nat):Prop where
 hn:lo+n<=u.length
 hlo:lo < u.length
 hl:u.length<=17179869184
 ha:Nm.M7 u
 hv:Nm.wv 18446744073709551616 ((u.drop lo).take n)=v
 ht:Nm.G7 ((u.drop lo).take n)=(u.drop lo).take n
theorem Win.len {u:List Nat} {lo n v:Nat} (h:Win u lo n v):((u.drop lo).take n).length=n:=by
 have:=h.hn
 rw [c7s,c7S];omega
theorem c0W {us a:List Nat} {k:Nat} (hu:Nm.M7 us) (ha:Nm.M7 a):Nm.M7 (put us k a):=fun w hw=>by
 simp only [put,List.mem_append] at hw
 rcases hw with (hw|hw)|hw
 ·exact hu w (List.mem_of_mem_take hw)
 ·exact ha w hw
 ·exact hu w (List.mem_of_mem_drop hw)
theorem Win.put {u:List Nat} {l1 p z:Nat} (h1:l1+p<=u.length) (h2:l1 < u.length) (hl:u.length<=17179869184) (ha:Nm.M7 u) (hz:z < 18446744073709551616 ^ p) :
  Win (put u l1 (Nm.dig 18446744073709551616 p z)) l1 (Nm.G7 (Nm.dig 18446744073709551616 p z)).length z:=by
 have hpl:(Go.Proofs.YtgpegbfnlkidjaaGreatDoor.put u l1 (Nm.dig 18446744073709551616 p z)).length=u.length:=a0h (by rw [Nm.K4];omega)
 have htl:=Nm.c1r (Nm.dig 18446744073709551616 p z)
 rw [Nm.K4] at htl
 have hw:((Go.Proofs.YtgpegbfnlkidjaaGreatDoor.put u l1 (Nm.dig 18446744073709551616 p z)).drop l1).take (Nm.G7 (Nm.dig 18446744073709551616 p z)).length=Nm.G7 (Nm.dig 18446744073709551616 p z):=by
  have e:=a2C (us:=u) (k:=l1) (a:=Nm.dig 18446744073709551616 p z) (n:=p) (Nm.K4 _ _ _).symm (by rw [Nm.K4];omega)
  have e2:=congrArg (List.take (Nm.G7 (Nm.dig 18446744073709551616 p z)).length) e
  rw [List.take_take,Nat.min_eq_left htl,Nm.b8H] at e2
  exact e2
 refine ⟨by rw [hpl];omega,by rw [hpl];exact h2,by rw [hpl];exact hl,c0W ha (Nm.a0Y (by decide) _ _),?_,?_⟩
 ·rw [hw,Nm.c2L,Nm.X9 hz]
 ·rw [hw]
  have h4:∀ l,Nm.G7 (Nm.G7 l)=Nm.G7 l:=fun l=>by
   by_cases h:Nm.G7 l=[]
   ·rw [h];rfl
   ·have h5:=Nm.b1j l h
    have h6:Nm.G7 l=(Nm.G7 l).dropLast++[(Nm.G7 l).getLast h]:=(List.dropLast_concat_getLast h).symm
    rw [h6,Nm.a4u h5]
  exact h4 _
theorem Win.last {u:List Nat} {lo n v:Nat} (h:Win u lo n v):∀ hh:(u.drop lo).take n ≠ [],((u.drop lo).take n).getLast hh ≠ 0:=by
 have ht:=h.ht
 generalize (u.drop lo).take n=x at *
 intro hh
 have:=Nm.b1j x (by rw [ht];exact hh)
 simpa only [ht] using this
theorem Win.all {u:List Nat} {lo n v:Nat} (h:Win u lo n v):Nm.M7 ((u.drop lo).take n):=(h.ha.drop lo).take n
theorem Win.zero {u:List Nat} {lo n v:Nat} (h:Win u lo n v) (h0:v=0):n=0:=by
 rcases c7E n with h1|h1
 ·exact h1
 ·exfalso
  have hl:=h.len
  have hla:=h.last
  have hv:=h.hv
  generalize (u.drop lo).take n=x at *
  have hne:x ≠ []:=fun e=>by subst e;simp at hl;omega
  have h2:=Nm.b5l (B:=18446744073709551616) (l:=x.dropLast) (hla hne)
  rw [List.dropLast_concat_getLast hne] at h2
  have:=Nat.pow_pos (n:=x.dropLast.length) (show 0 < 18446744073709551616 by decide)
  omega
theorem Win.nonzero {u:List Nat} {lo n v:Nat} (h:Win u lo n v) (h0:n=0):v=0:=by
 have:=h.hv;subst h0;rw [<- this];rfl
theorem Win.le {u o:List Nat} {lo n v lo2 n2 v2:Nat} (h:Win u lo n v) (h2:Win o lo2 n2 v2) (hle:v2<=v):n2<=n:=by
 rcases c7D n n2 with h1|h1
 ·exfalso
  have hl:=h2.len
  have hla:=h2.last
  have hv:=h2.hv
  have hl1:=Nm.L9 18446744073709551616 h.all
  rw [h.len,h.hv] at hl1
  generalize (o.drop lo2).take n2=x at *
  have hne:x ≠ []:=fun e=>by subst e;simp at hl;omega
  have h3:=Nm.b5l (B:=18446744073709551616) (l:=x.dropLast) (hla hne)
  rw [List.dropLast_concat_getLast hne,List.length_dropLast] at h3
  have h4:18446744073709551616 ^ n<=18446744073709551616 ^ (x.length-1):=c7N (by decide) (by omega)
  omega
 ·exact h1
theorem Win.v2 {u:List Nat} {lo n v:Nat} (h:Win u lo n v) (h0:v ≠ 0):Nm.v2 v<=70368744177664:=by
 obtain ⟨q,h1,h2⟩:=Nm.a3r h0
 have hl1:=Nm.L9 18446744073709551616 h.all
 rw [h.len,h.hv] at hl1
 have h3:2 ^ Nm.v2 v<=v:=by
  conv=>rhs;rw [h1]
  exact Nat.le_mul_of_pos_right _ (by omega)
 have h4:2 ^ Nm.v2 v < 2 ^ (64*n):=by rw [Nat.pow_mul];exact Nat.lt_of_le_of_lt h3 hl1
 have h5:=(Nat.pow_lt_pow_iff_right (by decide:1 < 2)).1 h4
 have:=h.hn;have:=h.hl
 omega
namespace Nm
theorem c4k (n k:Nat) (h:k < 8):(be8 n)[k]?=some (oB (n / 2 ^ (56-8*k))):=by
 have:k=0 \/ k=1 \/ k=2 \/ k=3 \/ k=4 \/ k=5 \/ k=6 \/ k=7:=by omega
 rcases this with rfl|rfl|rfl|rfl|rfl|rfl|rfl|rfl<;>simp [be8]
theorem a8P (n:Nat):(be8 n).length=8:=rfl
def a2k (l:List Nat):List UInt8:=(l.reverse.map be8).flatten
theorem b0g (l:List Nat) (x:Nat):a2k (l++[x])=be8 x++a2k l:=by simp [a2k]
theorem b3m (r:List Nat) (h:M7 r.reverse):(a2k r.reverse).length=8*r.length/\val (a2k r.reverse)=wv 18446744073709551616 r.reverse:=by
 induction r with
 | nil=>exact ⟨rfl,rfl⟩
 | cons x r ih=>
  rw [List.reverse_cons] at h ⊢
  obtain ⟨h1,h2⟩:=ih fun w hw=>h w (List.mem_append_left _ hw)
  rw [b0g,a8L,b7G,h1,h2,b7d (h x (by simp)),List.length_reverse,c7t,a8P,h1,c7A]
  refine ⟨by omega,?_⟩
  rw [Nat.pow_mul,show (256:Nat) ^ 8=18446744073709551616 by decide,Nat.mul_comm x,Nat.add_comm]
theorem b2r {l:List Nat} (h:M7 l):(a2k l).length=8*l.length:=by
 have:=(b3m l.reverse (by simpa using h)).1
 simpa using this
theorem c0r {l:List Nat} (h:M7 l):val (a2k l)=wv 18446744073709551616 l:=by
 have:=(b3m l.reverse (by simpa using h)).2
 simpa using this
def a1Z (l:List Nat) (i k:Nat):List UInt8:=List.replicate (8*(l.length-1-i)) 0++((be8 (l.getD i 0)).take k++List.replicate (8-k) 0)++a2k (l.take i)
def a4J (l:List Nat) (i:Nat):List UInt8:=List.replicate (8*(l.length-i)) 0++a2k (l.take i)
theorem c0C (l:List Nat):a4J l 0=List.replicate (8*l.length) 0:=by simp [a4J,a2k]
theorem b5v (l:List Nat):a4J l l.length=a2k l:=by simp [a4J]
theorem b3h {l:List Nat} {i:Nat} (h:i < l.length):a1Z l i 0=a4J l i:=by
 rw [a1Z,a4J,List.take_zero,List.nil_append,Nat.sub_zero,List.replicate_append_replicate]
 congr 2;omega
theorem b0C {l:List Nat} {i:Nat} (h:i < l.length):a1Z l i 8=a4J l (i+1):=by
 have e:l.take (i+1)=l.take i++[l.getD i 0]:=by
  rw [List.take_add_one,c7u,c7h h];rfl
 rw [a1Z,a4J,e,b0g,c7C (by rw [a8P];exact c7p _),Nat.sub_self,List.replicate_zero,List.append_nil,c7P]
 congr 3;omega
theorem b5x {l:List Nat} (hl:M7 l) {i k:Nat} (h:i < l.length) (hk:k<=8):(a1Z l i k).length=8*l.length:=by
 simp only [a1Z,c7t,List.length_replicate,c7s,a8P,b2r (hl.take i),c7s]
 omega
theorem b2t {l:List Nat} {i k:Nat} (hk:k < 8):(a1Z l i k).set (8*(l.length-1-i)+k) (oB (l.getD i 0 / 2 ^ (56-8*k)))=a1Z l i (k+1):=by
 have e:(be8 (l.getD i 0)).take (k+1)=(be8 (l.getD i 0)).take k++[oB (l.getD i 0 / 2 ^ (56-8*k))]:=by
  rw [List.take_add_one,c4k _ _ hk];rfl
 have e2:List.replicate (8-k) (0:UInt8)=0::List.replicate (8-(k+1)) 0:=by rw [<- List.replicate_succ];congr 1;omega
 have hlk:((be8 (l.getD i 0)).take k).length=k:=by rw [c7s,a8P];omega
 rw [a1Z,a1Z,e,e2,List.set_append_left _ _ (by simp only [c7t,List.length_replicate,hlk,c7A];omega),List.set_append_right _ _ (by simp),List.length_replicate,Nat.add_sub_cancel_left,List.set_append_right _ _ (by omega),hlk,Nat.sub_self,List.set_cons_zero,c7P (List.take k _),List.singleton_append]
theorem b9v (n:Nat):val (oB (2 ^ (n % 8))::List.replicate (n / 8) 0)=2 ^ n:=by
 have h0:val (List.replicate (n / 8) (0:UInt8))=0:=by
  generalize n / 8=k
  induction k with
  | zero=>rfl
  | succ k ih=>rw [List.replicate_succ,a0d,ih];simp
 have h1:2 ^ (n % 8) < 256:=by
  have:2 ^ (n % 8)<=2 ^ 7:=c7N (by decide) (by omega)
  omega
 rw [a0d,h0,a2c,Nat.mod_eq_of_lt h1,List.length_replicate,Nat.add_zero,show (256:Nat)=2 ^ 8 by decide,<- Nat.pow_mul,<- Nat.pow_add]
 congr 1;omega
end Nm
structure Hv where
 s:Bool
 u:List Nat
 lo:Nat
 n:Nat
 v:Nat
 o:List Nat
 lo2:Nat
 n2:Nat
 v2:Nat
theorem c1Z (a b:List UInt8) (ha:a.length<=68719476736) (hb:b.length<=68719476736) (h0a:Nm.val a ≠ 0) (h0b:Nm.val b ≠ 0):FZ 174 [sb a,sb b] (sb (Nm.enc (Nat.gcd (Nm.val a) (Nm.val b)))):=by
  refine kW b3v b3y (by rfl) fun w O hw=>?_
  simp only [a7u,j5,TT,II,OA,OB,OC,MM,VV,MG,sb]
  have hla:=b7x a (by omega)
  have hlb:=b7x b (by omega)
  have hva:=Nm.b1a a
  have hvb:=Nm.b1a b
  have haa:=Nm.b0z a
  have hab:=Nm.b0z b
  have hna:=Nm.a9o a
  have hnb:=Nm.a9o b
  obtain ⟨za,hza,hoa⟩:=Nm.a3r h0a
  obtain ⟨zb,hzb,hob⟩:=Nm.a3r h0b
  have hG:Nat.gcd (Nm.val a) (Nm.val b)=2 ^ (min (Nm.v2 (Nm.val a)) (Nm.v2 (Nm.val b)))*Nat.gcd za zb:=by
    conv=>lhs;rw [hza,hzb]
    exact Nm.c2N hoa hob
  rw [hG]
  have fea:=a8C (Nm.R5 a) (by omega) haa (by rw [hva];exact h0a)
  have feb:=a8C (Nm.R5 b) (by omega) hab (by rw [hvb];exact h0b)
  rw [hva] at fea
  rw [hvb] at feb
  have hba:Nm.v2 (Nm.val a)<=549755813888:=by
    have h1:=Nm.Y8 a
    have h3:2 ^ Nm.v2 (Nm.val a)<=Nm.val a:=by
      conv=>rhs;rw [hza]
      exact Nat.le_mul_of_pos_right _ (by omega)
    have h4:2 ^ Nm.v2 (Nm.val a) < 2 ^ (8*a.length):=by rw [Nat.pow_mul];exact Nat.lt_of_le_of_lt h3 h1
    have h5:=(Nat.pow_lt_pow_iff_right (by decide:1 < 2)).1 h4
    omega
  have hbb:Nm.v2 (Nm.val b)<=549755813888:=by
    have h1:=Nm.Y8 b
    have h3:2 ^ Nm.v2 (Nm.val b)<=Nm.val b:=by
      conv=>rhs;rw [hzb]
      exact Nat.le_mul_of_pos_right _ (by omega)
    have h4:2 ^ Nm.v2 (Nm.val b) < 2 ^ (8*b.length):=by rw [Nat.pow_mul];exact Nat.lt_of_le_of_lt h3 h1
    have h5:=(Nat.pow_lt_pow_iff_right (by decide:1 < 2)).1 h4
    omega
  have hla0:0 < (Nm.R5 a).length:=by
    rcases c7E (Nm.R5 a).length with h|h
    · have:=List.length_eq_zero_iff.1 h
      rw [this] at hva;exact absurd hva.symm h0a
    · exact h
  have hlb0:0 < (Nm.R5 b).length:=by
    rcases c7E (Nm.R5 b).length with h|h
    · have:=List.length_eq_zero_iff.1 h
      rw [this] at hvb;exact absurd hvb.symm h0b
    · exact h
  generalize Nm.v2 (Nm.val a)=p at *
  generalize Nm.v2 (Nm.val b)=q at *
  have hwa:Nm.wv 18446744073709551616 (((Nm.R5 a).drop 0).take (Nm.R5 a).length)=za*2 ^ p:=by
    rw [List.drop_zero,c7y,hva,hza,Nat.mul_comm]
  have hwb:Nm.wv 18446744073709551616 (((Nm.R5 b).drop 0).take (Nm.R5 b).length)=zb*2 ^ q:=by
    rw [List.drop_zero,c7y,hvb,hzb,Nat.mul_comm]
  clear hG hza hzb hva hvb h0a h0b
  generalize hA:Nm.R5 a=A at *
  generalize hB:Nm.R5 b=B at *
  have hr1:=fun (E:Ctx) (hP:E.P=Tryz.prog)=>a8r (E:=E) hP true A B 0 A.length p za (by omega) (by omega) (by omega) haa (by omega) hwa
  obtain ⟨hj1,hz1,_⟩:=hr1 ⟨Tryz.prog,eff,0,w,fun _=>False,O,[],[]⟩ rfl
  have hr1:=fun E hP=>(hr1 E hP).2.2
  have hW1:=Win.put (u:=A) (l1:=0+p / 64) (p:=A.length-p / 64) (z:=za) (by omega) (by omega) (by omega) haa hz1
  generalize hA1:put A (0+p / 64) (Nm.dig 18446744073709551616 (A.length-p / 64) za)=A1 at *
  generalize 0+p / 64=la at *
  generalize (Nm.G7 (Nm.dig 18446744073709551616 (A.length-p / 64) za)).length=na at *
  have hr2:=fun (E:Ctx) (hP:E.P=Tryz.prog)=>a8r (E:=E) hP false B A1 0 B.length q zb (by omega) (by omega) (by omega) hab (by omega) hwb
  obtain ⟨hj2,hz2,_⟩:=hr2 ⟨Tryz.prog,eff,0,w,fun _=>False,O,[],[]⟩ rfl
  have hr2:=fun E hP=>(hr2 E hP).2.2
  have hW2:=Win.put (u:=B) (l1:=0+q / 64) (p:=B.length-q / 64) (z:=zb) (by omega) (by omega) (by omega) hab hz2
  generalize hB1:put B (0+q / 64) (Nm.dig 18446744073709551616 (B.length-q / 64) zb)=B1 at *
  generalize 0+q / 64=lb at *
  generalize (Nm.G7 (Nm.dig 18446744073709551616 (B.length-q / 64) zb)).length=nb at *
  have hr1':∀ (E:Ctx),E.P=Tryz.prog->j6 E [.row 218 1 (ls A),.row 218 1 (ls B)] 198 [.rv 0,ints p] (.wv 0 1 la na) [.row 218 1 (ls A1),.row 218 1 (ls B)] []:=fun E hP=>j6.imp (hr1 E hP) (j4.cons (Imp.win (k:=0) (e:=218) (sz:=1) (es:=ls A) rfl (F7 _).symm (by simp)) (j4.cons (Imp.refl rfl) j4.nil))
  have hr2':∀ (E:Ctx),E.P=Tryz.prog->j6 E [.row 218 1 (ls A1),.row 218 1 (ls B)] 198 [.rv 1,ints q] (.wv 1 1 lb nb) [.row 218 1 (ls A1),.row 218 1 (ls B1)] []:=fun E hP=>j6.imp (hr2 E hP) (j4.cons (Imp.win (k:=1) (e:=218) (sz:=1) (es:=ls B) rfl (F7 _).symm (by simp)) (j4.cons (Imp.refl rfl) j4.nil))
  (repeat first|refine uA ?_|(apply uK;focus omega)|simp (disch:=omega) only [go_sem,Nat.reduceBEq,Nat.reduceAdd]|refine l9.t (FNew.t hla rfl) ?_|refine l9.t (FNew.t hlb rfl) ?_|refine l9.t (hr1' _ rfl) ?_|refine l9.t (hr2' _ rfl) ?_|(apply uE fea;exact tz hw;exact rfl;focus (repeat' first|exact j4.nil|exact Imp.refl rfl|exact Imp.frz rfl rfl rfl|(refine Imp.V5 rfl rfl ?_ ?_;(focus ((try simp only [c7t]);omega));(focus first|rfl|assumption))|refine j4.cons ?_ ?_);done)|(apply uE feb;exact tz hw;exact rfl;focus (repeat' first|exact j4.nil|exact Imp.refl rfl|exact Imp.frz rfl rfl rfl|(refine Imp.V5 rfl rfl ?_ ?_;(focus ((try simp only [c7t]);omega));(focus first|rfl|assumption))|refine j4.cons ?_ ?_);done))
  clear hr1 hr2 hr1' hr2' hla hlb fea feb hwa hwb hA hB hA1 hB1 hz1 hz2 hj1 hj2 haa hab hla0 hlb0 hna hnb
  have hmin:min p q<=549755813888:=by omega
  generalize hG:Nat.gcd za zb=G at *
  refine S.c3j (Y:=Hv) (fun x=>⟨[(5,.wv (kx x.s) 1 x.lo x.n),(6,.wv (kx !x.s) 1 x.lo2 x.n2),(7,ints p),(8,ints q)],rw2 x.s x.u x.o⟩)
    (fun x=>Win x.u x.lo x.n x.v/\Win x.o x.lo2 x.n2 x.v2/\((x.n=0/\x.v2=G) \/ (x.n=1/\x.n2=1/\Nat.gcd x.v x.v2=G))) ?_ ?_
  · refine S.loop (X:=Hv) (fun x=>⟨[(5,.wv (kx x.s) 1 x.lo x.n),(6,.wv (kx !x.s) 1 x.lo2 x.n2),(7,ints p),(8,ints q)],rw2 x.s x.u x.o⟩)
      (fun x=>Win x.u x.lo x.n x.v/\Win x.o x.lo2 x.n2 x.v2/\x.v % 2=1/\x.v2 % 2=1/\Nat.gcd x.v x.v2=G) (fun x=>x.v+x.v2) ⟨true,A1,la,na,za,B1,lb,nb,zb⟩ ⟨hW1,hW2,hoa,hob,hG⟩ (by (repeat first|refine uA ?_|(refine ⟨?_,?_⟩;focus first|rfl|trivial|(simp [slot];done))|rfl|trivial|simp)) ?_
    clear hW1 hW2 hG hoa hob
    rintro ⟨s,u,lo,n,v,o,lo2,n2,v2⟩ ⟨hW1,hW2,hoa,hob,hG⟩
    simp only [ints] at hW1 hW2 hoa hob hG ⊢
    (repeat first|refine uA ?_|(apply uK;focus first|omega|(intros;simp_all<;>omega))|simp (disch:=omega) only [go_sem,Nat.reduceBEq])
    (refine uJ rfl (fun hc=>?_) fun hc=>?_)
    · refine S.skip ?_
      refine S.block ?_
      refine S.seq ?_
      have hl1:=hW1.hl
      have hl2:=hW2.hl
      have hn1:=hW1.hn
      have hn2:=hW2.hn
      have hwl:∀ (u:List Nat) lo n,ls ((u.drop lo).take n)=((ls u).drop lo).take n:=fun u lo n=>by simp [ls,List.map_drop,List.map_take]
      refine S.join (Y:=Hv) (fun x=>⟨[(5,.wv (kx x.s) 1 x.lo x.n),(6,.wv (kx !x.s) 1 x.lo2 x.n2),(7,ints p),(8,ints q)],rw2 x.s x.u x.o⟩)
        (fun x=>Win x.u x.lo x.n x.v/\Win x.o x.lo2 x.n2 x.v2/\x.v % 2=1/\x.v2 % 2=1/\Nat.gcd x.v x.v2=G/\x.v2<=x.v/\x.v+x.v2=v+v2) ?_ ?_
      · have hb:=c4n ((u.drop lo).take n) ((o.drop lo2).take n2) (by rw [hW1.len];omega) (by rw [hW2.len];omega) hW1.all hW2.all hW1.last hW2.last
        rw [hwl,hwl,hW1.hv,hW2.hv] at hb
        cases s
        all_goals
          simp only [rw2,kx,Bool.not_true,Bool.not_false]
          (repeat first|refine uA ?_|(apply uK;focus omega)|simp only [go_sem,Nat.reduceBEq]|simp (disch:=omega) only [ww,F7]|(apply uC hb;exact rfl;focus (repeat' first|exact j4.nil|exact Imp.refl rfl|exact Imp.frz rfl rfl rfl|(refine Imp.V5 rfl rfl ?_ ?_;(focus ((try simp only [F7]);omega));(focus first|rfl|assumption))|refine j4.cons ?_ ?_);done))
          refine S.cond rfl (fun hc=>?_) (fun hc=>?_)
          all_goals simp only [c7v,c7H] at hc
        · (repeat first|refine uA ?_|(apply uK;focus omega)|simp (disch:=omega) only [go_sem,Nat.reduceBEq])
          exact S.met ⟨true,o,lo2,n2,v2,u,lo,n,v⟩ ⟨hW2,hW1,hob,hoa,by rw [Nat.gcd_comm];exact hG,by simp only;omega,by simp only;omega⟩ (by (repeat first|refine uA ?_|(refine ⟨?_,?_⟩;focus first|rfl|trivial|(simp [slot];done))|rfl|trivial|simp))
        · (repeat first|refine uA ?_|(apply uK;focus omega)|simp (disch:=omega) only [go_sem,Nat.reduceBEq,ww])
          exact S.met ⟨false,u,lo,n,v,o,lo2,n2,v2⟩ ⟨hW1,hW2,hoa,hob,hG,by simp only;omega,rfl⟩ (by (repeat first|refine uA ?_|(refine ⟨?_,?_⟩;focus first|rfl|trivial|(simp [slot];done))|rfl|trivial|simp))
        · (repeat first|refine uA ?_|(apply uK;focus omega)|simp (disch:=omega) only [go_sem,Nat.reduceBEq])
          exact S.met ⟨false,o,lo2,n2,v2,u,lo,n,v⟩ ⟨hW2,hW1,hob,hoa,by rw [Nat.gcd_comm];exact hG,by simp only;omega,by simp only;omega⟩ (by (repeat first|refine uA ?_|(refine ⟨?_,?_⟩;focus first|rfl|trivial|(simp [slot];done))|rfl|trivial|simp))
        · (repeat first|refine uA ?_|(apply uK;focus omega)|simp (disch:=omega) only [go_sem,Nat.reduceBEq,ww])
          exact S.met ⟨true,u,lo,n,v,o,lo2,n2,v2⟩ ⟨hW1,hW2,hoa,hob,hG,by simp only;omega,rfl⟩ (by (repeat first|refine uA ?_|(refine ⟨?_,?_⟩;focus first|rfl|trivial|(simp [slot];done))|rfl|trivial|simp))
      clear hl1 hl2 hn1 hn2 hW1 hW2 hoa hob hG hc
      rintro ⟨s,u1,lo1,n1,x1,o1,lo3,n3,x3⟩ ⟨hW1,hW2,hoa,hob,hG,hle,hsum⟩
      simp only [ints] at hW1 hW2 hoa hob hG hle hsum ⊢
      have hl1:=hW1.hl
      have hl2:=hW2.hl
      have hn1:=hW1.hn
      have hn2:=hW2.hn
      have hlo1:=hW1.hlo
      have hlt1:x1 < 18446744073709551616 ^ n1:=by
        have:=Nm.L9 18446744073709551616 hW1.all
        rwa [hW1.len,hW1.hv] at this
      have hmin:=fun (E:Ctx) (hP:E.P=Tryz.prog) (s:Bool)=>c4i (E:=E) hP s u1 o1 lo1 n1 lo3 n3 (by omega) (by omega) hn1 hlo1 hn2 (hW1.le hW2 hle) hW1.ha hW2.ha hW1.hv.symm hW2.hv.symm hle
      have hW3:=Win.put (u:=u1) (l1:=lo1) (p:=n1) (z:=x1-x3) hn1 hlo1 hl1 hW1.ha (by omega)
      generalize put u1 lo1 (Nm.dig 18446744073709551616 n1 (x1-x3))=u2 at *
      generalize (Nm.G7 (Nm.dig 18446744073709551616 n1 (x1-x3))).length=m1 at *
      have hl3:=hW3.hl
      have hn3:=hW3.hn
      have hmt:∀ E:Ctx,E.P=Tryz.prog->j6 E [.row 218 1 (ls u1),.row 218 1 (ls o1)] 200 [.wv 0 1 lo1 n1,.wv 1 1 lo3 n3] (.wv 0 1 lo1 m1) [.row 218 1 (ls u2),.row 218 1 (ls o1)] []:=fun E hP=>hmin E hP true
      have hmf:∀ E:Ctx,E.P=Tryz.prog->j6 E [.row 218 1 (ls o1),.row 218 1 (ls u1)] 200 [.wv 1 1 lo1 n1,.wv 0 1 lo3 n3] (.wv 1 1 lo1 m1) [.row 218 1 (ls o1),.row 218 1 (ls u2)] []:=fun E hP=>hmin E hP false
      clear hmin
      cases s
      all_goals
        simp only [rw2,kx,Bool.not_true,Bool.not_false]
        (repeat first|refine uA ?_|(apply uK;focus omega)|simp only [go_sem,Nat.reduceBEq]|simp (disch:=omega) only [ww,F7]|refine l9.t (hmt _ rfl) ?_|refine l9.t (hmf _ rfl) ?_)
        (refine uJ rfl (fun hc=>?_) fun hc=>?_)
      · (repeat first|refine uA ?_|(apply uK;focus omega)|simp (disch:=omega) only [go_sem,Nat.reduceBEq,ww])
        have h0:=hW3.nonzero (by omega)
        have h1:x1=x3:=by omega
        subst h1
        rw [Nat.gcd_self] at hG
        exact S.met ⟨false,u2,lo1,m1,x1-x1,o1,lo3,n3,x1⟩ ⟨hW3,hW2,.inl ⟨by simp only;omega,hG⟩⟩ (by (repeat first|refine uA ?_|(refine ⟨?_,?_⟩;focus first|rfl|trivial|(simp [slot];done))|rfl|trivial|simp))
      · have h0:x1-x3 ≠ 0:=fun h=>by have:=hW3.zero h;omega
        obtain ⟨z,hz,hoz⟩:=Nm.a3r h0
        have hev:=a8C ((u2.drop lo1).take m1) (by rw [hW3.len];omega) hW3.all (by rw [hW3.hv];exact h0)
        rw [hwl,hW3.hv] at hev
        have heb:=hW3.v2 h0
        generalize Nm.v2 (x1-x3)=e at *
        have hrg:=fun (E:Ctx) (hP:E.P=Tryz.prog)=>a8r (E:=E) hP false u2 o1 lo1 m1 e z (by omega) hn3 heb hW3.ha (by omega) (by rw [hW3.hv,hz,Nat.mul_comm])
        obtain ⟨hj,hz2,_⟩:=hrg ⟨Tryz.prog,eff,0,w,fun _=>False,O,[],[]⟩ rfl
        have hrg:=fun E hP=>(hrg E hP).2.2
        have hW4:=Win.put (u:=u2) (l1:=lo1+e / 64) (p:=m1-e / 64) (z:=z) (by omega) (by omega) hl3 hW3.ha hz2
        generalize put u2 (lo1+e / 64) (Nm.dig 18446744073709551616 (m1-e / 64) z)=u4 at *
        generalize lo1+e / 64=lo4 at *
        generalize (Nm.G7 (Nm.dig 18446744073709551616 (m1-e / 64) z)).length=m4 at *
        have hrg':∀ (E:Ctx),E.P=Tryz.prog->j6 E [.row 218 1 (ls o1),.row 218 1 (ls u2)] 198 [.wv 1 1 lo1 m1,ints e] (.wv 1 1 lo4 m4) [.row 218 1 (ls o1),.row 218 1 (ls u4)] []:=fun E hP=>hrg E hP
        have hgz:Nat.gcd z x3=G:=by
          have h1:=Nm.a7b (d:=z) hob e
          rw [<- h1,<- hz,Nm.b3r hle,hG]
        have hzle:z<=x1-x3:=by
          conv=>rhs;rw [hz]
          exact Nat.le_mul_of_pos_left _ (Nat.pow_pos (by decide))
        (repeat first|refine uA ?_|(apply uK;focus omega)|simp only [go_sem,Nat.reduceBEq]|simp (disch:=omega) only [ww,F7]|refine l9.t (hrg' _ rfl) ?_|(apply uE hev;exact tz hw;exact rfl;focus (repeat' first|exact j4.nil|exact Imp.refl rfl|exact Imp.frz rfl rfl rfl|(refine Imp.V5 rfl rfl ?_ ?_;(focus ((try simp only [F7]);omega));(focus first|rfl|assumption))|refine j4.cons ?_ ?_);done))
        refine S.next (x:=(⟨true,u,lo,n,v,o,lo2,n2,v2⟩:Hv)) (⟨false,u4,lo4,m4,z,o1,lo3,n3,x3⟩:Hv) ⟨hW4,hW2,hoz,hob,hgz⟩ (by simp only;omega) (by (repeat first|refine uA ?_|(refine ⟨?_,?_⟩;focus first|rfl|trivial|(simp [slot];done))|rfl|trivial|simp))
      · (repeat first|refine uA ?_|(apply uK;focus omega)|simp (disch:=omega) only [go_sem,Nat.reduceBEq,ww])
        have h0:=hW3.nonzero (by omega)
        have h1:x1=x3:=by omega
        subst h1
        rw [Nat.gcd_self] at hG
        exact S.met ⟨true,u2,lo1,m1,x1-x1,o1,lo3,n3,x1⟩ ⟨hW3,hW2,.inl ⟨by simp only;omega,hG⟩⟩ (by (repeat first|refine uA ?_|(refine ⟨?_,?_⟩;focus first|rfl|trivial|(simp [slot];done))|rfl|trivial|simp))
      · have h0:x1-x3 ≠ 0:=fun h=>by have:=hW3.zero h;omega
        obtain ⟨z,hz,hoz⟩:=Nm.a3r h0
        have hev:=a8C ((u2.drop lo1).take m1) (by rw [hW3.len];omega) hW3.all (by rw [hW3.hv];exact h0)
        rw [hwl,hW3.hv] at hev
        have heb:=hW3.v2 h0
        generalize Nm.v2 (x1-x3)=e at *
        have hrg:=fun (E:Ctx) (hP:E.P=Tryz.prog)=>a8r (E:=E) hP true u2 o1 lo1 m1 e z (by omega) hn3 heb hW3.ha (by omega) (by rw [hW3.hv,hz,Nat.mul_comm])
        obtain ⟨hj,hz2,_⟩:=hrg ⟨Tryz.prog,eff,0,w,fun _=>False,O,[],[]⟩ rfl
        have hrg:=fun E hP=>(hrg E hP).2.2
        have hW4:=Win.put (u:=u2) (l1:=lo1+e / 64) (p:=m1-e / 64) (z:=z) (by omega) (by omega) hl3 hW3.ha hz2
        generalize put u2 (lo1+e / 64) (Nm.dig 18446744073709551616 (m1-e / 64) z)=u4 at *
        generalize lo1+e / 64=lo4 at *
        generalize (Nm.G7 (Nm.dig 18446744073709551616 (m1-e / 64) z)).length=m4 at *
        have hrg':∀ (E:Ctx),E.P=Tryz.prog->j6 E [.row 218 1 (ls u2),.row 218 1 (ls o1)] 198 [.wv 0 1 lo1 m1,ints e] (.wv 0 1 lo4 m4) [.row 218 1 (ls u4),.row 218 1 (ls o1)] []:=fun E hP=>hrg E hP
        have hgz:Nat.gcd z x3=G:=by
          have h1:=Nm.a7b (d:=z) hob e
          rw [<- h1,<- hz,Nm.b3r hle,hG]
        have hzle:z<=x1-x3:=by
          conv=>rhs;rw [hz]
          exact Nat.le_mul_of_pos_left _ (Nat.pow_pos (by decide))
        (repeat first|refine uA ?_|(apply uK;focus omega)|simp only [go_sem,Nat.reduceBEq]|simp (disch:=omega) only [ww,F7]|refine l9.t (hrg' _ rfl) ?_|(apply uE hev;exact tz hw;exact rfl;focus (repeat' first|exact j4.nil|exact Imp.refl rfl|exact Imp.frz rfl rfl rfl|(refine Imp.V5 rfl rfl ?_ ?_;(focus ((try simp only [F7]);omega));(focus first|rfl|assumption))|refine j4.cons ?_ ?_);done))
        refine S.next (x:=(⟨true,u,lo,n,v,o,lo2,n2,v2⟩:Hv)) (⟨true,u4,lo4,m4,z,o1,lo3,n3,x3⟩:Hv) ⟨hW4,hW2,hoz,hob,hgz⟩ (by simp only;omega) (by (repeat first|refine uA ?_|(refine ⟨?_,?_⟩;focus first|rfl|trivial|(simp [slot];done))|rfl|trivial|simp))
    · (repeat first|refine uA ?_|(apply uK;focus omega)|simp (disch:=omega) only [go_sem,Nat.reduceBEq,ww])
      have ha1:n<=1/\n2<=1:=by omega
      have hz1:n ≠ 0:=fun h=>by have:=hW1.nonzero h;omega
      have hz2:n2 ≠ 0:=fun h=>by have:=hW2.nonzero h;omega
      exact S.met ⟨s,u,lo,n,v,o,lo2,n2,v2⟩ ⟨hW1,hW2,   .inr ⟨by simp only;omega,by simp only;omega,hG⟩⟩ (by cases s<;>exact (by (repeat first|refine uA ?_|(refine ⟨?_,?_⟩;focus first|rfl|trivial|(simp [slot];done))|rfl|trivial|simp)))
  clear hW1 hW2 hG hoa hob
  rintro ⟨s,u,lo,n,v,o,lo2,n2,v2⟩ ⟨hW1,hW2,hcs⟩
  simp only [ints] at hW1 hW2 hcs ⊢
  refine S.seq ?_
  have hl1:=hW1.hl
  have hl2:=hW2.hl
  have hn1:=hW1.hn
  have hn2:=hW2.hn
  have hlo1:=hW1.hlo
  have hlo2:=hW2.hlo
  refine S.join (Y:=Bool × List Nat × List Nat) (fun x=>⟨[(6,.wv (kx !x.1) 1 lo2 n2),(7,ints p),(8,ints q)],rw2 x.1 x.2.1 x.2.2⟩)
    (fun x=>x.2.2.length=o.length/\Nm.M7 x.2.2/\Nm.wv 18446744073709551616 ((x.2.2.drop lo2).take n2)=G) ?_ ?_
  · have one:∀ {u:List Nat} {lo v:Nat},Win u lo 1 v->u[lo]?=some v/\v < 18446744073709551616:=fun {u lo v} h=>by
      have hg:u[lo]?=some (u[lo]'h.hlo):=c7h h.hlo
      have h1:=h.hv
      have h2:(u.drop lo).take 1=[u[lo]'h.hlo]:=by rw [List.drop_eq_getElem_cons h.hlo];rfl
      rw [h2] at h1
      simp only [Nm.wv] at h1
      have h3:=h.ha _ (c7x h.hlo)
      rw [Nat.mul_zero,Nat.add_zero] at h1
      rw [hg,h1]
      exact ⟨rfl,by omega⟩
    (repeat first|refine uA ?_|(apply uK;focus omega)|simp (disch:=omega) only [go_sem,Nat.reduceBEq])
    (refine uJ rfl (fun hc=>?_) fun hc=>?_)
    · have hn:n=1:=by omega
      have hm:n2=1:=by omega
      subst hn hm
      obtain ⟨g1,b1⟩:=one hW1
      obtain ⟨g2,b2⟩:=one hW2
      have hg:Nat.gcd v v2=G:=by rcases hcs with h|h;exact absurd h.1 (by decide);exact h.2.2
      have hco:=b5S v v2 b1 b2
      rw [hg] at hco
      have hres:Nm.wv 18446744073709551616 (((o.set lo2 G).drop lo2).take 1)=G:=by
        rw [List.drop_eq_getElem_cons (by rw [c7W];exact hlo2),List.getElem_set_self]
        simp [Nm.wv]
      have hG64:G < 18446744073709551616:=by
        have:v2 ≠ 0:=fun h=>by have:=hW2.zero h;omega
        have:=Nat.gcd_le_right v (show 0 < v2 by omega)
        omega
      cases s
      all_goals
        simp only [rw2,kx,Bool.not_true,Bool.not_false]
        (repeat first|refine uA ?_|(apply uK;focus omega)|simp only [go_sem,Nat.reduceBEq,Nat.reduceAdd,Nat.reduceLeDiff,F7,N8,g1,g2,c7j,lm,Nat.add_zero,a1E]|simp (disch:=omega) only [ww,F7,N8,g1,g2,c7j,lm,Nat.add_zero,a1E]|(apply uB hco;exact rfl))
      · exact S.met (⟨false,u,o.set lo2 G⟩:Bool × List Nat × List Nat) ⟨by simp,fun w hw=>by
          rcases Nm.mem_set hw with rfl|hw
          · exact hG64
          · exact hW2.ha w hw,hres⟩ (by (repeat first|refine uA ?_|(refine ⟨?_,?_⟩;focus first|rfl|trivial|(simp [slot];done))|rfl|trivial|simp))
      · exact S.met (⟨true,u,o.set lo2 G⟩:Bool × List Nat × List Nat) ⟨by simp,fun w hw=>by
          rcases Nm.mem_set hw with rfl|hw
          · exact hG64
          · exact hW2.ha w hw,hres⟩ (by (repeat first|refine uA ?_|(refine ⟨?_,?_⟩;focus first|rfl|trivial|(simp [slot];done))|rfl|trivial|simp))
    · (repeat first|refine uA ?_|(apply uK;focus omega)|simp (disch:=omega) only [go_sem,Nat.reduceBEq,ww])
      have hg:v2=G:=by
        rcases hcs with h|h
        · exact h.2
        · omega
      exact S.met (⟨s,u,o⟩:Bool × List Nat × List Nat) ⟨rfl,hW2.ha,by rw [<- hg];exact hW2.hv⟩ (by cases s<;>exact (by (repeat first|refine uA ?_|(refine ⟨?_,?_⟩;focus first|rfl|trivial|(simp [slot];done))|rfl|trivial|simp)))
  rintro ⟨s',u',o'⟩ ⟨ho1,ho2,ho3⟩
  simp only [ints] at ho1 ho2 ho3 ⊢
  have hul:((o'.drop lo2).take n2).length=n2:=by rw [c7s,c7S];omega
  have hua:Nm.M7 ((o'.drop lo2).take n2):=(ho2.drop lo2).take _
  have hgw:∀ i,i < n2->o'[lo2+i]?=((o'.drop lo2).take n2)[i]?:=fun i hi=>by rw [List.getElem?_take_of_lt hi,c7U]
  generalize (o'.drop lo2).take n2=W at *
  have hfm:=a3J (Nm.a2k W) (Nm.oB (2 ^ (min p q % 8))::List.replicate (min p q / 8) 0) (by rw [Nm.b2r hua];omega) (by rw [c7A,List.length_replicate];omega)
  rw [Nm.b9v,Nm.c0r hua,ho3,Nat.mul_comm] at hfm
  have hWl:W.length<=17179869184:=by omega
  have hz8:List.replicate (8*(n2:Int)).toNat [C.v (.int .u8 0)]=(Nm.a4J W 0).map G6:=by
    rw [Nm.c0C,<- a3m,show (8*(n2:Int)).toNat=8*W.length by omega]
  have hqm:IntKind.i64.wrap (((min p q:Nat):Int).tdiv 8)=((min p q / 8:Nat):Int):=c3c _ (by omega)
  have hmn:(if (q:Int) < (p:Int) then (q:Int) else (p:Int))=((min p q:Nat):Int):=by split<;>omega
  generalize min p q=r at *
  clear hW1 hW2 hcs hn1 hl1 hlo1 ho3
  cases s'
  all_goals
    simp only [rw2,kx,Bool.not_true,Bool.not_false]
    (repeat first|refine uA ?_|(apply uK;focus omega)|simp only [go_sem,Nat.reduceBEq,Nat.reduceAdd]|simp (disch:=omega) only [ww,hz8])
  · refine S.loop (X:=Nat) (fun i=>⟨[(6,.wv 0 1 lo2 n2),(7,ints p),(8,ints q),(9,.rv 2),(72,.wv 0 1 lo2 n2),(73,ints n2),(74,ints i)],[.row 218 1 (ls o'),.row 218 1 (ls u')]++[.row 5 1 ((Nm.a4J W i).map G6)]⟩) (fun i=>i<=n2) (fun i=>n2-i) 0 (c7n _) (by (repeat first|refine uA ?_|(refine ⟨?_,?_⟩;focus first|rfl|trivial|(simp [slot];done))|rfl|trivial|simp)) ?_
    intro i hi
    simp only [ints,List.cons_append,List.nil_append]
    (repeat first|refine uA ?_|(apply uK;focus omega)|simp (disch:=omega) only [go_sem,Nat.reduceBEq])
    (refine uJ rfl (fun hc=>?_) fun hc=>?_)
    · have hi':i < n2:=by omega
      have hiW:i < W.length:=by omega
      have hgo:o'[lo2+i]?=some (W[i]'hiW):=by rw [hgw i hi',c7h hiW]
      have hgd:W.getD i 0=W[i]'hiW:=Nm.getD_lt hiW
      (repeat first|refine uA ?_|(apply uK;focus omega)|simp only [go_sem,Nat.reduceBEq,F7,N8,hgo,c7j,lm]|simp (disch:=omega) only [ww,F7,N8,hgo,c7j,lm])
      rw [<- Nm.b3h hiW]
      refine S.loop (X:=Nat) (fun k=>⟨[(6,.wv 0 1 lo2 n2),(7,ints p),(8,ints q),(9,.rv 2),(72,.wv 0 1 lo2 n2),(73,ints n2),(74,ints i),(10,ints i),(11,.v (.int .u64 (W[i]'hiW:Int))),(79,ints k)],[.row 218 1 (ls o'),.row 218 1 (ls u')]++[.row 5 1 ((Nm.a1Z W i k).map G6)]⟩) (fun k=>k<=8) (fun k=>8-k) 0 (c7n _) (by (repeat first|refine uA ?_|(refine ⟨?_,?_⟩;focus first|rfl|trivial|(simp [slot];done))|rfl|trivial|simp)) ?_
      intro k hk
      simp only [ints,List.cons_append,List.nil_append]
      have hlk:=Nm.b5x hua hiW hk
      (repeat first|refine uA ?_|(apply uK;focus omega)|simp (disch:=omega) only [go_sem,Nat.reduceBEq])
      (refine uJ rfl (fun hc=>?_) fun hc=>?_)
      · have hk':k < 8:=by omega
        have hst:=Nm.b2t (l:=W) (i:=i) hk'
        rw [hgd] at hst
        have hbv:IntKind.u8.wrap (Int.fdiv ((W[i]'hiW:Nat):Int) (2 ^ min (56-8*(k:Int)).toNat 64))=(((Nm.oB ((W[i]'hiW) / 2 ^ (56-8*k))).toNat:Nat):Int):=by
          rw [<- a6I,show min (56-8*(k:Int)).toNat 64=56-8*k by omega]
          congr 2
        have hix:(8*((n2:Int)-1-(i:Int))+(k:Int)).toNat=8*(W.length-1-i)+k:=by omega
        have hgk:(Nm.a1Z W i k)[8*(W.length-1-i)+k]?=some ((Nm.a1Z W i k)[8*(W.length-1-i)+k]'(by omega)):=c7h (by omega)
        (repeat first|refine uA ?_|(apply uK;focus omega)|simp only [go_sem,Nat.reduceBEq,Nat.reduceAdd,Nat.reduceLeDiff,c7i,c7r,a7M,hst]|simp (disch:=omega) only [ww,hbv,hix,hgk,c7j,G6])
        refine S.next (x:=k) (k+1) hk' (by omega) (by (repeat first|refine uA ?_|(refine ⟨?_,?_⟩;focus first|rfl|trivial|(simp [slot];done))|rfl|trivial|simp))
      · have hk8:k=8:=by omega
        subst hk8
        rw [Nm.b0C hiW]
        (repeat first|refine uA ?_|(apply uK;focus omega)|simp (disch:=omega) only [go_sem,Nat.reduceBEq,ww])
        refine S.next (x:=i) (i+1) hi' (by omega) (by (repeat first|refine uA ?_|(refine ⟨?_,?_⟩;focus first|rfl|trivial|(simp [slot];done))|rfl|trivial|simp))
    · have hi':i=n2:=by omega
      subst hi'
      rw [<- hul,Nm.b5v]
      have hr1:((r / 8:Nat):Int)+1=((r / 8+1:Nat):Int):=by omega
      have hrep:List.replicate (((r / 8+1:Nat):Int)).toNat [C.v (.int .u8 0)]=(List.replicate (r / 8+1) (0:UInt8)).map G6:=by rw [<- a3m];rfl
      have hrm:(r:Int).tmod 8=((r % 8:Nat):Int):=b5U r
      have hpw:IntKind.u8.wrap (1*2 ^ min (r % 8) 8)=(((Nm.oB (2 ^ (r % 8))).toNat:Nat):Int):=by
        rw [show min (r % 8) 8=r % 8 by omega,Nm.a2c,<- a2a];congr 1;simp
      have hby:a0e ([C.v (.int .u8 (((Nm.oB (2 ^ (r % 8))).toNat:Nat):Int))]::List.replicate (r / 8) [C.v (.int .u8 0)])=some (Nm.oB (2 ^ (r % 8))::List.replicate (r / 8) 0):=by
        rw [a3m];exact a0t (Nm.oB (2 ^ (r % 8))::List.replicate (r / 8) 0)
      (repeat first|refine uA ?_|(apply uK;focus omega)|simp only [go_sem,Nat.reduceBEq,Nat.reduceAdd,Nat.reduceLeDiff,hmn,hqm,hr1,hrm,hpw,hby,a0t,a6S,c7o]|simp (disch:=omega) only [ww,c7o]|(apply uB hfm;exact rfl))
      exact S.done (j3.out rfl (Imp.refl rfl) rfl)
  · refine S.loop (X:=Nat) (fun i=>⟨[(6,.wv 1 1 lo2 n2),(7,ints p),(8,ints q),(9,.rv 2),(72,.wv 1 1 lo2 n2),(73,ints n2),(74,ints i)],[.row 218 1 (ls u'),.row 218 1 (ls o')]++[.row 5 1 ((Nm.a4J W i).map G6)]⟩) (fun i=>i<=n2) (fun i=>n2-i) 0 (c7n _) (by (repeat first|refine uA ?_|(refine ⟨?_,?_⟩;focus first|rfl|trivial|(simp [slot];done))|rfl|trivial|simp)) ?_
    intro i hi
    simp only [ints,List.cons_append,List.nil_append]
    (repeat first|refine uA ?_|(apply uK;focus omega)|simp (disch:=omega) only [go_sem,Nat.reduceBEq])
    (refine uJ rfl (fun hc=>?_) fun hc=>?_)
    · have hi':i < n2:=by omega
      have hiW:i < W.length:=by omega
      have hgo:o'[lo2+i]?=some (W[i]'hiW):=by rw [hgw i hi',c7h hiW]
      have hgd:W.getD i 0=W[i]'hiW:=Nm.getD_lt hiW
      (repeat first|refine uA ?_|(apply uK;focus omega)|simp only [go_sem,Nat.reduceBEq,F7,N8,hgo,c7j,lm]|simp (disch:=omega) only [ww,F7,N8,hgo,c7j,lm])
      rw [<- Nm.b3h hiW]
      refine S.loop (X:=Nat) (fun k=>⟨[(6,.wv 1 1 lo2 n2),(7,ints p),(8,ints q),(9,.rv 2),(72,.wv 1 1 lo2 n2),(73,ints n2),(74,ints i),(10,ints i),(11,.v (.int .u64 (W[i]'hiW:Int))),(79,ints k)],[.row 218 1 (ls u'),.row 218 1 (ls o')]++[.row 5 1 ((Nm.a1Z W i k).map G6)]⟩) (fun k=>k<=8) (fun k=>8-k) 0 (c7n _) (by (repeat first|refine uA ?_|(refine ⟨?_,?_⟩;focus first|rfl|trivial|(simp [slot];done))|rfl|trivial|simp)) ?_
      intro k hk
      simp only [ints,List.cons_append,List.nil_append]
      have hlk:=Nm.b5x hua hiW hk
      (repeat first|refine uA ?_|(apply uK;focus omega)|simp (disch:=omega) only [go_sem,Nat.reduceBEq])
      (refine uJ rfl (fun hc=>?_) fun hc=>?_)
      · have hk':k < 8:=by omega
        have hst:=Nm.b2t (l:=W) (i:=i) hk'
        rw [hgd] at hst
        have hbv:IntKind.u8.wrap (Int.fdiv ((W[i]'hiW:Nat):Int) (2 ^ min (56-8*(k:Int)).toNat 64))=(((Nm.oB ((W[i]'hiW) / 2 ^ (56-8*k))).toNat:Nat):Int):=by
          rw [<- a6I,show min (56-8*(k:Int)).toNat 64=56-8*k by omega]
          congr 2
        have hix:(8*((n2:Int)-1-(i:Int))+(k:Int)).toNat=8*(W.length-1-i)+k:=by omega
        have hgk:(Nm.a1Z W i k)[8*(W.length-1-i)+k]?=some ((Nm.a1Z W i k)[8*(W.length-1-i)+k]'(by omega)):=c7h (by omega)
        (repeat first|refine uA ?_|(apply uK;focus omega)|simp only [go_sem,Nat.reduceBEq,Nat.reduceAdd,Nat.reduceLeDiff,c7i,c7r,a7M,hst]|simp (disch:=omega) only [ww,hbv,hix,hgk,c7j,G6])
        refine S.next (x:=k) (k+1) hk' (by omega) (by (repeat first|refine uA ?_|(refine ⟨?_,?_⟩;focus first|rfl|trivial|(simp [slot];done))|rfl|trivial|simp))
      · have hk8:k=8:=by omega
        subst hk8
        rw [Nm.b0C hiW]
        (repeat first|refine uA ?_|(apply uK;focus omega)|simp (disch:=omega) only [go_sem,Nat.reduceBEq,ww])
        refine S.next (x:=i) (i+1) hi' (by omega) (by (repeat first|refine uA ?_|(refine ⟨?_,?_⟩;focus first|rfl|trivial|(simp [slot];done))|rfl|trivial|simp))
    · have hi':i=n2:=by omega
      subst hi'
      rw [<- hul,Nm.b5v]
      have hr1:((r / 8:Nat):Int)+1=((r / 8+1:Nat):Int):=by omega
      have hrep:List.replicate (((r / 8+1:Nat):Int)).toNat [C.v (.int .u8 0)]=(List.replicate (r / 8+1) (0:UInt8)).map G6:=by rw [<- a3m];rfl
      have hrm:(r:Int).tmod 8=((r % 8:Nat):Int):=b5U r
      have hpw:IntKind.u8.wrap (1*2 ^ min (r % 8) 8)=(((Nm.oB (2 ^ (r % 8))).toNat:Nat):Int):=by
        rw [show min (r % 8) 8=r % 8 by omega,Nm.a2c,<- a2a];congr 1;simp
      have hby:a0e ([C.v (.int .u8 (((Nm.oB (2 ^ (r % 8))).toNat:Nat):Int))]::List.replicate (r / 8) [C.v (.int .u8 0)])=some (Nm.oB (2 ^ (r % 8))::List.replicate (r / 8) 0):=by
        rw [a3m];exact a0t (Nm.oB (2 ^ (r % 8))::List.replicate (r / 8) 0)
      (repeat first|refine uA ?_|(apply uK;focus omega)|simp only [go_sem,Nat.reduceBEq,Nat.reduceAdd,Nat.reduceLeDiff,hmn,hqm,hr1,hrm,hpw,hby,a0t,a6S,c7o]|simp (disch:=omega) only [ww,c7o]|(apply uB hfm;exact rfl))
      exact S.done (j3.out rfl (Imp.refl rfl) rfl)
theorem c2R (a b:List UInt8) (ha:a.length<=68719476736) (hb:b.length<=68719476736):FZ 142 [sb a,sb b] (sb (Nm.enc (Nat.gcd (Nm.val a) (Nm.val b)))):=by
  refine kW b7T b8V (by rfl) fun w O hw=>?_
  simp only [b0P,j5,TT,II,OA,OC,MM,MG,sb]
  have hta:=Nm.Y6 a
  have htb:=Nm.Y6 b
  have hva:=Nm.R4 a
  have hvb:=Nm.R4 b
  have hca:=Nm.X5 a
  have hcb:=Nm.X5 b
  have fta:=a0v a (by omega)
  have ftb:=a0v b (by omega)
  rw [<- hva,<- hvb]
  clear hva hvb
  generalize Nm.trim a=x at *
  generalize Nm.trim b=y at *
  generalize hG:Nat.gcd (Nm.val x) (Nm.val y)=G at *
  (repeat first|refine uA ?_|(refine uK ?_ ?_;focus first|omega|(intros;simp_all<;>omega))|simp (disch:=omega) only [go_sem,Nat.reduceBEq,Nat.reduceAdd]|(refine uB fta ?_ ?_;exact rfl)|(refine uB ftb ?_ ?_;exact rfl))
  refine S.loop (X:=List UInt8 × List UInt8) (fun s=>⟨[(0,sb s.1),(1,sb s.2)],[]⟩) (fun s=>Nm.canon s.1/\Nm.canon s.2/\s.1.length<=68719476736/\s.2.length<=68719476736/\Nat.gcd (Nm.val s.1) (Nm.val s.2)=G) (fun s=>Nm.val s.1+Nm.val s.2) (x,y) ⟨hca,hcb,by simp only;omega,by simp only;omega,hG⟩ (by (repeat first|refine uA ?_|(refine ⟨?_,?_⟩;focus first|rfl|simp [slot])|rfl|simp)) ?_
  clear fta ftb hca hcb hta htb hG
  rintro ⟨x,y⟩ ⟨hcx,hcy,hlx,hly,hG⟩
  simp only [sb] at hcx hcy hlx hly hG ⊢
  (repeat first|refine uA ?_|(refine uK ?_ ?_;focus first|omega|(intros;simp_all<;>omega))|simp (disch:=omega) only [go_sem,Nat.reduceBEq])
  (refine uJ rfl (fun hc=>?_) fun hc=>?_)
  · rw [a0p,a0p] at hc
    have hne:=hc
    refine S.skip ?_
    refine S.block ?_
    refine S.seq ?_
    refine S.join (Y:=List UInt8 × List UInt8) (fun s=>⟨[(0,sb s.1),(1,sb s.2)],[]⟩) (fun s=>Nm.canon s.1/\Nm.canon s.2/\s.1.length<=68719476736/\s.2.length<=s.1.length/\Nat.gcd (Nm.val s.1) (Nm.val s.2)=G/\s.1 ≠ []/\s.2 ≠ []/\Nm.val s.1+Nm.val s.2=Nm.val x+Nm.val y) ?_ ?_
    · (repeat first|refine uA ?_|(refine uK ?_ ?_;focus first|omega|(intros;simp_all<;>omega))|simp (disch:=omega) only [go_sem,Nat.reduceBEq,F4])
      (refine uJ rfl (fun hc=>?_) fun hc=>?_)
      · (repeat first|refine uA ?_|(refine uK ?_ ?_;focus first|omega|(intros;simp_all<;>omega))|simp (disch:=omega) only [go_sem,Nat.reduceBEq])
        exact S.met (⟨y,x⟩:List UInt8 × List UInt8) ⟨hcy,hcx,hly,by simp only;omega,by rw [Nat.gcd_comm];exact hG,hne.2,hne.1,by simp only;omega⟩ (by (repeat first|refine uA ?_|(refine ⟨?_,?_⟩;focus first|rfl|simp [slot])|rfl|simp))
      · (repeat first|refine uA ?_|(refine uK ?_ ?_;focus first|omega|(intros;simp_all<;>omega))|simp (disch:=omega) only [go_sem,Nat.reduceBEq,Nat.reduceAdd,ww])
        exact S.met (⟨x,y⟩:List UInt8 × List UInt8) ⟨hcx,hcy,hlx,by simp only;omega,hG,hne.1,hne.2,rfl⟩ (by (repeat first|refine uA ?_|(refine ⟨?_,?_⟩;focus first|rfl|simp [slot])|rfl|simp))
    clear hcx hcy hlx hly hG hc hne
    rintro ⟨p,q⟩ ⟨hcx,hcy,hlx,hly,hG,hp0,hq0,hsum⟩
    simp only [sb] at hcx hcy hlx hly hG hp0 hq0 hsum ⊢
    have hvp:Nm.val p ≠ 0:=fun h=>hp0 ((Nm.val_zero hcx).1 h)
    have hvq:Nm.val q ≠ 0:=fun h=>hq0 ((Nm.val_zero hcy).1 h)
    (repeat first|refine uA ?_|(refine uK ?_ ?_;focus first|omega|(intros;simp_all<;>omega))|simp (disch:=omega) only [go_sem,Nat.reduceBEq,F4])
    (refine uJ rfl (fun hc=>?_) fun hc=>?_)
    · have hx7:=Nm.a0r (l:=p) (k:=8) (by omega)
      have hy7:=Nm.a0r (l:=q) (k:=8) (by omega)
      have e1:Nm.val p % 18446744073709551616=Nm.val p:=Nat.mod_eq_of_lt (by omega)
      have e2:Nm.val q % 18446744073709551616=Nm.val q:=Nat.mod_eq_of_lt (by omega)
      have fx:=a1R p (by omega)
      have fy:=a1R q (by omega)
      rw [e1] at fx
      rw [e2] at fy
      have hco:=b5S (Nm.val p) (Nm.val q) (by omega) (by omega)
      rw [hG] at hco
      have hle:G<=Nm.val q:=by rw [<- hG];exact Nat.gcd_le_right _ (by omega)
      have hf:=a0z G (by omega)
      (repeat first|refine uA ?_|(refine uK ?_ ?_;focus first|omega|(intros;simp_all<;>omega))|simp (disch:=omega) only [go_sem,Nat.reduceBEq]|(refine uB fx ?_ ?_;exact rfl)|(refine uB fy ?_ ?_;exact rfl)|(refine uB hco ?_ ?_;exact rfl)|(refine uB hf ?_ ?_;exact rfl))
      exact S.done (j3.out rfl (Imp.refl rfl) rfl)
    (repeat first|refine uA ?_|(refine uK ?_ ?_;focus first|omega|(intros;simp_all<;>omega))|simp (disch:=omega) only [go_sem,Nat.reduceBEq,ww,F4])
    (refine uJ rfl (fun hc=>?_) fun hc=>?_)
    · have hh:=c1Z p q hlx (by omega) hvp hvq
      rw [hG] at hh
      (repeat first|refine uA ?_|(refine uK ?_ ?_;focus first|omega|(intros;simp_all<;>omega))|simp (disch:=omega) only [go_sem,Nat.reduceBEq]|(refine uD hh ?_ ?_ ?_;exact tz hw;exact rfl))
      exact S.done (j3.out rfl (Imp.refl rfl) rfl)
    · have hd:=b3L p q (by omega) (by omega) hvq
      have hlt:Nm.val p % Nm.val q < Nm.val q:=Nat.mod_lt _ (by omega)
      have hlq:=Nm.Y8 q
      have hpq:=Nm.a2Y hcx (a:=q) (b:=p) (by omega)
      have hrl:(Nm.enc (Nm.val p % Nm.val q)).length<=q.length:=Nm.G5 (by omega)
      (repeat first|refine uA ?_|(refine uK ?_ ?_;focus first|omega|(intros;simp_all<;>omega))|simp (disch:=omega) only [go_sem,Nat.reduceBEq]|(refine uB hd ?_ ?_;exact rfl))
      refine S.next (x:=(x,y)) (q,Nm.enc (Nm.val p % Nm.val q)) ⟨hcy,Nm.a2H _,by simp only;omega,by simp only;omega,?_⟩ (by simp only [Nm.H7];omega) (by (repeat first|refine uA ?_|(refine ⟨?_,?_⟩;focus first|rfl|simp [slot])|rfl|simp))
      simp only [Nm.H7]
      rw [Nat.gcd_comm,<- Nat.gcd_rec,Nat.gcd_comm];exact hG
  · have hr:Nm.enc G=x++y:=by
      rw [a0p,a0p] at hc
      rcases Classical.em (x=[]) with h|h
      · subst h
        rw [Nm.b1Y,Nat.gcd_zero_left] at hG
        rw [<- hG,Nm.a1r hcy];rfl
      · have hy:y=[]:=by
          rcases hc with hc|hc
          · exact absurd hc h
          · exact hc
        subst hy
        rw [Nm.b1Y,Nat.gcd_zero_right] at hG
        rw [<- hG,Nm.a1r hcx,List.append_nil]
    rw [hr]
    (repeat first|refine uA ?_|(refine uK ?_ ?_;focus first|omega|(intros;simp_all<;>omega))|simp (disch:=omega) only [go_sem,Nat.reduceBEq,c5z,F4])
    exact S.done (j3.out rfl (Imp.refl rfl) rfl)
def rc (a:Nm.Rt):C:=.agg [.v (.bool a.neg),sb a.num,sb a.den]
def rq (q:Rat):C:=rc (Nm.ofQ q)
def Rb (k:Nat) (a:Nm.Rt):Prop:=a.num.length<=k/\a.den.length<=k
theorem a6v (l:List UInt8):(bs l=(⟨#[1]⟩:ByteArray))=(l=[1]):=b8n l [1]
theorem b2C (l:List UInt8):Nm.canon l <-> (l=[] \/ l.getD 0 0 ≠ 0):=by
 cases l with
 | nil=>simp [Nm.a8n]
 | cons b r=>
  simp only [List.getD_cons_zero,reduceCtorEq,false_or]
  constructor
  ·intro h h0;exact h r (by rw [h0])
  ·intro h q e;injection e with e1 _;exact h e1
theorem a1v (a:Nm.Rt) (ha:Rb 68719476736 a):FZ 95 [rc a] (.v (.bool (decide a.H9))):=by
  refine kW b6o b6H (by rfl) fun w O hw=>?_
  obtain ⟨neg,num,den⟩:=a
  obtain ⟨hn,hd⟩:=ha
  simp only [rc] at hn hd ⊢
  simp only [a9h,j5,TT,II,OA,OC,MM,VV,FF,MG,VG,FG,sb]
  have hg:=c2R num den (by omega) (by omega)
  have hgood:Nm.Rt.H9 ⟨neg,num,den⟩ <-> den ≠ []/\Nm.canon den/\Nm.canon num/\(num=[]->neg=false/\den=[1])/\(den=[1] \/ Nat.gcd (Nm.val num) (Nm.val den)=1):=Iff.rfl
  rw [b2C,b2C] at hgood
  have hdl:(!decide (den=[]))=true->0 < (den.length:Int):=fun h=>by
    have:den ≠ []:=by simpa using h
    have:=List.length_pos_iff.2 this
    omega
  have hnl:num ≠ []->0 < (num.length:Int):=fun h=>by
    have:=List.length_pos_iff.2 h
    omega
  have hgb0:∀ {p:Prop} [Decidable p],(Nm.Rt.H9 ⟨neg,num,den⟩ <-> p)->decide (Nm.Rt.H9 ⟨neg,num,den⟩)=decide p:=fun h=>decide_eq_decide.2 h
  have hgb:=hgb0 hgood
  clear hgood hgb0
  generalize decide (Nm.Rt.H9 ⟨neg,num,den⟩)=gb at *
  (repeat first|refine uA ?_|(refine uK ?_ ?_;focus first|omega|trivial|(intro h;rw [h];rfl)|(intro h h2;rw [h,h2];rfl)|(intro h;(try simp at h);omega)|(intros;simp_all<;>omega))|simp only [go_sem,Nat.reduceBEq,Nat.reduceAdd,F4,a0m,a8N,a0p,a6v]|simp (disch:=omega) only [ww,F4,a0m,a8N,a0p,a6v])
  refine S.cond rfl (fun hc=>?_) (fun hc=>?_)
  · have:gb=false:=by
      rw [hgb,c7H]
      simp only [c7Y,c7q,c7v,Bool.not_eq_true',c7H] at hc
      grind
    rw [this]
    (repeat first|refine uA ?_|(refine uK ?_ ?_;focus first|omega|trivial|(intro h;rw [h];rfl)|(intro h h2;rw [h,h2];rfl)|(intro h;(try simp at h);omega)|(intros;simp_all<;>omega))|simp only [go_sem]|simp (disch:=omega) only [ww])
    exact S.done (j3.out rfl (Imp.refl rfl) rfl)
  · have hone:(Nm.enc (Nat.gcd (Nm.val num) (Nm.val den))=[1])=(Nat.gcd (Nm.val num) (Nm.val den)=1):=by
      rw [<- Nm.U6]
      exact propext ⟨Nm.b1x,fun h=>by rw [h]⟩
    have:gb=(decide (den=[1]) || decide (Nat.gcd (Nm.val num) (Nm.val den)=1)):=by
      rw [hgb,<- Bool.decide_or]
      simp only [c7V,Bool.and_eq_false_iff,c7v,Bool.not_eq_false',c7H] at hc
      refine decide_eq_decide.2 ⟨fun h=>h.2.2.2.2,fun h=>?_⟩
      grind
    rw [this]
    (repeat first|refine uA ?_|(refine uK ?_ ?_;focus first|omega|trivial|(intro h;rw [h];rfl)|(intro h h2;rw [h,h2];rfl)|(intro h;(try simp at h);omega)|(intros;simp_all<;>omega))|simp only [go_sem,Nat.reduceBEq,Nat.reduceAdd,a6v,hone]|simp (disch:=omega) only [ww,a0p,a6v,hone]|(refine uD hg ?_ ?_ ?_;exact tz hw;exact rfl))
    exact S.done (j3.out rfl (Imp.refl rfl) rfl)
theorem b9n:A9 Tryz.prog 103 [] (rc Nm.a3H):=by
 refine kS Tryz.func103 (by cbv) (by rfl) fun w O=>?_
 simp only [j5,TT,OA,OB,rc,Nm.a3H,sb]
 (repeat first|refine uA ?_|(apply uK;focus omega)|simp (disch:=omega) only [go_sem,Nat.reduceBEq])
 (refine S.done ?_;simp only [p9,r9,go_sem,Nat.reduceBEq,Nat.reduceAdd,Nat.reduceLeDiff];(repeat (refine ⟨?_,?_⟩;focus first|trivial|omega|simp));exact j3.out rfl (Imp.refl rfl) rfl)
theorem c6C (a:Nm.Rt) (ha:Rb 68719476736 a):FZ 40 [rc a] (rq (Nm.d9 a)):=by
 refine kW Tryz.func40 (by cbv) (by rfl) fun w O hw=>?_
 have hg:=a1v a ha
 have fz:=b9n
 unfold rq
 by_cases h:a.H9
 ·rw [Nm.b9o h]
  rw [show decide a.H9=true from decide_eq_true h] at hg
  simp only [j5,TT,OA,OB,LL,rc,sb] at hg ⊢
  (repeat first|refine uA ?_|(apply uK;focus omega)|simp (disch:=omega) only [go_sem,Nat.reduceBEq]|(apply uD hg;exact tz hw;rfl))
  exact S.cond rfl (fun hc=>by cases hc) (fun _=>by
   (repeat first|refine uA ?_|(apply uK;focus omega)|simp (disch:=omega) only [go_sem,Nat.reduceBEq])
   (refine S.done ?_;simp only [p9,r9,go_sem,Nat.reduceBEq,Nat.reduceAdd,Nat.reduceLeDiff];(repeat (refine ⟨?_,?_⟩;focus first|trivial|omega|simp));exact j3.out rfl (Imp.refl rfl) rfl))
 ·have e:Nm.ofQ (Nm.d9 a)=Nm.a3H:=by unfold Nm.d9;rw [if_neg h,Nm.a4K]
  rw [e]
  rw [show decide a.H9=false from decide_eq_false h] at hg
  simp only [j5,TT,OA,OB,LL,rc,sb,Nm.a3H] at hg fz ⊢
  (repeat first|refine uA ?_|(apply uK;focus omega)|simp (disch:=omega) only [go_sem,Nat.reduceBEq]|(apply uD hg;exact tz hw;rfl))
  exact S.cond rfl (fun _=>by
   (repeat first|refine uA ?_|(apply uK;focus omega)|simp (disch:=omega) only [go_sem,Nat.reduceBEq]|(apply uB fz;exact rfl))
   (refine S.done ?_;simp only [p9,r9,go_sem,Nat.reduceBEq,Nat.reduceAdd,Nat.reduceLeDiff];(repeat (refine ⟨?_,?_⟩;focus first|trivial|omega|simp));exact j3.out rfl (Imp.refl rfl) rfl)) (fun hc=>by cases hc)
theorem c3N {n d k:Nat} (hd:0 < d) (h:(Nm.enc d).length<=k):(Nm.enc (Nat.gcd n d)).length<=k:=Nm.G5 (Nat.lt_of_le_of_lt (Nat.gcd_le_right n hd) (Nm.Y5 h))
theorem a2U (neg:Bool) (n d:Nat) (hd:d ≠ 0) (hn:(Nm.enc n).length<=68719476736) (hdl:(Nm.enc d).length<=68719476736) :
  FZ 100 [.v (.bool neg),sb (Nm.enc n),sb (Nm.enc d)] (rq (mkRat (Nm.sgn neg n) d)):=by
 refine kW Tryz.func100 (by cbv) (by rfl) fun w O hw=>?_
 have fz:=b9n
 have hg:=c2R (Nm.enc n) (Nm.enc d) hn hdl
 rw [Nm.H7,Nm.H7] at hg
 unfold rq
 rw [<- Nm.b2a neg hd]
 have hz:(Nm.enc n=[])=(n=0):=propext ⟨fun h=>Classical.byContradiction fun h0=>Nm.a6u h0 h,fun h=>by rw [h,Nm.a0S]⟩
 have h1:∀ d,(Nm.enc d=[1])=(d=1):=fun d=>by
  rw [<- Nm.U6];exact propext ⟨Nm.b1x,fun h=>by rw [h]⟩
 have hgp:Nat.gcd n d ≠ 0:=fun h=>hd (Nat.eq_zero_of_gcd_eq_zero_right h)
 have hgl:(Nm.enc (Nat.gcd n d)).length<=68719476736:=by
  exact c3N (by omega) hdl
 have hd1:=b3L (Nm.enc n) (Nm.enc (Nat.gcd n d)) (by omega) (by omega) (by rw [Nm.H7];exact hgp)
 have hd2:=b3L (Nm.enc d) (Nm.enc (Nat.gcd n d)) (by omega) (by omega) (by rw [Nm.H7];exact hgp)
 simp only [Nm.H7] at hd1 hd2
 generalize hgg:Nat.gcd n d=g at *
 simp only [j5,TT,OA,OB,MM,sb]
 (repeat first|refine uA ?_|(apply uK;focus first|omega|(intros;simp_all<;>omega))|simp (disch:=omega) only [go_sem,Nat.reduceBEq,Nat.reduceAdd,a0p,hz])
 (refine uJ rfl (fun hc=>?_) fun hc=>?_)
 ·rw [if_pos hc]
  simp only [rc,Nm.a3H,sb] at fz ⊢
  (repeat first|refine uA ?_|(apply uK;focus omega)|simp (disch:=omega) only [go_sem,Nat.reduceBEq]|(apply uB fz;exact rfl))
  (refine S.done ?_;simp only [p9,r9,go_sem,Nat.reduceBEq,Nat.reduceAdd,Nat.reduceLeDiff];(repeat (refine ⟨?_,?_⟩;focus first|trivial|omega|simp));exact j3.out rfl (Imp.refl rfl) rfl)
 rw [if_neg hc]
 simp only [rc,sb]
 (repeat first|refine uA ?_|(apply uK;focus omega)|simp (disch:=omega) only [go_sem,Nat.reduceBEq,a6v,h1])
 (refine uJ rfl (fun hc=>?_) fun hc=>?_)
 ·(repeat first|refine uA ?_|(apply uK;focus omega)|simp (disch:=omega) only [go_sem,Nat.reduceBEq,a6v,h1]|(apply uD hg;exact tz hw;rfl))
  (refine uJ rfl (fun hc=>?_) fun hc=>?_)
  ·(repeat first|refine uA ?_|(apply uK;focus omega)|simp (disch:=omega) only [go_sem,Nat.reduceBEq]|(apply uB hd1;exact rfl)|(apply uB hd2;exact rfl))
   (refine S.done ?_;simp only [p9,r9,go_sem,Nat.reduceBEq,Nat.reduceAdd,Nat.reduceLeDiff];(repeat (refine ⟨?_,?_⟩;focus first|trivial|omega|simp));exact j3.out rfl (Imp.refl rfl) rfl)
  ·rw [hc,Nat.div_one,Nat.div_one]
   (repeat first|refine uA ?_|(apply uK;focus omega)|simp (disch:=omega) only [go_sem,Nat.reduceBEq])
   (refine S.done ?_;simp only [p9,r9,go_sem,Nat.reduceBEq,Nat.reduceAdd,Nat.reduceLeDiff];(repeat (refine ⟨?_,?_⟩;focus first|trivial|omega|simp));exact j3.out rfl (Imp.refl rfl) rfl)
 ·rw [hc,Nat.gcd_one_right] at hgg
  subst hgg
  rw [hc,Nat.div_one,Nat.div_one]
  (repeat first|refine uA ?_|(apply uK;focus omega)|simp (disch:=omega) only [go_sem,Nat.reduceBEq])
  (refine S.done ?_;simp only [p9,r9,go_sem,Nat.reduceBEq,Nat.reduceAdd,Nat.reduceLeDiff];(repeat (refine ⟨?_,?_⟩;focus first|trivial|omega|simp));exact j3.out rfl (Imp.refl rfl) rfl)
theorem b5X (neg mi:Bool) (a b:List UInt8) (ha:a.length<=68719476736) (hb:b.length<=68719476736) :
  A9 Tryz.prog 99 [.v (.bool neg),sb a,.v (.bool mi),sb b] (.tup [.v (.bool (Nm.M9 neg (Nm.val a) mi (Nm.val b)).1),sb (Nm.enc (Nm.M9 neg (Nm.val a) mi (Nm.val b)).2)]):=by
 refine kS Tryz.func99 (by cbv) (by rfl) fun w O=>?_
 have hadd:=f_add a b (by omega) (by omega)
 have hs1:=c2S a b (by omega) (by omega)
 have hs2:=c2S b a (by omega) (by omega)
 simp only [j5,TT,II,OA,MM,sb]
 (repeat first|refine uA ?_|(apply uK;focus first|omega|(intros;simp_all<;>omega))|simp (disch:=omega) only [go_sem,Nat.reduceBEq,Nat.reduceAdd])
 refine S.cond rfl (fun hc=>?_) (fun hc=>?_)
 ·have e:neg=mi:=by simpa using hc
  subst e
  unfold Nm.M9
  rw [if_pos rfl]
  (repeat first|refine uA ?_|(apply uK;focus omega)|simp (disch:=omega) only [go_sem,Nat.reduceBEq]|(apply uB hadd;exact rfl))
  exact S.done (j3.out rfl (Imp.refl rfl) rfl)
 ·have e:neg ≠ mi:=by simpa using hc
  unfold Nm.M9
  rw [if_neg e]
  by_cases h:Nm.val b<=Nm.val a
  ·rw [if_pos h]
   have e1:H8 (Nm.val a) (Nm.val b)=Nm.enc (Nm.val a-Nm.val b):=by unfold H8;rw [if_pos h]
   have e2:a4I (Nm.val a) (Nm.val b)=0:=by unfold a4I;rw [if_pos h]
   rw [e1,e2] at hs1
   (repeat first|refine uA ?_|(apply uK;focus omega)|simp (disch:=omega) only [go_sem,Nat.reduceBEq]|(apply uB hs1;exact rfl))
   refine S.cond rfl (fun hc=>?_) (fun hc=>?_)
   ·(repeat first|refine uA ?_|(apply uK;focus omega)|simp (disch:=omega) only [go_sem,Nat.reduceBEq])
    exact S.done (j3.out rfl (Imp.refl rfl) rfl)
   ·simp at hc
  ·rw [if_neg h]
   have e1:H8 (Nm.val a) (Nm.val b)=[]:=by unfold H8;rw [if_neg h]
   have e2:a4I (Nm.val a) (Nm.val b)=1:=by unfold a4I;rw [if_neg h]
   have e3:H8 (Nm.val b) (Nm.val a)=Nm.enc (Nm.val b-Nm.val a):=by unfold H8;rw [if_pos (by omega)]
   have e4:a4I (Nm.val b) (Nm.val a)=0:=by unfold a4I;rw [if_pos (by omega)]
   rw [e1,e2] at hs1
   rw [e3,e4] at hs2
   (repeat first|refine uA ?_|(apply uK;focus omega)|simp (disch:=omega) only [go_sem,Nat.reduceBEq]|(apply uB hs1;exact rfl))
   refine S.cond rfl (fun hc=>?_) (fun hc=>?_)
   ·simp at hc
   ·(repeat first|refine uA ?_|(apply uK;focus omega)|simp (disch:=omega) only [go_sem,Nat.reduceBEq]|(apply uB hs2;exact rfl))
    exact S.done (j3.out rfl (Imp.refl rfl) rfl)
namespace Nm
theorem J7 {a b k m:Nat} (ha:(enc a).length<=k) (hb:(enc b).length<=m):(enc (a*b)).length<=k+m:=by
 refine G5 ?_
 rw [Nat.pow_add]
 exact Nat.mul_lt_mul'' (Y5 ha) (Y5 hb)
theorem a2b {a b k:Nat} (ha:(enc a).length<=k) (hb:(enc b).length<=k):(enc (a+b)).length<=k+1:=by
 refine G5 ?_
 have h1:=Y5 ha
 have h2:=Y5 hb
 rw [c7T];omega
theorem a2u {a b:Nat} (h:a<=b):(enc a).length<=(enc b).length:=G5 (Nat.lt_of_le_of_lt h (Y5 (c7p _)))
theorem a7l (neg:Bool) (a:Nat) (mi:Bool) (b:Nat):(M9 neg a mi b).2<=a+b:=by
 unfold M9;repeat' split
 all_goals simp only;omega
theorem add_same {p q:Rat} (h:p.den=q.den):p+q=mkRat (p.num+q.num) p.den:=by
 rw [Rat.add_def',<- h,<- Int.add_mul,Rat.mkRat_mul_right p.den_nz]
theorem a8H (p:Rat):sgn (decide (p.num < 0)) p.num.natAbs=p.num:=b7c p
theorem c1D {p q:Rat} (h:p.den=q.den):mkRat (sgn (M9 (decide (p.num < 0)) p.num.natAbs (decide (q.num < 0)) q.num.natAbs).1 (M9 (decide (p.num < 0)) p.num.natAbs (decide (q.num < 0)) q.num.natAbs).2) p.den=p+q:=by
 rw [b2S,a8H,a8H,add_same h]
theorem b3a (p q:Rat):mkRat (sgn (M9 (decide (p.num < 0)) (p.num.natAbs*q.den) (decide (q.num < 0)) (q.num.natAbs*p.den)).1 (M9 (decide (p.num < 0)) (p.num.natAbs*q.den) (decide (q.num < 0)) (q.num.natAbs*p.den)).2) (p.den*q.den)=p+q:=by
 rw [b2S,a5V,a5V,a8H,a8H,Rat.add_def']
theorem b4Y (p q:Rat):mkRat (sgn (decide (p.num < 0) != decide (q.num < 0)) (p.num.natAbs*q.num.natAbs)) (p.den*q.den)=p*q:=by
 rw [c3K,a8H,a8H,Rat.mul_def']
theorem b4Q (p q:Rat) (h:q ≠ 0):mkRat (sgn (decide (p.num < 0) != decide (q.num < 0)) (p.num.natAbs*q.den)) (p.den*q.num.natAbs)=p / q:=by
 have hn:q.num ≠ 0:=fun e=>h (Rat.num_eq_zero.1 e)
 have hn':q.num.natAbs ≠ 0:=by omega
 generalize hr:mkRat (sgn (decide (p.num < 0) != decide (q.num < 0)) (p.num.natAbs*q.den)) (p.den*q.num.natAbs)=r
 have key:p=r*q:=by
  rw [<- hr]
  have e1:p=mkRat p.num p.den:=(Rat.mkRat_self p).symm
  have e2:q=mkRat q.num q.den:=(Rat.mkRat_self q).symm
  have hD:p.den*q.num.natAbs*q.den ≠ 0:=Nat.mul_ne_zero (Nat.mul_ne_zero p.den_nz hn') q.den_nz
  have e3:mkRat (sgn (decide (p.num < 0) != decide (q.num < 0)) (p.num.natAbs*q.den)) (p.den*q.num.natAbs)*q=mkRat (sgn (decide (p.num < 0) != decide (q.num < 0)) (p.num.natAbs*q.den)*q.num) (p.den*q.num.natAbs*q.den):=by
   conv=>lhs;rw [e2]
   rw [Rat.mkRat_mul_mkRat]
   simp only [Rat.mkRat_self]
  rw [e3]
  conv=>lhs;rw [e1]
  rw [Rat.mkRat_eq_iff p.den_nz hD]
  have hx:sgn (decide (p.num < 0) != decide (q.num < 0)) (p.num.natAbs*q.den)*q.num=p.num*((q.num.natAbs:Nat):Int)*q.den:=by
   rw [a5V]
   have:sgn (decide (p.num < 0) != decide (q.num < 0)) p.num.natAbs*q.num=p.num*((q.num.natAbs:Nat):Int):=by
    unfold sgn
    by_cases hA:p.num < 0
    ·by_cases hB:q.num < 0
     ·simp only [hA,hB,decide_true,bne_self_eq_false,c7Q,if_false]
      have e1:((p.num.natAbs:Nat):Int)=-p.num:=by omega
      have e2:((q.num.natAbs:Nat):Int)=-q.num:=by omega
      rw [e1,e2];grind
     ·simp only [hA,hB,decide_true,decide_false,Bool.bne_false,if_true]
      have e1:((p.num.natAbs:Nat):Int)=-p.num:=by omega
      have e2:((q.num.natAbs:Nat):Int)=q.num:=by omega
      rw [e1,e2];grind
    ·by_cases hB:q.num < 0
     ·simp only [hA,hB,decide_true,decide_false,Bool.bne_true,Bool.not_false,if_true]
      have e1:((p.num.natAbs:Nat):Int)=p.num:=by omega
      have e2:((q.num.natAbs:Nat):Int)=-q.num:=by omega
      rw [e1,e2];grind
     ·simp only [hA,hB,decide_false,bne_self_eq_false,c7Q,if_false]
      have e1:((p.num.natAbs:Nat):Int)=p.num:=by omega
      have e2:((q.num.natAbs:Nat):Int)=q.num:=by omega
      rw [e1,e2]
   calc sgn (decide (p.num < 0) != decide (q.num < 0)) p.num.natAbs*(q.den:Int)*q.num=(sgn (decide (p.num < 0) != decide (q.num < 0)) p.num.natAbs*q.num)*(q.den:Int):=by grind
    _=_:=by rw [this]
  rw [hx]
  push_cast
  grind
 rw [Rat.div_def]
 conv=>rhs;rw [key]
 rw [Rat.mul_assoc,Rat.mul_inv_cancel _ h,Rat.mul_one]
end Nm
theorem Rb.fit {k:Nat} {a:Nm.Rt} (h:Rb k a) (hk:1<=k):Rb k (Nm.ofQ (Nm.d9 a)):=by
 by_cases hg:a.H9
 ·rw [Nm.b9o hg];exact h
 ·have e:Nm.ofQ (Nm.d9 a)=Nm.a3H:=by unfold Nm.d9;rw [if_neg hg,Nm.a4K]
  rw [e];exact ⟨c7n _,hk⟩
theorem U8 (a:Nm.Rt) (ha:Rb 17179869184 a):FZ 40 [rc a] (rq (Nm.d9 a)):=c6C a ⟨by have:=ha.1;omega,by have:=ha.2;omega⟩
theorem c4x (a b:Nat):(Nm.enc a=Nm.enc b)=(a=b):=propext ⟨Nm.b1x,fun h=>by rw [h]⟩
theorem a2J (n:Nat):(Nm.enc n=[])=(n=0):=propext ⟨fun h=>Classical.byContradiction fun h0=>Nm.a6u h0 h,fun h=>by rw [h,Nm.a0S]⟩
theorem a2l (n:Int) (h1:-9223372036854775808<=n) (h2:n<=9223372036854775807):FZ 48 [ints n] (rq (n:Rat)):=by
 refine kW Tryz.func48 (by cbv) (by rfl) fun w O hw=>?_
 have hb:∀ k:Nat,k<=9223372036854775808->(Nm.enc k).length<=8:=fun k hk=>Nm.G5 (by omega)
 have e1:sb [1]=sb (Nm.enc 1):=by rw [Nm.U6]
 simp only [j5,TT,II,OA,OB,MM,ints]
 (repeat first|refine uA ?_|(apply uK;focus omega)|simp (disch:=omega) only [go_sem,Nat.reduceBEq])
 (refine uJ rfl (fun hc=>?_) fun hc=>?_)
 ·have hof:=b5R n (by omega)
  have hm:=a2U false n.toNat 1 (by decide) (by have:=hb n.toNat (by omega);omega) (by have:=hb 1 (by decide);omega)
  have e:mkRat (Nm.sgn false n.toNat) 1=(n:Rat):=by
   rw [Rat.mkRat_one];congr 1;unfold Nm.sgn;simp;omega
  rw [e,Nm.U6] at hm
  simp only [rq,rc,sb,ints] at hm hof ⊢
  (repeat first|refine uA ?_|(apply uK;focus omega)|simp (disch:=omega) only [go_sem,Nat.reduceBEq]|(apply uB hof;exact rfl)|(apply uD hm;exact tz hw;rfl))
  (refine S.done ?_;simp only [p9,r9,go_sem,Nat.reduceBEq,Nat.reduceAdd,Nat.reduceLeDiff];(repeat (refine ⟨?_,?_⟩;focus first|trivial|omega|simp));exact j3.out rfl (Imp.refl rfl) rfl)
 ·have hof:=b5R (-(n+1)) (by omega)
  have hadd:=f_add (Nm.enc (-(n+1)).toNat) [1] (by have:=hb (-(n+1)).toNat (by omega);omega) (by decide)
  have hm:=a2U true ((-(n+1)).toNat+1) 1 (by decide) (by have:=hb ((-(n+1)).toNat+1) (by omega);omega) (by have:=hb 1 (by decide);omega)
  have e:mkRat (Nm.sgn true ((-(n+1)).toNat+1)) 1=(n:Rat):=by
   rw [Rat.mkRat_one];congr 1;unfold Nm.sgn;simp;omega
  rw [Nm.H7,show Nm.val [1]=1 from rfl] at hadd
  rw [e,Nm.U6] at hm
  have hneg:IntKind.i64.wrap (0-(n+1))=-(n+1):=by rw [Eng.wrap_i64 (by omega)];omega
  simp only [rq,rc,sb,ints] at hm hof hadd ⊢
  (repeat first|refine uA ?_|(apply uK;focus omega)|simp (disch:=omega) only [go_sem,Nat.reduceBEq,ww,hneg]|(apply uB hof;exact rfl)|(apply uB hadd;exact rfl)|(apply uD hm;exact tz hw;rfl))
  (refine S.done ?_;simp only [p9,r9,go_sem,Nat.reduceBEq,Nat.reduceAdd,Nat.reduceLeDiff];(repeat (refine ⟨?_,?_⟩;focus first|trivial|omega|simp));exact j3.out rfl (Imp.refl rfl) rfl)
theorem a7T (a b:Nm.Rt) (ha:Rb 17179869184 a) (hb:Rb 17179869184 b):FZ 38 [rc a,rc b] (rq (Nm.d9 a+Nm.d9 b)):=by
 refine kW Tryz.func38 (by cbv) (by rfl) fun w O hw=>?_
 have hfa:=U8 a ha
 have hfb:=U8 b hb
 obtain ⟨n1,d1⟩:=ha.fit (by decide)
 obtain ⟨n2,d2⟩:=hb.fit (by decide)
 generalize Nm.d9 a=p at *
 generalize Nm.d9 b=q at *
 simp only [Nm.ofQ] at n1 d1 n2 d2
 have hp:=p.den_nz
 have hq:=q.den_nz
 have l1:=Nm.J7 n1 d2
 have l2:=Nm.J7 n2 d1
 have l3:=Nm.J7 d1 d2
 have s1:=b5X (decide (p.num < 0)) (decide (q.num < 0)) (Nm.enc p.num.natAbs) (Nm.enc q.num.natAbs) (by omega) (by omega)
 have m1:=a3J (Nm.enc p.num.natAbs) (Nm.enc q.den) (by omega) (by omega)
 have m2:=a3J (Nm.enc q.num.natAbs) (Nm.enc p.den) (by omega) (by omega)
 have m3:=a3J (Nm.enc p.den) (Nm.enc q.den) (by omega) (by omega)
 simp only [Nm.H7] at s1 m1 m2 m3
 have s2:=b5X (decide (p.num < 0)) (decide (q.num < 0)) (Nm.enc (p.num.natAbs*q.den)) (Nm.enc (q.num.natAbs*p.den)) (by omega) (by omega)
 simp only [Nm.H7] at s2
 have k1:(Nm.enc (Nm.M9 (decide (p.num < 0)) p.num.natAbs (decide (q.num < 0)) q.num.natAbs).2).length<=17179869185:=c7l (Nm.a2u (Nm.a7l _ _ _ _)) (Nm.a2b n1 n2)
 have k2:(Nm.enc (Nm.M9 (decide (p.num < 0)) (p.num.natAbs*q.den) (decide (q.num < 0)) (q.num.natAbs*p.den)).2).length<=34359738369:=c7l (Nm.a2u (Nm.a7l _ _ _ _)) (Nm.a2b l1 l2)
 have v1:=a2U (Nm.M9 (decide (p.num < 0)) p.num.natAbs (decide (q.num < 0)) q.num.natAbs).1 (Nm.M9 (decide (p.num < 0)) p.num.natAbs (decide (q.num < 0)) q.num.natAbs).2 p.den hp (by omega) (by omega)
 have v2:=a2U (Nm.M9 (decide (p.num < 0)) (p.num.natAbs*q.den) (decide (q.num < 0)) (q.num.natAbs*p.den)).1 (Nm.M9 (decide (p.num < 0)) (p.num.natAbs*q.den) (decide (q.num < 0)) (q.num.natAbs*p.den)).2 (p.den*q.den) (Nat.mul_ne_zero hp hq) (by omega) (by omega)
 rw [Nm.b3a] at v2
 have hsame:=fun h=>Nm.c1D (p:=p) (q:=q) h
 generalize p+q=r at *
 generalize Nm.M9 (decide (p.num < 0)) p.num.natAbs (decide (q.num < 0)) q.num.natAbs=t1 at *
 generalize Nm.M9 (decide (p.num < 0)) (p.num.natAbs*q.den) (decide (q.num < 0)) (q.num.natAbs*p.den)=t2 at *
 simp only [j5,TT,OA,OB,MM,LL,VV,FF]
 simp only [rq,rc,sb,Nm.ofQ] at *
 (repeat first|refine uA ?_|(refine uK ?_ ?_;focus first|omega|(intros;simp_all<;>omega))|simp (disch:=omega) only [go_sem,Nat.reduceBEq,Nat.reduceAdd,b8n,c4x]|(refine uD hfa ?_ ?_ ?_;exact tz hw;exact rfl)|(refine uD hfb ?_ ?_ ?_;exact tz hw;exact rfl))
 (refine uJ rfl (fun hc=>?_) fun hc=>?_)
 ·rw [hsame hc] at v1
  (repeat first|refine uA ?_|(refine uK ?_ ?_;focus first|omega|(intros;simp_all<;>omega))|simp (disch:=omega) only [go_sem,Nat.reduceBEq,Nat.reduceAdd]|(refine uB s1 ?_ ?_;exact rfl)|(refine uD v1 ?_ ?_ ?_;exact tz hw;exact rfl))
  (refine S.done ?_;simp only [p9,r9,go_sem,Nat.reduceBEq,Nat.reduceAdd,Nat.reduceLeDiff];(repeat (refine ⟨?_,?_⟩;focus first|trivial|omega|simp));exact j3.out rfl (Imp.refl rfl) rfl)
 ·(repeat first|refine uA ?_|(refine uK ?_ ?_;focus first|omega|(intros;simp_all<;>omega))|simp (disch:=omega) only [go_sem,Nat.reduceBEq,Nat.reduceAdd]|(refine uB m1 ?_ ?_;exact rfl)|(refine uB m2 ?_ ?_;exact rfl)|(refine uB m3 ?_ ?_;exact rfl)|(refine uB s2 ?_ ?_;exact rfl)|(refine uD v2 ?_ ?_ ?_;exact tz hw;exact rfl))
  (refine S.done ?_;simp only [p9,r9,go_sem,Nat.reduceBEq,Nat.reduceAdd,Nat.reduceLeDiff];(repeat (refine ⟨?_,?_⟩;focus first|trivial|omega|simp));exact j3.out rfl (Imp.refl rfl) rfl)
theorem c0j (a b:Nm.Rt) (ha:Rb 17179869184 a) (hb:Rb 17179869184 b):FZ 77 [rc a,rc b] (rq (Nm.d9 a*Nm.d9 b)):=by
 refine kW Tryz.func77 (by cbv) (by rfl) fun w O hw=>?_
 have hfa:=U8 a ha
 have hfb:=U8 b hb
 obtain ⟨n1,d1⟩:=ha.fit (by decide)
 obtain ⟨n2,d2⟩:=hb.fit (by decide)
 generalize Nm.d9 a=p at *
 generalize Nm.d9 b=q at *
 simp only [Nm.ofQ] at n1 d1 n2 d2
 have hp:=p.den_nz
 have hq:=q.den_nz
 have l1:=Nm.J7 n1 n2
 have l3:=Nm.J7 d1 d2
 have m1:=a3J (Nm.enc p.num.natAbs) (Nm.enc q.num.natAbs) (by omega) (by omega)
 have m3:=a3J (Nm.enc p.den) (Nm.enc q.den) (by omega) (by omega)
 simp only [Nm.H7] at m1 m3
 have v2:=a2U (decide (p.num < 0) != decide (q.num < 0)) (p.num.natAbs*q.num.natAbs) (p.den*q.den) (Nat.mul_ne_zero hp hq) (by omega) (by omega)
 rw [Nm.b4Y] at v2
 generalize p*q=r at *
 simp only [j5,TT,OA,OB,LL,VV,FF]
 simp only [rq,rc,sb,Nm.ofQ] at *
 (repeat first|refine uA ?_|(apply uK;focus first|omega|(intros;simp_all<;>omega))|simp (disch:=omega) only [go_sem,Nat.reduceBEq,Nat.reduceAdd]|(apply uB m1;exact rfl)|(apply uB m3;exact rfl)|(apply uD hfa;exact tz hw;rfl)|(apply uD hfb;exact tz hw;rfl)|(apply uD v2;exact tz hw;rfl))
 (refine S.done ?_;simp only [p9,r9,go_sem,Nat.reduceBEq,Nat.reduceAdd,Nat.reduceLeDiff];(repeat (refine ⟨?_,?_⟩;focus first|trivial|omega|simp));exact j3.out rfl (Imp.refl rfl) rfl)
def E9 (q:Rat):Int:=if q.num=0 then 0 else if q.num < 0 then -1 else 1
theorem b0r (p:Rat):Nm.ofQ (-p)=⟨!decide (p.num < 0) && !decide (p.num.natAbs=0),Nm.enc p.num.natAbs,Nm.enc p.den⟩:=by
 unfold Nm.ofQ
 rw [Rat.neg_num,Rat.neg_den,Int.natAbs_neg]
 congr 1
 by_cases h:p.num < 0
 ·simp [h];omega
 ·by_cases h0:p.num=0
  ·simp [h0]
  ·have:¬ p.num.natAbs=0:=by omega
   simp [h,this];omega
theorem a4S (a:Nm.Rt) (ha:Rb 17179869184 a):FZ 17 [rc a] (rq (- Nm.d9 a)):=by
 refine kW Tryz.func17 (by cbv) (by rfl) fun w O hw=>?_
 have hfa:=U8 a ha
 generalize Nm.d9 a=p at *
 simp only [j5,TT,OA,OB,OC,MM,LL,VV,FF,VG,FG]
 unfold rq at *
 rw [b0r]
 simp only [rc,sb,Nm.ofQ] at *
 (repeat first|refine uA ?_|(apply uK;focus first|omega|(intros;simp_all<;>omega))|simp (disch:=omega) only [go_sem,Nat.reduceBEq,Nat.reduceAdd,a0p,a2J]|(apply uD hfa;exact tz hw;rfl))
 (refine S.done ?_;simp only [p9,r9,go_sem,Nat.reduceBEq,Nat.reduceAdd,Nat.reduceLeDiff];(repeat (refine ⟨?_,?_⟩;focus first|trivial|omega|simp));exact j3.out rfl (Imp.refl rfl) rfl)
theorem b4F {k:Nat} {a:Nm.Rt} (h:Rb k a) (hk:1<=k):Rb k (Nm.ofQ (- Nm.d9 a)):=by
 obtain ⟨h1,h2⟩:=h.fit hk
 rw [b0r]
 exact ⟨h1,h2⟩
theorem b0G (a b:Nm.Rt) (ha:Rb 17179869184 a) (hb:Rb 17179869184 b):FZ 15 [rc a,rc b] (rq (Nm.d9 a-Nm.d9 b)):=by
 refine kW Tryz.func15 (by cbv) (by rfl) fun w O hw=>?_
 have hn:=a4S b hb
 have hadd:=a7T a (Nm.ofQ (- Nm.d9 b)) ha (b4F hb (by decide))
 rw [Nm.q8,<- Rat.sub_eq_add_neg] at hadd
 unfold rq at *
 generalize Nm.ofQ (- Nm.d9 b)=c at *
 generalize Nm.ofQ (Nm.d9 a-Nm.d9 b)=d at *
 simp only [j5,TT,OA,OB,LL]
 simp only [rc,sb] at *
 (repeat first|refine uA ?_|(apply uK;focus first|omega|(intros;simp_all<;>omega))|simp (disch:=omega) only [go_sem,Nat.reduceBEq,Nat.reduceAdd]|(apply uD hn;exact tz hw;rfl)|(apply uD hadd;exact tz hw;rfl))
 (refine S.done ?_;simp only [p9,r9,go_sem,Nat.reduceBEq,Nat.reduceAdd,Nat.reduceLeDiff];(repeat (refine ⟨?_,?_⟩;focus first|trivial|omega|simp));exact j3.out rfl (Imp.refl rfl) rfl)
def a3l (p q:Rat):Nm.Rt:=if q=0 then ⟨false,[],[]⟩ else Nm.ofQ (p / q)
def a9X (q:Rat):Int:=if q=0 then 12 else 0
theorem c0F (a b:Nm.Rt) (ha:Rb 17179869184 a) (hb:Rb 17179869184 b):FZ 110 [rc a,rc b] (.tup [rc (a3l (Nm.d9 a) (Nm.d9 b)),ints (a9X (Nm.d9 b))]):=by
 refine kW Tryz.func110 (by cbv) (by rfl) fun w O hw=>?_
 have hfa:=U8 a ha
 have hfb:=U8 b hb
 obtain ⟨n1,d1⟩:=ha.fit (by decide)
 obtain ⟨n2,d2⟩:=hb.fit (by decide)
 generalize Nm.d9 a=p at *
 generalize Nm.d9 b=q at *
 simp only [Nm.ofQ] at n1 d1 n2 d2
 have hp:=p.den_nz
 have l1:=Nm.J7 n1 d2
 have l3:=Nm.J7 d1 n2
 have m1:=a3J (Nm.enc p.num.natAbs) (Nm.enc q.den) (by omega) (by omega)
 have m3:=a3J (Nm.enc p.den) (Nm.enc q.num.natAbs) (by omega) (by omega)
 simp only [Nm.H7] at m1 m3
 have v2:=fun h0:q.num.natAbs ≠ 0=>a2U (decide (p.num < 0) != decide (q.num < 0)) (p.num.natAbs*q.den) (p.den*q.num.natAbs) (Nat.mul_ne_zero hp h0) (by omega) (by omega)
 have hdm:=fun h=>Nm.b4Q p q h
 simp only [j5,TT,II,OA,OB,LL,VV,FF]
 simp only [rq,rc,sb,Nm.ofQ,ints] at *
 (repeat first|refine uA ?_|(refine uK ?_ ?_;focus first|omega|(intros;simp_all<;>omega))|simp (disch:=omega) only [go_sem,Nat.reduceBEq,Nat.reduceAdd,a0p,a2J]|(refine uD hfa ?_ ?_ ?_;exact tz hw;exact rfl)|(refine uD hfb ?_ ?_ ?_;exact tz hw;exact rfl))
 (refine uJ rfl (fun hc=>?_) fun hc=>?_)
 ·have h0:q=0:=Rat.num_eq_zero.1 (by omega)
  have e1:a3l p q=⟨false,[],[]⟩:=by unfold a3l;rw [if_pos h0]
  have e2:a9X q=12:=by unfold a9X;rw [if_pos h0]
  rw [e1,e2]
  (repeat first|refine uA ?_|(refine uK ?_ ?_;focus first|omega|(intros;simp_all<;>omega))|simp (disch:=omega) only [go_sem,Nat.reduceBEq,Nat.reduceAdd])
  (refine S.done ?_;simp only [p9,r9,go_sem,Nat.reduceBEq,Nat.reduceAdd,Nat.reduceLeDiff];(repeat (refine ⟨?_,?_⟩;focus first|trivial|omega|simp));exact j3.out rfl (Imp.refl rfl) rfl)
 ·have h0:q ≠ 0:=fun h=>hc (by rw [Rat.num_eq_zero.2 h];rfl)
  have e1:a3l p q=Nm.ofQ (p / q):=by unfold a3l;rw [if_neg h0]
  have e2:a9X q=0:=by unfold a9X;rw [if_neg h0]
  rw [e1,e2]
  have v2:=v2 hc
  rw [hdm h0] at v2
  generalize p / q=r at *
  simp only [Nm.ofQ] at *
  (repeat first|refine uA ?_|(refine uK ?_ ?_;focus first|omega|(intros;simp_all<;>omega))|simp (disch:=omega) only [go_sem,Nat.reduceBEq,Nat.reduceAdd]|(refine uB m1 ?_ ?_;exact rfl)|(refine uB m3 ?_ ?_;exact rfl)|(refine uD v2 ?_ ?_ ?_;exact tz hw;exact rfl))
  (refine S.done ?_;simp only [p9,r9,go_sem,Nat.reduceBEq,Nat.reduceAdd,Nat.reduceLeDiff];(repeat (refine ⟨?_,?_⟩;focus first|trivial|omega|simp));exact j3.out rfl (Imp.refl rfl) rfl)
theorem a0g (a:Nm.Rt) (ha:Rb 17179869184 a):FZ 97 [rc a] (ints (E9 (Nm.d9 a))):=by
 refine kW Tryz.func97 (by cbv) (by rfl) fun w O hw=>?_
 have hfa:=U8 a ha
 generalize Nm.d9 a=p at *
 simp only [j5,TT,II,OA,OB,MM,LL,VV,FF]
 simp only [rq,rc,sb,Nm.ofQ,ints] at *
 (repeat first|refine uA ?_|(apply uK;focus omega)|simp (disch:=omega) only [go_sem,Nat.reduceBEq,a0p,a2J]|(apply uD hfa;exact tz hw;rfl))
 (refine uJ rfl (fun hc=>?_) fun hc=>?_)
 ·have:E9 p=0:=by unfold E9;rw [if_pos (by omega)]
  rw [this]
  (repeat first|refine uA ?_|(apply uK;focus omega)|simp (disch:=omega) only [go_sem])
  exact S.done (j3.out rfl (Imp.refl rfl) rfl)
 (repeat first|refine uA ?_|(apply uK;focus first|omega|(intros;simp_all<;>omega))|simp (disch:=omega) only [go_sem,Nat.reduceBEq,Nat.reduceAdd])
 (refine uJ rfl (fun hc=>?_) fun hc=>?_)
 ·have:E9 p=-1:=by unfold E9;rw [if_neg (by omega),if_pos hc]
  rw [this]
  (repeat first|refine uA ?_|(apply uK;focus omega)|simp (disch:=omega) only [go_sem])
  exact S.done (j3.out rfl (Imp.refl rfl) rfl)
 ·have:E9 p=1:=by unfold E9;rw [if_neg (by omega),if_neg hc]
  rw [this]
  (repeat first|refine uA ?_|(apply uK;focus omega)|simp (disch:=omega) only [go_sem])
  exact S.done (j3.out rfl (Imp.refl rfl) rfl)
theorem b8Z (a b:Nat):-1<=Nm.a0y a b/\Nm.a0y a b<=1:=by
 unfold Nm.a0y
 by_cases h:a < b
 ·rw [if_pos h];omega
 ·rw [if_neg h];split<;>omega
theorem Q9 (a b:Nm.Rt) (ha:Rb 17179869184 a) (hb:Rb 17179869184 b):FZ 39 [rc a,rc b] (ints (Nm.q9 (Nm.d9 a) (Nm.d9 b))):=by
 refine kW Tryz.func39 (by cbv) (by rfl) fun w O hw=>?_
 have hfa:=U8 a ha
 have hfb:=U8 b hb
 obtain ⟨n1,d1⟩:=ha.fit (by decide)
 obtain ⟨n2,d2⟩:=hb.fit (by decide)
 generalize Nm.d9 a=p at *
 generalize Nm.d9 b=q at *
 rw [Nm.c3H]
 simp only [Nm.ofQ] at n1 d1 n2 d2
 have l1:=Nm.J7 n1 d2
 have l2:=Nm.J7 n2 d1
 have m1:=a3J (Nm.enc p.num.natAbs) (Nm.enc q.den) (by omega) (by omega)
 have m2:=a3J (Nm.enc q.num.natAbs) (Nm.enc p.den) (by omega) (by omega)
 simp only [Nm.H7] at m1 m2
 have hcmp:=b0v (Nm.enc (p.num.natAbs*q.den)) (Nm.enc (q.num.natAbs*p.den)) (by omega) (by omega)
 simp only [Nm.H7] at hcmp
 have hcr:=b8Z (p.num.natAbs*q.den) (q.num.natAbs*p.den)
 generalize Nm.a0y (p.num.natAbs*q.den) (q.num.natAbs*p.den)=cn at *
 simp only [j5,TT,II,OA,OB,MM,LL,VV,FF]
 simp only [rq,rc,sb,Nm.ofQ,ints] at *
 generalize decide (p.num < 0)=bp at *
 generalize decide (q.num < 0)=bq at *
 (repeat first|refine uA ?_|(apply uK;focus first|omega|(intros;simp_all<;>omega))|simp (disch:=omega) only [go_sem,Nat.reduceBEq,Nat.reduceAdd]|(apply uD hfa;exact tz hw;rfl)|(apply uD hfb;exact tz hw;rfl))
 refine S.cond rfl (fun hc=>?_) (fun hc=>?_)
 ·have hne:bp ≠ bq:=by simpa using hc
  rw [if_pos hne]
  (repeat first|refine uA ?_|(apply uK;focus omega)|simp (disch:=omega) only [go_sem,Nat.reduceBEq])
  refine S.cond rfl (fun hc=>?_) (fun hc=>?_)
  ·rw [if_pos hc]
   (repeat first|refine uA ?_|(apply uK;focus omega)|simp (disch:=omega) only [go_sem])
   exact S.done (j3.out rfl (Imp.refl rfl) rfl)
  ·rw [if_neg (by simp [hc])]
   (repeat first|refine uA ?_|(apply uK;focus omega)|simp (disch:=omega) only [go_sem])
   exact S.done (j3.out rfl (Imp.refl rfl) rfl)
 ·have he:bp=bq:=by simpa using hc
  rw [if_neg (by simp [he])]
  (repeat first|refine uA ?_|(apply uK;focus omega)|simp (disch:=omega) only [go_sem,Nat.reduceBEq]|(apply uB m1;exact rfl)|(apply uB m2;exact rfl)|(apply uB hcmp;exact rfl))
  refine S.cond rfl (fun hc=>?_) (fun hc=>?_)
  ·rw [if_pos hc]
   have hneg:IntKind.i64.wrap (0-cn)=- cn:=by rw [Eng.wrap_i64 (by omega)];omega
   (repeat first|refine uA ?_|(apply uK;focus omega)|simp (disch:=omega) only [go_sem,Nat.reduceBEq,hneg])
   exact S.done (j3.out rfl (Imp.refl rfl) rfl)
  ·rw [if_neg (by simp [hc])]
   (repeat first|refine uA ?_|(apply uK;focus omega)|simp (disch:=omega) only [go_sem,Nat.reduceBEq])
   exact S.done (j3.out rfl (Imp.refl rfl) rfl)
def G9 (p q:Rat):Rat:=if Nm.q9 p q<=0 then p else q
def K6 (p q:Rat):Rat:=if Nm.q9 p q >= 0 then p else q
theorem a3W (a b:Nm.Rt) (ha:Rb 17179869184 a) (hb:Rb 17179869184 b):FZ 18 [rc a,rc b] (rq (G9 (Nm.d9 a) (Nm.d9 b))):=by
 refine kW Tryz.func18 (by cbv) (by rfl) fun w O hw=>?_
 have hfa:=U8 a ha
 have hfb:=U8 b hb
 have hc:=Q9 a b ha hb
 unfold G9
 generalize Nm.q9 (Nm.d9 a) (Nm.d9 b)=cn at *
 simp only [j5,TT,II,OA,OB,LL]
 unfold rq at *
 generalize Nm.d9 a=p at *
 generalize Nm.d9 b=q at *
 simp only [rc,sb,ints] at *
 (repeat first|refine uA ?_|(apply uK;focus first|omega|(intros;simp_all<;>omega))|simp (disch:=omega) only [go_sem,Nat.reduceBEq,Nat.reduceAdd]|(apply uD hc;exact tz hw;rfl))
 (refine uJ rfl (fun hc=>?_) fun hc=>?_)
 ·rw [if_pos hc]
  (repeat first|refine uA ?_|(apply uK;focus omega)|simp (disch:=omega) only [go_sem,Nat.reduceBEq]|(apply uD hfa;exact tz hw;rfl))
  (refine S.done ?_;simp only [p9,r9,go_sem,Nat.reduceBEq,Nat.reduceAdd,Nat.reduceLeDiff];(repeat (refine ⟨?_,?_⟩;focus first|trivial|omega|simp));exact j3.out rfl (Imp.refl rfl) rfl)
 ·rw [if_neg hc]
  (repeat first|refine uA ?_|(apply uK;focus omega)|simp (disch:=omega) only [go_sem,Nat.reduceBEq]|(apply uD hfb;exact tz hw;rfl))
  (refine S.done ?_;simp only [p9,r9,go_sem,Nat.reduceBEq,Nat.reduceAdd,Nat.reduceLeDiff];(repeat (refine ⟨?_,?_⟩;focus first|trivial|omega|simp));exact j3.out rfl (Imp.refl rfl) rfl)
theorem a6b (a b:Nm.Rt) (ha:Rb 17179869184 a) (hb:Rb 17179869184 b):FZ 16 [rc a,rc b] (rq (K6 (Nm.d9 a) (Nm.d9 b))):=by
 refine kW Tryz.func16 (by cbv) (by rfl) fun w O hw=>?_
 have hfa:=U8 a ha
 have hfb:=U8 b hb
 have hc:=Q9 a b ha hb
 unfold K6
 generalize Nm.q9 (Nm.d9 a) (Nm.d9 b)=cn at *
 simp only [j5,TT,II,OA,OB,LL]
 unfold rq at *
 generalize Nm.d9 a=p at *
 generalize Nm.d9 b=q at *
 simp only [rc,sb,ints] at *
 (repeat first|refine uA ?_|(apply uK;focus first|omega|(intros;simp_all<;>omega))|simp (disch:=omega) only [go_sem,Nat.reduceBEq,Nat.reduceAdd]|(apply uD hc;exact tz hw;rfl))
 (refine uJ rfl (fun hc=>?_) fun hc=>?_)
 ·rw [if_pos hc]
  (repeat first|refine uA ?_|(apply uK;focus omega)|simp (disch:=omega) only [go_sem,Nat.reduceBEq]|(apply uD hfa;exact tz hw;rfl))
  (refine S.done ?_;simp only [p9,r9,go_sem,Nat.reduceBEq,Nat.reduceAdd,Nat.reduceLeDiff];(repeat (refine ⟨?_,?_⟩;focus first|trivial|omega|simp));exact j3.out rfl (Imp.refl rfl) rfl)
 ·rw [if_neg hc]
  (repeat first|refine uA ?_|(apply uK;focus omega)|simp (disch:=omega) only [go_sem,Nat.reduceBEq]|(apply uD hfb;exact tz hw;rfl))
  (refine S.done ?_;simp only [p9,r9,go_sem,Nat.reduceBEq,Nat.reduceAdd,Nat.reduceLeDiff];(repeat (refine ⟨?_,?_⟩;focus first|trivial|omega|simp));exact j3.out rfl (Imp.refl rfl) rfl)
theorem c0K (a:Nm.Rt) (ha:Rb 17179869184 a):FZ 49 [rc a] (rc ⟨false,Nm.enc (Nm.d9 a).num.natAbs,Nm.enc (Nm.d9 a).den⟩):=by
 refine kW Tryz.func49 (by cbv) (by rfl) fun w O hw=>?_
 have hfa:=U8 a ha
 generalize Nm.d9 a=p at *
 simp only [j5,TT,OA,OB,LL,FF]
 unfold rq at *
 simp only [rc,sb,Nm.ofQ] at *
 (repeat first|refine uA ?_|(apply uK;focus first|omega|(intros;simp_all<;>omega))|simp (disch:=omega) only [go_sem,Nat.reduceBEq,Nat.reduceAdd]|(apply uD hfa;exact tz hw;rfl))
 (refine S.done ?_;simp only [p9,r9,go_sem,Nat.reduceBEq,Nat.reduceAdd,Nat.reduceLeDiff];(repeat (refine ⟨?_,?_⟩;focus first|trivial|omega|simp));exact j3.out rfl (Imp.refl rfl) rfl)
def l6 (a:Nm.Rt):Bool:=decide (a.num.length<=3) && decide (a.den.length<=2) && decide a.H9 && decide (Nm.val a.num<=1000000) && decide (Nm.val a.den<=1000)
theorem b7K (a b:Nat):(Nm.a0y a b<=0)=(a<=b):=by
 unfold Nm.a0y
 by_cases h:a < b
 ·rw [if_pos h];simp;omega
 ·rw [if_neg h];split
  ·simp;omega
  ·simp;omega
theorem a4A (a:Nm.Rt) (ha:Rb 17179869184 a):FZ 96 [rc a] (.v (.bool (l6 a))):=by
 refine kW Tryz.func96 (by cbv) (by rfl) fun w O hw=>?_
 have hg:=a1v a ⟨by have:=ha.1;omega,by have:=ha.2;omega⟩
 have ho1:=b5R 1000000 (by decide)
 have ho2:=b5R 1000 (by decide)
 have hb:∀ k:Nat,k<=1000000->(Nm.enc k).length<=8:=fun k hk=>Nm.G5 (by omega)
 have hb1:=hb 1000000 (by decide)
 have hb2:=hb 1000 (by decide)
 have hc1:=b0v a.num (Nm.enc 1000000) (by have:=ha.1;omega) (by omega)
 have hc2:=b0v a.den (Nm.enc 1000) (by have:=ha.2;omega) (by omega)
 rw [Nm.H7] at hc1 hc2
 rw [show (1000000:Int).toNat=1000000 from rfl] at ho1
 rw [show (1000:Int).toNat=1000 from rfl] at ho2
 have hl1:=b7K (Nm.val a.num) 1000000
 have hl2:=b7K (Nm.val a.den) 1000
 unfold l6
 generalize decide a.H9=g at *
 generalize Nm.enc 1000000=e1 at *
 generalize Nm.enc 1000=e2 at *
 obtain ⟨neg,num,den⟩:=a
 obtain ⟨r1,r2⟩:=ha
 simp only [j5,TT,II,OA,OC,MM,VV,FF,LG,VG,FG]
 simp only [rc,sb,ints] at *
 generalize Nm.a0y (Nm.val num) 1000000=c1 at *
 generalize Nm.a0y (Nm.val den) 1000=c2 at *
 simp only [<- hl1,<- hl2]
 have hi1:decide ((num.length:Int)<=3)=decide (num.length<=3):=decide_eq_decide.2 (by omega)
 have hi2:decide ((den.length:Int)<=2)=decide (den.length<=2):=decide_eq_decide.2 (by omega)
 (repeat first|refine uA ?_|(apply uK;focus omega)|simp (disch:=omega) only [go_sem,Nat.reduceBEq,F4,hi1,hi2]|(apply uB ho1;exact rfl)|(apply uB ho2;exact rfl)|(apply uB hc1;exact rfl)|(apply uB hc2;exact rfl)|(apply uD hg;exact tz hw;rfl))
 exact S.done (j3.out rfl (Imp.refl rfl) rfl)
open Go Eng
def a7o:H6:=⟨49,[.tmp 4],.seq (.reg [OA 4 (.mv (II 0))]) (.seq (.reg [MM 9 0,OA 10 (.len false (TT 9)),MM 5 10]) (.seq (.block 0 (.seq (.reg [MM 12 5,MM 13 1,OA 14 (.bin .gtr (TT 12) (TT 13)),MM 11 14]) (.cond (TT 11) (.seq (.reg [OA 4
 (.mv (II 2))]) .ret) (.seq (.reg [MM 16 5,OA 17 (.bin .lss (TT 16) (II 3)),MM 15 17]) (.cond (TT 15) (.seq (.reg [OA 4 (.mv (II 3))]) .ret) .skip))))) (.seq (.seq (.reg [MM 18 0,OA 19 (.len false (TT 18)),OA 20 (.mv (II
 0))]) (.block 1 (.loop (.seq (.reg [OA 21 (.bin .lss (TT 20) (TT 19))]) (.seq (.cond (TT 21) .skip (.exit 1)) (.seq (.block 2 (.seq (.reg [MM 22 20,OA 23 (.l7 6 (TT 18) (TT 20)),LL 24 6 23,OA 7 (.alloc 59 [.bool false,
 .string ⟨#[]⟩,.string ⟨#[]⟩,.bool false,.string ⟨#[]⟩,.string ⟨#[]⟩]),MM 6 22,OB (.store 6 (TT 7) (TT 24))]) (.seq (.reg [OA 8 (.mv (II 2))]) (.block 3 (.loop (.seq (.seq (.reg [MM 25 8,MM 26 5,OA 27 (.bin .lss (TT 25)
 (TT 26))]) (.cond (TT 27) .skip (.exit 3))) (.seq (.block 4 (.seq (.y9 [.q,.q,.q,.q,.q,.q,.q,.q,.q,.q,.q,.q,.q,.q,.q,.q,.q,.q] [LL 30 6 7,MM 31 0,MM 32 6,OA 33 (.bin .add (TT 32) (II 1)),MM 34 5,OA 35
 (.bin .rem (TT 33) (TT 34)),OA 36 (.l7 6 (TT 31) (TT 35)),LL 37 6 36,MM 38 0,MM 39 6,MM 40 8,OA 41 (.bin .add (TT 39) (TT 40)),MM 42 5,OA 43 (.bin .rem (TT 41) (TT 42)),OA 44 (.l7 6 (TT 38) (TT 43)),LL 45 6 44,
 OA 46 (.call 195 [TT 30,TT 37,TT 45]),OA 47 (.bin .leq (TT 46) (II 0))]) (.cond (TT 47) (.seq (.reg [OA 4 (.mv (II 3))]) .ret) .skip))) (.reg [MM 28 8,OA 29 (.bin .add (TT 28) (II 1)),MM 8 29])))))))) (.reg [OA 48 (.bin
 .add (TT 20) (II 1)),MM 20 48]))))))) (.seq (.reg [OA 4 (.mv (II 0))]) .ret))))⟩
theorem b3D:F3 eff Tryz.prog Tryz.f171=some a7o:=by kernel_rfl
theorem b3H:Tryz.prog.funcs[171]?=some Tryz.f171:=Tryz.func171
def a8a:H6:=⟨60,[.tmp 2],.seq (.reg [OA 1 (.box 69 (TT 0)),OA 2 (.mv (II 0))]) (.seq (.seq (.reg [FF 7 0 1,VV 8 7,OA 9 (.call 104 [TT 8]),OA 10 (.un .not (TT 9))]) (.cond (TT 10) (.seq (.reg [OA 2 (.mv (II 3))]) .ret) .skip)) (.seq
 (.seq (.reg [FF 11 11 1,VV 12 11,OA 13 (.len false (TT 12)),OA 14 (.bin .gtr (TT 13) (II 3))]) (.cond (TT 14) (.seq (.reg [OA 2 (.mv (II 2))]) .ret) .skip)) (.seq (.reg [FF 15 1 1,LL 16 10 15,OA 3 (.alloc 66 [.bool false,
 .string ⟨#[]⟩,.string ⟨#[]⟩,.bool false,.string ⟨#[]⟩,.string ⟨#[]⟩,.bool false,.bool false,.string ⟨#[]⟩,.string ⟨#[]⟩]),OB (.store 10 (TT 3) (TT 16))]) (.seq (.seq (.reg [FF 17 11 1,VV 18 17,OA 19 (.len false (TT
 18)),OA 20 (.bin .eql (TT 19) (II 0)),MM 21 20,FG 22 0 3 21 false,FG 23 0 22 21 false,LG 24 3 23 21 false,FG 25 0 3 21 false,FG 26 3 25 21 false,LG 27 3 26 21 false,FG 28 6 3 21 false,FG 29 1 28 21 false,LG 30 3 29 21
 false,OC 31 (.bsl 29 3 3 [.bool false,.string ⟨#[]⟩,.string ⟨#[]⟩] [(0,TT 24),(1,TT 27),(2,TT 30)]) 21 false,OC 32 (.call 105 [TT 31]) 21 false,OC 33 (.un .not (TT 32)) 21 false,OA 34 (.pick (TT 21) (.const (.bool
 true)) (TT 33)),MM 35 34,FG 36 6 3 35 false,FG 37 0 36 35 false,VG 38 37 35 false,MG 39 38 35 false,FG 40 6 3 39 true,FG 41 1 40 39 true,LG 42 3 41 39 true,OC 43 (.call 97 [TT 42]) 39 true,OC 44 (.bin .neq (TT 43) (II
 0)) 39 true,OC 45 (.pick (TT 39) (TT 44) (.const (.bool false))) 35 false,OA 46 (.pick (TT 35) (.const (.bool true)) (TT 45))]) (.cond (TT 46) (.seq (.reg [OA 2 (.mv (II 1))]) .ret) .skip)) (.seq (.seq (.reg [FF 47 11 1,VV 48
 47,OA 49 (.len false (TT 48)),OA 50 (.mv (II 0))]) (.block 0 (.loop (.seq (.reg [OA 51 (.bin .lss (TT 50) (TT 49))]) (.seq (.cond (TT 51) .skip (.exit 0)) (.seq (.block 1 (.seq (.reg [OA 52 (.l7 16 (TT 48) (TT 50)),LL 53
 16 52,OA 5 (.alloc 74 [.bool false,.string ⟨#[]⟩,.string ⟨#[]⟩,.bool false,.string ⟨#[]⟩,.string ⟨#[]⟩,.bool false,.string ⟨#[]⟩,.string ⟨#[]⟩,.bool false,.string ⟨#[]⟩,.string ⟨#[]⟩,.bool false,.string ⟨#[]⟩,
 .string ⟨#[]⟩,.slice none 0 0]),OB (.store 16 (TT 5) (TT 53))]) (.seq (.reg [LL 54 16 5,OA 55 (.call 106 [TT 54]),MM 6 55]) (.seq (.reg [MM 56 6,OA 57 (.bin .neq (TT 56) (II 0))]) (.cond (TT 57) (.seq (.reg [MM 58 6,MM 2
 58]) .ret) .skip))))) (.reg [OA 59 (.bin .add (TT 50) (II 1)),MM 50 59]))))))) (.seq (.reg [OA 2 (.mv (II 0))]) .ret))))))⟩
theorem b4P:F3 eff Tryz.prog Tryz.f41=some a8a:=by kernel_rfl
theorem b4g:Tryz.prog.funcs[41]?=some Tryz.f41:=Tryz.func41
def a7X:H6:=⟨64,[.tmp 2],.seq (.reg [OA 1 (.box 74 (TT 0)),OA 2 (.mv (II 0))]) (.seq (.seq (.reg [FF 6 0 1,LL 7 3 6,FF 8 3 1,LL 9 3 8,FF 10 6 1,LL 11 3 10,FF 12 9 1,LL 13 3 12,FF 14 12 1,LL 15 3 14,OA 16 (.bsl 29 3 5 [.bool
 false,.string ⟨#[]⟩,.string ⟨#[]⟩] [(0,TT 7),(1,TT 9),(2,TT 11),(3,TT 13),(4,TT 15)]),OA 17 (.call 105 [TT 16]),OA 18 (.un .not (TT 17)),MM 19 18,FG 20 0 1 19 false,LG 21 3 20 19 false,OC 22 (.call 97 [TT 21])
 19 false,OC 23 (.bin .leq (TT 22) (II 0)) 19 false,OA 24 (.pick (TT 19) (.const (.bool true)) (TT 23)),MM 25 24,FG 26 3 1 25 false,LG 27 3 26 25 false,FG 28 6 1 25 false,LG 29 3 28 25 false,OC 30 (.call 39 [TT 27,TT
 29]) 25 false,OC 31 (.bin .geq (TT 30) (II 0)) 25 false,OA 32 (.pick (TT 25) (.const (.bool true)) (TT 31))]) (.cond (TT 32) (.seq (.reg [OA 2 (.mv (II 1))]) .ret) .skip)) (.seq (.seq (.reg [FF 33 9 1,LL 34 3 33,OA 35 (.call
 97 [TT 34]),OA 36 (.bin .leq (TT 35) (II 0)),MM 37 36,FG 38 12 1 37 false,LG 39 3 38 37 false,OC 40 (.call 97 [TT 39]) 37 false,OC 41 (.bin .leq (TT 40) (II 0)) 37 false,OA 42 (.pick (TT 37) (.const (.bool true)) (TT
 41))]) (.cond (TT 42) (.seq (.reg [OA 2 (.mv (II 1))]) .ret) .skip)) (.seq (.seq (.reg [FF 43 15 1,VV 44 43,OA 45 (.call 139 [TT 44]),MM 3 45]) (.seq (.reg [MM 46 3,OA 47 (.bin .neq (TT 46) (II 0))]) (.cond (TT 47) (.seq
 (.reg [MM 48 3,MM 2 48]) .ret) .skip))) (.seq (.seq (.reg [FF 49 15 1,VV 50 49,OA 51 (.len false (TT 50)),OA 52 (.mv (II 0))]) (.block 0 (.loop (.seq (.reg [OA 53 (.bin .lss (TT 52) (TT 51))]) (.seq (.cond (TT 53) .skip
 (.exit 0)) (.seq (.block 1 (.seq (.reg [OA 54 (.l7 6 (TT 50) (TT 52)),LL 55 6 54,OA 5 (.alloc 59 [.bool false,.string ⟨#[]⟩,.string ⟨#[]⟩,.bool false,.string ⟨#[]⟩,.string ⟨#[]⟩]),OB (.store 6 (TT 5) (TT 55))]) (.seq
 (.reg [FF 56 0 5,LL 57 3 56,FF 58 3 5,LL 59 3 58,OA 60 (.bsl 29 3 2 [.bool false,.string ⟨#[]⟩,.string ⟨#[]⟩] [(0,TT 57),(1,TT 59)]),OA 61 (.call 105 [TT 60]),OA 62 (.un .not (TT 61))]) (.cond (TT 62) (.seq (.reg [OA
 2 (.mv (II 1))]) .ret) .skip)))) (.reg [OA 63 (.bin .add (TT 52) (II 1)),MM 52 63]))))))) (.seq (.reg [OA 2 (.mv (II 0))]) .ret)))))⟩
theorem b4R:F3 eff Tryz.prog Tryz.f106=some a7X:=by kernel_rfl
theorem b4h:Tryz.prog.funcs[106]?=some Tryz.f106:=Tryz.func106
def a9r:H6:=⟨42,[.tmp 4],.seq (.reg [OA 2 (.box 69 (TT 0)),OA 4 (.mv (II 0))]) (.seq (.seq (.reg [LL 8 12 2,MM 9 1,OA 10 (.len false (TT 9)),OA 11 (.call 154 [TT 8,TT 10]),MM 5 11]) (.seq (.reg [MM 12 5,OA 13 (.bin .neq (TT 12) (II
 0))]) (.cond (TT 13) (.seq (.reg [MM 14 5,MM 4 14]) .ret) .skip))) (.seq (.seq (.reg [FF 15 11 2,VV 16 15,OA 17 (.len false (TT 16)),OA 18 (.mv (II 0))]) (.block 0 (.loop (.seq (.reg [OA 19 (.bin .lss (TT 18) (TT 17))])
 (.seq (.cond (TT 19) .skip (.exit 0)) (.seq (.block 1 (.seq (.reg [MM 20 18,OA 21 (.l7 16 (TT 16) (TT 18)),LL 22 16 21,OA 7 (.alloc 74 [.bool false,.string ⟨#[]⟩,.string ⟨#[]⟩,.bool false,.string ⟨#[]⟩,.string ⟨#[]⟩,
 .bool false,.string ⟨#[]⟩,.string ⟨#[]⟩,.bool false,.string ⟨#[]⟩,.string ⟨#[]⟩,.bool false,.string ⟨#[]⟩,.string ⟨#[]⟩,.slice none 0 0]),MM 6 20,OB (.store 16 (TT 7) (TT 22))]) (.seq (.y9 [.q,.q,.q,.q,.q,.q,
 .q,.q,.q,.q,.q,.q,.q,.q,.q,.q,.q,.q] [MM 23 1,MM 24 6,OA 25 (.l7 3 (TT 23) (TT 24)),LL 26 3 25,FF 27 3 7,LL 28 3 27,OA 29 (.call 39 [TT 26,TT 28]),OA 30 (.bin .lss (TT 29) (II 0)),MM 31 30,MG 32 1 31
 false,MG 33 6 31 false,OC 34 (.l7 3 (TT 32) (TT 33)) 31 false,LG 35 3 34 31 false,FG 36 6 7 31 false,LG 37 3 36 31 false,OC 38 (.call 39 [TT 35,TT 37]) 31 false,OC 39 (.bin .gtr (TT 38) (II 0)) 31 false,OA 40 (.pick
 (TT 31) (.const (.bool true)) (TT 39))]) (.cond (TT 40) (.seq (.reg [OA 4 (.mv (II 17))]) .ret) .skip)))) (.reg [OA 41 (.bin .add (TT 18) (II 1)),MM 18 41]))))))) (.seq (.reg [OA 4 (.mv (II 0))]) .ret)))⟩
theorem b6G:F3 eff Tryz.prog Tryz.f119=some a9r:=by kernel_rfl
theorem b6h:Tryz.prog.funcs[119]?=some Tryz.f119:=Tryz.func119
def tc (h:Bool) (a:Nm.Rt):C:=.agg [.v (.bool h),.v (.bool a.neg),sb a.num,sb a.den]
def tq (h:Bool) (q:Rat):C:=tc h (Nm.ofQ q)
theorem b3R (a:Nm.Rt) (ha:Rb 17179869184 a):FZ 137 [rc a] (tq false (Nm.d9 a)):=by
 refine kW Tryz.func137 (by cbv) (by rfl) fun w O hw=>?_
 have hm:=a3W a a ha ha
 have e:G9 (Nm.d9 a) (Nm.d9 a)=Nm.d9 a:=by unfold G9;split<;>rfl
 rw [e] at hm
 unfold rq tq at *
 generalize Nm.ofQ (Nm.d9 a)=r at *
 simp only [j5,TT,OA,OB,LL]
 simp only [rc,tc,sb] at *
 (repeat first|refine uA ?_|(apply uK;focus omega)|simp (disch:=omega) only [go_sem,Nat.reduceBEq]|(apply uD hm;exact tz hw;rfl))
 (refine S.done ?_;simp only [p9,r9,go_sem,Nat.reduceBEq,Nat.reduceAdd,Nat.reduceLeDiff];(repeat (refine ⟨?_,?_⟩;focus first|trivial|omega|simp));exact j3.out rfl (Imp.refl rfl) rfl)
theorem a8t {neg:Bool} {n d k m:Nat} (hd:d ≠ 0) (hn:(Nm.enc n).length<=k) (hdl:(Nm.enc d).length<=k) (hk:1<=k) (hm:k<=m):Rb m (Nm.ofQ (mkRat (Nm.sgn neg n) d)):=by
 rw [<- Nm.b2a neg hd]
 split
 ·exact ⟨c7n _,c7l hk hm⟩
 ·exact ⟨c7l (Nm.a2u (Nat.div_le_self _ _)) (c7l hn hm),c7l (Nm.a2u (Nat.div_le_self _ _)) (c7l hdl hm)⟩
theorem a4H {k:Nat} {p:Rat} (h:Rb k (Nm.ofQ p)):1<=k:=by
 have h1:=h.2
 simp only [Nm.ofQ] at h1
 have:Nm.enc p.den ≠ []:=Nm.a6u p.den_nz
 have:=List.length_pos_iff.2 this
 omega
theorem U4 {k m:Nat} {p q:Rat} (hp:Rb k (Nm.ofQ p)) (hq:Rb m (Nm.ofQ q)):Rb (k+m+1) (Nm.ofQ (p+q)):=by
 have h1:=a4H hp
 rw [<- Nm.b3a p q]
 have l1:=Nm.J7 hp.1 hq.2
 have l2:=Nm.J7 hq.1 hp.2
 have l3:=Nm.J7 hp.2 hq.2
 exact a8t (k:=k+m+1) (Nat.mul_ne_zero p.den_nz q.den_nz) (c7l (Nm.a2u (Nm.a7l _ _ _ _)) (Nm.a2b l1 (by omega))) (by omega) (by omega) (c7p _)
theorem I9 {k m:Nat} {p q:Rat} (hp:Rb k (Nm.ofQ p)) (hq:Rb m (Nm.ofQ q)):Rb (k+m) (Nm.ofQ (p*q)):=by
 have h1:=a4H hp
 rw [<- Nm.b4Y p q]
 exact a8t (k:=k+m) (Nat.mul_ne_zero p.den_nz q.den_nz) (Nm.J7 hp.1 hq.1) (Nm.J7 hp.2 hq.2) (by omega) (c7p _)
theorem b0x {k m:Nat} {p q:Rat} (h:q ≠ 0) (hp:Rb k (Nm.ofQ p)) (hq:Rb m (Nm.ofQ q)):Rb (k+m) (Nm.ofQ (p / q)):=by
 have h1:=a4H hp
 rw [<- Nm.b4Q p q h]
 have hn:q.num.natAbs ≠ 0:=fun e=>h (Rat.num_eq_zero.1 (by omega))
 exact a8t (k:=k+m) (Nat.mul_ne_zero p.den_nz hn) (Nm.J7 hp.1 hq.2) (Nm.J7 hp.2 hq.1) (by omega) (c7p _)
theorem a1c {k:Nat} {p:Rat} (hp:Rb k (Nm.ofQ p)):Rb k (Nm.ofQ (-p)):=by
 rw [b0r];exact hp
theorem U5 {k m:Nat} {p q:Rat} (hp:Rb k (Nm.ofQ p)) (hq:Rb m (Nm.ofQ q)):Rb (k+m+1) (Nm.ofQ (p-q)):=by
 rw [Rat.sub_eq_add_neg];exact U4 hp (a1c hq)
theorem Rb.mono {k m:Nat} {a:Nm.Rt} (h:Rb k a) (hm:k<=m):Rb m a:=⟨c7l h.1 hm,c7l h.2 hm⟩
theorem a5s (p q:Rat) (hp:Rb 17179869184 (Nm.ofQ p)) (hq:Rb 17179869184 (Nm.ofQ q)):FZ 38 [rq p,rq q] (rq (p+q)):=by
 have:=a7T (Nm.ofQ p) (Nm.ofQ q) hp hq
 rwa [Nm.q8,Nm.q8] at this
theorem a8M (p q:Rat) (hp:Rb 17179869184 (Nm.ofQ p)) (hq:Rb 17179869184 (Nm.ofQ q)):FZ 15 [rq p,rq q] (rq (p-q)):=by
 have:=b0G (Nm.ofQ p) (Nm.ofQ q) hp hq
 rwa [Nm.q8,Nm.q8] at this
theorem a1p (p q:Rat) (hp:Rb 17179869184 (Nm.ofQ p)) (hq:Rb 17179869184 (Nm.ofQ q)):FZ 77 [rq p,rq q] (rq (p*q)):=by
 have:=c0j (Nm.ofQ p) (Nm.ofQ q) hp hq
 rwa [Nm.q8,Nm.q8] at this
theorem b7X (p q:Rat) (hp:Rb 17179869184 (Nm.ofQ p)) (hq:Rb 17179869184 (Nm.ofQ q)):FZ 110 [rq p,rq q] (.tup [rc (a3l p q),ints (a9X q)]):=by
 have:=c0F (Nm.ofQ p) (Nm.ofQ q) hp hq
 rwa [Nm.q8,Nm.q8] at this
theorem c5D:FZ 206 [] (tq true 0):=by
 refine kW Tryz.func206 (by cbv) (by rfl) fun w O hw=>?_
 have ho:=a2l 0 (by decide) (by decide)
 rw [show ((0:Int):Rat)=0 from rfl] at ho
 unfold rq tq at *
 generalize Nm.ofQ 0=r at *
 simp only [j5,TT,II,OA,OB]
 simp only [rc,tc,sb,ints] at *
 (repeat first|refine uA ?_|(apply uK;focus omega)|simp (disch:=omega) only [go_sem,Nat.reduceBEq]|(apply uD ho;exact tz hw;rfl))
 (refine S.done ?_;simp only [p9,r9,go_sem,Nat.reduceBEq,Nat.reduceAdd,Nat.reduceLeDiff];(repeat (refine ⟨?_,?_⟩;focus first|trivial|omega|simp));exact j3.out rfl (Imp.refl rfl) rfl)
def J9 (h:Bool) (a:Nm.Rt):Rat:=if h then 0 else Nm.d9 a
theorem c0s (h:Bool) (a:Nm.Rt) (ha:Rb 17179869184 a):FZ 178 [tc h a] (tq h (J9 h a)):=by
 refine kW Tryz.func178 (by cbv) (by rfl) fun w O hw=>?_
 have ho:=c5D
 have hf:=b3R a ha
 unfold J9 tq at *
 cases h
 ·simp only [c7Q,if_false]
  generalize Nm.ofQ (Nm.d9 a)=r at *
  simp only [j5,TT,OA,OB,LL,VV,FF]
  simp only [rc,tc,sb] at *
  (repeat first|refine uA ?_|(apply uK;focus omega)|simp (disch:=omega) only [go_sem,Nat.reduceBEq])
  exact S.cond rfl (fun hc=>by cases hc) (fun _=>by
   (repeat first|refine uA ?_|(apply uK;focus omega)|simp (disch:=omega) only [go_sem,Nat.reduceBEq]|(apply uD hf;exact tz hw;rfl))
   (refine S.done ?_;simp only [p9,r9,go_sem,Nat.reduceBEq,Nat.reduceAdd,Nat.reduceLeDiff];(repeat (refine ⟨?_,?_⟩;focus first|trivial|omega|simp));exact j3.out rfl (Imp.refl rfl) rfl))
 ·simp only [if_true]
  generalize Nm.ofQ 0=r at *
  simp only [j5,TT,OA,OB,LL,VV,FF]
  simp only [rc,tc,sb] at *
  (repeat first|refine uA ?_|(apply uK;focus omega)|simp (disch:=omega) only [go_sem,Nat.reduceBEq])
  exact S.cond rfl (fun _=>by
   (repeat first|refine uA ?_|(apply uK;focus omega)|simp (disch:=omega) only [go_sem,Nat.reduceBEq]|(apply uD ho;exact tz hw;rfl))
   (refine S.done ?_;simp only [p9,r9,go_sem,Nat.reduceBEq,Nat.reduceAdd,Nat.reduceLeDiff];(repeat (refine ⟨?_,?_⟩;focus first|trivial|omega|simp));exact j3.out rfl (Imp.refl rfl) rfl)) (fun hc=>by cases hc)
def a2t (h:Bool) (t:Rat):Rat:=if h then -1 else (1-t*t) / (1+t*t)
def Z6 (t:Rat):Rat:=(t+t) / (1+t*t)
theorem sq_nonneg (t:Rat):0<=t*t:=by
 rcases Rat.le_total (a:=0) (b:=t) with h|h
 ·exact Rat.mul_nonneg h h
 ·have h1:0<=-t:=by grind
  have:=Rat.mul_nonneg h1 h1
  grind
theorem b1c (t:Rat):1+t*t ≠ 0:=by
 have:=sq_nonneg t
 intro h
 have h1:(0:Rat) < 1:=by decide
 grind
theorem R8:Rb 8 (Nm.ofQ 1):=⟨Nm.G5 (by decide),Nm.G5 (by decide)⟩
theorem c4R (h:Bool) (a:Nm.Rt) (ha:Rb 4294967296 a):FZ 155 [tc h a] (rq (a2t h (J9 h a))):=by
 refine kW Tryz.func155 (by cbv) (by rfl) fun w O hw=>?_
 have hf:=c0s h a (ha.mono (by decide))
 have ho:=a2l 1 (by decide) (by decide)
 have hm1:=a2l (-1) (by decide) (by decide)
 rw [show ((1:Int):Rat)=1 from rfl] at ho
 rw [show ((-1:Int):Rat)=-1 from rfl] at hm1
 have hk:Rb 4294967296 (Nm.ofQ (J9 h a)):=by
  unfold J9;cases h
  ·exact ha.fit (by decide)
  ·simp only [if_true];rw [Nm.a4K];exact ⟨by decide,by decide⟩
 generalize J9 h a=t at *
 have hsq:=a1p t t (hk.mono (by decide)) (hk.mono (by decide))
 have k2:=I9 hk hk
 have hs:=a8M 1 (t*t) (R8.mono (by decide)) (k2.mono (by decide))
 have hp:=a5s 1 (t*t) (R8.mono (by decide)) (k2.mono (by decide))
 have hd:=b7X (1-t*t) (1+t*t) ((U5 R8 k2).mono (by decide)) ((U4 R8 k2).mono (by decide))
 rw [show a3l (1-t*t) (1+t*t)=Nm.ofQ ((1-t*t) / (1+t*t)) by unfold a3l;rw [if_neg (b1c t)]] at hd
 unfold a2t
 cases h
 ·simp only [c7Q,if_false]
  generalize (1-t*t) / (1+t*t)=r at *
  unfold tq rq at *
  generalize Nm.ofQ t=rt at *
  generalize Nm.ofQ (t*t)=rs at *
  generalize Nm.ofQ (1-t*t)=r1 at *
  generalize Nm.ofQ (1+t*t)=r2 at *
  generalize Nm.ofQ r=r3 at *
  generalize Nm.ofQ 1=r4 at *
  simp only [j5,TT,II,OA,OB,MM,LL,VV,FF]
  simp only [rc,tc,sb,ints] at *
  (repeat first|refine uA ?_|(apply uK;focus omega)|simp (disch:=omega) only [go_sem,Nat.reduceBEq]|(apply uD hf;exact tz hw;rfl))
  refine S.cond rfl (fun hc=>by cases hc) (fun _=>?_)
  (repeat first|refine uA ?_|(apply uK;focus omega)|simp (disch:=omega) only [go_sem,Nat.reduceBEq]|(apply uD hsq;exact tz hw;rfl)|(apply uD ho;exact tz hw;rfl)|(apply uD hs;exact tz hw;rfl)|(apply uD hp;exact tz hw;rfl)|(apply uD hd;exact tz hw;rfl))
  (refine S.done ?_;simp only [p9,r9,go_sem,Nat.reduceBEq,Nat.reduceAdd,Nat.reduceLeDiff];(repeat (refine ⟨?_,?_⟩;focus first|trivial|omega|simp));exact j3.out rfl (Imp.refl rfl) rfl)
 ·simp only [if_true]
  unfold tq rq at *
  generalize Nm.ofQ t=rt at *
  generalize Nm.ofQ (-1)=r4 at *
  simp only [j5,TT,II,OA,OB,MM,LL,VV,FF]
  simp only [rc,tc,sb,ints] at *
  (repeat first|refine uA ?_|(apply uK;focus omega)|simp (disch:=omega) only [go_sem,Nat.reduceBEq]|(apply uD hf;exact tz hw;rfl))
  refine S.cond rfl (fun _=>?_) (fun hc=>by cases hc)
  (repeat first|refine uA ?_|(apply uK;focus omega)|simp (disch:=omega) only [go_sem,Nat.reduceBEq]|(apply uD hm1;exact tz hw;rfl))
  (refine S.done ?_;simp only [p9,r9,go_sem,Nat.reduceBEq,Nat.reduceAdd,Nat.reduceLeDiff];(repeat (refine ⟨?_,?_⟩;focus first|trivial|omega|simp));exact j3.out rfl (Imp.refl rfl) rfl)
theorem b1Z {k:Nat} {h:Bool} {a:Nm.Rt} (ha:Rb k a) (hk:1<=k):Rb k (Nm.ofQ (J9 h a)):=by
 unfold J9;cases h
 ·exact ha.fit hk
 ·simp only [if_true];rw [Nm.a4K];exact ⟨c7n _,hk⟩
theorem b5O (h:Bool) (a:Nm.Rt) (ha:Rb 4294967296 a):FZ 156 [tc h a] (rq (Z6 (J9 h a))):=by
 refine kW Tryz.func156 (by cbv) (by rfl) fun w O hw=>?_
 have hf:=c0s h a (ha.mono (by decide))
 have ho:=a2l 1 (by decide) (by decide)
 rw [show ((1:Int):Rat)=1 from rfl] at ho
 have hk:Rb 4294967296 (Nm.ofQ (J9 h a)):=b1Z ha (by decide)
 generalize J9 h a=t at *
 have hsq:=a1p t t (hk.mono (by decide)) (hk.mono (by decide))
 have k2:=I9 hk hk
 have hs:=a5s t t (hk.mono (by decide)) (hk.mono (by decide))
 have hp:=a5s 1 (t*t) (R8.mono (by decide)) (k2.mono (by decide))
 have hd:=b7X (t+t) (1+t*t) ((U4 hk hk).mono (by decide)) ((U4 R8 k2).mono (by decide))
 rw [show a3l (t+t) (1+t*t)=Nm.ofQ ((t+t) / (1+t*t)) by unfold a3l;rw [if_neg (b1c t)]] at hd
 unfold Z6
 generalize (t+t) / (1+t*t)=r at *
 unfold tq rq at *
 generalize Nm.ofQ t=rt at *
 generalize Nm.ofQ (t*t)=rs at *
 generalize Nm.ofQ (t+t)=r1 at *
 generalize Nm.ofQ (1+t*t)=r2 at *
 generalize Nm.ofQ r=r3 at *
 generalize Nm.ofQ 1=r4 at *
 simp only [j5,TT,II,OA,OB,MM,LL,FF]
 simp only [rc,tc,sb,ints] at *
 (repeat first|refine uA ?_|(apply uK;focus omega)|simp (disch:=omega) only [go_sem,Nat.reduceBEq]|(apply uD hf;exact tz hw;rfl)|(apply uD hsq;exact tz hw;rfl)|(apply uD ho;exact tz hw;rfl)|(apply uD hs;exact tz hw;rfl)|(apply uD hp;exact tz hw;rfl)|(apply uD hd;exact tz hw;rfl))
 (refine S.done ?_;simp only [p9,r9,go_sem,Nat.reduceBEq,Nat.reduceAdd,Nat.reduceLeDiff];(repeat (refine ⟨?_,?_⟩;focus first|trivial|omega|simp));exact j3.out rfl (Imp.refl rfl) rfl)
def vc (x y:Nm.Rt):C:=.agg [.v (.bool x.neg),sb x.num,sb x.den,.v (.bool y.neg),sb y.num,sb y.den]
def vq (x y:Rat):C:=vc (Nm.ofQ x) (Nm.ofQ y)
theorem b0y (a b c d:Nm.Rt) (ha:Rb 17179869184 a) (hb:Rb 17179869184 b) (hc:Rb 17179869184 c) (hd:Rb 17179869184 d) :
  FZ 168 [vc a b,vc c d] (vq (Nm.d9 a-Nm.d9 c) (Nm.d9 b-Nm.d9 d)):=by
 refine kW Tryz.func168 (by cbv) (by rfl) fun w O hw=>?_
 have h1:=b0G a c ha hc
 have h2:=b0G b d hb hd
 unfold vq rq at *
 generalize Nm.ofQ (Nm.d9 a-Nm.d9 c)=r1 at *
 generalize Nm.ofQ (Nm.d9 b-Nm.d9 d)=r2 at *
 simp only [j5,TT,OA,OB,LL,FF]
 simp only [rc,vc,sb] at *
 (repeat first|refine uA ?_|(apply uK;focus first|omega|(intros;simp_all<;>omega))|simp (disch:=omega) only [go_sem,Nat.reduceBEq,Nat.reduceAdd]|(apply uD h1;exact tz hw;rfl)|(apply uD h2;exact tz hw;rfl))
 (refine S.done ?_;simp only [p9,r9,go_sem,Nat.reduceBEq,Nat.reduceAdd,Nat.reduceLeDiff];(repeat (refine ⟨?_,?_⟩;focus first|trivial|omega|simp));exact j3.out rfl (Imp.refl rfl) rfl)
theorem c0H {k:Nat} {t:Rat} (h:Bool) (ht:Rb k (Nm.ofQ t)):Rb (4*k+18) (Nm.ofQ (a2t h t)):=by
 unfold a2t
 have h1:=I9 ht ht
 have h2:=U5 R8 h1
 have h3:=U4 R8 h1
 cases h
 ·exact (b0x (b1c t) h2 h3).mono (by omega)
 ·exact (a1c R8).mono (by omega)
structure Vt where
 x:Nm.Rt
 y:Nm.Rt
def Vt.enc (v:Vt):List C:=[.v (.bool v.x.neg),sb v.x.num,sb v.x.den,.v (.bool v.y.neg),sb v.y.num,sb v.y.den]
def Vt.c (v:Vt):C:=.agg v.enc
def Vt.zero:Vt:=⟨⟨false,[],[]⟩,⟨false,[],[]⟩⟩
def Vb (k:Nat) (v:Vt):Prop:=Rb k v.x/\Rb k v.y
theorem Vb.mono {k m:Nat} {v:Vt} (h:Vb k v) (hm:k<=m):Vb m v:=⟨h.1.mono hm,h.2.mono hm⟩
theorem c1H (a b c d:Rat) (ha:Rb 4294967296 (Nm.ofQ a)) (hb:Rb 4294967296 (Nm.ofQ b)) (hc:Rb 4294967296 (Nm.ofQ c)) (hd:Rb 4294967296 (Nm.ofQ d)) :
  FZ 214 [vq a b,vq c d] (rq (a*d-b*c)):=by
 refine kW Tryz.func214 (by cbv) (by rfl) fun w O hw=>?_
 have h1:=a1p a d (ha.mono (by decide)) (hd.mono (by decide))
 have h2:=a1p b c (hb.mono (by decide)) (hc.mono (by decide))
 have h3:=a8M (a*d) (b*c) ((I9 ha hd).mono (by decide)) ((I9 hb hc).mono (by decide))
 unfold vq rq at *
 generalize Nm.ofQ (a*d-b*c)=r3 at *
 generalize Nm.ofQ (a*d)=r1 at *
 generalize Nm.ofQ (b*c)=r2 at *
 generalize Nm.ofQ a=ra at *
 generalize Nm.ofQ b=rb at *
 generalize Nm.ofQ c=r at *
 generalize Nm.ofQ d=rd at *
 simp only [j5,TT,OA,OB,LL,FF]
 simp only [rc,vc,sb] at *
 (repeat first|refine uA ?_|(apply uK;focus first|omega|(intros;simp_all<;>omega))|simp (disch:=omega) only [go_sem,Nat.reduceBEq,Nat.reduceAdd]|(apply uD h1;exact tz hw;rfl)|(apply uD h2;exact tz hw;rfl)|(apply uD h3;exact tz hw;rfl))
 (refine S.done ?_;simp only [p9,r9,go_sem,Nat.reduceBEq,Nat.reduceAdd,Nat.reduceLeDiff];(repeat (refine ⟨?_,?_⟩;focus first|trivial|omega|simp));exact j3.out rfl (Imp.refl rfl) rfl)
def a8J (a b c:Vt):Int:=E9 ((Nm.d9 b.x-Nm.d9 a.x)*(Nm.d9 c.y-Nm.d9 a.y)-(Nm.d9 b.y-Nm.d9 a.y)*(Nm.d9 c.x-Nm.d9 a.x))
theorem c4K (a b c:Vt) (ha:Vb 1073741824 a) (hb:Vb 1073741824 b) (hc:Vb 1073741824 c):FZ 195 [a.c,b.c,c.c] (ints (a8J a b c)):=by
 refine kW Tryz.func195 (by cbv) (by rfl) fun w O hw=>?_
 have h1:=b0y b.x b.y a.x a.y (hb.1.mono (by decide)) (hb.2.mono (by decide)) (ha.1.mono (by decide)) (ha.2.mono (by decide))
 have h2:=b0y c.x c.y a.x a.y (hc.1.mono (by decide)) (hc.2.mono (by decide)) (ha.1.mono (by decide)) (ha.2.mono (by decide))
 have g1:=U5 (hb.1.fit (by decide)) (ha.1.fit (by decide))
 have g2:=U5 (hb.2.fit (by decide)) (ha.2.fit (by decide))
 have g3:=U5 (hc.1.fit (by decide)) (ha.1.fit (by decide))
 have g4:=U5 (hc.2.fit (by decide)) (ha.2.fit (by decide))
 unfold a8J
 generalize Nm.d9 b.x-Nm.d9 a.x=p1 at *
 generalize Nm.d9 b.y-Nm.d9 a.y=p2 at *
 generalize Nm.d9 c.x-Nm.d9 a.x=p3 at *
 generalize Nm.d9 c.y-Nm.d9 a.y=p4 at *
 have h3:=c1H p1 p2 p3 p4 (g1.mono (by decide)) (g2.mono (by decide)) (g3.mono (by decide)) (g4.mono (by decide))
 have g5:=U5 (I9 g1 g4) (I9 g2 g3)
 have h4:=a0g (Nm.ofQ (p1*p4-p2*p3)) (g5.mono (by decide))
 rw [Nm.q8] at h4
 generalize p1*p4-p2*p3=p5 at *
 unfold vq rq at *
 generalize Nm.ofQ p1=r1 at *
 generalize Nm.ofQ p2=r2 at *
 generalize Nm.ofQ p3=r3 at *
 generalize Nm.ofQ p4=r4 at *
 generalize Nm.ofQ p5=r5 at *
 simp only [j5,TT,II,OA,MM,LL]
 simp only [rc,vc,sb,Vt.c,Vt.enc] at *
 (repeat first|refine uA ?_|(apply uK;focus first|omega|(intros;simp_all<;>omega))|simp (disch:=omega) only [go_sem,Nat.reduceBEq,Nat.reduceAdd]|(apply uD h1;exact tz hw;rfl)|(apply uD h2;exact tz hw;rfl)|(apply uD h3;exact tz hw;rfl)|(apply uD h4;exact tz hw;rfl))
 (refine S.done ?_;simp only [p9,go_sem,Nat.reduceBEq];(repeat (refine ⟨?_,?_⟩;focus first|trivial|omega|simp));exact j3.out rfl (Imp.refl rfl) rfl)
def I5 {α:Type} (f:α->Int):List α->Int
 | []=>0
 | x::r=>if f x=0 then I5 f r else f x
def u7 {α σ:Type} (f:σ->α->Int × σ):σ->List α->Int × σ
 | s,[]=>(0,s)
 | s,x::r=>if (f s x).1=0 then u7 f (f s x).2 r else f s x
theorem drop_at {α:Type} {l:List α} {i:Nat} {x:α} (h:l[i]?=some x):l.drop i=x::l.drop (i+1):=by
 obtain ⟨hi,rfl⟩:=c7m.1 h
 exact List.drop_eq_getElem_cons hi
theorem a2f {α:Type} {f:α->Int} {l:List α} {i:Nat} {x:α} (h:l[i]?=some x) (h0:f x ≠ 0):I5 f (l.drop i)=f x:=by
 rw [drop_at h,I5,if_neg h0]
theorem a2d {α:Type} {f:α->Int} {l:List α} {i:Nat} {x:α} (h:l[i]?=some x) (h0:f x=0):I5 f (l.drop i)=I5 f (l.drop (i+1)):=by
 rw [drop_at h,I5,if_pos h0]
theorem a2T {α:Type} {f:α->Int} {l:List α} {i:Nat} (h:l.length<=i):I5 f (l.drop i)=0:=by
 rw [List.drop_eq_nil_of_le h,I5]
theorem a2R {α σ:Type} {f:σ->α->Int × σ} {s:σ} {l:List α} {i:Nat} {x:α} (h:l[i]?=some x) (h0:(f s x).1 ≠ 0):u7 f s (l.drop i)=f s x:=by
 rw [drop_at h,u7,if_neg h0]
theorem a2N {α σ:Type} {f:σ->α->Int × σ} {s:σ} {l:List α} {i:Nat} {x:α} (h:l[i]?=some x) (h0:(f s x).1=0):u7 f s (l.drop i)=u7 f (f s x).2 (l.drop (i+1)):=by
 rw [drop_at h,u7,if_pos h0]
theorem a3R {α σ:Type} {f:σ->α->Int × σ} {s:σ} {l:List α} {i:Nat} (h:l.length<=i):u7 f s (l.drop i)=(0,s):=by
 rw [List.drop_eq_nil_of_le h,u7]
structure Fr where
 x:Nm.Rt
 y:Nm.Rt
 half:Bool
 t:Nm.Rt
structure Lk where
 length:Nm.Rt
 low:Nm.Rt
 high:Nm.Rt
 speed:Nm.Rt
 brake:Nm.Rt
 shape:List Vt
structure Am where
 name:List UInt8
 base:Fr
 links:List Lk
structure Pt where
 name:List UInt8
 shape:List Vt
 grasp:Fr
structure Sl where
 name:List UInt8
 frame:Fr
 within:Nm.Rt
structure Gt where
 name:List UInt8
 low:Vt
 high:Vt
structure Wk where
 arms:List Am
 walls:List (List Vt)
 parts:List Pt
 slots:List Sl
 gates:List Gt
 walk:Nm.Rt
def rcs (a:Nm.Rt):List C:=[.v (.bool a.neg),sb a.num,sb a.den]
def Fr.enc (f:Fr):List C:=[.v (.bool f.x.neg),sb f.x.num,sb f.x.den,.v (.bool f.y.neg),sb f.y.num,sb f.y.den,.v (.bool f.half),.v (.bool f.t.neg),sb f.t.num,sb f.t.den]
def Fr.c (f:Fr):C:=.agg f.enc
def vts (l:List Vt):C:=.sl 6 (l.map Vt.enc)
def Lk.enc (l:Lk):List C:=[.v (.bool l.length.neg),sb l.length.num,sb l.length.den,.v (.bool l.low.neg),sb l.low.num,sb l.low.den,.v (.bool l.high.neg),sb l.high.num,sb l.high.den,.v (.bool l.speed.neg),sb l.speed.num,sb l.speed.den,.v (.bool l.brake.neg),sb l.brake.num,sb l.brake.den,vts l.shape]
def Lk.c (l:Lk):C:=.agg l.enc
def lks (l:List Lk):C:=.sl 16 (l.map Lk.enc)
def Am.enc (a:Am):List C:=[sb a.name,.v (.bool a.base.x.neg),sb a.base.x.num,sb a.base.x.den,.v (.bool a.base.y.neg),sb a.base.y.num,sb a.base.y.den,.v (.bool a.base.half),.v (.bool a.base.t.neg),sb a.base.t.num,sb a.base.t.den,lks a.links]
def Am.c (a:Am):C:=.agg a.enc
def ams (l:List Am):C:=.sl 12 (l.map Am.enc)
def Pt.enc (p:Pt):List C:=[sb p.name,vts p.shape,.v (.bool p.grasp.x.neg),sb p.grasp.x.num,sb p.grasp.x.den,.v (.bool p.grasp.y.neg),sb p.grasp.y.num,sb p.grasp.y.den,.v (.bool p.grasp.half),.v (.bool p.grasp.t.neg),sb p.grasp.t.num,sb p.grasp.t.den]
def Pt.c (p:Pt):C:=.agg p.enc
def pts (l:List Pt):C:=.sl 12 (l.map Pt.enc)
def Sl.enc (s:Sl):List C:=[sb s.name,.v (.bool s.frame.x.neg),sb s.frame.x.num,sb s.frame.x.den,.v (.bool s.frame.y.neg),sb s.frame.y.num,sb s.frame.y.den,.v (.bool s.frame.half),.v (.bool s.frame.t.neg),sb s.frame.t.num,sb s.frame.t.den,.v (.bool s.within.neg),sb s.within.num,sb s.within.den]
def Sl.c (s:Sl):C:=.agg s.enc
def sls (l:List Sl):C:=.sl 14 (l.map Sl.enc)
def Gt.enc (g:Gt):List C:=[sb g.name,.v (.bool g.low.x.neg),sb g.low.x.num,sb g.low.x.den,.v (.bool g.low.y.neg),sb g.low.y.num,sb g.low.y.den,.v (.bool g.high.x.neg),sb g.high.x.num,sb g.high.x.den,.v (.bool g.high.y.neg),sb g.high.y.num,sb g.high.y.den]
def Gt.c (g:Gt):C:=.agg g.enc
def gts (l:List Gt):C:=.sl 13 (l.map Gt.enc)
def wls (l:List (List Vt)):C:=.sl 1 (l.map fun s=>[vts s])
def Wk.enc (w:Wk):List C:=[ams w.arms,wls w.walls,pts w.parts,sls w.slots,gts w.gates,.v (.bool w.walk.neg),sb w.walk.num,sb w.walk.den]
def Wk.c (w:Wk):C:=.agg w.enc
def Fb (k:Nat) (f:Fr):Prop:=Rb k f.x/\Rb k f.y/\Rb k f.t
def Vbs (k:Nat) (l:List Vt):Prop:=l.length<=k/\∀ v ∈ l,Vb k v
def Lb (k:Nat) (l:Lk):Prop:=Rb k l.length/\Rb k l.low/\Rb k l.high/\Rb k l.speed/\Rb k l.brake/\Vbs k l.shape
def Ab (k:Nat) (a:Am):Prop:=a.name.length<=k/\Fb k a.base/\a.links.length<=k/\∀ l ∈ a.links,Lb k l
def Pb (k:Nat) (p:Pt):Prop:=p.name.length<=k/\Vbs k p.shape/\Fb k p.grasp
def Sb (k:Nat) (s:Sl):Prop:=s.name.length<=k/\Fb k s.frame/\Rb k s.within
def Gb (k:Nat) (g:Gt):Prop:=g.name.length<=k/\Vb k g.low/\Vb k g.high
structure Wb (k:Nat) (w:Wk):Prop where
 arms:w.arms.length<=k/\∀ x ∈ w.arms,Ab k x
 walls:w.walls.length<=k/\∀ x ∈ w.walls,Vbs k x
 parts:w.parts.length<=k/\∀ x ∈ w.parts,Pb k x
 slots:w.slots.length<=k/\∀ x ∈ w.slots,Sb k x
 gates:w.gates.length<=k/\∀ x ∈ w.gates,Gb k x
 walk:Rb k w.walk
def a1P (s:List UInt8):Bool:=(s.all fun b=>decide (97<=b.toNat) && decide (b.toNat<=122)) && decide (1<=s.length) && decide (s.length<=12)
def a2K (l:List Vt) (i k:Nat):Int:=a8J (l.getD i Vt.zero) (l.getD ((i+1) % l.length) Vt.zero) (l.getD ((i+k) % l.length) Vt.zero)
def L6 (l:List Vt) (most:Nat):Int:=
 if most < l.length then 2 else if l.length < 3 then 3 else
 if (List.range l.length).all fun i=>(List.range l.length).all fun k=>decide (k < 2) || decide (0 < a2K l i k) then 0 else 3
def a5w (h:Bool) (t:Nm.Rt):Bool:=h && !decide (E9 (Nm.d9 t)=0)
def O6 (l:Lk):Int:=
 if (l6 l.length && l6 l.low && l6 l.high && l6 l.speed && l6 l.brake)=false \/ E9 (Nm.d9 l.length)<=0 \/ 0<=Nm.q9 (Nm.d9 l.low) (Nm.d9 l.high) then 1 else
 if E9 (Nm.d9 l.speed)<=0 \/ E9 (Nm.d9 l.brake)<=0 then 1 else
 if L6 l.shape 8 ≠ 0 then L6 l.shape 8 else
 if (l.shape.all fun v=>l6 v.x && l6 v.y) then 0 else 1
def J3 (a:Am):Int:=
 if a1P a.name=false then 3 else
 if 3 < a.links.length then 2 else
 if a.links.length=0 \/ (l6 a.base.x && l6 a.base.y && l6 a.base.t)=false \/ a5w a.base.half a.base.t=true then 1 else
 I5 O6 a.links
def a2m (a:Am) (q:List Nm.Rt):Int:=
 if J3 a ≠ 0 then J3 a else if q.length ≠ a.links.length then 1 else
 I5 (fun x:Lk × Nm.Rt=>if Nm.q9 (Nm.d9 x.2) (Nm.d9 x.1.low) < 0 \/ 0 < Nm.q9 (Nm.d9 x.2) (Nm.d9 x.1.high) then 17 else 0) (a.links.zip q)
abbrev Nms:=List (List UInt8)
def M5 (n:Nms) (s:List UInt8):Int × Nms:=if a1P s=false then (3,n) else if n.contains s then (5,n) else (0,n++[s])
def okV (v:Vt):Bool:=decide v.x.H9 && decide v.y.H9 && l6 v.x && l6 v.y
def okF (f:Fr):Bool:=okV ⟨f.x,f.y⟩ && decide f.t.H9 && l6 f.t && !a5w f.half f.t
def K8 (l:List Vt):Int:=if L6 l 8 ≠ 0 then L6 l 8 else if l.all okV then 0 else 1
def a2r (n:Nms) (a:Am):Int × Nms:=if J3 a ≠ 0 then (J3 a,n) else M5 n a.name
def a0V (n:Nms) (p:Pt):Int × Nms:=
 if (M5 n p.name).1 ≠ 0 then M5 n p.name else
 if K8 p.shape ≠ 0 then (K8 p.shape,(M5 n p.name).2) else
 (if okF p.grasp then 0 else 1,(M5 n p.name).2)
def a0T (n:Nms) (s:Sl):Int × Nms:=
 if (M5 n s.name).1 ≠ 0 then M5 n s.name else
 (if okF s.frame && decide s.within.H9 && l6 s.within && decide (0 < E9 (Nm.d9 s.within)) then 0 else 1,(M5 n s.name).2)
def a0R (n:Nms) (g:Gt):Int × Nms:=
 if (M5 n g.name).1 ≠ 0 then M5 n g.name else
 (if okV g.low && okV g.high && decide (Nm.q9 (Nm.d9 g.low.x) (Nm.d9 g.high.x)<=0) && decide (Nm.q9 (Nm.d9 g.low.y) (Nm.d9 g.high.y)<=0) then 0 else 1,(M5 n g.name).2)
def b3M (a:Nm.Rt):Int:=if decide a.H9 && l6 a && decide (0<=E9 (Nm.d9 a)) then 0 else 1
def a8m (w:Wk):List Int:=
 let a:=u7 a2r [] w.arms
 let p:=u7 a0V a.2 w.parts
 let s:=u7 a0T p.2 w.slots
 let g:=u7 a0R s.2 w.gates
 [a.1,I5 K8 w.walls,p.1,s.1,g.1]
def a0b (w:Wk):Int:=
 if 4 < w.arms.length \/ 10 < w.walls.length \/ 6 < w.parts.length \/ 8 < w.slots.length \/ 4 < w.gates.length then 2 else
 if w.arms.length=0 then 4 else
 if I5 id (a8m w) ≠ 0 then I5 id (a8m w) else b3M w.walk
def nmE (n:Nms):List (Value × Value):=n.map fun s=>(.string (bs s),.bool true)
theorem c3A (n:Nms) (s:List UInt8):a1o (.string (bs s)) (nmE n)=if n.contains s then some (.bool true) else none:=by
 induction n with
 | nil=>rfl
 | cons a n ih=>
  simp only [nmE,c7w,a1o,a1m]
  simp only [nmE] at ih
  rw [ih]
  by_cases h:s=a
  ·subst h;simp
  ·have h1:¬ bs s=bs a:=fun e=>h (b4a e)
   have h2:(s == a)=false:=by simpa using h
   rw [List.contains_cons]
   simp only [h2,Bool.false_or,decide_eq_false h1,c7Q,if_false]
theorem c4F (n:Nms) (s:List UInt8) (h:n.contains s=false):a1h (.string (bs s)) (.bool true) (nmE n)=nmE (n++[s]):=by
 induction n with
 | nil=>rfl
 | cons a n ih=>
  rw [List.contains_cons,c7V] at h
  have h1:¬ bs s=bs a:=fun e=>by have:=b4a e;subst this;simp at h
  have h3:=ih h.2
  simp only [nmE,c7w,List.cons_append,a1h,a1m,decide_eq_false h1,c7Q,if_false] at h3 ⊢
  rw [h3]
def c5Q (f:Fr) (c:Vt):Rat:=Nm.d9 f.x+(Nm.d9 c.x*a2t f.half (J9 f.half f.t)-Nm.d9 c.y*Z6 (J9 f.half f.t))
def c4L (f:Fr) (c:Vt):Rat:=Nm.d9 f.y+(Nm.d9 c.x*Z6 (J9 f.half f.t)+Nm.d9 c.y*a2t f.half (J9 f.half f.t))
def c3a (h1:Bool) (t1:Rat) (h2:Bool) (t2:Rat):Bool × Rat:=
 if h1 && h2 then (false,0) else if h1 then (if t2=0 then (true,0) else (false,-1 / t2)) else if h2 then (if t1=0 then (true,0) else (false,-1 / t1)) else if 1-t1*t2=0 then (true,0) else (false,(t1+t2) / (1-t1*t2))
structure Ast where
 q:List Nm.Rt
 v:List Nm.Rt
 power:Bool
 holds:Int
structure Stt where
 tick:Int
 arms:List Ast
 parts:List Fr
 people:List Vt
 gates:List Bool
def rts (l:List Nm.Rt):C:=.sl 3 (l.map rcs)
def Ast.enc (x:Ast):List C:=[rts x.q,rts x.v,.v (.bool x.power),ints x.holds]
def Ast.c (x:Ast):C:=.agg x.enc
def P9 (l:List Ast):C:=.sl 4 (l.map Ast.enc)
def frs (l:List Fr):C:=.sl 10 (l.map Fr.enc)
def bls (l:List Bool):C:=.sl 1 (l.map fun b=>[.v (.bool b)])
def Stt.enc (s:Stt):List C:=[ints s.tick,P9 s.arms,frs s.parts,vts s.people,bls s.gates]
def Stt.c (s:Stt):C:=.agg s.enc
def Rbs (k:Nat) (l:List Nm.Rt):Prop:=l.length<=k/\∀ a ∈ l,Rb k a
def Asb (k:Nat) (x:Ast):Prop:=Rbs k x.q/\Rbs k x.v
structure Stb (k:Nat) (s:Stt):Prop where
 arms:s.arms.length<=k/\∀ x ∈ s.arms,Asb k x
 parts:s.parts.length<=k/\∀ x ∈ s.parts,Fb k x
 people:Vbs k s.people
 gates:s.gates.length<=k
def E8 (q:Rat):Rat:=if q.num < 0 then -q else q
def a1q (x:Lk × Nm.Rt):Int:=if 0 < Nm.q9 (E8 (Nm.d9 x.2)) (Nm.d9 x.1.speed) then 1 else 0
def M8 (a:Nm.Rt):Bool:=decide a.H9
def a1j (a:Am) (x:Ast) (parts:Nat):Int:=
 if (x.q.all M8 && x.v.all M8)=false then 3 else
 if a2m a x.q ≠ 0 then a2m a x.q else
 if x.v.length ≠ a.links.length \/ x.holds < -1 \/ (parts:Int)<=x.holds then 1 else
 I5 a1q (a.links.zip x.v)
def a8D (h:List Int) (n:Int):List Int:=if h.contains n then h else h++[n]
def hdE (h:List Int):List (Value × Value):=h.map fun n=>(.int .i64 n,.bool true)
def V8 (parts:Nat) (h:List Int) (x:Am × Ast):Int × List Int:=
 if a1j x.1 x.2 parts ≠ 0 then (a1j x.1 x.2 parts,h) else
 if (decide (0<=x.2.holds) && h.contains x.2.holds)=true then (10,h) else (0,a8D h x.2.holds)
def a1N (f:Fr):Bool:=(M8 f.x && M8 f.y && M8 f.t) && !a5w f.half f.t
def a6W (v:Vt):Bool:=M8 v.x && M8 v.y
def U1 (w:Wk) (s:Stt):Int:=
 if a0b w ≠ 0 then a0b w else
 if 4 < s.people.length then 2 else
 if s.tick < 0 \/ 2000 < s.tick \/ s.arms.length ≠ w.arms.length \/ s.parts.length ≠ w.parts.length \/ s.gates.length ≠ w.gates.length then 1 else
 if (u7 (V8 w.parts.length) [] (w.arms.zip s.arms)).1 ≠ 0 then (u7 (V8 w.parts.length) [] (w.arms.zip s.arms)).1 else
 if s.parts.all a1N && s.people.all a6W then 0 else 3
theorem c3B (h:List Int) (n:Int):a1o (.int .i64 n) (hdE h)=if h.contains n then some (.bool true) else none:=by
 induction h with
 | nil=>rfl
 | cons a h ih=>
  simp only [hdE,c7w,a1o,a1m]
  simp only [hdE] at ih
  rw [ih,List.contains_cons]
  by_cases e:n=a
  ·subst e;simp
  ·have e2:(n == a)=false:=by simpa using e
   simp only [e2,Bool.false_or,c7Q,if_false]
theorem c5a (h:List Int) (n:Int):a1h (.int .i64 n) (.bool true) (hdE h)=hdE (a8D h n):=by
 induction h with
 | nil=>rfl
 | cons a h ih=>
  unfold a8D at ih ⊢
  rw [List.contains_cons]
  by_cases e:n=a
  ·subst e
   simp [hdE,a1h,a1m]
  ·have e2:(n == a)=false:=by simpa using e
   simp only [hdE,c7w,a1h,a1m,e2,Bool.false_or,c7Q,if_false]
   simp only [hdE] at ih
   rw [ih]
   split<;>simp [hdE]
def a0N (l:Lk):Nm.Rt:=Nm.ofQ (K6 (Nm.d9 l.low) (G9 (Nm.d9 l.high) 0))
def Q7 (a:Am):Ast:=⟨a.links.map a0N,a.links.map fun _=>Nm.ofQ 0,false,-1⟩
def a4x:Fr:=⟨Nm.ofQ 0,Nm.ofQ 0,false,Nm.ofQ 0⟩
def a7B (w:Wk) (i:Nat):Fr:=if h:i < w.slots.length then (w.slots[i]).frame else a4x
def E5 (w:Wk):Stt:=⟨0,w.arms.map Q7,(List.range w.parts.length).map (a7B w),[],List.replicate w.gates.length false⟩
def nx (l:List Int) (n:Int):Int:=l.headD 0 % n
abbrev Q (n d:Int):Nm.Rt:=Nm.ofQ (mkRat n d.toNat)
def atV (x y:Int):Vt:=⟨Q x 4,Q y 4⟩
def a5I (x y u v:Int):List Vt:=[atV x y,atV u y,atV u v,atV x v]
def a1V (w h k s:Int):List Vt:=
 if k=0 then [atV (-w) (-h),atV w (-h),atV w h,atV (-w) h] else
 if k=1 then [atV (-w) (-h),atV w (-h),atV (s-w) h] else
 if k=2 then [atV (-w-1) (-h-1),atV w (-h-1),atV (w+1) (-h),atV (w+1) h,atV (-w-1) h] else
 [atV (-w) 0,atV 0 (-h),atV w 0,atV 0 h]
def a1M (l:List Int):List Vt × List Int:=
 let w:=1+nx l 6
 let h:=1+nx (l.drop 1) 6
 let k:=nx (l.drop 2) 4
 if k=1 then (a1V w h k (nx (l.drop 3) (2*w+1)),l.drop 4) else (a1V w h k 0,l.drop 3)
def a5F (a lo hi sp br tri:Int):Lk:=
 ⟨Q (4+2*a) 4,Q (-1-lo) 3,Q (1+hi) 3,Q 1 (4+sp),Q 1 (10+br),if tri=2 then [atV (-1) (-1),atV (4+2*a+1) 0,atV (-1) 1] else a5I (-1) (-1) (4+2*a+1) 1⟩
def b3P (l:List Int):Lk:=a5F (nx l 4) (nx (l.drop 1) 6) (nx (l.drop 2) 6) (nx (l.drop 3) 8) (nx (l.drop 4) 20) (nx (l.drop 5) 3)
def a1u:Nat->List Int->List Lk
 | 0,_=>[]
 | n+1,l=>b3P l::a1u n (l.drop 6)
def a3B (k:Int):Int:=if k=0 then 0 else if k=2 then -1 else 1
def a4Y (n:Nat):List UInt8:=[[111,110,101],[116,119,111],[116,104,114,101,101],[102,111,117,114]].getD n []
def a4s (l:List Int):Nat:=(1+nx (l.drop 2) 3).toNat
def b1R (l:List Int) (n:Nat):Am:=⟨a4Y n,⟨Q (40*n) 4,Q 0 4,false,Q (a3B (nx l 4)) (1+nx (l.drop 1) 3)⟩,a1u (a4s l) (l.drop 3)⟩
def b2h (l:List Int):List Int:=l.drop (3+6*a4s l)
def a0C:Nat->Nat->List Int->List Am
 | 0,_,_=>[]
 | k+1,n,l=>b1R l n::a0C k (n+1) (b2h l)
def a6T:Nat->List Int->List Int
 | 0,l=>l
 | k+1,l=>a6T k (b2h l)
def a1n (l:List Int):Int:=if nx (l.drop 2) 2=1 then -(12+nx (l.drop 1) 30)-6 else 12+nx (l.drop 1) 30
def b3K (l:List Int):List Vt:=
 a5I (nx l 80-30) (a1n l) (nx l 80-30+1+nx (l.drop 3) 20) (a1n l+1+nx (l.drop 4) 5)
def a2g:Nat->List Int->List (List Vt)
 | 0,_=>[]
 | k+1,l=>b3K l::a2g k (l.drop 5)
def a4t (n:Nat):List UInt8:=[[98,111,108,116],[110,117,116]].getD n []
def c2W (l:List Int) (n:Nat):Pt:=⟨a4t n,(a1M l).1,⟨Q 0 4,Q 0 4,false,Q 0 1⟩⟩
def a0E:Nat->Nat->List Int->List Pt
 | 0,_,_=>[]
 | k+1,n,l=>c2W l n::a0E k (n+1) (a1M l).2
def a4M:Nat->List Int->List Int
 | 0,l=>l
 | k+1,l=>a4M k (a1M l).2
def a5N (n:Nat):List UInt8:=[[104,101,114,101],[116,104,101,114,101],[98,101,121,111,110,100]].getD n []
def b8m (l:List Int) (n:Nat):Sl:=⟨a5N n,⟨Q (nx l 40-20) 4,Q (nx (l.drop 1) 24-12) 4,false,Q (nx (l.drop 2) 5-2) 2⟩,Q 1 (8+nx (l.drop 3) 20)⟩
def a0F:Nat->Nat->List Int->List Sl
 | 0,_,_=>[]
 | k+1,n,l=>b8m l n::a0F k (n+1) (l.drop 4)
def b9i (l:List Int):Gt:=⟨[100,111,111,114],atV (nx l 60-30) (nx (l.drop 1) 60-30),atV (nx l 60-30+nx (l.drop 2) 12) (nx (l.drop 1) 60-30+nx (l.drop 3) 12)⟩
def a0G:Nat->List Int->List Gt
 | 0,_=>[]
 | k+1,l=>b9i l::a0G k (l.drop 4)
def nA (l:List Int):Nat:=(1+nx l 2).toNat
def l1 (l:List Int):List Int:=a6T (nA l) (l.drop 1)
def nW (l:List Int):Nat:=(nx (l1 l) 3).toNat
def l2 (l:List Int):List Int:=(l1 l).drop (1+5*nW l)
def nP (l:List Int):Nat:=(nx (l2 l) 3).toNat
def l3 (l:List Int):List Int:=a4M (nP l) ((l2 l).drop 1)
def nS (l:List Int):Nat:=nP l+(nx (l3 l) 2).toNat
def l4 (l:List Int):List Int:=(l3 l).drop (1+4*nS l)
def nG (l:List Int):Nat:=(nx (l4 l) 2).toNat
def l5 (l:List Int):List Int:=(l4 l).drop (1+4*nG l)
def u6 (l:List Int):Wk:=
 ⟨a0C (nA l) 0 (l.drop 1),a2g (nW l) ((l1 l).drop 1),a0E (nP l) 0 ((l2 l).drop 1),a0F (nS l) 0 ((l3 l).drop 1),a0G (nG l) ((l4 l).drop 1),Q (nx (l5 l) 4) 8⟩
theorem p8 (l:List Int) {n:Int} (h:0 < n):0<=nx l n:=Int.emod_nonneg _ (by omega)
theorem C9 (l:List Int) {n:Int} (h:0 < n):nx l n < n:=Int.emod_lt_of_pos _ h
set_option maxRecDepth 100000
theorem b0d (n d:Int) (hd:1<=d):∃ g:Nat,0 < g/\(∃ k:Int,n=g*k/\(mkRat n d.toNat).num=k)/\(mkRat n d.toNat).den<=d.toNat:=by
 have hd0:d.toNat ≠ 0:=by omega
 rw [Rat.num_mkRat,Rat.den_mkRat,if_neg hd0,if_neg hd0]
 have hg:0 < Nat.gcd d.toNat n.natAbs:=Nat.gcd_pos_of_pos_left _ (by omega)
 refine ⟨Nat.gcd d.toNat n.natAbs,hg,?_,Nat.div_le_self _ _⟩
 have hdv:((Nat.gcd d.toNat n.natAbs:Nat):Int) ∣ n:=Int.ofNat_dvd_left.2 (Nat.gcd_dvd_right ..)
 obtain ⟨k,hk⟩:=hdv
 refine ⟨k,hk,?_⟩
 conv=>lhs;arg 1;rw [hk]
 exact Int.mul_ediv_cancel_left _ (by omega)
theorem c1V (q:Rat):E9 q=q.num.sign:=by
 unfold E9
 by_cases h:q.num=0
 ·rw [if_pos h,h];rfl
 ·rw [if_neg h]
  by_cases h2:q.num < 0
  ·rw [if_pos h2,Int.sign_eq_neg_one_of_neg h2]
  ·rw [if_neg h2,Int.sign_eq_one_of_pos (by omega)]
theorem a6B (n d:Int) (hd:1<=d):E9 (mkRat n d.toNat)=n.sign:=by
 obtain ⟨g,hg,⟨k,h1,h2⟩,_⟩:=b0d n d hd
 rw [c1V,h2,h1,Int.sign_mul,Int.sign_eq_one_of_pos (show (0:Int) < (g:Int) by omega),Int.one_mul]
theorem U9 (n d:Int) (hn:-1000000<=n/\n<=1000000) (hd:1<=d/\d<=1000):l6 (Q n d)=true:=by
 obtain ⟨g,hg,⟨k,h1,h2⟩,h3⟩:=b0d n d hd.1
 have hk:k.natAbs<=1000000:=by
  have:n.natAbs=g*k.natAbs:=by rw [h1,Int.natAbs_mul];simp
  have:k.natAbs<=g*k.natAbs:=Nat.le_mul_of_pos_left _ hg
  omega
 unfold l6
 simp only [c7q,c7v]
 have e1:(Q n d).num=Nm.enc k.natAbs:=by unfold Q Nm.ofQ;rw [h2]
 have e2:(Q n d).den=Nm.enc (mkRat n d.toNat).den:=rfl
 rw [e1,e2,Nm.H7,Nm.H7]
 exact ⟨⟨⟨⟨Nm.G5 (by omega),Nm.G5 (by omega)⟩,Nm.a1H _⟩,hk⟩,by omega⟩
theorem a4F (n d:Int):(Q n d).H9:=Nm.a1H _
theorem a2L (n d:Int):Nm.d9 (Q n d)=mkRat n d.toNat:=Nm.q8 _
theorem a6m (a b:Int) {n:Nat} (hn:n ≠ 0):mkRat a n-mkRat b n=mkRat (a-b) n:=by
 rw [Rat.sub_eq_add_neg,Rat.neg_mkRat,Rat.mkRat_add_mkRat _ _ hn hn,<- Int.add_mul,Rat.mkRat_mul_right hn]
 rw [Int.sub_eq_add_neg]
theorem mk_pos (a:Int) {n:Nat} (hn:n ≠ 0):0 < mkRat a n <-> 0 < a:=by
 have h:=a6B a (n:Int) (by omega)
 rw [c7o] at h
 have hnp:0 < mkRat a n <-> 0 < (mkRat a n).num:=by
  rw [<- Rat.not_le,<- Int.not_le]
  refine not_congr ?_
  rw [Rat.le_iff]
  simp
 rw [hnp]
 unfold E9 at h
 rcases Int.lt_trichotomy a 0 with h1|h1|h1
 ·rw [Int.sign_eq_neg_one_of_neg h1] at h
  split at h
  ·cases h
  ·split at h
   ·omega
   ·cases h
 ·subst h1
  simp at h ⊢
 ·rw [Int.sign_eq_one_of_pos h1] at h
  split at h
  ·cases h
  ·split at h
   ·cases h
   ·omega
theorem b9L {a b:Int} {n:Nat} (hn:n ≠ 0) (h:a < b):Nm.q9 (mkRat a n) (mkRat b n)=-1:=by
 unfold Nm.q9
 rw [if_pos]
 have h1:=(mk_pos (b-a) hn).2 (by omega)
 rw [<- a6m b a hn] at h1
 grind
theorem c0Z {a b:Int} {n:Nat} (hn:n ≠ 0) (h:a<=b):Nm.q9 (mkRat a n) (mkRat b n)<=0:=by
 rcases Int.lt_or_eq_of_le h with h1|h1
 ·rw [b9L hn h1];decide
 ·subst h1
  unfold Nm.q9
  rw [if_neg (Rat.lt_irrefl),if_pos rfl]
  exact Int.le_refl _
def a7P (p q r:Int × Int):Int:=(q.1-p.1)*(r.2-p.2)-(q.2-p.2)*(r.1-p.1)
theorem left_at (p q r:Int × Int):a8J (atV p.1 p.2) (atV q.1 q.2) (atV r.1 r.2)=(a7P p q r).sign:=by
 unfold a8J atV a7P
 simp only [a2L]
 rw [show Int.toNat 4=4 from rfl,a6m _ _ (by decide),a6m _ _ (by decide),a6m _ _ (by decide),a6m _ _ (by decide),Rat.mkRat_mul_mkRat,Rat.mkRat_mul_mkRat,a6m _ _ (by decide)]
 exact a6B _ 16 (by decide)
def a8z (l:List (Int × Int)):Bool:=(List.range l.length).all fun i=>(List.range l.length).all fun k=>decide (k < 2) || decide (0 < a7P (l.getD i (0,0)) (l.getD ((i+1) % l.length) (0,0)) (l.getD ((i+k) % l.length) (0,0)))
def a4R (l:List (Int × Int)):List Vt:=l.map fun p=>atV p.1 p.2
theorem a9A (l:List (Int × Int)) (i:Nat) (h:i < l.length):(a4R l).getD i Vt.zero=atV (l.getD i (0,0)).1 (l.getD i (0,0)).2:=by
 rw [c7u,c7u,a4R,c7r,c7h h]
 rfl
theorem c3E (l:List (Int × Int)) (h3:3<=l.length) (h8:l.length<=8) (h:a8z l=true):L6 (a4R l) 8=0:=by
 have hl:(a4R l).length=l.length:=by simp [a4R]
 unfold L6
 rw [if_neg (by omega),if_neg (by omega),if_pos]
 rw [hl,<- h]
 unfold a8z
 have key:∀ i,i < l.length->∀ k,decide (0 < a2K (a4R l) i k)=decide (0 < a7P (l.getD i (0,0)) (l.getD ((i+1) % l.length) (0,0)) (l.getD ((i+k) % l.length) (0,0))):=by
  intro i hi k
  unfold a2K
  rw [hl,a9A l i hi,a9A l _ (Nat.mod_lt _ (by omega)),a9A l _ (Nat.mod_lt _ (by omega)),left_at]
  refine decide_eq_decide.2 ?_
  exact Int.sign_pos_iff
 rw [Bool.eq_iff_iff,List.all_eq_true,List.all_eq_true]
 refine forall_congr' fun i=>?_
 refine imp_congr_right fun hi=>?_
 rw [List.all_eq_true,List.all_eq_true]
 refine forall_congr' fun k=>?_
 refine imp_congr_right fun hk=>?_
 rw [key i (List.mem_range.1 hi) k]
theorem b9G (x y u v:Int) (h1:x < u) (h2:y < v):a8z [(x,y),(u,y),(u,v),(x,v)]=true:=by
 have hp:0 < (u-x)*(v-y):=Int.mul_pos (by omega) (by omega)
 unfold a8z
 simp only [c7A,List.length_nil,show List.range (0+1+1+1+1)=[0,1,2,3] from rfl,List.all_cons,List.all_nil,Bool.and_true,c7q,c7Y,c7v]
 refine ⟨⟨.inl (by decide),.inl (by decide),.inr ?_,.inr ?_⟩,⟨.inl (by decide),.inl (by decide),.inr ?_,.inr ?_⟩,⟨.inl (by decide),.inl (by decide),.inr ?_,.inr ?_⟩,⟨.inl (by decide),.inl (by decide),.inr ?_,.inr ?_⟩⟩ <;>
 ·simp [a7P]
  grind
theorem b0b (l:List (Int × Int)) (h3:3<=l.length) (h8:l.length<=8) (h:a8z l=true) (hb:∀ p ∈ l,(-1000000<=p.1/\p.1<=1000000)/\-1000000<=p.2/\p.2<=1000000):K8 (a4R l)=0/\(a4R l).all (fun v=>l6 v.x && l6 v.y)=true:=by
 have hs:∀ v ∈ a4R l,l6 v.x=true/\l6 v.y=true/\v.x.H9/\v.y.H9:=by
  intro v hv
  obtain ⟨p,hp,rfl⟩:=List.mem_map.1 hv
  have:=hb p hp
  exact ⟨U9 _ _ this.1 (by decide),U9 _ _ this.2 (by decide),a4F _ _,a4F _ _⟩
 refine ⟨?_,?_⟩
 ·unfold K8
  rw [c3E l h3 h8 h,if_neg (by decide),if_pos]
  rw [List.all_eq_true]
  intro v hv
  obtain ⟨a1,a2,a3,a4⟩:=hs v hv
  unfold okV
  simp [a1,a2,a3,a4]
 ·rw [List.all_eq_true]
  intro v hv
  obtain ⟨a1,a2,a3,a4⟩:=hs v hv
  simp [a1,a2]
def a2G (w h k s:Int):List (Int × Int):=
 if k=0 then [(-w,-h),(w,-h),(w,h),(-w,h)] else
 if k=1 then [(-w,-h),(w,-h),(s-w,h)] else
 if k=2 then [(-w-1,-h-1),(w,-h-1),(w+1,-h),(w+1,h),(-w-1,h)] else
 [(-w,0),(0,-h),(w,0),(0,h)]
theorem c0v (w h k s:Int):a1V w h k s=a4R (a2G w h k s):=by
 unfold a1V a2G
 split
 ·rfl
 split
 ·rfl
 split<;>rfl
theorem c0z:∀ w h:Fin 6,∀ k:Fin 4,∀ s:Fin 13,(s:Nat)<=2*(w+1:Nat)->a8z (a2G ((w:Nat)+1:Int) ((h:Nat)+1:Int) ((k:Nat):Int) ((s:Nat):Int))=true:=by decide +kernel
theorem c2h (w h k s:Int):3<=(a2G w h k s).length/\(a2G w h k s).length<=8:=by
 unfold a2G
 split
 ·simp
 split
 ·simp
 split<;>simp
theorem b7P {w h k s:Int} (hw:1<=w/\w<=6) (hh:1<=h/\h<=6) (hs:0<=s/\s<=12):∀ p ∈ a2G w h k s,(-1000000<=p.1/\p.1<=1000000)/\-1000000<=p.2/\p.2<=1000000:=by
 unfold a2G
 intro p hp
 split at hp
 ·simp at hp;rcases hp with rfl|rfl|rfl|rfl<;>simp only<;>omega
 split at hp
 ·simp at hp;rcases hp with rfl|rfl|rfl<;>simp only<;>omega
 split at hp
 ·simp at hp;rcases hp with rfl|rfl|rfl|rfl|rfl<;>simp only<;>omega
 ·simp at hp;rcases hp with rfl|rfl|rfl|rfl<;>simp only<;>omega
theorem b5y {w h k s:Int} (hw:1<=w/\w<=6) (hh:1<=h/\h<=6) (hk:0<=k/\k<=3) (hs:0<=s/\s<=2*w):K8 (a1V w h k s)=0/\(a1V w h k s).length<=8:=by
 have hc:=c0z ⟨(w-1).toNat,by omega⟩ ⟨(h-1).toNat,by omega⟩ ⟨k.toNat,by omega⟩ ⟨s.toNat,by omega⟩ (by simp only;omega)
 simp only at hc
 rw [show (((w-1).toNat:Nat)+1:Int)=w by omega,show (((h-1).toNat:Nat)+1:Int)=h by omega,show ((k.toNat:Nat):Int)=k by omega,show ((s.toNat:Nat):Int)=s by omega] at hc
 rw [c0v]
 obtain ⟨l1,l2⟩:=c2h w h k s
 exact ⟨(b0b _ l1 l2 hc (b7P hw hh (by omega))).1,by simpa [a4R] using l2⟩
theorem b5n (l:List Int):K8 (a1M l).1=0/\(a1M l).1.length<=8:=by
 have b1:=p8 l (n:=6) (by decide)
 have b2:=C9 l (n:=6) (by decide)
 have b3:=p8 (l.drop 1) (n:=6) (by decide)
 have b4:=C9 (l.drop 1) (n:=6) (by decide)
 have b5:=p8 (l.drop 2) (n:=4) (by decide)
 have b6:=C9 (l.drop 2) (n:=4) (by decide)
 unfold a1M
 simp only
 split
 ·rename_i h
  have b7:=p8 (l.drop 3) (n:=2*(1+nx l 6)+1) (by omega)
  have b8:=C9 (l.drop 3) (n:=2*(1+nx l 6)+1) (by omega)
  exact b5y (by omega) (by omega) (by omega) (by omega)
 ·exact b5y (by omega) (by omega) (by omega) (by omega)
theorem b6X {x y u v:Int} (h1:x < u) (h2:y < v) (hb:-1000000<=x/\u<=1000000/\-1000000<=y/\v<=1000000):K8 (a5I x y u v)=0/\(a5I x y u v).all (fun v=>l6 v.x && l6 v.y)=true:=
 b0b [(x,y),(u,y),(u,v),(x,v)] (by simp) (by simp) (b9G x y u v h1 h2) (fun p hp=>by simp at hp;rcases hp with rfl|rfl|rfl|rfl<;>simp only<;>omega)
theorem a5P {l:List Vt} (h:K8 l=0):L6 l 8=0:=by
 unfold K8 at h
 split at h
 ·rename_i h1;exact absurd h h1
 ·rename_i h1;exact Classical.not_not.1 h1
theorem c3C {a lo hi sp br tri:Int} (ha:0<=a/\a < 4) (h1:0<=lo/\lo < 6) (h2:0<=hi/\hi < 6) (h3:0<=sp/\sp < 8) (h4:0<=br/\br < 20):O6 (a5F a lo hi sp br tri)=0:=by
 have hs:∀ n d:Int,0 < n->1<=d->E9 (Nm.d9 (Q n d))=1:=fun n d hn hd=>by rw [a2L,a6B _ _ hd,Int.sign_eq_one_of_pos hn]
 have hsh:K8 (a5F a lo hi sp br tri).shape=0/\(a5F a lo hi sp br tri).shape.all (fun v=>l6 v.x && l6 v.y)=true:=by
  unfold a5F
  simp only
  split
  ·refine b0b [(-1,-1),(4+2*a+1,0),(-1,1)] (by simp) (by simp) ?_ (fun p hp=>by simp at hp;rcases hp with rfl|rfl|rfl<;>simp only<;>omega)
   have:a=0 \/ a=1 \/ a=2 \/ a=3:=by omega
   rcases this with rfl|rfl|rfl|rfl<;>decide
  ·exact b6X (by omega) (by omega) (by omega)
 have hpe:=a5P hsh.1
 unfold O6
 rw [hpe,hsh.2,if_neg,if_neg,if_neg (by decide),if_pos rfl]
 ·unfold a5F
  simp only
  rw [hs 1 (4+sp) (by decide) (by omega),hs 1 (10+br) (by decide) (by omega)]
  decide
 ·unfold a5F
  simp only
  rw [U9 _ _ (by omega) (by omega),U9 _ _ (by omega) (by omega),U9 _ _ (by omega) (by omega),U9 _ _ (by omega) (by omega),U9 _ _ (by omega) (by omega),hs (4+2*a) 4 (by omega) (by decide),a2L,a2L,b9L (by decide) (by omega)]
  decide
theorem a9H:∀ (n:Nat) (l:List Int),I5 O6 (a1u n l)=0/\(a1u n l).length=n
 | 0,_=>⟨rfl,rfl⟩
 | n+1,l=>by
  have h:=c3C (a:=nx l 4) (lo:=nx (l.drop 1) 6) (hi:=nx (l.drop 2) 6) (sp:=nx (l.drop 3) 8) (br:=nx (l.drop 4) 20) (tri:=nx (l.drop 5) 3)
   ⟨p8 _ (by decide),C9 _ (by decide)⟩ ⟨p8 _ (by decide),C9 _ (by decide)⟩ ⟨p8 _ (by decide),C9 _ (by decide)⟩ ⟨p8 _ (by decide),C9 _ (by decide)⟩ ⟨p8 _ (by decide),C9 _ (by decide)⟩
  have e:O6 (b3P l)=0:=h
  simp only [a1u,I5,c7A]
  rw [if_pos e]
  exact ⟨(a9H n _).1,by rw [(a9H n _).2]⟩
theorem b8A (k:Int):-1<=a3B k/\a3B k<=1:=by unfold a3B;split;omega;split<;>omega
theorem c5k (l:List Int) (n:Nat) (hn:n<=3):J3 (b1R l n)=0:=by
 have a3:=p8 (l.drop 1) (n:=3) (by decide)
 have a4:=C9 (l.drop 1) (n:=3) (by decide)
 have a5:=p8 (l.drop 2) (n:=3) (by decide)
 have a6:=C9 (l.drop 2) (n:=3) (by decide)
 have ht:=b8A (nx l 4)
 obtain ⟨g1,g2⟩:=a9H (a4s l) (l.drop 3)
 have hc:a4s l=(1+nx (l.drop 2) 3).toNat:=rfl
 have hnm:a1P (a4Y n)=true:=by
  have:n=0 \/ n=1 \/ n=2 \/ n=3:=by omega
  rcases this with rfl|rfl|rfl|rfl<;>decide
 unfold J3 b1R
 simp only
 rw [g1,hnm,if_neg (by decide),if_neg (by rw [g2];omega),if_neg]
 rw [g2,U9 _ _ (by omega) (by decide),U9 _ _ (by omega) (by decide),U9 _ _ (by omega) (by omega)]
 rintro (h|h|h)
 ·omega
 ·cases h
 ·cases h
theorem b4T:∀ (l:List Am) (n:Nms),(∀ a ∈ l,J3 a=0)->u7 a2r n l=u7 M5 n (l.map Am.name)
 | [],_,_=>rfl
 | a::l,n,h=>by
  have h0:=h a (by simp)
  have e:a2r n a=M5 n a.name:=by unfold a2r;rw [h0,if_neg (by decide)]
  simp only [u7,c7w,e]
  split
  ·exact b4T l _ fun x hx=>h x (by simp [hx])
  ·rfl
theorem b3f:∀ (l:List Pt) (n:Nms),(∀ a ∈ l,K8 a.shape=0/\okF a.grasp=true)->u7 a0V n l=u7 M5 n (l.map Pt.name)
 | [],_,_=>rfl
 | a::l,n,h=>by
  obtain ⟨h0,h1⟩:=h a (by simp)
  have e:a0V n a=M5 n a.name:=by
   unfold a0V
   by_cases h2:(M5 n a.name).1=0
   ·rw [if_neg (by rw [h2];decide),h0,if_neg (by decide),h1,if_pos rfl]
    rw [<- h2]
   ·rw [if_pos h2]
  simp only [u7,c7w,e]
  split
  ·exact b3f l _ fun x hx=>h x (by simp [hx])
  ·rfl
theorem b2K:∀ (l:List Sl) (n:Nms),(∀ s ∈ l,(okF s.frame && decide s.within.H9 && l6 s.within && decide (0 < E9 (Nm.d9 s.within)))=true)->u7 a0T n l=u7 M5 n (l.map Sl.name)
 | [],_,_=>rfl
 | a::l,n,h=>by
  have h1:=h a (by simp)
  have e:a0T n a=M5 n a.name:=by
   unfold a0T
   by_cases h2:(M5 n a.name).1=0
   ·rw [if_neg (by rw [h2];decide),h1,if_pos rfl]
    rw [<- h2]
   ·rw [if_pos h2]
  simp only [u7,c7w,e]
  split
  ·exact b2K l _ fun x hx=>h x (by simp [hx])
  ·rfl
theorem b3t:∀ (l:List Gt) (n:Nms),(∀ g ∈ l,(okV g.low && okV g.high && decide (Nm.q9 (Nm.d9 g.low.x) (Nm.d9 g.high.x)<=0) && decide (Nm.q9 (Nm.d9 g.low.y) (Nm.d9 g.high.y)<=0))=true)->u7 a0R n l=u7 M5 n (l.map Gt.name)
 | [],_,_=>rfl
 | a::l,n,h=>by
  have h1:=h a (by simp)
  have e:a0R n a=M5 n a.name:=by
   unfold a0R
   by_cases h2:(M5 n a.name).1=0
   ·rw [if_neg (by rw [h2];decide),h1,if_pos rfl]
    rw [<- h2]
   ·rw [if_pos h2]
  simp only [u7,c7w,e]
  split
  ·exact b3t l _ fun x hx=>h x (by simp [hx])
  ·rfl
theorem a1U {α:Type} {f:α->Int}:∀ {l:List α},(∀ x ∈ l,f x=0)->I5 f l=0
 | [],_=>rfl
 | x::l,h=>by rw [I5,if_pos (h x (by simp))];exact a1U fun y hy=>h y (by simp [hy])
theorem a7h:∀ (c n:Nat) (l:List Int),n+c<=4->∀ a ∈ a0C c n l,J3 a=0
 | 0,_,_,_,a,ha=>by cases ha
 | c+1,n,l,h,a,ha=>by
  rcases List.mem_cons.1 ha with rfl|ha
  ·exact c5k l n (by omega)
  ·exact a7h c (n+1) _ (by omega) a ha
theorem a9g:∀ (c n:Nat) (l:List Int),(a0C c n l).map Am.name=(List.range c).map fun i=>a4Y (n+i)
 | 0,_,_=>rfl
 | c+1,n,l=>by
  rw [a0C,c7w,a9g c,List.range_succ_eq_map,c7w,List.map_map]
  congr 1
  refine List.map_congr_left fun i _=>?_
  simp only [Function.comp]
  congr 1
  omega
theorem a7G:∀ (c n:Nat) (l:List Int),(a0C c n l).length=c
 | 0,_,_=>rfl
 | c+1,n,l=>by rw [a0C,c7A,a7G]
theorem c2a (l:List Int):K8 (b3K l)=0/\(b3K l).all (fun v=>l6 v.x && l6 v.y)=true:=by
 have a1:=p8 l (n:=80) (by decide)
 have a2:=C9 l (n:=80) (by decide)
 have a3:=p8 (l.drop 1) (n:=30) (by decide)
 have a4:=C9 (l.drop 1) (n:=30) (by decide)
 have a5:=p8 (l.drop 3) (n:=20) (by decide)
 have a6:=C9 (l.drop 3) (n:=20) (by decide)
 have a7:=p8 (l.drop 4) (n:=5) (by decide)
 have a8:=C9 (l.drop 4) (n:=5) (by decide)
 have hy:-1000<=a1n l/\a1n l<=1000:=by unfold a1n;split<;>omega
 exact b6X (by omega) (by omega) (by omega)
theorem a5A:∀ (c:Nat) (l:List Int),(∀ x ∈ a2g c l,K8 x=0/\x.all (fun v=>l6 v.x && l6 v.y)=true)/\(a2g c l).length=c
 | 0,_=>⟨fun x hx=>(by cases hx),rfl⟩
 | c+1,l=>by
  refine ⟨fun x hx=>?_,by rw [a2g,c7A,(a5A c _).2]⟩
  rcases List.mem_cons.1 hx with rfl|hx
  ·exact c2a l
  ·exact (a5A c _).1 x hx
theorem b8g {a b c d:Int} (ha:-1000000<=a/\a<=1000000) (hb:1<=b/\b<=1000) (hc:-1000000<=c/\c<=1000000) (hd:1<=d/\d<=1000):okV ⟨Q a b,Q c d⟩=true:=by
 unfold okV
 simp only [U9 _ _ ha hb,U9 _ _ hc hd,decide_eq_true (a4F a b),decide_eq_true (a4F c d),Bool.and_self]
theorem c2T {a c e f:Int} (ha:-1000000<=a/\a<=1000000) (hc:-1000000<=c/\c<=1000000) (he:-1000000<=e/\e<=1000000) (hf:1<=f/\f<=1000):okF ⟨Q a 4,Q c 4,false,Q e f⟩=true:=by
 unfold okF a5w
 simp only [b8g ha (show (1:Int)<=4/\(4:Int)<=1000 by decide) hc (show (1:Int)<=4/\(4:Int)<=1000 by decide),U9 _ _ he hf,decide_eq_true (a4F e f),Bool.false_and,Bool.not_false,Bool.and_self]
theorem a8e:∀ (c n:Nat) (l:List Int),(∀ p ∈ a0E c n l,(K8 p.shape=0/\okF p.grasp=true)/\p.shape.length<=8)/\(a0E c n l).length=c/\(a0E c n l).map Pt.name=(List.range c).map fun i=>a4t (n+i)
 | 0,_,_=>⟨fun x hx=>(by cases hx),rfl,rfl⟩
 | c+1,n,l=>by
  obtain ⟨h1,h2,h3⟩:=a8e c (n+1) (a1M l).2
  refine ⟨fun x hx=>?_,by rw [a0E,c7A,h2],?_⟩
  ·rcases List.mem_cons.1 hx with rfl|hx
   ·exact ⟨⟨(b5n l).1,c2T (by decide) (by decide) (by decide) (by decide)⟩,(b5n l).2⟩
   ·exact h1 x hx
  ·rw [a0E,c7w,h3,List.range_succ_eq_map,c7w,List.map_map]
   congr 1
   refine List.map_congr_left fun i _=>?_
   simp only [Function.comp]
   congr 1
   omega
theorem a5r:∀ (c n:Nat) (l:List Int),(∀ s ∈ a0F c n l,(okF s.frame && decide s.within.H9 && l6 s.within && decide (0 < E9 (Nm.d9 s.within)))=true)/\(a0F c n l).length=c/\(a0F c n l).map Sl.name=(List.range c).map fun i=>a5N (n+i)
 | 0,_,_=>⟨fun x hx=>(by cases hx),rfl,rfl⟩
 | c+1,n,l=>by
  obtain ⟨h1,h2,h3⟩:=a5r c (n+1) (l.drop 4)
  have a1:=p8 l (n:=40) (by decide)
  have a2:=C9 l (n:=40) (by decide)
  have a3:=p8 (l.drop 1) (n:=24) (by decide)
  have a4:=C9 (l.drop 1) (n:=24) (by decide)
  have a5:=p8 (l.drop 2) (n:=5) (by decide)
  have a6:=C9 (l.drop 2) (n:=5) (by decide)
  have a7:=p8 (l.drop 3) (n:=20) (by decide)
  have a8:=C9 (l.drop 3) (n:=20) (by decide)
  refine ⟨fun x hx=>?_,by rw [a0F,c7A,h2],?_⟩
  ·rcases List.mem_cons.1 hx with rfl|hx
   ·unfold b8m
    simp only
    rw [c2T (by omega) (by omega) (by omega) (by decide),U9 _ _ (by decide) (by omega),decide_eq_true (a4F _ _),a2L,a6B _ _ (by omega)]
    decide
   ·exact h1 x hx
  ·rw [a0F,c7w,h3,List.range_succ_eq_map,c7w,List.map_map]
   congr 1
   refine List.map_congr_left fun i _=>?_
   simp only [Function.comp]
   congr 1
   omega
theorem a7R:∀ (c:Nat) (l:List Int),(∀ g ∈ a0G c l,(okV g.low && okV g.high && decide (Nm.q9 (Nm.d9 g.low.x) (Nm.d9 g.high.x)<=0) && decide (Nm.q9 (Nm.d9 g.low.y) (Nm.d9 g.high.y)<=0))=true)/\(a0G c l).length=c/\(a0G c l).map Gt.name=List.replicate c [100,111,111,114]
 | 0,_=>⟨fun x hx=>(by cases hx),rfl,rfl⟩
 | c+1,l=>by
  obtain ⟨h1,h2,h3⟩:=a7R c (l.drop 4)
  have a1:=p8 l (n:=60) (by decide)
  have a2:=C9 l (n:=60) (by decide)
  have a3:=p8 (l.drop 1) (n:=60) (by decide)
  have a4:=C9 (l.drop 1) (n:=60) (by decide)
  have a5:=p8 (l.drop 2) (n:=12) (by decide)
  have a6:=C9 (l.drop 2) (n:=12) (by decide)
  have a7:=p8 (l.drop 3) (n:=12) (by decide)
  have a8:=C9 (l.drop 3) (n:=12) (by decide)
  refine ⟨fun x hx=>?_,by rw [a0G,c7A,h2],?_⟩
  ·rcases List.mem_cons.1 hx with rfl|hx
   ·unfold b9i atV
    simp only
    rw [b8g (by omega) (by decide) (by omega) (by decide),b8g (by omega) (by decide) (by omega) (by decide),a2L,a2L,a2L,a2L,decide_eq_true (c0Z (by decide) (by omega)),decide_eq_true (c0Z (by decide) (by omega))]
    decide
   ·exact h1 x hx
  ·rw [a0G,c7w,h3,List.replicate_succ]
   rfl
theorem counts (l:List Int):(1<=nA l/\nA l<=2)/\nW l<=2/\nP l<=2/\(nP l<=nS l/\nS l<=nP l+1)/\nG l<=1:=by
 have a1:=p8 l (n:=2) (by decide)
 have a2:=C9 l (n:=2) (by decide)
 have a3:=p8 (l1 l) (n:=3) (by decide)
 have a4:=C9 (l1 l) (n:=3) (by decide)
 have a5:=p8 (l2 l) (n:=3) (by decide)
 have a6:=C9 (l2 l) (n:=3) (by decide)
 have a7:=p8 (l3 l) (n:=2) (by decide)
 have a8:=C9 (l3 l) (n:=2) (by decide)
 have a9:=p8 (l4 l) (n:=2) (by decide)
 have a10:=C9 (l4 l) (n:=2) (by decide)
 unfold nS
 unfold nA nW nP nG
 omega
theorem c2z:∀ a w p s g:Nat,(1<=a/\a<=2)->p<=2->(p<=s/\s<=p+1)->g<=1 ->
  (u7 M5 [] ((List.range a).map fun i=>a4Y (0+i))).1=0 /\
  (u7 M5 (u7 M5 [] ((List.range a).map fun i=>a4Y (0+i))).2 ((List.range p).map fun i=>a4t (0+i))).1=0 /\
  (u7 M5 (u7 M5 (u7 M5 [] ((List.range a).map fun i=>a4Y (0+i))).2 ((List.range p).map fun i=>a4t (0+i))).2 ((List.range s).map fun i=>a5N (0+i))).1=0 /\
  (u7 M5 (u7 M5 (u7 M5 (u7 M5 [] ((List.range a).map fun i=>a4Y (0+i))).2 ((List.range p).map fun i=>a4t (0+i))).2 ((List.range s).map fun i=>a5N (0+i))).2 (List.replicate g [100,111,111,114])).1=0:=by
 intro a w p s g ha hp hs hg
 have h1:a=1 \/ a=2:=by omega
 have h2:p=0 \/ p=1 \/ p=2:=by omega
 have h3:s=p \/ s=p+1:=by omega
 have h4:g=0 \/ g=1:=by omega
 rcases h1 with rfl|rfl<;>rcases h2 with rfl|rfl|rfl<;>rcases h3 with rfl|rfl<;>rcases h4 with rfl|rfl<;>decide
theorem a6J (l:List Int):a0b (u6 l)=0:=by
 obtain ⟨c1,c2,c3,c4,c5⟩:=counts l
 have x1:=a7h (nA l) 0 (l.drop 1) (by omega)
 have x2:=a5A (nW l) ((l1 l).drop 1)
 have x3:=a8e (nP l) 0 ((l2 l).drop 1)
 have x4:=a5r (nS l) 0 ((l3 l).drop 1)
 have x5:=a7R (nG l) ((l4 l).drop 1)
 have hn:=c2z (nA l) 0 (nP l) (nS l) (nG l) c1 c3 c4 c5
 have a1:=p8 (l5 l) (n:=4) (by decide)
 have a2:=C9 (l5 l) (n:=4) (by decide)
 have hw:b3M (Q (nx (l5 l) 4) 8)=0:=by
  unfold b3M
  rw [U9 _ _ (by omega) (by decide),decide_eq_true (a4F _ _),a2L,a6B _ _ (by decide)]
  have:0<=(nx (l5 l) 4).sign:=by
   rcases Int.lt_or_eq_of_le a1 with h|h
   ·rw [Int.sign_eq_one_of_pos h];decide
   ·rw [<- h];decide
  simp [this]
 have hL:a8m (u6 l)=[0,0,0,0,0]:=by
  unfold a8m u6
  simp only
  rw [b4T _ _ x1,a9g,b3f _ _ (fun a ha=>(x3.1 a ha).1),x3.2.2,b2K _ _ x4.1,x4.2.2,b3t _ _ x5.1,x5.2.2,a1U (fun a ha=>(x2.1 a ha).1),hn.1,hn.2.1,hn.2.2.1,hn.2.2.2]
 unfold a0b
 rw [hL]
 have l1':(u6 l).arms.length=nA l:=a7G ..
 have l2':(u6 l).walls.length=nW l:=x2.2
 have l3':(u6 l).parts.length=nP l:=x3.2.1
 have l4':(u6 l).slots.length=nS l:=x4.2.1
 have l5':(u6 l).gates.length=nG l:=x5.2.1
 rw [if_neg (by omega),if_neg (by omega),if_neg (by decide)]
 exact hw
set_option maxRecDepth 10000
theorem b9Z {l:List Vt} {most i k:Nat} (h1:¬ most < l.length) (h2:¬ l.length < 3) (hi:i < l.length) (hk2:2<=k) (hk:k < l.length) (h:¬ 0 < a2K l i k):L6 l most=3:=by
 unfold L6
 rw [if_neg h1,if_neg h2,if_neg]
 intro ha
 rw [List.all_eq_true] at ha
 have h3:=ha i (List.mem_range.2 hi)
 rw [List.all_eq_true] at h3
 have h4:=h3 k (List.mem_range.2 hk)
 rw [c7Y,c7v,c7v] at h4
 omega
theorem b8h {l:List Vt} {most:Nat} (h1:¬ most < l.length) (h2:¬ l.length < 3) (h:∀ i,i < l.length->∀ k,2<=k->k < l.length->0 < a2K l i k):L6 l most=0:=by
 unfold L6
 rw [if_neg h1,if_neg h2,if_pos]
 rw [List.all_eq_true]
 intro i hi
 rw [List.all_eq_true]
 intro k hk
 rw [c7Y,c7v,c7v]
 rcases c7D k 2 with h3|h3
 ·exact .inl h3
 ·exact .inr (h i (List.mem_range.1 hi) k h3 (List.mem_range.1 hk))
theorem b9q {l:List Vt} {i k:Nat} {x y z:Vt} (hx:l[i]?=some x) (hy:l[(i+1) % l.length]?=some y) (hz:l[(i+k) % l.length]?=some z):a2K l i k=a8J x y z:=by
 unfold a2K
 rw [c7u,c7u,c7u,hx,hy,hz]
 rfl
theorem c2p (i k n:Nat):Int.tmod ((i:Int)+(k:Int)) (n:Int)=(((i+k) % n:Nat):Int):=rfl
theorem tmod_one (i n:Nat):Int.tmod ((i:Int)+1) (n:Int)=(((i+1) % n:Nat):Int):=rfl
theorem c5G (v:Vt):v.enc.length=6:=rfl
theorem b5Q (l:List Vt) (most:Nat) (hl:Vbs 1073741824 l) (hm:most<=1000000):FZ 171 [vts l,ints most] (ints (L6 l most)):=by
 refine kW b3H b3D (by rfl) fun w O hw=>?_
 obtain ⟨hn,hb⟩:=hl
 simp only [a7o,j5,TT,II,OA,OB,MM,LL,ints,vts]
 (repeat first|refine uA ?_|(refine uK ?_ ?_;focus first|omega|trivial|(intros;simp_all<;>omega))|simp (disch:=omega) only [go_sem,Nat.reduceBEq,Nat.reduceAdd,c7i])
 (refine uJ rfl (fun hc=>?_) fun hc=>?_)
 ·have he:L6 l most=2:=by unfold L6;rw [if_pos (by omega)]
  rw [he]
  (repeat first|refine uA ?_|(refine uK ?_ ?_;focus first|omega|trivial|(intros;simp_all<;>omega))|simp (disch:=omega) only [go_sem])
  exact S.done (j3.out rfl (Imp.refl rfl) rfl)
 have h1:¬ most < l.length:=by omega
 (repeat first|refine uA ?_|(refine uK ?_ ?_;focus first|omega|trivial|(intros;simp_all<;>omega))|simp (disch:=omega) only [go_sem,Nat.reduceBEq])
 (refine uJ rfl (fun hc=>?_) fun hc=>?_)
 ·have he:L6 l most=3:=by unfold L6;rw [if_neg h1,if_pos (by omega)]
  rw [he]
  (repeat first|refine uA ?_|(refine uK ?_ ?_;focus first|omega|trivial|(intros;simp_all<;>omega))|simp (disch:=omega) only [go_sem])
  exact S.done (j3.out rfl (Imp.refl rfl) rfl)
 have h2:¬ l.length < 3:=by omega
 (repeat first|refine uA ?_|(refine uK ?_ ?_;focus first|omega|trivial|(intros;simp_all<;>omega))|simp (disch:=omega) only [go_sem,Nat.reduceBEq,c7i])
 refine S.loop (X:=Nat) (fun i=>⟨[(0,vts l),(5,ints l.length),(18,vts l),(19,ints l.length),(20,ints i)],[]⟩)
  (fun i=>i<=l.length/\∀ j,j < i->∀ k,2<=k->k < l.length->0 < a2K l j k) (fun i=>l.length-i) 0 ⟨c7n _,fun _ h=>absurd h (Nat.not_lt_zero _)⟩ (by (repeat first|refine uA ?_|(refine ⟨?_,?_⟩;focus first|rfl|trivial|(simp [slot];done))|rfl|trivial|simp)) ?_
 rintro i ⟨hi,hg⟩
 simp only [ints,vts] at hi ⊢
 (repeat first|refine uA ?_|(refine uK ?_ ?_;focus first|omega|trivial|(intros;simp_all<;>omega))|simp (disch:=omega) only [go_sem,Nat.reduceBEq])
 (refine uJ rfl (fun hc=>?_) fun hc=>?_)
 ·have hi':i < l.length:=by omega
  have hgi:=c7h hi'
  generalize l[i]=x at hgi
  (repeat first|refine uA ?_|(refine uK ?_ ?_;focus first|omega|trivial|(intros;simp_all<;>omega))|simp (disch:=omega) only [go_sem,Nat.reduceBEq,Nat.reduceAdd,Nat.reduceLeDiff,hgi,c7j,c7i,c5G])
  refine S.loop (X:=Nat) (fun k=>⟨[(0,vts l),(5,ints l.length),(6,ints i),(7,.bp 0 0),(8,ints k),(18,vts l),(19,ints l.length),(20,ints i)],[.box 59 x.enc]⟩)
   (fun k=>2<=k/\k<=l.length/\∀ k',2<=k'->k' < k->0 < a2K l i k') (fun k=>l.length-k) 2 ⟨c7p _,by omega,fun _ h h'=>by omega⟩ (by (repeat first|refine uA ?_|(refine ⟨?_,?_⟩;focus first|rfl|trivial|(simp [slot];done))|rfl|trivial|simp)) ?_
  rintro k ⟨hk2,hk,hgk⟩
  simp only [ints,vts] at hk ⊢
  (repeat first|refine uA ?_|(refine uK ?_ ?_;focus first|omega|trivial|(intros;simp_all<;>omega))|simp (disch:=omega) only [go_sem,Nat.reduceBEq])
  (refine uJ rfl (fun hc=>?_) fun hc=>?_)
  ·have hk':k < l.length:=by omega
   have hy:=c7h (show (i+1) % l.length < l.length from Nat.mod_lt _ (by omega))
   have hz:=c7h (show (i+k) % l.length < l.length from Nat.mod_lt _ (by omega))
   have hylt:(i+1) % l.length < l.length:=Nat.mod_lt _ (by omega)
   have hzlt:(i+k) % l.length < l.length:=Nat.mod_lt _ (by omega)
   generalize l[(i+1) % l.length]'_=y at hy
   generalize l[(i+k) % l.length]'_=z at hz
   have hla:=b9q hgi hy hz
   have hcall:=c4K x y z (hb x (c7k hgi)) (hb y (c7k hy)) (hb z (c7k hz))
   rw [<- hla] at hcall
   simp only [Vt.c,Vt.enc,sb,ints] at hcall
   (repeat first|refine uA ?_|(refine uK ?_ ?_;focus first|omega|trivial|(intros;simp_all<;>omega))|simp (disch:=omega) only [go_sem,Nat.reduceBEq,Nat.reduceAdd,Nat.reduceLeDiff,ww,hy,hz,c7j,c2p,tmod_one,c7i,Vt.enc,sb,c7o]|(refine uD hcall ?_ ?_ ?_;exact tz hw;exact rfl))
   (refine uJ rfl (fun hc=>?_) fun hc=>?_)
   ·rw [b9Z h1 h2 hi' hk2 hk' (by omega)]
    (repeat first|refine uA ?_|(refine uK ?_ ?_;focus first|omega|trivial|(intros;simp_all<;>omega))|simp (disch:=omega) only [go_sem])
    exact S.done (j3.out rfl (Imp.refl rfl) rfl)
   ·(repeat first|refine uA ?_|(refine uK ?_ ?_;focus first|omega|trivial|(intros;simp_all<;>omega))|simp (disch:=omega) only [go_sem,Nat.reduceBEq,ww])
    refine S.next (k+1) ⟨by omega,by omega,fun k' hk1 hk3=>?_⟩ (by omega) (by (repeat first|refine uA ?_|(refine ⟨?_,?_⟩;focus first|rfl|trivial|(simp [slot];done))|rfl|trivial|simp))
    rcases c7D k' k with h|h
    ·exact hgk k' hk1 h
    ·have:k'=k:=by omega
     subst this
     omega
  ·have hk':k=l.length:=by omega
   subst hk'
   (repeat first|refine uA ?_|(refine uK ?_ ?_;focus first|omega|trivial|(intros;simp_all<;>omega))|simp (disch:=omega) only [go_sem,Nat.reduceBEq,ww])
   refine S.next (i+1) ⟨by omega,fun j hj=>?_⟩ (by omega) (by (repeat first|refine uA ?_|(refine ⟨?_,?_⟩;focus first|rfl|trivial|(simp [slot];done))|rfl|trivial|simp))
   rcases c7D j i with h|h
   ·exact hg j h
   ·have:j=i:=by omega
    subst this
    exact hgk
 ·have hi':i=l.length:=by omega
  subst hi'
  rw [b8h h1 h2 hg]
  (repeat first|refine uA ?_|(refine uK ?_ ?_;focus first|omega|trivial|(intros;simp_all<;>omega))|simp (disch:=omega) only [go_sem])
  exact S.done (j3.out rfl (Imp.refl rfl) rfl)
theorem a8V (l:List Vt) (hl:Vbs 1073741824 l):FZ 139 [vts l] (ints (L6 l 8)):=by
 refine kW Tryz.func139 (by cbv) (by rfl) fun w O hw=>?_
 have h:=b5Q l 8 hl (by decide)
 simp only [j5,TT,II,OA,MM]
 simp only [vts,ints] at *
 generalize L6 l 8=e at *
 rw [show ((8:Nat):Int)=8 from rfl] at h
 (repeat first|refine uA ?_|(apply uK;focus omega)|simp (disch:=omega) only [go_sem,Nat.reduceBEq]|(apply uD h;exact tz hw;rfl))
 exact S.done (j3.out rfl (Imp.refl rfl) rfl)
def a3p:H6:=⟨89,[.tmp 2],.seq (.reg [OA 1 (.box 31 (TT 0)),OA 2 (.mv (II 0))]) (.seq (.seq (.reg [FF 7 0 1,VV 8 7,OA 9 (.len false (TT 8)),OA 10 (.bin .gtr (TT 9) (II 4)),MM 11 10,FG 12 1 1 11 false,VG 13 12 11 false,OC 14 (.len
 false (TT 13)) 11 false,OC 15 (.bin .gtr (TT 14) (II 10)) 11 false,OA 16 (.pick (TT 11) (.const (.bool true)) (TT 15)),MM 17 16,FG 18 2 1 17 false,VG 19 18 17 false,OC 20 (.len false (TT 19)) 17 false,OC 21 (.bin .gtr (TT
 20) (II 6)) 17 false,OA 22 (.pick (TT 17) (.const (.bool true)) (TT 21)),MM 23 22,FG 24 3 1 23 false,VG 25 24 23 false,OC 26 (.len false (TT 25)) 23 false,OC 27 (.bin .gtr (TT 26) (II 8)) 23 false,OA 28 (.pick (TT 23)
 (.const (.bool true)) (TT 27)),MM 29 28,FG 30 4 1 29 false,VG 31 30 29 false,OC 32 (.len false (TT 31)) 29 false,OC 33 (.bin .gtr (TT 32) (II 4)) 29 false,OA 34 (.pick (TT 29) (.const (.bool true)) (TT 33))]) (.cond (TT
 34) (.seq (.reg [OA 2 (.mv (II 2))]) .ret) .skip)) (.seq (.seq (.reg [FF 35 0 1,VV 36 35,OA 37 (.len false (TT 36)),OA 38 (.bin .eql (TT 37) (II 0))]) (.cond (TT 38) (.seq (.reg [OA 2 (.mv (II 4))]) .ret) .skip)) (.seq (.reg
 [OA 39 (.a2X true),OA 3 (.alloc 154 [.map none]),OB (.store 1 (TT 3) (TT 39))]) (.seq (.reg [OA 40 (.clo 84 [TT 3]),MM 4 40]) (.seq (.seq (.y9 [.q,.q,.q,.e none false,.l,.l,.q,.l,.l,.l,.l,.e none false,.l,.l,
 .l,.l,.e none false,.l,.l,.l,.l,.e none false,.q,.q,.l] [FF 41 0 1,VV 42 41,MM 43 4,OA 44 (.call 86 [TT 42,TT 43]),FF 45 1 1,VV 46 45,OA 47 (.call 87 [TT 46,.func 88]),FF 48 2 1,VV 49 48,VV 50 3,OA 51 (.bnd
 90 (TT 50)),OA 52 (.call 89 [TT 49,TT 51]),FF 53 3 1,VV 54 53,VV 55 3,OA 56 (.bnd 92 (TT 55)),OA 57 (.call 91 [TT 54,TT 56]),FF 58 4 1,VV 59 58,VV 60 3,OA 61 (.bnd 94 (TT 60)),OA 62 (.call 93 [TT 59,TT 61]),OA 63
 (.bsl 44 1 5 [.int .i64 0] [(0,TT 44),(1,TT 47),(2,TT 52),(3,TT 57),(4,TT 62)]),OA 64 (.len false (TT 63)),OA 65 (.mv (II 0))]) (.block 0 (.loop (.seq (.reg [OA 66 (.bin .lss (TT 65) (TT 64))]) (.seq (.cond (TT 66)
 .skip (.exit 0)) (.seq (.block 1 (.seq (.reg [OA 67 (.l7 1 (TT 63) (TT 65)),VV 68 67,MM 6 68]) (.seq (.reg [MM 69 6,OA 70 (.bin .neq (TT 69) (II 0))]) (.cond (TT 70) (.seq (.reg [MM 71 6,MM 2 71]) .ret) .skip)))) (.reg
 [OA 72 (.bin .add (TT 65) (II 1)),MM 65 72]))))))) (.seq (.seq (.reg [FF 73 5 1,LL 74 3 73,OA 75 (.call 95 [TT 74]),OA 76 (.un .not (TT 75)),MM 77 76,FG 78 5 1 77 false,LG 79 3 78 77 false,OC 80 (.call 96 [TT 79]) 77
 false,OC 81 (.un .not (TT 80)) 77 false,OA 82 (.pick (TT 77) (.const (.bool true)) (TT 81)),MM 83 82,FG 84 5 1 83 false,LG 85 3 84 83 false,OC 86 (.call 97 [TT 85]) 83 false,OC 87 (.bin .lss (TT 86) (II 0)) 83 false,OA
 88 (.pick (TT 83) (.const (.bool true)) (TT 87))]) (.cond (TT 88) (.seq (.reg [OA 2 (.mv (II 1))]) .ret) .skip)) (.seq (.reg [OA 2 (.mv (II 0))]) .ret)))))))⟩
theorem b1K:F3 eff Tryz.prog Tryz.f36=some a3p:=by kernel_rfl
theorem b2c:Tryz.prog.funcs[36]?=some Tryz.f36:=Tryz.func36
def a6z:H6:=⟨97,[.tmp 4],.seq (.reg [OA 2 (.box 31 (TT 0)),OA 3 (.box 37 (TT 1)),OA 4 (.mv (II 0))]) (.seq (.seq (.reg [LL 10 8 2,OA 11 (.call 36 [TT 10]),MM 5 11]) (.seq (.reg [MM 12 5,OA 13 (.bin .neq (TT 12) (II 0))]) (.cond (TT 13)
 (.seq (.reg [MM 14 5,MM 4 14]) .ret) .skip))) (.seq (.seq (.reg [FF 15 3 3,VV 16 15,OA 17 (.len false (TT 16)),OA 18 (.bin .gtr (TT 17) (II 4))]) (.cond (TT 18) (.seq (.reg [OA 4 (.mv (II 2))]) .ret) .skip)) (.seq (.seq
 (.reg [FF 19 0 3,VV 20 19,OA 21 (.bin .lss (TT 20) (II 0)),MM 22 21,FG 23 0 3 22 false,VG 24 23 22 false,OC 25 (.bin .gtr (TT 24) (II 2000)) 22 false,OA 26 (.pick (TT 22) (.const (.bool true)) (TT 25)),MM 27 26,FG 28 1
 3 27 false,VG 29 28 27 false,OC 30 (.len false (TT 29)) 27 false,FG 31 0 2 27 false,VG 32 31 27 false,OC 33 (.len false (TT 32)) 27 false,OC 34 (.bin .neq (TT 30) (TT 33)) 27 false,OA 35 (.pick (TT 27) (.const (.bool
 true)) (TT 34)),MM 36 35,FG 37 2 3 36 false,VG 38 37 36 false,OC 39 (.len false (TT 38)) 36 false,FG 40 2 2 36 false,VG 41 40 36 false,OC 42 (.len false (TT 41)) 36 false,OC 43 (.bin .neq (TT 39) (TT 42)) 36 false,OA 44
 (.pick (TT 36) (.const (.bool true)) (TT 43)),MM 45 44,FG 46 4 3 45 false,VG 47 46 45 false,OC 48 (.len false (TT 47)) 45 false,FG 49 4 2 45 false,VG 50 49 45 false,OC 51 (.len false (TT 50)) 45 false,OC 52 (.bin .neq
 (TT 48) (TT 51)) 45 false,OA 53 (.pick (TT 45) (.const (.bool true)) (TT 52))]) (.cond (TT 53) (.seq (.reg [OA 4 (.mv (II 1))]) .ret) .skip)) (.seq (.reg [OA 54 (.a2X false),MM 6 54]) (.seq (.seq (.reg [FF 55 1 3,VV 56 55,
 OA 57 (.len false (TT 56)),OA 58 (.mv (II 0))]) (.block 0 (.loop (.seq (.reg [OA 59 (.bin .lss (TT 58) (TT 57))]) (.seq (.cond (TT 59) .skip (.exit 0)) (.seq (.block 1 (.seq (.reg [MM 60 58,OA 61 (.l7 4 (TT 56) (TT 58)),LL
 62 4 61,OA 8 (.alloc 49 [.slice none 0 0,.slice none 0 0,.bool false,.int .i64 0]),MM 7 60,OB (.store 4 (TT 8) (TT 62))]) (.seq (.seq (.y9 [.q,.q,.q,.q,.q,.q,.q,.q,.q,.q,.q] [FF 63 0 2,VV 64 63,MM 65 7,OA 66
 (.l7 12 (TT 64) (TT 65)),LL 67 12 66,LL 68 4 8,FF 69 2 2,VV 70 69,OA 71 (.len false (TT 70)),OA 72 (.call 53 [TT 67,TT 68,TT 71]),MM 9 72]) (.seq (.reg [MM 73 9,OA 74 (.bin .neq (TT 73) (II 0))]) (.cond (TT 74)
 (.seq (.reg [MM 75 9,MM 4 75]) .ret) .skip))) (.seq (.seq (.reg [FF 76 3 8,VV 77 76,OA 78 (.bin .geq (TT 77) (II 0)),MM 79 78,MG 80 6 79 true,FG 81 3 8 79 true,VG 82 81 79 true,OC 83 (.lkp false (.bool false) false (TT
 80) (TT 82)) 79 true,OA 84 (.pick (TT 79) (TT 83) (.const (.bool false)))]) (.cond (TT 84) (.seq (.reg [OA 4 (.mv (II 10))]) .ret) .skip)) (.reg [MM 85 6,FF 86 3 8,VV 87 86,OB (.a6N false (TT 85) (TT 87) (.const (.bool
 true)))]))))) (.reg [OA 88 (.bin .add (TT 58) (II 1)),MM 58 88]))))))) (.seq (.seq (.reg [FF 89 2 3,VV 90 89,OA 91 (.call 54 [TT 90,.func 55]),MM 92 91,FG 93 3 3 92 false,VG 94 93 92 false,OC 95 (.call 57 [TT 94,.func
 58]) 92 false,OA 96 (.pick (TT 92) (.const (.bool true)) (TT 95))]) (.cond (TT 96) (.seq (.reg [OA 4 (.mv (II 3))]) .ret) .skip)) (.seq (.reg [OA 4 (.mv (II 0))]) .ret)))))))⟩
theorem b1I:F3 eff Tryz.prog Tryz.f24=some a6z:=by kernel_rfl
theorem b1S:Tryz.prog.funcs[24]?=some Tryz.f24:=Tryz.func24
def a6x:H6:=⟨91,[.cell 2 true 5,.tmp 3],.seq (.reg [OA 1 (.box 31 (TT 0)),OA 2 (.alloc 37 [.int .i64 0,.slice none 0 0,.slice none 0 0,.slice none 0 0,.slice none 0 0]),OA 3 (.mv (II 0))]) (.seq (.seq (.reg [LL 13 8 1,OA 14 (.call
 36 [TT 13]),MM 4 14]) (.seq (.reg [MM 15 4,OA 16 (.bin .neq (TT 15) (II 0))]) (.cond (TT 16) (.seq (.reg [OA 17 (.build [.int .i64 0,.slice none 0 0,.slice none 0 0,.slice none 0 0,.slice none 0 0] []),MM 18 4,OB (.store
 5 (TT 2) (TT 17)),MM 3 18]) .ret) .skip))) (.seq (.reg [OA 5 (.alloc 37 [.int .i64 0,.slice none 0 0,.slice none 0 0,.slice none 0 0,.slice none 0 0])]) (.seq (.seq (.reg [FF 19 0 1,VV 20 19,OA 21 (.len false (TT 20)),OA
 22 (.mv (II 0))]) (.block 0 (.loop (.seq (.reg [OA 23 (.bin .lss (TT 22) (TT 21))]) (.seq (.cond (TT 23) .skip (.exit 0)) (.seq (.block 1 (.seq (.reg [OA 24 (.l7 12 (TT 20) (TT 22)),LL 25 12 24,OA 7 (.alloc 69 [.string
 ⟨#[]⟩,.bool false,.string ⟨#[]⟩,.string ⟨#[]⟩,.bool false,.string ⟨#[]⟩,.string ⟨#[]⟩,.bool false,.bool false,.string ⟨#[]⟩,.string ⟨#[]⟩,.slice none 0 0]),OB (.store 12 (TT 7) (TT 25))]) (.seq (.reg [OA 26 (.build
 [.slice none 0 0,.slice none 0 0,.bool false,.int .i64 0] [(3,(1,II (-1)))]),OA 8 (.alloc 49 [.slice none 0 0,.slice none 0 0,.bool false,.int .i64 0]),OB (.store 4 (TT 8) (TT 26))]) (.seq (.seq (.reg [FF 27 11 7,VV
 28 27,OA 29 (.len false (TT 28)),OA 30 (.mv (II 0))]) (.block 2 (.loop (.seq (.reg [OA 31 (.bin .lss (TT 30) (TT 29))]) (.seq (.cond (TT 31) .skip (.exit 2)) (.seq (.block 3 (.seq (.reg [OA 32 (.l7 16 (TT 28) (TT 30)),LL
 33 16 32,OA 10 (.alloc 74 [.bool false,.string ⟨#[]⟩,.string ⟨#[]⟩,.bool false,.string ⟨#[]⟩,.string ⟨#[]⟩,.bool false,.string ⟨#[]⟩,.string ⟨#[]⟩,.bool false,.string ⟨#[]⟩,.string ⟨#[]⟩,.bool false,.string ⟨#[]⟩,
 .string ⟨#[]⟩,.slice none 0 0]),OB (.store 16 (TT 10) (TT 33))]) (.seq (.y9 [.q,.q,.q,.q,.q,.q,.q,.q,.q,.q,.e none true,.q,.e none true] [FF 34 0 8,VV 35 34,FF 36 3 10,LL 37 3 36,FF 38 6 10,LL 39 3 38,OA 40
 (.call 48 [II 0]),OA 41 (.call 18 [TT 39,TT 40]),OA 42 (.call 16 [TT 37,TT 41]),OA 43 (.bsl 29 3 1 [.bool false,.string ⟨#[]⟩,.string ⟨#[]⟩] [(0,TT 42)]),OA 44 (.app 29 3 40 (TT 35) (TT 43)),FF 45 0 8,OB (.store 1 (TT
 45) (TT 44))]) (.y9 [.q,.q,.q,.q,.e none true,.q,.e none true] [FF 46 1 8,VV 47 46,OA 48 (.call 48 [II 0]),OA 49 (.bsl 29 3 1 [.bool false,.string ⟨#[]⟩,.string ⟨#[]⟩] [(0,TT 48)]),OA 50 (.app 29 3 40 (TT 47) (TT
 49)),FF 51 1 8,OB (.store 1 (TT 51) (TT 50))])))) (.reg [OA 52 (.bin .add (TT 30) (II 1)),MM 30 52]))))))) (.reg [FF 53 1 5,VV 54 53,LL 55 4 8,OA 56 (.bsl 49 4 1 [.slice none 0 0,.slice none 0 0,.bool false,.int .i64 0]
 [(0,TT 55)]),OA 57 (.app 49 4 64 (TT 54) (TT 56)),FF 58 1 5,OB (.store 1 (TT 58) (TT 57))]))))) (.reg [OA 59 (.bin .add (TT 22) (II 1)),MM 22 59]))))))) (.seq (.seq (.reg [FF 60 2 1,VV 61 60,OA 62 (.len false (TT 61)),OA
 63 (.mv (II 0))]) (.block 4 (.loop (.seq (.reg [OA 64 (.bin .lss (TT 63) (TT 62))]) (.seq (.cond (TT 64) .skip (.exit 4)) (.seq (.block 5 (.seq (.reg [MM 65 63,MM 11 65]) (.seq (.reg [OA 66 (.call 83 []),OA 12 (.alloc 66
 [.bool false,.string ⟨#[]⟩,.string ⟨#[]⟩,.bool false,.string ⟨#[]⟩,.string ⟨#[]⟩,.bool false,.bool false,.string ⟨#[]⟩,.string ⟨#[]⟩]),OB (.store 10 (TT 12) (TT 66))]) (.seq (.seq (.reg [MM 67 11,FF 68 3 1,VV 69 68,
 OA 70 (.len false (TT 69)),OA 71 (.bin .lss (TT 67) (TT 70))]) (.cond (TT 71) (.reg [FF 72 3 1,VV 73 72,MM 74 11,OA 75 (.l7 14 (TT 73) (TT 74)),FF 76 1 75,LL 77 10 76,OB (.store 10 (TT 12) (TT 77))]) .skip)) (.reg [FF
 78 2 5,VV 79 78,LL 80 10 12,OA 81 (.bsl 66 10 1 [.bool false,.string ⟨#[]⟩,.string ⟨#[]⟩,.bool false,.string ⟨#[]⟩,.string ⟨#[]⟩,.bool false,.bool false,.string ⟨#[]⟩,.string ⟨#[]⟩] [(0,TT 80)]),OA 82 (.app 66 10
 128 (TT 79) (TT 81)),FF 83 2 5,OB (.store 1 (TT 83) (TT 82))]))))) (.reg [OA 84 (.bin .add (TT 63) (II 1)),MM 63 84]))))))) (.seq (.reg [FF 85 4 1,VV 86 85,OA 87 (.len false (TT 86)),OA 88 (.a1i 4 1 [.bool false] (TT 87)
 (TT 87)),FF 89 4 5,OB (.store 1 (TT 89) (TT 88))]) (.seq (.reg [LL 90 5 5,OB (.store 5 (TT 2) (TT 90)),OA 3 (.mv (II 0))]) .ret))))))⟩
theorem b1D:F3 eff Tryz.prog Tryz.f35=some a6x:=by kernel_rfl
theorem b1B:Tryz.prog.funcs[35]?=some Tryz.f35:=Tryz.func35
def a8o:H6:=⟨64,[.tmp 6],.seq (.reg [OA 3 (.box 69 (TT 0)),OA 4 (.box 49 (TT 1)),OA 6 (.mv (II 0))]) (.seq (.seq (.reg [FF 10 0 4,VV 11 10,OA 12 (.call 59 [TT 11]),OA 13 (.un .not (TT 12)),MM 14 13,FG 15 1 4 14 false,VG 16 15 14
 false,OC 17 (.call 59 [TT 16]) 14 false,OC 18 (.un .not (TT 17)) 14 false,OA 19 (.pick (TT 14) (.const (.bool true)) (TT 18))]) (.cond (TT 19) (.seq (.reg [OA 6 (.mv (II 3))]) .ret) .skip)) (.seq (.seq (.reg [LL 20 12 3,FF
 21 0 4,VV 22 21,OA 23 (.call 119 [TT 20,TT 22]),MM 7 23]) (.seq (.reg [MM 24 7,OA 25 (.bin .neq (TT 24) (II 0))]) (.cond (TT 25) (.seq (.reg [MM 26 7,MM 6 26]) .ret) .skip))) (.seq (.seq (.reg [FF 27 1 4,VV 28 27,OA 29
 (.len false (TT 28)),FF 30 11 3,VV 31 30,OA 32 (.len false (TT 31)),OA 33 (.bin .neq (TT 29) (TT 32)),MM 34 33,FG 35 3 4 34 false,VG 36 35 34 false,OC 37 (.bin .lss (TT 36) (II (-1))) 34 false,OA 38 (.pick (TT 34)
 (.const (.bool true)) (TT 37)),MM 39 38,FG 40 3 4 39 false,VG 41 40 39 false,MG 42 2 39 false,OC 43 (.bin .geq (TT 41) (TT 42)) 39 false,OA 44 (.pick (TT 39) (.const (.bool true)) (TT 43))]) (.cond (TT 44) (.seq (.reg [OA
 6 (.mv (II 1))]) .ret) .skip)) (.seq (.seq (.reg [FF 45 11 3,VV 46 45,OA 47 (.len false (TT 46)),OA 48 (.mv (II 0))]) (.block 0 (.loop (.seq (.reg [OA 49 (.bin .lss (TT 48) (TT 47))]) (.seq (.cond (TT 49) .skip (.exit 0))
 (.seq (.block 1 (.seq (.reg [MM 50 48,OA 51 (.l7 16 (TT 46) (TT 48)),LL 52 16 51,OA 9 (.alloc 74 [.bool false,.string ⟨#[]⟩,.string ⟨#[]⟩,.bool false,.string ⟨#[]⟩,.string ⟨#[]⟩,.bool false,.string ⟨#[]⟩,.string
 ⟨#[]⟩,.bool false,.string ⟨#[]⟩,.string ⟨#[]⟩,.bool false,.string ⟨#[]⟩,.string ⟨#[]⟩,.slice none 0 0]),MM 8 50,OB (.store 16 (TT 9) (TT 52))]) (.seq (.y9 [.q,.q,.q,.q,.q,.q,.q,.q,.q,.q] [FF 53 1 4,VV 54 53,
 MM 55 8,OA 56 (.l7 3 (TT 54) (TT 55)),LL 57 3 56,OA 58 (.call 49 [TT 57]),FF 59 9 9,LL 60 3 59,OA 61 (.call 39 [TT 58,TT 60]),OA 62 (.bin .gtr (TT 61) (II 0))]) (.cond (TT 62) (.seq (.reg [OA 6 (.mv (II 1))]) .ret)
 .skip)))) (.reg [OA 63 (.bin .add (TT 48) (II 1)),MM 48 63]))))))) (.seq (.reg [OA 6 (.mv (II 0))]) .ret)))))⟩
theorem b5N:F3 eff Tryz.prog Tryz.f53=some a8o:=by kernel_rfl
theorem b4d:Tryz.prog.funcs[53]?=some Tryz.f53:=Tryz.func53
def a4n:H6:=⟨159,[.cell 2 true 8],.seq (.reg [OA 2 (.alloc 31 [.slice none 0 0,.slice none 0 0,.slice none 0 0,.slice none 0 0,.slice none 0 0,.bool false,.string ⟨#[]⟩,.string ⟨#[]⟩])]) (.seq (.reg [MM 12 0,OA 13 (.build [.slice
 none 0 0] [(0,(1,TT 12))]),OA 14 (.box 95 (TT 13)),MM 3 14]) (.seq (.reg [OA 4 (.alloc 31 [.slice none 0 0,.slice none 0 0,.slice none 0 0,.slice none 0 0,.slice none 0 0,.bool false,.string ⟨#[]⟩,.string ⟨#[]⟩])])
 (.seq (.seq (.reg [MM 15 3,OA 16 (.call 33 [TT 15,II 2]),OA 17 (.bin .add (II 1) (TT 16)),OA 18 (.mv (II 0))]) (.block 0 (.loop (.seq (.reg [OA 19 (.bin .lss (TT 18) (TT 17))]) (.seq (.cond (TT 19) .skip (.exit 0)) (.seq
 (.block 1 (.seq (.reg [MM 20 18,MM 5 20]) (.y9 [.l,.l,.q,.q,.e none false,.q,.e none true,.q,.e none true] [FF 21 0 4,VV 22 21,MM 23 3,MM 24 5,OA 25 (.call 79 [TT 23,TT 24]),OA 26 (.bsl 69 12 1 [.string ⟨#[]⟩,
 .bool false,.string ⟨#[]⟩,.string ⟨#[]⟩,.bool false,.string ⟨#[]⟩,.string ⟨#[]⟩,.bool false,.bool false,.string ⟨#[]⟩,.string ⟨#[]⟩,.slice none 0 0] [(0,TT 25)]),OA 27 (.app 69 12 168 (TT 22) (TT 26)),FF 28 0 4,OB
 (.store 1 (TT 28) (TT 27))]))) (.reg [OA 29 (.bin .add (TT 18) (II 1)),MM 18 29]))))))) (.seq (.seq (.reg [MM 30 3,OA 31 (.call 33 [TT 30,II 3]),OA 32 (.mv (II 0))]) (.block 2 (.loop (.seq (.reg [OA 33 (.bin .lss (TT 32) (TT
 31))]) (.seq (.cond (TT 33) .skip (.exit 2)) (.seq (.block 3 (.seq (.reg [MM 34 3,OA 35 (.call 33 [TT 34,II 80]),OA 36 (.bin .sub (TT 35) (II 30)),MM 37 3,OA 38 (.call 33 [TT 37,II 30]),OA 39 (.bin .add (II 12) (TT 38)),
 MM 6 36,MM 7 39]) (.seq (.seq (.reg [MM 40 3,OA 41 (.call 33 [TT 40,II 2]),OA 42 (.bin .eql (TT 41) (II 1))]) (.cond (TT 42) (.reg [MM 43 7,OA 44 (.un .neg (TT 43)),OA 45 (.bin .sub (TT 44) (II 6)),MM 7 45]) .skip))
 (.y9 [.l,.l,.l,.l,.l,.l,.q,.e none false,.l,.l,.l,.l,.e none false,.q,.q,.q,.e none true,.q,.e none true] [FF 46 1 4,VV 47 46,MM 48 6,MM 49 7,MM 50 6,OA 51 (.bin .add (TT 50) (II 1)),MM 52 3,OA 53
 (.call 33 [TT 52,II 20]),OA 54 (.bin .add (TT 51) (TT 53)),MM 55 7,OA 56 (.bin .add (TT 55) (II 1)),MM 57 3,OA 58 (.call 33 [TT 57,II 5]),OA 59 (.bin .add (TT 56) (TT 58)),OA 60 (.call 80 [TT 48,TT 49,TT 54,TT 59]),
 OA 61 (.bsl 34 1 1 [.slice none 0 0] [(0,TT 60)]),OA 62 (.app 34 1 24 (TT 47) (TT 61)),FF 63 1 4,OB (.store 1 (TT 63) (TT 62))])))) (.reg [OA 64 (.bin .add (TT 32) (II 1)),MM 32 64]))))))) (.seq (.seq (.reg [MM 65 3,OA 66
 (.call 33 [TT 65,II 3]),OA 67 (.mv (II 0))]) (.block 4 (.loop (.seq (.reg [OA 68 (.bin .lss (TT 67) (TT 66))]) (.seq (.cond (TT 68) .skip (.exit 4)) (.seq (.block 5 (.seq (.reg [MM 69 67,MM 8 69]) (.y9 [.l,.l,.l,.l,.l,
 .l,.q,.e none false,.q,.q,.q,.q,.q,.q,.e none true,.q,.e none true] [FF 70 2 4,VV 71 70,OA 72 (.bsl 9 1 2 [.string ⟨#[]⟩] [(0,.const (.string ⟨#[98,111,108,116]⟩)),(1,.const (.string ⟨#[110,117,116]⟩))]),MM
 73 8,OA 74 (.l7 1 (TT 72) (TT 73)),VV 75 74,MM 76 3,OA 77 (.call 81 [TT 76]),OA 78 (.call 82 [II 0,II 0]),OA 79 (.call 78 [II 0,II 1]),OA 80 (.build [.bool false,.bool false,.string ⟨#[]⟩,.string ⟨#[]⟩] [(1,(3,
 TT 79))]),OA 81 (.build [.bool false,.string ⟨#[]⟩,.string ⟨#[]⟩,.bool false,.string ⟨#[]⟩,.string ⟨#[]⟩,.bool false,.bool false,.string ⟨#[]⟩,.string ⟨#[]⟩] [(0,(6,TT 78)),(6,(4,TT 80))]),OA 82 (.build [.string
 ⟨#[]⟩,.slice none 0 0,.bool false,.string ⟨#[]⟩,.string ⟨#[]⟩,.bool false,.string ⟨#[]⟩,.string ⟨#[]⟩,.bool false,.bool false,.string ⟨#[]⟩,.string ⟨#[]⟩] [(0,(1,TT 75)),(1,(1,TT 77)),(2,(10,TT 81))]),OA 83
 (.bsl 115 12 1 [.string ⟨#[]⟩,.slice none 0 0,.bool false,.string ⟨#[]⟩,.string ⟨#[]⟩,.bool false,.string ⟨#[]⟩,.string ⟨#[]⟩,.bool false,.bool false,.string ⟨#[]⟩,.string ⟨#[]⟩] [(0,TT 82)]),OA 84 (.app 115 12 168
 (TT 71) (TT 83)),FF 85 2 4,OB (.store 1 (TT 85) (TT 84))]))) (.reg [OA 86 (.bin .add (TT 67) (II 1)),MM 67 86]))))))) (.seq (.seq (.y9 [.l,.l,.l,.q,.e none false,.q,.l] [FF 87 2 4,VV 88 87,OA 89 (.len false (TT
 88)),MM 90 3,OA 91 (.call 33 [TT 90,II 2]),OA 92 (.bin .add (TT 89) (TT 91)),OA 93 (.mv (II 0))]) (.block 6 (.loop (.seq (.reg [OA 94 (.bin .lss (TT 93) (TT 92))]) (.seq (.cond (TT 94) .skip (.exit 6)) (.seq (.block 7 (.seq
 (.reg [MM 95 93,MM 9 95]) (.y9 [.l,.l,.l,.l,.l,.l,.q,.e none false,.l,.l,.e none false,.q,.q,.l,.e none false,.q,.q,.l,.l,.l,.e none false,.q,.q,.q,.q,.e none true,.q,.e none true] [FF 96 3 4,VV 97
 96,OA 98 (.bsl 9 1 3 [.string ⟨#[]⟩] [(0,.const (.string ⟨#[104,101,114,101]⟩)),(1,.const (.string ⟨#[116,104,101,114,101]⟩)),(2,.const (.string ⟨#[98,101,121,111,110,100]⟩))]),MM 99 9,OA 100 (.l7 1 (TT
 98) (TT 99)),VV 101 100,MM 102 3,OA 103 (.call 33 [TT 102,II 40]),OA 104 (.bin .sub (TT 103) (II 20)),MM 105 3,OA 106 (.call 33 [TT 105,II 24]),OA 107 (.bin .sub (TT 106) (II 12)),OA 108 (.call 82 [TT 104,TT 107]),MM
 109 3,OA 110 (.call 33 [TT 109,II 5]),OA 111 (.bin .sub (TT 110) (II 2)),OA 112 (.call 78 [TT 111,II 2]),OA 113 (.build [.bool false,.bool false,.string ⟨#[]⟩,.string ⟨#[]⟩] [(1,(3,TT 112))]),OA 114 (.build [.bool
 false,.string ⟨#[]⟩,.string ⟨#[]⟩,.bool false,.string ⟨#[]⟩,.string ⟨#[]⟩,.bool false,.bool false,.string ⟨#[]⟩,.string ⟨#[]⟩] [(0,(6,TT 108)),(6,(4,TT 113))]),MM 115 3,OA 116 (.call 33 [TT 115,II 20]),OA 117
 (.bin .add (II 8) (TT 116)),OA 118 (.call 78 [II 1,TT 117]),OA 119 (.build [.string ⟨#[]⟩,.bool false,.string ⟨#[]⟩,.string ⟨#[]⟩,.bool false,.string ⟨#[]⟩,.string ⟨#[]⟩,.bool false,.bool false,.string ⟨#[]⟩,.string
 ⟨#[]⟩,.bool false,.string ⟨#[]⟩,.string ⟨#[]⟩] [(0,(1,TT 101)),(1,(10,TT 114)),(11,(3,TT 118))]),OA 120 (.bsl 151 14 1 [.string ⟨#[]⟩,.bool false,.string ⟨#[]⟩,.string ⟨#[]⟩,.bool false,.string ⟨#[]⟩,.string
 ⟨#[]⟩,.bool false,.bool false,.string ⟨#[]⟩,.string ⟨#[]⟩,.bool false,.string ⟨#[]⟩,.string ⟨#[]⟩] [(0,TT 119)]),OA 121 (.app 151 14 184 (TT 97) (TT 120)),FF 122 3 4,OB (.store 1 (TT 122) (TT 121))]))) (.reg [OA 123
 (.bin .add (TT 93) (II 1)),MM 93 123]))))))) (.seq (.seq (.reg [MM 124 3,OA 125 (.call 33 [TT 124,II 2]),OA 126 (.mv (II 0))]) (.block 8 (.loop (.seq (.reg [OA 127 (.bin .lss (TT 126) (TT 125))]) (.seq (.cond (TT 127) .skip
 (.exit 8)) (.seq (.block 9 (.seq (.reg [MM 128 3,OA 129 (.call 33 [TT 128,II 60]),OA 130 (.bin .sub (TT 129) (II 30)),MM 131 3,OA 132 (.call 33 [TT 131,II 60]),OA 133 (.bin .sub (TT 132) (II 30)),MM 10 130,MM 11 133])
 (.y9 [.l,.l,.q,.q,.q,.l,.q,.e none false,.l,.l,.l,.e none false,.q,.q,.q,.q,.q,.e none true,.q,.e none true] [FF 134 4 4,VV 135 134,MM 136 10,MM 137 11,OA 138 (.call 82 [TT 136,TT 137]),MM 139 10,MM
 140 3,OA 141 (.call 33 [TT 140,II 12]),OA 142 (.bin .add (TT 139) (TT 141)),MM 143 11,MM 144 3,OA 145 (.call 33 [TT 144,II 12]),OA 146 (.bin .add (TT 143) (TT 145)),OA 147 (.call 82 [TT 142,TT 146]),OA 148 (.build
 [.bool false,.string ⟨#[]⟩,.string ⟨#[]⟩,.bool false,.string ⟨#[]⟩,.string ⟨#[]⟩,.bool false,.string ⟨#[]⟩,.string ⟨#[]⟩,.bool false,.string ⟨#[]⟩,.string ⟨#[]⟩] [(0,(6,TT 138)),(6,(6,TT 147))]),OA 149 (.build
 [.string ⟨#[]⟩,.bool false,.string ⟨#[]⟩,.string ⟨#[]⟩,.bool false,.string ⟨#[]⟩,.string ⟨#[]⟩,.bool false,.string ⟨#[]⟩,.string ⟨#[]⟩,.bool false,.string ⟨#[]⟩,.string ⟨#[]⟩] [(0,(1,.const (.string ⟨#[100,111,
 111,114]⟩))),(1,(12,TT 148))]),OA 150 (.bsl 143 13 1 [.string ⟨#[]⟩,.bool false,.string ⟨#[]⟩,.string ⟨#[]⟩,.bool false,.string ⟨#[]⟩,.string ⟨#[]⟩,.bool false,.string ⟨#[]⟩,.string ⟨#[]⟩,.bool false,.string
 ⟨#[]⟩,.string ⟨#[]⟩] [(0,TT 149)]),OA 151 (.app 143 13 176 (TT 135) (TT 150)),FF 152 4 4,OB (.store 1 (TT 152) (TT 151))]))) (.reg [OA 153 (.bin .add (TT 126) (II 1)),MM 126 153]))))))) (.seq (.reg [MM 154 3,OA 155 (.call
 33 [TT 154,II 4]),OA 156 (.call 78 [TT 155,II 8]),FF 157 5 4,OB (.store 3 (TT 157) (TT 156))]) (.seq (.reg [LL 158 8 4,OB (.store 8 (TT 2) (TT 158))]) .ret)))))))))⟩
theorem a8R:F3 eff Tryz.prog Tryz.f34=some a4n:=by kernel_rfl
theorem a8T:Tryz.prog.funcs[34]?=some Tryz.f34:=Tryz.func34
def a5v:H6:=⟨77,[.cell 4 true 12],.seq (.reg [OA 4 (.alloc 69 [.string ⟨#[]⟩,.bool false,.string ⟨#[]⟩,.string ⟨#[]⟩,.bool false,.string ⟨#[]⟩,.string ⟨#[]⟩,.bool false,.bool false,.string ⟨#[]⟩,.string ⟨#[]⟩,.slice none 0 0])])
 (.seq (.reg [OA 8 (.bsl 9 1 4 [.string ⟨#[]⟩] [(0,.const (.string ⟨#[111,110,101]⟩)),(1,.const (.string ⟨#[116,119,111]⟩)),(2,.const (.string ⟨#[116,104,114,101,101]⟩)),(3,.const (.string ⟨#[102,111,117,
 114]⟩))]),MM 9 1,OA 10 (.l7 1 (TT 8) (TT 9)),VV 11 10,OA 12 (.build [.string ⟨#[]⟩,.bool false,.string ⟨#[]⟩,.string ⟨#[]⟩,.bool false,.string ⟨#[]⟩,.string ⟨#[]⟩,.bool false,.bool false,.string ⟨#[]⟩,.string
 ⟨#[]⟩,.slice none 0 0] [(0,(1,TT 11))]),OA 5 (.alloc 69 [.string ⟨#[]⟩,.bool false,.string ⟨#[]⟩,.string ⟨#[]⟩,.bool false,.string ⟨#[]⟩,.string ⟨#[]⟩,.bool false,.bool false,.string ⟨#[]⟩,.string ⟨#[]⟩,.slice
 none 0 0]),OB (.store 12 (TT 5) (TT 12))]) (.seq (.y9 [.q,.q,.q,.l,.q,.e none false,.l,.l,.l,.e none false,.q,.q,.q,.q,.q,.e none true] [MM 13 1,OA 14 (.bin .mul (II 40) (TT 13)),OA 15 (.call 82 [TT 14,II
 0]),OA 16 (.bsl 3 1 4 [.int .i64 0] [(0,II 0),(1,II 1),(2,II (-1)),(3,II 1)]),MM 17 0,OA 18 (.call 33 [TT 17,II 4]),OA 19 (.l7 1 (TT 16) (TT 18)),VV 20 19,MM 21 0,OA 22 (.call 33 [TT 21,II 3]),OA 23 (.bin
 .add (II 1) (TT 22)),OA 24 (.call 78 [TT 20,TT 23]),OA 25 (.build [.bool false,.bool false,.string ⟨#[]⟩,.string ⟨#[]⟩] [(1,(3,TT 24))]),OA 26 (.build [.bool false,.string ⟨#[]⟩,.string ⟨#[]⟩,.bool false,.string
 ⟨#[]⟩,.string ⟨#[]⟩,.bool false,.bool false,.string ⟨#[]⟩,.string ⟨#[]⟩] [(0,(6,TT 15)),(6,(4,TT 25))]),FF 27 1 5,OB (.store 10 (TT 27) (TT 26))]) (.seq (.seq (.reg [MM 28 0,OA 29 (.call 33 [TT 28,II 3]),OA 30
 (.bin .add (II 1) (TT 29)),OA 31 (.mv (II 0))]) (.block 0 (.loop (.seq (.reg [OA 32 (.bin .lss (TT 31) (TT 30))]) (.seq (.cond (TT 32) .skip (.exit 0)) (.seq (.block 1 (.seq (.reg [MM 33 0,OA 34 (.call 33 [TT 33,II 4]),OA 35
 (.bin .mul (II 2) (TT 34)),OA 36 (.bin .add (II 4) (TT 35)),MM 6 36]) (.seq (.reg [MM 37 6,OA 38 (.call 78 [TT 37,II 4]),MM 39 0,OA 40 (.call 33 [TT 39,II 6]),OA 41 (.bin .sub (II (-1)) (TT 40)),OA 42 (.call 78 [TT 41,
 II 3]),MM 43 0,OA 44 (.call 33 [TT 43,II 6]),OA 45 (.bin .add (II 1) (TT 44)),OA 46 (.call 78 [TT 45,II 3]),MM 47 0,OA 48 (.call 33 [TT 47,II 8]),OA 49 (.bin .add (II 4) (TT 48)),OA 50 (.call 78 [II 1,TT 49]),MM 51
 0,OA 52 (.call 33 [TT 51,II 20]),OA 53 (.bin .add (II 10) (TT 52)),OA 54 (.call 78 [II 1,TT 53]),MM 55 6,OA 56 (.bin .add (TT 55) (II 1)),OA 57 (.call 80 [II (-1),II (-1),TT 56,II 1]),OA 58 (.build [.bool false,
 .string ⟨#[]⟩,.string ⟨#[]⟩,.bool false,.string ⟨#[]⟩,.string ⟨#[]⟩,.bool false,.string ⟨#[]⟩,.string ⟨#[]⟩,.bool false,.string ⟨#[]⟩,.string ⟨#[]⟩,.bool false,.string ⟨#[]⟩,.string ⟨#[]⟩,.slice none 0 0] [(0,(3,
 TT 38)),(3,(3,TT 42)),(6,(3,TT 46)),(9,(3,TT 50)),(12,(3,TT 54)),(15,(1,TT 57))]),OA 7 (.alloc 74 [.bool false,.string ⟨#[]⟩,.string ⟨#[]⟩,.bool false,.string ⟨#[]⟩,.string ⟨#[]⟩,.bool false,.string ⟨#[]⟩,
 .string ⟨#[]⟩,.bool false,.string ⟨#[]⟩,.string ⟨#[]⟩,.bool false,.string ⟨#[]⟩,.string ⟨#[]⟩,.slice none 0 0]),OB (.store 16 (TT 7) (TT 58))]) (.seq (.seq (.reg [MM 59 0,OA 60 (.call 33 [TT 59,II 3]),OA 61 (.bin .eql
 (TT 60) (II 2))]) (.cond (TT 61) (.reg [OA 62 (.call 82 [II (-1),II (-1)]),MM 63 6,OA 64 (.bin .add (TT 63) (II 1)),OA 65 (.call 82 [TT 64,II 0]),OA 66 (.call 82 [II (-1),II 1]),OA 67 (.bsl 59 6 3 [.bool false,.string
 ⟨#[]⟩,.string ⟨#[]⟩,.bool false,.string ⟨#[]⟩,.string ⟨#[]⟩] [(0,TT 62),(1,TT 65),(2,TT 66)]),FF 68 15 7,OB (.store 1 (TT 68) (TT 67))]) .skip)) (.reg [FF 69 11 5,VV 70 69,LL 71 16 7,OA 72 (.bsl 74 16 1 [.bool
 false,.string ⟨#[]⟩,.string ⟨#[]⟩,.bool false,.string ⟨#[]⟩,.string ⟨#[]⟩,.bool false,.string ⟨#[]⟩,.string ⟨#[]⟩,.bool false,.string ⟨#[]⟩,.string ⟨#[]⟩,.bool false,.string ⟨#[]⟩,.string ⟨#[]⟩,.slice none 0 0]
 [(0,TT 71)]),OA 73 (.app 74 16 224 (TT 70) (TT 72)),FF 74 11 5,OB (.store 1 (TT 74) (TT 73))]))))) (.reg [OA 75 (.bin .add (TT 31) (II 1)),MM 31 75]))))))) (.seq (.reg [LL 76 12 5,OB (.store 12 (TT 4) (TT 76))]) .ret))))⟩
theorem b0B:F3 eff Tryz.prog Tryz.f79=some a5v:=by kernel_rfl
theorem b0J:Tryz.prog.funcs[79]?=some Tryz.f79:=Tryz.func79
def a4T:H6:=⟨93,[.tmp 2],.seq (.reg [OA 2 (.mv (.const (.slice none 0 0)))]) (.seq (.reg [MM 5 0,OA 6 (.call 33 [TT 5,II 6]),OA 7 (.bin .add (II 1) (TT 6)),MM 8 0,OA 9 (.call 33 [TT 8,II 6]),OA 10 (.bin .add (II 1) (TT 9)),MM 3 7,
 MM 4 10]) (.seq (.seq (.reg [MM 11 0,OA 12 (.call 33 [TT 11,II 4])]) (.block 0 (.seq (.reg [OA 14 (.bin .eql (TT 12) (II 0)),MM 13 14]) (.cond (TT 13) (.seq (.reg [MM 15 3,OA 16 (.un .neg (TT 15)),MM 17 4,OA 18 (.un .neg
 (TT 17)),OA 19 (.call 82 [TT 16,TT 18]),MM 20 3,MM 21 4,OA 22 (.un .neg (TT 21)),OA 23 (.call 82 [TT 20,TT 22]),MM 24 3,MM 25 4,OA 26 (.call 82 [TT 24,TT 25]),MM 27 3,OA 28 (.un .neg (TT 27)),MM 29 4,OA 30 (.call
 82 [TT 28,TT 29]),OA 31 (.bsl 59 6 4 [.bool false,.string ⟨#[]⟩,.string ⟨#[]⟩,.bool false,.string ⟨#[]⟩,.string ⟨#[]⟩] [(0,TT 19),(1,TT 23),(2,TT 26),(3,TT 30)]),MM 2 31]) .ret) (.seq (.reg [OA 33 (.bin .eql (TT
 12) (II 1)),MM 32 33]) (.cond (TT 32) (.seq (.reg [MM 34 3,OA 35 (.un .neg (TT 34)),MM 36 4,OA 37 (.un .neg (TT 36)),OA 38 (.call 82 [TT 35,TT 37]),MM 39 3,MM 40 4,OA 41 (.un .neg (TT 40)),OA 42 (.call 82 [TT 39,TT
 41]),MM 43 0,MM 44 3,OA 45 (.bin .mul (II 2) (TT 44)),OA 46 (.bin .add (TT 45) (II 1)),OA 47 (.call 33 [TT 43,TT 46]),MM 48 3,OA 49 (.bin .sub (TT 47) (TT 48)),MM 50 4,OA 51 (.call 82 [TT 49,TT 50]),OA 52 (.bsl 59 6
 3 [.bool false,.string ⟨#[]⟩,.string ⟨#[]⟩,.bool false,.string ⟨#[]⟩,.string ⟨#[]⟩] [(0,TT 38),(1,TT 42),(2,TT 51)]),MM 2 52]) .ret) (.seq (.reg [OA 54 (.bin .eql (TT 12) (II 2)),MM 53 54]) (.cond (TT 53) (.seq (.reg
 [MM 55 3,OA 56 (.un .neg (TT 55)),OA 57 (.bin .sub (TT 56) (II 1)),MM 58 4,OA 59 (.un .neg (TT 58)),OA 60 (.bin .sub (TT 59) (II 1)),OA 61 (.call 82 [TT 57,TT 60]),MM 62 3,MM 63 4,OA 64 (.un .neg (TT 63)),OA 65 (.bin
 .sub (TT 64) (II 1)),OA 66 (.call 82 [TT 62,TT 65]),MM 67 3,OA 68 (.bin .add (TT 67) (II 1)),MM 69 4,OA 70 (.un .neg (TT 69)),OA 71 (.call 82 [TT 68,TT 70]),MM 72 3,OA 73 (.bin .add (TT 72) (II 1)),MM 74 4,OA 75
 (.call 82 [TT 73,TT 74]),MM 76 3,OA 77 (.un .neg (TT 76)),OA 78 (.bin .sub (TT 77) (II 1)),MM 79 4,OA 80 (.call 82 [TT 78,TT 79]),OA 81 (.bsl 59 6 5 [.bool false,.string ⟨#[]⟩,.string ⟨#[]⟩,.bool false,.string ⟨#[]⟩,
 .string ⟨#[]⟩] [(0,TT 61),(1,TT 66),(2,TT 71),(3,TT 75),(4,TT 80)]),MM 2 81]) .ret) .skip)))))))) (.seq (.reg [MM 82 3,OA 83 (.un .neg (TT 82)),OA 84 (.call 82 [TT 83,II 0]),MM 85 4,OA 86 (.un .neg (TT 85)),OA 87
 (.call 82 [II 0,TT 86]),MM 88 3,OA 89 (.call 82 [TT 88,II 0]),MM 90 4,OA 91 (.call 82 [II 0,TT 90]),OA 92 (.bsl 59 6 4 [.bool false,.string ⟨#[]⟩,.string ⟨#[]⟩,.bool false,.string ⟨#[]⟩,.string ⟨#[]⟩] [(0,TT 84),
 (1,TT 87),(2,TT 89),(3,TT 91)]),MM 2 92]) .ret)))⟩
theorem a9D:F3 eff Tryz.prog Tryz.f81=some a4T:=by kernel_rfl
theorem a9E:Tryz.prog.funcs[81]?=some Tryz.f81:=Tryz.func81
def a3P:H6:=⟨48,[.cell 2 true 8,.cell 3 true 5,.tmp 4],.seq (.reg [OA 2 (.alloc 31 [.slice none 0 0,.slice none 0 0,.slice none 0 0,.slice none 0 0,.slice none 0 0,.bool false,.string ⟨#[]⟩,.string ⟨#[]⟩]),OA 3 (.alloc 37 [.int
 .i64 0,.slice none 0 0,.slice none 0 0,.slice none 0 0,.slice none 0 0]),OA 4 (.mv (.const (.bool false)))]) (.seq (.reg [MM 8 0,OA 9 (.call 34 [TT 8]),OA 5 (.alloc 31 [.slice none 0 0,.slice none 0 0,.slice none 0 0,
 .slice none 0 0,.slice none 0 0,.bool false,.string ⟨#[]⟩,.string ⟨#[]⟩]),OB (.store 8 (TT 5) (TT 9))]) (.seq (.reg [LL 11 8 5,OA 12 (.call 35 [TT 11]),MM 10 12,OA 13 (.ext (TT 10) 0),OA 14 (.ext (TT 10) 1),OA 6
 (.alloc 37 [.int .i64 0,.slice none 0 0,.slice none 0 0,.slice none 0 0,.slice none 0 0]),OB (.store 5 (TT 6) (TT 13)),MM 7 14]) (.seq (.y9 [.q,.l,.q,.q,.q,.q,.q,.q,.q,.q,.q,.q,.q,.q,.q,.q,.q,.q,.q,.q,
 .q,.q,.q,.q,.q,.q,.q,.q,.q,.q,.q,.l,.l,.e none false,.e none false,.q] [LL 15 8 5,LL 16 5 6,MM 17 7,OA 18 (.bin .eql (TT 17) (II 0)),MM 19 18,FG 20 1 6 19 true,VG 21 20 19 true,OC 22 (.len false (TT 21)) 19
 true,FG 23 0 5 19 true,VG 24 23 19 true,OC 25 (.len false (TT 24)) 19 true,OC 26 (.bin .eql (TT 22) (TT 25)) 19 true,OA 27 (.pick (TT 19) (TT 26) (.const (.bool false))),MM 28 27,FG 29 2 6 28 true,VG 30 29 28 true,OC 31
 (.len false (TT 30)) 28 true,FG 32 2 5 28 true,VG 33 32 28 true,OC 34 (.len false (TT 33)) 28 true,OC 35 (.bin .eql (TT 31) (TT 34)) 28 true,OA 36 (.pick (TT 28) (TT 35) (.const (.bool false))),MM 37 36,LG 38 8 5 37 true,
 LG 39 5 6 37 true,OC 40 (.call 24 [TT 38,TT 39]) 37 true,OC 41 (.bin .eql (TT 40) (II 0)) 37 true,OA 42 (.pick (TT 37) (TT 41) (.const (.bool false))),MM 43 42,OC 44 (.build [.slice none 0 0,.slice none 0 0,.slice none 0
 0,.slice none 0 0,.slice none 0 0,.bool false,.string ⟨#[]⟩,.string ⟨#[]⟩] []) 43 true,OC 45 (.call 36 [TT 44]) 43 true,OC 46 (.bin .eql (TT 45) (II 4)) 43 true,OA 47 (.pick (TT 43) (TT 46) (.const (.bool false))),OB
 (.store 8 (TT 2) (TT 15)),OB (.store 5 (TT 3) (TT 16)),MM 4 47]) .ret)))⟩
theorem a8b:F3 eff Tryz.prog Tryz.f13=some a3P:=by kernel_rfl
theorem a7Y:Tryz.prog.funcs[13]?=some Tryz.f13:=Tryz.func13
def N7:H6:=⟨9,[.tmp 4],.seq (.reg [OA 4 (.mv (.const (.bool false)))]) (.seq (.reg [MM 5 0,MM 6 1,OA 7 (.call 121 [TT 5,TT 6]),OA 8 (.bin .geq (TT 7) (II 0)),MM 4 8]) .ret)⟩
theorem V9:F3 eff Tryz.prog Tryz.f57=some N7:=by kernel_rfl
theorem W9:Tryz.prog.funcs[57]?=some Tryz.f57:=Tryz.func57
def P8:H6:=⟨19,[.tmp 4],.seq (.reg [OA 4 (.mv (II 0))]) (.seq (.seq (.reg [MM 6 0,OA 7 (.len false (TT 6)),OA 8 (.mv (II 0))]) (.block 0 (.loop (.seq (.reg [OA 9 (.bin .lss (TT 8) (TT 7))]) (.seq (.cond (TT 9) .skip (.exit 0)) (.seq
 (.block 1 (.seq (.reg [MM 10 8,MM 5 10]) (.seq (.reg [MM 11 1,MM 12 0,MM 13 5,OA 14 (.l7 6 (TT 12) (TT 13)),LL 15 6 14,OA 16 (.X8 (TT 11) [TT 15])]) (.cond (TT 16) (.seq (.reg [MM 17 5,MM 4 17]) .ret) .skip))))
 (.reg [OA 18 (.bin .add (TT 8) (II 1)),MM 8 18]))))))) (.seq (.reg [OA 4 (.mv (II (-1)))]) .ret))⟩
theorem Y1:F3 eff Tryz.prog Tryz.f121=some P8:=by kernel_rfl
theorem Y2:Tryz.prog.funcs[121]?=some Tryz.f121:=Tryz.func121
def a0a (b:UInt8):Bool:=decide (97<=b.toNat) && decide (b.toNat<=122)
theorem b2v {s:List UInt8} {i:Nat} (hi:i < s.length) (h:a0a s[i]=false):a1P s=false:=by
 unfold a1P
 have:(s.all fun b=>decide (97<=b.toNat) && decide (b.toNat<=122))=false:=by
  rw [List.all_eq_false]
  exact ⟨s[i],c7x hi,by unfold a0a at h;rw [h];decide⟩
 rw [this]
 rfl
theorem b4K {s:List UInt8} (h:∀ j (h:j < s.length),a0a s[j]=true):a1P s=(decide (1<=s.length) && decide (s.length<=12)):=by
 unfold a1P
 have:(s.all fun b=>decide (97<=b.toNat) && decide (b.toNat<=122))=true:=by
  rw [List.all_eq_true]
  intro x hx
  obtain ⟨j,hj,rfl⟩:=List.mem_iff_getElem.1 hx
  exact h j hj
 rw [this,Bool.true_and]
theorem c1R (s:List UInt8) (hs:s.length<=1099511627776):A9 Tryz.prog 104 [sb s] (.v (.bool (a1P s))):=by
  refine kS Tryz.func104 (by cbv) (by rfl) fun w O=>?_
  simp only [j5,TT,II,OA,OC,MM,MG,sb]
  (repeat first|refine uA ?_|(apply uK;focus omega)|simp (disch:=omega) only [go_sem,Nat.reduceBEq,F4])
  refine S.loop (X:=Nat) (fun i=>⟨[(0,sb s),(5,ints s.length),(6,ints i)],[]⟩) (fun i=>i<=s.length/\∀ j (h:j < s.length),j < i->a0a s[j]=true) (fun i=>s.length-i) 0 ⟨c7n _,fun _ _ h=>absurd h (Nat.not_lt_zero _)⟩ (by (repeat first|refine uA ?_|(refine ⟨?_,?_⟩;focus first|rfl|simp [slot])|rfl|simp)) ?_
  rintro i ⟨hi,hg⟩
  simp only [sb,ints]
  (repeat first|refine uA ?_|(apply uK;focus omega)|simp (disch:=omega) only [go_sem,Nat.reduceBEq])
  (refine uJ rfl (fun hc=>?_) fun hc=>?_)
  · have hi':i < s.length:=by omega
    have hgi:s.getD i 0=s[i]:=by rw [c7u,c7h hi'];rfl
    (repeat first|refine uA ?_|(apply uK;focus first|omega|(intros;simp_all<;>omega))|simp (disch:=omega) only [go_sem,Nat.reduceBEq,F4,a0m,hgi,c7o])
    refine S.cond rfl (fun hc=>?_) (fun hc=>?_)
    · have hl:a0a s[i]=false:=by
        unfold a0a
        simp only [c7Y,c7v] at hc
        rw [Bool.and_eq_false_iff,c7H,c7H]
        omega
      rw [b2v hi' hl]
      (repeat first|refine uA ?_|(apply uK;focus omega)|simp (disch:=omega) only [go_sem])
      exact S.done (j3.out rfl (Imp.refl rfl) rfl)
    · have hl:a0a s[i]=true:=by
        unfold a0a
        simp only [c7V,c7H] at hc
        rw [c7q,c7v,c7v]
        omega
      (repeat first|refine uA ?_|(apply uK;focus omega)|simp (disch:=omega) only [go_sem,Nat.reduceBEq,ww])
      refine S.next (i+1) ⟨by omega,fun j h hj=>?_⟩ (by omega) (by (repeat first|refine uA ?_|(refine ⟨?_,?_⟩;focus first|rfl|simp [slot])|rfl|simp))
      rcases c7D j i with h1|h1
      · exact hg j h h1
      · have:j=i:=by omega
        subst this
        exact hl
  · have hi':i=s.length:=by omega
    subst hi'
    have e1:decide ((1:Int)<=(s.length:Int))=decide (1<=s.length):=decide_eq_decide.2 (by omega)
    have e2:decide ((s.length:Int)<=12)=decide (s.length<=12):=decide_eq_decide.2 (by omega)
    rw [b4K fun j h=>hg j h h]
    (repeat first|refine uA ?_|(apply uK;focus omega)|simp (disch:=omega) only [go_sem,Nat.reduceBEq,F4,e1,e2])
    (try simp only [e1,e2,go_sem])
    exact S.done (j3.out rfl (Imp.refl rfl) rfl)
theorem c3Q (s:List UInt8) (hs:s.length<=1099511627776):A9 Tryz.prog 138 [sb s] (.v (.bool (a1P s))):=by
  refine kS Tryz.func138 (by cbv) (by rfl) fun w O=>?_
  simp only [j5,TT,II,OA,OC,MM,MG,sb]
  (repeat first|refine uA ?_|(apply uK;focus omega)|simp (disch:=omega) only [go_sem,Nat.reduceBEq,F4])
  refine S.loop (X:=Nat) (fun i=>⟨[(0,sb s),(5,ints s.length),(6,ints i)],[]⟩) (fun i=>i<=s.length/\∀ j (h:j < s.length),j < i->a0a s[j]=true) (fun i=>s.length-i) 0 ⟨c7n _,fun _ _ h=>absurd h (Nat.not_lt_zero _)⟩ (by (repeat first|refine uA ?_|(refine ⟨?_,?_⟩;focus first|rfl|simp [slot])|rfl|simp)) ?_
  rintro i ⟨hi,hg⟩
  simp only [sb,ints]
  (repeat first|refine uA ?_|(apply uK;focus omega)|simp (disch:=omega) only [go_sem,Nat.reduceBEq])
  (refine uJ rfl (fun hc=>?_) fun hc=>?_)
  · have hi':i < s.length:=by omega
    have hgi:s.getD i 0=s[i]:=by rw [c7u,c7h hi'];rfl
    (repeat first|refine uA ?_|(apply uK;focus first|omega|(intros;simp_all<;>omega))|simp (disch:=omega) only [go_sem,Nat.reduceBEq,F4,a0m,hgi,c7o])
    refine S.cond rfl (fun hc=>?_) (fun hc=>?_)
    · have hl:a0a s[i]=false:=by
        unfold a0a
        simp only [c7Y,c7v] at hc
        rw [Bool.and_eq_false_iff,c7H,c7H]
        omega
      rw [b2v hi' hl]
      (repeat first|refine uA ?_|(apply uK;focus omega)|simp (disch:=omega) only [go_sem])
      exact S.done (j3.out rfl (Imp.refl rfl) rfl)
    · have hl:a0a s[i]=true:=by
        unfold a0a
        simp only [c7V,c7H] at hc
        rw [c7q,c7v,c7v]
        omega
      (repeat first|refine uA ?_|(apply uK;focus omega)|simp (disch:=omega) only [go_sem,Nat.reduceBEq,ww])
      refine S.next (i+1) ⟨by omega,fun j h hj=>?_⟩ (by omega) (by (repeat first|refine uA ?_|(refine ⟨?_,?_⟩;focus first|rfl|simp [slot])|rfl|simp))
      rcases c7D j i with h1|h1
      · exact hg j h h1
      · have:j=i:=by omega
        subst this
        exact hl
  · have hi':i=s.length:=by omega
    subst hi'
    have e1:decide ((1:Int)<=(s.length:Int))=decide (1<=s.length):=decide_eq_decide.2 (by omega)
    have e2:decide ((s.length:Int)<=12)=decide (s.length<=12):=decide_eq_decide.2 (by omega)
    rw [b4K fun j h=>hg j h h]
    (repeat first|refine uA ?_|(apply uK;focus omega)|simp (disch:=omega) only [go_sem,Nat.reduceBEq,F4,e1,e2])
    (try simp only [e1,e2,go_sem])
    exact S.done (j3.out rfl (Imp.refl rfl) rfl)
theorem a9S (l:List Nm.Rt) (hl:Rbs 17179869184 l):FZ 105 [rts l] (.v (.bool (l.all l6))):=by
  refine kW Tryz.func105 (by cbv) (by rfl) fun w O hw=>?_
  obtain ⟨hn,hb⟩:=hl
  simp only [j5,TT,II,OA,OB,MM,LL,rts]
  (repeat first|refine uA ?_|(apply uK;focus omega)|simp (disch:=omega) only [go_sem,Nat.reduceBEq,c7i])
  refine S.loop (X:=Nat) (fun i=>⟨[(5,rts l),(6,ints l.length),(7,ints i)],[]⟩) (fun i=>i<=l.length/\l.all l6=(l.drop i).all l6) (fun i=>l.length-i) 0 ⟨c7n _,rfl⟩ (by (repeat first|refine uA ?_|(refine ⟨?_,?_⟩;focus first|rfl|simp [slot])|rfl|simp)) ?_
  rintro i ⟨hi,hg⟩
  simp only [rts,ints]
  (repeat first|refine uA ?_|(apply uK;focus omega)|simp (disch:=omega) only [go_sem,Nat.reduceBEq])
  (refine uJ rfl (fun hc=>?_) fun hc=>?_)
  · have hi':i < l.length:=by omega
    have hgi:=c7h hi'
    generalize l[i]=x at hgi
    have hd:=drop_at hgi
    have hs:=a4A x (hb x (c7k hgi))
    simp only [rc] at hs
    simp only [sb] at hs
    (repeat first|refine uA ?_|(apply uK;focus omega)|simp (disch:=omega) only [go_sem,Nat.reduceBEq,hgi,c7j,c7i,rcs,sb]|(apply uD hs;exact tz hw;rfl))
    refine S.cond rfl (fun hc=>?_) (fun hc=>?_)
    · have:l.all l6=false:=by
        rw [hg,hd,List.all_cons]
        simp only [Bool.not_eq_true'] at hc
        rw [hc];rfl
      rw [this]
      (repeat first|refine uA ?_|(apply uK;focus omega)|simp (disch:=omega) only [go_sem])
      exact S.done (j3.out rfl (Imp.refl rfl) rfl)
    · (repeat first|refine uA ?_|(apply uK;focus omega)|simp (disch:=omega) only [go_sem,Nat.reduceBEq,ww])
      refine S.next (i+1) ⟨by omega,?_⟩ (by omega) (by (repeat first|refine uA ?_|(refine ⟨?_,?_⟩;focus first|rfl|simp [slot])|rfl|simp))
      rw [hg,hd,List.all_cons]
      simp only [Bool.not_eq_false'] at hc
      rw [hc];rfl
  · have:l.all l6=true:=by rw [hg,List.drop_eq_nil_of_le (by omega)];rfl
    rw [this]
    (repeat first|refine uA ?_|(apply uK;focus omega)|simp (disch:=omega) only [go_sem])
    exact S.done (j3.out rfl (Imp.refl rfl) rfl)
namespace Eng
def frS (fr:List (Nat × C)):List (Nat × C)->Prop
 | []=>True
 | (t,s)::r=>(s=.junk \/ slot fr t=s)/\frS fr r
theorem b5d {fr:List (Nat × C)}:∀ {fr':List (Nat × C)},frS fr fr'->∀ t,slot fr' t=.junk \/ slot fr t=slot fr' t
 | [],_,t=>.inl rfl
 | (u,s)::r,h,t=>by
  simp only [slot]
  cases hb:(u == t) with
  | true=>
   have:u=t:=by simpa using hb
   subst this
   exact h.1
  | false=>exact b5d h.2 t
theorem Ent.fr {E:Ctx} {fr fr':List (Nat × C)} {rs rs':List Res} (h:rs=rs') (hf:frS fr fr'):Ent E ⟨fr,rs⟩ ⟨fr',rs'⟩:=by
 subst h
 intro wf ν a w hG
 refine ⟨ν,hG.dfr,hG.size,fun t=>?_,hG.rg,hG.frm,hG.nu⟩
 rcases b5d hf t with e|e
 ·rw [e];simp only [Den]
 ·rw [<- e];exact hG.fr t
end Eng
def a1f {α:Type} (p:α->Bool) (l:List α):Int:=match l.findIdx? p with|some i=>i|none=>-1
theorem a2z {α:Type} {p:α->Bool} {l:List α} {i:Nat} {x:α} (h:l[i]?=some x) (hp:p x=true) (hm:∀ j,j < i->∀ y,l[j]?=some y->p y=false):a1f p l=i:=by
 obtain ⟨hi,rfl⟩:=c7m.1 h
 have:l.findIdx? p=some i:=by
  rw [List.findIdx?_eq_some_iff_getElem]
  refine ⟨hi,hp,fun j hj=>?_⟩
  simp [hm j hj l[j] (c7h _)]
 unfold a1f
 rw [this]
theorem a1B {α:Type} {p:α->Bool} {l:List α} (hm:∀ j,j < l.length->∀ y,l[j]?=some y->p y=false):a1f p l=-1:=by
 have:l.findIdx? p=none:=by
  rw [List.findIdx?_eq_none_iff]
  intro x hx
  obtain ⟨j,hj⟩:=List.mem_iff_getElem?.1 hx
  exact hm j (c7m.1 hj).1 x hj
 unfold a1f
 rw [this]
theorem a3k {α:Type} (p:α->Bool) (l:List α):decide (0<=a1f p l)=l.any p:=by
 unfold a1f
 cases h:l.findIdx? p with
 | none=>
  rw [List.findIdx?_eq_none_iff] at h
  have:l.any p=false:=by rw [List.any_eq_false];intro x hx;simp [h x hx]
  rw [this];rfl
 | some i=>
  rw [List.findIdx?_eq_some_iff_getElem] at h
  obtain ⟨h1,h2,_⟩:=h
  have:l.any p=true:=by rw [List.any_eq_true];exact ⟨_,c7x h1,h2⟩
  rw [this]
  exact decide_eq_true (show (0:Int)<=(i:Int) by omega)
theorem c1x (g:Nat) (hcal:callable Tryz.prog g=true) (p:Vt->Bool) (l:List Vt) (hn:l.length<=1099511627776) (hg:∀ x ∈ l,FZ g [x.c] (.v (.bool (p x)))) :
  FZ 121 [vts l,.v (.func (.func g) #[] #[])] (ints (a1f p l)):=by
 refine kW Y2 Y1 (by rfl) fun w O hw=>?_
 simp only [P8,j5,TT,II,OA,MM,LL,vts]
 (repeat first|refine uA ?_|(apply uK;focus omega)|simp (disch:=omega) only [go_sem,Nat.reduceBEq,c7i])
 refine S.loop (X:=Nat) (fun i=>⟨[(0,vts l),(1,.v (.func (.func g) #[] #[])),(7,ints l.length),(8,ints i)],[]⟩) (fun i=>i<=l.length/\∀ j,j < i->∀ x,l[j]?=some x->p x=false) (fun i=>l.length-i) 0 ⟨c7n _,fun _ h=>absurd h (Nat.not_lt_zero _)⟩ (by (repeat first|refine uA ?_|(refine ⟨?_,?_⟩;focus first|rfl|simp [slot])|rfl|simp)) ?_
 rintro i ⟨hi,hm⟩
 simp only [vts,ints]
 (repeat first|refine uA ?_|(apply uK;focus omega)|simp (disch:=omega) only [go_sem,Nat.reduceBEq])
 (refine uJ rfl (fun hc=>?_) fun hc=>?_)
 ·have hi':i < l.length:=by omega
  have hgi:=c7h hi'
  generalize l[i]=x at hgi
  have hs:=hg x (c7k hgi)
  simp only [Vt.c,Vt.enc,sb] at hs
  (repeat first|refine uA ?_|(apply uK;focus omega)|simp (disch:=omega) only [go_sem,Nat.reduceBEq,hgi,c7j,c7i,Vt.enc,sb,c7o,hcal]|(apply uD hs;exact tz hw;rfl))
  refine S.cond rfl (fun hc2=>?_) (fun hc2=>?_)
  ·rw [a2z hgi hc2 hm]
   (repeat first|refine uA ?_|(apply uK;focus omega)|simp (disch:=omega) only [go_sem,Nat.reduceBEq])
   exact S.done (j3.out rfl (Imp.refl rfl) rfl)
  ·(repeat first|refine uA ?_|(apply uK;focus omega)|simp (disch:=omega) only [go_sem,Nat.reduceBEq,ww])
   refine S.next (i+1) ⟨by omega,fun j hj y hy=>?_⟩ (by omega) (by (repeat first|refine uA ?_|(refine ⟨?_,?_⟩;focus first|rfl|simp [slot])|rfl|simp))
   rcases c7D j i with h1|h1
   ·exact hm j h1 y hy
   ·have:j=i:=by omega
    subst this
    rw [hgi] at hy
    cases hy
    exact hc2
 ·have hi':i=l.length:=by omega
  subst hi'
  rw [a1B hm]
  (repeat first|refine uA ?_|(apply uK;focus omega)|simp (disch:=omega) only [go_sem])
  exact S.done (j3.out rfl (Imp.refl rfl) rfl)
theorem b4X (g:Nat) (hcal:callable Tryz.prog g=true) (p:Vt->Bool) (l:List Vt) (hn:l.length<=1099511627776) (hg:∀ x ∈ l,FZ g [x.c] (.v (.bool (p x)))) :
  FZ 57 [vts l,.v (.func (.func g) #[] #[])] (.v (.bool (l.any p))):=by
 refine kW W9 V9 (by rfl) fun w O hw=>?_
 have h:=c1x g hcal p l hn hg
 have e:=a3k p l
 generalize a1f p l=n at *
 simp only [N7,j5,TT,II,OA,MM]
 simp only [vts,ints] at *
 (repeat first|refine uA ?_|(apply uK;focus first|omega|(intros;simp_all<;>omega))|simp (disch:=omega) only [go_sem,Nat.reduceBEq,Nat.reduceAdd]|(apply uD h;exact tz hw;rfl))
 rw [e]
 exact S.done (j3.out rfl (Imp.refl rfl) rfl)
theorem c2q (g:Nat) (hcal:callable Tryz.prog g=true) (p:Nm.Rt->Bool) (l:List Nm.Rt) (hn:l.length<=1099511627776) (hg:∀ x ∈ l,FZ g [rc x] (.v (.bool (p x)))) :
  FZ 165 [rts l,.v (.func (.func g) #[] #[])] (ints (a1f p l)):=by
 refine kW Tryz.func165 (by cbv) (by rfl) fun w O hw=>?_
 simp only [j5,TT,II,OA,MM,LL,rts]
 (repeat first|refine uA ?_|(apply uK;focus omega)|simp (disch:=omega) only [go_sem,Nat.reduceBEq,c7i])
 refine S.loop (X:=Nat) (fun i=>⟨[(0,rts l),(1,.v (.func (.func g) #[] #[])),(7,ints l.length),(8,ints i)],[]⟩) (fun i=>i<=l.length/\∀ j,j < i->∀ x,l[j]?=some x->p x=false) (fun i=>l.length-i) 0 ⟨c7n _,fun _ h=>absurd h (Nat.not_lt_zero _)⟩ (by (repeat first|refine uA ?_|(refine ⟨?_,?_⟩;focus first|rfl|simp [slot])|rfl|simp)) ?_
 rintro i ⟨hi,hm⟩
 simp only [rts,ints]
 (repeat first|refine uA ?_|(apply uK;focus omega)|simp (disch:=omega) only [go_sem,Nat.reduceBEq])
 (refine uJ rfl (fun hc=>?_) fun hc=>?_)
 ·have hi':i < l.length:=by omega
  have hgi:=c7h hi'
  generalize l[i]=x at hgi
  have hs:=hg x (c7k hgi)
  simp only [rc,sb] at hs
  (repeat first|refine uA ?_|(apply uK;focus omega)|simp (disch:=omega) only [go_sem,Nat.reduceBEq,hgi,c7j,c7i,rcs,sb,c7o,hcal]|(apply uD hs;exact tz hw;rfl))
  refine S.cond rfl (fun hc2=>?_) (fun hc2=>?_)
  ·rw [a2z hgi hc2 hm]
   (repeat first|refine uA ?_|(apply uK;focus omega)|simp (disch:=omega) only [go_sem,Nat.reduceBEq])
   exact S.done (j3.out rfl (Imp.refl rfl) rfl)
  ·(repeat first|refine uA ?_|(apply uK;focus omega)|simp (disch:=omega) only [go_sem,Nat.reduceBEq,ww])
   refine S.next (i+1) ⟨by omega,fun j hj y hy=>?_⟩ (by omega) (by (repeat first|refine uA ?_|(refine ⟨?_,?_⟩;focus first|rfl|simp [slot])|rfl|simp))
   rcases c7D j i with h1|h1
   ·exact hm j h1 y hy
   ·have:j=i:=by omega
    subst this
    rw [hgi] at hy
    cases hy
    exact hc2
 ·have hi':i=l.length:=by omega
  subst hi'
  rw [a1B hm]
  (repeat first|refine uA ?_|(apply uK;focus omega)|simp (disch:=omega) only [go_sem])
  exact S.done (j3.out rfl (Imp.refl rfl) rfl)
theorem c1A (g:Nat) (hcal:callable Tryz.prog g=true) (p:Nm.Rt->Bool) (l:List Nm.Rt) (hn:l.length<=1099511627776) (hg:∀ x ∈ l,FZ g [rc x] (.v (.bool (p x)))) :
  FZ 122 [rts l,.v (.func (.func g) #[] #[])] (.v (.bool (l.any p))):=by
 refine kW Tryz.func122 (by cbv) (by rfl) fun w O hw=>?_
 have h:=c2q g hcal p l hn hg
 have e:=a3k p l
 generalize a1f p l=n at *
 simp only [j5,TT,II,OA,MM]
 simp only [rts,ints] at *
 (repeat first|refine uA ?_|(apply uK;focus first|omega|(intros;simp_all<;>omega))|simp (disch:=omega) only [go_sem,Nat.reduceBEq,Nat.reduceAdd]|(apply uD h;exact tz hw;rfl))
 rw [e]
 exact S.done (j3.out rfl (Imp.refl rfl) rfl)
theorem b8K (g:Nat) (hcal:callable Tryz.prog g=true) (p:Fr->Bool) (l:List Fr) (hn:l.length<=1099511627776) (hg:∀ x ∈ l,FZ g [x.c] (.v (.bool (p x)))) :
  FZ 120 [frs l,.v (.func (.func g) #[] #[])] (ints (a1f p l)):=by
 refine kW Tryz.func120 (by cbv) (by rfl) fun w O hw=>?_
 simp only [j5,TT,II,OA,MM,LL,frs]
 (repeat first|refine uA ?_|(apply uK;focus omega)|simp (disch:=omega) only [go_sem,Nat.reduceBEq,c7i])
 refine S.loop (X:=Nat) (fun i=>⟨[(0,frs l),(1,.v (.func (.func g) #[] #[])),(7,ints l.length),(8,ints i)],[]⟩) (fun i=>i<=l.length/\∀ j,j < i->∀ x,l[j]?=some x->p x=false) (fun i=>l.length-i) 0 ⟨c7n _,fun _ h=>absurd h (Nat.not_lt_zero _)⟩ (by (repeat first|refine uA ?_|(refine ⟨?_,?_⟩;focus first|rfl|simp [slot])|rfl|simp)) ?_
 rintro i ⟨hi,hm⟩
 simp only [frs,ints]
 (repeat first|refine uA ?_|(apply uK;focus omega)|simp (disch:=omega) only [go_sem,Nat.reduceBEq])
 (refine uJ rfl (fun hc=>?_) fun hc=>?_)
 ·have hi':i < l.length:=by omega
  have hgi:=c7h hi'
  generalize l[i]=x at hgi
  have hs:=hg x (c7k hgi)
  simp only [Fr.c,Fr.enc,sb] at hs
  (repeat first|refine uA ?_|(apply uK;focus omega)|simp (disch:=omega) only [go_sem,Nat.reduceBEq,hgi,c7j,c7i,Fr.enc,sb,c7o,hcal]|(apply uD hs;exact tz hw;rfl))
  refine S.cond rfl (fun hc2=>?_) (fun hc2=>?_)
  ·rw [a2z hgi hc2 hm]
   (repeat first|refine uA ?_|(apply uK;focus omega)|simp (disch:=omega) only [go_sem,Nat.reduceBEq])
   exact S.done (j3.out rfl (Imp.refl rfl) rfl)
  ·(repeat first|refine uA ?_|(apply uK;focus omega)|simp (disch:=omega) only [go_sem,Nat.reduceBEq,ww])
   refine S.next (i+1) ⟨by omega,fun j hj y hy=>?_⟩ (by omega) (by (repeat first|refine uA ?_|(refine ⟨?_,?_⟩;focus first|rfl|simp [slot])|rfl|simp))
   rcases c7D j i with h1|h1
   ·exact hm j h1 y hy
   ·have:j=i:=by omega
    subst this
    rw [hgi] at hy
    cases hy
    exact hc2
 ·have hi':i=l.length:=by omega
  subst hi'
  rw [a1B hm]
  (repeat first|refine uA ?_|(apply uK;focus omega)|simp (disch:=omega) only [go_sem])
  exact S.done (j3.out rfl (Imp.refl rfl) rfl)
theorem b7V (g:Nat) (hcal:callable Tryz.prog g=true) (p:Fr->Bool) (l:List Fr) (hn:l.length<=1099511627776) (hg:∀ x ∈ l,FZ g [x.c] (.v (.bool (p x)))) :
  FZ 54 [frs l,.v (.func (.func g) #[] #[])] (.v (.bool (l.any p))):=by
 refine kW Tryz.func54 (by cbv) (by rfl) fun w O hw=>?_
 have h:=b8K g hcal p l hn hg
 have e:=a3k p l
 generalize a1f p l=n at *
 simp only [j5,TT,II,OA,MM]
 simp only [frs,ints] at *
 (repeat first|refine uA ?_|(apply uK;focus first|omega|(intros;simp_all<;>omega))|simp (disch:=omega) only [go_sem,Nat.reduceBEq,Nat.reduceAdd]|(apply uD h;exact tz hw;rfl))
 rw [e]
 exact S.done (j3.out rfl (Imp.refl rfl) rfl)
set_option maxHeartbeats 8000000
theorem c1J {α:Type} (p:α->Bool) (a b c d e:α):[a,b,c,d,e].all p=(p a && p b && p c && p d && p e):=by simp [Bool.and_assoc]
theorem b2P {α:Type} (p:α->Bool) (a b c:α):[a,b,c].all p=(p a && p b && p c):=by simp [Bool.and_assoc]
theorem b2b {α:Type} (p:α->Bool) (a b:α):[a,b].all p=(p a && p b):=by simp
theorem Rbs.five {k:Nat} {a b c d e:Nm.Rt} (h:5<=k) (h1:Rb k a) (h2:Rb k b) (h3:Rb k c) (h4:Rb k d) (h5:Rb k e):Rbs k [a,b,c,d,e]:=⟨h,fun x hx=>by simp at hx;rcases hx with rfl|rfl|rfl|rfl|rfl<;>assumption⟩
theorem Rbs.three {k:Nat} {a b c:Nm.Rt} (h:3<=k) (h1:Rb k a) (h2:Rb k b) (h3:Rb k c):Rbs k [a,b,c]:=⟨h,fun x hx=>by simp at hx;rcases hx with rfl|rfl|rfl<;>assumption⟩
theorem Rbs.two {k:Nat} {a b:Nm.Rt} (h:2<=k) (h1:Rb k a) (h2:Rb k b):Rbs k [a,b]:=⟨h,fun x hx=>by simp at hx;rcases hx with rfl|rfl<;>assumption⟩
theorem c3y (l:Lk) (hl:Lb 1073741824 l):FZ 106 [l.c] (ints (O6 l)):=by
  refine kW b4h b4R (by rfl) fun w O hw=>?_
  obtain ⟨length,low,high,speed,brake,shape⟩:=l
  obtain ⟨b1,b2,b3,b4,b5,b6⟩:=hl
  simp only at b1 b2 b3 b4 b5 b6
  have c1:=b1.mono (m:=17179869184) (by decide)
  have c2:=b2.mono (m:=17179869184) (by decide)
  have c3:=b3.mono (m:=17179869184) (by decide)
  have c4:=b4.mono (m:=17179869184) (by decide)
  have c5:=b5.mono (m:=17179869184) (by decide)
  have hsm:=a9S _ (Rbs.five (by decide) c1 c2 c3 c4 c5)
  rw [c1J] at hsm
  have hs1:=a0g length c1
  have hcm:=Q9 low high c2 c3
  have hs2:=a0g speed c4
  have hs3:=a0g brake c5
  have hp:=a8V shape b6
  have hv:=fun (v:Vt) (h:v ∈ shape)=>a9S _ (Rbs.two (by decide) ((b6.2 v h).1.mono (m:=17179869184) (by decide)) ((b6.2 v h).2.mono (m:=17179869184) (by decide)))
  have hn:=b6.1
  unfold O6
  simp only
  generalize (l6 length && l6 low && l6 high && l6 speed && l6 brake)=q at *
  generalize E9 (Nm.d9 length)=n1 at *
  generalize Nm.q9 (Nm.d9 low) (Nm.d9 high)=n2 at *
  generalize E9 (Nm.d9 speed)=n3 at *
  generalize E9 (Nm.d9 brake)=n4 at *
  generalize L6 shape 8=n5 at *
  simp only [a7X,j5,TT,II,OA,OB,OC,MM,LL,VV,FF,LG,FG]
  simp only [Lk.c,Lk.enc,rc,rts,rcs,vts,sb,ints,c7w,c7I] at *
  (repeat first|refine uG hs1 ?_|refine uG hcm ?_|refine uG hsm ?_|refine uA ?_|(apply uK;focus first|omega|(intros;simp_all<;>omega))|simp (disch:=omega) only [go_sem,Nat.reduceBEq,Nat.reduceAdd]|(apply uD hs1;exact tz hw;rfl)|(apply uD hcm;exact tz hw;rfl)|(apply uE hsm;exact tz hw;exact rfl;focus (repeat' first|exact j4.nil|exact Imp.refl rfl|exact Imp.frz rfl rfl rfl|(refine Imp.V5 rfl rfl ?_ ?_;(focus ((try simp only [c7t]);omega));(focus first|rfl|assumption))|refine j4.cons ?_ ?_);done))
  refine S.cond rfl (fun hc=>?_) (fun hc=>?_)
  · rw [if_pos (by simp only [c7Y,Bool.not_eq_true',c7v] at hc;rcases hc with (hc|hc)|hc<;>simp [hc])]
    (repeat first|refine uA ?_|(apply uK;focus omega)|simp (disch:=omega) only [go_sem])
    exact S.done (j3.out rfl (Imp.refl rfl) rfl)
  rw [if_neg (by simp only [c7V,Bool.not_eq_false',c7H] at hc;simp [hc])]
  (repeat first|refine uG hs2 ?_|refine uG hs3 ?_|refine uA ?_|(apply uK;focus first|omega|(intros;simp_all<;>omega))|simp (disch:=omega) only [go_sem,Nat.reduceBEq,Nat.reduceAdd]|(apply uD hs2;exact tz hw;rfl)|(apply uD hs3;exact tz hw;rfl))
  refine S.cond rfl (fun hc=>?_) (fun hc=>?_)
  · rw [if_pos (by simp only [c7Y,c7v] at hc;exact hc)]
    (repeat first|refine uA ?_|(apply uK;focus omega)|simp (disch:=omega) only [go_sem])
    exact S.done (j3.out rfl (Imp.refl rfl) rfl)
  rw [if_neg (by simp only [c7V,c7H] at hc;simp [hc])]
  (repeat first|refine uG hp ?_|refine uA ?_|(apply uK;focus omega)|simp (disch:=omega) only [go_sem,Nat.reduceBEq]|(apply uD hp;exact tz hw;rfl))
  refine S.cond rfl (fun hc=>?_) (fun hc=>?_)
  · rw [if_pos (by simpa using hc)]
    (repeat first|refine uA ?_|(apply uK;focus omega)|simp (disch:=omega) only [go_sem,Nat.reduceBEq])
    exact S.done (j3.out rfl (Imp.refl rfl) rfl)
  rw [if_neg (by simpa using hc)]
  (repeat first|refine uA ?_|(apply uK;focus omega)|simp (disch:=omega) only [go_sem,Nat.reduceBEq,c7i])
  refine S.loop (X:=Nat) (fun i=>⟨[(50,vts shape),(51,ints shape.length),(52,ints i)],[]⟩) (fun i=>i<=shape.length/\(shape.all fun v=>l6 v.x && l6 v.y)=(shape.drop i).all fun v=>l6 v.x && l6 v.y) (fun i=>shape.length-i) 0 ⟨c7n _,rfl⟩ (by (repeat first|refine uA ?_|(refine ⟨?_,?_⟩;focus first|rfl|simp [slot])|rfl|simp)) ?_
  rintro i ⟨hi,hg⟩
  simp only [vts,ints]
  (repeat first|refine uA ?_|(apply uK;focus omega)|simp (disch:=omega) only [go_sem,Nat.reduceBEq])
  (refine uJ rfl (fun hc=>?_) fun hc=>?_)
  · have hi':i < shape.length:=by omega
    have hgi:=c7h hi'
    generalize shape[i]=x at hgi
    have hd:=drop_at hgi
    have hs:=hv x (c7k hgi)
    rw [b2b] at hs
    (repeat first|refine uG hs ?_|refine uA ?_|(apply uK;focus first|omega|(intros;simp_all<;>omega))|simp (disch:=omega) only [go_sem,Nat.reduceBEq,Nat.reduceAdd,hgi,c7j,c7i,Vt.enc,sb]|(apply uE hs;exact tz hw;exact rfl;focus (repeat' first|exact j4.nil|exact Imp.refl rfl|exact Imp.frz rfl rfl rfl|(refine Imp.V5 rfl rfl ?_ ?_;(focus ((try simp only [c7t,hgi,c7j,c7i,Vt.enc,sb]);omega));(focus first|rfl|assumption))|refine j4.cons ?_ ?_);done))
    refine S.cond rfl (fun hc2=>?_) (fun hc2=>?_)
    · have:(shape.all fun v=>l6 v.x && l6 v.y)=false:=by
        rw [hg,hd,List.all_cons]
        simp only [Bool.not_eq_true'] at hc2
        rw [hc2];rfl
      rw [this]
      (repeat first|refine uA ?_|(apply uK;focus omega)|simp (disch:=omega) only [go_sem])
      exact S.done (j3.out rfl (Imp.refl rfl) rfl)
    · (repeat first|refine uA ?_|(apply uK;focus omega)|simp (disch:=omega) only [go_sem,Nat.reduceBEq,ww])
      refine S.next (i+1) ⟨by omega,?_⟩ (by omega) (by (repeat first|refine uA ?_|(refine ⟨?_,?_⟩;focus first|rfl|simp [slot])|rfl|simp))
      rw [hg,hd,List.all_cons]
      simp only [Bool.not_eq_false'] at hc2
      rw [hc2];rfl
  · have:(shape.all fun v=>l6 v.x && l6 v.y)=true:=by rw [hg,List.drop_eq_nil_of_le (by omega)];rfl
    rw [this]
    (repeat first|refine uA ?_|(apply uK;focus omega)|simp (disch:=omega) only [go_sem])
    exact S.done (j3.out rfl (Imp.refl rfl) rfl)
theorem b0X (a:Am) (hl:Ab 1073741824 a):FZ 41 [a.c] (ints (J3 a)):=by
 refine kW b4g b4P (by rfl) fun w O hw=>?_
 obtain ⟨name,⟨x,y,half,t⟩,links⟩:=a
 obtain ⟨b0,⟨b1,b2,b3⟩,hn,hb⟩:=hl
 simp only at b0 b1 b2 b3 hn hb
 have c1:=b1.mono (m:=17179869184) (by decide)
 have c2:=b2.mono (m:=17179869184) (by decide)
 have c3:=b3.mono (m:=17179869184) (by decide)
 have hnm:=c1R name (by omega)
 have hsm:=a9S _ (Rbs.three (by decide) c1 c2 c3)
 rw [b2P] at hsm
 have hs:=a0g t c3
 unfold J3 a5w
 simp only
 generalize a1P name=q0 at *
 generalize (l6 x && l6 y && l6 t)=q at *
 generalize E9 (Nm.d9 t)=n1 at *
 simp only [a8a,j5,TT,II,OA,OB,OC,MM,LL,VV,FF,MG,LG,VG,FG]
 simp only [Am.c,Am.enc,rc,rts,rcs,lks,sb,ints,c7w,c7I] at *
 (repeat first|refine uF hnm ?_|refine uA ?_|(apply uK;focus first|omega|(intros;simp_all<;>omega))|simp (disch:=omega) only [go_sem,Nat.reduceBEq,Nat.reduceAdd]|(apply uB hnm;exact rfl))
 refine S.cond rfl (fun hc=>?_) (fun hc=>?_)
 ·rw [if_pos (by simpa using hc)]
  (repeat first|refine uA ?_|(apply uK;focus omega)|simp (disch:=omega) only [go_sem])
  exact S.done (j3.out rfl (Imp.refl rfl) rfl)
 rw [if_neg (by simpa using hc)]
 (repeat first|refine uA ?_|(apply uK;focus omega)|simp (disch:=omega) only [go_sem,Nat.reduceBEq,c7i])
 refine S.cond rfl (fun hc=>?_) (fun hc=>?_)
 ·rw [if_pos (by simp only [c7v] at hc;omega)]
  (repeat first|refine uA ?_|(apply uK;focus omega)|simp (disch:=omega) only [go_sem])
  exact S.done (j3.out rfl (Imp.refl rfl) rfl)
 rw [if_neg (by simp only [c7H] at hc;omega)]
 by_cases h0:links.length=0
 ·rw [if_pos (.inl h0)]
  have e0:decide ((links.length:Int)=0)=true:=decide_eq_true (by omega)
  (repeat first|refine uG hs ?_|refine uG hsm ?_|refine uA ?_|(apply uK;focus first|omega|(intros;simp_all<;>omega))|simp (disch:=omega) only [go_sem,Nat.reduceBEq,Nat.reduceAdd,c7i,e0]|(apply uD hs;exact tz hw;rfl)|(apply uE hsm;exact tz hw;exact rfl;focus (repeat' first|exact j4.nil|exact Imp.refl rfl|exact Imp.frz rfl rfl rfl|(refine Imp.V5 rfl rfl ?_ ?_;(focus ((try simp only [c7t,c7i,e0]);omega));(focus first|rfl|assumption))|refine j4.cons ?_ ?_);done))
  refine S.cond rfl (fun _=>?_) (fun hc=>by simp at hc)
  (repeat first|refine uA ?_|(apply uK;focus omega)|simp (disch:=omega) only [go_sem])
  exact S.done (j3.out rfl (Imp.refl rfl) rfl)
 have e0:decide ((links.length:Int)=0)=false:=decide_eq_false (by omega)
 (repeat first|refine uG hs ?_|refine uG hsm ?_|refine uA ?_|(apply uK;focus first|omega|(intros;simp_all<;>omega))|simp (disch:=omega) only [go_sem,Nat.reduceBEq,Nat.reduceAdd,c7i,e0]|(apply uD hs;exact tz hw;rfl)|(apply uE hsm;exact tz hw;exact rfl;focus (repeat' first|exact j4.nil|exact Imp.refl rfl|exact Imp.frz rfl rfl rfl|(refine Imp.V5 rfl rfl ?_ ?_;(focus ((try simp only [c7t,c7i,e0]);omega));(focus first|rfl|assumption))|refine j4.cons ?_ ?_);done))
 refine S.cond rfl (fun hc=>?_) (fun hc=>?_)
 ·rw [if_pos (by simp only [c7Y,Bool.not_eq_true'] at hc;rcases hc with hc|hc;(· exact .inr (.inl hc));(· exact .inr (.inr (by cases half<;>simp_all))))]
  (repeat first|refine uA ?_|(apply uK;focus omega)|simp (disch:=omega) only [go_sem])
  exact S.done (j3.out rfl (Imp.refl rfl) rfl)
 rw [if_neg (by simp only [c7V,Bool.not_eq_false'] at hc;rintro (h|h|h);(· omega);(· simp_all);(· cases half<;>simp_all))]
 (repeat first|refine uA ?_|(apply uK;focus omega)|simp (disch:=omega) only [go_sem,Nat.reduceBEq,c7i])
 refine S.loop (X:=Nat) (fun i=>⟨[(48,lks links),(49,ints links.length),(50,ints i)],[]⟩) (fun i=>i<=links.length/\I5 O6 links=I5 O6 (links.drop i)) (fun i=>links.length-i) 0 ⟨c7n _,rfl⟩ (by (repeat first|refine uA ?_|(refine ⟨?_,?_⟩;focus first|rfl|simp [slot])|rfl|simp)) ?_
 rintro i ⟨hi,hg⟩
 simp only [lks,ints]
 (repeat first|refine uA ?_|(apply uK;focus omega)|simp (disch:=omega) only [go_sem,Nat.reduceBEq])
 (refine uJ rfl (fun hc=>?_) fun hc=>?_)
 ·have hi':i < links.length:=by omega
  have hgi:=c7h hi'
  generalize links[i]=x at hgi
  have hst:=a2f (f:=O6) hgi
  have hnx:=a2d (f:=O6) hgi
  have hs:=c3y x (hb x (c7k hgi))
  generalize O6 x=e at *
  simp only [Lk.c,Lk.enc,vts,sb,ints] at hs
  (repeat first|refine uG hs ?_|refine uA ?_|(apply uK;focus omega)|simp (disch:=omega) only [go_sem,Nat.reduceBEq,hgi,c7j,c7i,Lk.enc,vts,sb]|(apply uD hs;exact tz hw;rfl))
  refine S.cond rfl (fun hc2=>?_) (fun hc2=>?_)
  ·rw [hg,hst (by simpa using hc2)]
   (repeat first|refine uA ?_|(apply uK;focus omega)|simp (disch:=omega) only [go_sem,Nat.reduceBEq])
   exact S.done (j3.out rfl (Imp.refl rfl) rfl)
  ·(repeat first|refine uA ?_|(apply uK;focus omega)|simp (disch:=omega) only [go_sem,Nat.reduceBEq,ww])
   refine S.next (i+1) ⟨by omega,?_⟩ (by omega) (by (repeat first|refine uA ?_|(refine ⟨?_,?_⟩;focus first|rfl|simp [slot])|rfl|simp))
   rw [hg,hnx (by simpa using hc2)]
 ·rw [hg,a2T (by omega)]
  (repeat first|refine uA ?_|(apply uK;focus omega)|simp (disch:=omega) only [go_sem])
  exact S.done (j3.out rfl (Imp.refl rfl) rfl)
def a4i (a:Am) (n:Int):Int:=if J3 a ≠ 0 then J3 a else if n ≠ a.links.length then 1 else 0
theorem b9A (a:Am) (n:Int) (hl:Ab 1073741824 a):FZ 154 [a.c,ints n] (ints (a4i a n)):=by
 refine kW Tryz.func154 (by cbv) (by rfl) fun w O hw=>?_
 have h:=b0X a hl
 unfold a4i
 generalize J3 a=e at *
 obtain ⟨name,⟨x,y,half,t⟩,links⟩:=a
 simp only [j5,TT,II,OA,MM,LL,VV,FF]
 simp only [Am.c,Am.enc,lks,sb,ints] at *
 (repeat first|refine uA ?_|(apply uK;focus omega)|simp (disch:=omega) only [go_sem,Nat.reduceBEq]|(apply uD h;exact tz hw;rfl))
 refine S.cond rfl (fun hc=>?_) (fun hc=>?_)
 ·rw [if_pos (by simpa using hc)]
  (repeat first|refine uA ?_|(apply uK;focus omega)|simp (disch:=omega) only [go_sem,Nat.reduceBEq])
  exact S.done (j3.out rfl (Imp.refl rfl) rfl)
 rw [if_neg (by simpa using hc)]
 (repeat first|refine uA ?_|(apply uK;focus first|omega|(intros;simp_all<;>omega))|simp (disch:=omega) only [go_sem,Nat.reduceBEq,Nat.reduceAdd,c7i])
 refine S.cond rfl (fun hc=>?_) (fun hc=>?_)
 ·rw [if_pos (by simpa using hc)]
  (repeat first|refine uA ?_|(apply uK;focus omega)|simp (disch:=omega) only [go_sem])
  exact S.done (j3.out rfl (Imp.refl rfl) rfl)
 ·rw [if_neg (by simpa using hc)]
  (repeat first|refine uA ?_|(apply uK;focus omega)|simp (disch:=omega) only [go_sem])
  exact S.done (j3.out rfl (Imp.refl rfl) rfl)
def a5S (x:Lk × Nm.Rt):Int:=if Nm.q9 (Nm.d9 x.2) (Nm.d9 x.1.low) < 0 \/ 0 < Nm.q9 (Nm.d9 x.2) (Nm.d9 x.1.high) then 17 else 0
theorem b3W (a:Am) (q:List Nm.Rt):a2m a q=if a4i a q.length ≠ 0 then a4i a q.length else I5 a5S (a.links.zip q):=by
 unfold a2m a4i
 by_cases h:J3 a=0
 ·rw [if_neg (by simp [h])]
  by_cases h2:q.length=a.links.length
  ·simp [h,h2];rfl
  ·have h3:¬ (q.length:Int)=a.links.length:=by omega
   simp [h,h2,h3]
 ·simp [h]
theorem O1 {α β:Type} {l:List α} {m:List β} {i:Nat} {x:α} {y:β} (h:l[i]?=some x) (k:m[i]?=some y):(l.zip m)[i]?=some (x,y):=by
 rw [List.getElem?_zip_eq_some];exact ⟨h,k⟩
theorem c5Y (a:Am) (q:List Nm.Rt) (hl:Ab 1073741824 a) (hq:Rbs 1073741824 q):FZ 119 [a.c,rts q] (ints (a2m a q)):=by
 refine kW b6h b6G (by rfl) fun w O hw=>?_
 have h:=b9A a q.length hl
 rw [b3W]
 have hlen:a4i a q.length=0->q.length=a.links.length:=by
  unfold a4i
  intro h
  split at h
  ·rename_i h1;exact absurd h h1
  ·split at h
   ·cases h
   ·rename_i h1;have:=Classical.not_not.1 h1;omega
 generalize a4i a q.length=e at *
 obtain ⟨hqn,hqb⟩:=hq
 obtain ⟨name,⟨x,y,half,t⟩,links⟩:=a
 obtain ⟨b0,⟨b1,b2,b3⟩,hn,hb⟩:=hl
 simp only at b0 b1 b2 b3 hn hb hlen
 simp only [a9r,j5,TT,II,OA,OB,OC,MM,LL,VV,FF,MG,LG,FG]
 simp only [Am.c,Am.enc,lks,sb,ints,rts] at *
 (repeat first|refine uA ?_|(refine uK ?_ ?_;focus first|omega|(intros;simp_all<;>omega))|simp (disch:=omega) only [go_sem,Nat.reduceBEq,Nat.reduceAdd,c7i]|(refine uD h ?_ ?_ ?_;exact tz hw;exact rfl))
 refine S.cond rfl (fun hc=>?_) (fun hc=>?_)
 ·rw [if_pos (by simpa using hc)]
  (repeat first|refine uA ?_|(refine uK ?_ ?_;focus first|omega|(intros;simp_all<;>omega))|simp (disch:=omega) only [go_sem,Nat.reduceBEq])
  exact S.done (j3.out rfl (Imp.refl rfl) rfl)
 rw [if_neg (by simpa using hc)]
 have hlen:=hlen (by simpa using hc)
 (repeat first|refine uA ?_|(refine uK ?_ ?_;focus first|omega|(intros;simp_all<;>omega))|simp (disch:=omega) only [go_sem,Nat.reduceBEq,Nat.reduceAdd,c7i])
 refine S.loop (X:=Nat) (fun i=>⟨[(1,rts q),(16,lks links),(17,ints links.length),(18,ints i)],[]⟩) (fun i=>i<=links.length/\I5 a5S (links.zip q)=I5 a5S ((links.zip q).drop i)) (fun i=>links.length-i) 0 ⟨c7n _,rfl⟩ (by (repeat first|refine uA ?_|(refine ⟨?_,?_⟩;focus first|rfl|simp [slot])|rfl|simp)) ?_
 rintro i ⟨hi,hg⟩
 simp only [rts,lks,ints]
 (repeat first|refine uA ?_|(refine uK ?_ ?_;focus first|omega|(intros;simp_all<;>omega))|simp (disch:=omega) only [go_sem,Nat.reduceBEq])
 (refine uJ rfl (fun hc=>?_) fun hc=>?_)
 ·have hi':i < links.length:=by omega
  have hgi:=c7h hi'
  have hgq:=c7h (show i < q.length by omega)
  generalize links[i]=x at hgi
  generalize q[i]'_=v at hgq
  have hz:=O1 hgi hgq
  have hst:=a2f (f:=a5S) hz
  have hnx:=a2d (f:=a5S) hz
  have bx:=hb x (c7k hgi)
  have bv:=(hqb v (c7k hgq)).mono (m:=17179869184) (by decide)
  have h1:=Q9 v x.low bv (bx.2.1.mono (by decide))
  have h2:=Q9 v x.high bv (bx.2.2.1.mono (by decide))
  unfold a5S at hst hnx
  simp only at hst hnx
  generalize Nm.q9 (Nm.d9 v) (Nm.d9 x.low)=n1 at *
  generalize Nm.q9 (Nm.d9 v) (Nm.d9 x.high)=n2 at *
  have hqi:(i:Int) < q.length:=by omega
  simp only [rc,sb,ints] at h1 h2
  (repeat first|refine uA ?_|(refine uK ?_ ?_;focus first|omega|(intros;simp_all<;>omega))|simp (disch:=omega) only [go_sem,Nat.reduceBEq,Nat.reduceAdd,hgi,hgq,c7j,c7i,Lk.enc,rcs,vts,sb,c7o]|(refine uD h1 ?_ ?_ ?_;exact tz hw;exact rfl)|(refine uD h2 ?_ ?_ ?_;exact tz hw;exact rfl))
  refine S.cond rfl (fun hc2=>?_) (fun hc2=>?_)
  ·have hp:n1 < 0 \/ 0 < n2:=by simpa using hc2
   rw [if_pos hp] at hst
   rw [hg,show a5S=fun x:Lk × Nm.Rt=>if Nm.q9 (Nm.d9 x.2) (Nm.d9 x.1.low) < 0 \/ 0 < Nm.q9 (Nm.d9 x.2) (Nm.d9 x.1.high) then 17 else 0 from rfl,hst (by decide)]
   (repeat first|refine uA ?_|(refine uK ?_ ?_;focus first|omega|(intros;simp_all<;>omega))|simp (disch:=omega) only [go_sem])
   exact S.done (j3.out rfl (Imp.refl rfl) rfl)
  ·have hp:¬ (n1 < 0 \/ 0 < n2):=by simpa using hc2
   rw [if_neg hp] at hnx
   (repeat first|refine uA ?_|(refine uK ?_ ?_;focus first|omega|(intros;simp_all<;>omega))|simp (disch:=omega) only [go_sem,Nat.reduceBEq,ww])
   refine S.next (i+1) ⟨by omega,?_⟩ (by omega) (by (repeat first|refine uA ?_|(refine ⟨?_,?_⟩;focus first|rfl|simp [slot])|rfl|simp))
   rw [hg,show a5S=fun x:Lk × Nm.Rt=>if Nm.q9 (Nm.d9 x.2) (Nm.d9 x.1.low) < 0 \/ 0 < Nm.q9 (Nm.d9 x.2) (Nm.d9 x.1.high) then 17 else 0 from rfl,hnx rfl]
 ·rw [hg,a2T (by rw [List.length_zip];omega)]
  (repeat first|refine uA ?_|(refine uK ?_ ?_;focus first|omega|(intros;simp_all<;>omega))|simp (disch:=omega) only [go_sem])
  exact S.done (j3.out rfl (Imp.refl rfl) rfl)
end Go.Proofs.YtgpegbfnlkidjaaGreatDoor
