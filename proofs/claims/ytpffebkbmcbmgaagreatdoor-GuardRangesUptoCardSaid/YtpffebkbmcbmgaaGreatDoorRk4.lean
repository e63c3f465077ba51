/- A part of the proof: lemmas only, with the conditions that each names. -/
import Derived.Test.YtpffebkbmcbmgaaGreatDoorProg
import Derived.KernelRfl
import Derived.Test.YtpffebkbmcbmgaaGreatDoorRk3
set_option linter.all false
namespace Go.Proofs.YtpffebkbmcbmgaaGreatDoor
open Go Go.RowKit Eng
set_option maxRecDepth 10000
set_option maxHeartbeats 4000000
structure Win (u:List Nat) (lo n v:Nat):Prop where
 hn:lo+n<=u.length
 hlo:lo < u.length
 hl:u.length<=17179869184
 ha:Nm.L8 u
 hv:Nm.wv 18446744073709551616 ((u.drop lo).take n)=v
 ht:Nm.G7 ((u.drop lo).take n)=(u.drop lo).take n
theorem Win.len {u:List Nat} {lo n v:Nat} (h:Win u lo n v):((u.drop lo).take n).length=n:=by
 have:=h.hn
 rw [c6O,c7s];omega
theorem b7E {us a:List Nat} {k:Nat} (hu:Nm.L8 us) (ha:Nm.L8 a):Nm.L8 (put us k a):=fun w hw=>by
 simp only [put,List.mem_append] at hw
 rcases hw with (hw|hw)|hw
 ·exact hu w (List.mem_of_mem_take hw)
 ·exact ha w hw
 ·exact hu w (List.mem_of_mem_drop hw)
theorem Win.put {u:List Nat} {l1 p z:Nat} (h1:l1+p<=u.length) (h2:l1 < u.length) (hl:u.length<=17179869184) (ha:Nm.L8 u) (hz:z < 18446744073709551616 ^ p) :
  Win (put u l1 (Nm.dig 18446744073709551616 p z)) l1 (Nm.G7 (Nm.dig 18446744073709551616 p z)).length z:=by
 have hpl:(Go.Proofs.YtpffebkbmcbmgaaGreatDoor.put u l1 (Nm.dig 18446744073709551616 p z)).length=u.length:=a0h (by rw [Nm.J4];omega)
 have htl:=Nm.b9a (Nm.dig 18446744073709551616 p z)
 rw [Nm.J4] at htl
 have hw:((Go.Proofs.YtpffebkbmcbmgaaGreatDoor.put u l1 (Nm.dig 18446744073709551616 p z)).drop l1).take (Nm.G7 (Nm.dig 18446744073709551616 p z)).length=Nm.G7 (Nm.dig 18446744073709551616 p z):=by
  have e:=a2E (us:=u) (k:=l1) (a:=Nm.dig 18446744073709551616 p z) (n:=p) (Nm.J4 _ _ _).symm (by rw [Nm.J4];omega)
  have e2:=congrArg (List.take (Nm.G7 (Nm.dig 18446744073709551616 p z)).length) e
  rw [List.take_take,Nat.min_eq_left htl,Nm.b6k] at e2
  exact e2
 refine ⟨by rw [hpl];omega,by rw [hpl];exact h2,by rw [hpl];exact hl,b7E ha (Nm.a1a (by decide) _ _),?_,?_⟩
 ·rw [hw,Nm.c1f,Nm.X6 hz]
 ·rw [hw]
  have h4:∀ l,Nm.G7 (Nm.G7 l)=Nm.G7 l:=fun l=>by
   by_cases h:Nm.G7 l=[]
   ·rw [h];rfl
   ·have h5:=Nm.a9O l h
    have h6:Nm.G7 l=(Nm.G7 l).dropLast++[(Nm.G7 l).getLast h]:=(List.dropLast_concat_getLast h).symm
    rw [h6,Nm.a4q h5]
  exact h4 _
theorem Win.last {u:List Nat} {lo n v:Nat} (h:Win u lo n v):∀ hh:(u.drop lo).take n ≠ [],((u.drop lo).take n).getLast hh ≠ 0:=by
 have ht:=h.ht
 generalize (u.drop lo).take n=x at *
 intro hh
 have:=Nm.a9O x (by rw [ht];exact hh)
 simpa only [ht] using this
theorem Win.all {u:List Nat} {lo n v:Nat} (h:Win u lo n v):Nm.L8 ((u.drop lo).take n):=(h.ha.drop lo).take n
theorem Win.zero {u:List Nat} {lo n v:Nat} (h:Win u lo n v) (h0:v=0):n=0:=by
 rcases c7d n with h1|h1
 ·exact h1
 ·exfalso
  have hl:=h.len
  have hla:=h.last
  have hv:=h.hv
  generalize (u.drop lo).take n=x at *
  have hne:x ≠ []:=fun e=>by subst e;simp at hl;omega
  have h2:=Nm.b3E (B:=18446744073709551616) (l:=x.dropLast) (hla hne)
  rw [List.dropLast_concat_getLast hne] at h2
  have:=Nat.pow_pos (n:=x.dropLast.length) (show 0 < 18446744073709551616 by decide)
  omega
theorem Win.nonzero {u:List Nat} {lo n v:Nat} (h:Win u lo n v) (h0:n=0):v=0:=by
 have:=h.hv;subst h0;rw [<- this];rfl
theorem Win.le {u o:List Nat} {lo n v lo2 n2 v2:Nat} (h:Win u lo n v) (h2:Win o lo2 n2 v2) (hle:v2<=v):n2<=n:=by
 rcases c7a n n2 with h1|h1
 ·exfalso
  have hl:=h2.len
  have hla:=h2.last
  have hv:=h2.hv
  have hl1:=Nm.K6 18446744073709551616 h.all
  rw [h.len,h.hv] at hl1
  generalize (o.drop lo2).take n2=x at *
  have hne:x ≠ []:=fun e=>by subst e;simp at hl;omega
  have h3:=Nm.b3E (B:=18446744073709551616) (l:=x.dropLast) (hla hne)
  rw [List.dropLast_concat_getLast hne,List.length_dropLast] at h3
  have h4:18446744073709551616 ^ n<=18446744073709551616 ^ (x.length-1):=c7k (by decide) (by omega)
  omega
 ·exact h1
theorem Win.v2 {u:List Nat} {lo n v:Nat} (h:Win u lo n v) (h0:v ≠ 0):Nm.v2 v<=70368744177664:=by
 obtain ⟨q,h1,h2⟩:=Nm.a2X h0
 have hl1:=Nm.K6 18446744073709551616 h.all
 rw [h.len,h.hv] at hl1
 have h3:2 ^ Nm.v2 v<=v:=by
  conv=>rhs;rw [h1]
  exact Nat.le_mul_of_pos_right _ (by omega)
 have h4:2 ^ Nm.v2 v < 2 ^ (64*n):=by rw [Nat.pow_mul];exact Nat.lt_of_le_of_lt h3 hl1
 have h5:=(Nat.pow_lt_pow_iff_right (by decide:1 < 2)).1 h4
 have:=h.hn;have:=h.hl
 omega
namespace Nm
theorem c3r (n k:Nat) (h:k < 8):(be8 n)[k]?=some (oB (n / 2 ^ (56-8*k))):=by
 have:k=0 \/ k=1 \/ k=2 \/ k=3 \/ k=4 \/ k=5 \/ k=6 \/ k=7:=by omega
 rcases this with rfl|rfl|rfl|rfl|rfl|rfl|rfl|rfl<;>simp [be8]
theorem a7W (n:Nat):(be8 n).length=8:=rfl
def a2i (l:List Nat):List UInt8:=(l.reverse.map be8).flatten
theorem a9C (l:List Nat) (x:Nat):a2i (l++[x])=be8 x++a2i l:=by simp [a2i]
theorem b1H (r:List Nat) (h:L8 r.reverse):(a2i r.reverse).length=8*r.length/\val (a2i r.reverse)=wv 18446744073709551616 r.reverse:=by
 induction r with
 | nil=>exact ⟨rfl,rfl⟩
 | cons x r ih=>
  rw [List.reverse_cons] at h ⊢
  obtain ⟨h1,h2⟩:=ih fun w hw=>h w (List.mem_append_left _ hw)
  rw [a9C,a7S,b5t,h1,h2,b5R (h x (by simp)),List.length_reverse,c6M,a7W,h1,c7g]
  refine ⟨by omega,?_⟩
  rw [Nat.pow_mul,show (256:Nat) ^ 8=18446744073709551616 by decide,Nat.mul_comm x,Nat.add_comm]
theorem b1p {l:List Nat} (h:L8 l):(a2i l).length=8*l.length:=by
 have:=(b1H l.reverse (by simpa using h)).1
 simpa using this
theorem b8n {l:List Nat} (h:L8 l):val (a2i l)=wv 18446744073709551616 l:=by
 have:=(b1H l.reverse (by simpa using h)).2
 simpa using this
def a1T (l:List Nat) (i k:Nat):List UInt8:=List.replicate (8*(l.length-1-i)) 0++((be8 (l.getD i 0)).take k++List.replicate (8-k) 0)++a2i (l.take i)
def a4P (l:List Nat) (i:Nat):List UInt8:=List.replicate (8*(l.length-i)) 0++a2i (l.take i)
theorem b7t (l:List Nat):a4P l 0=List.replicate (8*l.length) 0:=by simp [a4P,a2i]
theorem b3u (l:List Nat):a4P l l.length=a2i l:=by simp [a4P]
theorem b0Z {l:List Nat} {i:Nat} (h:i < l.length):a1T l i 0=a4P l i:=by
 rw [a1T,a4P,List.take_zero,List.nil_append,Nat.sub_zero,List.replicate_append_replicate]
 congr 2;omega
theorem a9x {l:List Nat} {i:Nat} (h:i < l.length):a1T l i 8=a4P l (i+1):=by
 have e:l.take (i+1)=l.take i++[l.getD i 0]:=by
  rw [List.take_add_one,c6T,c6E h];rfl
 rw [a1T,a4P,e,a9C,c7b (by rw [a7W];exact c6N _),Nat.sub_self,List.replicate_zero,List.append_nil,c7u]
 congr 3;omega
theorem b4h {l:List Nat} (hl:L8 l) {i k:Nat} (h:i < l.length) (hk:k<=8):(a1T l i k).length=8*l.length:=by
 simp only [a1T,c6M,List.length_replicate,c6O,a7W,b1p (hl.take i),c6O]
 omega
theorem b1M {l:List Nat} {i k:Nat} (hk:k < 8):(a1T l i k).set (8*(l.length-1-i)+k) (oB (l.getD i 0 / 2 ^ (56-8*k)))=a1T l i (k+1):=by
 have e:(be8 (l.getD i 0)).take (k+1)=(be8 (l.getD i 0)).take k++[oB (l.getD i 0 / 2 ^ (56-8*k))]:=by
  rw [List.take_add_one,c3r _ _ hk];rfl
 have e2:List.replicate (8-k) (0:UInt8)=0::List.replicate (8-(k+1)) 0:=by rw [<- List.replicate_succ];congr 1;omega
 have hlk:((be8 (l.getD i 0)).take k).length=k:=by rw [c6O,a7W];omega
 rw [a1T,a1T,e,e2,List.set_append_left _ _ (by simp only [c6M,List.length_replicate,hlk,c7g];omega),List.set_append_right _ _ (by simp),List.length_replicate,Nat.add_sub_cancel_left,List.set_append_right _ _ (by omega),hlk,Nat.sub_self,List.set_cons_zero,c7u (List.take k _),List.singleton_append]
theorem b9i (n:Nat):val (oB (2 ^ (n % 8))::List.replicate (n / 8) 0)=2 ^ n:=by
 have h0:val (List.replicate (n / 8) (0:UInt8))=0:=by
  generalize n / 8=k
  induction k with
  | zero=>rfl
  | succ k ih=>rw [List.replicate_succ,a0e,ih];simp
 have h1:2 ^ (n % 8) < 256:=by
  have:2 ^ (n % 8)<=2 ^ 7:=c7k (by decide) (by omega)
  omega
 rw [a0e,h0,a2b,Nat.mod_eq_of_lt h1,List.length_replicate,Nat.add_zero,show (256:Nat)=2 ^ 8 by decide,<- Nat.pow_mul,<- Nat.pow_add]
 congr 1;omega
end Nm
structure Hv where
 s:Bool
 u:List Nat
 lo:Nat
 n:Nat
 v:Nat
 o:List Nat
 lo2:Nat
 n2:Nat
 v2:Nat
theorem c1o (a b:List UInt8) (ha:a.length<=68719476736) (hb:b.length<=68719476736) (h0a:Nm.val a ≠ 0) (h0b:Nm.val b ≠ 0):FZ 185 [sb a,sb b] (sb (Nm.enc (Nat.gcd (Nm.val a) (Nm.val b)))):=by
  refine kW Tryz.func185 (by cbv) (by rfl) fun w O hw=>?_
  simp only [j6,TT,II,OA,OB,OC,MM,VV,MG,sb]
  have hla:=b5f a (by omega)
  have hlb:=b5f b (by omega)
  have hva:=Nm.a9D a
  have hvb:=Nm.a9D b
  have haa:=Nm.a9F a
  have hab:=Nm.a9F b
  have hna:=Nm.a8J a
  have hnb:=Nm.a8J b
  obtain ⟨za,hza,hoa⟩:=Nm.a2X h0a
  obtain ⟨zb,hzb,hob⟩:=Nm.a2X h0b
  have hG:Nat.gcd (Nm.val a) (Nm.val b)=2 ^ (min (Nm.v2 (Nm.val a)) (Nm.v2 (Nm.val b)))*Nat.gcd za zb:=by
    conv=>lhs;rw [hza,hzb]
    exact Nm.c0w hoa hob
  rw [hG]
  have fea:=a8e (Nm.Q8 a) (by omega) haa (by rw [hva];exact h0a)
  have feb:=a8e (Nm.Q8 b) (by omega) hab (by rw [hvb];exact h0b)
  rw [hva] at fea
  rw [hvb] at feb
  have hba:Nm.v2 (Nm.val a)<=549755813888:=by
    have h1:=Nm.a0d a
    have h3:2 ^ Nm.v2 (Nm.val a)<=Nm.val a:=by
      conv=>rhs;rw [hza]
      exact Nat.le_mul_of_pos_right _ (by omega)
    have h4:2 ^ Nm.v2 (Nm.val a) < 2 ^ (8*a.length):=by rw [Nat.pow_mul];exact Nat.lt_of_le_of_lt h3 h1
    have h5:=(Nat.pow_lt_pow_iff_right (by decide:1 < 2)).1 h4
    omega
  have hbb:Nm.v2 (Nm.val b)<=549755813888:=by
    have h1:=Nm.a0d b
    have h3:2 ^ Nm.v2 (Nm.val b)<=Nm.val b:=by
      conv=>rhs;rw [hzb]
      exact Nat.le_mul_of_pos_right _ (by omega)
    have h4:2 ^ Nm.v2 (Nm.val b) < 2 ^ (8*b.length):=by rw [Nat.pow_mul];exact Nat.lt_of_le_of_lt h3 h1
    have h5:=(Nat.pow_lt_pow_iff_right (by decide:1 < 2)).1 h4
    omega
  have hla0:0 < (Nm.Q8 a).length:=by
    rcases c7d (Nm.Q8 a).length with h|h
    · have:=List.length_eq_zero_iff.1 h
      rw [this] at hva;exact absurd hva.symm h0a
    · exact h
  have hlb0:0 < (Nm.Q8 b).length:=by
    rcases c7d (Nm.Q8 b).length with h|h
    · have:=List.length_eq_zero_iff.1 h
      rw [this] at hvb;exact absurd hvb.symm h0b
    · exact h
  generalize Nm.v2 (Nm.val a)=p at *
  generalize Nm.v2 (Nm.val b)=q at *
  have hwa:Nm.wv 18446744073709551616 (((Nm.Q8 a).drop 0).take (Nm.Q8 a).length)=za*2 ^ p:=by
    rw [List.drop_zero,c6X,hva,hza,Nat.mul_comm]
  have hwb:Nm.wv 18446744073709551616 (((Nm.Q8 b).drop 0).take (Nm.Q8 b).length)=zb*2 ^ q:=by
    rw [List.drop_zero,c6X,hvb,hzb,Nat.mul_comm]
  clear hG hza hzb hva hvb h0a h0b
  generalize hA:Nm.Q8 a=A at *
  generalize hB:Nm.Q8 b=B at *
  have hr1:=fun (E:Ctx) (hP:E.P=Tryz.prog)=>a8j (E:=E) hP true A B 0 A.length p za (by omega) (by omega) (by omega) haa (by omega) hwa
  obtain ⟨hj1,hz1,_⟩:=hr1 ⟨Tryz.prog,eff,0,w,fun _=>False,O,[],[]⟩ rfl
  have hr1:=fun E hP=>(hr1 E hP).2.2
  have hW1:=Win.put (u:=A) (l1:=0+p / 64) (p:=A.length-p / 64) (z:=za) (by omega) (by omega) (by omega) haa hz1
  generalize hA1:put A (0+p / 64) (Nm.dig 18446744073709551616 (A.length-p / 64) za)=A1 at *
  generalize 0+p / 64=la at *
  generalize (Nm.G7 (Nm.dig 18446744073709551616 (A.length-p / 64) za)).length=na at *
  have hr2:=fun (E:Ctx) (hP:E.P=Tryz.prog)=>a8j (E:=E) hP false B A1 0 B.length q zb (by omega) (by omega) (by omega) hab (by omega) hwb
  obtain ⟨hj2,hz2,_⟩:=hr2 ⟨Tryz.prog,eff,0,w,fun _=>False,O,[],[]⟩ rfl
  have hr2:=fun E hP=>(hr2 E hP).2.2
  have hW2:=Win.put (u:=B) (l1:=0+q / 64) (p:=B.length-q / 64) (z:=zb) (by omega) (by omega) (by omega) hab hz2
  generalize hB1:put B (0+q / 64) (Nm.dig 18446744073709551616 (B.length-q / 64) zb)=B1 at *
  generalize 0+q / 64=lb at *
  generalize (Nm.G7 (Nm.dig 18446744073709551616 (B.length-q / 64) zb)).length=nb at *
  have hr1':∀ (E:Ctx),E.P=Tryz.prog->l8 E [.row 183 1 (ls A),.row 183 1 (ls B)] 209 [.rv 0,ints p] (.wv 0 1 la na) [.row 183 1 (ls A1),.row 183 1 (ls B)] []:=fun E hP=>l8.imp (hr1 E hP) (j5.cons (Imp.win (k:=0) (e:=183) (sz:=1) (es:=ls A) rfl (F9 _).symm (by simp)) (j5.cons (Imp.refl rfl) j5.nil))
  have hr2':∀ (E:Ctx),E.P=Tryz.prog->l8 E [.row 183 1 (ls A1),.row 183 1 (ls B)] 209 [.rv 1,ints q] (.wv 1 1 lb nb) [.row 183 1 (ls A1),.row 183 1 (ls B1)] []:=fun E hP=>l8.imp (hr2 E hP) (j5.cons (Imp.win (k:=1) (e:=183) (sz:=1) (es:=ls B) rfl (F9 _).symm (by simp)) (j5.cons (Imp.refl rfl) j5.nil))
  (repeat first|refine uA ?_|(apply uK;focus omega)|simp (disch:=omega) only [go_sem,Nat.reduceBEq,Nat.reduceAdd]|refine p8.t (FNew.t hla rfl) ?_|refine p8.t (FNew.t hlb rfl) ?_|refine p8.t (hr1' _ rfl) ?_|refine p8.t (hr2' _ rfl) ?_|(apply uE fea;exact tz hw;exact rfl;focus (repeat' first|exact j5.nil|exact Imp.refl rfl|exact Imp.frz rfl rfl rfl|(refine Imp.M8 rfl rfl ?_ ?_;(focus ((try simp only [c6M]);omega));(focus first|rfl|assumption))|refine j5.cons ?_ ?_);done)|(apply uE feb;exact tz hw;exact rfl;focus (repeat' first|exact j5.nil|exact Imp.refl rfl|exact Imp.frz rfl rfl rfl|(refine Imp.M8 rfl rfl ?_ ?_;(focus ((try simp only [c6M]);omega));(focus first|rfl|assumption))|refine j5.cons ?_ ?_);done))
  clear hr1 hr2 hr1' hr2' hla hlb fea feb hwa hwb hA hB hA1 hB1 hz1 hz2 hj1 hj2 haa hab hla0 hlb0 hna hnb
  have hmin:min p q<=549755813888:=by omega
  generalize hG:Nat.gcd za zb=G at *
  refine S.c1O (Y:=Hv) (fun x=>⟨[(5,.wv (kx x.s) 1 x.lo x.n),(6,.wv (kx !x.s) 1 x.lo2 x.n2),(7,ints p),(8,ints q)],rw2 x.s x.u x.o⟩)
    (fun x=>Win x.u x.lo x.n x.v/\Win x.o x.lo2 x.n2 x.v2/\((x.n=0/\x.v2=G) \/ (x.n=1/\x.n2=1/\Nat.gcd x.v x.v2=G))) ?_ ?_
  · refine S.loop (X:=Hv) (fun x=>⟨[(5,.wv (kx x.s) 1 x.lo x.n),(6,.wv (kx !x.s) 1 x.lo2 x.n2),(7,ints p),(8,ints q)],rw2 x.s x.u x.o⟩)
      (fun x=>Win x.u x.lo x.n x.v/\Win x.o x.lo2 x.n2 x.v2/\x.v % 2=1/\x.v2 % 2=1/\Nat.gcd x.v x.v2=G) (fun x=>x.v+x.v2) ⟨true,A1,la,na,za,B1,lb,nb,zb⟩ ⟨hW1,hW2,hoa,hob,hG⟩ (by (repeat first|refine uA ?_|(refine ⟨?_,?_⟩;focus first|rfl|trivial|(simp [slot];done))|rfl|trivial|simp)) ?_
    clear hW1 hW2 hG hoa hob
    rintro ⟨s,u,lo,n,v,o,lo2,n2,v2⟩ ⟨hW1,hW2,hoa,hob,hG⟩
    simp only [ints] at hW1 hW2 hoa hob hG ⊢
    (repeat first|refine uA ?_|(apply uK;focus first|omega|(intros;simp_all<;>omega))|simp (disch:=omega) only [go_sem,Nat.reduceBEq])
    (refine uJ rfl (fun hc=>?_) fun hc=>?_)
    · refine S.skip ?_
      refine S.block ?_
      refine S.seq ?_
      have hl1:=hW1.hl
      have hl2:=hW2.hl
      have hn1:=hW1.hn
      have hn2:=hW2.hn
      have hwl:∀ (u:List Nat) lo n,ls ((u.drop lo).take n)=((ls u).drop lo).take n:=fun u lo n=>by simp [ls,List.map_drop,List.map_take]
      refine S.join (Y:=Hv) (fun x=>⟨[(5,.wv (kx x.s) 1 x.lo x.n),(6,.wv (kx !x.s) 1 x.lo2 x.n2),(7,ints p),(8,ints q)],rw2 x.s x.u x.o⟩)
        (fun x=>Win x.u x.lo x.n x.v/\Win x.o x.lo2 x.n2 x.v2/\x.v % 2=1/\x.v2 % 2=1/\Nat.gcd x.v x.v2=G/\x.v2<=x.v/\x.v+x.v2=v+v2) ?_ ?_
      · have hb:=c2K ((u.drop lo).take n) ((o.drop lo2).take n2) (by rw [hW1.len];omega) (by rw [hW2.len];omega) hW1.all hW2.all hW1.last hW2.last
        rw [hwl,hwl,hW1.hv,hW2.hv] at hb
        cases s
        all_goals
          simp only [rw2,kx,Bool.not_true,Bool.not_false]
          (repeat first|refine uA ?_|(apply uK;focus omega)|simp only [go_sem,Nat.reduceBEq]|simp (disch:=omega) only [ww,F9]|(apply uC hb;exact rfl;focus (repeat' first|exact j5.nil|exact Imp.refl rfl|exact Imp.frz rfl rfl rfl|(refine Imp.M8 rfl rfl ?_ ?_;(focus ((try simp only [F9]);omega));(focus first|rfl|assumption))|refine j5.cons ?_ ?_);done))
          refine S.cond rfl (fun hc=>?_) (fun hc=>?_)
          all_goals simp only [c6S,c7c] at hc
        · (repeat first|refine uA ?_|(apply uK;focus omega)|simp (disch:=omega) only [go_sem,Nat.reduceBEq])
          exact S.met ⟨true,o,lo2,n2,v2,u,lo,n,v⟩ ⟨hW2,hW1,hob,hoa,by rw [Nat.gcd_comm];exact hG,by simp only;omega,by simp only;omega⟩ (by (repeat first|refine uA ?_|(refine ⟨?_,?_⟩;focus first|rfl|trivial|(simp [slot];done))|rfl|trivial|simp))
        · (repeat first|refine uA ?_|(apply uK;focus omega)|simp (disch:=omega) only [go_sem,Nat.reduceBEq,ww])
          exact S.met ⟨false,u,lo,n,v,o,lo2,n2,v2⟩ ⟨hW1,hW2,hoa,hob,hG,by simp only;omega,rfl⟩ (by (repeat first|refine uA ?_|(refine ⟨?_,?_⟩;focus first|rfl|trivial|(simp [slot];done))|rfl|trivial|simp))
        · (repeat first|refine uA ?_|(apply uK;focus omega)|simp (disch:=omega) only [go_sem,Nat.reduceBEq])
          exact S.met ⟨false,o,lo2,n2,v2,u,lo,n,v⟩ ⟨hW2,hW1,hob,hoa,by rw [Nat.gcd_comm];exact hG,by simp only;omega,by simp only;omega⟩ (by (repeat first|refine uA ?_|(refine ⟨?_,?_⟩;focus first|rfl|trivial|(simp [slot];done))|rfl|trivial|simp))
        · (repeat first|refine uA ?_|(apply uK;focus omega)|simp (disch:=omega) only [go_sem,Nat.reduceBEq,ww])
          exact S.met ⟨true,u,lo,n,v,o,lo2,n2,v2⟩ ⟨hW1,hW2,hoa,hob,hG,by simp only;omega,rfl⟩ (by (repeat first|refine uA ?_|(refine ⟨?_,?_⟩;focus first|rfl|trivial|(simp [slot];done))|rfl|trivial|simp))
      clear hl1 hl2 hn1 hn2 hW1 hW2 hoa hob hG hc
      rintro ⟨s,u1,lo1,n1,x1,o1,lo3,n3,x3⟩ ⟨hW1,hW2,hoa,hob,hG,hle,hsum⟩
      simp only [ints] at hW1 hW2 hoa hob hG hle hsum ⊢
      have hl1:=hW1.hl
      have hl2:=hW2.hl
      have hn1:=hW1.hn
      have hn2:=hW2.hn
      have hlo1:=hW1.hlo
      have hlt1:x1 < 18446744073709551616 ^ n1:=by
        have:=Nm.K6 18446744073709551616 hW1.all
        rwa [hW1.len,hW1.hv] at this
      have hmin:=fun (E:Ctx) (hP:E.P=Tryz.prog) (s:Bool)=>c2v (E:=E) hP s u1 o1 lo1 n1 lo3 n3 (by omega) (by omega) hn1 hlo1 hn2 (hW1.le hW2 hle) hW1.ha hW2.ha hW1.hv.symm hW2.hv.symm hle
      have hW3:=Win.put (u:=u1) (l1:=lo1) (p:=n1) (z:=x1-x3) hn1 hlo1 hl1 hW1.ha (by omega)
      generalize put u1 lo1 (Nm.dig 18446744073709551616 n1 (x1-x3))=u2 at *
      generalize (Nm.G7 (Nm.dig 18446744073709551616 n1 (x1-x3))).length=m1 at *
      have hl3:=hW3.hl
      have hn3:=hW3.hn
      have hmt:∀ E:Ctx,E.P=Tryz.prog->l8 E [.row 183 1 (ls u1),.row 183 1 (ls o1)] 211 [.wv 0 1 lo1 n1,.wv 1 1 lo3 n3] (.wv 0 1 lo1 m1) [.row 183 1 (ls u2),.row 183 1 (ls o1)] []:=fun E hP=>hmin E hP true
      have hmf:∀ E:Ctx,E.P=Tryz.prog->l8 E [.row 183 1 (ls o1),.row 183 1 (ls u1)] 211 [.wv 1 1 lo1 n1,.wv 0 1 lo3 n3] (.wv 1 1 lo1 m1) [.row 183 1 (ls o1),.row 183 1 (ls u2)] []:=fun E hP=>hmin E hP false
      clear hmin
      cases s
      all_goals
        simp only [rw2,kx,Bool.not_true,Bool.not_false]
        (repeat first|refine uA ?_|(apply uK;focus omega)|simp only [go_sem,Nat.reduceBEq]|simp (disch:=omega) only [ww,F9]|refine p8.t (hmt _ rfl) ?_|refine p8.t (hmf _ rfl) ?_)
        (refine uJ rfl (fun hc=>?_) fun hc=>?_)
      · (repeat first|refine uA ?_|(apply uK;focus omega)|simp (disch:=omega) only [go_sem,Nat.reduceBEq,ww])
        have h0:=hW3.nonzero (by omega)
        have h1:x1=x3:=by omega
        subst h1
        rw [Nat.gcd_self] at hG
        exact S.met ⟨false,u2,lo1,m1,x1-x1,o1,lo3,n3,x1⟩ ⟨hW3,hW2,.inl ⟨by simp only;omega,hG⟩⟩ (by (repeat first|refine uA ?_|(refine ⟨?_,?_⟩;focus first|rfl|trivial|(simp [slot];done))|rfl|trivial|simp))
      · have h0:x1-x3 ≠ 0:=fun h=>by have:=hW3.zero h;omega
        obtain ⟨z,hz,hoz⟩:=Nm.a2X h0
        have hev:=a8e ((u2.drop lo1).take m1) (by rw [hW3.len];omega) hW3.all (by rw [hW3.hv];exact h0)
        rw [hwl,hW3.hv] at hev
        have heb:=hW3.v2 h0
        generalize Nm.v2 (x1-x3)=e at *
        have hrg:=fun (E:Ctx) (hP:E.P=Tryz.prog)=>a8j (E:=E) hP false u2 o1 lo1 m1 e z (by omega) hn3 heb hW3.ha (by omega) (by rw [hW3.hv,hz,Nat.mul_comm])
        obtain ⟨hj,hz2,_⟩:=hrg ⟨Tryz.prog,eff,0,w,fun _=>False,O,[],[]⟩ rfl
        have hrg:=fun E hP=>(hrg E hP).2.2
        have hW4:=Win.put (u:=u2) (l1:=lo1+e / 64) (p:=m1-e / 64) (z:=z) (by omega) (by omega) hl3 hW3.ha hz2
        generalize put u2 (lo1+e / 64) (Nm.dig 18446744073709551616 (m1-e / 64) z)=u4 at *
        generalize lo1+e / 64=lo4 at *
        generalize (Nm.G7 (Nm.dig 18446744073709551616 (m1-e / 64) z)).length=m4 at *
        have hrg':∀ (E:Ctx),E.P=Tryz.prog->l8 E [.row 183 1 (ls o1),.row 183 1 (ls u2)] 209 [.wv 1 1 lo1 m1,ints e] (.wv 1 1 lo4 m4) [.row 183 1 (ls o1),.row 183 1 (ls u4)] []:=fun E hP=>hrg E hP
        have hgz:Nat.gcd z x3=G:=by
          have h1:=Nm.a6F (d:=z) hob e
          rw [<- h1,<- hz,Nm.b1q hle,hG]
        have hzle:z<=x1-x3:=by
          conv=>rhs;rw [hz]
          exact Nat.le_mul_of_pos_left _ (Nat.pow_pos (by decide))
        (repeat first|refine uA ?_|(apply uK;focus omega)|simp only [go_sem,Nat.reduceBEq]|simp (disch:=omega) only [ww,F9]|refine p8.t (hrg' _ rfl) ?_|(apply uE hev;exact tz hw;exact rfl;focus (repeat' first|exact j5.nil|exact Imp.refl rfl|exact Imp.frz rfl rfl rfl|(refine Imp.M8 rfl rfl ?_ ?_;(focus ((try simp only [F9]);omega));(focus first|rfl|assumption))|refine j5.cons ?_ ?_);done))
        refine S.next (x:=(⟨true,u,lo,n,v,o,lo2,n2,v2⟩:Hv)) (⟨false,u4,lo4,m4,z,o1,lo3,n3,x3⟩:Hv) ⟨hW4,hW2,hoz,hob,hgz⟩ (by simp only;omega) (by (repeat first|refine uA ?_|(refine ⟨?_,?_⟩;focus first|rfl|trivial|(simp [slot];done))|rfl|trivial|simp))
      · (repeat first|refine uA ?_|(apply uK;focus omega)|simp (disch:=omega) only [go_sem,Nat.reduceBEq,ww])
        have h0:=hW3.nonzero (by omega)
        have h1:x1=x3:=by omega
        subst h1
        rw [Nat.gcd_self] at hG
        exact S.met ⟨true,u2,lo1,m1,x1-x1,o1,lo3,n3,x1⟩ ⟨hW3,hW2,.inl ⟨by simp only;omega,hG⟩⟩ (by (repeat first|refine uA ?_|(refine ⟨?_,?_⟩;focus first|rfl|trivial|(simp [slot];done))|rfl|trivial|simp))
      · have h0:x1-x3 ≠ 0:=fun h=>by have:=hW3.zero h;omega
        obtain ⟨z,hz,hoz⟩:=Nm.a2X h0
        have hev:=a8e ((u2.drop lo1).take m1) (by rw [hW3.len];omega) hW3.all (by rw [hW3.hv];exact h0)
        rw [hwl,hW3.hv] at hev
        have heb:=hW3.v2 h0
        generalize Nm.v2 (x1-x3)=e at *
        have hrg:=fun (E:Ctx) (hP:E.P=Tryz.prog)=>a8j (E:=E) hP true u2 o1 lo1 m1 e z (by omega) hn3 heb hW3.ha (by omega) (by rw [hW3.hv,hz,Nat.mul_comm])
        obtain ⟨hj,hz2,_⟩:=hrg ⟨Tryz.prog,eff,0,w,fun _=>False,O,[],[]⟩ rfl
        have hrg:=fun E hP=>(hrg E hP).2.2
        have hW4:=Win.put (u:=u2) (l1:=lo1+e / 64) (p:=m1-e / 64) (z:=z) (by omega) (by omega) hl3 hW3.ha hz2
        generalize put u2 (lo1+e / 64) (Nm.dig 18446744073709551616 (m1-e / 64) z)=u4 at *
        generalize lo1+e / 64=lo4 at *
        generalize (Nm.G7 (Nm.dig 18446744073709551616 (m1-e / 64) z)).length=m4 at *
        have hrg':∀ (E:Ctx),E.P=Tryz.prog->l8 E [.row 183 1 (ls u2),.row 183 1 (ls o1)] 209 [.wv 0 1 lo1 m1,ints e] (.wv 0 1 lo4 m4) [.row 183 1 (ls u4),.row 183 1 (ls o1)] []:=fun E hP=>hrg E hP
        have hgz:Nat.gcd z x3=G:=by
          have h1:=Nm.a6F (d:=z) hob e
          rw [<- h1,<- hz,Nm.b1q hle,hG]
        have hzle:z<=x1-x3:=by
          conv=>rhs;rw [hz]
          exact Nat.le_mul_of_pos_left _ (Nat.pow_pos (by decide))
        (repeat first|refine uA ?_|(apply uK;focus omega)|simp only [go_sem,Nat.reduceBEq]|simp (disch:=omega) only [ww,F9]|refine p8.t (hrg' _ rfl) ?_|(apply uE hev;exact tz hw;exact rfl;focus (repeat' first|exact j5.nil|exact Imp.refl rfl|exact Imp.frz rfl rfl rfl|(refine Imp.M8 rfl rfl ?_ ?_;(focus ((try simp only [F9]);omega));(focus first|rfl|assumption))|refine j5.cons ?_ ?_);done))
        refine S.next (x:=(⟨true,u,lo,n,v,o,lo2,n2,v2⟩:Hv)) (⟨true,u4,lo4,m4,z,o1,lo3,n3,x3⟩:Hv) ⟨hW4,hW2,hoz,hob,hgz⟩ (by simp only;omega) (by (repeat first|refine uA ?_|(refine ⟨?_,?_⟩;focus first|rfl|trivial|(simp [slot];done))|rfl|trivial|simp))
    · (repeat first|refine uA ?_|(apply uK;focus omega)|simp (disch:=omega) only [go_sem,Nat.reduceBEq,ww])
      have ha1:n<=1/\n2<=1:=by omega
      have hz1:n ≠ 0:=fun h=>by have:=hW1.nonzero h;omega
      have hz2:n2 ≠ 0:=fun h=>by have:=hW2.nonzero h;omega
      exact S.met ⟨s,u,lo,n,v,o,lo2,n2,v2⟩ ⟨hW1,hW2,   .inr ⟨by simp only;omega,by simp only;omega,hG⟩⟩ (by cases s<;>exact (by (repeat first|refine uA ?_|(refine ⟨?_,?_⟩;focus first|rfl|trivial|(simp [slot];done))|rfl|trivial|simp)))
  clear hW1 hW2 hG hoa hob
  rintro ⟨s,u,lo,n,v,o,lo2,n2,v2⟩ ⟨hW1,hW2,hcs⟩
  simp only [ints] at hW1 hW2 hcs ⊢
  refine S.seq ?_
  have hl1:=hW1.hl
  have hl2:=hW2.hl
  have hn1:=hW1.hn
  have hn2:=hW2.hn
  have hlo1:=hW1.hlo
  have hlo2:=hW2.hlo
  refine S.join (Y:=Bool × List Nat × List Nat) (fun x=>⟨[(6,.wv (kx !x.1) 1 lo2 n2),(7,ints p),(8,ints q)],rw2 x.1 x.2.1 x.2.2⟩)
    (fun x=>x.2.2.length=o.length/\Nm.L8 x.2.2/\Nm.wv 18446744073709551616 ((x.2.2.drop lo2).take n2)=G) ?_ ?_
  · have one:∀ {u:List Nat} {lo v:Nat},Win u lo 1 v->u[lo]?=some v/\v < 18446744073709551616:=fun {u lo v} h=>by
      have hg:u[lo]?=some (u[lo]'h.hlo):=c6E h.hlo
      have h1:=h.hv
      have h2:(u.drop lo).take 1=[u[lo]'h.hlo]:=by rw [List.drop_eq_getElem_cons h.hlo];rfl
      rw [h2] at h1
      simp only [Nm.wv] at h1
      have h3:=h.ha _ (c6U h.hlo)
      rw [Nat.mul_zero,Nat.add_zero] at h1
      rw [hg,h1]
      exact ⟨rfl,by omega⟩
    (repeat first|refine uA ?_|(apply uK;focus omega)|simp (disch:=omega) only [go_sem,Nat.reduceBEq])
    (refine uJ rfl (fun hc=>?_) fun hc=>?_)
    · have hn:n=1:=by omega
      have hm:n2=1:=by omega
      subst hn hm
      obtain ⟨g1,b1⟩:=one hW1
      obtain ⟨g2,b2⟩:=one hW2
      have hg:Nat.gcd v v2=G:=by rcases hcs with h|h;exact absurd h.1 (by decide);exact h.2.2
      have hco:=b3W v v2 b1 b2
      rw [hg] at hco
      have hres:Nm.wv 18446744073709551616 (((o.set lo2 G).drop lo2).take 1)=G:=by
        rw [List.drop_eq_getElem_cons (by rw [c7r];exact hlo2),List.getElem_set_self]
        simp [Nm.wv]
      have hG64:G < 18446744073709551616:=by
        have:v2 ≠ 0:=fun h=>by have:=hW2.zero h;omega
        have:=Nat.gcd_le_right v (show 0 < v2 by omega)
        omega
      cases s
      all_goals
        simp only [rw2,kx,Bool.not_true,Bool.not_false]
        (repeat first|refine uA ?_|(apply uK;focus omega)|simp only [go_sem,Nat.reduceBEq,Nat.reduceAdd,Nat.reduceLeDiff,F9,M5,g1,g2,c6G,lm,Nat.add_zero,a1u]|simp (disch:=omega) only [ww,F9,M5,g1,g2,c6G,lm,Nat.add_zero,a1u]|(apply uB hco;exact rfl))
      · exact S.met (⟨false,u,o.set lo2 G⟩:Bool × List Nat × List Nat) ⟨by simp,fun w hw=>by
          rcases Nm.mem_set hw with rfl|hw
          · exact hG64
          · exact hW2.ha w hw,hres⟩ (by (repeat first|refine uA ?_|(refine ⟨?_,?_⟩;focus first|rfl|trivial|(simp [slot];done))|rfl|trivial|simp))
      · exact S.met (⟨true,u,o.set lo2 G⟩:Bool × List Nat × List Nat) ⟨by simp,fun w hw=>by
          rcases Nm.mem_set hw with rfl|hw
          · exact hG64
          · exact hW2.ha w hw,hres⟩ (by (repeat first|refine uA ?_|(refine ⟨?_,?_⟩;focus first|rfl|trivial|(simp [slot];done))|rfl|trivial|simp))
    · (repeat first|refine uA ?_|(apply uK;focus omega)|simp (disch:=omega) only [go_sem,Nat.reduceBEq,ww])
      have hg:v2=G:=by
        rcases hcs with h|h
        · exact h.2
        · omega
      exact S.met (⟨s,u,o⟩:Bool × List Nat × List Nat) ⟨rfl,hW2.ha,by rw [<- hg];exact hW2.hv⟩ (by cases s<;>exact (by (repeat first|refine uA ?_|(refine ⟨?_,?_⟩;focus first|rfl|trivial|(simp [slot];done))|rfl|trivial|simp)))
  rintro ⟨s',u',o'⟩ ⟨ho1,ho2,ho3⟩
  simp only [ints] at ho1 ho2 ho3 ⊢
  have hul:((o'.drop lo2).take n2).length=n2:=by rw [c6O,c7s];omega
  have hua:Nm.L8 ((o'.drop lo2).take n2):=(ho2.drop lo2).take _
  have hgw:∀ i,i < n2->o'[lo2+i]?=((o'.drop lo2).take n2)[i]?:=fun i hi=>by rw [List.getElem?_take_of_lt hi,c7q]
  generalize (o'.drop lo2).take n2=W at *
  have hfm:=a3x (Nm.a2i W) (Nm.oB (2 ^ (min p q % 8))::List.replicate (min p q / 8) 0) (by rw [Nm.b1p hua];omega) (by rw [c7g,List.length_replicate];omega)
  rw [Nm.b9i,Nm.b8n hua,ho3,Nat.mul_comm] at hfm
  have hWl:W.length<=17179869184:=by omega
  have hz8:List.replicate (8*(n2:Int)).toNat [C.v (.int .u8 0)]=(Nm.a4P W 0).map H7:=by
    rw [Nm.b7t,<- a3o,show (8*(n2:Int)).toNat=8*W.length by omega]
  have hqm:IntKind.i64.wrap (((min p q:Nat):Int).tdiv 8)=((min p q / 8:Nat):Int):=c1R _ (by omega)
  have hmn:(if (q:Int) < (p:Int) then (q:Int) else (p:Int))=((min p q:Nat):Int):=by split<;>omega
  generalize min p q=r at *
  clear hW1 hW2 hcs hn1 hl1 hlo1 ho3
  cases s'
  all_goals
    simp only [rw2,kx,Bool.not_true,Bool.not_false]
    (repeat first|refine uA ?_|(apply uK;focus omega)|simp only [go_sem,Nat.reduceBEq,Nat.reduceAdd]|simp (disch:=omega) only [ww,hz8])
  · refine S.loop (X:=Nat) (fun i=>⟨[(6,.wv 0 1 lo2 n2),(7,ints p),(8,ints q),(9,.rv 2),(72,.wv 0 1 lo2 n2),(73,ints n2),(74,ints i)],[.row 183 1 (ls o'),.row 183 1 (ls u')]++[.row 5 1 ((Nm.a4P W i).map H7)]⟩) (fun i=>i<=n2) (fun i=>n2-i) 0 (c6K _) (by (repeat first|refine uA ?_|(refine ⟨?_,?_⟩;focus first|rfl|trivial|(simp [slot];done))|rfl|trivial|simp)) ?_
    intro i hi
    simp only [ints,List.cons_append,List.nil_append]
    (repeat first|refine uA ?_|(apply uK;focus omega)|simp (disch:=omega) only [go_sem,Nat.reduceBEq])
    (refine uJ rfl (fun hc=>?_) fun hc=>?_)
    · have hi':i < n2:=by omega
      have hiW:i < W.length:=by omega
      have hgo:o'[lo2+i]?=some (W[i]'hiW):=by rw [hgw i hi',c6E hiW]
      have hgd:W.getD i 0=W[i]'hiW:=Nm.getD_lt hiW
      (repeat first|refine uA ?_|(apply uK;focus omega)|simp only [go_sem,Nat.reduceBEq,F9,M5,hgo,c6G,lm]|simp (disch:=omega) only [ww,F9,M5,hgo,c6G,lm])
      rw [<- Nm.b0Z hiW]
      refine S.loop (X:=Nat) (fun k=>⟨[(6,.wv 0 1 lo2 n2),(7,ints p),(8,ints q),(9,.rv 2),(72,.wv 0 1 lo2 n2),(73,ints n2),(74,ints i),(10,ints i),(11,.v (.int .u64 (W[i]'hiW:Int))),(79,ints k)],[.row 183 1 (ls o'),.row 183 1 (ls u')]++[.row 5 1 ((Nm.a1T W i k).map H7)]⟩) (fun k=>k<=8) (fun k=>8-k) 0 (c6K _) (by (repeat first|refine uA ?_|(refine ⟨?_,?_⟩;focus first|rfl|trivial|(simp [slot];done))|rfl|trivial|simp)) ?_
      intro k hk
      simp only [ints,List.cons_append,List.nil_append]
      have hlk:=Nm.b4h hua hiW hk
      (repeat first|refine uA ?_|(apply uK;focus omega)|simp (disch:=omega) only [go_sem,Nat.reduceBEq])
      (refine uJ rfl (fun hc=>?_) fun hc=>?_)
      · have hk':k < 8:=by omega
        have hst:=Nm.b1M (l:=W) (i:=i) hk'
        rw [hgd] at hst
        have hbv:IntKind.u8.wrap (Int.fdiv ((W[i]'hiW:Nat):Int) (2 ^ min (56-8*(k:Int)).toNat 64))=(((Nm.oB ((W[i]'hiW) / 2 ^ (56-8*k))).toNat:Nat):Int):=by
          rw [<- a6r,show min (56-8*(k:Int)).toNat 64=56-8*k by omega]
          congr 2
        have hix:(8*((n2:Int)-1-(i:Int))+(k:Int)).toNat=8*(W.length-1-i)+k:=by omega
        have hgk:(Nm.a1T W i k)[8*(W.length-1-i)+k]?=some ((Nm.a1T W i k)[8*(W.length-1-i)+k]'(by omega)):=c6E (by omega)
        (repeat first|refine uA ?_|(apply uK;focus omega)|simp only [go_sem,Nat.reduceBEq,Nat.reduceAdd,Nat.reduceLeDiff,c6F,c6P,a6g,hst]|simp (disch:=omega) only [ww,hbv,hix,hgk,c6G,H7])
        refine S.next (x:=k) (k+1) hk' (by omega) (by (repeat first|refine uA ?_|(refine ⟨?_,?_⟩;focus first|rfl|trivial|(simp [slot];done))|rfl|trivial|simp))
      · have hk8:k=8:=by omega
        subst hk8
        rw [Nm.a9x hiW]
        (repeat first|refine uA ?_|(apply uK;focus omega)|simp (disch:=omega) only [go_sem,Nat.reduceBEq,ww])
        refine S.next (x:=i) (i+1) hi' (by omega) (by (repeat first|refine uA ?_|(refine ⟨?_,?_⟩;focus first|rfl|trivial|(simp [slot];done))|rfl|trivial|simp))
    · have hi':i=n2:=by omega
      subst hi'
      rw [<- hul,Nm.b3u]
      have hr1:((r / 8:Nat):Int)+1=((r / 8+1:Nat):Int):=by omega
      have hrep:List.replicate (((r / 8+1:Nat):Int)).toNat [C.v (.int .u8 0)]=(List.replicate (r / 8+1) (0:UInt8)).map H7:=by rw [<- a3o];rfl
      have hrm:(r:Int).tmod 8=((r % 8:Nat):Int):=b3S r
      have hpw:IntKind.u8.wrap (1*2 ^ min (r % 8) 8)=(((Nm.oB (2 ^ (r % 8))).toNat:Nat):Int):=by
        rw [show min (r % 8) 8=r % 8 by omega,Nm.a2b,<- a1Y];congr 1;simp
      have hby:a0b ([C.v (.int .u8 (((Nm.oB (2 ^ (r % 8))).toNat:Nat):Int))]::List.replicate (r / 8) [C.v (.int .u8 0)])=some (Nm.oB (2 ^ (r % 8))::List.replicate (r / 8) 0):=by
        rw [a3o];exact a0m (Nm.oB (2 ^ (r % 8))::List.replicate (r / 8) 0)
      (repeat first|refine uA ?_|(apply uK;focus omega)|simp only [go_sem,Nat.reduceBEq,Nat.reduceAdd,Nat.reduceLeDiff,hmn,hqm,hr1,hrm,hpw,hby,a0m,a6w,c6I]|simp (disch:=omega) only [ww,c6I]|(apply uB hfm;exact rfl))
      exact S.done (j4.out rfl (Imp.refl rfl) rfl)
  · refine S.loop (X:=Nat) (fun i=>⟨[(6,.wv 1 1 lo2 n2),(7,ints p),(8,ints q),(9,.rv 2),(72,.wv 1 1 lo2 n2),(73,ints n2),(74,ints i)],[.row 183 1 (ls u'),.row 183 1 (ls o')]++[.row 5 1 ((Nm.a4P W i).map H7)]⟩) (fun i=>i<=n2) (fun i=>n2-i) 0 (c6K _) (by (repeat first|refine uA ?_|(refine ⟨?_,?_⟩;focus first|rfl|trivial|(simp [slot];done))|rfl|trivial|simp)) ?_
    intro i hi
    simp only [ints,List.cons_append,List.nil_append]
    (repeat first|refine uA ?_|(apply uK;focus omega)|simp (disch:=omega) only [go_sem,Nat.reduceBEq])
    (refine uJ rfl (fun hc=>?_) fun hc=>?_)
    · have hi':i < n2:=by omega
      have hiW:i < W.length:=by omega
      have hgo:o'[lo2+i]?=some (W[i]'hiW):=by rw [hgw i hi',c6E hiW]
      have hgd:W.getD i 0=W[i]'hiW:=Nm.getD_lt hiW
      (repeat first|refine uA ?_|(apply uK;focus omega)|simp only [go_sem,Nat.reduceBEq,F9,M5,hgo,c6G,lm]|simp (disch:=omega) only [ww,F9,M5,hgo,c6G,lm])
      rw [<- Nm.b0Z hiW]
      refine S.loop (X:=Nat) (fun k=>⟨[(6,.wv 1 1 lo2 n2),(7,ints p),(8,ints q),(9,.rv 2),(72,.wv 1 1 lo2 n2),(73,ints n2),(74,ints i),(10,ints i),(11,.v (.int .u64 (W[i]'hiW:Int))),(79,ints k)],[.row 183 1 (ls u'),.row 183 1 (ls o')]++[.row 5 1 ((Nm.a1T W i k).map H7)]⟩) (fun k=>k<=8) (fun k=>8-k) 0 (c6K _) (by (repeat first|refine uA ?_|(refine ⟨?_,?_⟩;focus first|rfl|trivial|(simp [slot];done))|rfl|trivial|simp)) ?_
      intro k hk
      simp only [ints,List.cons_append,List.nil_append]
      have hlk:=Nm.b4h hua hiW hk
      (repeat first|refine uA ?_|(apply uK;focus omega)|simp (disch:=omega) only [go_sem,Nat.reduceBEq])
      (refine uJ rfl (fun hc=>?_) fun hc=>?_)
      · have hk':k < 8:=by omega
        have hst:=Nm.b1M (l:=W) (i:=i) hk'
        rw [hgd] at hst
        have hbv:IntKind.u8.wrap (Int.fdiv ((W[i]'hiW:Nat):Int) (2 ^ min (56-8*(k:Int)).toNat 64))=(((Nm.oB ((W[i]'hiW) / 2 ^ (56-8*k))).toNat:Nat):Int):=by
          rw [<- a6r,show min (56-8*(k:Int)).toNat 64=56-8*k by omega]
          congr 2
        have hix:(8*((n2:Int)-1-(i:Int))+(k:Int)).toNat=8*(W.length-1-i)+k:=by omega
        have hgk:(Nm.a1T W i k)[8*(W.length-1-i)+k]?=some ((Nm.a1T W i k)[8*(W.length-1-i)+k]'(by omega)):=c6E (by omega)
        (repeat first|refine uA ?_|(apply uK;focus omega)|simp only [go_sem,Nat.reduceBEq,Nat.reduceAdd,Nat.reduceLeDiff,c6F,c6P,a6g,hst]|simp (disch:=omega) only [ww,hbv,hix,hgk,c6G,H7])
        refine S.next (x:=k) (k+1) hk' (by omega) (by (repeat first|refine uA ?_|(refine ⟨?_,?_⟩;focus first|rfl|trivial|(simp [slot];done))|rfl|trivial|simp))
      · have hk8:k=8:=by omega
        subst hk8
        rw [Nm.a9x hiW]
        (repeat first|refine uA ?_|(apply uK;focus omega)|simp (disch:=omega) only [go_sem,Nat.reduceBEq,ww])
        refine S.next (x:=i) (i+1) hi' (by omega) (by (repeat first|refine uA ?_|(refine ⟨?_,?_⟩;focus first|rfl|trivial|(simp [slot];done))|rfl|trivial|simp))
    · have hi':i=n2:=by omega
      subst hi'
      rw [<- hul,Nm.b3u]
      have hr1:((r / 8:Nat):Int)+1=((r / 8+1:Nat):Int):=by omega
      have hrep:List.replicate (((r / 8+1:Nat):Int)).toNat [C.v (.int .u8 0)]=(List.replicate (r / 8+1) (0:UInt8)).map H7:=by rw [<- a3o];rfl
      have hrm:(r:Int).tmod 8=((r % 8:Nat):Int):=b3S r
      have hpw:IntKind.u8.wrap (1*2 ^ min (r % 8) 8)=(((Nm.oB (2 ^ (r % 8))).toNat:Nat):Int):=by
        rw [show min (r % 8) 8=r % 8 by omega,Nm.a2b,<- a1Y];congr 1;simp
      have hby:a0b ([C.v (.int .u8 (((Nm.oB (2 ^ (r % 8))).toNat:Nat):Int))]::List.replicate (r / 8) [C.v (.int .u8 0)])=some (Nm.oB (2 ^ (r % 8))::List.replicate (r / 8) 0):=by
        rw [a3o];exact a0m (Nm.oB (2 ^ (r % 8))::List.replicate (r / 8) 0)
      (repeat first|refine uA ?_|(apply uK;focus omega)|simp only [go_sem,Nat.reduceBEq,Nat.reduceAdd,Nat.reduceLeDiff,hmn,hqm,hr1,hrm,hpw,hby,a0m,a6w,c6I]|simp (disch:=omega) only [ww,c6I]|(apply uB hfm;exact rfl))
      exact S.done (j4.out rfl (Imp.refl rfl) rfl)
theorem c1A (a b:List UInt8) (ha:a.length<=68719476736) (hb:b.length<=68719476736):FZ 123 [sb a,sb b] (sb (Nm.enc (Nat.gcd (Nm.val a) (Nm.val b)))):=by
  refine kW Tryz.func123 (by cbv) (by rfl) fun w O hw=>?_
  simp only [j6,sb]
  have hta:=Nm.Y5 a
  have htb:=Nm.Y5 b
  have hva:=Nm.Q7 a
  have hvb:=Nm.Q7 b
  have hca:=Nm.X0 a
  have hcb:=Nm.X0 b
  have fta:=a0r a (by omega)
  have ftb:=a0r b (by omega)
  rw [<- hva,<- hvb]
  clear hva hvb
  generalize Nm.trim a=x at *
  generalize Nm.trim b=y at *
  generalize hG:Nat.gcd (Nm.val x) (Nm.val y)=G at *
  (repeat first|refine uA ?_|(refine uK ?_ ?_;focus first|omega|(intros;simp_all<;>omega))|simp (disch:=omega) only [go_sem,Nat.reduceBEq,Nat.reduceAdd,ww]|(refine uB fta ?_ ?_;exact rfl)|(refine uB ftb ?_ ?_;exact rfl))
  refine S.loop (X:=List UInt8 × List UInt8) (fun s=>⟨[(0,sb s.1),(1,sb s.2)],[]⟩) (fun s=>Nm.canon s.1/\Nm.canon s.2/\s.1.length<=68719476736/\s.2.length<=68719476736/\Nat.gcd (Nm.val s.1) (Nm.val s.2)=G) (fun s=>Nm.val s.1+Nm.val s.2) (x,y) ⟨hca,hcb,by simp only;omega,by simp only;omega,hG⟩ (by (repeat first|refine uA ?_|(refine ⟨?_,?_⟩;focus first|rfl|simp [slot])|rfl|simp)) ?_
  clear fta ftb hca hcb hta htb hG
  rintro ⟨x,y⟩ ⟨hcx,hcy,hlx,hly,hG⟩
  simp only [sb] at hcx hcy hlx hly hG ⊢
  (repeat first|refine uA ?_|(refine uK ?_ ?_;focus first|omega|(intros;simp_all<;>omega))|simp (disch:=omega) only [go_sem,Nat.reduceBEq,Nat.reduceAdd,ww])
  (refine uJ rfl (fun hc=>?_) fun hc=>?_)
  · rw [Y8,Y8] at hc
    have hne:=hc
    refine S.skip ?_
    refine S.block ?_
    refine S.seq ?_
    refine S.join (Y:=List UInt8 × List UInt8) (fun s=>⟨[(0,sb s.1),(1,sb s.2)],[]⟩) (fun s=>Nm.canon s.1/\Nm.canon s.2/\s.1.length<=68719476736/\s.2.length<=s.1.length/\Nat.gcd (Nm.val s.1) (Nm.val s.2)=G/\s.1 ≠ []/\s.2 ≠ []/\Nm.val s.1+Nm.val s.2=Nm.val x+Nm.val y) ?_ ?_
    · (repeat first|refine uA ?_|(refine uK ?_ ?_;focus first|omega|(intros;simp_all<;>omega))|simp (disch:=omega) only [go_sem,Nat.reduceBEq,Nat.reduceAdd,ww,D9])
      (refine uJ rfl (fun hc=>?_) fun hc=>?_)
      · (repeat first|refine uA ?_|(refine uK ?_ ?_;focus first|omega|(intros;simp_all<;>omega))|simp (disch:=omega) only [go_sem,Nat.reduceBEq,Nat.reduceAdd,ww])
        exact S.met (⟨y,x⟩:List UInt8 × List UInt8) ⟨hcy,hcx,hly,by simp only;omega,by rw [Nat.gcd_comm];exact hG,hne.2,hne.1,by simp only;omega⟩ (by (repeat first|refine uA ?_|(refine ⟨?_,?_⟩;focus first|rfl|simp [slot])|rfl|simp))
      · (repeat first|refine uA ?_|(refine uK ?_ ?_;focus first|omega|(intros;simp_all<;>omega))|simp (disch:=omega) only [go_sem,Nat.reduceBEq,Nat.reduceAdd,ww])
        exact S.met (⟨x,y⟩:List UInt8 × List UInt8) ⟨hcx,hcy,hlx,by simp only;omega,hG,hne.1,hne.2,rfl⟩ (by (repeat first|refine uA ?_|(refine ⟨?_,?_⟩;focus first|rfl|simp [slot])|rfl|simp))
    clear hcx hcy hlx hly hG hc hne
    rintro ⟨p,q⟩ ⟨hcx,hcy,hlx,hly,hG,hp0,hq0,hsum⟩
    simp only [sb] at hcx hcy hlx hly hG hp0 hq0 hsum ⊢
    have hvp:Nm.val p ≠ 0:=fun h=>hp0 ((Nm.val_zero hcx).1 h)
    have hvq:Nm.val q ≠ 0:=fun h=>hq0 ((Nm.val_zero hcy).1 h)
    (repeat first|refine uA ?_|(refine uK ?_ ?_;focus first|omega|(intros;simp_all<;>omega))|simp (disch:=omega) only [go_sem,Nat.reduceBEq,Nat.reduceAdd,ww,D9])
    (refine uJ rfl (fun hc=>?_) fun hc=>?_)
    · have hx7:=Nm.a0l (l:=p) (k:=8) (by omega)
      have hy7:=Nm.a0l (l:=q) (k:=8) (by omega)
      have e1:Nm.val p % 18446744073709551616=Nm.val p:=Nat.mod_eq_of_lt (by omega)
      have e2:Nm.val q % 18446744073709551616=Nm.val q:=Nat.mod_eq_of_lt (by omega)
      have fx:=a1P p (by omega)
      have fy:=a1P q (by omega)
      rw [e1] at fx
      rw [e2] at fy
      have hco:=b3W (Nm.val p) (Nm.val q) (by omega) (by omega)
      rw [hG] at hco
      have hle:G<=Nm.val q:=by rw [<- hG];exact Nat.gcd_le_right _ (by omega)
      have hf:=a0z G (by omega)
      (repeat first|refine uA ?_|(refine uK ?_ ?_;focus first|omega|(intros;simp_all<;>omega))|simp (disch:=omega) only [go_sem,Nat.reduceBEq,Nat.reduceAdd,ww]|(refine uB fx ?_ ?_;exact rfl)|(refine uB fy ?_ ?_;exact rfl)|(refine uB hco ?_ ?_;exact rfl)|(refine uB hf ?_ ?_;exact rfl))
      exact S.done (j4.out rfl (Imp.refl rfl) rfl)
    (repeat first|refine uA ?_|(refine uK ?_ ?_;focus first|omega|(intros;simp_all<;>omega))|simp (disch:=omega) only [go_sem,Nat.reduceBEq,Nat.reduceAdd,ww,D9])
    (refine uJ rfl (fun hc=>?_) fun hc=>?_)
    · have hh:=c1o p q hlx (by omega) hvp hvq
      rw [hG] at hh
      (repeat first|refine uA ?_|(refine uK ?_ ?_;focus first|omega|(intros;simp_all<;>omega))|simp (disch:=omega) only [go_sem,Nat.reduceBEq,Nat.reduceAdd,ww]|(refine uD hh ?_ ?_ ?_;exact tz hw;exact rfl))
      exact S.done (j4.out rfl (Imp.refl rfl) rfl)
    · have hd:=b2q p q (by omega) (by omega) hvq
      have hlt:Nm.val p % Nm.val q < Nm.val q:=Nat.mod_lt _ (by omega)
      have hlq:=Nm.a0d q
      have hpq:=Nm.a2H hcx (a:=q) (b:=p) (by omega)
      have hrl:(Nm.enc (Nm.val p % Nm.val q)).length<=q.length:=Nm.I8 (by omega)
      (repeat first|refine uA ?_|(refine uK ?_ ?_;focus first|omega|(intros;simp_all<;>omega))|simp (disch:=omega) only [go_sem,Nat.reduceBEq,Nat.reduceAdd,ww]|(refine uB hd ?_ ?_;exact rfl))
      refine S.next (x:=(x,y)) (q,Nm.enc (Nm.val p % Nm.val q)) ⟨hcy,Nm.a2B _,by simp only;omega,by simp only;omega,?_⟩ (by simp only [Nm.I6];omega) (by (repeat first|refine uA ?_|(refine ⟨?_,?_⟩;focus first|rfl|simp [slot])|rfl|simp))
      simp only [Nm.I6]
      rw [Nat.gcd_comm,<- Nat.gcd_rec,Nat.gcd_comm];exact hG
  · have hr:Nm.enc G=x++y:=by
      rw [Y8,Y8] at hc
      rcases Classical.em (x=[]) with h|h
      · subst h
        rw [Nm.b0B,Nat.gcd_zero_left] at hG
        rw [<- hG,Nm.a1A hcy];rfl
      · have hy:y=[]:=by
          rcases hc with hc|hc
          · exact absurd hc h
          · exact hc
        subst hy
        rw [Nm.b0B,Nat.gcd_zero_right] at hG
        rw [<- hG,Nm.a1A hcx,List.append_nil]
    rw [hr]
    (repeat first|refine uA ?_|(refine uK ?_ ?_;focus first|omega|(intros;simp_all<;>omega))|simp (disch:=omega) only [go_sem,Nat.reduceBEq,Nat.reduceAdd,ww,c3X,D9])
    exact S.done (j4.out rfl (Imp.refl rfl) rfl)
def rc (a:Nm.Rt):C:=.agg [.v (.bool a.neg),sb a.num,sb a.den]
def rq (q:Rat):C:=rc (Nm.ofQ q)
def Rb (k:Nat) (a:Nm.Rt):Prop:=a.num.length<=k/\a.den.length<=k
theorem a6f (l:List UInt8):(bs l=(⟨#[1]⟩:ByteArray))=(l=[1]):=a8b l [1]
theorem b0Y (l:List UInt8):Nm.canon l <-> (l=[] \/ l.getD 0 0 ≠ 0):=by
 cases l with
 | nil=>simp [Nm.a7g]
 | cons b r=>
  simp only [List.getD_cons_zero,reduceCtorEq,false_or]
  constructor
  ·intro h h0;exact h r (by rw [h0])
  ·intro h q e;injection e with e1 _;exact h e1
theorem a0q (a:Nm.Rt) (ha:Rb 68719476736 a):FZ 76 [rc a] (.v (.bool (decide a.F5))):=by
  refine kW Tryz.func76 (by cbv) (by rfl) fun w O hw=>?_
  obtain ⟨neg,num,den⟩:=a
  obtain ⟨hn,hd⟩:=ha
  simp only [rc] at hn hd ⊢
  simp only [j6,sb]
  have hg:=c1A num den (by omega) (by omega)
  have hgood:Nm.Rt.F5 ⟨neg,num,den⟩ <-> den ≠ []/\Nm.canon den/\Nm.canon num/\(num=[]->neg=false/\den=[1])/\(den=[1] \/ Nat.gcd (Nm.val num) (Nm.val den)=1):=Iff.rfl
  rw [b0Y,b0Y] at hgood
  have hdl:(!decide (den=[]))=true->0 < (den.length:Int):=fun h=>by
    have:den ≠ []:=by simpa using h
    have:=List.length_pos_iff.2 this
    omega
  have hnl:num ≠ []->0 < (num.length:Int):=fun h=>by
    have:=List.length_pos_iff.2 h
    omega
  have hgb0:∀ {p:Prop} [Decidable p],(Nm.Rt.F5 ⟨neg,num,den⟩ <-> p)->decide (Nm.Rt.F5 ⟨neg,num,den⟩)=decide p:=fun h=>decide_eq_decide.2 h
  have hgb:=hgb0 hgood
  clear hgood hgb0
  generalize decide (Nm.Rt.F5 ⟨neg,num,den⟩)=gb at *
  (repeat first|refine uA ?_|(refine uK ?_ ?_;focus first|omega|trivial|(intro h;rw [h];rfl)|(intro h h2;rw [h,h2];rfl)|(intro h;(try simp at h);omega)|(intros;simp_all<;>omega))|simp only [go_sem,Nat.reduceBEq,Nat.reduceAdd,Nat.reduceLeDiff,Int.reduceToNat,Int.reducePow,D9,Y1,a7R,Y8,a6f]|simp (disch:=omega) only [ww,D9,Y1,a7R,Y8,a6f])
  refine S.cond rfl (fun hc=>?_) (fun hc=>?_)
  · have:gb=false:=by
      rw [hgb,c7c]
      simp only [c7v,c6Q,c6S,Bool.not_eq_true',c7c] at hc
      grind
    rw [this]
    (repeat first|refine uA ?_|(refine uK ?_ ?_;focus first|omega|trivial|(intro h;rw [h];rfl)|(intro h h2;rw [h,h2];rfl)|(intro h;(try simp at h);omega)|(intros;simp_all<;>omega))|simp only [go_sem,Nat.reduceBEq,Nat.reduceAdd,Nat.reduceLeDiff,Int.reduceToNat,Int.reducePow]|simp (disch:=omega) only [ww])
    exact S.done (j4.out rfl (Imp.refl rfl) rfl)
  · have hone:(Nm.enc (Nat.gcd (Nm.val num) (Nm.val den))=[1])=(Nat.gcd (Nm.val num) (Nm.val den)=1):=by
      rw [<- Nm.U2]
      exact propext ⟨Nm.b0J,fun h=>by rw [h]⟩
    have:gb=(decide (den=[1]) || decide (Nat.gcd (Nm.val num) (Nm.val den)=1)):=by
      rw [hgb,<- Bool.decide_or]
      simp only [c7n,Bool.and_eq_false_iff,c6S,Bool.not_eq_false',c7c] at hc
      refine decide_eq_decide.2 ⟨fun h=>h.2.2.2.2,fun h=>?_⟩
      grind
    rw [this]
    (repeat first|refine uA ?_|(refine uK ?_ ?_;focus first|omega|trivial|(intro h;rw [h];rfl)|(intro h h2;rw [h,h2];rfl)|(intro h;(try simp at h);omega)|(intros;simp_all<;>omega))|simp only [go_sem,Nat.reduceBEq,Nat.reduceAdd,Nat.reduceLeDiff,Int.reduceToNat,Int.reducePow,Y8,a6f,hone]|simp (disch:=omega) only [ww,Y8,a6f,hone]|(refine uD hg ?_ ?_ ?_;exact tz hw;exact rfl))
    exact S.done (j4.out rfl (Imp.refl rfl) rfl)
theorem b9n:y9 Tryz.prog 122 [] (rc Nm.a3u):=by
 refine kS Tryz.func122 (by cbv) (by rfl) fun w O=>?_
 simp only [j6,rc,Nm.a3u,sb]
 (repeat first|refine uA ?_|(refine uK ?_ ?_;focus first|omega|(intros;simp_all<;>omega))|simp (disch:=omega) only [go_sem,Nat.reduceBEq,Nat.reduceAdd,ww])
 (refine S.done ?_;simp only [l9,p9,go_sem,Nat.reduceBEq,Nat.reduceAdd,Nat.reduceLeDiff,Int.reduceToNat,Int.reducePow];(repeat (refine ⟨?_,?_⟩;focus first|trivial|omega|simp));exact j4.out rfl (Imp.refl rfl) rfl)
theorem c5h (a:Nm.Rt) (ha:Rb 68719476736 a):FZ 58 [rc a] (rq (Nm.d9 a)):=by
 refine kW Tryz.func58 (by cbv) (by rfl) fun w O hw=>?_
 have hg:=a0q a ha
 have fz:=b9n
 unfold rq
 by_cases h:a.F5
 ·rw [Nm.a4B h]
  rw [show decide a.F5=true from decide_eq_true h] at hg
  simp only [j6,rc,sb] at hg ⊢
  (repeat first|refine uA ?_|(refine uK ?_ ?_;focus first|omega|(intros;simp_all<;>omega))|simp (disch:=omega) only [go_sem,Nat.reduceBEq,Nat.reduceAdd,ww]|(refine uD hg ?_ ?_ ?_;exact tz hw;exact rfl))
  exact S.cond rfl (fun hc=>by cases hc) (fun _=>by
   (repeat first|refine uA ?_|(refine uK ?_ ?_;focus first|omega|(intros;simp_all<;>omega))|simp (disch:=omega) only [go_sem,Nat.reduceBEq,Nat.reduceAdd,ww])
   (refine S.done ?_;simp only [l9,p9,go_sem,Nat.reduceBEq,Nat.reduceAdd,Nat.reduceLeDiff,Int.reduceToNat,Int.reducePow];(repeat (refine ⟨?_,?_⟩;focus first|trivial|omega|simp));exact j4.out rfl (Imp.refl rfl) rfl))
 ·have e:Nm.ofQ (Nm.d9 a)=Nm.a3u:=by unfold Nm.d9;rw [if_neg h,Nm.a4E]
  rw [e]
  rw [show decide a.F5=false from decide_eq_false h] at hg
  simp only [j6,rc,sb,Nm.a3u] at hg fz ⊢
  (repeat first|refine uA ?_|(refine uK ?_ ?_;focus first|omega|(intros;simp_all<;>omega))|simp (disch:=omega) only [go_sem,Nat.reduceBEq,Nat.reduceAdd,ww]|(refine uD hg ?_ ?_ ?_;exact tz hw;exact rfl))
  exact S.cond rfl (fun _=>by
   (repeat first|refine uA ?_|(refine uK ?_ ?_;focus first|omega|(intros;simp_all<;>omega))|simp (disch:=omega) only [go_sem,Nat.reduceBEq,Nat.reduceAdd,ww]|(refine uB fz ?_ ?_;exact rfl))
   (refine S.done ?_;simp only [l9,p9,go_sem,Nat.reduceBEq,Nat.reduceAdd,Nat.reduceLeDiff,Int.reduceToNat,Int.reducePow];(repeat (refine ⟨?_,?_⟩;focus first|trivial|omega|simp));exact j4.out rfl (Imp.refl rfl) rfl)) (fun hc=>by cases hc)
theorem c2g {n d k:Nat} (hd:0 < d) (h:(Nm.enc d).length<=k):(Nm.enc (Nat.gcd n d)).length<=k:=Nm.I8 (Nat.lt_of_le_of_lt (Nat.gcd_le_right n hd) (Nm.Y6 h))
theorem a2N (neg:Bool) (n d:Nat) (hd:d ≠ 0) (hn:(Nm.enc n).length<=68719476736) (hdl:(Nm.enc d).length<=68719476736) :
  FZ 55 [.v (.bool neg),sb (Nm.enc n),sb (Nm.enc d)] (rq (mkRat (Nm.sgn neg n) d)):=by
 refine kW Tryz.func55 (by cbv) (by rfl) fun w O hw=>?_
 have fz:=b9n
 have hg:=c1A (Nm.enc n) (Nm.enc d) hn hdl
 rw [Nm.I6,Nm.I6] at hg
 unfold rq
 rw [<- Nm.b0M neg hd]
 have hz:(Nm.enc n=[])=(n=0):=propext ⟨fun h=>Classical.byContradiction fun h0=>Nm.a5Y h0 h,fun h=>by rw [h,Nm.a0X]⟩
 have h1:∀ d,(Nm.enc d=[1])=(d=1):=fun d=>by
  rw [<- Nm.U2];exact propext ⟨Nm.b0J,fun h=>by rw [h]⟩
 have hgp:Nat.gcd n d ≠ 0:=fun h=>hd (Nat.eq_zero_of_gcd_eq_zero_right h)
 have hgl:(Nm.enc (Nat.gcd n d)).length<=68719476736:=by
  exact c2g (by omega) hdl
 have hd1:=b2q (Nm.enc n) (Nm.enc (Nat.gcd n d)) (by omega) (by omega) (by rw [Nm.I6];exact hgp)
 have hd2:=b2q (Nm.enc d) (Nm.enc (Nat.gcd n d)) (by omega) (by omega) (by rw [Nm.I6];exact hgp)
 simp only [Nm.I6] at hd1 hd2
 generalize hgg:Nat.gcd n d=g at *
 simp only [j6,sb]
 (repeat first|refine uA ?_|(refine uK ?_ ?_;focus first|omega|(intros;simp_all<;>omega))|simp (disch:=omega) only [go_sem,Nat.reduceBEq,Nat.reduceAdd,ww,Y8,hz])
 (refine uJ rfl (fun hc=>?_) fun hc=>?_)
 ·rw [if_pos hc]
  simp only [rc,Nm.a3u,sb] at fz ⊢
  (repeat first|refine uA ?_|(refine uK ?_ ?_;focus first|omega|(intros;simp_all<;>omega))|simp (disch:=omega) only [go_sem,Nat.reduceBEq,Nat.reduceAdd,ww]|(refine uB fz ?_ ?_;exact rfl))
  (refine S.done ?_;simp only [l9,p9,go_sem,Nat.reduceBEq,Nat.reduceAdd,Nat.reduceLeDiff,Int.reduceToNat,Int.reducePow];(repeat (refine ⟨?_,?_⟩;focus first|trivial|omega|simp));exact j4.out rfl (Imp.refl rfl) rfl)
 rw [if_neg hc]
 simp only [rc,sb]
 (repeat first|refine uA ?_|(refine uK ?_ ?_;focus first|omega|(intros;simp_all<;>omega))|simp (disch:=omega) only [go_sem,Nat.reduceBEq,Nat.reduceAdd,ww,a6f,h1])
 (refine uJ rfl (fun hc=>?_) fun hc=>?_)
 ·(repeat first|refine uA ?_|(refine uK ?_ ?_;focus first|omega|(intros;simp_all<;>omega))|simp (disch:=omega) only [go_sem,Nat.reduceBEq,Nat.reduceAdd,ww,a6f,h1]|(refine uD hg ?_ ?_ ?_;exact tz hw;exact rfl))
  (refine uJ rfl (fun hc=>?_) fun hc=>?_)
  ·(repeat first|refine uA ?_|(refine uK ?_ ?_;focus first|omega|(intros;simp_all<;>omega))|simp (disch:=omega) only [go_sem,Nat.reduceBEq,Nat.reduceAdd,ww]|(refine uB hd1 ?_ ?_;exact rfl)|(refine uB hd2 ?_ ?_;exact rfl))
   (refine S.done ?_;simp only [l9,p9,go_sem,Nat.reduceBEq,Nat.reduceAdd,Nat.reduceLeDiff,Int.reduceToNat,Int.reducePow];(repeat (refine ⟨?_,?_⟩;focus first|trivial|omega|simp));exact j4.out rfl (Imp.refl rfl) rfl)
  ·rw [hc,Nat.div_one,Nat.div_one]
   (repeat first|refine uA ?_|(refine uK ?_ ?_;focus first|omega|(intros;simp_all<;>omega))|simp (disch:=omega) only [go_sem,Nat.reduceBEq,Nat.reduceAdd,ww])
   (refine S.done ?_;simp only [l9,p9,go_sem,Nat.reduceBEq,Nat.reduceAdd,Nat.reduceLeDiff,Int.reduceToNat,Int.reducePow];(repeat (refine ⟨?_,?_⟩;focus first|trivial|omega|simp));exact j4.out rfl (Imp.refl rfl) rfl)
 ·rw [hc,Nat.gcd_one_right] at hgg
  subst hgg
  rw [hc,Nat.div_one,Nat.div_one]
  (repeat first|refine uA ?_|(refine uK ?_ ?_;focus first|omega|(intros;simp_all<;>omega))|simp (disch:=omega) only [go_sem,Nat.reduceBEq,Nat.reduceAdd,ww])
  (refine S.done ?_;simp only [l9,p9,go_sem,Nat.reduceBEq,Nat.reduceAdd,Nat.reduceLeDiff,Int.reduceToNat,Int.reducePow];(repeat (refine ⟨?_,?_⟩;focus first|trivial|omega|simp));exact j4.out rfl (Imp.refl rfl) rfl)
theorem b3T (neg mi:Bool) (a b:List UInt8) (ha:a.length<=68719476736) (hb:b.length<=68719476736) :
  y9 Tryz.prog 59 [.v (.bool neg),sb a,.v (.bool mi),sb b] (.tup [.v (.bool (Nm.L9 neg (Nm.val a) mi (Nm.val b)).1),sb (Nm.enc (Nm.L9 neg (Nm.val a) mi (Nm.val b)).2)]):=by
 refine kS Tryz.func59 (by cbv) (by rfl) fun w O=>?_
 have hadd:=f_add a b (by omega) (by omega)
 have hs1:=c1T a b (by omega) (by omega)
 have hs2:=c1T b a (by omega) (by omega)
 simp only [j6,sb]
 (repeat first|refine uA ?_|(refine uK ?_ ?_;focus first|omega|(intros;simp_all<;>omega))|simp (disch:=omega) only [go_sem,Nat.reduceBEq,Nat.reduceAdd,ww])
 refine S.cond rfl (fun hc=>?_) (fun hc=>?_)
 ·have e:neg=mi:=by simpa using hc
  subst e
  unfold Nm.L9
  rw [if_pos rfl]
  (repeat first|refine uA ?_|(refine uK ?_ ?_;focus first|omega|(intros;simp_all<;>omega))|simp (disch:=omega) only [go_sem,Nat.reduceBEq,Nat.reduceAdd,ww]|(refine uB hadd ?_ ?_;exact rfl))
  exact S.done (j4.out rfl (Imp.refl rfl) rfl)
 ·have e:neg ≠ mi:=by simpa using hc
  unfold Nm.L9
  rw [if_neg e]
  by_cases h:Nm.val b<=Nm.val a
  ·rw [if_pos h]
   have e1:F6 (Nm.val a) (Nm.val b)=Nm.enc (Nm.val a-Nm.val b):=by unfold F6;rw [if_pos h]
   have e2:a4Y (Nm.val a) (Nm.val b)=0:=by unfold a4Y;rw [if_pos h]
   rw [e1,e2] at hs1
   (repeat first|refine uA ?_|(refine uK ?_ ?_;focus first|omega|(intros;simp_all<;>omega))|simp (disch:=omega) only [go_sem,Nat.reduceBEq,Nat.reduceAdd,ww]|(refine uB hs1 ?_ ?_;exact rfl))
   refine S.cond rfl (fun hc=>?_) (fun hc=>?_)
   ·(repeat first|refine uA ?_|(refine uK ?_ ?_;focus first|omega|(intros;simp_all<;>omega))|simp (disch:=omega) only [go_sem,Nat.reduceBEq,Nat.reduceAdd,ww])
    exact S.done (j4.out rfl (Imp.refl rfl) rfl)
   ·simp at hc
  ·rw [if_neg h]
   have e1:F6 (Nm.val a) (Nm.val b)=[]:=by unfold F6;rw [if_neg h]
   have e2:a4Y (Nm.val a) (Nm.val b)=1:=by unfold a4Y;rw [if_neg h]
   have e3:F6 (Nm.val b) (Nm.val a)=Nm.enc (Nm.val b-Nm.val a):=by unfold F6;rw [if_pos (by omega)]
   have e4:a4Y (Nm.val b) (Nm.val a)=0:=by unfold a4Y;rw [if_pos (by omega)]
   rw [e1,e2] at hs1
   rw [e3,e4] at hs2
   (repeat first|refine uA ?_|(refine uK ?_ ?_;focus first|omega|(intros;simp_all<;>omega))|simp (disch:=omega) only [go_sem,Nat.reduceBEq,Nat.reduceAdd,ww]|(refine uB hs1 ?_ ?_;exact rfl))
   refine S.cond rfl (fun hc=>?_) (fun hc=>?_)
   ·simp at hc
   ·(repeat first|refine uA ?_|(refine uK ?_ ?_;focus first|omega|(intros;simp_all<;>omega))|simp (disch:=omega) only [go_sem,Nat.reduceBEq,Nat.reduceAdd,ww]|(refine uB hs2 ?_ ?_;exact rfl))
    exact S.done (j4.out rfl (Imp.refl rfl) rfl)
namespace Nm
theorem J3 {a b k m:Nat} (ha:(enc a).length<=k) (hb:(enc b).length<=m):(enc (a*b)).length<=k+m:=by
 refine I8 ?_
 rw [Nat.pow_add]
 exact Nat.mul_lt_mul'' (Y6 ha) (Y6 hb)
theorem a1V {a b k:Nat} (ha:(enc a).length<=k) (hb:(enc b).length<=k):(enc (a+b)).length<=k+1:=by
 refine I8 ?_
 have h1:=Y6 ha
 have h2:=Y6 hb
 rw [c7p];omega
theorem a2s {a b:Nat} (h:a<=b):(enc a).length<=(enc b).length:=I8 (Nat.lt_of_le_of_lt h (Y6 (c6N _)))
theorem a6s (neg:Bool) (a:Nat) (mi:Bool) (b:Nat):(L9 neg a mi b).2<=a+b:=by
 unfold L9;repeat' split
 all_goals simp only;omega
theorem add_same {p q:Rat} (h:p.den=q.den):p+q=mkRat (p.num+q.num) p.den:=by
 rw [Rat.add_def',<- h,<- Int.add_mul,Rat.mkRat_mul_right p.den_nz]
theorem a7U (p:Rat):sgn (decide (p.num < 0)) p.num.natAbs=p.num:=b5N p
theorem c0o {p q:Rat} (h:p.den=q.den):mkRat (sgn (L9 (decide (p.num < 0)) p.num.natAbs (decide (q.num < 0)) q.num.natAbs).1 (L9 (decide (p.num < 0)) p.num.natAbs (decide (q.num < 0)) q.num.natAbs).2) p.den=p+q:=by
 rw [b1B,a7U,a7U,add_same h]
theorem b1Q (p q:Rat):mkRat (sgn (L9 (decide (p.num < 0)) (p.num.natAbs*q.den) (decide (q.num < 0)) (q.num.natAbs*p.den)).1 (L9 (decide (p.num < 0)) (p.num.natAbs*q.den) (decide (q.num < 0)) (q.num.natAbs*p.den)).2) (p.den*q.den)=p+q:=by
 rw [b1B,a5L,a5L,a7U,a7U,Rat.add_def']
theorem b3Z (p q:Rat):mkRat (sgn (decide (p.num < 0) != decide (q.num < 0)) (p.num.natAbs*q.num.natAbs)) (p.den*q.den)=p*q:=by
 rw [c2G,a7U,a7U,Rat.mul_def']
theorem b3o (p q:Rat) (h:q ≠ 0):mkRat (sgn (decide (p.num < 0) != decide (q.num < 0)) (p.num.natAbs*q.den)) (p.den*q.num.natAbs)=p / q:=by
 have hn:q.num ≠ 0:=fun e=>h (Rat.num_eq_zero.1 e)
 have hn':q.num.natAbs ≠ 0:=by omega
 generalize hr:mkRat (sgn (decide (p.num < 0) != decide (q.num < 0)) (p.num.natAbs*q.den)) (p.den*q.num.natAbs)=r
 have key:p=r*q:=by
  rw [<- hr]
  have e1:p=mkRat p.num p.den:=(Rat.mkRat_self p).symm
  have e2:q=mkRat q.num q.den:=(Rat.mkRat_self q).symm
  have hD:p.den*q.num.natAbs*q.den ≠ 0:=Nat.mul_ne_zero (Nat.mul_ne_zero p.den_nz hn') q.den_nz
  have e3:mkRat (sgn (decide (p.num < 0) != decide (q.num < 0)) (p.num.natAbs*q.den)) (p.den*q.num.natAbs)*q=mkRat (sgn (decide (p.num < 0) != decide (q.num < 0)) (p.num.natAbs*q.den)*q.num) (p.den*q.num.natAbs*q.den):=by
   conv=>lhs;rw [e2]
   rw [Rat.mkRat_mul_mkRat]
   simp only [Rat.mkRat_self]
  rw [e3]
  conv=>lhs;rw [e1]
  rw [Rat.mkRat_eq_iff p.den_nz hD]
  have hx:sgn (decide (p.num < 0) != decide (q.num < 0)) (p.num.natAbs*q.den)*q.num=p.num*((q.num.natAbs:Nat):Int)*q.den:=by
   rw [a5L]
   have:sgn (decide (p.num < 0) != decide (q.num < 0)) p.num.natAbs*q.num=p.num*((q.num.natAbs:Nat):Int):=by
    unfold sgn
    by_cases hA:p.num < 0
    ·by_cases hB:q.num < 0
     ·simp only [hA,hB,decide_true,bne_self_eq_false,c7o,if_false]
      have e1:((p.num.natAbs:Nat):Int)=-p.num:=by omega
      have e2:((q.num.natAbs:Nat):Int)=-q.num:=by omega
      rw [e1,e2];grind
     ·simp only [hA,hB,decide_true,decide_false,Bool.bne_false,if_true]
      have e1:((p.num.natAbs:Nat):Int)=-p.num:=by omega
      have e2:((q.num.natAbs:Nat):Int)=q.num:=by omega
      rw [e1,e2];grind
    ·by_cases hB:q.num < 0
     ·simp only [hA,hB,decide_true,decide_false,Bool.bne_true,Bool.not_false,if_true]
      have e1:((p.num.natAbs:Nat):Int)=p.num:=by omega
      have e2:((q.num.natAbs:Nat):Int)=-q.num:=by omega
      rw [e1,e2];grind
     ·simp only [hA,hB,decide_false,bne_self_eq_false,c7o,if_false]
      have e1:((p.num.natAbs:Nat):Int)=p.num:=by omega
      have e2:((q.num.natAbs:Nat):Int)=q.num:=by omega
      rw [e1,e2]
   calc sgn (decide (p.num < 0) != decide (q.num < 0)) p.num.natAbs*(q.den:Int)*q.num=(sgn (decide (p.num < 0) != decide (q.num < 0)) p.num.natAbs*q.num)*(q.den:Int):=by grind
    _=_:=by rw [this]
  rw [hx]
  push_cast
  grind
 rw [Rat.div_def]
 conv=>rhs;rw [key]
 rw [Rat.mul_assoc,Rat.mul_inv_cancel _ h,Rat.mul_one]
end Nm
theorem Rb.fit {k:Nat} {a:Nm.Rt} (h:Rb k a) (hk:1<=k):Rb k (Nm.ofQ (Nm.d9 a)):=by
 by_cases hg:a.F5
 ·rw [Nm.a4B hg];exact h
 ·have e:Nm.ofQ (Nm.d9 a)=Nm.a3u:=by unfold Nm.d9;rw [if_neg hg,Nm.a4E]
  rw [e];exact ⟨c6K _,hk⟩
theorem U3 (a:Nm.Rt) (ha:Rb 17179869184 a):FZ 58 [rc a] (rq (Nm.d9 a)):=c5h a ⟨by have:=ha.1;omega,by have:=ha.2;omega⟩
theorem c2s (a b:Nat):(Nm.enc a=Nm.enc b)=(a=b):=propext ⟨Nm.b0J,fun h=>by rw [h]⟩
theorem a2w (n:Nat):(Nm.enc n=[])=(n=0):=propext ⟨fun h=>Classical.byContradiction fun h0=>Nm.a5Y h0 h,fun h=>by rw [h,Nm.a0X]⟩
theorem a2h (n:Int) (h1:-9223372036854775808<=n) (h2:n<=9223372036854775807):FZ 21 [ints n] (rq (n:Rat)):=by
 refine kW Tryz.func21 (by cbv) (by rfl) fun w O hw=>?_
 have hb:∀ k:Nat,k<=9223372036854775808->(Nm.enc k).length<=8:=fun k hk=>Nm.I8 (by omega)
 have e1:sb [1]=sb (Nm.enc 1):=by rw [Nm.U2]
 simp only [j6,ints]
 (repeat first|refine uA ?_|(refine uK ?_ ?_;focus first|omega|(intros;simp_all<;>omega))|simp (disch:=omega) only [go_sem,Nat.reduceBEq,Nat.reduceAdd,ww])
 (refine uJ rfl (fun hc=>?_) fun hc=>?_)
 ·have hof:=b4g n (by omega)
  have hm:=a2N false n.toNat 1 (by decide) (by have:=hb n.toNat (by omega);omega) (by have:=hb 1 (by decide);omega)
  have e:mkRat (Nm.sgn false n.toNat) 1=(n:Rat):=by
   rw [Rat.mkRat_one];congr 1;unfold Nm.sgn;simp;omega
  rw [e,Nm.U2] at hm
  simp only [rq,rc,sb,ints] at hm hof ⊢
  (repeat first|refine uA ?_|(refine uK ?_ ?_;focus first|omega|(intros;simp_all<;>omega))|simp (disch:=omega) only [go_sem,Nat.reduceBEq,Nat.reduceAdd,ww]|(refine uB hof ?_ ?_;exact rfl)|(refine uD hm ?_ ?_ ?_;exact tz hw;exact rfl))
  (refine S.done ?_;simp only [l9,p9,go_sem,Nat.reduceBEq,Nat.reduceAdd,Nat.reduceLeDiff,Int.reduceToNat,Int.reducePow];(repeat (refine ⟨?_,?_⟩;focus first|trivial|omega|simp));exact j4.out rfl (Imp.refl rfl) rfl)
 ·have hof:=b4g (-(n+1)) (by omega)
  have hadd:=f_add (Nm.enc (-(n+1)).toNat) [1] (by have:=hb (-(n+1)).toNat (by omega);omega) (by decide)
  have hm:=a2N true ((-(n+1)).toNat+1) 1 (by decide) (by have:=hb ((-(n+1)).toNat+1) (by omega);omega) (by have:=hb 1 (by decide);omega)
  have e:mkRat (Nm.sgn true ((-(n+1)).toNat+1)) 1=(n:Rat):=by
   rw [Rat.mkRat_one];congr 1;unfold Nm.sgn;simp;omega
  rw [Nm.I6,show Nm.val [1]=1 from rfl] at hadd
  rw [e,Nm.U2] at hm
  have hneg:IntKind.i64.wrap (0-(n+1))=-(n+1):=by rw [Eng.wrap_i64 (by omega)];omega
  simp only [rq,rc,sb,ints] at hm hof hadd ⊢
  (repeat first|refine uA ?_|(refine uK ?_ ?_;focus first|omega|(intros;simp_all<;>omega))|simp (disch:=omega) only [go_sem,Nat.reduceBEq,Nat.reduceAdd,ww,hneg]|(refine uB hof ?_ ?_;exact rfl)|(refine uB hadd ?_ ?_;exact rfl)|(refine uD hm ?_ ?_ ?_;exact tz hw;exact rfl))
  (refine S.done ?_;simp only [l9,p9,go_sem,Nat.reduceBEq,Nat.reduceAdd,Nat.reduceLeDiff,Int.reduceToNat,Int.reducePow];(repeat (refine ⟨?_,?_⟩;focus first|trivial|omega|simp));exact j4.out rfl (Imp.refl rfl) rfl)
theorem a0O (a b:Nm.Rt) (ha:Rb 17179869184 a) (hb:Rb 17179869184 b):FZ 22 [rc a,rc b] (rq (Nm.d9 a+Nm.d9 b)):=by
 refine kW Tryz.func22 (by cbv) (by rfl) fun w O hw=>?_
 have hfa:=U3 a ha
 have hfb:=U3 b hb
 obtain ⟨n1,d1⟩:=ha.fit (by decide)
 obtain ⟨n2,d2⟩:=hb.fit (by decide)
 generalize Nm.d9 a=p at *
 generalize Nm.d9 b=q at *
 simp only [Nm.ofQ] at n1 d1 n2 d2
 have hp:=p.den_nz
 have hq:=q.den_nz
 have l1:=Nm.J3 n1 d2
 have l2:=Nm.J3 n2 d1
 have l3:=Nm.J3 d1 d2
 have s1:=b3T (decide (p.num < 0)) (decide (q.num < 0)) (Nm.enc p.num.natAbs) (Nm.enc q.num.natAbs) (by omega) (by omega)
 have m1:=a3x (Nm.enc p.num.natAbs) (Nm.enc q.den) (by omega) (by omega)
 have m2:=a3x (Nm.enc q.num.natAbs) (Nm.enc p.den) (by omega) (by omega)
 have m3:=a3x (Nm.enc p.den) (Nm.enc q.den) (by omega) (by omega)
 simp only [Nm.I6] at s1 m1 m2 m3
 have s2:=b3T (decide (p.num < 0)) (decide (q.num < 0)) (Nm.enc (p.num.natAbs*q.den)) (Nm.enc (q.num.natAbs*p.den)) (by omega) (by omega)
 simp only [Nm.I6] at s2
 have k1:(Nm.enc (Nm.L9 (decide (p.num < 0)) p.num.natAbs (decide (q.num < 0)) q.num.natAbs).2).length<=17179869185:=c6L (Nm.a2s (Nm.a6s _ _ _ _)) (Nm.a1V n1 n2)
 have k2:(Nm.enc (Nm.L9 (decide (p.num < 0)) (p.num.natAbs*q.den) (decide (q.num < 0)) (q.num.natAbs*p.den)).2).length<=34359738369:=c6L (Nm.a2s (Nm.a6s _ _ _ _)) (Nm.a1V l1 l2)
 have v1:=a2N (Nm.L9 (decide (p.num < 0)) p.num.natAbs (decide (q.num < 0)) q.num.natAbs).1 (Nm.L9 (decide (p.num < 0)) p.num.natAbs (decide (q.num < 0)) q.num.natAbs).2 p.den hp (by omega) (by omega)
 have v2:=a2N (Nm.L9 (decide (p.num < 0)) (p.num.natAbs*q.den) (decide (q.num < 0)) (q.num.natAbs*p.den)).1 (Nm.L9 (decide (p.num < 0)) (p.num.natAbs*q.den) (decide (q.num < 0)) (q.num.natAbs*p.den)).2 (p.den*q.den) (Nat.mul_ne_zero hp hq) (by omega) (by omega)
 rw [Nm.b1Q] at v2
 have hsame:=fun h=>Nm.c0o (p:=p) (q:=q) h
 generalize p+q=r at *
 generalize Nm.L9 (decide (p.num < 0)) p.num.natAbs (decide (q.num < 0)) q.num.natAbs=t1 at *
 generalize Nm.L9 (decide (p.num < 0)) (p.num.natAbs*q.den) (decide (q.num < 0)) (q.num.natAbs*p.den)=t2 at *
 simp only [j6]
 simp only [rq,rc,sb,Nm.ofQ] at *
 (repeat first|refine uA ?_|(refine uK ?_ ?_;focus first|omega|(intros;simp_all<;>omega))|simp (disch:=omega) only [go_sem,Nat.reduceBEq,Nat.reduceAdd,ww,a8b,c2s]|(refine uD hfa ?_ ?_ ?_;exact tz hw;exact rfl)|(refine uD hfb ?_ ?_ ?_;exact tz hw;exact rfl))
 (refine uJ rfl (fun hc=>?_) fun hc=>?_)
 ·rw [hsame hc] at v1
  (repeat first|refine uA ?_|(refine uK ?_ ?_;focus first|omega|(intros;simp_all<;>omega))|simp (disch:=omega) only [go_sem,Nat.reduceBEq,Nat.reduceAdd,ww]|(refine uB s1 ?_ ?_;exact rfl)|(refine uD v1 ?_ ?_ ?_;exact tz hw;exact rfl))
  (refine S.done ?_;simp only [l9,p9,go_sem,Nat.reduceBEq,Nat.reduceAdd,Nat.reduceLeDiff,Int.reduceToNat,Int.reducePow];(repeat (refine ⟨?_,?_⟩;focus first|trivial|omega|simp));exact j4.out rfl (Imp.refl rfl) rfl)
 ·(repeat first|refine uA ?_|(refine uK ?_ ?_;focus first|omega|(intros;simp_all<;>omega))|simp (disch:=omega) only [go_sem,Nat.reduceBEq,Nat.reduceAdd,ww]|(refine uB m1 ?_ ?_;exact rfl)|(refine uB m2 ?_ ?_;exact rfl)|(refine uB m3 ?_ ?_;exact rfl)|(refine uB s2 ?_ ?_;exact rfl)|(refine uD v2 ?_ ?_ ?_;exact tz hw;exact rfl))
  (refine S.done ?_;simp only [l9,p9,go_sem,Nat.reduceBEq,Nat.reduceAdd,Nat.reduceLeDiff,Int.reduceToNat,Int.reducePow];(repeat (refine ⟨?_,?_⟩;focus first|trivial|omega|simp));exact j4.out rfl (Imp.refl rfl) rfl)
theorem b8x (a b:Nm.Rt) (ha:Rb 17179869184 a) (hb:Rb 17179869184 b):FZ 112 [rc a,rc b] (rq (Nm.d9 a*Nm.d9 b)):=by
 refine kW Tryz.func112 (by cbv) (by rfl) fun w O hw=>?_
 have hfa:=U3 a ha
 have hfb:=U3 b hb
 obtain ⟨n1,d1⟩:=ha.fit (by decide)
 obtain ⟨n2,d2⟩:=hb.fit (by decide)
 generalize Nm.d9 a=p at *
 generalize Nm.d9 b=q at *
 simp only [Nm.ofQ] at n1 d1 n2 d2
 have hp:=p.den_nz
 have hq:=q.den_nz
 have l1:=Nm.J3 n1 n2
 have l3:=Nm.J3 d1 d2
 have m1:=a3x (Nm.enc p.num.natAbs) (Nm.enc q.num.natAbs) (by omega) (by omega)
 have m3:=a3x (Nm.enc p.den) (Nm.enc q.den) (by omega) (by omega)
 simp only [Nm.I6] at m1 m3
 have v2:=a2N (decide (p.num < 0) != decide (q.num < 0)) (p.num.natAbs*q.num.natAbs) (p.den*q.den) (Nat.mul_ne_zero hp hq) (by omega) (by omega)
 rw [Nm.b3Z] at v2
 generalize p*q=r at *
 simp only [j6]
 simp only [rq,rc,sb,Nm.ofQ] at *
 (repeat first|refine uA ?_|(refine uK ?_ ?_;focus first|omega|(intros;simp_all<;>omega))|simp (disch:=omega) only [go_sem,Nat.reduceBEq,Nat.reduceAdd,ww]|(refine uB m1 ?_ ?_;exact rfl)|(refine uB m3 ?_ ?_;exact rfl)|(refine uD hfa ?_ ?_ ?_;exact tz hw;exact rfl)|(refine uD hfb ?_ ?_ ?_;exact tz hw;exact rfl)|(refine uD v2 ?_ ?_ ?_;exact tz hw;exact rfl))
 (refine S.done ?_;simp only [l9,p9,go_sem,Nat.reduceBEq,Nat.reduceAdd,Nat.reduceLeDiff,Int.reduceToNat,Int.reducePow];(repeat (refine ⟨?_,?_⟩;focus first|trivial|omega|simp));exact j4.out rfl (Imp.refl rfl) rfl)
def z8 (q:Rat):Int:=if q.num=0 then 0 else if q.num < 0 then -1 else 1
theorem a9X (p:Rat):Nm.ofQ (-p)=⟨!decide (p.num < 0) && !decide (p.num.natAbs=0),Nm.enc p.num.natAbs,Nm.enc p.den⟩:=by
 unfold Nm.ofQ
 rw [Rat.neg_num,Rat.neg_den,Int.natAbs_neg]
 congr 1
 by_cases h:p.num < 0
 ·simp [h];omega
 ·by_cases h0:p.num=0
  ·simp [h0]
  ·have:¬ p.num.natAbs=0:=by omega
   simp [h,this];omega
theorem a7F (a:Nm.Rt) (ha:Rb 17179869184 a):FZ 61 [rc a] (rq (- Nm.d9 a)):=by
 refine kW Tryz.func61 (by cbv) (by rfl) fun w O hw=>?_
 have hfa:=U3 a ha
 generalize Nm.d9 a=p at *
 simp only [j6]
 unfold rq at *
 rw [a9X]
 simp only [rc,sb,Nm.ofQ] at *
 (repeat first|refine uA ?_|(refine uK ?_ ?_;focus first|omega|(intros;simp_all<;>omega))|simp (disch:=omega) only [go_sem,Nat.reduceBEq,Nat.reduceAdd,ww,Y8,a2w]|(refine uD hfa ?_ ?_ ?_;exact tz hw;exact rfl))
 (refine S.done ?_;simp only [l9,p9,go_sem,Nat.reduceBEq,Nat.reduceAdd,Nat.reduceLeDiff,Int.reduceToNat,Int.reducePow];(repeat (refine ⟨?_,?_⟩;focus first|trivial|omega|simp));exact j4.out rfl (Imp.refl rfl) rfl)
theorem c4h {k:Nat} {a:Nm.Rt} (h:Rb k a) (hk:1<=k):Rb k (Nm.ofQ (- Nm.d9 a)):=by
 obtain ⟨h1,h2⟩:=h.fit hk
 rw [a9X]
 exact ⟨h1,h2⟩
theorem a6b (a b:Nm.Rt) (ha:Rb 17179869184 a) (hb:Rb 17179869184 b):FZ 24 [rc a,rc b] (rq (Nm.d9 a-Nm.d9 b)):=by
 refine kW Tryz.func24 (by cbv) (by rfl) fun w O hw=>?_
 have hn:=a7F b hb
 have hadd:=a0O a (Nm.ofQ (- Nm.d9 b)) ha (c4h hb (by decide))
 rw [Nm.q8,<- Rat.sub_eq_add_neg] at hadd
 unfold rq at *
 generalize Nm.ofQ (- Nm.d9 b)=c at *
 generalize Nm.ofQ (Nm.d9 a-Nm.d9 b)=d at *
 simp only [j6]
 simp only [rc,sb] at *
 (repeat first|refine uA ?_|(refine uK ?_ ?_;focus first|omega|(intros;simp_all<;>omega))|simp (disch:=omega) only [go_sem,Nat.reduceBEq,Nat.reduceAdd,ww]|(refine uD hn ?_ ?_ ?_;exact tz hw;exact rfl)|(refine uD hadd ?_ ?_ ?_;exact tz hw;exact rfl))
 (refine S.done ?_;simp only [l9,p9,go_sem,Nat.reduceBEq,Nat.reduceAdd,Nat.reduceLeDiff,Int.reduceToNat,Int.reducePow];(repeat (refine ⟨?_,?_⟩;focus first|trivial|omega|simp));exact j4.out rfl (Imp.refl rfl) rfl)
def a3p (p q:Rat):Nm.Rt:=if q=0 then ⟨false,[],[]⟩ else Nm.ofQ (p / q)
def a8T (q:Rat):Int:=if q=0 then 12 else 0
theorem b7G (a b:Nm.Rt) (ha:Rb 17179869184 a) (hb:Rb 17179869184 b):FZ 71 [rc a,rc b] (.tup [rc (a3p (Nm.d9 a) (Nm.d9 b)),ints (a8T (Nm.d9 b))]):=by
 refine kW Tryz.func71 (by cbv) (by rfl) fun w O hw=>?_
 have hfa:=U3 a ha
 have hfb:=U3 b hb
 obtain ⟨n1,d1⟩:=ha.fit (by decide)
 obtain ⟨n2,d2⟩:=hb.fit (by decide)
 generalize Nm.d9 a=p at *
 generalize Nm.d9 b=q at *
 simp only [Nm.ofQ] at n1 d1 n2 d2
 have hp:=p.den_nz
 have l1:=Nm.J3 n1 d2
 have l3:=Nm.J3 d1 n2
 have m1:=a3x (Nm.enc p.num.natAbs) (Nm.enc q.den) (by omega) (by omega)
 have m3:=a3x (Nm.enc p.den) (Nm.enc q.num.natAbs) (by omega) (by omega)
 simp only [Nm.I6] at m1 m3
 have v2:=fun h0:q.num.natAbs ≠ 0=>a2N (decide (p.num < 0) != decide (q.num < 0)) (p.num.natAbs*q.den) (p.den*q.num.natAbs) (Nat.mul_ne_zero hp h0) (by omega) (by omega)
 have hdm:=fun h=>Nm.b3o p q h
 simp only [j6]
 simp only [rq,rc,sb,Nm.ofQ,ints] at *
 (repeat first|refine uA ?_|(refine uK ?_ ?_;focus first|omega|(intros;simp_all<;>omega))|simp (disch:=omega) only [go_sem,Nat.reduceBEq,Nat.reduceAdd,ww,Y8,a2w]|(refine uD hfa ?_ ?_ ?_;exact tz hw;exact rfl)|(refine uD hfb ?_ ?_ ?_;exact tz hw;exact rfl))
 (refine uJ rfl (fun hc=>?_) fun hc=>?_)
 ·have h0:q=0:=Rat.num_eq_zero.1 (by omega)
  have e1:a3p p q=⟨false,[],[]⟩:=by unfold a3p;rw [if_pos h0]
  have e2:a8T q=12:=by unfold a8T;rw [if_pos h0]
  rw [e1,e2]
  (repeat first|refine uA ?_|(refine uK ?_ ?_;focus first|omega|(intros;simp_all<;>omega))|simp (disch:=omega) only [go_sem,Nat.reduceBEq,Nat.reduceAdd,ww])
  (refine S.done ?_;simp only [l9,p9,go_sem,Nat.reduceBEq,Nat.reduceAdd,Nat.reduceLeDiff,Int.reduceToNat,Int.reducePow];(repeat (refine ⟨?_,?_⟩;focus first|trivial|omega|simp));exact j4.out rfl (Imp.refl rfl) rfl)
 ·have h0:q ≠ 0:=fun h=>hc (by rw [Rat.num_eq_zero.2 h];rfl)
  have e1:a3p p q=Nm.ofQ (p / q):=by unfold a3p;rw [if_neg h0]
  have e2:a8T q=0:=by unfold a8T;rw [if_neg h0]
  rw [e1,e2]
  have v2:=v2 hc
  rw [hdm h0] at v2
  generalize p / q=r at *
  simp only [Nm.ofQ] at *
  (repeat first|refine uA ?_|(refine uK ?_ ?_;focus first|omega|(intros;simp_all<;>omega))|simp (disch:=omega) only [go_sem,Nat.reduceBEq,Nat.reduceAdd,ww]|(refine uB m1 ?_ ?_;exact rfl)|(refine uB m3 ?_ ?_;exact rfl)|(refine uD v2 ?_ ?_ ?_;exact tz hw;exact rfl))
  (refine S.done ?_;simp only [l9,p9,go_sem,Nat.reduceBEq,Nat.reduceAdd,Nat.reduceLeDiff,Int.reduceToNat,Int.reducePow];(repeat (refine ⟨?_,?_⟩;focus first|trivial|omega|simp));exact j4.out rfl (Imp.refl rfl) rfl)
theorem O9 (a:Nm.Rt) (ha:Rb 17179869184 a):FZ 42 [rc a] (ints (z8 (Nm.d9 a))):=by
 refine kW Tryz.func42 (by cbv) (by rfl) fun w O hw=>?_
 have hfa:=U3 a ha
 generalize Nm.d9 a=p at *
 simp only [j6]
 simp only [rq,rc,sb,Nm.ofQ,ints] at *
 (repeat first|refine uA ?_|(refine uK ?_ ?_;focus first|omega|(intros;simp_all<;>omega))|simp (disch:=omega) only [go_sem,Nat.reduceBEq,Nat.reduceAdd,ww,Y8,a2w]|(refine uD hfa ?_ ?_ ?_;exact tz hw;exact rfl))
 (refine uJ rfl (fun hc=>?_) fun hc=>?_)
 ·have:z8 p=0:=by unfold z8;rw [if_pos (by omega)]
  rw [this]
  (repeat first|refine uA ?_|(refine uK ?_ ?_;focus first|omega|(intros;simp_all<;>omega))|simp (disch:=omega) only [go_sem,Nat.reduceBEq,Nat.reduceAdd,ww])
  exact S.done (j4.out rfl (Imp.refl rfl) rfl)
 (repeat first|refine uA ?_|(refine uK ?_ ?_;focus first|omega|(intros;simp_all<;>omega))|simp (disch:=omega) only [go_sem,Nat.reduceBEq,Nat.reduceAdd,ww])
 (refine uJ rfl (fun hc=>?_) fun hc=>?_)
 ·have:z8 p=-1:=by unfold z8;rw [if_neg (by omega),if_pos hc]
  rw [this]
  (repeat first|refine uA ?_|(refine uK ?_ ?_;focus first|omega|(intros;simp_all<;>omega))|simp (disch:=omega) only [go_sem,Nat.reduceBEq,Nat.reduceAdd,ww])
  exact S.done (j4.out rfl (Imp.refl rfl) rfl)
 ·have:z8 p=1:=by unfold z8;rw [if_neg (by omega),if_neg hc]
  rw [this]
  (repeat first|refine uA ?_|(refine uK ?_ ?_;focus first|omega|(intros;simp_all<;>omega))|simp (disch:=omega) only [go_sem,Nat.reduceBEq,Nat.reduceAdd,ww])
  exact S.done (j4.out rfl (Imp.refl rfl) rfl)
theorem b0s (a b:Nat):-1<=Nm.a0C a b/\Nm.a0C a b<=1:=by
 unfold Nm.a0C
 by_cases h:a < b
 ·rw [if_pos h];omega
 ·rw [if_neg h];split<;>omega
theorem M6 (a b:Nm.Rt) (ha:Rb 17179869184 a) (hb:Rb 17179869184 b):FZ 28 [rc a,rc b] (ints (Nm.q9 (Nm.d9 a) (Nm.d9 b))):=by
 refine kW Tryz.func28 (by cbv) (by rfl) fun w O hw=>?_
 have hfa:=U3 a ha
 have hfb:=U3 b hb
 obtain ⟨n1,d1⟩:=ha.fit (by decide)
 obtain ⟨n2,d2⟩:=hb.fit (by decide)
 generalize Nm.d9 a=p at *
 generalize Nm.d9 b=q at *
 rw [Nm.c2z]
 simp only [Nm.ofQ] at n1 d1 n2 d2
 have l1:=Nm.J3 n1 d2
 have l2:=Nm.J3 n2 d1
 have m1:=a3x (Nm.enc p.num.natAbs) (Nm.enc q.den) (by omega) (by omega)
 have m2:=a3x (Nm.enc q.num.natAbs) (Nm.enc p.den) (by omega) (by omega)
 simp only [Nm.I6] at m1 m2
 have hcmp:=a9z (Nm.enc (p.num.natAbs*q.den)) (Nm.enc (q.num.natAbs*p.den)) (by omega) (by omega)
 simp only [Nm.I6] at hcmp
 have hcr:=b0s (p.num.natAbs*q.den) (q.num.natAbs*p.den)
 generalize Nm.a0C (p.num.natAbs*q.den) (q.num.natAbs*p.den)=cn at *
 simp only [j6]
 simp only [rq,rc,sb,Nm.ofQ,ints] at *
 generalize decide (p.num < 0)=bp at *
 generalize decide (q.num < 0)=bq at *
 (repeat first|refine uA ?_|(refine uK ?_ ?_;focus first|omega|(intros;simp_all<;>omega))|simp (disch:=omega) only [go_sem,Nat.reduceBEq,Nat.reduceAdd,ww]|(refine uD hfa ?_ ?_ ?_;exact tz hw;exact rfl)|(refine uD hfb ?_ ?_ ?_;exact tz hw;exact rfl))
 refine S.cond rfl (fun hc=>?_) (fun hc=>?_)
 ·have hne:bp ≠ bq:=by simpa using hc
  rw [if_pos hne]
  (repeat first|refine uA ?_|(refine uK ?_ ?_;focus first|omega|(intros;simp_all<;>omega))|simp (disch:=omega) only [go_sem,Nat.reduceBEq,Nat.reduceAdd,ww])
  refine S.cond rfl (fun hc=>?_) (fun hc=>?_)
  ·rw [if_pos hc]
   (repeat first|refine uA ?_|(refine uK ?_ ?_;focus first|omega|(intros;simp_all<;>omega))|simp (disch:=omega) only [go_sem,Nat.reduceBEq,Nat.reduceAdd,ww])
   exact S.done (j4.out rfl (Imp.refl rfl) rfl)
  ·rw [if_neg (by simp [hc])]
   (repeat first|refine uA ?_|(refine uK ?_ ?_;focus first|omega|(intros;simp_all<;>omega))|simp (disch:=omega) only [go_sem,Nat.reduceBEq,Nat.reduceAdd,ww])
   exact S.done (j4.out rfl (Imp.refl rfl) rfl)
 ·have he:bp=bq:=by simpa using hc
  rw [if_neg (by simp [he])]
  (repeat first|refine uA ?_|(refine uK ?_ ?_;focus first|omega|(intros;simp_all<;>omega))|simp (disch:=omega) only [go_sem,Nat.reduceBEq,Nat.reduceAdd,ww]|(refine uB m1 ?_ ?_;exact rfl)|(refine uB m2 ?_ ?_;exact rfl)|(refine uB hcmp ?_ ?_;exact rfl))
  refine S.cond rfl (fun hc=>?_) (fun hc=>?_)
  ·rw [if_pos hc]
   have hneg:IntKind.i64.wrap (0-cn)=- cn:=by rw [Eng.wrap_i64 (by omega)];omega
   (repeat first|refine uA ?_|(refine uK ?_ ?_;focus first|omega|(intros;simp_all<;>omega))|simp (disch:=omega) only [go_sem,Nat.reduceBEq,Nat.reduceAdd,ww,hneg])
   exact S.done (j4.out rfl (Imp.refl rfl) rfl)
  ·rw [if_neg (by simp [hc])]
   (repeat first|refine uA ?_|(refine uK ?_ ?_;focus first|omega|(intros;simp_all<;>omega))|simp (disch:=omega) only [go_sem,Nat.reduceBEq,Nat.reduceAdd,ww])
   exact S.done (j4.out rfl (Imp.refl rfl) rfl)
def G9 (p q:Rat):Rat:=if Nm.q9 p q<=0 then p else q
def G8 (p q:Rat):Rat:=if Nm.q9 p q >= 0 then p else q
theorem a3K (a b:Nm.Rt) (ha:Rb 17179869184 a) (hb:Rb 17179869184 b):FZ 69 [rc a,rc b] (rq (G9 (Nm.d9 a) (Nm.d9 b))):=by
 refine kW Tryz.func69 (by cbv) (by rfl) fun w O hw=>?_
 have hfa:=U3 a ha
 have hfb:=U3 b hb
 have hc:=M6 a b ha hb
 unfold G9
 generalize Nm.q9 (Nm.d9 a) (Nm.d9 b)=cn at *
 simp only [j6]
 unfold rq at *
 generalize Nm.d9 a=p at *
 generalize Nm.d9 b=q at *
 simp only [rc,sb,ints] at *
 (repeat first|refine uA ?_|(refine uK ?_ ?_;focus first|omega|(intros;simp_all<;>omega))|simp (disch:=omega) only [go_sem,Nat.reduceBEq,Nat.reduceAdd,ww]|(refine uD hc ?_ ?_ ?_;exact tz hw;exact rfl))
 (refine uJ rfl (fun hc=>?_) fun hc=>?_)
 ·rw [if_pos hc]
  (repeat first|refine uA ?_|(refine uK ?_ ?_;focus first|omega|(intros;simp_all<;>omega))|simp (disch:=omega) only [go_sem,Nat.reduceBEq,Nat.reduceAdd,ww]|(refine uD hfa ?_ ?_ ?_;exact tz hw;exact rfl))
  (refine S.done ?_;simp only [l9,p9,go_sem,Nat.reduceBEq,Nat.reduceAdd,Nat.reduceLeDiff,Int.reduceToNat,Int.reducePow];(repeat (refine ⟨?_,?_⟩;focus first|trivial|omega|simp));exact j4.out rfl (Imp.refl rfl) rfl)
 ·rw [if_neg hc]
  (repeat first|refine uA ?_|(refine uK ?_ ?_;focus first|omega|(intros;simp_all<;>omega))|simp (disch:=omega) only [go_sem,Nat.reduceBEq,Nat.reduceAdd,ww]|(refine uD hfb ?_ ?_ ?_;exact tz hw;exact rfl))
  (refine S.done ?_;simp only [l9,p9,go_sem,Nat.reduceBEq,Nat.reduceAdd,Nat.reduceLeDiff,Int.reduceToNat,Int.reducePow];(repeat (refine ⟨?_,?_⟩;focus first|trivial|omega|simp));exact j4.out rfl (Imp.refl rfl) rfl)
theorem a4V (a b:Nm.Rt) (ha:Rb 17179869184 a) (hb:Rb 17179869184 b):FZ 25 [rc a,rc b] (rq (G8 (Nm.d9 a) (Nm.d9 b))):=by
 refine kW Tryz.func25 (by cbv) (by rfl) fun w O hw=>?_
 have hfa:=U3 a ha
 have hfb:=U3 b hb
 have hc:=M6 a b ha hb
 unfold G8
 generalize Nm.q9 (Nm.d9 a) (Nm.d9 b)=cn at *
 simp only [j6]
 unfold rq at *
 generalize Nm.d9 a=p at *
 generalize Nm.d9 b=q at *
 simp only [rc,sb,ints] at *
 (repeat first|refine uA ?_|(refine uK ?_ ?_;focus first|omega|(intros;simp_all<;>omega))|simp (disch:=omega) only [go_sem,Nat.reduceBEq,Nat.reduceAdd,ww]|(refine uD hc ?_ ?_ ?_;exact tz hw;exact rfl))
 (refine uJ rfl (fun hc=>?_) fun hc=>?_)
 ·rw [if_pos hc]
  (repeat first|refine uA ?_|(refine uK ?_ ?_;focus first|omega|(intros;simp_all<;>omega))|simp (disch:=omega) only [go_sem,Nat.reduceBEq,Nat.reduceAdd,ww]|(refine uD hfa ?_ ?_ ?_;exact tz hw;exact rfl))
  (refine S.done ?_;simp only [l9,p9,go_sem,Nat.reduceBEq,Nat.reduceAdd,Nat.reduceLeDiff,Int.reduceToNat,Int.reducePow];(repeat (refine ⟨?_,?_⟩;focus first|trivial|omega|simp));exact j4.out rfl (Imp.refl rfl) rfl)
 ·rw [if_neg hc]
  (repeat first|refine uA ?_|(refine uK ?_ ?_;focus first|omega|(intros;simp_all<;>omega))|simp (disch:=omega) only [go_sem,Nat.reduceBEq,Nat.reduceAdd,ww]|(refine uD hfb ?_ ?_ ?_;exact tz hw;exact rfl))
  (refine S.done ?_;simp only [l9,p9,go_sem,Nat.reduceBEq,Nat.reduceAdd,Nat.reduceLeDiff,Int.reduceToNat,Int.reducePow];(repeat (refine ⟨?_,?_⟩;focus first|trivial|omega|simp));exact j4.out rfl (Imp.refl rfl) rfl)
theorem b7r (a:Nm.Rt) (ha:Rb 17179869184 a):FZ 23 [rc a] (rc ⟨false,Nm.enc (Nm.d9 a).num.natAbs,Nm.enc (Nm.d9 a).den⟩):=by
 refine kW Tryz.func23 (by cbv) (by rfl) fun w O hw=>?_
 have hfa:=U3 a ha
 generalize Nm.d9 a=p at *
 simp only [j6]
 unfold rq at *
 simp only [rc,sb,Nm.ofQ] at *
 (repeat first|refine uA ?_|(refine uK ?_ ?_;focus first|omega|(intros;simp_all<;>omega))|simp (disch:=omega) only [go_sem,Nat.reduceBEq,Nat.reduceAdd,ww]|(refine uD hfa ?_ ?_ ?_;exact tz hw;exact rfl))
 (refine S.done ?_;simp only [l9,p9,go_sem,Nat.reduceBEq,Nat.reduceAdd,Nat.reduceLeDiff,Int.reduceToNat,Int.reducePow];(repeat (refine ⟨?_,?_⟩;focus first|trivial|omega|simp));exact j4.out rfl (Imp.refl rfl) rfl)
def l6 (a:Nm.Rt):Bool:=decide (a.num.length<=3) && decide (a.den.length<=2) && decide a.F5 && decide (Nm.val a.num<=1000000) && decide (Nm.val a.den<=1000)
theorem b5z (a b:Nat):(Nm.a0C a b<=0)=(a<=b):=by
 unfold Nm.a0C
 by_cases h:a < b
 ·rw [if_pos h];simp;omega
 ·rw [if_neg h];split
  ·simp;omega
  ·simp;omega
theorem a2W (a:Nm.Rt) (ha:Rb 17179869184 a):FZ 77 [rc a] (.v (.bool (l6 a))):=by
 refine kW Tryz.func77 (by cbv) (by rfl) fun w O hw=>?_
 have hg:=a0q a ⟨by have:=ha.1;omega,by have:=ha.2;omega⟩
 have ho1:=b4g 1000000 (by decide)
 have ho2:=b4g 1000 (by decide)
 have hb:∀ k:Nat,k<=1000000->(Nm.enc k).length<=8:=fun k hk=>Nm.I8 (by omega)
 have hb1:=hb 1000000 (by decide)
 have hb2:=hb 1000 (by decide)
 have hc1:=a9z a.num (Nm.enc 1000000) (by have:=ha.1;omega) (by omega)
 have hc2:=a9z a.den (Nm.enc 1000) (by have:=ha.2;omega) (by omega)
 rw [Nm.I6] at hc1 hc2
 rw [show (1000000:Int).toNat=1000000 from rfl] at ho1
 rw [show (1000:Int).toNat=1000 from rfl] at ho2
 have hl1:=b5z (Nm.val a.num) 1000000
 have hl2:=b5z (Nm.val a.den) 1000
 unfold l6
 generalize decide a.F5=g at *
 generalize Nm.enc 1000000=e1 at *
 generalize Nm.enc 1000=e2 at *
 obtain ⟨neg,num,den⟩:=a
 obtain ⟨r1,r2⟩:=ha
 simp only [j6]
 simp only [rc,sb,ints] at *
 generalize Nm.a0C (Nm.val num) 1000000=c1 at *
 generalize Nm.a0C (Nm.val den) 1000=c2 at *
 simp only [<- hl1,<- hl2]
 have hi1:decide ((num.length:Int)<=3)=decide (num.length<=3):=decide_eq_decide.2 (by omega)
 have hi2:decide ((den.length:Int)<=2)=decide (den.length<=2):=decide_eq_decide.2 (by omega)
 (repeat first|refine uA ?_|(refine uK ?_ ?_;focus first|omega|(intros;simp_all<;>omega))|simp (disch:=omega) only [go_sem,Nat.reduceBEq,Nat.reduceAdd,ww,D9,hi1,hi2]|(refine uB ho1 ?_ ?_;exact rfl)|(refine uB ho2 ?_ ?_;exact rfl)|(refine uB hc1 ?_ ?_;exact rfl)|(refine uB hc2 ?_ ?_;exact rfl)|(refine uD hg ?_ ?_ ?_;exact tz hw;exact rfl))
 exact S.done (j4.out rfl (Imp.refl rfl) rfl)
open Go Eng
def tc (h:Bool) (a:Nm.Rt):C:=.agg [.v (.bool h),.v (.bool a.neg),sb a.num,sb a.den]
def tq (h:Bool) (q:Rat):C:=tc h (Nm.ofQ q)
theorem b2n (a:Nm.Rt) (ha:Rb 17179869184 a):FZ 144 [rc a] (tq false (Nm.d9 a)):=by
 refine kW Tryz.func144 (by cbv) (by rfl) fun w O hw=>?_
 have hm:=a3K a a ha ha
 have e:G9 (Nm.d9 a) (Nm.d9 a)=Nm.d9 a:=by unfold G9;split<;>rfl
 rw [e] at hm
 unfold rq tq at *
 generalize Nm.ofQ (Nm.d9 a)=r at *
 simp only [j6]
 simp only [rc,tc,sb] at *
 (repeat first|refine uA ?_|(refine uK ?_ ?_;focus first|omega|(intros;simp_all<;>omega))|simp (disch:=omega) only [go_sem,Nat.reduceBEq,Nat.reduceAdd,ww]|(refine uD hm ?_ ?_ ?_;exact tz hw;exact rfl))
 (refine S.done ?_;simp only [l9,p9,go_sem,Nat.reduceBEq,Nat.reduceAdd,Nat.reduceLeDiff,Int.reduceToNat,Int.reducePow];(repeat (refine ⟨?_,?_⟩;focus first|trivial|omega|simp));exact j4.out rfl (Imp.refl rfl) rfl)
theorem a7Y {neg:Bool} {n d k m:Nat} (hd:d ≠ 0) (hn:(Nm.enc n).length<=k) (hdl:(Nm.enc d).length<=k) (hk:1<=k) (hm:k<=m):Rb m (Nm.ofQ (mkRat (Nm.sgn neg n) d)):=by
 rw [<- Nm.b0M neg hd]
 split
 ·exact ⟨c6K _,c6L hk hm⟩
 ·exact ⟨c6L (Nm.a2s (Nat.div_le_self _ _)) (c6L hn hm),c6L (Nm.a2s (Nat.div_le_self _ _)) (c6L hdl hm)⟩
theorem a4G {k:Nat} {p:Rat} (h:Rb k (Nm.ofQ p)):1<=k:=by
 have h1:=h.2
 simp only [Nm.ofQ] at h1
 have:Nm.enc p.den ≠ []:=Nm.a5Y p.den_nz
 have:=List.length_pos_iff.2 this
 omega
theorem K9 {k m:Nat} {p q:Rat} (hp:Rb k (Nm.ofQ p)) (hq:Rb m (Nm.ofQ q)):Rb (k+m+1) (Nm.ofQ (p+q)):=by
 have h1:=a4G hp
 rw [<- Nm.b1Q p q]
 have l1:=Nm.J3 hp.1 hq.2
 have l2:=Nm.J3 hq.1 hp.2
 have l3:=Nm.J3 hp.2 hq.2
 exact a7Y (k:=k+m+1) (Nat.mul_ne_zero p.den_nz q.den_nz) (c6L (Nm.a2s (Nm.a6s _ _ _ _)) (Nm.a1V l1 (by omega))) (by omega) (by omega) (c6N _)
theorem I5 {k m:Nat} {p q:Rat} (hp:Rb k (Nm.ofQ p)) (hq:Rb m (Nm.ofQ q)):Rb (k+m) (Nm.ofQ (p*q)):=by
 have h1:=a4G hp
 rw [<- Nm.b3Z p q]
 exact a7Y (k:=k+m) (Nat.mul_ne_zero p.den_nz q.den_nz) (Nm.J3 hp.1 hq.1) (Nm.J3 hp.2 hq.2) (by omega) (c6N _)
theorem a9y {k m:Nat} {p q:Rat} (h:q ≠ 0) (hp:Rb k (Nm.ofQ p)) (hq:Rb m (Nm.ofQ q)):Rb (k+m) (Nm.ofQ (p / q)):=by
 have h1:=a4G hp
 rw [<- Nm.b3o p q h]
 have hn:q.num.natAbs ≠ 0:=fun e=>h (Rat.num_eq_zero.1 (by omega))
 exact a7Y (k:=k+m) (Nat.mul_ne_zero p.den_nz hn) (Nm.J3 hp.1 hq.2) (Nm.J3 hp.2 hq.1) (by omega) (c6N _)
theorem a0L {k:Nat} {p:Rat} (hp:Rb k (Nm.ofQ p)):Rb k (Nm.ofQ (-p)):=by
 rw [a9X];exact hp
theorem O8 {k m:Nat} {p q:Rat} (hp:Rb k (Nm.ofQ p)) (hq:Rb m (Nm.ofQ q)):Rb (k+m+1) (Nm.ofQ (p-q)):=by
 rw [Rat.sub_eq_add_neg];exact K9 hp (a0L hq)
theorem Rb.mono {k m:Nat} {a:Nm.Rt} (h:Rb k a) (hm:k<=m):Rb m a:=⟨c6L h.1 hm,c6L h.2 hm⟩
theorem a2e (p q:Rat) (hp:Rb 17179869184 (Nm.ofQ p)) (hq:Rb 17179869184 (Nm.ofQ q)):FZ 22 [rq p,rq q] (rq (p+q)):=by
 have:=a0O (Nm.ofQ p) (Nm.ofQ q) hp hq
 rwa [Nm.q8,Nm.q8] at this
theorem a5C (p q:Rat) (hp:Rb 17179869184 (Nm.ofQ p)) (hq:Rb 17179869184 (Nm.ofQ q)):FZ 24 [rq p,rq q] (rq (p-q)):=by
 have:=a6b (Nm.ofQ p) (Nm.ofQ q) hp hq
 rwa [Nm.q8,Nm.q8] at this
theorem a2f (p q:Rat) (hp:Rb 17179869184 (Nm.ofQ p)) (hq:Rb 17179869184 (Nm.ofQ q)):FZ 112 [rq p,rq q] (rq (p*q)):=by
 have:=b8x (Nm.ofQ p) (Nm.ofQ q) hp hq
 rwa [Nm.q8,Nm.q8] at this
theorem b6h (p q:Rat) (hp:Rb 17179869184 (Nm.ofQ p)) (hq:Rb 17179869184 (Nm.ofQ q)):FZ 71 [rq p,rq q] (.tup [rc (a3p p q),ints (a8T q)]):=by
 have:=b7G (Nm.ofQ p) (Nm.ofQ q) hp hq
 rwa [Nm.q8,Nm.q8] at this
theorem c4J:FZ 204 [] (tq true 0):=by
 refine kW Tryz.func204 (by cbv) (by rfl) fun w O hw=>?_
 have ho:=a2h 0 (by decide) (by decide)
 rw [show ((0:Int):Rat)=0 from rfl] at ho
 unfold rq tq at *
 generalize Nm.ofQ 0=r at *
 simp only [j6]
 simp only [rc,tc,sb,ints] at *
 (repeat first|refine uA ?_|(refine uK ?_ ?_;focus first|omega|(intros;simp_all<;>omega))|simp (disch:=omega) only [go_sem,Nat.reduceBEq,Nat.reduceAdd,ww]|(refine uD ho ?_ ?_ ?_;exact tz hw;exact rfl))
 (refine S.done ?_;simp only [l9,p9,go_sem,Nat.reduceBEq,Nat.reduceAdd,Nat.reduceLeDiff,Int.reduceToNat,Int.reducePow];(repeat (refine ⟨?_,?_⟩;focus first|trivial|omega|simp));exact j4.out rfl (Imp.refl rfl) rfl)
def J7 (h:Bool) (a:Nm.Rt):Rat:=if h then 0 else Nm.d9 a
theorem b7i (h:Bool) (a:Nm.Rt) (ha:Rb 17179869184 a):FZ 177 [tc h a] (tq h (J7 h a)):=by
 refine kW Tryz.func177 (by cbv) (by rfl) fun w O hw=>?_
 have ho:=c4J
 have hf:=b2n a ha
 unfold J7 tq at *
 cases h
 ·simp only [c7o,if_false]
  generalize Nm.ofQ (Nm.d9 a)=r at *
  simp only [j6]
  simp only [rc,tc,sb,ints] at *
  (repeat first|refine uA ?_|(refine uK ?_ ?_;focus first|omega|(intros;simp_all<;>omega))|simp (disch:=omega) only [go_sem,Nat.reduceBEq,Nat.reduceAdd,ww])
  exact S.cond rfl (fun hc=>by cases hc) (fun _=>by
   (repeat first|refine uA ?_|(refine uK ?_ ?_;focus first|omega|(intros;simp_all<;>omega))|simp (disch:=omega) only [go_sem,Nat.reduceBEq,Nat.reduceAdd,ww]|(refine uD hf ?_ ?_ ?_;exact tz hw;exact rfl))
   (refine S.done ?_;simp only [l9,p9,go_sem,Nat.reduceBEq,Nat.reduceAdd,Nat.reduceLeDiff,Int.reduceToNat,Int.reducePow];(repeat (refine ⟨?_,?_⟩;focus first|trivial|omega|simp));exact j4.out rfl (Imp.refl rfl) rfl))
 ·simp only [if_true]
  generalize Nm.ofQ 0=r at *
  simp only [j6]
  simp only [rc,tc,sb,ints] at *
  (repeat first|refine uA ?_|(refine uK ?_ ?_;focus first|omega|(intros;simp_all<;>omega))|simp (disch:=omega) only [go_sem,Nat.reduceBEq,Nat.reduceAdd,ww])
  exact S.cond rfl (fun _=>by
   (repeat first|refine uA ?_|(refine uK ?_ ?_;focus first|omega|(intros;simp_all<;>omega))|simp (disch:=omega) only [go_sem,Nat.reduceBEq,Nat.reduceAdd,ww]|(refine uD ho ?_ ?_ ?_;exact tz hw;exact rfl))
   (refine S.done ?_;simp only [l9,p9,go_sem,Nat.reduceBEq,Nat.reduceAdd,Nat.reduceLeDiff,Int.reduceToNat,Int.reducePow];(repeat (refine ⟨?_,?_⟩;focus first|trivial|omega|simp));exact j4.out rfl (Imp.refl rfl) rfl)) (fun hc=>by cases hc)
def a2u (h:Bool) (t:Rat):Rat:=if h then -1 else (1-t*t) / (1+t*t)
def Z4 (t:Rat):Rat:=(t+t) / (1+t*t)
theorem sq_nonneg (t:Rat):0<=t*t:=by
 rcases Rat.le_total (a:=0) (b:=t) with h|h
 ·exact Rat.mul_nonneg h h
 ·have h1:0<=-t:=by grind
  have:=Rat.mul_nonneg h1 h1
  grind
theorem a9L (t:Rat):1+t*t ≠ 0:=by
 have:=sq_nonneg t
 intro h
 have h1:(0:Rat) < 1:=by decide
 grind
theorem R5:Rb 8 (Nm.ofQ 1):=⟨Nm.I8 (by decide),Nm.I8 (by decide)⟩
theorem c4X (h:Bool) (a:Nm.Rt) (ha:Rb 4294967296 a):FZ 114 [tc h a] (rq (a2u h (J7 h a))):=by
 refine kW Tryz.func114 (by cbv) (by rfl) fun w O hw=>?_
 have hf:=b7i h a (ha.mono (by decide))
 have ho:=a2h 1 (by decide) (by decide)
 have hm1:=a2h (-1) (by decide) (by decide)
 rw [show ((1:Int):Rat)=1 from rfl] at ho
 rw [show ((-1:Int):Rat)=-1 from rfl] at hm1
 have hk:Rb 4294967296 (Nm.ofQ (J7 h a)):=by
  unfold J7;cases h
  ·exact ha.fit (by decide)
  ·simp only [if_true];rw [Nm.a4E];exact ⟨by decide,by decide⟩
 generalize J7 h a=t at *
 have hsq:=a2f t t (hk.mono (by decide)) (hk.mono (by decide))
 have k2:=I5 hk hk
 have hs:=a5C 1 (t*t) (R5.mono (by decide)) (k2.mono (by decide))
 have hp:=a2e 1 (t*t) (R5.mono (by decide)) (k2.mono (by decide))
 have hd:=b6h (1-t*t) (1+t*t) ((O8 R5 k2).mono (by decide)) ((K9 R5 k2).mono (by decide))
 rw [show a3p (1-t*t) (1+t*t)=Nm.ofQ ((1-t*t) / (1+t*t)) by unfold a3p;rw [if_neg (a9L t)]] at hd
 unfold a2u
 cases h
 ·simp only [c7o,if_false]
  generalize (1-t*t) / (1+t*t)=r at *
  unfold tq rq at *
  generalize Nm.ofQ t=rt at *
  generalize Nm.ofQ (t*t)=rs at *
  generalize Nm.ofQ (1-t*t)=r1 at *
  generalize Nm.ofQ (1+t*t)=r2 at *
  generalize Nm.ofQ r=r3 at *
  generalize Nm.ofQ 1=r4 at *
  simp only [j6]
  simp only [rc,tc,sb,ints] at *
  (repeat first|refine uA ?_|(refine uK ?_ ?_;focus first|omega|(intros;simp_all<;>omega))|simp (disch:=omega) only [go_sem,Nat.reduceBEq,Nat.reduceAdd,ww]|(refine uD hf ?_ ?_ ?_;exact tz hw;exact rfl))
  refine S.cond rfl (fun hc=>by cases hc) (fun _=>?_)
  (repeat first|refine uA ?_|(refine uK ?_ ?_;focus first|omega|(intros;simp_all<;>omega))|simp (disch:=omega) only [go_sem,Nat.reduceBEq,Nat.reduceAdd,ww]|(refine uD hsq ?_ ?_ ?_;exact tz hw;exact rfl)|(refine uD ho ?_ ?_ ?_;exact tz hw;exact rfl)|(refine uD hs ?_ ?_ ?_;exact tz hw;exact rfl)|(refine uD hp ?_ ?_ ?_;exact tz hw;exact rfl)|(refine uD hd ?_ ?_ ?_;exact tz hw;exact rfl))
  (refine S.done ?_;simp only [l9,p9,go_sem,Nat.reduceBEq,Nat.reduceAdd,Nat.reduceLeDiff,Int.reduceToNat,Int.reducePow];(repeat (refine ⟨?_,?_⟩;focus first|trivial|omega|simp));exact j4.out rfl (Imp.refl rfl) rfl)
 ·simp only [if_true]
  unfold tq rq at *
  generalize Nm.ofQ t=rt at *
  generalize Nm.ofQ (-1)=r4 at *
  simp only [j6]
  simp only [rc,tc,sb,ints] at *
  (repeat first|refine uA ?_|(refine uK ?_ ?_;focus first|omega|(intros;simp_all<;>omega))|simp (disch:=omega) only [go_sem,Nat.reduceBEq,Nat.reduceAdd,ww]|(refine uD hf ?_ ?_ ?_;exact tz hw;exact rfl))
  refine S.cond rfl (fun _=>?_) (fun hc=>by cases hc)
  (repeat first|refine uA ?_|(refine uK ?_ ?_;focus first|omega|(intros;simp_all<;>omega))|simp (disch:=omega) only [go_sem,Nat.reduceBEq,Nat.reduceAdd,ww]|(refine uD hm1 ?_ ?_ ?_;exact tz hw;exact rfl))
  (refine S.done ?_;simp only [l9,p9,go_sem,Nat.reduceBEq,Nat.reduceAdd,Nat.reduceLeDiff,Int.reduceToNat,Int.reducePow];(repeat (refine ⟨?_,?_⟩;focus first|trivial|omega|simp));exact j4.out rfl (Imp.refl rfl) rfl)
theorem b0v {k:Nat} {h:Bool} {a:Nm.Rt} (ha:Rb k a) (hk:1<=k):Rb k (Nm.ofQ (J7 h a)):=by
 unfold J7;cases h
 ·exact ha.fit hk
 ·simp only [if_true];rw [Nm.a4E];exact ⟨c6K _,hk⟩
theorem b2R (h:Bool) (a:Nm.Rt) (ha:Rb 4294967296 a):FZ 115 [tc h a] (rq (Z4 (J7 h a))):=by
 refine kW Tryz.func115 (by cbv) (by rfl) fun w O hw=>?_
 have hf:=b7i h a (ha.mono (by decide))
 have ho:=a2h 1 (by decide) (by decide)
 rw [show ((1:Int):Rat)=1 from rfl] at ho
 have hk:Rb 4294967296 (Nm.ofQ (J7 h a)):=b0v ha (by decide)
 generalize J7 h a=t at *
 have hsq:=a2f t t (hk.mono (by decide)) (hk.mono (by decide))
 have k2:=I5 hk hk
 have hs:=a2e t t (hk.mono (by decide)) (hk.mono (by decide))
 have hp:=a2e 1 (t*t) (R5.mono (by decide)) (k2.mono (by decide))
 have hd:=b6h (t+t) (1+t*t) ((K9 hk hk).mono (by decide)) ((K9 R5 k2).mono (by decide))
 rw [show a3p (t+t) (1+t*t)=Nm.ofQ ((t+t) / (1+t*t)) by unfold a3p;rw [if_neg (a9L t)]] at hd
 unfold Z4
 generalize (t+t) / (1+t*t)=r at *
 unfold tq rq at *
 generalize Nm.ofQ t=rt at *
 generalize Nm.ofQ (t*t)=rs at *
 generalize Nm.ofQ (t+t)=r1 at *
 generalize Nm.ofQ (1+t*t)=r2 at *
 generalize Nm.ofQ r=r3 at *
 generalize Nm.ofQ 1=r4 at *
 simp only [j6]
 simp only [rc,tc,sb,ints] at *
 (repeat first|refine uA ?_|(refine uK ?_ ?_;focus first|omega|(intros;simp_all<;>omega))|simp (disch:=omega) only [go_sem,Nat.reduceBEq,Nat.reduceAdd,ww]|(refine uD hf ?_ ?_ ?_;exact tz hw;exact rfl)|(refine uD hsq ?_ ?_ ?_;exact tz hw;exact rfl)|(refine uD ho ?_ ?_ ?_;exact tz hw;exact rfl)|(refine uD hs ?_ ?_ ?_;exact tz hw;exact rfl)|(refine uD hp ?_ ?_ ?_;exact tz hw;exact rfl)|(refine uD hd ?_ ?_ ?_;exact tz hw;exact rfl))
 (refine S.done ?_;simp only [l9,p9,go_sem,Nat.reduceBEq,Nat.reduceAdd,Nat.reduceLeDiff,Int.reduceToNat,Int.reducePow];(repeat (refine ⟨?_,?_⟩;focus first|trivial|omega|simp));exact j4.out rfl (Imp.refl rfl) rfl)
def vc (x y:Nm.Rt):C:=.agg [.v (.bool x.neg),sb x.num,sb x.den,.v (.bool y.neg),sb y.num,sb y.den]
def vq (x y:Rat):C:=vc (Nm.ofQ x) (Nm.ofQ y)
theorem c4p (a b c d:Nm.Rt) (ha:Rb 17179869184 a) (hb:Rb 17179869184 b) (hc:Rb 17179869184 c) (hd:Rb 17179869184 d) :
  FZ 63 [vc a b,vc c d] (vq (Nm.d9 a+Nm.d9 c) (Nm.d9 b+Nm.d9 d)):=by
 refine kW Tryz.func63 (by cbv) (by rfl) fun w O hw=>?_
 have h1:=a0O a c ha hc
 have h2:=a0O b d hb hd
 unfold vq rq at *
 generalize Nm.ofQ (Nm.d9 a+Nm.d9 c)=r1 at *
 generalize Nm.ofQ (Nm.d9 b+Nm.d9 d)=r2 at *
 simp only [j6]
 simp only [rc,vc,sb] at *
 (repeat first|refine uA ?_|(refine uK ?_ ?_;focus first|omega|(intros;simp_all<;>omega))|simp (disch:=omega) only [go_sem,Nat.reduceBEq,Nat.reduceAdd,ww]|(refine uD h1 ?_ ?_ ?_;exact tz hw;exact rfl)|(refine uD h2 ?_ ?_ ?_;exact tz hw;exact rfl))
 (refine S.done ?_;simp only [l9,p9,go_sem,Nat.reduceBEq,Nat.reduceAdd,Nat.reduceLeDiff,Int.reduceToNat,Int.reducePow];(repeat (refine ⟨?_,?_⟩;focus first|trivial|omega|simp));exact j4.out rfl (Imp.refl rfl) rfl)
theorem a9V (a b c d:Nm.Rt) (ha:Rb 17179869184 a) (hb:Rb 17179869184 b) (hc:Rb 17179869184 c) (hd:Rb 17179869184 d) :
  FZ 27 [vc a b,vc c d] (vq (Nm.d9 a-Nm.d9 c) (Nm.d9 b-Nm.d9 d)):=by
 refine kW Tryz.func27 (by cbv) (by rfl) fun w O hw=>?_
 have h1:=a6b a c ha hc
 have h2:=a6b b d hb hd
 unfold vq rq at *
 generalize Nm.ofQ (Nm.d9 a-Nm.d9 c)=r1 at *
 generalize Nm.ofQ (Nm.d9 b-Nm.d9 d)=r2 at *
 simp only [j6]
 simp only [rc,vc,sb] at *
 (repeat first|refine uA ?_|(refine uK ?_ ?_;focus first|omega|(intros;simp_all<;>omega))|simp (disch:=omega) only [go_sem,Nat.reduceBEq,Nat.reduceAdd,ww]|(refine uD h1 ?_ ?_ ?_;exact tz hw;exact rfl)|(refine uD h2 ?_ ?_ ?_;exact tz hw;exact rfl))
 (refine S.done ?_;simp only [l9,p9,go_sem,Nat.reduceBEq,Nat.reduceAdd,Nat.reduceLeDiff,Int.reduceToNat,Int.reducePow];(repeat (refine ⟨?_,?_⟩;focus first|trivial|omega|simp));exact j4.out rfl (Imp.refl rfl) rfl)
theorem b8c {k:Nat} {t:Rat} (h:Bool) (ht:Rb k (Nm.ofQ t)):Rb (4*k+18) (Nm.ofQ (a2u h t)):=by
 unfold a2u
 have h1:=I5 ht ht
 have h2:=O8 R5 h1
 have h3:=K9 R5 h1
 cases h
 ·exact (a9y (a9L t) h2 h3).mono (by omega)
 ·exact (a0L R5).mono (by omega)
structure Vt where
 x:Nm.Rt
 y:Nm.Rt
def Vt.enc (v:Vt):List C:=[.v (.bool v.x.neg),sb v.x.num,sb v.x.den,.v (.bool v.y.neg),sb v.y.num,sb v.y.den]
def Vt.c (v:Vt):C:=.agg v.enc
def Vt.zero:Vt:=⟨⟨false,[],[]⟩,⟨false,[],[]⟩⟩
def Vb (k:Nat) (v:Vt):Prop:=Rb k v.x/\Rb k v.y
theorem Vb.mono {k m:Nat} {v:Vt} (h:Vb k v) (hm:k<=m):Vb m v:=⟨h.1.mono hm,h.2.mono hm⟩
theorem b9B (a b c d:Rat) (ha:Rb 4294967296 (Nm.ofQ a)) (hb:Rb 4294967296 (Nm.ofQ b)) (hc:Rb 4294967296 (Nm.ofQ c)) (hd:Rb 4294967296 (Nm.ofQ d)) :
  FZ 220 [vq a b,vq c d] (rq (a*d-b*c)):=by
 refine kW Tryz.func220 (by cbv) (by rfl) fun w O hw=>?_
 have h1:=a2f a d (ha.mono (by decide)) (hd.mono (by decide))
 have h2:=a2f b c (hb.mono (by decide)) (hc.mono (by decide))
 have h3:=a5C (a*d) (b*c) ((I5 ha hd).mono (by decide)) ((I5 hb hc).mono (by decide))
 unfold vq rq at *
 generalize Nm.ofQ (a*d-b*c)=r3 at *
 generalize Nm.ofQ (a*d)=r1 at *
 generalize Nm.ofQ (b*c)=r2 at *
 generalize Nm.ofQ a=ra at *
 generalize Nm.ofQ b=rb at *
 generalize Nm.ofQ c=r at *
 generalize Nm.ofQ d=rd at *
 simp only [j6]
 simp only [rc,vc,sb] at *
 (repeat first|refine uA ?_|(refine uK ?_ ?_;focus first|omega|(intros;simp_all<;>omega))|simp (disch:=omega) only [go_sem,Nat.reduceBEq,Nat.reduceAdd,ww]|(refine uD h1 ?_ ?_ ?_;exact tz hw;exact rfl)|(refine uD h2 ?_ ?_ ?_;exact tz hw;exact rfl)|(refine uD h3 ?_ ?_ ?_;exact tz hw;exact rfl))
 (refine S.done ?_;simp only [l9,p9,go_sem,Nat.reduceBEq,Nat.reduceAdd,Nat.reduceLeDiff,Int.reduceToNat,Int.reducePow];(repeat (refine ⟨?_,?_⟩;focus first|trivial|omega|simp));exact j4.out rfl (Imp.refl rfl) rfl)
def b2m (a b c:Vt):Int:=z8 ((Nm.d9 b.x-Nm.d9 a.x)*(Nm.d9 c.y-Nm.d9 a.y)-(Nm.d9 b.y-Nm.d9 a.y)*(Nm.d9 c.x-Nm.d9 a.x))
theorem c5b (a b c:Vt) (ha:Vb 1073741824 a) (hb:Vb 1073741824 b) (hc:Vb 1073741824 c):FZ 193 [a.c,b.c,c.c] (ints (b2m a b c)):=by
 refine kW Tryz.func193 (by cbv) (by rfl) fun w O hw=>?_
 have h1:=a9V b.x b.y a.x a.y (hb.1.mono (by decide)) (hb.2.mono (by decide)) (ha.1.mono (by decide)) (ha.2.mono (by decide))
 have h2:=a9V c.x c.y a.x a.y (hc.1.mono (by decide)) (hc.2.mono (by decide)) (ha.1.mono (by decide)) (ha.2.mono (by decide))
 have g1:=O8 (hb.1.fit (by decide)) (ha.1.fit (by decide))
 have g2:=O8 (hb.2.fit (by decide)) (ha.2.fit (by decide))
 have g3:=O8 (hc.1.fit (by decide)) (ha.1.fit (by decide))
 have g4:=O8 (hc.2.fit (by decide)) (ha.2.fit (by decide))
 unfold b2m
 generalize Nm.d9 b.x-Nm.d9 a.x=p1 at *
 generalize Nm.d9 b.y-Nm.d9 a.y=p2 at *
 generalize Nm.d9 c.x-Nm.d9 a.x=p3 at *
 generalize Nm.d9 c.y-Nm.d9 a.y=p4 at *
 have h3:=b9B p1 p2 p3 p4 (g1.mono (by decide)) (g2.mono (by decide)) (g3.mono (by decide)) (g4.mono (by decide))
 have g5:=O8 (I5 g1 g4) (I5 g2 g3)
 have h4:=O9 (Nm.ofQ (p1*p4-p2*p3)) (g5.mono (by decide))
 rw [Nm.q8] at h4
 generalize p1*p4-p2*p3=p5 at *
 unfold vq rq at *
 generalize Nm.ofQ p1=r1 at *
 generalize Nm.ofQ p2=r2 at *
 generalize Nm.ofQ p3=r3 at *
 generalize Nm.ofQ p4=r4 at *
 generalize Nm.ofQ p5=r5 at *
 simp only [j6]
 simp only [rc,vc,sb,Vt.c,Vt.enc] at *
 (repeat first|refine uA ?_|(refine uK ?_ ?_;focus first|omega|(intros;simp_all<;>omega))|simp (disch:=omega) only [go_sem,Nat.reduceBEq,Nat.reduceAdd,ww]|(refine uD h1 ?_ ?_ ?_;exact tz hw;exact rfl)|(refine uD h2 ?_ ?_ ?_;exact tz hw;exact rfl)|(refine uD h3 ?_ ?_ ?_;exact tz hw;exact rfl)|(refine uD h4 ?_ ?_ ?_;exact tz hw;exact rfl))
 (refine S.done ?_;simp only [l9,p9,go_sem,Nat.reduceBEq,Nat.reduceAdd,Nat.reduceLeDiff,Int.reduceToNat,Int.reducePow];(repeat (refine ⟨?_,?_⟩;focus first|trivial|omega|simp));exact j4.out rfl (Imp.refl rfl) rfl)
def G5 {α:Type} (f:α->Int):List α->Int
 | []=>0
 | x::r=>if f x=0 then G5 f r else f x
def F3 {α σ:Type} (f:σ->α->Int × σ):σ->List α->Int × σ
 | s,[]=>(0,s)
 | s,x::r=>if (f s x).1=0 then F3 f (f s x).2 r else f s x
theorem drop_at {α:Type} {l:List α} {i:Nat} {x:α} (h:l[i]?=some x):l.drop i=x::l.drop (i+1):=by
 obtain ⟨hi,rfl⟩:=c6J.1 h
 exact List.drop_eq_getElem_cons hi
theorem a1e {α:Type} {f:α->Int} {l:List α} {i:Nat} {x:α} (h:l[i]?=some x) (h0:f x ≠ 0):G5 f (l.drop i)=f x:=by
 rw [drop_at h,G5,if_neg h0]
theorem a1h {α:Type} {f:α->Int} {l:List α} {i:Nat} {x:α} (h:l[i]?=some x) (h0:f x=0):G5 f (l.drop i)=G5 f (l.drop (i+1)):=by
 rw [drop_at h,G5,if_pos h0]
theorem a1O {α:Type} {f:α->Int} {l:List α} {i:Nat} (h:l.length<=i):G5 f (l.drop i)=0:=by
 rw [List.drop_eq_nil_of_le h,G5]
theorem Z0 {α σ:Type} {f:σ->α->Int × σ} {s:σ} {l:List α} {i:Nat} {x:α} (h:l[i]?=some x) (h0:(f s x).1 ≠ 0):F3 f s (l.drop i)=f s x:=by
 rw [drop_at h,F3,if_neg h0]
theorem Z5 {α σ:Type} {f:σ->α->Int × σ} {s:σ} {l:List α} {i:Nat} {x:α} (h:l[i]?=some x) (h0:(f s x).1=0):F3 f s (l.drop i)=F3 f (f s x).2 (l.drop (i+1)):=by
 rw [drop_at h,F3,if_pos h0]
theorem a0v {α σ:Type} {f:σ->α->Int × σ} {s:σ} {l:List α} {i:Nat} (h:l.length<=i):F3 f s (l.drop i)=(0,s):=by
 rw [List.drop_eq_nil_of_le h,F3]
structure Fr where
 x:Nm.Rt
 y:Nm.Rt
 half:Bool
 t:Nm.Rt
structure Lk where
 length:Nm.Rt
 low:Nm.Rt
 high:Nm.Rt
 speed:Nm.Rt
 brake:Nm.Rt
 shape:List Vt
structure Am where
 name:List UInt8
 base:Fr
 links:List Lk
structure Pt where
 name:List UInt8
 shape:List Vt
 grasp:Fr
structure Sl where
 name:List UInt8
 frame:Fr
 within:Nm.Rt
structure Gt where
 name:List UInt8
 low:Vt
 high:Vt
structure Wk where
 arms:List Am
 walls:List (List Vt)
 parts:List Pt
 slots:List Sl
 gates:List Gt
 walk:Nm.Rt
def rcs (a:Nm.Rt):List C:=[.v (.bool a.neg),sb a.num,sb a.den]
def Fr.enc (f:Fr):List C:=[.v (.bool f.x.neg),sb f.x.num,sb f.x.den,.v (.bool f.y.neg),sb f.y.num,sb f.y.den,.v (.bool f.half),.v (.bool f.t.neg),sb f.t.num,sb f.t.den]
def Fr.c (f:Fr):C:=.agg f.enc
def vts (l:List Vt):C:=.sl 6 (l.map Vt.enc)
def Lk.enc (l:Lk):List C:=[.v (.bool l.length.neg),sb l.length.num,sb l.length.den,.v (.bool l.low.neg),sb l.low.num,sb l.low.den,.v (.bool l.high.neg),sb l.high.num,sb l.high.den,.v (.bool l.speed.neg),sb l.speed.num,sb l.speed.den,.v (.bool l.brake.neg),sb l.brake.num,sb l.brake.den,vts l.shape]
def Lk.c (l:Lk):C:=.agg l.enc
def lks (l:List Lk):C:=.sl 16 (l.map Lk.enc)
def Am.enc (a:Am):List C:=[sb a.name,.v (.bool a.base.x.neg),sb a.base.x.num,sb a.base.x.den,.v (.bool a.base.y.neg),sb a.base.y.num,sb a.base.y.den,.v (.bool a.base.half),.v (.bool a.base.t.neg),sb a.base.t.num,sb a.base.t.den,lks a.links]
def Am.c (a:Am):C:=.agg a.enc
def ams (l:List Am):C:=.sl 12 (l.map Am.enc)
def Pt.enc (p:Pt):List C:=[sb p.name,vts p.shape,.v (.bool p.grasp.x.neg),sb p.grasp.x.num,sb p.grasp.x.den,.v (.bool p.grasp.y.neg),sb p.grasp.y.num,sb p.grasp.y.den,.v (.bool p.grasp.half),.v (.bool p.grasp.t.neg),sb p.grasp.t.num,sb p.grasp.t.den]
def Pt.c (p:Pt):C:=.agg p.enc
def pts (l:List Pt):C:=.sl 12 (l.map Pt.enc)
def Sl.enc (s:Sl):List C:=[sb s.name,.v (.bool s.frame.x.neg),sb s.frame.x.num,sb s.frame.x.den,.v (.bool s.frame.y.neg),sb s.frame.y.num,sb s.frame.y.den,.v (.bool s.frame.half),.v (.bool s.frame.t.neg),sb s.frame.t.num,sb s.frame.t.den,.v (.bool s.within.neg),sb s.within.num,sb s.within.den]
def Sl.c (s:Sl):C:=.agg s.enc
def sls (l:List Sl):C:=.sl 14 (l.map Sl.enc)
def Gt.enc (g:Gt):List C:=[sb g.name,.v (.bool g.low.x.neg),sb g.low.x.num,sb g.low.x.den,.v (.bool g.low.y.neg),sb g.low.y.num,sb g.low.y.den,.v (.bool g.high.x.neg),sb g.high.x.num,sb g.high.x.den,.v (.bool g.high.y.neg),sb g.high.y.num,sb g.high.y.den]
def Gt.c (g:Gt):C:=.agg g.enc
def gts (l:List Gt):C:=.sl 13 (l.map Gt.enc)
def wls (l:List (List Vt)):C:=.sl 1 (l.map fun s=>[vts s])
def Wk.enc (w:Wk):List C:=[ams w.arms,wls w.walls,pts w.parts,sls w.slots,gts w.gates,.v (.bool w.walk.neg),sb w.walk.num,sb w.walk.den]
def Wk.c (w:Wk):C:=.agg w.enc
def Fb (k:Nat) (f:Fr):Prop:=Rb k f.x/\Rb k f.y/\Rb k f.t
def Vbs (k:Nat) (l:List Vt):Prop:=l.length<=k/\∀ v ∈ l,Vb k v
def Lb (k:Nat) (l:Lk):Prop:=Rb k l.length/\Rb k l.low/\Rb k l.high/\Rb k l.speed/\Rb k l.brake/\Vbs k l.shape
def Ab (k:Nat) (a:Am):Prop:=a.name.length<=k/\Fb k a.base/\a.links.length<=k/\∀ l ∈ a.links,Lb k l
def Pb (k:Nat) (p:Pt):Prop:=p.name.length<=k/\Vbs k p.shape/\Fb k p.grasp
def Sb (k:Nat) (s:Sl):Prop:=s.name.length<=k/\Fb k s.frame/\Rb k s.within
def Gb (k:Nat) (g:Gt):Prop:=g.name.length<=k/\Vb k g.low/\Vb k g.high
structure Wb (k:Nat) (w:Wk):Prop where
 arms:w.arms.length<=k/\∀ x ∈ w.arms,Ab k x
 walls:w.walls.length<=k/\∀ x ∈ w.walls,Vbs k x
 parts:w.parts.length<=k/\∀ x ∈ w.parts,Pb k x
 slots:w.slots.length<=k/\∀ x ∈ w.slots,Sb k x
 gates:w.gates.length<=k/\∀ x ∈ w.gates,Gb k x
 walk:Rb k w.walk
def a0H (s:List UInt8):Bool:=(s.all fun b=>decide (97<=b.toNat) && decide (b.toNat<=122)) && decide (1<=s.length) && decide (s.length<=12)
def a5d (l:List Vt) (i k:Nat):Int:=b2m (l.getD i Vt.zero) (l.getD ((i+1) % l.length) Vt.zero) (l.getD ((i+k) % l.length) Vt.zero)
def U9 (l:List Vt) (most:Nat):Int:=
 if most < l.length then 2 else if l.length < 3 then 3 else
 if (List.range l.length).all fun i=>(List.range l.length).all fun k=>decide (k < 2) || decide (0 < a5d l i k) then 0 else 3
def a3B (h:Bool) (t:Nm.Rt):Bool:=h && !decide (z8 (Nm.d9 t)=0)
def V3 (l:Lk):Int:=
 if (l6 l.length && l6 l.low && l6 l.high && l6 l.speed && l6 l.brake)=false \/ z8 (Nm.d9 l.length)<=0 \/ 0<=Nm.q9 (Nm.d9 l.low) (Nm.d9 l.high) then 1 else
 if z8 (Nm.d9 l.speed)<=0 \/ z8 (Nm.d9 l.brake)<=0 then 1 else
 if U9 l.shape 8 ≠ 0 then U9 l.shape 8 else
 if (l.shape.all fun v=>l6 v.x && l6 v.y) then 0 else 1
def F4 (a:Am):Int:=
 if a0H a.name=false then 3 else
 if 3 < a.links.length then 2 else
 if a.links.length=0 \/ (l6 a.base.x && l6 a.base.y && l6 a.base.t)=false \/ a3B a.base.half a.base.t=true then 1 else
 G5 V3 a.links
def a4e (a:Am) (q:List Nm.Rt):Int:=
 if F4 a ≠ 0 then F4 a else if q.length ≠ a.links.length then 1 else
 G5 (fun x:Lk × Nm.Rt=>if Nm.q9 (Nm.d9 x.2) (Nm.d9 x.1.low) < 0 \/ 0 < Nm.q9 (Nm.d9 x.2) (Nm.d9 x.1.high) then 17 else 0) (a.links.zip q)
abbrev Nms:=List (List UInt8)
def L6 (n:Nms) (s:List UInt8):Int × Nms:=if a0H s=false then (3,n) else if n.contains s then (5,n) else (0,n++[s])
def okV (v:Vt):Bool:=decide v.x.F5 && decide v.y.F5 && l6 v.x && l6 v.y
def okF (f:Fr):Bool:=okV ⟨f.x,f.y⟩ && decide f.t.F5 && l6 f.t && !a3B f.half f.t
def N9 (l:List Vt):Int:=if U9 l 8 ≠ 0 then U9 l 8 else if l.all okV then 0 else 1
def a0y (n:Nms) (a:Am):Int × Nms:=if F4 a ≠ 0 then (F4 a,n) else L6 n a.name
def a0o (n:Nms) (p:Pt):Int × Nms:=
 if (L6 n p.name).1 ≠ 0 then L6 n p.name else
 if N9 p.shape ≠ 0 then (N9 p.shape,(L6 n p.name).2) else
 (if okF p.grasp then 0 else 1,(L6 n p.name).2)
def a0w (n:Nms) (s:Sl):Int × Nms:=
 if (L6 n s.name).1 ≠ 0 then L6 n s.name else
 (if okF s.frame && decide s.within.F5 && l6 s.within && decide (0 < z8 (Nm.d9 s.within)) then 0 else 1,(L6 n s.name).2)
def a0n (n:Nms) (g:Gt):Int × Nms:=
 if (L6 n g.name).1 ≠ 0 then L6 n g.name else
 (if okV g.low && okV g.high && decide (Nm.q9 (Nm.d9 g.low.x) (Nm.d9 g.high.x)<=0) && decide (Nm.q9 (Nm.d9 g.low.y) (Nm.d9 g.high.y)<=0) then 0 else 1,(L6 n g.name).2)
def b2j (a:Nm.Rt):Int:=if decide a.F5 && l6 a && decide (0<=z8 (Nm.d9 a)) then 0 else 1
def a6l (w:Wk):List Int:=
 let a:=F3 a0y [] w.arms
 let p:=F3 a0o a.2 w.parts
 let s:=F3 a0w p.2 w.slots
 let g:=F3 a0n s.2 w.gates
 [a.1,G5 N9 w.walls,p.1,s.1,g.1]
def a0a (w:Wk):Int:=
 if 4 < w.arms.length \/ 10 < w.walls.length \/ 6 < w.parts.length \/ 8 < w.slots.length \/ 4 < w.gates.length then 2 else
 if w.arms.length=0 then 4 else
 if G5 id (a6l w) ≠ 0 then G5 id (a6l w) else b2j w.walk
def nmE (n:Nms):List (Value × Value):=n.map fun s=>(.string (bs s),.bool true)
theorem c3H (n:Nms) (s:List UInt8):a1p (.string (bs s)) (nmE n)=if n.contains s then some (.bool true) else none:=by
 induction n with
 | nil=>rfl
 | cons a n ih=>
  simp only [nmE,c6V,a1p,a1q]
  simp only [nmE] at ih
  rw [ih]
  by_cases h:s=a
  ·subst h;simp
  ·have h1:¬ bs s=bs a:=fun e=>h (b3f e)
   have h2:(s == a)=false:=by simpa using h
   rw [List.contains_cons]
   simp only [h2,Bool.false_or,decide_eq_false h1,c7o,if_false]
theorem c4m (n:Nms) (s:List UInt8) (h:n.contains s=false):a1n (.string (bs s)) (.bool true) (nmE n)=nmE (n++[s]):=by
 induction n with
 | nil=>rfl
 | cons a n ih=>
  rw [List.contains_cons,c7n] at h
  have h1:¬ bs s=bs a:=fun e=>by have:=b3f e;subst this;simp at h
  have h3:=ih h.2
  simp only [nmE,c6V,List.cons_append,a1n,a1q,decide_eq_false h1,c7o,if_false] at h3 ⊢
  rw [h3]
def c4k (f:Fr) (c:Vt):Rat:=Nm.d9 f.x+(Nm.d9 c.x*a2u f.half (J7 f.half f.t)-Nm.d9 c.y*Z4 (J7 f.half f.t))
def c4o (f:Fr) (c:Vt):Rat:=Nm.d9 f.y+(Nm.d9 c.x*Z4 (J7 f.half f.t)+Nm.d9 c.y*a2u f.half (J7 f.half f.t))
def c1B (h1:Bool) (t1:Rat) (h2:Bool) (t2:Rat):Bool × Rat:=
 if h1 && h2 then (false,0) else if h1 then (if t2=0 then (true,0) else (false,-1 / t2)) else if h2 then (if t1=0 then (true,0) else (false,-1 / t1)) else if 1-t1*t2=0 then (true,0) else (false,(t1+t2) / (1-t1*t2))
structure Ast where
 q:List Nm.Rt
 v:List Nm.Rt
 power:Bool
 holds:Int
structure Stt where
 tick:Int
 arms:List Ast
 parts:List Fr
 people:List Vt
 gates:List Bool
def rts (l:List Nm.Rt):C:=.sl 3 (l.map rcs)
def Ast.enc (x:Ast):List C:=[rts x.q,rts x.v,.v (.bool x.power),ints x.holds]
def Ast.c (x:Ast):C:=.agg x.enc
def a0K (l:List Ast):C:=.sl 4 (l.map Ast.enc)
def frs (l:List Fr):C:=.sl 10 (l.map Fr.enc)
def bls (l:List Bool):C:=.sl 1 (l.map fun b=>[.v (.bool b)])
def Stt.enc (s:Stt):List C:=[ints s.tick,a0K s.arms,frs s.parts,vts s.people,bls s.gates]
def Stt.c (s:Stt):C:=.agg s.enc
def Rbs (k:Nat) (l:List Nm.Rt):Prop:=l.length<=k/\∀ a ∈ l,Rb k a
def Asb (k:Nat) (x:Ast):Prop:=Rbs k x.q/\Rbs k x.v
structure Stb (k:Nat) (s:Stt):Prop where
 arms:s.arms.length<=k/\∀ x ∈ s.arms,Asb k x
 parts:s.parts.length<=k/\∀ x ∈ s.parts,Fb k x
 people:Vbs k s.people
 gates:s.gates.length<=k
def r9 (q:Rat):Rat:=if q.num < 0 then -q else q
def a2a (x:Lk × Nm.Rt):Int:=if 0 < Nm.q9 (r9 (Nm.d9 x.2)) (Nm.d9 x.1.speed) then 1 else 0
def H8 (a:Nm.Rt):Bool:=decide a.F5
def a5I (a:Am) (x:Ast) (parts:Nat):Int:=
 if (x.q.all H8 && x.v.all H8)=false then 3 else
 if a4e a x.q ≠ 0 then a4e a x.q else
 if x.v.length ≠ a.links.length \/ x.holds < -1 \/ (parts:Int)<=x.holds then 1 else
 G5 a2a (a.links.zip x.v)
def a7T (h:List Int) (n:Int):List Int:=if h.contains n then h else h++[n]
def hdE (h:List Int):List (Value × Value):=h.map fun n=>(.int .i64 n,.bool true)
def a2R (parts:Nat) (h:List Int) (x:Am × Ast):Int × List Int:=
 if a5I x.1 x.2 parts ≠ 0 then (a5I x.1 x.2 parts,h) else
 if (decide (0<=x.2.holds) && h.contains x.2.holds)=true then (10,h) else (0,a7T h x.2.holds)
def a2d (f:Fr):Bool:=(H8 f.x && H8 f.y && H8 f.t) && !a3B f.half f.t
def a6o (v:Vt):Bool:=H8 v.x && H8 v.y
def a2U (w:Wk) (s:Stt):Int:=
 if a0a w ≠ 0 then a0a w else
 if 4 < s.people.length then 2 else
 if s.tick < 0 \/ 2000 < s.tick \/ s.arms.length ≠ w.arms.length \/ s.parts.length ≠ w.parts.length \/ s.gates.length ≠ w.gates.length then 1 else
 if (F3 (a2R w.parts.length) [] (w.arms.zip s.arms)).1 ≠ 0 then (F3 (a2R w.parts.length) [] (w.arms.zip s.arms)).1 else
 if s.parts.all a2d && s.people.all a6o then 0 else 3
theorem c3x (h:List Int) (n:Int):a1p (.int .i64 n) (hdE h)=if h.contains n then some (.bool true) else none:=by
 induction h with
 | nil=>rfl
 | cons a h ih=>
  simp only [hdE,c6V,a1p,a1q]
  simp only [hdE] at ih
  rw [ih,List.contains_cons]
  by_cases e:n=a
  ·subst e;simp
  ·have e2:(n == a)=false:=by simpa using e
   simp only [e2,Bool.false_or,c7o,if_false]
theorem c3J (h:List Int) (n:Int):a1n (.int .i64 n) (.bool true) (hdE h)=hdE (a7T h n):=by
 induction h with
 | nil=>rfl
 | cons a h ih=>
  unfold a7T at ih ⊢
  rw [List.contains_cons]
  by_cases e:n=a
  ·subst e
   simp [hdE,a1n,a1q]
  ·have e2:(n == a)=false:=by simpa using e
   simp only [hdE,c6V,a1n,a1q,e2,Bool.false_or,c7o,if_false]
   simp only [hdE] at ih
   rw [ih]
   split<;>simp [hdE]
def a0P (l:Lk):Nm.Rt:=Nm.ofQ (G8 (Nm.d9 l.low) (G9 (Nm.d9 l.high) 0))
def X4 (a:Am):Ast:=⟨a.links.map a0P,a.links.map fun _=>Nm.ofQ 0,false,-1⟩
def a5m:Fr:=⟨Nm.ofQ 0,Nm.ofQ 0,false,Nm.ofQ 0⟩
def a7f (w:Wk) (i:Nat):Fr:=if h:i < w.slots.length then (w.slots[i]).frame else a5m
def O7 (w:Wk):Stt:=⟨0,w.arms.map X4,(List.range w.parts.length).map (a7f w),[],List.replicate w.gates.length false⟩
def nx (l:List Int) (n:Int):Int:=l.headD 0 % n
abbrev Q (n d:Int):Nm.Rt:=Nm.ofQ (mkRat n d.toNat)
def atV (x y:Int):Vt:=⟨Q x 4,Q y 4⟩
def b2s (x y u v:Int):List Vt:=[atV x y,atV u y,atV u v,atV x v]
def c1z (w h k s:Int):List Vt:=
 if k=0 then [atV (-w) (-h),atV w (-h),atV w h,atV (-w) h] else
 if k=1 then [atV (-w) (-h),atV w (-h),atV (s-w) h] else
 if k=2 then [atV (-w-1) (-h-1),atV w (-h-1),atV (w+1) (-h),atV (w+1) h,atV (-w-1) h] else
 [atV (-w) 0,atV 0 (-h),atV w 0,atV 0 h]
def c5t (l:List Int):List Vt × List Int:=
 let w:=1+nx l 6
 let h:=1+nx (l.drop 1) 6
 let k:=nx (l.drop 2) 4
 if k=1 then (c1z w h k (nx (l.drop 3) (2*w+1)),l.drop 4) else (c1z w h k 0,l.drop 3)
def c2e (a lo hi sp br tri:Int):Lk:=
 ⟨Q (4+2*a) 4,Q (-1-lo) 3,Q (1+hi) 3,Q 1 (4+sp),Q 1 (10+br),if tri=2 then [atV (-1) (-1),atV (4+2*a+1) 0,atV (-1) 1] else b2s (-1) (-1) (4+2*a+1) 1⟩
def c1W (l:List Int):Lk:=c2e (nx l 4) (nx (l.drop 1) 6) (nx (l.drop 2) 6) (nx (l.drop 3) 8) (nx (l.drop 4) 20) (nx (l.drop 5) 3)
def a5T:Nat->List Int->List Lk
 | 0,_=>[]
 | n+1,l=>c1W l::a5T n (l.drop 6)
def a6M (k:Int):Int:=if k=0 then 0 else if k=2 then -1 else 1
def c0L (n:Nat):List UInt8:=[[111,110,101],[116,119,111],[116,104,114,101,101],[102,111,117,114]].getD n []
def a6H (l:List Int):Nat:=(1+nx (l.drop 2) 3).toNat
def a3g (l:List Int) (n:Nat):Am:=⟨c0L n,⟨Q (40*n) 4,Q 0 4,false,Q (a6M (nx l 4)) (1+nx (l.drop 1) 3)⟩,a5T (a6H l) (l.drop 3)⟩
def a8W (l:List Int):List Int:=l.drop (3+6*a6H l)
def c1M:Nat->List Int->List Int
 | 0,l=>l
 | k+1,l=>c1M k (a8W l)
def b8y:Nat->List Int->List Int
 | 0,l=>l
 | k+1,l=>b8y k (c5t l).2
def nA (l:List Int):Nat:=(1+nx l 2).toNat
def l1 (l:List Int):List Int:=c1M (nA l) (l.drop 1)
def nW (l:List Int):Nat:=(nx (l1 l) 3).toNat
def l2 (l:List Int):List Int:=(l1 l).drop (1+5*nW l)
def nP (l:List Int):Nat:=(nx (l2 l) 3).toNat
def l3 (l:List Int):List Int:=b8y (nP l) ((l2 l).drop 1)
def nS (l:List Int):Nat:=nP l+(nx (l3 l) 2).toNat
def l4 (l:List Int):List Int:=(l3 l).drop (1+4*nS l)
def nG (l:List Int):Nat:=(nx (l4 l) 2).toNat
def l5 (l:List Int):List Int:=(l4 l).drop (1+4*nG l)
theorem a0p (l:List Int) {n:Int} (h:0 < n):0<=nx l n:=Int.emod_nonneg _ (by omega)
theorem a4g (l:List Int) {n:Int} (h:0 < n):nx l n < n:=Int.emod_lt_of_pos _ h
set_option maxRecDepth 100000
theorem a6A {α:Type} {f:α->Int}:∀ {l:List α},(∀ x ∈ l,f x=0)->G5 f l=0
 | [],_=>rfl
 | x::l,h=>by rw [G5,if_pos (h x (by simp))];exact a6A fun y hy=>h y (by simp [hy])
set_option maxRecDepth 10000
theorem b7W {l:List Vt} {most i k:Nat} (h1:¬ most < l.length) (h2:¬ l.length < 3) (hi:i < l.length) (hk2:2<=k) (hk:k < l.length) (h:¬ 0 < a5d l i k):U9 l most=3:=by
 unfold U9
 rw [if_neg h1,if_neg h2,if_neg]
 intro ha
 rw [List.all_eq_true] at ha
 have h3:=ha i (List.mem_range.2 hi)
 rw [List.all_eq_true] at h3
 have h4:=h3 k (List.mem_range.2 hk)
 rw [c7v,c6S,c6S] at h4
 omega
theorem b6W {l:List Vt} {most:Nat} (h1:¬ most < l.length) (h2:¬ l.length < 3) (h:∀ i,i < l.length->∀ k,2<=k->k < l.length->0 < a5d l i k):U9 l most=0:=by
 unfold U9
 rw [if_neg h1,if_neg h2,if_pos]
 rw [List.all_eq_true]
 intro i hi
 rw [List.all_eq_true]
 intro k hk
 rw [c7v,c6S,c6S]
 rcases c7a k 2 with h3|h3
 ·exact .inl h3
 ·exact .inr (h i (List.mem_range.1 hi) k h3 (List.mem_range.1 hk))
theorem b8T {l:List Vt} {i k:Nat} {x y z:Vt} (hx:l[i]?=some x) (hy:l[(i+1) % l.length]?=some y) (hz:l[(i+k) % l.length]?=some z):a5d l i k=b2m x y z:=by
 unfold a5d
 rw [c6T,c6T,c6T,hx,hy,hz]
 rfl
theorem b9C (i k n:Nat):Int.tmod ((i:Int)+(k:Int)) (n:Int)=(((i+k) % n:Nat):Int):=rfl
theorem tmod_one (i n:Nat):Int.tmod ((i:Int)+1) (n:Int)=(((i+1) % n:Nat):Int):=rfl
theorem c4O (v:Vt):v.enc.length=6:=rfl
theorem c1l (l:List Vt) (most:Nat) (hl:Vbs 1073741824 l) (hm:most<=1000000):FZ 142 [vts l,ints most] (ints (U9 l most)):=by
 refine kW Tryz.func142 (by cbv) (by rfl) fun w O hw=>?_
 obtain ⟨hn,hb⟩:=hl
 simp only [j6,ints,vts]
 (repeat first|refine uA ?_|(refine uK ?_ ?_;focus first|omega|trivial|(intros;simp_all<;>omega))|simp (disch:=omega) only [go_sem,Nat.reduceBEq,Nat.reduceAdd,Nat.reduceLeDiff,Int.reduceToNat,Int.reducePow,ww,c6F])
 (refine uJ rfl (fun hc=>?_) fun hc=>?_)
 ·have he:U9 l most=2:=by unfold U9;rw [if_pos (by omega)]
  rw [he]
  (repeat first|refine uA ?_|(refine uK ?_ ?_;focus first|omega|trivial|(intros;simp_all<;>omega))|simp (disch:=omega) only [go_sem,Nat.reduceBEq,Nat.reduceAdd,Nat.reduceLeDiff,Int.reduceToNat,Int.reducePow,ww])
  exact S.done (j4.out rfl (Imp.refl rfl) rfl)
 have h1:¬ most < l.length:=by omega
 (repeat first|refine uA ?_|(refine uK ?_ ?_;focus first|omega|trivial|(intros;simp_all<;>omega))|simp (disch:=omega) only [go_sem,Nat.reduceBEq,Nat.reduceAdd,Nat.reduceLeDiff,Int.reduceToNat,Int.reducePow,ww,c6F])
 (refine uJ rfl (fun hc=>?_) fun hc=>?_)
 ·have he:U9 l most=3:=by unfold U9;rw [if_neg h1,if_pos (by omega)]
  rw [he]
  (repeat first|refine uA ?_|(refine uK ?_ ?_;focus first|omega|trivial|(intros;simp_all<;>omega))|simp (disch:=omega) only [go_sem,Nat.reduceBEq,Nat.reduceAdd,Nat.reduceLeDiff,Int.reduceToNat,Int.reducePow,ww])
  exact S.done (j4.out rfl (Imp.refl rfl) rfl)
 have h2:¬ l.length < 3:=by omega
 (repeat first|refine uA ?_|(refine uK ?_ ?_;focus first|omega|trivial|(intros;simp_all<;>omega))|simp (disch:=omega) only [go_sem,Nat.reduceBEq,Nat.reduceAdd,Nat.reduceLeDiff,Int.reduceToNat,Int.reducePow,ww,c6F])
 refine S.loop (X:=Nat) (fun i=>⟨[(0,vts l),(5,ints l.length),(18,vts l),(19,ints l.length),(20,ints i)],[]⟩)
  (fun i=>i<=l.length/\∀ j,j < i->∀ k,2<=k->k < l.length->0 < a5d l j k) (fun i=>l.length-i) 0 ⟨c6K _,fun _ h=>absurd h (Nat.not_lt_zero _)⟩ (by (repeat first|refine uA ?_|(refine ⟨?_,?_⟩;focus first|rfl|trivial|(simp [slot];done))|rfl|trivial|simp)) ?_
 rintro i ⟨hi,hg⟩
 simp only [ints,vts] at hi ⊢
 (repeat first|refine uA ?_|(refine uK ?_ ?_;focus first|omega|trivial|(intros;simp_all<;>omega))|simp (disch:=omega) only [go_sem,Nat.reduceBEq,Nat.reduceAdd,Nat.reduceLeDiff,Int.reduceToNat,Int.reducePow,ww])
 (refine uJ rfl (fun hc=>?_) fun hc=>?_)
 ·have hi':i < l.length:=by omega
  have hgi:=c6E hi'
  generalize l[i]=x at hgi
  (repeat first|refine uA ?_|(refine uK ?_ ?_;focus first|omega|trivial|(intros;simp_all<;>omega))|simp (disch:=omega) only [go_sem,Nat.reduceBEq,Nat.reduceAdd,Nat.reduceLeDiff,Int.reduceToNat,Int.reducePow,ww,hgi,c6G,c6F,c4O])
  refine S.loop (X:=Nat) (fun k=>⟨[(0,vts l),(5,ints l.length),(6,ints i),(7,.bp 0 0),(8,ints k),(18,vts l),(19,ints l.length),(20,ints i)],[.box 40 x.enc]⟩)
   (fun k=>2<=k/\k<=l.length/\∀ k',2<=k'->k' < k->0 < a5d l i k') (fun k=>l.length-k) 2 ⟨c6N _,by omega,fun _ h h'=>by omega⟩ (by (repeat first|refine uA ?_|(refine ⟨?_,?_⟩;focus first|rfl|trivial|(simp [slot];done))|rfl|trivial|simp)) ?_
  rintro k ⟨hk2,hk,hgk⟩
  simp only [ints,vts] at hk ⊢
  (repeat first|refine uA ?_|(refine uK ?_ ?_;focus first|omega|trivial|(intros;simp_all<;>omega))|simp (disch:=omega) only [go_sem,Nat.reduceBEq,Nat.reduceAdd,Nat.reduceLeDiff,Int.reduceToNat,Int.reducePow,ww])
  (refine uJ rfl (fun hc=>?_) fun hc=>?_)
  ·have hk':k < l.length:=by omega
   have hy:=c6E (show (i+1) % l.length < l.length from Nat.mod_lt _ (by omega))
   have hz:=c6E (show (i+k) % l.length < l.length from Nat.mod_lt _ (by omega))
   have hylt:(i+1) % l.length < l.length:=Nat.mod_lt _ (by omega)
   have hzlt:(i+k) % l.length < l.length:=Nat.mod_lt _ (by omega)
   generalize l[(i+1) % l.length]'_=y at hy
   generalize l[(i+k) % l.length]'_=z at hz
   have hla:=b8T hgi hy hz
   have hcall:=c5b x y z (hb x (c6H hgi)) (hb y (c6H hy)) (hb z (c6H hz))
   rw [<- hla] at hcall
   simp only [Vt.c,Vt.enc,sb,ints] at hcall
   (repeat first|refine uA ?_|(refine uK ?_ ?_;focus first|omega|trivial|(intros;simp_all<;>omega))|simp (disch:=omega) only [go_sem,Nat.reduceBEq,Nat.reduceAdd,Nat.reduceLeDiff,Int.reduceToNat,Int.reducePow,ww,hy,hz,c6G,b9C,tmod_one,c6F,Vt.enc,sb,c6I]|(refine uD hcall ?_ ?_ ?_;exact tz hw;exact rfl))
   (refine uJ rfl (fun hc=>?_) fun hc=>?_)
   ·rw [b7W h1 h2 hi' hk2 hk' (by omega)]
    (repeat first|refine uA ?_|(refine uK ?_ ?_;focus first|omega|trivial|(intros;simp_all<;>omega))|simp (disch:=omega) only [go_sem,Nat.reduceBEq,Nat.reduceAdd,Nat.reduceLeDiff,Int.reduceToNat,Int.reducePow,ww])
    exact S.done (j4.out rfl (Imp.refl rfl) rfl)
   ·(repeat first|refine uA ?_|(refine uK ?_ ?_;focus first|omega|trivial|(intros;simp_all<;>omega))|simp (disch:=omega) only [go_sem,Nat.reduceBEq,Nat.reduceAdd,Nat.reduceLeDiff,Int.reduceToNat,Int.reducePow,ww])
    refine S.next (k+1) ⟨by omega,by omega,fun k' hk1 hk3=>?_⟩ (by omega) (by (repeat first|refine uA ?_|(refine ⟨?_,?_⟩;focus first|rfl|trivial|(simp [slot];done))|rfl|trivial|simp))
    rcases c7a k' k with h|h
    ·exact hgk k' hk1 h
    ·have:k'=k:=by omega
     subst this
     omega
  ·have hk':k=l.length:=by omega
   subst hk'
   (repeat first|refine uA ?_|(refine uK ?_ ?_;focus first|omega|trivial|(intros;simp_all<;>omega))|simp (disch:=omega) only [go_sem,Nat.reduceBEq,Nat.reduceAdd,Nat.reduceLeDiff,Int.reduceToNat,Int.reducePow,ww])
   refine S.next (i+1) ⟨by omega,fun j hj=>?_⟩ (by omega) (by (repeat first|refine uA ?_|(refine ⟨?_,?_⟩;focus first|rfl|trivial|(simp [slot];done))|rfl|trivial|simp))
   rcases c7a j i with h|h
   ·exact hg j h
   ·have:j=i:=by omega
    subst this
    exact hgk
 ·have hi':i=l.length:=by omega
  subst hi'
  rw [b6W h1 h2 hg]
  (repeat first|refine uA ?_|(refine uK ?_ ?_;focus first|omega|trivial|(intros;simp_all<;>omega))|simp (disch:=omega) only [go_sem,Nat.reduceBEq,Nat.reduceAdd,Nat.reduceLeDiff,Int.reduceToNat,Int.reducePow,ww])
  exact S.done (j4.out rfl (Imp.refl rfl) rfl)
theorem a5N (l:List Vt) (hl:Vbs 1073741824 l):FZ 75 [vts l] (ints (U9 l 8)):=by
 refine kW Tryz.func75 (by cbv) (by rfl) fun w O hw=>?_
 have h:=c1l l 8 hl (by decide)
 simp only [j6]
 simp only [vts,ints] at *
 generalize U9 l 8=e at *
 rw [show ((8:Nat):Int)=8 from rfl] at h
 (repeat first|refine uA ?_|(refine uK ?_ ?_;focus first|omega|trivial|(intros;simp_all<;>omega))|simp (disch:=omega) only [go_sem,Nat.reduceBEq,Nat.reduceAdd,Nat.reduceLeDiff,Int.reduceToNat,Int.reducePow,ww]|(refine uD h ?_ ?_ ?_;exact tz hw;exact rfl))
 exact S.done (j4.out rfl (Imp.refl rfl) rfl)
def a3s:M4:=⟨89,[.tmp 2],.seq (.reg [OA 1 (.box 30 (TT 0)),OA 2 (.mv (II 0))]) (.seq (.seq (.reg [FF 7 0 1,VV 8 7,OA 9 (.len false (TT 8)),OA 10 (.bin .gtr (TT 9) (II 4)),MM 11 10,FG 12 1 1 11 false,VG 13 12 11 false,OC 14 (.len
 false (TT 13)) 11 false,OC 15 (.bin .gtr (TT 14) (II 10)) 11 false,OA 16 (.pick (TT 11) (.const (.bool true)) (TT 15)),MM 17 16,FG 18 2 1 17 false,VG 19 18 17 false,OC 20 (.len false (TT 19)) 17 false,OC 21 (.bin .gtr (TT
 20) (II 6)) 17 false,OA 22 (.pick (TT 17) (.const (.bool true)) (TT 21)),MM 23 22,FG 24 3 1 23 false,VG 25 24 23 false,OC 26 (.len false (TT 25)) 23 false,OC 27 (.bin .gtr (TT 26) (II 8)) 23 false,OA 28 (.pick (TT 23)
 (.const (.bool true)) (TT 27)),MM 29 28,FG 30 4 1 29 false,VG 31 30 29 false,OC 32 (.len false (TT 31)) 29 false,OC 33 (.bin .gtr (TT 32) (II 4)) 29 false,OA 34 (.pick (TT 29) (.const (.bool true)) (TT 33))]) (.cond (TT
 34) (.seq (.reg [OA 2 (.mv (II 2))]) .ret) .skip)) (.seq (.seq (.reg [FF 35 0 1,VV 36 35,OA 37 (.len false (TT 36)),OA 38 (.bin .eql (TT 37) (II 0))]) (.cond (TT 38) (.seq (.reg [OA 2 (.mv (II 4))]) .ret) .skip)) (.seq (.reg
 [OA 39 (.a3C true),OA 3 (.alloc 206 [.map none]),OB (.store 1 (TT 3) (TT 39))]) (.seq (.reg [OA 40 (.clo 145 [TT 3]),MM 4 40]) (.seq (.seq (.D6 [.q,.q,.q,.e none false,.l,.l,.q,.l,.l,.l,.l,.e none false,.l,
 .l,.l,.l,.e none false,.l,.l,.l,.l,.e none false,.q,.q,.l] [FF 41 0 1,VV 42 41,MM 43 4,OA 44 (.call 147 [TT 42,TT 43]),FF 45 1 1,VV 46 45,OA 47 (.call 148 [TT 46,.func 149]),FF 48 2 1,VV 49 48,VV 50 3,OA
 51 (.bnd 151 (TT 50)),OA 52 (.call 150 [TT 49,TT 51]),FF 53 3 1,VV 54 53,VV 55 3,OA 56 (.bnd 153 (TT 55)),OA 57 (.call 152 [TT 54,TT 56]),FF 58 4 1,VV 59 58,VV 60 3,OA 61 (.bnd 155 (TT 60)),OA 62 (.call 154 [TT 59,
 TT 61]),OA 63 (.bsl 35 1 5 [.int .i64 0] [(0,TT 44),(1,TT 47),(2,TT 52),(3,TT 57),(4,TT 62)]),OA 64 (.len false (TT 63)),OA 65 (.mv (II 0))]) (.block 0 (.loop (.seq (.reg [OA 66 (.bin .lss (TT 65) (TT 64))]) (.seq
 (.cond (TT 66) .skip (.exit 0)) (.seq (.block 1 (.seq (.reg [OA 67 (.x9 1 (TT 63) (TT 65)),VV 68 67,MM 6 68]) (.seq (.reg [MM 69 6,OA 70 (.bin .neq (TT 69) (II 0))]) (.cond (TT 70) (.seq (.reg [MM 71 6,MM 2 71]) .ret)
 .skip)))) (.reg [OA 72 (.bin .add (TT 65) (II 1)),MM 65 72]))))))) (.seq (.seq (.reg [FF 73 5 1,LL 74 3 73,OA 75 (.call 76 [TT 74]),OA 76 (.un .not (TT 75)),MM 77 76,FG 78 5 1 77 false,LG 79 3 78 77 false,OC 80 (.call 77
 [TT 79]) 77 false,OC 81 (.un .not (TT 80)) 77 false,OA 82 (.pick (TT 77) (.const (.bool true)) (TT 81)),MM 83 82,FG 84 5 1 83 false,LG 85 3 84 83 false,OC 86 (.call 42 [TT 85]) 83 false,OC 87 (.bin .lss (TT 86) (II 0)) 83
 false,OA 88 (.pick (TT 83) (.const (.bool true)) (TT 87))]) (.cond (TT 88) (.seq (.reg [OA 2 (.mv (II 1))]) .ret) .skip)) (.seq (.reg [OA 2 (.mv (II 0))]) .ret)))))))⟩
theorem b0w:I9 eff Tryz.prog Tryz.f85=some a3s:=by kernel_rfl
theorem b0S:Tryz.prog.funcs[85]?=some Tryz.f85:=Tryz.func85
def a4d:M4:=⟨159,[.cell 2 true 8],.seq (.reg [OA 2 (.alloc 30 [.slice none 0 0,.slice none 0 0,.slice none 0 0,.slice none 0 0,.slice none 0 0,.bool false,.string ⟨#[]⟩,.string ⟨#[]⟩])]) (.seq (.reg [MM 12 0,OA 13 (.build [.slice
 none 0 0] [(0,(1,TT 12))]),OA 14 (.box 142 (TT 13)),MM 3 14]) (.seq (.reg [OA 4 (.alloc 30 [.slice none 0 0,.slice none 0 0,.slice none 0 0,.slice none 0 0,.slice none 0 0,.bool false,.string ⟨#[]⟩,.string ⟨#[]⟩])])
 (.seq (.seq (.reg [MM 15 3,OA 16 (.call 79 [TT 15,II 2]),OA 17 (.bin .add (II 1) (TT 16)),OA 18 (.mv (II 0))]) (.block 0 (.loop (.seq (.reg [OA 19 (.bin .lss (TT 18) (TT 17))]) (.seq (.cond (TT 19) .skip (.exit 0)) (.seq
 (.block 1 (.seq (.reg [MM 20 18,MM 5 20]) (.D6 [.l,.l,.q,.q,.e none false,.q,.e none true,.q,.e none true] [FF 21 0 4,VV 22 21,MM 23 3,MM 24 5,OA 25 (.call 80 [TT 23,TT 24]),OA 26 (.bsl 49 12 1 [.string ⟨#[]⟩,
 .bool false,.string ⟨#[]⟩,.string ⟨#[]⟩,.bool false,.string ⟨#[]⟩,.string ⟨#[]⟩,.bool false,.bool false,.string ⟨#[]⟩,.string ⟨#[]⟩,.slice none 0 0] [(0,TT 25)]),OA 27 (.app 49 12 168 (TT 22) (TT 26)),FF 28 0 4,OB
 (.store 1 (TT 28) (TT 27))]))) (.reg [OA 29 (.bin .add (TT 18) (II 1)),MM 18 29]))))))) (.seq (.seq (.reg [MM 30 3,OA 31 (.call 79 [TT 30,II 3]),OA 32 (.mv (II 0))]) (.block 2 (.loop (.seq (.reg [OA 33 (.bin .lss (TT 32) (TT
 31))]) (.seq (.cond (TT 33) .skip (.exit 2)) (.seq (.block 3 (.seq (.reg [MM 34 3,OA 35 (.call 79 [TT 34,II 80]),OA 36 (.bin .sub (TT 35) (II 30)),MM 37 3,OA 38 (.call 79 [TT 37,II 30]),OA 39 (.bin .add (II 12) (TT 38)),
 MM 6 36,MM 7 39]) (.seq (.seq (.reg [MM 40 3,OA 41 (.call 79 [TT 40,II 2]),OA 42 (.bin .eql (TT 41) (II 1))]) (.cond (TT 42) (.reg [MM 43 7,OA 44 (.un .neg (TT 43)),OA 45 (.bin .sub (TT 44) (II 6)),MM 7 45]) .skip))
 (.D6 [.l,.l,.l,.l,.l,.l,.q,.e none false,.l,.l,.l,.l,.e none false,.q,.q,.q,.e none true,.q,.e none true] [FF 46 1 4,VV 47 46,MM 48 6,MM 49 7,MM 50 6,OA 51 (.bin .add (TT 50) (II 1)),MM 52 3,OA 53
 (.call 79 [TT 52,II 20]),OA 54 (.bin .add (TT 51) (TT 53)),MM 55 7,OA 56 (.bin .add (TT 55) (II 1)),MM 57 3,OA 58 (.call 79 [TT 57,II 5]),OA 59 (.bin .add (TT 56) (TT 58)),OA 60 (.call 81 [TT 48,TT 49,TT 54,TT 59]),
 OA 61 (.bsl 60 1 1 [.slice none 0 0] [(0,TT 60)]),OA 62 (.app 60 1 24 (TT 47) (TT 61)),FF 63 1 4,OB (.store 1 (TT 63) (TT 62))])))) (.reg [OA 64 (.bin .add (TT 32) (II 1)),MM 32 64]))))))) (.seq (.seq (.reg [MM 65 3,OA 66
 (.call 79 [TT 65,II 3]),OA 67 (.mv (II 0))]) (.block 4 (.loop (.seq (.reg [OA 68 (.bin .lss (TT 67) (TT 66))]) (.seq (.cond (TT 68) .skip (.exit 4)) (.seq (.block 5 (.seq (.reg [MM 69 67,MM 8 69]) (.D6 [.l,.l,.l,.l,.l,
 .l,.q,.e none false,.q,.q,.q,.q,.q,.q,.e none true,.q,.e none true] [FF 70 2 4,VV 71 70,OA 72 (.bsl 9 1 2 [.string ⟨#[]⟩] [(0,.const (.string ⟨#[98,111,108,116]⟩)),(1,.const (.string ⟨#[110,117,116]⟩))]),MM
 73 8,OA 74 (.x9 1 (TT 72) (TT 73)),VV 75 74,MM 76 3,OA 77 (.call 82 [TT 76]),OA 78 (.call 83 [II 0,II 0]),OA 79 (.call 10 [II 0,II 1]),OA 80 (.build [.bool false,.bool false,.string ⟨#[]⟩,.string ⟨#[]⟩] [(1,(3,
 TT 79))]),OA 81 (.build [.bool false,.string ⟨#[]⟩,.string ⟨#[]⟩,.bool false,.string ⟨#[]⟩,.string ⟨#[]⟩,.bool false,.bool false,.string ⟨#[]⟩,.string ⟨#[]⟩] [(0,(6,TT 78)),(6,(4,TT 80))]),OA 82 (.build [.string
 ⟨#[]⟩,.slice none 0 0,.bool false,.string ⟨#[]⟩,.string ⟨#[]⟩,.bool false,.string ⟨#[]⟩,.string ⟨#[]⟩,.bool false,.bool false,.string ⟨#[]⟩,.string ⟨#[]⟩] [(0,(1,TT 75)),(1,(1,TT 77)),(2,(10,TT 81))]),OA 83
 (.bsl 77 12 1 [.string ⟨#[]⟩,.slice none 0 0,.bool false,.string ⟨#[]⟩,.string ⟨#[]⟩,.bool false,.string ⟨#[]⟩,.string ⟨#[]⟩,.bool false,.bool false,.string ⟨#[]⟩,.string ⟨#[]⟩] [(0,TT 82)]),OA 84 (.app 77 12 168
 (TT 71) (TT 83)),FF 85 2 4,OB (.store 1 (TT 85) (TT 84))]))) (.reg [OA 86 (.bin .add (TT 67) (II 1)),MM 67 86]))))))) (.seq (.seq (.D6 [.l,.l,.l,.q,.e none false,.q,.l] [FF 87 2 4,VV 88 87,OA 89 (.len false (TT
 88)),MM 90 3,OA 91 (.call 79 [TT 90,II 2]),OA 92 (.bin .add (TT 89) (TT 91)),OA 93 (.mv (II 0))]) (.block 6 (.loop (.seq (.reg [OA 94 (.bin .lss (TT 93) (TT 92))]) (.seq (.cond (TT 94) .skip (.exit 6)) (.seq (.block 7 (.seq
 (.reg [MM 95 93,MM 9 95]) (.D6 [.l,.l,.l,.l,.l,.l,.q,.e none false,.l,.l,.e none false,.q,.q,.l,.e none false,.q,.q,.l,.l,.l,.e none false,.q,.q,.q,.q,.e none true,.q,.e none true] [FF 96 3 4,VV 97
 96,OA 98 (.bsl 9 1 3 [.string ⟨#[]⟩] [(0,.const (.string ⟨#[104,101,114,101]⟩)),(1,.const (.string ⟨#[116,104,101,114,101]⟩)),(2,.const (.string ⟨#[98,101,121,111,110,100]⟩))]),MM 99 9,OA 100 (.x9 1 (TT
 98) (TT 99)),VV 101 100,MM 102 3,OA 103 (.call 79 [TT 102,II 40]),OA 104 (.bin .sub (TT 103) (II 20)),MM 105 3,OA 106 (.call 79 [TT 105,II 24]),OA 107 (.bin .sub (TT 106) (II 12)),OA 108 (.call 83 [TT 104,TT 107]),MM
 109 3,OA 110 (.call 79 [TT 109,II 5]),OA 111 (.bin .sub (TT 110) (II 2)),OA 112 (.call 10 [TT 111,II 2]),OA 113 (.build [.bool false,.bool false,.string ⟨#[]⟩,.string ⟨#[]⟩] [(1,(3,TT 112))]),OA 114 (.build [.bool
 false,.string ⟨#[]⟩,.string ⟨#[]⟩,.bool false,.string ⟨#[]⟩,.string ⟨#[]⟩,.bool false,.bool false,.string ⟨#[]⟩,.string ⟨#[]⟩] [(0,(6,TT 108)),(6,(4,TT 113))]),MM 115 3,OA 116 (.call 79 [TT 115,II 20]),OA 117
 (.bin .add (II 8) (TT 116)),OA 118 (.call 10 [II 1,TT 117]),OA 119 (.build [.string ⟨#[]⟩,.bool false,.string ⟨#[]⟩,.string ⟨#[]⟩,.bool false,.string ⟨#[]⟩,.string ⟨#[]⟩,.bool false,.bool false,.string ⟨#[]⟩,.string
 ⟨#[]⟩,.bool false,.string ⟨#[]⟩,.string ⟨#[]⟩] [(0,(1,TT 101)),(1,(10,TT 114)),(11,(3,TT 118))]),OA 120 (.bsl 103 14 1 [.string ⟨#[]⟩,.bool false,.string ⟨#[]⟩,.string ⟨#[]⟩,.bool false,.string ⟨#[]⟩,.string
 ⟨#[]⟩,.bool false,.bool false,.string ⟨#[]⟩,.string ⟨#[]⟩,.bool false,.string ⟨#[]⟩,.string ⟨#[]⟩] [(0,TT 119)]),OA 121 (.app 103 14 184 (TT 97) (TT 120)),FF 122 3 4,OB (.store 1 (TT 122) (TT 121))]))) (.reg [OA 123
 (.bin .add (TT 93) (II 1)),MM 93 123]))))))) (.seq (.seq (.reg [MM 124 3,OA 125 (.call 79 [TT 124,II 2]),OA 126 (.mv (II 0))]) (.block 8 (.loop (.seq (.reg [OA 127 (.bin .lss (TT 126) (TT 125))]) (.seq (.cond (TT 127) .skip
 (.exit 8)) (.seq (.block 9 (.seq (.reg [MM 128 3,OA 129 (.call 79 [TT 128,II 60]),OA 130 (.bin .sub (TT 129) (II 30)),MM 131 3,OA 132 (.call 79 [TT 131,II 60]),OA 133 (.bin .sub (TT 132) (II 30)),MM 10 130,MM 11 133])
 (.D6 [.l,.l,.q,.q,.q,.l,.q,.e none false,.l,.l,.l,.e none false,.q,.q,.q,.q,.q,.e none true,.q,.e none true] [FF 134 4 4,VV 135 134,MM 136 10,MM 137 11,OA 138 (.call 83 [TT 136,TT 137]),MM 139 10,MM
 140 3,OA 141 (.call 79 [TT 140,II 12]),OA 142 (.bin .add (TT 139) (TT 141)),MM 143 11,MM 144 3,OA 145 (.call 79 [TT 144,II 12]),OA 146 (.bin .add (TT 143) (TT 145)),OA 147 (.call 83 [TT 142,TT 146]),OA 148 (.build
 [.bool false,.string ⟨#[]⟩,.string ⟨#[]⟩,.bool false,.string ⟨#[]⟩,.string ⟨#[]⟩,.bool false,.string ⟨#[]⟩,.string ⟨#[]⟩,.bool false,.string ⟨#[]⟩,.string ⟨#[]⟩] [(0,(6,TT 138)),(6,(6,TT 147))]),OA 149 (.build
 [.string ⟨#[]⟩,.bool false,.string ⟨#[]⟩,.string ⟨#[]⟩,.bool false,.string ⟨#[]⟩,.string ⟨#[]⟩,.bool false,.string ⟨#[]⟩,.string ⟨#[]⟩,.bool false,.string ⟨#[]⟩,.string ⟨#[]⟩] [(0,(1,.const (.string ⟨#[100,111,
 111,114]⟩))),(1,(12,TT 148))]),OA 150 (.bsl 107 13 1 [.string ⟨#[]⟩,.bool false,.string ⟨#[]⟩,.string ⟨#[]⟩,.bool false,.string ⟨#[]⟩,.string ⟨#[]⟩,.bool false,.string ⟨#[]⟩,.string ⟨#[]⟩,.bool false,.string
 ⟨#[]⟩,.string ⟨#[]⟩] [(0,TT 149)]),OA 151 (.app 107 13 176 (TT 135) (TT 150)),FF 152 4 4,OB (.store 1 (TT 152) (TT 151))]))) (.reg [OA 153 (.bin .add (TT 126) (II 1)),MM 126 153]))))))) (.seq (.reg [MM 154 3,OA 155 (.call
 79 [TT 154,II 4]),OA 156 (.call 10 [TT 155,II 8]),FF 157 5 4,OB (.store 3 (TT 157) (TT 156))]) (.seq (.reg [LL 158 8 4,OB (.store 8 (TT 2) (TT 158))]) .ret)))))))))⟩
theorem a8n:I9 eff Tryz.prog Tryz.f46=some a4d:=by kernel_rfl
theorem a8p:Tryz.prog.funcs[46]?=some Tryz.f46:=Tryz.func46
def V5:M4:=⟨9,[.tmp 4],.seq (.reg [OA 4 (.mv (.const (.bool false)))]) (.seq (.reg [MM 5 0,MM 6 1,OA 7 (.call 158 [TT 5,TT 6]),OA 8 (.bin .geq (TT 7) (II 0)),MM 4 8]) .ret)⟩
theorem a1i:I9 eff Tryz.prog Tryz.f90=some V5:=by kernel_rfl
theorem a1l:Tryz.prog.funcs[90]?=some Tryz.f90:=Tryz.func90
def Y0:M4:=⟨19,[.tmp 4],.seq (.reg [OA 4 (.mv (II 0))]) (.seq (.seq (.reg [MM 6 0,OA 7 (.len false (TT 6)),OA 8 (.mv (II 0))]) (.block 0 (.loop (.seq (.reg [OA 9 (.bin .lss (TT 8) (TT 7))]) (.seq (.cond (TT 9) .skip (.exit 0)) (.seq
 (.block 1 (.seq (.reg [MM 10 8,MM 5 10]) (.seq (.reg [MM 11 1,MM 12 0,MM 13 5,OA 14 (.x9 6 (TT 12) (TT 13)),LL 15 6 14,OA 16 (.S9 (TT 11) [TT 15])]) (.cond (TT 16) (.seq (.reg [MM 17 5,MM 4 17]) .ret) .skip))))
 (.reg [OA 18 (.bin .add (TT 8) (II 1)),MM 8 18]))))))) (.seq (.reg [OA 4 (.mv (II (-1)))]) .ret))⟩
theorem a1K:I9 eff Tryz.prog Tryz.f158=some Y0:=by kernel_rfl
theorem a1E:Tryz.prog.funcs[158]?=some Tryz.f158:=Tryz.func158
def J8 (b:UInt8):Bool:=decide (97<=b.toNat) && decide (b.toNat<=122)
theorem b1A {s:List UInt8} {i:Nat} (hi:i < s.length) (h:J8 s[i]=false):a0H s=false:=by
 unfold a0H
 have:(s.all fun b=>decide (97<=b.toNat) && decide (b.toNat<=122))=false:=by
  rw [List.all_eq_false]
  exact ⟨s[i],c6U hi,by unfold J8 at h;rw [h];decide⟩
 rw [this]
 rfl
theorem b3c {s:List UInt8} (h:∀ j (h:j < s.length),J8 s[j]=true):a0H s=(decide (1<=s.length) && decide (s.length<=12)):=by
 unfold a0H
 have:(s.all fun b=>decide (97<=b.toNat) && decide (b.toNat<=122))=true:=by
  rw [List.all_eq_true]
  intro x hx
  obtain ⟨j,hj,rfl⟩:=List.mem_iff_getElem.1 hx
  exact h j hj
 rw [this,Bool.true_and]
theorem c1g (s:List UInt8) (hs:s.length<=1099511627776):y9 Tryz.prog 64 [sb s] (.v (.bool (a0H s))):=by
  refine kS Tryz.func64 (by cbv) (by rfl) fun w O=>?_
  simp only [j6,sb]
  (repeat first|refine uA ?_|(refine uK ?_ ?_;focus first|omega|(intros;simp_all<;>omega))|simp (disch:=omega) only [go_sem,Nat.reduceBEq,Nat.reduceAdd,ww,D9])
  refine S.loop (X:=Nat) (fun i=>⟨[(0,sb s),(5,ints s.length),(6,ints i)],[]⟩) (fun i=>i<=s.length/\∀ j (h:j < s.length),j < i->J8 s[j]=true) (fun i=>s.length-i) 0 ⟨c6K _,fun _ _ h=>absurd h (Nat.not_lt_zero _)⟩ (by (repeat first|refine uA ?_|(refine ⟨?_,?_⟩;focus first|rfl|simp [slot])|rfl|simp)) ?_
  rintro i ⟨hi,hg⟩
  simp only [sb,ints]
  (repeat first|refine uA ?_|(refine uK ?_ ?_;focus first|omega|(intros;simp_all<;>omega))|simp (disch:=omega) only [go_sem,Nat.reduceBEq,Nat.reduceAdd,ww])
  (refine uJ rfl (fun hc=>?_) fun hc=>?_)
  · have hi':i < s.length:=by omega
    have hgi:s.getD i 0=s[i]:=by rw [c6T,c6E hi'];rfl
    (repeat first|refine uA ?_|(refine uK ?_ ?_;focus first|omega|(intros;simp_all<;>omega))|simp (disch:=omega) only [go_sem,Nat.reduceBEq,Nat.reduceAdd,ww,D9,Y1,hgi,c6I])
    refine S.cond rfl (fun hc=>?_) (fun hc=>?_)
    · have hl:J8 s[i]=false:=by
        unfold J8
        simp only [c7v,c6S] at hc
        rw [Bool.and_eq_false_iff,c7c,c7c]
        omega
      rw [b1A hi' hl]
      (repeat first|refine uA ?_|(refine uK ?_ ?_;focus first|omega|(intros;simp_all<;>omega))|simp (disch:=omega) only [go_sem,Nat.reduceBEq,Nat.reduceAdd,ww])
      exact S.done (j4.out rfl (Imp.refl rfl) rfl)
    · have hl:J8 s[i]=true:=by
        unfold J8
        simp only [c7n,c7c] at hc
        rw [c6Q,c6S,c6S]
        omega
      (repeat first|refine uA ?_|(refine uK ?_ ?_;focus first|omega|(intros;simp_all<;>omega))|simp (disch:=omega) only [go_sem,Nat.reduceBEq,Nat.reduceAdd,ww])
      refine S.next (i+1) ⟨by omega,fun j h hj=>?_⟩ (by omega) (by (repeat first|refine uA ?_|(refine ⟨?_,?_⟩;focus first|rfl|simp [slot])|rfl|simp))
      rcases c7a j i with h1|h1
      · exact hg j h h1
      · have:j=i:=by omega
        subst this
        exact hl
  · have hi':i=s.length:=by omega
    subst hi'
    have e1:decide ((1:Int)<=(s.length:Int))=decide (1<=s.length):=decide_eq_decide.2 (by omega)
    have e2:decide ((s.length:Int)<=12)=decide (s.length<=12):=decide_eq_decide.2 (by omega)
    rw [b3c fun j h=>hg j h h]
    (repeat first|refine uA ?_|(refine uK ?_ ?_;focus first|omega|(intros;simp_all<;>omega))|simp (disch:=omega) only [go_sem,Nat.reduceBEq,Nat.reduceAdd,ww,D9,e1,e2])
    (try simp only [e1,e2,go_sem])
    exact S.done (j4.out rfl (Imp.refl rfl) rfl)
theorem c3a (s:List UInt8) (hs:s.length<=1099511627776):y9 Tryz.prog 194 [sb s] (.v (.bool (a0H s))):=by
  refine kS Tryz.func194 (by cbv) (by rfl) fun w O=>?_
  simp only [j6,sb]
  (repeat first|refine uA ?_|(refine uK ?_ ?_;focus first|omega|(intros;simp_all<;>omega))|simp (disch:=omega) only [go_sem,Nat.reduceBEq,Nat.reduceAdd,ww,D9])
  refine S.loop (X:=Nat) (fun i=>⟨[(0,sb s),(5,ints s.length),(6,ints i)],[]⟩) (fun i=>i<=s.length/\∀ j (h:j < s.length),j < i->J8 s[j]=true) (fun i=>s.length-i) 0 ⟨c6K _,fun _ _ h=>absurd h (Nat.not_lt_zero _)⟩ (by (repeat first|refine uA ?_|(refine ⟨?_,?_⟩;focus first|rfl|simp [slot])|rfl|simp)) ?_
  rintro i ⟨hi,hg⟩
  simp only [sb,ints]
  (repeat first|refine uA ?_|(refine uK ?_ ?_;focus first|omega|(intros;simp_all<;>omega))|simp (disch:=omega) only [go_sem,Nat.reduceBEq,Nat.reduceAdd,ww])
  (refine uJ rfl (fun hc=>?_) fun hc=>?_)
  · have hi':i < s.length:=by omega
    have hgi:s.getD i 0=s[i]:=by rw [c6T,c6E hi'];rfl
    (repeat first|refine uA ?_|(refine uK ?_ ?_;focus first|omega|(intros;simp_all<;>omega))|simp (disch:=omega) only [go_sem,Nat.reduceBEq,Nat.reduceAdd,ww,D9,Y1,hgi,c6I])
    refine S.cond rfl (fun hc=>?_) (fun hc=>?_)
    · have hl:J8 s[i]=false:=by
        unfold J8
        simp only [c7v,c6S] at hc
        rw [Bool.and_eq_false_iff,c7c,c7c]
        omega
      rw [b1A hi' hl]
      (repeat first|refine uA ?_|(refine uK ?_ ?_;focus first|omega|(intros;simp_all<;>omega))|simp (disch:=omega) only [go_sem,Nat.reduceBEq,Nat.reduceAdd,ww])
      exact S.done (j4.out rfl (Imp.refl rfl) rfl)
    · have hl:J8 s[i]=true:=by
        unfold J8
        simp only [c7n,c7c] at hc
        rw [c6Q,c6S,c6S]
        omega
      (repeat first|refine uA ?_|(refine uK ?_ ?_;focus first|omega|(intros;simp_all<;>omega))|simp (disch:=omega) only [go_sem,Nat.reduceBEq,Nat.reduceAdd,ww])
      refine S.next (i+1) ⟨by omega,fun j h hj=>?_⟩ (by omega) (by (repeat first|refine uA ?_|(refine ⟨?_,?_⟩;focus first|rfl|simp [slot])|rfl|simp))
      rcases c7a j i with h1|h1
      · exact hg j h h1
      · have:j=i:=by omega
        subst this
        exact hl
  · have hi':i=s.length:=by omega
    subst hi'
    have e1:decide ((1:Int)<=(s.length:Int))=decide (1<=s.length):=decide_eq_decide.2 (by omega)
    have e2:decide ((s.length:Int)<=12)=decide (s.length<=12):=decide_eq_decide.2 (by omega)
    rw [b3c fun j h=>hg j h h]
    (repeat first|refine uA ?_|(refine uK ?_ ?_;focus first|omega|(intros;simp_all<;>omega))|simp (disch:=omega) only [go_sem,Nat.reduceBEq,Nat.reduceAdd,ww,D9,e1,e2])
    (try simp only [e1,e2,go_sem])
    exact S.done (j4.out rfl (Imp.refl rfl) rfl)
theorem a9n (l:List Nm.Rt) (hl:Rbs 17179869184 l):FZ 65 [rts l] (.v (.bool (l.all l6))):=by
  refine kW Tryz.func65 (by cbv) (by rfl) fun w O hw=>?_
  obtain ⟨hn,hb⟩:=hl
  simp only [j6,rts]
  (repeat first|refine uA ?_|(refine uK ?_ ?_;focus first|omega|(intros;simp_all<;>omega))|simp (disch:=omega) only [go_sem,Nat.reduceBEq,Nat.reduceAdd,ww,c6F])
  refine S.loop (X:=Nat) (fun i=>⟨[(5,rts l),(6,ints l.length),(7,ints i)],[]⟩) (fun i=>i<=l.length/\l.all l6=(l.drop i).all l6) (fun i=>l.length-i) 0 ⟨c6K _,rfl⟩ (by (repeat first|refine uA ?_|(refine ⟨?_,?_⟩;focus first|rfl|simp [slot])|rfl|simp)) ?_
  rintro i ⟨hi,hg⟩
  simp only [rts,ints]
  (repeat first|refine uA ?_|(refine uK ?_ ?_;focus first|omega|(intros;simp_all<;>omega))|simp (disch:=omega) only [go_sem,Nat.reduceBEq,Nat.reduceAdd,ww])
  (refine uJ rfl (fun hc=>?_) fun hc=>?_)
  · have hi':i < l.length:=by omega
    have hgi:=c6E hi'
    generalize l[i]=x at hgi
    have hd:=drop_at hgi
    have hs:=a2W x (hb x (c6H hgi))
    simp only [rc] at hs
    simp only [sb] at hs
    (repeat first|refine uA ?_|(refine uK ?_ ?_;focus first|omega|(intros;simp_all<;>omega))|simp (disch:=omega) only [go_sem,Nat.reduceBEq,Nat.reduceAdd,ww,hgi,c6G,c6F,rcs,sb]|(refine uD hs ?_ ?_ ?_;exact tz hw;exact rfl))
    refine S.cond rfl (fun hc=>?_) (fun hc=>?_)
    · have:l.all l6=false:=by
        rw [hg,hd,List.all_cons]
        simp only [Bool.not_eq_true'] at hc
        rw [hc];rfl
      rw [this]
      (repeat first|refine uA ?_|(refine uK ?_ ?_;focus first|omega|(intros;simp_all<;>omega))|simp (disch:=omega) only [go_sem,Nat.reduceBEq,Nat.reduceAdd,ww])
      exact S.done (j4.out rfl (Imp.refl rfl) rfl)
    · (repeat first|refine uA ?_|(refine uK ?_ ?_;focus first|omega|(intros;simp_all<;>omega))|simp (disch:=omega) only [go_sem,Nat.reduceBEq,Nat.reduceAdd,ww])
      refine S.next (i+1) ⟨by omega,?_⟩ (by omega) (by (repeat first|refine uA ?_|(refine ⟨?_,?_⟩;focus first|rfl|simp [slot])|rfl|simp))
      rw [hg,hd,List.all_cons]
      simp only [Bool.not_eq_false'] at hc
      rw [hc];rfl
  · have:l.all l6=true:=by rw [hg,List.drop_eq_nil_of_le (by omega)];rfl
    rw [this]
    (repeat first|refine uA ?_|(refine uK ?_ ?_;focus first|omega|(intros;simp_all<;>omega))|simp (disch:=omega) only [go_sem,Nat.reduceBEq,Nat.reduceAdd,ww])
    exact S.done (j4.out rfl (Imp.refl rfl) rfl)
namespace Eng
def frS (fr:List (Nat × C)):List (Nat × C)->Prop
 | []=>True
 | (t,s)::r=>(s=.junk \/ slot fr t=s)/\frS fr r
theorem b2x {fr:List (Nat × C)}:∀ {fr':List (Nat × C)},frS fr fr'->∀ t,slot fr' t=.junk \/ slot fr t=slot fr' t
 | [],_,t=>.inl rfl
 | (u,s)::r,h,t=>by
  simp only [slot]
  cases hb:(u == t) with
  | true=>
   have:u=t:=by simpa using hb
   subst this
   exact h.1
  | false=>exact b2x h.2 t
theorem Ent.fr {E:Ctx} {fr fr':List (Nat × C)} {rs rs':List Res} (h:rs=rs') (hf:frS fr fr'):Ent E ⟨fr,rs⟩ ⟨fr',rs'⟩:=by
 subst h
 intro wf ν a w hG
 refine ⟨ν,hG.dfr,hG.size,fun t=>?_,hG.rg,hG.frm,hG.nu⟩
 rcases b2x hf t with e|e
 ·rw [e];simp only [Den]
 ·rw [<- e];exact hG.fr t
end Eng
def a1U {α:Type} (p:α->Bool) (l:List α):Int:=match l.findIdx? p with|some i=>i|none=>-1
theorem a3k {α:Type} {p:α->Bool} {l:List α} {i:Nat} {x:α} (h:l[i]?=some x) (hp:p x=true) (hm:∀ j,j < i->∀ y,l[j]?=some y->p y=false):a1U p l=i:=by
 obtain ⟨hi,rfl⟩:=c6J.1 h
 have:l.findIdx? p=some i:=by
  rw [List.findIdx?_eq_some_iff_getElem]
  refine ⟨hi,hp,fun j hj=>?_⟩
  simp [hm j hj l[j] (c6E _)]
 unfold a1U
 rw [this]
theorem a2x {α:Type} {p:α->Bool} {l:List α} (hm:∀ j,j < l.length->∀ y,l[j]?=some y->p y=false):a1U p l=-1:=by
 have:l.findIdx? p=none:=by
  rw [List.findIdx?_eq_none_iff]
  intro x hx
  obtain ⟨j,hj⟩:=List.mem_iff_getElem?.1 hx
  exact hm j (c6J.1 hj).1 x hj
 unfold a1U
 rw [this]
theorem a5c {α:Type} (p:α->Bool) (l:List α):decide (0<=a1U p l)=l.any p:=by
 unfold a1U
 cases h:l.findIdx? p with
 | none=>
  rw [List.findIdx?_eq_none_iff] at h
  have:l.any p=false:=by rw [List.any_eq_false];intro x hx;simp [h x hx]
  rw [this];rfl
 | some i=>
  rw [List.findIdx?_eq_some_iff_getElem] at h
  obtain ⟨h1,h2,_⟩:=h
  have:l.any p=true:=by rw [List.any_eq_true];exact ⟨_,c6U h1,h2⟩
  rw [this]
  exact decide_eq_true (show (0:Int)<=(i:Int) by omega)
theorem c1q (g:Nat) (hcal:callable Tryz.prog g=true) (p:Vt->Bool) (l:List Vt) (hn:l.length<=1099511627776) (hg:∀ x ∈ l,FZ g [x.c] (.v (.bool (p x)))) :
  FZ 158 [vts l,.v (.func (.func g) #[] #[])] (ints (a1U p l)):=by
 refine kW a1E a1K (by rfl) fun w O hw=>?_
 simp only [Y0,j6,TT,II,OA,MM,LL,vts]
 (repeat first|refine uA ?_|(apply uK;focus omega)|simp (disch:=omega) only [go_sem,Nat.reduceBEq,c6F])
 refine S.loop (X:=Nat) (fun i=>⟨[(0,vts l),(1,.v (.func (.func g) #[] #[])),(7,ints l.length),(8,ints i)],[]⟩) (fun i=>i<=l.length/\∀ j,j < i->∀ x,l[j]?=some x->p x=false) (fun i=>l.length-i) 0 ⟨c6K _,fun _ h=>absurd h (Nat.not_lt_zero _)⟩ (by (repeat first|refine uA ?_|(refine ⟨?_,?_⟩;focus first|rfl|simp [slot])|rfl|simp)) ?_
 rintro i ⟨hi,hm⟩
 simp only [vts,ints]
 (repeat first|refine uA ?_|(apply uK;focus omega)|simp (disch:=omega) only [go_sem,Nat.reduceBEq])
 (refine uJ rfl (fun hc=>?_) fun hc=>?_)
 ·have hi':i < l.length:=by omega
  have hgi:=c6E hi'
  generalize l[i]=x at hgi
  have hs:=hg x (c6H hgi)
  simp only [Vt.c,Vt.enc,sb] at hs
  (repeat first|refine uA ?_|(apply uK;focus omega)|simp (disch:=omega) only [go_sem,Nat.reduceBEq,hgi,c6G,c6F,Vt.enc,sb,c6I,hcal]|(apply uD hs;exact tz hw;rfl))
  refine S.cond rfl (fun hc2=>?_) (fun hc2=>?_)
  ·rw [a3k hgi hc2 hm]
   (repeat first|refine uA ?_|(apply uK;focus omega)|simp (disch:=omega) only [go_sem,Nat.reduceBEq])
   exact S.done (j4.out rfl (Imp.refl rfl) rfl)
  ·(repeat first|refine uA ?_|(apply uK;focus omega)|simp (disch:=omega) only [go_sem,Nat.reduceBEq,ww])
   refine S.next (i+1) ⟨by omega,fun j hj y hy=>?_⟩ (by omega) (by (repeat first|refine uA ?_|(refine ⟨?_,?_⟩;focus first|rfl|simp [slot])|rfl|simp))
   rcases c7a j i with h1|h1
   ·exact hm j h1 y hy
   ·have:j=i:=by omega
    subst this
    rw [hgi] at hy
    cases hy
    exact hc2
 ·have hi':i=l.length:=by omega
  subst hi'
  rw [a2x hm]
  (repeat first|refine uA ?_|(apply uK;focus omega)|simp (disch:=omega) only [go_sem])
  exact S.done (j4.out rfl (Imp.refl rfl) rfl)
theorem b3z (g:Nat) (hcal:callable Tryz.prog g=true) (p:Vt->Bool) (l:List Vt) (hn:l.length<=1099511627776) (hg:∀ x ∈ l,FZ g [x.c] (.v (.bool (p x)))) :
  FZ 90 [vts l,.v (.func (.func g) #[] #[])] (.v (.bool (l.any p))):=by
 refine kW a1l a1i (by rfl) fun w O hw=>?_
 have h:=c1q g hcal p l hn hg
 have e:=a5c p l
 generalize a1U p l=n at *
 simp only [V5,j6,TT,II,OA,MM]
 simp only [vts,ints] at *
 (repeat first|refine uA ?_|(apply uK;focus first|omega|(intros;simp_all<;>omega))|simp (disch:=omega) only [go_sem,Nat.reduceBEq,Nat.reduceAdd]|(apply uD h;exact tz hw;rfl))
 rw [e]
 exact S.done (j4.out rfl (Imp.refl rfl) rfl)
theorem b9K (g:Nat) (hcal:callable Tryz.prog g=true) (p:Nm.Rt->Bool) (l:List Nm.Rt) (hn:l.length<=1099511627776) (hg:∀ x ∈ l,FZ g [rc x] (.v (.bool (p x)))) :
  FZ 197 [rts l,.v (.func (.func g) #[] #[])] (ints (a1U p l)):=by
 refine kW Tryz.func197 (by cbv) (by rfl) fun w O hw=>?_
 simp only [j6,TT,II,OA,MM,LL,rts]
 (repeat first|refine uA ?_|(apply uK;focus omega)|simp (disch:=omega) only [go_sem,Nat.reduceBEq,c6F])
 refine S.loop (X:=Nat) (fun i=>⟨[(0,rts l),(1,.v (.func (.func g) #[] #[])),(7,ints l.length),(8,ints i)],[]⟩) (fun i=>i<=l.length/\∀ j,j < i->∀ x,l[j]?=some x->p x=false) (fun i=>l.length-i) 0 ⟨c6K _,fun _ h=>absurd h (Nat.not_lt_zero _)⟩ (by (repeat first|refine uA ?_|(refine ⟨?_,?_⟩;focus first|rfl|simp [slot])|rfl|simp)) ?_
 rintro i ⟨hi,hm⟩
 simp only [rts,ints]
 (repeat first|refine uA ?_|(apply uK;focus omega)|simp (disch:=omega) only [go_sem,Nat.reduceBEq])
 (refine uJ rfl (fun hc=>?_) fun hc=>?_)
 ·have hi':i < l.length:=by omega
  have hgi:=c6E hi'
  generalize l[i]=x at hgi
  have hs:=hg x (c6H hgi)
  simp only [rc,sb] at hs
  (repeat first|refine uA ?_|(apply uK;focus omega)|simp (disch:=omega) only [go_sem,Nat.reduceBEq,hgi,c6G,c6F,rcs,sb,c6I,hcal]|(apply uD hs;exact tz hw;rfl))
  refine S.cond rfl (fun hc2=>?_) (fun hc2=>?_)
  ·rw [a3k hgi hc2 hm]
   (repeat first|refine uA ?_|(apply uK;focus omega)|simp (disch:=omega) only [go_sem,Nat.reduceBEq])
   exact S.done (j4.out rfl (Imp.refl rfl) rfl)
  ·(repeat first|refine uA ?_|(apply uK;focus omega)|simp (disch:=omega) only [go_sem,Nat.reduceBEq,ww])
   refine S.next (i+1) ⟨by omega,fun j hj y hy=>?_⟩ (by omega) (by (repeat first|refine uA ?_|(refine ⟨?_,?_⟩;focus first|rfl|simp [slot])|rfl|simp))
   rcases c7a j i with h1|h1
   ·exact hm j h1 y hy
   ·have:j=i:=by omega
    subst this
    rw [hgi] at hy
    cases hy
    exact hc2
 ·have hi':i=l.length:=by omega
  subst hi'
  rw [a2x hm]
  (repeat first|refine uA ?_|(apply uK;focus omega)|simp (disch:=omega) only [go_sem])
  exact S.done (j4.out rfl (Imp.refl rfl) rfl)
theorem b9M (g:Nat) (hcal:callable Tryz.prog g=true) (p:Nm.Rt->Bool) (l:List Nm.Rt) (hn:l.length<=1099511627776) (hg:∀ x ∈ l,FZ g [rc x] (.v (.bool (p x)))) :
  FZ 159 [rts l,.v (.func (.func g) #[] #[])] (.v (.bool (l.any p))):=by
 refine kW Tryz.func159 (by cbv) (by rfl) fun w O hw=>?_
 have h:=b9K g hcal p l hn hg
 have e:=a5c p l
 generalize a1U p l=n at *
 simp only [j6,TT,II,OA,MM]
 simp only [rts,ints] at *
 (repeat first|refine uA ?_|(apply uK;focus first|omega|(intros;simp_all<;>omega))|simp (disch:=omega) only [go_sem,Nat.reduceBEq,Nat.reduceAdd]|(apply uD h;exact tz hw;rfl))
 rw [e]
 exact S.done (j4.out rfl (Imp.refl rfl) rfl)
theorem b6R (g:Nat) (hcal:callable Tryz.prog g=true) (p:Fr->Bool) (l:List Fr) (hn:l.length<=1099511627776) (hg:∀ x ∈ l,FZ g [x.c] (.v (.bool (p x)))) :
  FZ 157 [frs l,.v (.func (.func g) #[] #[])] (ints (a1U p l)):=by
 refine kW Tryz.func157 (by cbv) (by rfl) fun w O hw=>?_
 simp only [j6,TT,II,OA,MM,LL,frs]
 (repeat first|refine uA ?_|(apply uK;focus omega)|simp (disch:=omega) only [go_sem,Nat.reduceBEq,c6F])
 refine S.loop (X:=Nat) (fun i=>⟨[(0,frs l),(1,.v (.func (.func g) #[] #[])),(7,ints l.length),(8,ints i)],[]⟩) (fun i=>i<=l.length/\∀ j,j < i->∀ x,l[j]?=some x->p x=false) (fun i=>l.length-i) 0 ⟨c6K _,fun _ h=>absurd h (Nat.not_lt_zero _)⟩ (by (repeat first|refine uA ?_|(refine ⟨?_,?_⟩;focus first|rfl|simp [slot])|rfl|simp)) ?_
 rintro i ⟨hi,hm⟩
 simp only [frs,ints]
 (repeat first|refine uA ?_|(apply uK;focus omega)|simp (disch:=omega) only [go_sem,Nat.reduceBEq])
 (refine uJ rfl (fun hc=>?_) fun hc=>?_)
 ·have hi':i < l.length:=by omega
  have hgi:=c6E hi'
  generalize l[i]=x at hgi
  have hs:=hg x (c6H hgi)
  simp only [Fr.c,Fr.enc,sb] at hs
  (repeat first|refine uA ?_|(apply uK;focus omega)|simp (disch:=omega) only [go_sem,Nat.reduceBEq,hgi,c6G,c6F,Fr.enc,sb,c6I,hcal]|(apply uD hs;exact tz hw;rfl))
  refine S.cond rfl (fun hc2=>?_) (fun hc2=>?_)
  ·rw [a3k hgi hc2 hm]
   (repeat first|refine uA ?_|(apply uK;focus omega)|simp (disch:=omega) only [go_sem,Nat.reduceBEq])
   exact S.done (j4.out rfl (Imp.refl rfl) rfl)
  ·(repeat first|refine uA ?_|(apply uK;focus omega)|simp (disch:=omega) only [go_sem,Nat.reduceBEq,ww])
   refine S.next (i+1) ⟨by omega,fun j hj y hy=>?_⟩ (by omega) (by (repeat first|refine uA ?_|(refine ⟨?_,?_⟩;focus first|rfl|simp [slot])|rfl|simp))
   rcases c7a j i with h1|h1
   ·exact hm j h1 y hy
   ·have:j=i:=by omega
    subst this
    rw [hgi] at hy
    cases hy
    exact hc2
 ·have hi':i=l.length:=by omega
  subst hi'
  rw [a2x hm]
  (repeat first|refine uA ?_|(apply uK;focus omega)|simp (disch:=omega) only [go_sem])
  exact S.done (j4.out rfl (Imp.refl rfl) rfl)
theorem b6w (g:Nat) (hcal:callable Tryz.prog g=true) (p:Fr->Bool) (l:List Fr) (hn:l.length<=1099511627776) (hg:∀ x ∈ l,FZ g [x.c] (.v (.bool (p x)))) :
  FZ 87 [frs l,.v (.func (.func g) #[] #[])] (.v (.bool (l.any p))):=by
 refine kW Tryz.func87 (by cbv) (by rfl) fun w O hw=>?_
 have h:=b6R g hcal p l hn hg
 have e:=a5c p l
 generalize a1U p l=n at *
 simp only [j6,TT,II,OA,MM]
 simp only [frs,ints] at *
 (repeat first|refine uA ?_|(apply uK;focus first|omega|(intros;simp_all<;>omega))|simp (disch:=omega) only [go_sem,Nat.reduceBEq,Nat.reduceAdd]|(apply uD h;exact tz hw;rfl))
 rw [e]
 exact S.done (j4.out rfl (Imp.refl rfl) rfl)
set_option maxHeartbeats 8000000
theorem b9V {α:Type} (p:α->Bool) (a b c d e:α):[a,b,c,d,e].all p=(p a && p b && p c && p d && p e):=by simp [Bool.and_assoc]
theorem a7k {α:Type} (p:α->Bool) (a b c:α):[a,b,c].all p=(p a && p b && p c):=by simp [Bool.and_assoc]
theorem a8c {α:Type} (p:α->Bool) (a b:α):[a,b].all p=(p a && p b):=by simp
theorem Rbs.five {k:Nat} {a b c d e:Nm.Rt} (h:5<=k) (h1:Rb k a) (h2:Rb k b) (h3:Rb k c) (h4:Rb k d) (h5:Rb k e):Rbs k [a,b,c,d,e]:=⟨h,fun x hx=>by simp at hx;rcases hx with rfl|rfl|rfl|rfl|rfl<;>assumption⟩
theorem Rbs.three {k:Nat} {a b c:Nm.Rt} (h:3<=k) (h1:Rb k a) (h2:Rb k b) (h3:Rb k c):Rbs k [a,b,c]:=⟨h,fun x hx=>by simp at hx;rcases hx with rfl|rfl|rfl<;>assumption⟩
theorem Rbs.two {k:Nat} {a b:Nm.Rt} (h:2<=k) (h1:Rb k a) (h2:Rb k b):Rbs k [a,b]:=⟨h,fun x hx=>by simp at hx;rcases hx with rfl|rfl<;>assumption⟩
theorem c2Q (l:Lk) (hl:Lb 1073741824 l):FZ 66 [l.c] (ints (V3 l)):=by
  refine kW Tryz.func66 (by cbv) (by rfl) fun w O hw=>?_
  obtain ⟨length,low,high,speed,brake,shape⟩:=l
  obtain ⟨b1,b2,b3,b4,b5,b6⟩:=hl
  simp only at b1 b2 b3 b4 b5 b6
  have c1:=b1.mono (m:=17179869184) (by decide)
  have c2:=b2.mono (m:=17179869184) (by decide)
  have c3:=b3.mono (m:=17179869184) (by decide)
  have c4:=b4.mono (m:=17179869184) (by decide)
  have c5:=b5.mono (m:=17179869184) (by decide)
  have hsm:=a9n _ (Rbs.five (by decide) c1 c2 c3 c4 c5)
  rw [b9V] at hsm
  have hs1:=O9 length c1
  have hcm:=M6 low high c2 c3
  have hs2:=O9 speed c4
  have hs3:=O9 brake c5
  have hp:=a5N shape b6
  have hv:=fun (v:Vt) (h:v ∈ shape)=>a9n _ (Rbs.two (by decide) ((b6.2 v h).1.mono (m:=17179869184) (by decide)) ((b6.2 v h).2.mono (m:=17179869184) (by decide)))
  have hn:=b6.1
  unfold V3
  simp only
  generalize (l6 length && l6 low && l6 high && l6 speed && l6 brake)=q at *
  generalize z8 (Nm.d9 length)=n1 at *
  generalize Nm.q9 (Nm.d9 low) (Nm.d9 high)=n2 at *
  generalize z8 (Nm.d9 speed)=n3 at *
  generalize z8 (Nm.d9 brake)=n4 at *
  generalize U9 shape 8=n5 at *
  simp only [j6,TT,II,OA,OB,OC,MM,LL,VV,FF,LG,FG]
  simp only [Lk.c,Lk.enc,rc,rts,rcs,vts,sb,ints,c6V,c6Z] at *
  (repeat first|refine uG hs1 ?_|refine uG hcm ?_|refine uG hsm ?_|refine uA ?_|(refine uK ?_ ?_;focus first|omega|(intros;simp_all<;>omega))|simp (disch:=omega) only [go_sem,Nat.reduceBEq,Nat.reduceAdd]|(refine uD hs1 ?_ ?_ ?_;exact tz hw;exact rfl)|(refine uD hcm ?_ ?_ ?_;exact tz hw;exact rfl)|(refine uE hsm ?_ ?_ ?_ ?_;exact tz hw;exact rfl;focus (repeat' first|exact j5.nil|exact Imp.refl rfl|exact Imp.frz rfl rfl rfl|(refine Imp.M8 rfl rfl ?_ ?_;(focus ((try simp only [c6M]);omega));(focus first|rfl|assumption))|refine j5.cons ?_ ?_);done))
  refine S.cond rfl (fun hc=>?_) (fun hc=>?_)
  · rw [if_pos (by simp only [c7v,Bool.not_eq_true',c6S] at hc;rcases hc with (hc|hc)|hc<;>simp [hc])]
    (repeat first|refine uA ?_|(refine uK ?_ ?_;focus first|omega|(intros;simp_all<;>omega))|simp (disch:=omega) only [go_sem])
    exact S.done (j4.out rfl (Imp.refl rfl) rfl)
  rw [if_neg (by simp only [c7n,Bool.not_eq_false',c7c] at hc;simp [hc])]
  (repeat first|refine uG hs2 ?_|refine uG hs3 ?_|refine uA ?_|(refine uK ?_ ?_;focus first|omega|(intros;simp_all<;>omega))|simp (disch:=omega) only [go_sem,Nat.reduceBEq,Nat.reduceAdd]|(refine uD hs2 ?_ ?_ ?_;exact tz hw;exact rfl)|(refine uD hs3 ?_ ?_ ?_;exact tz hw;exact rfl))
  refine S.cond rfl (fun hc=>?_) (fun hc=>?_)
  · rw [if_pos (by simp only [c7v,c6S] at hc;exact hc)]
    (repeat first|refine uA ?_|(refine uK ?_ ?_;focus first|omega|(intros;simp_all<;>omega))|simp (disch:=omega) only [go_sem])
    exact S.done (j4.out rfl (Imp.refl rfl) rfl)
  rw [if_neg (by simp only [c7n,c7c] at hc;simp [hc])]
  (repeat first|refine uG hp ?_|refine uA ?_|(refine uK ?_ ?_;focus first|omega|(intros;simp_all<;>omega))|simp (disch:=omega) only [go_sem,Nat.reduceBEq,Nat.reduceAdd]|(refine uD hp ?_ ?_ ?_;exact tz hw;exact rfl))
  refine S.cond rfl (fun hc=>?_) (fun hc=>?_)
  · rw [if_pos (by simpa using hc)]
    (repeat first|refine uA ?_|(refine uK ?_ ?_;focus first|omega|(intros;simp_all<;>omega))|simp (disch:=omega) only [go_sem,Nat.reduceBEq])
    exact S.done (j4.out rfl (Imp.refl rfl) rfl)
  rw [if_neg (by simpa using hc)]
  (repeat first|refine uA ?_|(refine uK ?_ ?_;focus first|omega|(intros;simp_all<;>omega))|simp (disch:=omega) only [go_sem,Nat.reduceBEq,Nat.reduceAdd,c6F])
  refine S.loop (X:=Nat) (fun i=>⟨[(50,vts shape),(51,ints shape.length),(52,ints i)],[]⟩) (fun i=>i<=shape.length/\(shape.all fun v=>l6 v.x && l6 v.y)=(shape.drop i).all fun v=>l6 v.x && l6 v.y) (fun i=>shape.length-i) 0 ⟨c6K _,rfl⟩ (by (repeat first|refine uA ?_|(refine ⟨?_,?_⟩;focus first|rfl|simp [slot])|rfl|simp)) ?_
  rintro i ⟨hi,hg⟩
  simp only [vts,ints]
  (repeat first|refine uA ?_|(refine uK ?_ ?_;focus first|omega|(intros;simp_all<;>omega))|simp (disch:=omega) only [go_sem,Nat.reduceBEq])
  (refine uJ rfl (fun hc=>?_) fun hc=>?_)
  · have hi':i < shape.length:=by omega
    have hgi:=c6E hi'
    generalize shape[i]=x at hgi
    have hd:=drop_at hgi
    have hs:=hv x (c6H hgi)
    rw [a8c] at hs
    (repeat first|refine uG hs ?_|refine uA ?_|(refine uK ?_ ?_;focus first|omega|(intros;simp_all<;>omega))|simp (disch:=omega) only [go_sem,Nat.reduceBEq,Nat.reduceAdd,hgi,c6G,c6F,Vt.enc,sb]|(refine uE hs ?_ ?_ ?_ ?_;exact tz hw;exact rfl;focus (repeat' first|exact j5.nil|exact Imp.refl rfl|exact Imp.frz rfl rfl rfl|(refine Imp.M8 rfl rfl ?_ ?_;(focus ((try simp only [c6M,hgi,c6G,c6F,Vt.enc,sb]);omega));(focus first|rfl|assumption))|refine j5.cons ?_ ?_);done))
    refine S.cond rfl (fun hc2=>?_) (fun hc2=>?_)
    · have:(shape.all fun v=>l6 v.x && l6 v.y)=false:=by
        rw [hg,hd,List.all_cons]
        simp only [Bool.not_eq_true'] at hc2
        rw [hc2];rfl
      rw [this]
      (repeat first|refine uA ?_|(refine uK ?_ ?_;focus first|omega|(intros;simp_all<;>omega))|simp (disch:=omega) only [go_sem])
      exact S.done (j4.out rfl (Imp.refl rfl) rfl)
    · (repeat first|refine uA ?_|(refine uK ?_ ?_;focus first|omega|(intros;simp_all<;>omega))|simp (disch:=omega) only [go_sem,Nat.reduceBEq,ww])
      refine S.next (i+1) ⟨by omega,?_⟩ (by omega) (by (repeat first|refine uA ?_|(refine ⟨?_,?_⟩;focus first|rfl|simp [slot])|rfl|simp))
      rw [hg,hd,List.all_cons]
      simp only [Bool.not_eq_false'] at hc2
      rw [hc2];rfl
  · have:(shape.all fun v=>l6 v.x && l6 v.y)=true:=by rw [hg,List.drop_eq_nil_of_le (by omega)];rfl
    rw [this]
    (repeat first|refine uA ?_|(refine uK ?_ ?_;focus first|omega|(intros;simp_all<;>omega))|simp (disch:=omega) only [go_sem])
    exact S.done (j4.out rfl (Imp.refl rfl) rfl)
theorem a4C (a:Am) (hl:Ab 1073741824 a):FZ 31 [a.c] (ints (F4 a)):=by
 refine kW Tryz.func31 (by cbv) (by rfl) fun w O hw=>?_
 obtain ⟨name,⟨x,y,half,t⟩,links⟩:=a
 obtain ⟨b0,⟨b1,b2,b3⟩,hn,hb⟩:=hl
 simp only at b0 b1 b2 b3 hn hb
 have c1:=b1.mono (m:=17179869184) (by decide)
 have c2:=b2.mono (m:=17179869184) (by decide)
 have c3:=b3.mono (m:=17179869184) (by decide)
 have hnm:=c1g name (by omega)
 have hsm:=a9n _ (Rbs.three (by decide) c1 c2 c3)
 rw [a7k] at hsm
 have hs:=O9 t c3
 unfold F4 a3B
 simp only
 generalize a0H name=q0 at *
 generalize (l6 x && l6 y && l6 t)=q at *
 generalize z8 (Nm.d9 t)=n1 at *
 simp only [j6]
 simp only [Am.c,Am.enc,rc,rts,rcs,lks,sb,ints,c6V,c6Z] at *
 (repeat first|refine uF hnm ?_|refine uA ?_|(refine uK ?_ ?_;focus first|omega|(intros;simp_all<;>omega))|simp (disch:=omega) only [go_sem,Nat.reduceBEq,Nat.reduceAdd]|(refine uB hnm ?_ ?_;exact rfl))
 refine S.cond rfl (fun hc=>?_) (fun hc=>?_)
 ·rw [if_pos (by simpa using hc)]
  (repeat first|refine uA ?_|(refine uK ?_ ?_;focus first|omega|(intros;simp_all<;>omega))|simp (disch:=omega) only [go_sem])
  exact S.done (j4.out rfl (Imp.refl rfl) rfl)
 rw [if_neg (by simpa using hc)]
 (repeat first|refine uA ?_|(refine uK ?_ ?_;focus first|omega|(intros;simp_all<;>omega))|simp (disch:=omega) only [go_sem,Nat.reduceBEq,Nat.reduceAdd,c6F])
 refine S.cond rfl (fun hc=>?_) (fun hc=>?_)
 ·rw [if_pos (by simp only [c6S] at hc;omega)]
  (repeat first|refine uA ?_|(refine uK ?_ ?_;focus first|omega|(intros;simp_all<;>omega))|simp (disch:=omega) only [go_sem])
  exact S.done (j4.out rfl (Imp.refl rfl) rfl)
 rw [if_neg (by simp only [c7c] at hc;omega)]
 by_cases h0:links.length=0
 ·rw [if_pos (.inl h0)]
  have e0:decide ((links.length:Int)=0)=true:=decide_eq_true (by omega)
  (repeat first|refine uG hs ?_|refine uG hsm ?_|refine uA ?_|(refine uK ?_ ?_;focus first|omega|(intros;simp_all<;>omega))|simp (disch:=omega) only [go_sem,Nat.reduceBEq,Nat.reduceAdd,c6F,e0]|(refine uD hs ?_ ?_ ?_;exact tz hw;exact rfl)|(refine uE hsm ?_ ?_ ?_ ?_;exact tz hw;exact rfl;focus (repeat' first|exact j5.nil|exact Imp.refl rfl|exact Imp.frz rfl rfl rfl|(refine Imp.M8 rfl rfl ?_ ?_;(focus ((try simp only [c6M,c6F,e0]);omega));(focus first|rfl|assumption))|refine j5.cons ?_ ?_);done))
  refine S.cond rfl (fun _=>?_) (fun hc=>by simp at hc)
  (repeat first|refine uA ?_|(refine uK ?_ ?_;focus first|omega|(intros;simp_all<;>omega))|simp (disch:=omega) only [go_sem])
  exact S.done (j4.out rfl (Imp.refl rfl) rfl)
 have e0:decide ((links.length:Int)=0)=false:=decide_eq_false (by omega)
 (repeat first|refine uG hs ?_|refine uG hsm ?_|refine uA ?_|(refine uK ?_ ?_;focus first|omega|(intros;simp_all<;>omega))|simp (disch:=omega) only [go_sem,Nat.reduceBEq,Nat.reduceAdd,c6F,e0]|(refine uD hs ?_ ?_ ?_;exact tz hw;exact rfl)|(refine uE hsm ?_ ?_ ?_ ?_;exact tz hw;exact rfl;focus (repeat' first|exact j5.nil|exact Imp.refl rfl|exact Imp.frz rfl rfl rfl|(refine Imp.M8 rfl rfl ?_ ?_;(focus ((try simp only [c6M,c6F,e0]);omega));(focus first|rfl|assumption))|refine j5.cons ?_ ?_);done))
 refine S.cond rfl (fun hc=>?_) (fun hc=>?_)
 ·rw [if_pos (by simp only [c7v,Bool.not_eq_true'] at hc;rcases hc with hc|hc;(· exact .inr (.inl hc));(· exact .inr (.inr (by cases half<;>simp_all))))]
  (repeat first|refine uA ?_|(refine uK ?_ ?_;focus first|omega|(intros;simp_all<;>omega))|simp (disch:=omega) only [go_sem])
  exact S.done (j4.out rfl (Imp.refl rfl) rfl)
 rw [if_neg (by simp only [c7n,Bool.not_eq_false'] at hc;rintro (h|h|h);(· omega);(· simp_all);(· cases half<;>simp_all))]
 (repeat first|refine uA ?_|(refine uK ?_ ?_;focus first|omega|(intros;simp_all<;>omega))|simp (disch:=omega) only [go_sem,Nat.reduceBEq,Nat.reduceAdd,c6F])
 refine S.loop (X:=Nat) (fun i=>⟨[(48,lks links),(49,ints links.length),(50,ints i)],[]⟩) (fun i=>i<=links.length/\G5 V3 links=G5 V3 (links.drop i)) (fun i=>links.length-i) 0 ⟨c6K _,rfl⟩ (by (repeat first|refine uA ?_|(refine ⟨?_,?_⟩;focus first|rfl|simp [slot])|rfl|simp)) ?_
 rintro i ⟨hi,hg⟩
 simp only [lks,ints]
 (repeat first|refine uA ?_|(refine uK ?_ ?_;focus first|omega|(intros;simp_all<;>omega))|simp (disch:=omega) only [go_sem,Nat.reduceBEq])
 (refine uJ rfl (fun hc=>?_) fun hc=>?_)
 ·have hi':i < links.length:=by omega
  have hgi:=c6E hi'
  generalize links[i]=x at hgi
  have hst:=a1e (f:=V3) hgi
  have hnx:=a1h (f:=V3) hgi
  have hs:=c2Q x (hb x (c6H hgi))
  generalize V3 x=e at *
  simp only [Lk.c,Lk.enc,vts,sb,ints] at hs
  (repeat first|refine uG hs ?_|refine uA ?_|(refine uK ?_ ?_;focus first|omega|(intros;simp_all<;>omega))|simp (disch:=omega) only [go_sem,Nat.reduceBEq,Nat.reduceAdd,hgi,c6G,c6F,Lk.enc,vts,sb]|(refine uD hs ?_ ?_ ?_;exact tz hw;exact rfl))
  refine S.cond rfl (fun hc2=>?_) (fun hc2=>?_)
  ·rw [hg,hst (by simpa using hc2)]
   (repeat first|refine uA ?_|(refine uK ?_ ?_;focus first|omega|(intros;simp_all<;>omega))|simp (disch:=omega) only [go_sem,Nat.reduceBEq])
   exact S.done (j4.out rfl (Imp.refl rfl) rfl)
  ·(repeat first|refine uA ?_|(refine uK ?_ ?_;focus first|omega|(intros;simp_all<;>omega))|simp (disch:=omega) only [go_sem,Nat.reduceBEq,ww])
   refine S.next (i+1) ⟨by omega,?_⟩ (by omega) (by (repeat first|refine uA ?_|(refine ⟨?_,?_⟩;focus first|rfl|simp [slot])|rfl|simp))
   rw [hg,hnx (by simpa using hc2)]
 ·rw [hg,a1O (by omega)]
  (repeat first|refine uA ?_|(refine uK ?_ ?_;focus first|omega|(intros;simp_all<;>omega))|simp (disch:=omega) only [go_sem])
  exact S.done (j4.out rfl (Imp.refl rfl) rfl)
def P8 (a:Am) (n:Int):Int:=if F4 a ≠ 0 then F4 a else if n ≠ a.links.length then 1 else 0
theorem b3t (a:Am) (n:Int) (hl:Ab 1073741824 a):FZ 113 [a.c,ints n] (ints (P8 a n)):=by
 refine kW Tryz.func113 (by cbv) (by rfl) fun w O hw=>?_
 have h:=a4C a hl
 unfold P8
 generalize F4 a=e at *
 obtain ⟨name,⟨x,y,half,t⟩,links⟩:=a
 simp only [j6]
 simp only [Am.c,Am.enc,lks,sb,ints] at *
 (repeat first|refine uA ?_|(refine uK ?_ ?_;focus first|omega|(intros;simp_all<;>omega))|simp (disch:=omega) only [go_sem,Nat.reduceBEq,Nat.reduceAdd,ww]|(refine uD h ?_ ?_ ?_;exact tz hw;exact rfl))
 refine S.cond rfl (fun hc=>?_) (fun hc=>?_)
 ·rw [if_pos (by simpa using hc)]
  (repeat first|refine uA ?_|(refine uK ?_ ?_;focus first|omega|(intros;simp_all<;>omega))|simp (disch:=omega) only [go_sem,Nat.reduceBEq,Nat.reduceAdd,ww])
  exact S.done (j4.out rfl (Imp.refl rfl) rfl)
 rw [if_neg (by simpa using hc)]
 (repeat first|refine uA ?_|(refine uK ?_ ?_;focus first|omega|(intros;simp_all<;>omega))|simp (disch:=omega) only [go_sem,Nat.reduceBEq,Nat.reduceAdd,ww,c6F])
 refine S.cond rfl (fun hc=>?_) (fun hc=>?_)
 ·rw [if_pos (by simpa using hc)]
  (repeat first|refine uA ?_|(refine uK ?_ ?_;focus first|omega|(intros;simp_all<;>omega))|simp (disch:=omega) only [go_sem,Nat.reduceBEq,Nat.reduceAdd,ww])
  exact S.done (j4.out rfl (Imp.refl rfl) rfl)
 ·rw [if_neg (by simpa using hc)]
  (repeat first|refine uA ?_|(refine uK ?_ ?_;focus first|omega|(intros;simp_all<;>omega))|simp (disch:=omega) only [go_sem,Nat.reduceBEq,Nat.reduceAdd,ww])
  exact S.done (j4.out rfl (Imp.refl rfl) rfl)
def a5P (x:Lk × Nm.Rt):Int:=if Nm.q9 (Nm.d9 x.2) (Nm.d9 x.1.low) < 0 \/ 0 < Nm.q9 (Nm.d9 x.2) (Nm.d9 x.1.high) then 17 else 0
theorem b4a (a:Am) (q:List Nm.Rt):a4e a q=if P8 a q.length ≠ 0 then P8 a q.length else G5 a5P (a.links.zip q):=by
 unfold a4e P8
 by_cases h:F4 a=0
 ·rw [if_neg (by simp [h])]
  by_cases h2:q.length=a.links.length
  ·simp [h,h2];rfl
  ·have h3:¬ (q.length:Int)=a.links.length:=by omega
   simp [h,h2,h3]
 ·simp [h]
theorem V6 {α β:Type} {l:List α} {m:List β} {i:Nat} {x:α} {y:β} (h:l[i]?=some x) (k:m[i]?=some y):(l.zip m)[i]?=some (x,y):=by
 rw [List.getElem?_zip_eq_some];exact ⟨h,k⟩
theorem c4F (a:Am) (q:List Nm.Rt) (hl:Ab 1073741824 a) (hq:Rbs 1073741824 q):FZ 156 [a.c,rts q] (ints (a4e a q)):=by
 refine kW Tryz.func156 (by cbv) (by rfl) fun w O hw=>?_
 have h:=b3t a q.length hl
 rw [b4a]
 have hlen:P8 a q.length=0->q.length=a.links.length:=by
  unfold P8
  intro h
  split at h
  ·rename_i h1;exact absurd h h1
  ·split at h
   ·cases h
   ·rename_i h1;have:=Classical.not_not.1 h1;omega
 generalize P8 a q.length=e at *
 obtain ⟨hqn,hqb⟩:=hq
 obtain ⟨name,⟨x,y,half,t⟩,links⟩:=a
 obtain ⟨b0,⟨b1,b2,b3⟩,hn,hb⟩:=hl
 simp only at b0 b1 b2 b3 hn hb hlen
 simp only [j6]
 simp only [Am.c,Am.enc,lks,sb,ints,rts] at *
 (repeat first|refine uA ?_|(refine uK ?_ ?_;focus first|omega|(intros;simp_all<;>omega))|simp (disch:=omega) only [go_sem,Nat.reduceBEq,Nat.reduceAdd,ww,c6F]|(refine uD h ?_ ?_ ?_;exact tz hw;exact rfl))
 refine S.cond rfl (fun hc=>?_) (fun hc=>?_)
 ·rw [if_pos (by simpa using hc)]
  (repeat first|refine uA ?_|(refine uK ?_ ?_;focus first|omega|(intros;simp_all<;>omega))|simp (disch:=omega) only [go_sem,Nat.reduceBEq,Nat.reduceAdd,ww])
  exact S.done (j4.out rfl (Imp.refl rfl) rfl)
 rw [if_neg (by simpa using hc)]
 have hlen:=hlen (by simpa using hc)
 (repeat first|refine uA ?_|(refine uK ?_ ?_;focus first|omega|(intros;simp_all<;>omega))|simp (disch:=omega) only [go_sem,Nat.reduceBEq,Nat.reduceAdd,ww,c6F])
 refine S.loop (X:=Nat) (fun i=>⟨[(1,rts q),(16,lks links),(17,ints links.length),(18,ints i)],[]⟩) (fun i=>i<=links.length/\G5 a5P (links.zip q)=G5 a5P ((links.zip q).drop i)) (fun i=>links.length-i) 0 ⟨c6K _,rfl⟩ (by (repeat first|refine uA ?_|(refine ⟨?_,?_⟩;focus first|rfl|simp [slot])|rfl|simp)) ?_
 rintro i ⟨hi,hg⟩
 simp only [rts,lks,ints]
 (repeat first|refine uA ?_|(refine uK ?_ ?_;focus first|omega|(intros;simp_all<;>omega))|simp (disch:=omega) only [go_sem,Nat.reduceBEq,Nat.reduceAdd,ww])
 (refine uJ rfl (fun hc=>?_) fun hc=>?_)
 ·have hi':i < links.length:=by omega
  have hgi:=c6E hi'
  have hgq:=c6E (show i < q.length by omega)
  generalize links[i]=x at hgi
  generalize q[i]'_=v at hgq
  have hz:=V6 hgi hgq
  have hst:=a1e (f:=a5P) hz
  have hnx:=a1h (f:=a5P) hz
  have bx:=hb x (c6H hgi)
  have bv:=(hqb v (c6H hgq)).mono (m:=17179869184) (by decide)
  have h1:=M6 v x.low bv (bx.2.1.mono (by decide))
  have h2:=M6 v x.high bv (bx.2.2.1.mono (by decide))
  unfold a5P at hst hnx
  simp only at hst hnx
  generalize Nm.q9 (Nm.d9 v) (Nm.d9 x.low)=n1 at *
  generalize Nm.q9 (Nm.d9 v) (Nm.d9 x.high)=n2 at *
  have hqi:(i:Int) < q.length:=by omega
  simp only [rc,sb,ints] at h1 h2
  (repeat first|refine uA ?_|(refine uK ?_ ?_;focus first|omega|(intros;simp_all<;>omega))|simp (disch:=omega) only [go_sem,Nat.reduceBEq,Nat.reduceAdd,ww,hgi,hgq,c6G,c6F,Lk.enc,rcs,vts,sb,c6I]|(refine uD h1 ?_ ?_ ?_;exact tz hw;exact rfl)|(refine uD h2 ?_ ?_ ?_;exact tz hw;exact rfl))
  refine S.cond rfl (fun hc2=>?_) (fun hc2=>?_)
  ·have hp:n1 < 0 \/ 0 < n2:=by simpa using hc2
   rw [if_pos hp] at hst
   rw [hg,show a5P=fun x:Lk × Nm.Rt=>if Nm.q9 (Nm.d9 x.2) (Nm.d9 x.1.low) < 0 \/ 0 < Nm.q9 (Nm.d9 x.2) (Nm.d9 x.1.high) then 17 else 0 from rfl,hst (by decide)]
   (repeat first|refine uA ?_|(refine uK ?_ ?_;focus first|omega|(intros;simp_all<;>omega))|simp (disch:=omega) only [go_sem,Nat.reduceBEq,Nat.reduceAdd,ww])
   exact S.done (j4.out rfl (Imp.refl rfl) rfl)
  ·have hp:¬ (n1 < 0 \/ 0 < n2):=by simpa using hc2
   rw [if_neg hp] at hnx
   (repeat first|refine uA ?_|(refine uK ?_ ?_;focus first|omega|(intros;simp_all<;>omega))|simp (disch:=omega) only [go_sem,Nat.reduceBEq,Nat.reduceAdd,ww])
   refine S.next (i+1) ⟨by omega,?_⟩ (by omega) (by (repeat first|refine uA ?_|(refine ⟨?_,?_⟩;focus first|rfl|simp [slot])|rfl|simp))
   rw [hg,show a5P=fun x:Lk × Nm.Rt=>if Nm.q9 (Nm.d9 x.2) (Nm.d9 x.1.low) < 0 \/ 0 < Nm.q9 (Nm.d9 x.2) (Nm.d9 x.1.high) then 17 else 0 from rfl,hnx rfl]
 ·rw [hg,a1O (by rw [List.length_zip];omega)]
  (repeat first|refine uA ?_|(refine uK ?_ ?_;focus first|omega|(intros;simp_all<;>omega))|simp (disch:=omega) only [go_sem,Nat.reduceBEq,Nat.reduceAdd,ww])
  exact S.done (j4.out rfl (Imp.refl rfl) rfl)
set_option maxRecDepth 100000
set_option maxHeartbeats 4000000
theorem a1C {a:Nm.Rt} (h:l6 a=true):Rb 3 a:=by
 unfold l6 at h
 simp only [c6Q,c6S] at h
 exact ⟨h.1.1.1.1,by have:=h.1.1.1.2;omega⟩
theorem R3 {a:Nm.Rt} (h:l6 a=true):Rb 1048576 a:=(a1C h).mono (by decide)
theorem b1C {α:Type} {f:α->Int}:∀ {l:List α},G5 f l=0->∀ x ∈ l,f x=0
 | [],_,x,hx=>by cases hx
 | y::l,h,x,hx=>by
  rw [G5] at h
  split at h
  ·rename_i h0
   rcases List.mem_cons.1 hx with rfl|hx
   ·exact h0
   ·exact b1C h x hx
  ·rename_i h0;exact absurd h h0
theorem b8s {l:List Vt} (h:U9 l 8=0):l.length<=8:=by
 unfold U9 at h
 split at h
 ·cases h
 ·omega
theorem a4j {l:Lk} (h:V3 l=0):Lb 1048576 l/\Nm.q9 (Nm.d9 l.low) (Nm.d9 l.high) < 0/\0 < z8 (Nm.d9 l.speed):=by
 unfold V3 at h
 split at h
 ·cases h
 rename_i h1
 split at h
 ·cases h
 rename_i h2
 split at h
 ·rename_i h3;exact absurd h h3
 rename_i h3
 split at h
 ·rename_i h4
  have h1a:(l6 l.length && l6 l.low && l6 l.high && l6 l.speed && l6 l.brake)=true:=by
   cases hb:(l6 l.length && l6 l.low && l6 l.high && l6 l.speed && l6 l.brake) with
   | true=>rfl
   | false=>exact absurd (.inl hb) h1
  simp only [c6Q] at h1a
  obtain ⟨⟨⟨⟨s1,s2⟩,s3⟩,s4⟩,s5⟩:=h1a
  have hpe:=b8s (Classical.not_not.1 h3)
  rw [List.all_eq_true] at h4
  refine ⟨⟨R3 s1,R3 s2,R3 s3,R3 s4,R3 s5,by omega,fun v hv=>?_⟩,?_,?_⟩
  ·have:=h4 v hv
   simp only [c6Q] at this
   exact ⟨R3 this.1,R3 this.2⟩
  ·have:¬ 0<=Nm.q9 (Nm.d9 l.low) (Nm.d9 l.high):=fun h=>h1 (.inr (.inr h))
   omega
  ·have:¬ z8 (Nm.d9 l.speed)<=0:=fun h=>h2 (.inl h)
   omega
 ·cases h
theorem Z7 {a:Am} (h:F4 a=0):Ab 1048576 a/\∀ l ∈ a.links,V3 l=0:=by
 unfold F4 at h
 split at h
 ·cases h
 rename_i h1
 split at h
 ·cases h
 split at h
 ·cases h
 rename_i h2 h3
 have hn:a.name.length<=12:=by
  have:a0H a.name=true:=by simpa using h1
  unfold a0H at this
  simp only [c6Q,c6S] at this
  exact this.2
 have h3a:(l6 a.base.x && l6 a.base.y && l6 a.base.t)=true:=by
  cases hb:(l6 a.base.x && l6 a.base.y && l6 a.base.t) with
  | true=>rfl
  | false=>exact absurd (.inr (.inl hb)) h3
 simp only [c6Q] at h3a
 have hl:=b1C h
 exact ⟨⟨by omega,⟨R3 h3a.1.1,R3 h3a.1.2,R3 h3a.2⟩,by omega,fun l hl'=>(a4j (hl l hl')).1⟩,hl⟩
theorem b5A {f:Fr} (h:okF f=true):Fb 1048576 f/\a2d f=true:=by
 unfold okF okV at h
 simp only [c6Q,c6S] at h
 obtain ⟨⟨⟨⟨⟨⟨g1,g2⟩,s1⟩,s2⟩,g3⟩,s3⟩,z⟩:=h
 refine ⟨⟨R3 s1,R3 s2,R3 s3⟩,?_⟩
 unfold a2d H8
 simp [g1,g2,g3,z]
theorem Fb.mono {k m:Nat} {f:Fr} (h:Fb k f) (hm:k<=m):Fb m f:=⟨h.1.mono hm,h.2.1.mono hm,h.2.2.mono hm⟩
theorem Vbs.mono {k m:Nat} {l:List Vt} (h:Vbs k l) (hm:k<=m):Vbs m l:=⟨c6L h.1 hm,fun v hv=>⟨(h.2 v hv).1.mono hm,(h.2 v hv).2.mono hm⟩⟩
theorem Ab.mono {k m:Nat} {a:Am} (h:Ab k a) (hm:k<=m):Ab m a:=⟨c6L h.1 hm,h.2.1.mono hm,c6L h.2.2.1 hm,fun l hl=>by
 obtain ⟨h1,h2,h3,h4,h5,h6⟩:=h.2.2.2 l hl
 exact ⟨h1.mono hm,h2.mono hm,h3.mono hm,h4.mono hm,h5.mono hm,h6.mono hm⟩⟩
theorem Wb.mono {k m:Nat} {w:Wk} (h:Wb k w) (hm:k<=m):Wb m w:=
  ⟨⟨c6L h.arms.1 hm,fun x hx=>(h.arms.2 x hx).mono hm⟩,⟨c6L h.walls.1 hm,fun x hx=>(h.walls.2 x hx).mono hm⟩,⟨c6L h.parts.1 hm,fun x hx=>⟨c6L (h.parts.2 x hx).1 hm,(h.parts.2 x hx).2.1.mono hm,(h.parts.2 x hx).2.2.mono hm⟩⟩,
   ⟨c6L h.slots.1 hm,fun x hx=>⟨c6L (h.slots.2 x hx).1 hm,(h.slots.2 x hx).2.1.mono hm,(h.slots.2 x hx).2.2.mono hm⟩⟩,⟨c6L h.gates.1 hm,fun x hx=>⟨c6L (h.gates.2 x hx).1 hm,⟨(h.gates.2 x hx).2.1.1.mono hm,(h.gates.2 x hx).2.1.2.mono hm⟩,(h.gates.2 x hx).2.2.1.mono hm,(h.gates.2 x hx).2.2.2.mono hm⟩⟩,h.walk.mono hm⟩
theorem Stb.mono {k m:Nat} {s:Stt} (h:Stb k s) (hm:k<=m):Stb m s:=
 ⟨⟨c6L h.arms.1 hm,fun x hx=>⟨⟨c6L (h.arms.2 x hx).1.1 hm,fun r hr=>((h.arms.2 x hx).1.2 r hr).mono hm⟩,c6L (h.arms.2 x hx).2.1 hm,fun r hr=>((h.arms.2 x hx).2.2 r hr).mono hm⟩⟩,⟨c6L h.parts.1 hm,fun x hx=>(h.parts.2 x hx).mono hm⟩,h.people.mono hm,c6L h.gates hm⟩
theorem a8i {α β:Type} {f:α->β}:∀ {l:List α} {x:α × β},x ∈ l.zip (l.map f)->x.1 ∈ l/\x.2=f x.1
 | [],x,h=>by simp at h
 | a::l,x,h=>by
  simp only [c6V,List.zip_cons_cons] at h
  rcases List.mem_cons.1 h with rfl|h
  ·exact ⟨List.mem_cons_self ..,rfl⟩
  ·exact ⟨List.mem_cons_of_mem _ (a8i h).1,(a8i h).2⟩
theorem a1J (p q:Rat):Nm.q9 p q < 0 <-> p < q:=by
 unfold Nm.q9
 split
 ·simp_all
 ·split
  ·simp_all
  ·simp_all
theorem a1d (p q:Rat):0 < Nm.q9 p q <-> q < p:=by
 unfold Nm.q9
 split
 ·rename_i h;simp;grind
 ·split
  ·rename_i h1 h2;simp;grind
  ·rename_i h1 h2;simp;grind
theorem b8B {l:Lk} (h:V3 l=0):a5P (l,a0P l)=0:=by
 have hc:=(a1J _ _).1 (a4j h).2.1
 unfold a5P a0P
 simp only [Nm.q8]
 rw [if_neg]
 rw [a1J,a1d]
 unfold G8 G9
 have e1:∀ p q:Rat,(Nm.q9 p q >= 0) <-> ¬ p < q:=fun p q=>by rw [<- a1J];omega
 have e2:∀ p q:Rat,(Nm.q9 p q<=0) <-> ¬ q < p:=fun p q=>by rw [<- a1d];omega
 simp only [e1,e2]
 repeat' split
 all_goals grind
theorem b4m {l:Lk} (h:V3 l=0):a2a (l,Nm.ofQ 0)=0:=by
 have hs:=(a4j h).2.2
 unfold a2a
 simp only [Nm.q8]
 rw [if_neg]
 have h0:r9 0=0:=rfl
 rw [h0,a1d]
 have hn:0 < (Nm.d9 l.speed).num:=by
  unfold z8 at hs
  split at hs
  ·omega
  ·split at hs<;>omega
 intro hlt
 have:=(Rat.lt_iff _ _).1 hlt
 simp at this
 omega
theorem b8f {a:Am} (h:F4 a=0) (n:Nat):a5I a (X4 a) n=0:=by
 have hl:=(Z7 h).2
 unfold a5I X4
 simp only
 have g1:(a.links.map a0P).all H8=true:=by
  rw [List.all_eq_true]
  intro x hx
  obtain ⟨l,_,rfl⟩:=List.mem_map.1 hx
  exact decide_eq_true (Nm.a3m _)
 have g2:(a.links.map fun _=>Nm.ofQ 0).all H8=true:=by
  rw [List.all_eq_true]
  intro x hx
  obtain ⟨l,_,rfl⟩:=List.mem_map.1 hx
  exact decide_eq_true (Nm.a3m _)
 have hf:a4e a (a.links.map a0P)=0:=by
  rw [b4a]
  have:P8 a (a.links.map a0P).length=0:=by
   unfold P8
   rw [h,if_neg (by decide),c6F,if_neg (by simp)]
  rw [this,if_neg (by decide)]
  refine a6A fun x hx=>?_
  obtain ⟨h1,h2⟩:=a8i hx
  obtain ⟨x1,x2⟩:=x
  simp only at h1 h2
  rw [h2]
  exact b8B (hl x1 h1)
 rw [g1,g2,if_neg (by decide),hf,if_neg (by decide),if_neg (by simp;omega)]
 refine a6A fun x hx=>?_
 obtain ⟨h1,h2⟩:=a8i hx
 obtain ⟨x1,x2⟩:=x
 simp only at h1 h2
 rw [h2]
 exact b4m (hl x1 h1)
theorem a8N (n:Nat):∀ (l:List Am) (h:List Int),(∀ a ∈ l,F4 a=0)->(F3 (a2R n) h (l.zip (l.map X4))).1=0
 | [],_,_=>rfl
 | a::l,h,ha=>by
  have e:a2R n h (a,X4 a)=(0,a7T h (-1)):=by
   unfold a2R
   simp only
   rw [b8f (ha a (by simp)) n,if_neg (by decide),if_neg (by simp [X4])]
   rfl
  simp only [c6V,List.zip_cons_cons,F3,e]
  exact a8N n l _ fun x hx=>ha x (by simp [hx])
theorem c0x {w:Wk} (h:a0a w=0) (ha:∀ a ∈ w.arms,F4 a=0) (hs:∀ s ∈ w.slots,okF s.frame=true):a2U w (O7 w)=0:=by
 unfold a2U
 have l1:(O7 w).arms.length=w.arms.length:=by simp [O7]
 have l2:(O7 w).parts.length=w.parts.length:=by simp [O7]
 have l3:(O7 w).gates.length=w.gates.length:=by simp [O7]
 have l4:(O7 w).people=[]:=rfl
 have l5:(O7 w).tick=0:=rfl
 have hh:(F3 (a2R w.parts.length) [] (w.arms.zip (O7 w).arms)).1=0:=a8N _ w.arms [] ha
 have hp:(O7 w).parts.all a2d=true:=by
  rw [List.all_eq_true]
  intro f hf
  obtain ⟨i,_,rfl⟩:=List.mem_map.1 hf
  unfold a7f
  split
  ·exact (b5A (hs _ (c6U _))).2
  ·unfold a5m a2d H8 a3B
   simp [Nm.a3m]
 rw [h,if_neg (by decide),l4,if_neg (by decide),l1,l2,l3,l5,if_neg (by simp),hh,if_neg (by decide),hp]
 rfl
theorem a4y:Rb 1048576 (Nm.ofQ 0):=⟨c6L (Nm.I8 (k:=8) (by decide)) (by decide),c6L (Nm.I8 (k:=8) (by decide)) (by decide)⟩
theorem c0I {k:Nat} (hk:1048576<=k) {w:Wk} (hw:Wb k w) (ha:∀ a ∈ w.arms,F4 a=0) (hs:∀ s ∈ w.slots,okF s.frame=true):Stb k (O7 w):=by
 refine ⟨⟨?_,fun x hx=>?_⟩,⟨?_,fun x hx=>?_⟩,⟨c6K _,fun v hv=>by cases hv⟩,?_⟩
 ·show (w.arms.map X4).length<=_
  rw [c6F];exact hw.arms.1
 ·obtain ⟨a,haa,rfl⟩:=List.mem_map.1 hx
  have hab:=hw.arms.2 a haa
  refine ⟨⟨?_,fun r hr=>?_⟩,?_,fun r hr=>?_⟩
  ·show (a.links.map a0P).length<=_
   rw [c6F];exact hab.2.2.1
  ·obtain ⟨l,hl,rfl⟩:=List.mem_map.1 hr
   have hlb:=hab.2.2.2 l hl
   unfold a0P G8 G9
   repeat' split
   all_goals first|exact hlb.2.1.fit (by omega)|exact hlb.2.2.1.fit (by omega)|exact a4y.mono hk
  ·show (a.links.map fun _=>Nm.ofQ 0).length<=_
   rw [c6F];exact hab.2.2.1
  ·obtain ⟨l,hl,rfl⟩:=List.mem_map.1 hr
   exact a4y.mono hk
 ·show ((List.range _).map _).length<=_
  simp;exact hw.parts.1
 ·obtain ⟨i,_,rfl⟩:=List.mem_map.1 hx
  unfold a7f
  split
  ·exact (b5A (hs _ (c6U _))).1.mono hk
  ·exact ⟨a4y.mono hk,a4y.mono hk,a4y.mono hk⟩
 ·show (List.replicate _ _).length<=_
  rw [List.length_replicate];exact hw.gates.1
theorem b7V {w:Wk} (hw:Wb 1073741824 w) (ha:∀ a ∈ w.arms,F4 a=0) (hs:∀ s ∈ w.slots,okF s.frame=true):Stb 1073741824 (O7 w):=c0I (by decide) hw ha hs
def a1k (a b:Nm.Rt):Nm.Rt:=Nm.ofQ (Nm.d9 a+Nm.d9 b)
def a2Q (b v:Nm.Rt):Nm.Rt:=if Nm.q9 (r9 (Nm.d9 v)) (Nm.d9 b)<=0 then Nm.ofQ 0 else if z8 (Nm.d9 v) < 0 then a1k v b else Nm.ofQ (Nm.d9 v-Nm.d9 b)
def c4S (a:Am) (x:Ast):List Nm.Rt:=(a.links.zip x.v).map fun p=>a2Q p.1.brake p.2
def c6s (a:Am) (x:Ast):List Nm.Rt:=(x.q.zip (c4S a x)).map fun p=>a1k p.1 p.2
def c5Q (a:Am) (x:Ast):Ast:=⟨c6s a x,c4S a x,false,x.holds⟩
def mvQ (x:Ast) (u:List Nm.Rt):List Nm.Rt:=(x.q.zip u).map fun p=>a1k p.1 p.2
def mvA (x:Ast) (u:List Nm.Rt):Ast:=⟨mvQ x u,u,true,x.holds⟩
def c6o (x:Lk × Nm.Rt × Nm.Rt):Bool:=!(decide (0 < Nm.q9 (r9 (Nm.d9 x.2.2)) (Nm.d9 x.1.speed)) || decide (0 < Nm.q9 (Nm.d9 x.1.low) (Nm.d9 x.2.1+Nm.d9 x.2.2)) || decide (0 < Nm.q9 (Nm.d9 x.2.1+Nm.d9 x.2.2) (Nm.d9 x.1.high)))
def c6l (a:Am) (q u:List Nm.Rt):Bool:=decide (u.length=a.links.length) && (u.all H8 && (a.links.zip (q.zip u)).all c6o)
def c6m (a:Am) (x:Ast) (u:List Nm.Rt) (p:Bool):Ast:=if p && c6l a x.q u then mvA x u else c5Q a x
def b6M (a b:Fr):Fr:=⟨Nm.ofQ (c4k a ⟨b.x,b.y⟩),Nm.ofQ (c4o a ⟨b.x,b.y⟩),(c1B a.half (J7 a.half a.t) b.half (J7 b.half b.t)).1,Nm.ofQ (c1B a.half (J7 a.half a.t) b.half (J7 b.half b.t)).2⟩
def c4q (q:Nm.Rt):Fr:=⟨Nm.ofQ 0,Nm.ofQ 0,false,Nm.ofQ (Nm.d9 q)⟩
def c5M (l:Lk):Fr:=⟨l.length,Nm.ofQ 0,false,Nm.ofQ 0⟩
def c4j:Fr->List (Lk × Nm.Rt)->Fr
 | e,[]=>e
 | e,(l,q)::r=>c4j (b6M (b6M e (c4q q)) (c5M l)) r
def c5y (f:Fr):Fr:=⟨Nm.ofQ (Nm.d9 (Nm.ofQ (0-Nm.d9 f.x))*a2u f.half (J7 f.half (Nm.ofQ (- J7 f.half f.t)))-Nm.d9 (Nm.ofQ (0-Nm.d9 f.y))*Z4 (J7 f.half (Nm.ofQ (- J7 f.half f.t)))),Nm.ofQ (Nm.d9 (Nm.ofQ (0-Nm.d9 f.x))*Z4 (J7 f.half (Nm.ofQ (- J7 f.half f.t)))+Nm.d9 (Nm.ofQ (0-Nm.d9 f.y))*a2u f.half (J7 f.half (Nm.ofQ (- J7 f.half f.t)))),f.half,Nm.ofQ (- J7 f.half f.t)⟩
def c5O (a:Am) (q:List Nm.Rt) (g:Fr):Fr:=b6M (c4j a.base (a.links.zip q)) (c5y g)
def c4I (w:Wk) (s:Stt) (u:List (List Nm.Rt)) (p:List Bool):List Ast:=((w.arms.zip s.arms).zip (u.zip p)).map fun z=>c6m z.1.1 z.1.2 z.2.1 z.2.2
def c6a (w:Wk) (P:List Fr) (z:Am × Ast):List Fr:=
 if z.2.holds < 0 then P else match w.parts[z.2.holds.toNat]? with
  | some pt=>P.set z.2.holds.toNat (c5O z.1 z.2.q pt.grasp)
  | none=>P
def c5u (k:Nm.Rt) (v:Vt):Bool:=a6o v && !decide (0 < Nm.q9 (G8 (r9 (Nm.d9 v.x)) (r9 (Nm.d9 v.y))) (Nm.d9 k))
def c6u (p:Vt × Vt):Vt:=⟨a1k p.1.x p.2.x,a1k p.1.y p.2.y⟩
def c5B (w:Wk) (s:Stt) (u:List (List Nm.Rt)) (p:List Bool) (v:List Vt):Int:=
 if a2U w s ≠ 0 then a2U w s else
 if u.length ≠ w.arms.length \/ p.length ≠ w.arms.length \/ v.length ≠ s.people.length then 1 else
 if v.all (c5u w.walk)=false then 1 else
 if s.tick=2000 then 7 else 0
def c5s (w:Wk) (s:Stt) (u:List (List Nm.Rt)) (p:List Bool) (v:List Vt):Stt:=
 ⟨s.tick+1,c4I w s u p,(w.arms.zip (c4I w s u p)).foldl (c6a w) s.parts,(s.people.zip v).map c6u,s.gates⟩
theorem a8h {w:Wk} (h:a0a w=0):∀ a ∈ w.arms,F4 a=0:=by
 have h1:G5 id (a6l w)=0:=by
  unfold a0a at h
  split at h
  ·cases h
  ·split at h
   ·cases h
   ·split at h
    ·rename_i h2;exact absurd h h2
    ·exact Classical.not_not.1 (by assumption)
 have h2:(F3 a0y [] w.arms).1=0:=by
  unfold a6l at h1
  simp only [G5,id] at h1
  split at h1
  ·assumption
  ·exact h1
 have key:∀ (l:List Am) (n:Nms),(F3 a0y n l).1=0->∀ a ∈ l,F4 a=0:=by
  intro l
  induction l with
  | nil=>intro n _ a ha;cases ha
  | cons x l ih=>
   intro n hn a ha
   have hx:(a0y n x).1=0:=by
    unfold F3 at hn
    split at hn
    ·assumption
    ·exact hn
   unfold F3 at hn
   rw [if_pos hx] at hn
   rcases List.mem_cons.1 ha with rfl|ha
   ·unfold a0y at hx
    split at hx
    ·exact hx
    ·exact Classical.not_not.1 (by assumption)
   ·exact ih _ hn a ha
 exact key _ _ h2
structure c6D (w:Wk) (s:Stt):Prop where
 works:a0a w=0
 people:s.people.length<=4
 tick:0<=s.tick/\s.tick<=2000
 arms:s.arms.length=w.arms.length
 parts:s.parts.length=w.parts.length
 gates:s.gates.length=w.gates.length
 one:∀ z ∈ w.arms.zip s.arms,a5I z.1 z.2 w.parts.length=0
 big:1<=w.arms.length/\w.arms.length<=4/\w.parts.length<=6/\w.gates.length<=4
structure c6z (a:Am) (x:Ast) (n:Nat):Prop where
 arm:F4 a=0
 q:x.q.length=a.links.length
 v:x.v.length=a.links.length
 holds:-1<=x.holds/\x.holds < n
theorem U1 {a:Am} (h:F4 a=0):1<=a.links.length/\a.links.length<=3:=by
 unfold F4 at h
 split at h
 ·cases h
 split at h
 ·cases h
 split at h
 ·cases h
 ·omega
theorem c5a {a:Am} {n:Int} (h:F4 a=0) (hn:n=a.links.length):P8 a n=0:=by
 unfold P8
 rw [if_neg (by simp [h]),if_neg (by simp [hn])]
theorem a9G {l:Lk} (h:V3 l=0):0 < z8 (Nm.d9 l.brake):=by
 unfold V3 at h
 split at h
 ·cases h
 split at h
 ·cases h
 ·omega
theorem a5v (q:Rat):(z8 q=-1/\q < 0) \/ (z8 q=0/\q=0) \/ (z8 q=1/\0 < q):=by
 have h1:=@Rat.num_nonneg q
 have h2:=@Rat.num_eq_zero q
 unfold z8
 by_cases h0:q.num=0
 ·right;left;exact ⟨if_pos h0,h2.1 h0⟩
 rw [if_neg h0]
 by_cases hn:q.num < 0
 ·left
  refine ⟨if_pos hn,?_⟩
  rw [<- Rat.not_le,<- h1];omega
 ·right;right
  refine ⟨if_neg hn,?_⟩
  have h5:0<=q:=h1.1 (by omega)
  have h6:q ≠ 0:=fun e=>h0 (h2.2 e)
  grind
theorem c3k {α:Type} {l m:List α} {i:Nat} {y:α} (hl:l.length=m.length) (hy:l[i]?=some y):(l.take i++m.drop i).set i y=l.take (i+1)++m.drop (i+1):=by
 obtain ⟨hi,rfl⟩:=c6J.1 hy
 have h1:(l.take i).length=i:=by rw [c6O];omega
 rw [List.set_append_right _ _ (by omega),h1,Nat.sub_self,List.drop_eq_getElem_cons (show i < m.length by omega),List.set_cons_zero,c7w hi,c7u]
 rfl
theorem c2j {α:Type} {l m:List α} {i:Nat} (hl:l.length=m.length) (hi:i<=m.length):(l.take i++m.drop i).length=m.length:=by
 simp only [c6M,c6O,c7s];omega
set_option maxRecDepth 10000
set_option maxHeartbeats 8000000
theorem b8w (v:Vt) (hv:Vb 17179869184 v):FZ 221 [v.c] (.v (.bool (!okV v))):=by
 refine kW Tryz.func221 (by cbv) (by rfl) fun w O hw=>?_
 obtain ⟨x,y⟩:=v
 obtain ⟨b1,b2⟩:=hv
 simp only at b1 b2
 have h1:=a0q x (b1.mono (by decide))
 have h2:=a0q y (b2.mono (by decide))
 have h3:=a2W x b1
 have h4:=a2W y b2
 unfold okV
 simp only
 generalize decide x.F5=q1 at *
 generalize decide y.F5=q2 at *
 generalize l6 x=q3 at *
 generalize l6 y=q4 at *
 simp only [j6]
 simp only [Vt.c,Vt.enc,rc,sb] at *
 (repeat first|refine uA ?_|(refine uK ?_ ?_;focus first|omega|(intros;simp_all<;>omega))|simp (disch:=omega) only [go_sem,Nat.reduceBEq,Nat.reduceAdd,ww]|(refine uD h1 ?_ ?_ ?_;exact tz hw;exact rfl)|(refine uD h2 ?_ ?_ ?_;exact tz hw;exact rfl)|(refine uD h3 ?_ ?_ ?_;exact tz hw;exact rfl)|(refine uD h4 ?_ ?_ ?_;exact tz hw;exact rfl))
 have e:(!(q1 && q2 && q3 && q4))=(!q1 || !q2 || !q3 || !q4):=by cases q1<;>cases q2<;>cases q3<;>cases q4<;>rfl
 (try rw [e])
 exact S.done (j4.out rfl (Imp.refl rfl) rfl)
theorem a8X (l:List Vt) (hl:Vbs 17179869184 l):FZ 195 [vts l] (.v (.bool (l.all okV))):=by
 refine kW Tryz.func195 (by cbv) (by rfl) fun w O hw=>?_
 have h:=b3z 221 (by kernel_rfl) (fun v=>!okV v) l (by have:=hl.1;omega) (fun v hv=>b8w v (hl.2 v hv))
 have e:l.all okV=!l.any fun v=>!okV v:=by rw [List.not_any_eq_all_not];simp
 rw [e]
 generalize (l.any fun v=>!okV v)=q at *
 simp only [j6]
 simp only [vts] at *
 (repeat first|refine uA ?_|(refine uK ?_ ?_;focus first|omega|(intros;simp_all<;>omega))|simp (disch:=omega) only [go_sem,Nat.reduceBEq,Nat.reduceAdd,ww]|(refine uD h ?_ ?_ ?_;exact tz hw;exact rfl))
 exact S.done (j4.out rfl (Imp.refl rfl) rfl)
theorem Vbs.one {k:Nat} {v:Vt} (h:1<=k) (h1:Vb k v):Vbs k [v]:=⟨h,fun x hx=>by simp at hx;subst hx;exact h1⟩
theorem Vbs.two {k:Nat} {v u:Vt} (h:2<=k) (h1:Vb k v) (h2:Vb k u):Vbs k [v,u]:=⟨h,fun x hx=>by simp at hx;rcases hx with rfl|rfl<;>assumption⟩
theorem b2A (f:Fr) (hf:Fb 17179869184 f):FZ 196 [f.c] (.v (.bool (okF f))):=by
 refine kW Tryz.func196 (by cbv) (by rfl) fun w O hw=>?_
 obtain ⟨x,y,half,t⟩:=f
 obtain ⟨b1,b2,b3⟩:=hf
 simp only at b1 b2 b3
 have h1:=a8X [⟨x,y⟩] (Vbs.one (by decide) ⟨b1,b2⟩)
 rw [List.all_cons,List.all_nil,Bool.and_true] at h1
 have h2:=a0q t (b3.mono (by decide))
 have h3:=a2W t b3
 have h4:=O9 t b3
 unfold okF a3B
 simp only
 generalize okV ⟨x,y⟩=q1 at *
 generalize decide t.F5=q2 at *
 generalize l6 t=q3 at *
 generalize z8 (Nm.d9 t)=n at *
 simp only [j6]
 simp only [Fr.c,Fr.enc,vts,Vt.enc,rc,sb,ints,c6V,c6Z] at *
 (repeat first|refine uA ?_|(refine uK ?_ ?_;focus first|omega|(intros;simp_all<;>omega))|simp (disch:=omega) only [go_sem,Nat.reduceBEq,Nat.reduceAdd,ww]|(refine uD h2 ?_ ?_ ?_;exact tz hw;exact rfl)|(refine uD h3 ?_ ?_ ?_;exact tz hw;exact rfl)|(refine uD h4 ?_ ?_ ?_;exact tz hw;exact rfl)|(refine uE h1 ?_ ?_ ?_ ?_;exact tz hw;exact rfl;focus (repeat' first|exact j5.nil|exact Imp.refl rfl|exact Imp.frz rfl rfl rfl|(refine Imp.M8 rfl rfl ?_ ?_;(focus ((try simp only [c6M]);omega));(focus first|rfl|assumption))|refine j5.cons ?_ ?_);done))
 have e:(q1 && q2 && q3 && !(half && !decide (n=0)))=(q1 && q2 && q3 && (!half || decide (n=0))):=by cases q1<;>cases q2<;>cases q3<;>cases half<;>simp
 rw [e]
 exact S.done (j4.out rfl (Imp.refl (by rfl)) rfl)
theorem b2v (l:List Vt) (hl:Vbs 1073741824 l):FZ 149 [vts l] (ints (N9 l)):=by
 refine kW Tryz.func149 (by cbv) (by rfl) fun w O hw=>?_
 have h1:=a5N l hl
 have h2:=a8X l ⟨by have:=hl.1;omega,fun v hv=>(hl.2 v hv).mono (by decide)⟩
 unfold N9
 generalize U9 l 8=e at *
 generalize l.all okV=q at *
 simp only [j6]
 simp only [vts,ints] at *
 (repeat first|refine uA ?_|(refine uK ?_ ?_;focus first|omega|(intros;simp_all<;>omega))|simp (disch:=omega) only [go_sem,Nat.reduceBEq,Nat.reduceAdd,ww]|(refine uD h1 ?_ ?_ ?_;exact tz hw;exact rfl))
 refine S.cond rfl (fun hc=>?_) (fun hc=>?_)
 ·rw [if_pos (by simpa using hc)]
  (repeat first|refine uA ?_|(refine uK ?_ ?_;focus first|omega|(intros;simp_all<;>omega))|simp (disch:=omega) only [go_sem,Nat.reduceBEq,Nat.reduceAdd,ww])
  exact S.done (j4.out rfl (Imp.refl rfl) rfl)
 rw [if_neg (by simpa using hc)]
 (repeat first|refine uA ?_|(refine uK ?_ ?_;focus first|omega|(intros;simp_all<;>omega))|simp (disch:=omega) only [go_sem,Nat.reduceBEq,Nat.reduceAdd,ww]|(refine uD h2 ?_ ?_ ?_;exact tz hw;exact rfl))
 refine S.cond rfl (fun hc=>?_) (fun hc=>?_)
 ·rw [if_neg (by simpa using hc)]
  (repeat first|refine uA ?_|(refine uK ?_ ?_;focus first|omega|(intros;simp_all<;>omega))|simp (disch:=omega) only [go_sem,Nat.reduceBEq,Nat.reduceAdd,ww])
  exact S.done (j4.out rfl (Imp.refl rfl) rfl)
 ·rw [if_pos (by simpa using hc)]
  (repeat first|refine uA ?_|(refine uK ?_ ?_;focus first|omega|(intros;simp_all<;>omega))|simp (disch:=omega) only [go_sem,Nat.reduceBEq,Nat.reduceAdd,ww])
  exact S.done (j4.out rfl (Imp.refl rfl) rfl)
end Go.Proofs.YtpffebkbmcbmgaaGreatDoor
namespace Go.Proofs.YtpffebkbmcbmgaaGreatDoor.Eng
open Go Go.RowKit
theorem l8.ofT {E:Ctx} {eff:Nat->Bool} {f:Nat} {fn:Func} {ir:M4} (ht:Tz E) (hf:E.P.funcs[f]?=some fn) (hc:I9 eff E.P fn=some ir) {rs:List Res} {args:List C} {s:C} {rs':List Res} {pk:List Nat} (hn:args.length<=ir.ntmps)
  (h:∀ w own av ν,ν.length=rs.length->Tz ⟨E.P,eff,ir.ntmps,w,own,av,ν,pk⟩->S ⟨E.P,eff,ir.ntmps,w,own,av,ν,pk⟩ (Fin E.P ir.results (b5V ⟨E.P,eff,ir.ntmps,w,own,av,ν,pk⟩ rs' s)) ⟨j6 0 args,rs⟩ [.code ir.body]):l8 E rs f args s rs' pk:=by
 intro av ν w vs hR hav hF hD
 have hR':RG av (owned rs ν) w.heap.size ν rs w:=⟨hR.len,hR.res,hR.dis,fun b hb=>⟨(hR.low b hb).1,(hR.low b hb).2.1,.inl hb⟩,hR.av,c6N _⟩
 have ht':Tz ⟨E.P,eff,ir.ntmps,w,owned rs ν,av,ν,pk⟩:=⟨ht.at hF,fun ho=>by
  rcases (hR.low _ ho).2.2 with h1|h1
  ·exact ht.2 h1
  ·have:=c2a ht.1;omega⟩
 refine (b2V (E:=⟨E.P,eff,ir.ntmps,w,owned rs ν,av,ν,pk⟩) hf hc rfl rfl hR.av rs hR' args hD hn (h w (owned rs ν) av ν hR.len ht')).mono ?_
 rintro e w' ⟨y,rfl,ν',h1,h2,h3,h4⟩
 refine ⟨y,ν',rfl,⟨h1.len,h1.res,h1.dis,fun b hb=>?_,h1.av,c6L hR.n0 h2.size⟩,⟨h2.os,h2.tape,h2.output,h2.size,h2.block,fun b hb=>(h1.low b hb).2.2,h3⟩,h4⟩
 obtain ⟨g1,g2,g3⟩:=h1.low b hb
 refine ⟨g1,g2,?_⟩
 rcases g3 with g3|g3
 ·exact (hR.low b g3).2.2
 ·exact .inr (c6L hR.n0 g3)
def Res.shut:Res->Bool
 | .gone=>false
 | .box _ cs=>C.clL cs
 | .row _ _ _=>true
 | .map _ _=>true
theorem a5V {ν ν':List Value} {w:World} {O O':Nat->Prop} {x:Value} {r:Res} (hs:r.shut=true) (hO:∀ b,O' b->O b) (h:N8 ν w O x r):N8 ν' w O' x r:=by
 cases r with
 | gone=>cases hs
 | box t cs=>
  obtain ⟨b,vs,h1,h2,h3,h4⟩:=h
  exact ⟨b,vs,h1,(FzL.keep (Keeps.sub hO) (h2.fz hs)).den ν',h3,h4⟩
 | row e sz es=>exact a5R hO h
 | map s es=>exact h
theorem c3d {r r':Res} (hs:r.shut=true) (hs':r'.shut=true) {x:Value} {b:Nat} (h:fp r' x b):fp r x b:=by
 cases r<;>cases r'<;>first|exact False.elim h|exact h|(simp [Res.shut] at hs;done)|(simp [Res.shut] at hs';done)
def at0 (k:Nat):C->C
 | .mp 0=>.mp k
 | .bp 0 o=>.bp k o
 | .rv 0=>.rv k
 | .bnd f (.mp 0)=>.bnd f (.mp k)
 | c=>c
def okA:C->Bool
 | .mp 0=>true
 | .bp 0 _=>true
 | .rv 0=>true
 | .bnd _ (.mp 0)=>true
 | c=>c.cl
theorem c3s {ν:List Value} {w:World} {O O':Nat->Prop} {k:Nat} {x:Value} (hk:ν[k]?=some x) (hO:∀ b,O' b->O b) {c:C} {y:Value} (hc:okA c=true) (h:Den ν w O (at0 k c) y):Den [x] w O' c y:=by
 unfold okA at hc
 split at hc
 ·simp only [at0,Den] at h ⊢
  rw [hk] at h
  exact h
 ·simp only [at0,Den] at h ⊢
  rw [hk] at h
  exact h
 ·simp only [at0,Den] at h ⊢
  rw [hk] at h
  exact h
 ·simp only [at0,Den] at h ⊢
  rw [hk] at h
  exact h
 ·rename_i c0 h1 h2 h3 h4
  have e:at0 k c=c:=by
   cases c with
   | mp j=>cases j with
    | zero=>exact (h1 rfl).elim
    | succ j=>rfl
   | bp j o=>cases j with
    | zero=>exact (h2 _ rfl).elim
    | succ j=>rfl
   | rv j=>cases j with
    | zero=>exact (h3 rfl).elim
    | succ j=>rfl
   | bnd g d=>cases d with
    | mp j=>cases j with
     | zero=>exact (h4 _ rfl).elim
     | succ j=>rfl
    | _=>rfl
   | _=>rfl
  rw [e] at h
  exact (Fz.keep (Keeps.sub hO) (h.fz hc)).den _
theorem b3j {ν:List Value} {w:World} {O O':Nat->Prop} {k:Nat} {x:Value} (hk:ν[k]?=some x) (hO:∀ b,O' b->O b):∀ {cs:List C} {vs:List Value},cs.all okA=true->l7 ν w O (cs.map (at0 k)) vs->l7 [x] w O' cs vs
 | [],vs,_,h=>by simpa only [c6Z,l7] using h
 | c::cs,vs,hc,h=>by
  simp only [c6V,l7,List.all_cons,c6Q] at h hc ⊢
  obtain ⟨y,ys,e,h1,h2⟩:=h
  exact ⟨y,ys,e,c3s hk hO hc.1 h1,b3j hk hO hc.2 h2⟩
theorem l8.lift {E:Ctx} {rs:List Res} {k f:Nat} {args:List C} {s:C} {r r':Res} (hk:rs[k]?=some r) (h:l8 E [r] f args s [r'] []) (hs:(r.shut && r'.shut)=true) (ha:args.all okA=true) (hc:s.cl=true):l8 E rs f (args.map (at0 k)) s (rs.set k r') []:=by
 rw [c6Q] at hs
 intro av ν w vs hR hav hF hD
 obtain ⟨x,hx,hok⟩:=hR.res k r hk
 have hown:∀ b,fp r x b->owned rs ν b:=fun b hb=>⟨k,r,x,hk,hx,hb⟩
 have ho1:∀ (q:Res) b,owned [q] [x] b <-> fp q x b:=fun q b=>by
  constructor
  ·rintro ⟨l,q',y,h1,h2,h3⟩
   cases l with
   | zero=>simp at h1 h2;subst h1 h2;exact h3
   | succ l=>simp at h1
  ·exact fun hb=>⟨0,q,x,rfl,rfl,hb⟩
 let av':Nat->Prop:=fun b=>OO av rs ν b/\¬ fp r x b
 have hOO:∀ b,OO av' [r] [x] b->OO av rs ν b:=fun b hb=>by
  rcases hb with hb|hb
  ·exact hb.1
  ·exact .inr (hown b ((ho1 r b).1 hb))
 have hRG:RG av' E.own0 E.w0.heap.size [x] [r] w:=by
  refine ⟨rfl,fun l q hq=>?_,fun l m q q' y y' b hne h1 h2=>?_,fun b hb=>?_,fun b hb=>?_,hR.n0⟩
  ·cases l with
   | zero=>simp at hq;subst hq;exact ⟨x,rfl,a5V hs.1 hOO hok⟩
   | succ l=>simp at hq
  ·have e1:l=0:=by have:=(c6J.1 h1).1;simp at this;exact this
   have e2:m=0:=by have:=(c6J.1 h2).1;simp at this;exact this
   omega
  ·have hb':=(ho1 r b).1 hb
   obtain ⟨g1,g2,g3⟩:=hR.low b (hown b hb')
   exact ⟨g1,fun h=>h.2 hb',g3⟩
  ·rcases hb.1 with h1|h1
   ·exact hR.av b h1
   ·exact (hR.low b h1).1
 have hav':∀ b,E.av b->av' b:=fun b hb=>⟨.inl (hav b hb),fun hf=>(hR.low b (hown b hf)).2.1 (hav b hb)⟩
 have hD':l7 [x] w (OO av' [r] [x]) args vs:=b3j hx hOO ha hD
 refine (h av' [x] w vs hRG hav' hF hD').mono ?_
 rintro e w' ⟨y,ν',rfl,h1,h2,h3⟩
 have hν:ν'=[x]:=by
  have hl:=h1.len
  have h0:=h2.nu 0 x (fun hm=>by cases hm) rfl
  match ν',hl,h0 with
  | [z],_,h0=>simp at h0;rw [h0]
 subst hν
 have hT:Turned w w' (fp r x):=⟨h2.os,h2.tape,h2.output,h2.size,fun b hb hn=>h2.block b hb fun ho=>hn ((ho1 r b).1 ho)⟩
 have hOO':∀ b,OO av (rs.set k r') ν b->OO av' [r'] [x] b:=fun b hb=>by
  rcases hb with hb|⟨l,q,z,hq,hz,hf⟩
  ·exact .inl ⟨.inl hb,fun hf=>(hR.low b (hown b hf)).2.1 hb⟩
  ·by_cases e:k=l
   ·subst e
    have hkl:=(c6J.1 hk).1
    rw [List.getElem?_set_self hkl] at hq
    rw [hx] at hz
    cases hq
    cases hz
    exact .inr ((ho1 r' b).2 hf)
   ·rw [List.getElem?_set_ne e] at hq
    exact .inl ⟨.inr ⟨l,q,z,hq,hz,hf⟩,fun hf'=>hR.dis k l r q x z b e hk hq hx hz hf' hf⟩
 have hup:=hR.upd (r':=r') hk hx hT (fun b hb=>c3d hs.1 hs.2 hb) (fun _=>by
  obtain ⟨x',hx',hok'⟩:=h1.res 0 r' rfl
  simp at hx'
  subst hx'
  exact a5V hs.2 hOO' hok')
 exact ⟨y,ν,rfl,hup.1,hup.2,(Fz.keep (Keeps.sub hOO') (h3.fz hc)).den ν⟩
end Go.Proofs.YtpffebkbmcbmgaaGreatDoor.Eng
namespace Go.Proofs.YtpffebkbmcbmgaaGreatDoor
open Go Go.RowKit Eng
set_option maxRecDepth 10000
set_option maxHeartbeats 8000000
theorem c5L (n:Nms) (s:List UInt8):(a1p (.string (bs s)) (nmE n)).getD (.bool false)=.bool (n.contains s):=by
 rw [c3H];cases n.contains s<;>rfl
theorem b2k {E:Ctx} (hP:E.P=Tryz.prog) (n:Nms) (s:List UInt8) (hs:s.length<=1099511627776) :
  l8 E [.map true (nmE n)] 146 [.mp 0,sb s] (ints (L6 n s).1) [.map true (nmE (L6 n s).2)] []:=by
 obtain ⟨P,eff',N,w0,own0,av0,nu0,pk0⟩:=E
 simp only at hP
 subst hP
 refine l8.of (eff:=eff) Tryz.func146 (by cbv) (by exact c6Y rfl) fun w own av ν hν=>?_
 have hν0:ν.length<=1:=by rw [hν];exact c6N _
 have h1:=c3a s hs
 have hk:=c5L n s
 have hp:=c4m n s
 unfold L6
 generalize a0H s=q at *
 generalize n.contains s=c at *
 simp only [j6,TT,II,OA,OB,MM]
 simp only [sb,ints] at *
 (repeat first|refine uA ?_|(refine uK ?_ ?_;focus first|omega|(intros;simp_all<;>omega))|simp (disch:=omega) only [go_sem,Nat.reduceBEq,Nat.reduceAdd]|(refine uB h1 ?_ ?_;exact rfl))
 refine S.cond rfl (fun hc=>?_) (fun hc=>?_)
 ·rw [if_pos (by simpa using hc)]
  (repeat first|refine uA ?_|(refine uK ?_ ?_;focus first|omega|(intros;simp_all<;>omega))|simp (disch:=omega) only [go_sem])
  (refine S.done ?_;simp only [l9,go_sem,Nat.reduceBEq];(repeat (refine ⟨?_,?_⟩;focus first|trivial|omega|simp));exact j4.M9 (Imp.refl rfl) (by (repeat first|refine uA ?_|(refine ⟨?_,?_⟩;focus first|rfl|simp [slot])|rfl|simp)) (c6L hν0 (by simp)))
 rw [if_neg (by simpa using hc)]
 (repeat first|refine uA ?_|(refine uK ?_ ?_;focus first|omega|(intros;simp_all<;>omega))|simp (disch:=omega) only [go_sem,Nat.reduceBEq,hk])
 refine S.cond rfl (fun hc=>?_) (fun hc=>?_)
 ·rw [if_pos hc]
  (repeat first|refine uA ?_|(refine uK ?_ ?_;focus first|omega|(intros;simp_all<;>omega))|simp (disch:=omega) only [go_sem])
  (refine S.done ?_;simp only [l9,go_sem,Nat.reduceBEq];(repeat (refine ⟨?_,?_⟩;focus first|trivial|omega|simp));exact j4.M9 (Imp.refl rfl) (by (repeat first|refine uA ?_|(refine ⟨?_,?_⟩;focus first|rfl|simp [slot])|rfl|simp)) (c6L hν0 (by simp)))
 ·rw [if_neg (by rw [hc];decide)]
  have hp:=hp hc
  (repeat first|refine uA ?_|(refine uK ?_ ?_;focus first|omega|(intros;simp_all<;>omega))|simp (disch:=omega) only [go_sem,Nat.reduceBEq,hp])
  (refine S.done ?_;simp only [l9,go_sem,Nat.reduceBEq];(repeat (refine ⟨?_,?_⟩;focus first|trivial|omega|simp));exact j4.M9 (Imp.refl rfl) (by (repeat first|refine uA ?_|(refine ⟨?_,?_⟩;focus first|rfl|simp [slot])|rfl|simp)) (c6L hν0 (by simp)))
theorem c4s {E:Ctx} (hP:E.P=Tryz.prog) (ht0:Tz E) (n:Nms) (p:Pt) (hb:Pb 1073741824 p) :
  l8 E [.map true (nmE n)] 151 [.mp 0,p.c] (ints (a0o n p).1) [.map true (nmE (a0o n p).2)] []:=by
 obtain ⟨P,eff',N,w0,own0,av0,nu0,pk0⟩:=E
 simp only at hP
 subst hP
 refine l8.ofT (eff:=eff) ht0 Tryz.func151 (by cbv) (by exact c6Y rfl) fun w own av ν hν ht=>?_
 have hν0:ν.length<=1:=by rw [hν];exact c6N _
 obtain ⟨name,shape,⟨x,y,half,t⟩⟩:=p
 obtain ⟨b0,b1,b2,b3,b4⟩:=hb
 simp only at b0 b1 b2 b3 b4
 have h1:=fun (E:Ctx) (hP:E.P=Tryz.prog)=>b2k hP n name (by omega)
 have h2:=b2v shape b1
 have h3:=b2A ⟨x,y,half,t⟩ ⟨b2.mono (by decide),b3.mono (by decide),b4.mono (by decide)⟩
 unfold a0o
 simp only
 generalize L6 n name=r at *
 obtain ⟨e1,m⟩:=r
 generalize N9 shape=e2 at *
 generalize okF ⟨x,y,half,t⟩=q at *
 simp only [j6,TT,II,OA,MM,LL,VV,FF]
 simp only [Pt.c,Pt.enc,Fr.c,Fr.enc,vts,sb,ints] at *
 (repeat first|refine uA ?_|(refine uK ?_ ?_;focus first|omega|(intros;simp_all<;>omega))|simp (disch:=omega) only [go_sem,Nat.reduceBEq,Nat.reduceAdd]|refine p8.t (l8.lift (k:=0) rfl (h1 _ rfl) rfl rfl rfl) ?_)
 refine S.cond rfl (fun hc=>?_) (fun hc=>?_)
 ·rw [if_pos (by simpa using hc)]
  (repeat first|refine uA ?_|(refine uK ?_ ?_;focus first|omega|(intros;simp_all<;>omega))|simp (disch:=omega) only [go_sem,Nat.reduceBEq])
  (refine S.done ?_;simp only [l9,go_sem,Nat.reduceBEq];(repeat (refine ⟨?_,?_⟩;focus first|trivial|omega|simp));exact j4.M9 (Imp.refl rfl) (by (repeat first|refine uA ?_|(refine ⟨?_,?_⟩;focus first|rfl|simp [slot])|rfl|simp)) (c6L hν0 (by simp)))
 rw [if_neg (by simpa using hc)]
 (repeat first|refine uA ?_|(refine uK ?_ ?_;focus first|omega|(intros;simp_all<;>omega))|simp (disch:=omega) only [go_sem,Nat.reduceBEq,Nat.reduceAdd]|(refine uD h2 ?_ ?_ ?_;exact ht;exact rfl))
 refine S.cond rfl (fun hc=>?_) (fun hc=>?_)
 ·rw [if_pos (by simpa using hc)]
  (repeat first|refine uA ?_|(refine uK ?_ ?_;focus first|omega|(intros;simp_all<;>omega))|simp (disch:=omega) only [go_sem,Nat.reduceBEq])
  (refine S.done ?_;simp only [l9,go_sem,Nat.reduceBEq];(repeat (refine ⟨?_,?_⟩;focus first|trivial|omega|simp));exact j4.M9 (Imp.refl rfl) (by (repeat first|refine uA ?_|(refine ⟨?_,?_⟩;focus first|rfl|simp [slot])|rfl|simp)) (c6L hν0 (by simp)))
 rw [if_neg (by simpa using hc)]
 (repeat first|refine uA ?_|(refine uK ?_ ?_;focus first|omega|(intros;simp_all<;>omega))|simp (disch:=omega) only [go_sem,Nat.reduceBEq,Nat.reduceAdd]|(refine uD h3 ?_ ?_ ?_;exact ht;exact rfl))
 refine S.cond rfl (fun hc=>?_) (fun hc=>?_)
 ·rw [if_neg (by simpa using hc)]
  (repeat first|refine uA ?_|(refine uK ?_ ?_;focus first|omega|(intros;simp_all<;>omega))|simp (disch:=omega) only [go_sem])
  (refine S.done ?_;simp only [l9,go_sem,Nat.reduceBEq];(repeat (refine ⟨?_,?_⟩;focus first|trivial|omega|simp));exact j4.M9 (Imp.refl rfl) (by (repeat first|refine uA ?_|(refine ⟨?_,?_⟩;focus first|rfl|simp [slot])|rfl|simp)) (c6L hν0 (by simp)))
 ·rw [if_pos (by simpa using hc)]
  (repeat first|refine uA ?_|(refine uK ?_ ?_;focus first|omega|(intros;simp_all<;>omega))|simp (disch:=omega) only [go_sem])
  (refine S.done ?_;simp only [l9,go_sem,Nat.reduceBEq];(repeat (refine ⟨?_,?_⟩;focus first|trivial|omega|simp));exact j4.M9 (Imp.refl rfl) (by (repeat first|refine uA ?_|(refine ⟨?_,?_⟩;focus first|rfl|simp [slot])|rfl|simp)) (c6L hν0 (by simp)))
theorem c4U {E:Ctx} (hP:E.P=Tryz.prog) (ht0:Tz E) (n:Nms) (s:Sl) (hb:Sb 1073741824 s) :
  l8 E [.map true (nmE n)] 153 [.mp 0,s.c] (ints (a0w n s).1) [.map true (nmE (a0w n s).2)] []:=by
 obtain ⟨P,eff',N,w0,own0,av0,nu0,pk0⟩:=E
 simp only at hP
 subst hP
 refine l8.ofT (eff:=eff) ht0 Tryz.func153 (by cbv) (by exact c6Y rfl) fun w own av ν hν ht=>?_
 have hν0:ν.length<=1:=by rw [hν];exact c6N _
 obtain ⟨name,⟨x,y,half,t⟩,within⟩:=s
 obtain ⟨b0,⟨b2,b3,b4⟩,b5⟩:=hb
 simp only at b0 b2 b3 b4 b5
 have h1:=fun (E:Ctx) (hP:E.P=Tryz.prog)=>b2k hP n name (by omega)
 have h3:=b2A ⟨x,y,half,t⟩ ⟨b2.mono (by decide),b3.mono (by decide),b4.mono (by decide)⟩
 have h4:=a0q within (b5.mono (by decide))
 have h5:=a2W within (b5.mono (by decide))
 have h6:=O9 within (b5.mono (by decide))
 unfold a0w
 simp only
 generalize L6 n name=r at *
 obtain ⟨e1,m⟩:=r
 generalize okF ⟨x,y,half,t⟩=q1 at *
 generalize decide within.F5=q2 at *
 generalize l6 within=q3 at *
 generalize z8 (Nm.d9 within)=n4 at *
 simp only [j6,TT,II,OA,OC,MM,LL,VV,FF,LG,FG]
 simp only [Sl.c,Sl.enc,Fr.c,Fr.enc,rc,sb,ints] at *
 (repeat first|refine uA ?_|(refine uK ?_ ?_;focus first|omega|(intros;simp_all<;>omega))|simp (disch:=omega) only [go_sem,Nat.reduceBEq,Nat.reduceAdd]|refine p8.t (l8.lift (k:=0) rfl (h1 _ rfl) rfl rfl rfl) ?_)
 refine S.cond rfl (fun hc=>?_) (fun hc=>?_)
 ·rw [if_pos (by simpa using hc)]
  (repeat first|refine uA ?_|(refine uK ?_ ?_;focus first|omega|(intros;simp_all<;>omega))|simp (disch:=omega) only [go_sem,Nat.reduceBEq])
  (refine S.done ?_;simp only [l9,go_sem,Nat.reduceBEq];(repeat (refine ⟨?_,?_⟩;focus first|trivial|omega|simp));exact j4.M9 (Imp.refl rfl) (by (repeat first|refine uA ?_|(refine ⟨?_,?_⟩;focus first|rfl|simp [slot])|rfl|simp)) (c6L hν0 (by simp)))
 rw [if_neg (by simpa using hc)]
 (repeat first|refine uA ?_|(refine uK ?_ ?_;focus first|omega|(intros;simp_all<;>omega))|simp (disch:=omega) only [go_sem,Nat.reduceBEq,Nat.reduceAdd]|(refine uD h3 ?_ ?_ ?_;exact ht;exact rfl)|(refine uD h4 ?_ ?_ ?_;exact ht;exact rfl)|(refine uD h5 ?_ ?_ ?_;exact ht;exact rfl)|(refine uD h6 ?_ ?_ ?_;exact ht;exact rfl))
 refine S.cond rfl (fun hc=>?_) (fun hc=>?_)
 ·rw [if_neg (by simp only [c7v,Bool.not_eq_true',c6S] at hc;simp only [c6Q,c6S];rintro ⟨⟨⟨h7,h8⟩,h9⟩,h10⟩;rcases hc with ((hc|hc)|hc)|hc<;>first|(rw [hc] at h7;cases h7;done)|(rw [hc] at h8;cases h8;done)|(rw [hc] at h9;cases h9;done)|omega)]
  (repeat first|refine uA ?_|(refine uK ?_ ?_;focus first|omega|(intros;simp_all<;>omega))|simp (disch:=omega) only [go_sem])
  (refine S.done ?_;simp only [l9,go_sem,Nat.reduceBEq];(repeat (refine ⟨?_,?_⟩;focus first|trivial|omega|simp));exact j4.M9 (Imp.refl rfl) (by (repeat first|refine uA ?_|(refine ⟨?_,?_⟩;focus first|rfl|simp [slot])|rfl|simp)) (c6L hν0 (by simp)))
 ·rw [if_pos (by simp only [c7n,Bool.not_eq_false',c7c] at hc;simp only [c6Q,c6S];obtain ⟨⟨⟨h7,h8⟩,h9⟩,h10⟩:=hc;exact ⟨⟨⟨h7,h8⟩,h9⟩,by omega⟩)]
  (repeat first|refine uA ?_|(refine uK ?_ ?_;focus first|omega|(intros;simp_all<;>omega))|simp (disch:=omega) only [go_sem])
  (refine S.done ?_;simp only [l9,go_sem,Nat.reduceBEq];(repeat (refine ⟨?_,?_⟩;focus first|trivial|omega|simp));exact j4.M9 (Imp.refl rfl) (by (repeat first|refine uA ?_|(refine ⟨?_,?_⟩;focus first|rfl|simp [slot])|rfl|simp)) (c6L hν0 (by simp)))
theorem c4z {E:Ctx} (hP:E.P=Tryz.prog) (ht0:Tz E) (n:Nms) (g:Gt) (hb:Gb 1073741824 g) :
  l8 E [.map true (nmE n)] 155 [.mp 0,g.c] (ints (a0n n g).1) [.map true (nmE (a0n n g).2)] []:=by
 obtain ⟨P,eff',N,w0,own0,av0,nu0,pk0⟩:=E
 simp only at hP
 subst hP
 refine l8.ofT (eff:=eff) ht0 Tryz.func155 (by cbv) (by exact c6Y rfl) fun w own av ν hν ht=>?_
 have hν0:ν.length<=1:=by rw [hν];exact c6N _
 obtain ⟨name,⟨lx,ly⟩,⟨hx,hy⟩⟩:=g
 obtain ⟨b0,⟨b1,b2⟩,⟨b3,b4⟩⟩:=hb
 simp only at b0 b1 b2 b3 b4
 have h1:=fun (E:Ctx) (hP:E.P=Tryz.prog)=>b2k hP n name (by omega)
 have h3:=a8X [⟨lx,ly⟩,⟨hx,hy⟩] (Vbs.two (by decide) ⟨b1.mono (by decide),b2.mono (by decide)⟩ ⟨b3.mono (by decide),b4.mono (by decide)⟩)
 rw [a8c] at h3
 have h4:=M6 lx hx (b1.mono (by decide)) (b3.mono (by decide))
 have h5:=M6 ly hy (b2.mono (by decide)) (b4.mono (by decide))
 unfold a0n
 simp only
 generalize L6 n name=r at *
 obtain ⟨e1,m⟩:=r
 generalize (okV ⟨lx,ly⟩ && okV ⟨hx,hy⟩)=q1 at *
 generalize Nm.q9 (Nm.d9 lx) (Nm.d9 hx)=n1 at *
 generalize Nm.q9 (Nm.d9 ly) (Nm.d9 hy)=n2 at *
 simp only [j6,TT,II,OA,OC,MM,LL,VV,FF,LG,FG]
 simp only [Gt.c,Gt.enc,vts,Vt.enc,rc,sb,ints,c6V,c6Z] at *
 (repeat first|refine uA ?_|(refine uK ?_ ?_;focus first|omega|(intros;simp_all<;>omega))|simp (disch:=omega) only [go_sem,Nat.reduceBEq,Nat.reduceAdd]|refine p8.t (l8.lift (k:=0) rfl (h1 _ rfl) rfl rfl rfl) ?_)
 refine S.cond rfl (fun hc=>?_) (fun hc=>?_)
 ·rw [if_pos (by simpa using hc)]
  (repeat first|refine uA ?_|(refine uK ?_ ?_;focus first|omega|(intros;simp_all<;>omega))|simp (disch:=omega) only [go_sem,Nat.reduceBEq])
  (refine S.done ?_;simp only [l9,go_sem,Nat.reduceBEq];(repeat (refine ⟨?_,?_⟩;focus first|trivial|omega|simp));exact j4.M9 (Imp.refl rfl) (by (repeat first|refine uA ?_|(refine ⟨?_,?_⟩;focus first|rfl|simp [slot])|rfl|simp)) (c6L hν0 (by simp)))
 rw [if_neg (by simpa using hc)]
 (repeat first|refine uA ?_|(refine uK ?_ ?_;focus first|omega|(intros;simp_all<;>omega))|simp (disch:=omega) only [go_sem,Nat.reduceBEq,Nat.reduceAdd]|(refine uD h4 ?_ ?_ ?_;exact ht;exact rfl)|(refine uD h5 ?_ ?_ ?_;exact ht;exact rfl)|(refine uE h3 ?_ ?_ ?_ ?_;exact ht;exact rfl;focus (repeat' first|exact j5.nil|exact Imp.refl rfl|exact Imp.frz rfl rfl rfl|(refine Imp.M8 rfl rfl ?_ ?_;(focus ((try simp only [c6M]);omega));(focus first|rfl|assumption))|refine j5.cons ?_ ?_);done))
 refine S.cond rfl (fun hc=>?_) (fun hc=>?_)
 ·rw [if_neg (by simp only [c7v,Bool.not_eq_true',c6S] at hc;simp only [c6Q,c6S];rintro ⟨⟨h7,h8⟩,h9⟩;rcases hc with (hc|hc)|hc<;>first|(rw [hc] at h7;cases h7;done)|omega)]
  (repeat first|refine uA ?_|(refine uK ?_ ?_;focus first|omega|(intros;simp_all<;>omega))|simp (disch:=omega) only [go_sem])
  (refine S.done ?_;simp only [l9,go_sem,Nat.reduceBEq];(repeat (refine ⟨?_,?_⟩;focus first|trivial|omega|simp));exact j4.M9 (Imp.refl rfl) (by (repeat first|refine uA ?_|(refine ⟨?_,?_⟩;focus first|rfl|simp [slot])|rfl|simp)) (c6L hν0 (by simp)))
 ·rw [if_pos (by simp only [c7n,Bool.not_eq_false',c7c] at hc;simp only [c6Q,c6S];obtain ⟨⟨h7,h8⟩,h9⟩:=hc;exact ⟨⟨h7,by omega⟩,by omega⟩)]
  (repeat first|refine uA ?_|(refine uK ?_ ?_;focus first|omega|(intros;simp_all<;>omega))|simp (disch:=omega) only [go_sem])
  (refine S.done ?_;simp only [l9,go_sem,Nat.reduceBEq];(repeat (refine ⟨?_,?_⟩;focus first|trivial|omega|simp));exact j4.M9 (Imp.refl rfl) (by (repeat first|refine uA ?_|(refine ⟨?_,?_⟩;focus first|rfl|simp [slot])|rfl|simp)) (c6L hν0 (by simp)))
theorem b6L {E:Ctx} (hP:E.P=Tryz.prog) (ht0:Tz E) (n:Nms) (l:List Pt) (hn:l.length<=1073741824) (hb:∀ x ∈ l,Pb 1073741824 x) :
  l8 E [.map true (nmE n)] 150 [pts l,.bnd 151 (.mp 0)] (ints (F3 a0o n l).1) [.map true (nmE (F3 a0o n l).2)] []:=by
 obtain ⟨P,eff',N,w0,own0,av0,nu0,pk0⟩:=E
 simp only at hP
 subst hP
 refine l8.ofT (eff:=eff) ht0 Tryz.func150 (by cbv) (by exact c6Y rfl) fun w own av ν hν ht=>?_
 have hν0:ν.length<=1:=by rw [hν];exact c6N _
 simp only [j6,TT,II,OA,OB,MM,LL,pts,ints]
 (repeat first|refine uA ?_|(apply uK;focus omega)|simp (disch:=omega) only [go_sem,Nat.reduceBEq,c6F])
 refine S.loop (X:=Nat × Nms) (fun x=>⟨[(1,.bnd 151 (.mp 0)),(8,pts l),(9,ints l.length),(10,ints x.1)],[.map true (nmE x.2)]⟩) (fun x=>x.1<=l.length/\F3 a0o n l=F3 a0o x.2 (l.drop x.1)) (fun x=>l.length-x.1) (0,n) ⟨c6K _,rfl⟩ (by (repeat first|refine uA ?_|(refine ⟨?_,?_⟩;focus first|rfl|trivial|(simp [slot];done))|rfl|trivial|simp|exact c6L hν0 (by simp))) ?_
 rintro ⟨i,m⟩ ⟨hi,hg⟩
 simp only [pts,ints] at hi hg ⊢
 (repeat first|refine uA ?_|(apply uK;focus omega)|simp (disch:=omega) only [go_sem,Nat.reduceBEq])
 (refine uJ rfl (fun hc=>?_) fun hc=>?_)
 ·have hi':i < l.length:=by omega
  have hgi:=c6E hi'
  generalize l[i]=x at hgi
  have hst:=Z0 (f:=a0o) (s:=m) hgi
  have hnx:=Z5 (f:=a0o) (s:=m) hgi
  have hs:=fun (E:Ctx) (hP:E.P=Tryz.prog) (ht:Tz E)=>c4s hP ht m x (hb x (c6H hgi))
  generalize a0o m x=r at *
  obtain ⟨e,m'⟩:=r
  simp only [Pt.c,Pt.enc,vts,sb,ints] at hs hst hnx
  (repeat first|refine uA ?_|(refine uK ?_ ?_;focus first|omega|trivial|(intros;simp_all<;>omega))|simp (disch:=omega) only [go_sem,Nat.reduceBEq,Nat.reduceAdd,Nat.reduceLeDiff,hgi,c6G,c6F,Pt.enc,vts,sb]|refine p8.t (l8.lift (k:=0) rfl (hs _ rfl ht) rfl rfl rfl) ?_)
  refine S.cond rfl (fun hc2=>?_) (fun hc2=>?_)
  ·rw [hg,hst (by simpa using hc2)]
   (repeat first|refine uA ?_|(apply uK;focus omega)|simp (disch:=omega) only [go_sem,Nat.reduceBEq])
   (refine S.done ?_;simp only [l9,go_sem,Nat.reduceBEq];exact j4.M9 (Imp.refl rfl) (by (repeat first|refine uA ?_|rfl|simp [slot])) (c6L hν0 (by simp)))
  ·have hc3:e=0:=by simpa using hc2
   (repeat first|refine uA ?_|(apply uK;focus omega)|simp (disch:=omega) only [go_sem,Nat.reduceBEq,ww])
   refine S.next (x:=(i,m)) (i+1,m') ⟨by simp only;omega,by simp only;rw [hg,hnx hc3]⟩ (by simp only;omega) (by (repeat first|refine uA ?_|(refine ⟨?_,?_⟩;focus first|rfl|trivial|(simp [slot];done))|rfl|trivial|simp|exact c6L hν0 (by simp)))
 ·rw [hg,a0v (by omega)]
  (repeat first|refine uA ?_|(apply uK;focus omega)|simp (disch:=omega) only [go_sem])
  (refine S.done ?_;simp only [l9,go_sem,Nat.reduceBEq];exact j4.M9 (Imp.refl rfl) (by (repeat first|refine uA ?_|rfl|simp [slot])) (c6L hν0 (by simp)))
theorem b6K {E:Ctx} (hP:E.P=Tryz.prog) (ht0:Tz E) (n:Nms) (l:List Sl) (hn:l.length<=1073741824) (hb:∀ x ∈ l,Sb 1073741824 x) :
  l8 E [.map true (nmE n)] 152 [sls l,.bnd 153 (.mp 0)] (ints (F3 a0w n l).1) [.map true (nmE (F3 a0w n l).2)] []:=by
 obtain ⟨P,eff',N,w0,own0,av0,nu0,pk0⟩:=E
 simp only at hP
 subst hP
 refine l8.ofT (eff:=eff) ht0 Tryz.func152 (by cbv) (by exact c6Y rfl) fun w own av ν hν ht=>?_
 have hν0:ν.length<=1:=by rw [hν];exact c6N _
 simp only [j6,TT,II,OA,OB,MM,LL,sls,ints]
 (repeat first|refine uA ?_|(apply uK;focus omega)|simp (disch:=omega) only [go_sem,Nat.reduceBEq,c6F])
 refine S.loop (X:=Nat × Nms) (fun x=>⟨[(1,.bnd 153 (.mp 0)),(8,sls l),(9,ints l.length),(10,ints x.1)],[.map true (nmE x.2)]⟩) (fun x=>x.1<=l.length/\F3 a0w n l=F3 a0w x.2 (l.drop x.1)) (fun x=>l.length-x.1) (0,n) ⟨c6K _,rfl⟩ (by (repeat first|refine uA ?_|(refine ⟨?_,?_⟩;focus first|rfl|trivial|(simp [slot];done))|rfl|trivial|simp|exact c6L hν0 (by simp))) ?_
 rintro ⟨i,m⟩ ⟨hi,hg⟩
 simp only [sls,ints] at hi hg ⊢
 (repeat first|refine uA ?_|(apply uK;focus omega)|simp (disch:=omega) only [go_sem,Nat.reduceBEq])
 (refine uJ rfl (fun hc=>?_) fun hc=>?_)
 ·have hi':i < l.length:=by omega
  have hgi:=c6E hi'
  generalize l[i]=x at hgi
  have hst:=Z0 (f:=a0w) (s:=m) hgi
  have hnx:=Z5 (f:=a0w) (s:=m) hgi
  have hs:=fun (E:Ctx) (hP:E.P=Tryz.prog) (ht:Tz E)=>c4U hP ht m x (hb x (c6H hgi))
  generalize a0w m x=r at *
  obtain ⟨e,m'⟩:=r
  simp only [Sl.c,Sl.enc,sb,ints] at hs hst hnx
  (repeat first|refine uA ?_|(refine uK ?_ ?_;focus first|omega|trivial|(intros;simp_all<;>omega))|simp (disch:=omega) only [go_sem,Nat.reduceBEq,Nat.reduceAdd,Nat.reduceLeDiff,hgi,c6G,c6F,Sl.enc,sb]|refine p8.t (l8.lift (k:=0) rfl (hs _ rfl ht) rfl rfl rfl) ?_)
  refine S.cond rfl (fun hc2=>?_) (fun hc2=>?_)
  ·rw [hg,hst (by simpa using hc2)]
   (repeat first|refine uA ?_|(apply uK;focus omega)|simp (disch:=omega) only [go_sem,Nat.reduceBEq])
   (refine S.done ?_;simp only [l9,go_sem,Nat.reduceBEq];exact j4.M9 (Imp.refl rfl) (by (repeat first|refine uA ?_|rfl|simp [slot])) (c6L hν0 (by simp)))
  ·have hc3:e=0:=by simpa using hc2
   (repeat first|refine uA ?_|(apply uK;focus omega)|simp (disch:=omega) only [go_sem,Nat.reduceBEq,ww])
   refine S.next (x:=(i,m)) (i+1,m') ⟨by simp only;omega,by simp only;rw [hg,hnx hc3]⟩ (by simp only;omega) (by (repeat first|refine uA ?_|(refine ⟨?_,?_⟩;focus first|rfl|trivial|(simp [slot];done))|rfl|trivial|simp|exact c6L hν0 (by simp)))
 ·rw [hg,a0v (by omega)]
  (repeat first|refine uA ?_|(apply uK;focus omega)|simp (disch:=omega) only [go_sem])
  (refine S.done ?_;simp only [l9,go_sem,Nat.reduceBEq];exact j4.M9 (Imp.refl rfl) (by (repeat first|refine uA ?_|rfl|simp [slot])) (c6L hν0 (by simp)))
theorem b7b {E:Ctx} (hP:E.P=Tryz.prog) (ht0:Tz E) (n:Nms) (l:List Gt) (hn:l.length<=1073741824) (hb:∀ x ∈ l,Gb 1073741824 x) :
  l8 E [.map true (nmE n)] 154 [gts l,.bnd 155 (.mp 0)] (ints (F3 a0n n l).1) [.map true (nmE (F3 a0n n l).2)] []:=by
 obtain ⟨P,eff',N,w0,own0,av0,nu0,pk0⟩:=E
 simp only at hP
 subst hP
 refine l8.ofT (eff:=eff) ht0 Tryz.func154 (by cbv) (by exact c6Y rfl) fun w own av ν hν ht=>?_
 have hν0:ν.length<=1:=by rw [hν];exact c6N _
 simp only [j6,TT,II,OA,OB,MM,LL,gts,ints]
 (repeat first|refine uA ?_|(apply uK;focus omega)|simp (disch:=omega) only [go_sem,Nat.reduceBEq,c6F])
 refine S.loop (X:=Nat × Nms) (fun x=>⟨[(1,.bnd 155 (.mp 0)),(8,gts l),(9,ints l.length),(10,ints x.1)],[.map true (nmE x.2)]⟩) (fun x=>x.1<=l.length/\F3 a0n n l=F3 a0n x.2 (l.drop x.1)) (fun x=>l.length-x.1) (0,n) ⟨c6K _,rfl⟩ (by (repeat first|refine uA ?_|(refine ⟨?_,?_⟩;focus first|rfl|trivial|(simp [slot];done))|rfl|trivial|simp|exact c6L hν0 (by simp))) ?_
 rintro ⟨i,m⟩ ⟨hi,hg⟩
 simp only [gts,ints] at hi hg ⊢
 (repeat first|refine uA ?_|(apply uK;focus omega)|simp (disch:=omega) only [go_sem,Nat.reduceBEq])
 (refine uJ rfl (fun hc=>?_) fun hc=>?_)
 ·have hi':i < l.length:=by omega
  have hgi:=c6E hi'
  generalize l[i]=x at hgi
  have hst:=Z0 (f:=a0n) (s:=m) hgi
  have hnx:=Z5 (f:=a0n) (s:=m) hgi
  have hs:=fun (E:Ctx) (hP:E.P=Tryz.prog) (ht:Tz E)=>c4z hP ht m x (hb x (c6H hgi))
  generalize a0n m x=r at *
  obtain ⟨e,m'⟩:=r
  simp only [Gt.c,Gt.enc,sb,ints] at hs hst hnx
  (repeat first|refine uA ?_|(refine uK ?_ ?_;focus first|omega|trivial|(intros;simp_all<;>omega))|simp (disch:=omega) only [go_sem,Nat.reduceBEq,Nat.reduceAdd,Nat.reduceLeDiff,hgi,c6G,c6F,Gt.enc,sb]|refine p8.t (l8.lift (k:=0) rfl (hs _ rfl ht) rfl rfl rfl) ?_)
  refine S.cond rfl (fun hc2=>?_) (fun hc2=>?_)
  ·rw [hg,hst (by simpa using hc2)]
   (repeat first|refine uA ?_|(apply uK;focus omega)|simp (disch:=omega) only [go_sem,Nat.reduceBEq])
   (refine S.done ?_;simp only [l9,go_sem,Nat.reduceBEq];exact j4.M9 (Imp.refl rfl) (by (repeat first|refine uA ?_|rfl|simp [slot])) (c6L hν0 (by simp)))
  ·have hc3:e=0:=by simpa using hc2
   (repeat first|refine uA ?_|(apply uK;focus omega)|simp (disch:=omega) only [go_sem,Nat.reduceBEq,ww])
   refine S.next (x:=(i,m)) (i+1,m') ⟨by simp only;omega,by simp only;rw [hg,hnx hc3]⟩ (by simp only;omega) (by (repeat first|refine uA ?_|(refine ⟨?_,?_⟩;focus first|rfl|trivial|(simp [slot];done))|rfl|trivial|simp|exact c6L hν0 (by simp)))
 ·rw [hg,a0v (by omega)]
  (repeat first|refine uA ?_|(apply uK;focus omega)|simp (disch:=omega) only [go_sem])
  (refine S.done ?_;simp only [l9,go_sem,Nat.reduceBEq];exact j4.M9 (Imp.refl rfl) (by (repeat first|refine uA ?_|rfl|simp [slot])) (c6L hν0 (by simp)))
theorem b6O (l:List (List Vt)) (hn:l.length<=1073741824) (hb:∀ x ∈ l,Vbs 1073741824 x):FZ 148 [wls l,.v (.func (.func 149) #[] #[])] (ints (G5 N9 l)):=by
 refine kW Tryz.func148 (by cbv) (by rfl) fun w O hw=>?_
 have hcal:callable Tryz.prog 149=true:=by kernel_rfl
 simp only [j6,TT,II,OA,MM,VV,wls,ints]
 (repeat first|refine uA ?_|(apply uK;focus omega)|simp (disch:=omega) only [go_sem,Nat.reduceBEq,c6F])
 refine S.loop (X:=Nat) (fun i=>⟨[(1,.v (.func (.func 149) #[] #[])),(8,wls l),(9,ints l.length),(10,ints i)],[]⟩) (fun i=>i<=l.length/\G5 N9 l=G5 N9 (l.drop i)) (fun i=>l.length-i) 0 ⟨c6K _,rfl⟩ (by (repeat first|refine uA ?_|(refine ⟨?_,?_⟩;focus first|rfl|trivial|(simp [slot];done))|rfl|trivial|simp)) ?_
 rintro i ⟨hi,hg⟩
 simp only [wls,ints] at hi hg ⊢
 (repeat first|refine uA ?_|(apply uK;focus omega)|simp (disch:=omega) only [go_sem,Nat.reduceBEq])
 (refine uJ rfl (fun hc=>?_) fun hc=>?_)
 ·have hi':i < l.length:=by omega
  have hgi:=c6E hi'
  generalize l[i]=x at hgi
  have hst:=a1e (f:=N9) hgi
  have hnx:=a1h (f:=N9) hgi
  have hs:=b2v x (hb x (c6H hgi))
  generalize N9 x=e at *
  simp only [ints] at hs
  (repeat first|refine uA ?_|(refine uK ?_ ?_;focus first|omega|trivial|(intros;simp_all<;>omega))|simp (disch:=omega) only [go_sem,Nat.reduceBEq,hgi,c6G,c6F,hcal]|(refine uD hs ?_ ?_ ?_;exact tz hw;exact rfl))
  refine S.cond rfl (fun hc2=>?_) (fun hc2=>?_)
  ·rw [hg,hst (by simpa using hc2)]
   (repeat first|refine uA ?_|(apply uK;focus omega)|simp (disch:=omega) only [go_sem,Nat.reduceBEq])
   exact S.done (j4.out rfl (Imp.refl rfl) rfl)
  ·have hc3:e=0:=by simpa using hc2
   (repeat first|refine uA ?_|(apply uK;focus omega)|simp (disch:=omega) only [go_sem,Nat.reduceBEq,ww])
   refine S.next (i+1) ⟨by omega,by rw [hg,hnx hc3]⟩ (by omega) (by (repeat first|refine uA ?_|(refine ⟨?_,?_⟩;focus first|rfl|trivial|(simp [slot];done))|rfl|trivial|simp))
 ·rw [hg,a1O (by omega)]
  (repeat first|refine uA ?_|(apply uK;focus omega)|simp (disch:=omega) only [go_sem])
  exact S.done (j4.out rfl (Imp.refl rfl) rfl)
end Go.Proofs.YtpffebkbmcbmgaaGreatDoor
namespace Go.Proofs.YtpffebkbmcbmgaaGreatDoor.Eng
open Go Go.RowKit
def Res.bdr (n:Nat):Res->Bool
 | .box _ cs=>C.bdL n cs
 | _=>true
theorem b8l {ν:List Value} {w:World} {O O':Nat->Prop} {x:Value} {r:Res} {n:Nat} (hs:r.bdr n=true) (hO:∀ b,O' b->O b) (h:N8 ν w O x r):N8 (ν.take n) w O' x r:=by
 cases r with
 | gone=>exact h
 | box t cs=>
  obtain ⟨b,vs,h1,h2,h3,h4⟩:=h
  exact ⟨b,vs,h1,l7.keep (Keeps.sub hO) (l7.takeν n hs h2),h3,h4⟩
 | row e sz es=>exact a5R hO h
 | map s es=>exact h
theorem c1K {ν ν':List Value} {w:World} {O O':Nat->Prop} {x:Value} {r:Res} (hn:X5 [] ν ν') (hO:∀ b,O' b->O b) (h:N8 ν w O x r):N8 ν' w O' x r:=by
 cases r with
 | gone=>exact h
 | box t cs=>
  obtain ⟨b,vs,h1,h2,h3,h4⟩:=h
  exact ⟨b,vs,h1,l7.keep (Keeps.sub hO) (l7.nu hn (fun k hk=>by cases hk) h2),h3,h4⟩
 | row e sz es=>exact a5R hO h
 | map s es=>exact h
theorem X5.take (ν:List Value) (n:Nat):X5 [] (ν.take n) ν:=fun _ _ _ h=>Y4 h
theorem c5C {ν ν':List Value} (h:X5 [] ν ν') (hl:ν'.length=ν.length):ν'=ν:=by
 apply List.ext_getElem?
 intro i
 rcases c7a i ν.length with h1|h1
 ·have:=h i _ (fun hk=>by cases hk) (c6E h1)
  rw [this,c6E h1]
 ·rw [c7i h1,c7i (by omega)]
theorem a3H {rs ext:List Res} {ν:List Value} (hl:ν.length=(rs++ext).length) (b:Nat):owned (rs++ext) ν b <-> owned rs (ν.take rs.length) b \/ ∃ k r x,ext[k]?=some r/\ν[rs.length+k]?=some x/\fp r x b:=by
 constructor
 ·rintro ⟨k,r,x,h1,h2,h3⟩
  rcases c7a k rs.length with h|h
  ·rw [c6R h] at h1
   exact .inl ⟨k,r,x,h1,K4 h h2,h3⟩
  ·rw [c6W h] at h1
   exact .inr ⟨k-rs.length,r,x,h1,by rw [show rs.length+(k-rs.length)=k by omega];exact h2,h3⟩
 ·rintro (⟨k,r,x,h1,h2,h3⟩|⟨k,r,x,h1,h2,h3⟩)
  ·have h:=(c6J.1 h1).1
   exact ⟨k,r,x,by rw [c6R h];exact h1,Y4 h2,h3⟩
  ·exact ⟨rs.length+k,r,x,by rw [c6W (by omega),show rs.length+k-rs.length=k by omega];exact h1,h2,h3⟩
theorem l8.ext {E:Ctx} {rs rs':List Res} (ex:List Res) {f:Nat} {args:List C} {s:C} (h:l8 E rs f args s rs' []) (hl:rs'.length=rs.length) (hb:rs.all (Res.bdr rs.length)=true) (ha:C.bdL rs.length args=true):l8 E (rs++ex) f args s (rs'++ex) []:=by
  intro av ν w vs hR hav hF hD
  have hlen:=hR.len
  have hl1:(ν.take rs.length).length=rs.length:=by rw [c6O,hlen,c6M];omega
  generalize hν1:ν.take rs.length=ν1 at hl1
  have hown:=fun b=>a3H hlen b
  rw [hν1] at hown
  have hx:∀ b k r x,ex[k]?=some r->ν[rs.length+k]?=some x->fp r x b->¬ owned rs ν1 b:=by
    rintro b k r x h1 h2 h3 ⟨l,q,y,g1,g2,g3⟩
    have hlt:=(c6J.1 g1).1
    rw [<- hν1] at g2
    exact hR.dis l (rs.length+k) q r y x b (by omega) (by rw [c6R hlt];exact g1) (by rw [c6W (by omega),show rs.length+k-rs.length=k by omega];exact h1) (Y4 g2) h2 g3 h3
  let av':Nat->Prop:=fun b=>OO av (rs++ex) ν b/\¬ owned rs ν1 b
  have hOO:∀ b,OO av' rs ν1 b->OO av (rs++ex) ν b:=fun b hb=>by
    rcases hb with hb|hb
    · exact hb.1
    · exact .inr ((hown b).2 (.inl hb))
  have hRG:RG av' E.own0 E.w0.heap.size ν1 rs w:=by
    refine ⟨hl1,fun k r hk=>?_,fun l m q q' y y' b hne h1 h2 h3 h4=>?_,fun b hb=>?_,fun b hb=>?_,hR.n0⟩
    · have hlt:=(c6J.1 hk).1
      obtain ⟨x,hx,hok⟩:=hR.res k r (by rw [c6R hlt];exact hk)
      refine ⟨x,by rw [<- hν1];exact K4 hlt hx,?_⟩
      rw [<- hν1]
      rw [List.all_eq_true] at hb
      exact b8l (hb r (c6H hk)) (by rw [hν1];exact hOO) hok
    · have g1:=(c6J.1 h1).1
      have g2:=(c6J.1 h2).1
      rw [<- hν1] at h3 h4
      exact hR.dis l m q q' y y' b hne (by rw [c6R g1];exact h1) (by rw [c6R g2];exact h2) (Y4 h3) (Y4 h4)
    · obtain ⟨g1,g2,g3⟩:=hR.low b ((hown b).2 (.inl hb))
      exact ⟨g1,fun h=>h.2 hb,g3⟩
    · rcases hb.1 with h1|h1
      · exact hR.av b h1
      · exact (hR.low b h1).1
  have hnav:∀ b,av b->¬ owned rs ν1 b:=fun b hb ho=>(hR.low b ((hown b).2 (.inl ho))).2.1 hb
  have hD':l7 ν1 w (OO av' rs ν1) args vs:=by
    have:=l7.keep (Keeps.sub hOO) (l7.takeν rs.length ha hD)
    rwa [hν1] at this
  refine (h av' ν1 w vs hRG (fun b hb=>⟨.inl (hav b hb),hnav b (hav b hb)⟩) hF hD').mono ?_
  rintro e w' ⟨y,ν',rfl,h1,h2,h3⟩
  have hν':ν'=ν1:=c5C h2.nu (by rw [h1.len,hl,hl1])
  subst hν'
  have hlen':ν.length=(rs'++ex).length:=by rw [hlen,c6M,c6M,hl]
  have hν1':ν.take rs'.length=ν':=by rw [hl];exact hν1
  have hown':=fun b=>a3H hlen' b
  rw [hν1',hl] at hown'
  have hnu:X5 [] ν' ν:=by rw [<- hν1];exact X5.take ν _
  have hxo:∀ b k r x,ex[k]?=some r->ν[rs.length+k]?=some x->fp r x b->owned (rs++ex) ν b:=fun b k r x g1 g2 g3=>(hown b).2 (.inr ⟨k,r,x,g1,g2,g3⟩)
  have hOO':∀ b,OO av (rs'++ex) ν b->OO av' rs' ν' b:=fun b hb=>by
    rcases hb with hb|hb
    · exact .inl ⟨.inl hb,hnav b hb⟩
    · rcases (hown' b).1 hb with hb|⟨k,r,x,g1,g2,g3⟩
      · exact .inr hb
      · exact .inl ⟨.inr (hxo b k r x g1 g2 g3),hx b k r x g1 g2 g3⟩
  have hM:Mv (rs++ex) ν w [] (rs'++ex) ν w':=by
    refine ⟨h2.os,h2.tape,h2.output,h2.size,fun b hb hn=>h2.block b hb fun ho=>hn ((hown b).2 (.inl ho)),fun b hb=>?_,fun _ _ _ h=>h⟩
    rcases (hown' b).1 hb with hb|⟨k,r,x,g1,g2,g3⟩
    · rcases h2.own b hb with g|g
      · exact .inl ((hown b).2 (.inl g))
      · exact .inr g
    · exact .inl (hxo b k r x g1 g2 g3)
  refine ⟨y,ν,rfl,⟨hlen',fun k r hk=>?_,fun l m q q' z z' b hne g1 g2 g3 g4 g5=>?_,fun b hb=>?_,fun b hb=>c7f (hR.av b hb) h2.size,c6L hR.n0 h2.size⟩,hM,Den.keep (Keeps.sub hOO') (Den.nu hnu (fun k hk=>by cases hk) h3)⟩
  · rcases c7a k rs'.length with hlt|hge
    · rw [c6R hlt] at hk
      obtain ⟨x,hx',hok⟩:=h1.res k r hk
      exact ⟨x,hnu k x (fun hk=>by cases hk) hx',c1K hnu hOO' hok⟩
    · have hk':(rs++ex)[k]?=some r:=by
        rw [c6W hge] at hk
        rw [c6W (by omega),<- hl];exact hk
      obtain ⟨x,hx',hok⟩:=hR.res k r hk'
      refine ⟨x,hx',?_⟩
      have:=hok.mv (O':=OO av (rs'++ex) ν) (hM.keeps (av:=av)) hM.nu (fun b hf=>h2.block b (hR.lt hk' hx' hf) (by
        rw [c6W hge] at hk
        exact hx b (k-rs'.length) r x hk (by rw [show rs.length+(k-rs'.length)=k by omega];exact hx') hf))
      rwa [a2G] at this
  · rcases c7a l rs'.length with hl1'|hl1'<;>rcases c7a m rs'.length with hm1|hm1
    · rw [c6R hl1'] at g1
      rw [c6R hm1] at g2
      have e1:ν'[l]?=some z:=by rw [<- hν1'];exact K4 hl1' g3
      have e2:ν'[m]?=some z':=by rw [<- hν1'];exact K4 hm1 g4
      exact h1.dis l m q q' z z' b hne g1 g2 e1 e2 g5
    · rw [c6R hl1'] at g1
      rw [c6W hm1] at g2
      have e1:ν'[l]?=some z:=by rw [<- hν1'];exact K4 hl1' g3
      have g4':ν[rs.length+(m-rs'.length)]?=some z':=by rw [show rs.length+(m-rs'.length)=m by omega];exact g4
      intro hf
      rcases h2.own b ⟨l,q,z,g1,e1,g5⟩ with ho|ho
      · exact hx b _ q' z' g2 g4' hf ho
      · have:=(hR.low b (hxo b _ q' z' g2 g4' hf)).1;omega
    · rw [c6W hl1'] at g1
      rw [c6R hm1] at g2
      have e2:ν'[m]?=some z':=by rw [<- hν1'];exact K4 hm1 g4
      have g3':ν[rs.length+(l-rs'.length)]?=some z:=by rw [show rs.length+(l-rs'.length)=l by omega];exact g3
      intro hf
      rcases h2.own b ⟨m,q',z',g2,e2,hf⟩ with ho|ho
      · exact hx b _ q z g1 g3' g5 ho
      · have:=(hR.low b (hxo b _ q z g1 g3' g5)).1;omega
    · rw [c6W hl1'] at g1
      rw [c6W hm1] at g2
      exact hR.dis l m q q' z z' b hne (by rw [c6W (by omega),<- hl];exact g1) (by rw [c6W (by omega),<- hl];exact g2) g3 g4 g5
  · rcases (hown' b).1 hb with hb|⟨k,r,x,g1,g2,g3⟩
    · obtain ⟨a1,a2,a3⟩:=h1.low b hb
      exact ⟨a1,fun ha=>a2 ⟨.inl ha,hnav b ha⟩,a3⟩
    · obtain ⟨a1,a2,a3⟩:=hR.low b (hxo b k r x g1 g2 g3)
      exact ⟨c7f a1 h2.size,a2,a3⟩
end Go.Proofs.YtpffebkbmcbmgaaGreatDoor.Eng
